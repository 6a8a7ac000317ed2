/- strings.IndexAny at the two signs that end a value. -/
import Derived.Test.YtjmpcoedfoaebaaGreatDoorUnesc
import Derived.Laws.Runes
open Go Go.RowKit
namespace Go.Proofs.YtjmpcoedfoaebaaGreatDoor

theorem enc_size (r : Nat) (h1 : 128 ≤ r) (h2 : r ≤ 1114111) (h3 : r < 55296 ∨ 57343 < r) :
    (r < 2048 → ∃ a b : UInt8, Utf8.encode (r : Int) = ⟨#[a, b]⟩ ∧ 128 ≤ b.toNat) ∧ (2048 ≤ r → 3 ≤ (Utf8.encode (r : Int)).size ∧ (Utf8.encode (r : Int)).size ≤ 4) := by
  have hv : Utf8.valid (r : Int) = true := by
    unfold Utf8.valid
    simp
    omega
  have hc : (r : Int).toNat = r := Int.toNat_natCast r
  unfold Utf8.encode
  simp only [hv, if_true, hc]
  rw [if_neg (by omega)]
  constructor
  · intro h
    rw [if_pos h]
    exact ⟨_, _, rfl, by simp; omega⟩
  · intro h
    rw [if_neg (by omega)]
    split
    · exact ⟨by show 3 ≤ 3; omega, by show 3 ≤ 4; omega⟩
    · exact ⟨by show 3 ≤ 4; omega, by show 4 ≤ 4; omega⟩

set_option maxHeartbeats 400000 in
set_option maxRecDepth 1000000 in
theorem idxRune_long (r : Nat) (E : ByteArray) (w : World) (h1 : 128 ≤ r) (h4 : r ≠ 65533) (hvt : Lib.validRune (r : Int) = true) (hs1 : 3 ≤ E.size) (hs2 : E.size ≤ 4)
    (hconv : ∀ W, (convert 21 9 (.int .i32 (r : Int))).run Tryz.prog W = .ok (.string E) W) :
    Calls Tryz.prog 128 #[.string ⟨#[42, 41]⟩, .int .i32 r] w fun e w' => e = .returned (.int .i64 (-1)) ∧ Below w.heap.size w w' := by
  have g1 : ¬ (r : Int) < 128 := by omega
  have g2 : ((r : Int) == 65533) = false := by rw [beq_eq_false_iff_ne]; omega
  have hv := fun W => Tryz.utf8_ValidRune (r : Int) W
  rw [hvt] at hv
  have HV := Lib.hid hv
  clear hv hvt h1 h4
  go_enter Tryz.func128, Tryz.ntmps128
  go_wp2_with (go_at_call 149; refine (HV.out _).mono ?_; rintro e w' ⟨rfl, rfl⟩)
  go_step3
  go_wp2_with fail
  refine wp_loop_rounds 1 ?_
  rw [rounds_succ]
  go_wp2_with fail
  rw [Exit.noGoto_ret]
  go_ret
  exact ⟨rfl, Below.refl _ _⟩
theorem idx_none (b : UInt8) (w : World) : Calls Tryz.prog 49 #[.string ByteArray.empty, .int .u8 b.toNat] w fun e w' => e = .returned (.int .i64 (-1)) ∧ w' = w := by
  have h := Tryz.strings_IndexByte ⟨#[]⟩ (b.toNat : Int) w
  have e : Lib.indexByte (⟨#[]⟩ : ByteArray).data.toList ((b.toNat : Int).toNat.toUInt8) = -1 := rfl
  rw [e] at h
  exact h
set_option maxHeartbeats 400000 in
set_option maxRecDepth 1000000 in
theorem idxRune_two (r : Nat) (a b : UInt8) (w : World) (h1 : 128 ≤ r) (h4 : r ≠ 65533) (hvt : Lib.validRune (r : Int) = true) (hb : 128 ≤ b.toNat)
    (hconv : ∀ W, (convert 21 9 (.int .i32 (r : Int))).run Tryz.prog W = .ok (.string ⟨#[a, b]⟩) W) :
    Calls Tryz.prog 128 #[.string ⟨#[42, 41]⟩, .int .i32 r] w fun e w' => e = .returned (.int .i64 (-1)) ∧ Below w.heap.size w w' := by
  have g1 : ¬ (r : Int) < 128 := by omega
  have g2 : ((r : Int) == 65533) = false := by rw [beq_eq_false_iff_ne]; omega
  have hv := fun W => Tryz.utf8_ValidRune (r : Int) W
  rw [hvt] at hv
  have HV := Lib.hid hv
  have hne0 : (41 != (b.toNat : Int)) = true := by rw [bne_iff_ne]; omega
  have hne : ((((⟨#[42, 41]⟩ : ByteArray)[1]'(by decide)).toNat : Int) != (((⟨#[a, b]⟩ : ByteArray)[1]'(by show 1 < 2; omega)).toNat : Int)) = true := hne0
  have HI := Lib.hid (idx_none b)
  have hw2 : IntKind.i64.wrap 2 = 2 := by decide
  clear hv hvt h1 h4 hb hne0
  go_enter Tryz.func128, Tryz.ntmps128
  go_wp2_with (go_at_call 149; refine (HV.out _).mono ?_; rintro e w' ⟨rfl, rfl⟩)
  go_step3
  go_wp2_with fail
  refine wp_loop_rounds 1 ?_
  rw [rounds_succ]
  go_wp2_with fail
  go_step3
  go_wp2_with fail
  go_quiet (fail)
  go_wp2_with fail
  obtain ⟨W2, hW2⟩ : ∃ W2, W2 = w'.drewN nq := ⟨_, rfl⟩
  rw [← hW2]
  have HW := Lib.hid hW2
  clear hW2
  go_quiet ((exact Calls.quiet_of_same (HI.out _)))
  go_wp2_with fail
  rw [Exit.noGoto_ret]
  simp only [Exit.inBlock, Exit.then]
  rw [Exit.noGoto_ret]
  go_ret
  rw [HW.out]
  exact ⟨rfl, below_drewN (below_drewN (Below.refl _ _) _) _⟩

set_option maxHeartbeats 400000 in
set_option maxRecDepth 1000000 in
theorem idxRune_bad (w : World) :
    Calls Tryz.prog 128 #[.string ⟨#[42, 41]⟩, .int .i32 65533] w fun e w' => e = .returned (.int .i64 (-1)) ∧ Below w.heap.size w w' := by
  have n0 : ∀ ty, (Instr.next (.pointer (some ⟨w.heap.size, 0, none⟩)) true ty).run Tryz.prog (w.iter ⟨#[42, 41]⟩ 0) = .ok (.tuple #[.bool true, .int .i64 0, .int .i32 42]) (w.iter ⟨#[42, 41]⟩ 1) := fun ty => run_next_ascii w ⟨#[42, 41]⟩ 0 ty (by decide) (by decide)
  have n1 : ∀ ty, (Instr.next (.pointer (some ⟨w.heap.size, 0, none⟩)) true ty).run Tryz.prog (w.iter ⟨#[42, 41]⟩ 1) = .ok (.tuple #[.bool true, .int .i64 1, .int .i32 41]) (w.iter ⟨#[42, 41]⟩ 2) := fun ty => run_next_ascii w ⟨#[42, 41]⟩ 1 ty (by decide) (by decide)
  have n2 : ∀ ty, (Instr.next (.pointer (some ⟨w.heap.size, 0, none⟩)) true ty).run Tryz.prog (w.iter ⟨#[42, 41]⟩ 2) = .ok (.tuple #[.bool false]) (w.iter ⟨#[42, 41]⟩ 2) := fun ty => run_next_end w ⟨#[42, 41]⟩ 2 ty (by decide)
  go_enter Tryz.func128, Tryz.ntmps128
  go_wp2_with fail
  refine wp_loop_rounds 3 ?_
  rw [rounds_succ]
  go_wp2_with fail
  rw [rounds_succ]
  go_wp2_with fail
  rw [rounds_succ]
  go_wp2_with fail
  go_ret
  exact ⟨rfl, (Below.refl _ _).alloc (Nat.le_refl _) _⟩
end Go.Proofs.YtjmpcoedfoaebaaGreatDoor
