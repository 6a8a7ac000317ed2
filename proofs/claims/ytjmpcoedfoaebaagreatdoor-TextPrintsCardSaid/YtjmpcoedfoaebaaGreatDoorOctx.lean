/- octet: digits, kind. octet: kind. octet, plain: two digits behind strings.ToLower; what a character's first byte and rune tell. -/
import Derived.Test.YtjmpcoedfoaebaaGreatDoorOct
import Derived.Test.YtjmpcoedfoaebaaGreatDoorShelf
open Go Go.RowKit
namespace Go.Proofs.YtjmpcoedfoaebaaGreatDoor

/-- The place of a digit among the small ones; -1: it is none. -/
def hexI (c : UInt8) : Int := if 48 ≤ c.toNat ∧ c.toNat ≤ 57 then (c.toNat : Int) - 48 else if 97 ≤ c.toNat ∧ c.toNat ≤ 102 then (c.toNat : Int) - 87 else -1
theorem hexI_eq (c : UInt8) : Lib.indexByte [48, 49, 50, 51, 52, 53, 54, 55, 56, 57, 97, 98, 99, 100, 101, 102] (c.toNat : Int).toNat.toUInt8 = hexI c :=
  byte_all (p := fun n => Lib.indexByte [48, 49, 50, 51, 52, 53, 54, 55, 56, 57, 97, 98, 99, 100, 101, 102] (n : Int).toNat.toUInt8 = if 48 ≤ n ∧ n ≤ 57 then (n : Int) - 48 else if 97 ≤ n ∧ n ≤ 102 then (n : Int) - 87 else -1) (by decide +kernel) c
theorem idx_hex (c : UInt8) (w : World) : Calls Tryz.prog 49 #[.string ⟨#[48, 49, 50, 51, 52, 53, 54, 55, 56, 57, 97, 98, 99, 100, 101, 102]⟩, .int .u8 c.toNat] w fun e w' => e = .returned (.int .i64 (hexI c)) ∧ w' = w := by
  have h := Tryz.strings_IndexByte ⟨#[48, 49, 50, 51, 52, 53, 54, 55, 56, 57, 97, 98, 99, 100, 101, 102]⟩ c.toNat w
  rw [hexI_eq] at h
  exact h

/-- What two digits say: the sum of bits that octet.digits makes. -/
theorem dig_sum (a b : Int) (h1 : 0 ≤ a) (h2 : a ≤ 15) (h3 : 0 ≤ b) (h4 : b ≤ 15) :
    bits BinOp.or IntKind.i64 (a * 16) (bits BinOp.and IntKind.i64 b 15) % 256 = 16 * a + b := by
  obtain ⟨n, rfl⟩ := Int.eq_ofNat_of_zero_le h1
  obtain ⟨m, rfl⟩ := Int.eq_ofNat_of_zero_le h3
  have h : ∀ n m : Fin 16, bits BinOp.or IntKind.i64 ((n.val : Int) * 16) (bits BinOp.and IntKind.i64 (m.val : Int) 15) % 256 = 16 * (n.val : Int) + m.val := by decide +kernel
  exact h ⟨n, by omega⟩ ⟨m, by omega⟩
def twoOk (s : ByteArray) : Bool := decide (2 ≤ s.size) && (decide (0 ≤ hexI (peekB s 0)) && decide (0 ≤ hexI (peekB s 1)))
def Digs (s : ByteArray) (w : World) (e : Ending) (w' : World) : Prop :=
  ∃ v : Int, e = .returned (.tuple #[.int .u8 v, .bool (twoOk s)]) ∧ (twoOk s = true → v = 16 * hexI (peekB s 0) + hexI (peekB s 1)) ∧ ∃ n, w' = w.drewN n
theorem hexI_bd (c : UInt8) : -1 ≤ hexI c ∧ hexI c ≤ 15 := by unfold hexI; repeat' split <;> omega

theorem Digs.mk {s : ByteArray} {w : World} {v : Int} {ok : Bool} {n : Nat} (h1 : ok = twoOk s) (h2 : twoOk s = true → v = 16 * hexI (peekB s 0) + hexI (peekB s 1)) : Digs s w (.returned (.tuple #[.int .u8 v, .bool ok])) (w.drewN n) := ⟨v, by rw [h1], h2, n, rfl⟩
theorem Digs.mk0 {s : ByteArray} {w : World} (h1 : twoOk s = false) : Digs s w (.returned (.tuple #[.int .u8 0, .bool false])) w := by
  refine ⟨0, by rw [h1], fun h => ?_, 0, rfl⟩
  rw [h1] at h
  cases h
theorem digits_any (s : ByteArray) (w : World) : Calls Tryz.prog 133 #[.string s] w (Digs s w) := by
  by_cases h2 : 2 ≤ s.size
  · have p0 : peekB s 0 = s[0] := peekB_in (by omega)
    have p1 : peekB s 1 = s[1] := peekB_in (by omega)
    have hlt : ¬ s.size < 2 := by omega
    have b0 := hexI_bd s[0]
    have b1 := hexI_bd s[1]
    have P0 := Lib.hid p0
    have P1 := Lib.hid p1
    have hx : (0 : Int) < s.size := by omega
    have hy : (1 : Int) < s.size := by omega
    have hx' : 0 < s.size := by omega
    have hy' : 1 < s.size := by omega
    obtain ⟨b0, b0'⟩ := b0
    obtain ⟨b1, b1'⟩ := b1
    clear p0 p1
    go_enter Tryz.func133, Tryz.ntmps133
    go_wp2
    go_quiet ((exact Calls.quiet_of_same (idx_hex _ _)))
    go_wp2
    all_goals go_ret2
    · have h0 : (0 : Int) ≤ hexI s[0] := by assumption
      refine Digs.mk ?_ ?_
      · unfold twoOk
        rw [P0.out, P1.out, decide_eq_true h2, decide_eq_true h0]
        rfl
      · unfold twoOk
        rw [P0.out, P1.out, decide_eq_true h2, decide_eq_true h0]
        intro h
        exact dig_sum _ _ h0 b0' (by simpa using h) b1'
    · have h0 : ¬ (0 : Int) ≤ hexI s[0] := by omega
      refine Digs.mk ?_ ?_
      · unfold twoOk
        rw [P0.out, P1.out, decide_eq_true h2, decide_eq_false h0]
        rfl
      · unfold twoOk
        rw [P0.out, P1.out, decide_eq_true h2, decide_eq_false h0]
        intro h
        cases h
  · have hlt : s.size < 2 := by omega
    go_enter Tryz.func133, Tryz.ntmps133
    go_wp2
    go_ret2
    refine Digs.mk0 ?_
    unfold twoOk
    rw [decide_eq_false h2]
    rfl
end Go.Proofs.YtjmpcoedfoaebaaGreatDoor

open Go Go.RowKit
namespace Go.Proofs.YtjmpcoedfoaebaaGreatDoor

def Kinded (k : Int) (w : World) (e : Ending) (w' : World) : Prop := e = .returned (.int .i64 k) ∧ w = w'

theorem ext_data (s : ByteArray) (i : Nat) : (s.extract i s.size).data.toList = s.data.toList.drop i := by
  simp [ByteArray.data_extract]
  exact List.take_of_length_le (by simp)

set_option maxHeartbeats 1000000 in
theorem kind_alone (s : ByteArray) (i : Nat) (w : World) (hi : i < s.size) (hp : Lib.hasPrefix (s.data.toList.drop i) [239, 191, 189] = false) :
    Calls Tryz.prog 85 #[.string s, .int .i64 i, .int .i32 65533] w (Kinded 0 w) := by
  have h := fun W => Tryz.strings_HasPrefix (s.extract i s.size) ⟨#[239, 191, 189]⟩ W
  rw [ext_data] at h
  simp only [] at h
  rw [hp] at h
  have H := Lib.hid h
  clear h hp
  have hi' : (i : Int) < s.size := by omega
  go_enter Tryz.func85, Tryz.ntmps85
  go_wp2_with (go_at_call 111; refine (H.out _).mono ?_; rintro e w' ⟨rfl, rfl⟩)
  go_ret
  exact ⟨rfl, rfl⟩
set_option maxRecDepth 100000 in
set_option maxHeartbeats 1000000 in
theorem kind_repl (s : ByteArray) (i : Nat) (w : World) (hi : i < s.size) (hp : Lib.hasPrefix (s.data.toList.drop i) [239, 191, 189] = true) :
    Calls Tryz.prog 85 #[.string s, .int .i64 i, .int .i32 65533] w (Kinded 2 w) := by
  have h := fun W => Tryz.strings_HasPrefix (s.extract i s.size) ⟨#[239, 191, 189]⟩ W
  rw [ext_data] at h
  simp only [] at h
  rw [hp] at h
  have H := Lib.hid h
  clear h hp
  have hi' : (i : Int) < s.size := by omega
  have i0 : ∀ W, (Instr.index 150 (.agg #[.int .i32 0, .int .i32 40, .int .i32 41, .int .i32 42, .int .i32 92]) (.int .i64 0)).run Tryz.prog W = .ok (.int .i32 0) W := fun _ => by kernel_rfl
  have i1 : ∀ W, (Instr.index 150 (.agg #[.int .i32 0, .int .i32 40, .int .i32 41, .int .i32 42, .int .i32 92]) (.int .i64 1)).run Tryz.prog W = .ok (.int .i32 40) W := fun _ => by kernel_rfl
  have i2 : ∀ W, (Instr.index 150 (.agg #[.int .i32 0, .int .i32 40, .int .i32 41, .int .i32 42, .int .i32 92]) (.int .i64 2)).run Tryz.prog W = .ok (.int .i32 41) W := fun _ => by kernel_rfl
  have i3 : ∀ W, (Instr.index 150 (.agg #[.int .i32 0, .int .i32 40, .int .i32 41, .int .i32 42, .int .i32 92]) (.int .i64 3)).run Tryz.prog W = .ok (.int .i32 42) W := fun _ => by kernel_rfl
  have i4 : ∀ W, (Instr.index 150 (.agg #[.int .i32 0, .int .i32 40, .int .i32 41, .int .i32 42, .int .i32 92]) (.int .i64 4)).run Tryz.prog W = .ok (.int .i32 92) W := fun _ => by kernel_rfl
  go_enter Tryz.func85, Tryz.ntmps85
  go_wp2_with (go_at_call 111; refine (H.out _).mono ?_; rintro e w' ⟨rfl, rfl⟩)
  refine wp_loop_rounds 6 ?_
  rw [rounds_succ]
  go_wp2
  rw [rounds_succ]
  go_wp2
  rw [rounds_succ]
  go_wp2
  rw [rounds_succ]
  go_wp2
  rw [rounds_succ]
  go_wp2
  rw [rounds_succ]
  go_wp2
  go_ret
  exact ⟨rfl, rfl⟩
set_option maxRecDepth 100000 in
set_option maxHeartbeats 1000000 in
theorem kind_fine (s : ByteArray) (i : Nat) (d : Nat) (w : World) (hd : d ≠ 65533) (h0 : d ≠ 0) (h1 : d ≠ 40) (h2 : d ≠ 41) (h3 : d ≠ 42) (h4 : d ≠ 92) :
    Calls Tryz.prog 85 #[.string s, .int .i64 i, .int .i32 d] w (Kinded 2 w) := by
  have i0 : ∀ W, (Instr.index 150 (.agg #[.int .i32 0, .int .i32 40, .int .i32 41, .int .i32 42, .int .i32 92]) (.int .i64 0)).run Tryz.prog W = .ok (.int .i32 0) W := fun _ => by kernel_rfl
  have i1 : ∀ W, (Instr.index 150 (.agg #[.int .i32 0, .int .i32 40, .int .i32 41, .int .i32 42, .int .i32 92]) (.int .i64 1)).run Tryz.prog W = .ok (.int .i32 40) W := fun _ => by kernel_rfl
  have i2 : ∀ W, (Instr.index 150 (.agg #[.int .i32 0, .int .i32 40, .int .i32 41, .int .i32 42, .int .i32 92]) (.int .i64 2)).run Tryz.prog W = .ok (.int .i32 41) W := fun _ => by kernel_rfl
  have i3 : ∀ W, (Instr.index 150 (.agg #[.int .i32 0, .int .i32 40, .int .i32 41, .int .i32 42, .int .i32 92]) (.int .i64 3)).run Tryz.prog W = .ok (.int .i32 42) W := fun _ => by kernel_rfl
  have i4 : ∀ W, (Instr.index 150 (.agg #[.int .i32 0, .int .i32 40, .int .i32 41, .int .i32 42, .int .i32 92]) (.int .i64 4)).run Tryz.prog W = .ok (.int .i32 92) W := fun _ => by kernel_rfl
  have gd : ((d : Int) == 65533) = false := by rw [beq_eq_false_iff_ne]; omega
  have g0 : ((d : Int) == 0) = false := by rw [beq_eq_false_iff_ne]; omega
  have g1 : ((d : Int) == 40) = false := by rw [beq_eq_false_iff_ne]; omega
  have g2 : ((d : Int) == 41) = false := by rw [beq_eq_false_iff_ne]; omega
  have g3 : ((d : Int) == 42) = false := by rw [beq_eq_false_iff_ne]; omega
  have g4 : ((d : Int) == 92) = false := by rw [beq_eq_false_iff_ne]; omega
  clear hd h0 h1 h2 h3 h4
  go_enter Tryz.func85, Tryz.ntmps85
  go_wp2
  refine wp_loop_rounds 6 ?_
  rw [rounds_succ]
  go_wp2
  rw [rounds_succ]
  go_wp2
  rw [rounds_succ]
  go_wp2
  rw [rounds_succ]
  go_wp2
  rw [rounds_succ]
  go_wp2
  rw [rounds_succ]
  go_wp2
  go_ret
  exact ⟨rfl, rfl⟩
set_option maxRecDepth 100000 in
set_option maxHeartbeats 1000000 in
theorem kind_s0 (s : ByteArray) (i : Nat) (w : World) : Calls Tryz.prog 85 #[.string s, .int .i64 i, .int .i32 0] w (Kinded 1 w) := by
  have i0 : ∀ W, (Instr.index 150 (.agg #[.int .i32 0, .int .i32 40, .int .i32 41, .int .i32 42, .int .i32 92]) (.int .i64 0)).run Tryz.prog W = .ok (.int .i32 0) W := fun _ => by kernel_rfl
  have i1 : ∀ W, (Instr.index 150 (.agg #[.int .i32 0, .int .i32 40, .int .i32 41, .int .i32 42, .int .i32 92]) (.int .i64 1)).run Tryz.prog W = .ok (.int .i32 40) W := fun _ => by kernel_rfl
  have i2 : ∀ W, (Instr.index 150 (.agg #[.int .i32 0, .int .i32 40, .int .i32 41, .int .i32 42, .int .i32 92]) (.int .i64 2)).run Tryz.prog W = .ok (.int .i32 41) W := fun _ => by kernel_rfl
  have i3 : ∀ W, (Instr.index 150 (.agg #[.int .i32 0, .int .i32 40, .int .i32 41, .int .i32 42, .int .i32 92]) (.int .i64 3)).run Tryz.prog W = .ok (.int .i32 42) W := fun _ => by kernel_rfl
  have i4 : ∀ W, (Instr.index 150 (.agg #[.int .i32 0, .int .i32 40, .int .i32 41, .int .i32 42, .int .i32 92]) (.int .i64 4)).run Tryz.prog W = .ok (.int .i32 92) W := fun _ => by kernel_rfl
  go_enter Tryz.func85, Tryz.ntmps85
  go_wp2
  refine wp_loop_rounds 1 ?_
  rw [rounds_succ]
  go_wp2
  go_ret
  exact ⟨rfl, rfl⟩
set_option maxRecDepth 100000 in
set_option maxHeartbeats 1000000 in
theorem kind_s40 (s : ByteArray) (i : Nat) (w : World) : Calls Tryz.prog 85 #[.string s, .int .i64 i, .int .i32 40] w (Kinded 1 w) := by
  have i0 : ∀ W, (Instr.index 150 (.agg #[.int .i32 0, .int .i32 40, .int .i32 41, .int .i32 42, .int .i32 92]) (.int .i64 0)).run Tryz.prog W = .ok (.int .i32 0) W := fun _ => by kernel_rfl
  have i1 : ∀ W, (Instr.index 150 (.agg #[.int .i32 0, .int .i32 40, .int .i32 41, .int .i32 42, .int .i32 92]) (.int .i64 1)).run Tryz.prog W = .ok (.int .i32 40) W := fun _ => by kernel_rfl
  have i2 : ∀ W, (Instr.index 150 (.agg #[.int .i32 0, .int .i32 40, .int .i32 41, .int .i32 42, .int .i32 92]) (.int .i64 2)).run Tryz.prog W = .ok (.int .i32 41) W := fun _ => by kernel_rfl
  have i3 : ∀ W, (Instr.index 150 (.agg #[.int .i32 0, .int .i32 40, .int .i32 41, .int .i32 42, .int .i32 92]) (.int .i64 3)).run Tryz.prog W = .ok (.int .i32 42) W := fun _ => by kernel_rfl
  have i4 : ∀ W, (Instr.index 150 (.agg #[.int .i32 0, .int .i32 40, .int .i32 41, .int .i32 42, .int .i32 92]) (.int .i64 4)).run Tryz.prog W = .ok (.int .i32 92) W := fun _ => by kernel_rfl
  go_enter Tryz.func85, Tryz.ntmps85
  go_wp2
  refine wp_loop_rounds 2 ?_
  rw [rounds_succ]
  go_wp2
  rw [rounds_succ]
  go_wp2
  go_ret
  exact ⟨rfl, rfl⟩
set_option maxRecDepth 100000 in
set_option maxHeartbeats 1000000 in
theorem kind_s41 (s : ByteArray) (i : Nat) (w : World) : Calls Tryz.prog 85 #[.string s, .int .i64 i, .int .i32 41] w (Kinded 1 w) := by
  have i0 : ∀ W, (Instr.index 150 (.agg #[.int .i32 0, .int .i32 40, .int .i32 41, .int .i32 42, .int .i32 92]) (.int .i64 0)).run Tryz.prog W = .ok (.int .i32 0) W := fun _ => by kernel_rfl
  have i1 : ∀ W, (Instr.index 150 (.agg #[.int .i32 0, .int .i32 40, .int .i32 41, .int .i32 42, .int .i32 92]) (.int .i64 1)).run Tryz.prog W = .ok (.int .i32 40) W := fun _ => by kernel_rfl
  have i2 : ∀ W, (Instr.index 150 (.agg #[.int .i32 0, .int .i32 40, .int .i32 41, .int .i32 42, .int .i32 92]) (.int .i64 2)).run Tryz.prog W = .ok (.int .i32 41) W := fun _ => by kernel_rfl
  have i3 : ∀ W, (Instr.index 150 (.agg #[.int .i32 0, .int .i32 40, .int .i32 41, .int .i32 42, .int .i32 92]) (.int .i64 3)).run Tryz.prog W = .ok (.int .i32 42) W := fun _ => by kernel_rfl
  have i4 : ∀ W, (Instr.index 150 (.agg #[.int .i32 0, .int .i32 40, .int .i32 41, .int .i32 42, .int .i32 92]) (.int .i64 4)).run Tryz.prog W = .ok (.int .i32 92) W := fun _ => by kernel_rfl
  go_enter Tryz.func85, Tryz.ntmps85
  go_wp2
  refine wp_loop_rounds 3 ?_
  rw [rounds_succ]
  go_wp2
  rw [rounds_succ]
  go_wp2
  rw [rounds_succ]
  go_wp2
  go_ret
  exact ⟨rfl, rfl⟩
set_option maxRecDepth 100000 in
set_option maxHeartbeats 1000000 in
theorem kind_s42 (s : ByteArray) (i : Nat) (w : World) : Calls Tryz.prog 85 #[.string s, .int .i64 i, .int .i32 42] w (Kinded 1 w) := by
  have i0 : ∀ W, (Instr.index 150 (.agg #[.int .i32 0, .int .i32 40, .int .i32 41, .int .i32 42, .int .i32 92]) (.int .i64 0)).run Tryz.prog W = .ok (.int .i32 0) W := fun _ => by kernel_rfl
  have i1 : ∀ W, (Instr.index 150 (.agg #[.int .i32 0, .int .i32 40, .int .i32 41, .int .i32 42, .int .i32 92]) (.int .i64 1)).run Tryz.prog W = .ok (.int .i32 40) W := fun _ => by kernel_rfl
  have i2 : ∀ W, (Instr.index 150 (.agg #[.int .i32 0, .int .i32 40, .int .i32 41, .int .i32 42, .int .i32 92]) (.int .i64 2)).run Tryz.prog W = .ok (.int .i32 41) W := fun _ => by kernel_rfl
  have i3 : ∀ W, (Instr.index 150 (.agg #[.int .i32 0, .int .i32 40, .int .i32 41, .int .i32 42, .int .i32 92]) (.int .i64 3)).run Tryz.prog W = .ok (.int .i32 42) W := fun _ => by kernel_rfl
  have i4 : ∀ W, (Instr.index 150 (.agg #[.int .i32 0, .int .i32 40, .int .i32 41, .int .i32 42, .int .i32 92]) (.int .i64 4)).run Tryz.prog W = .ok (.int .i32 92) W := fun _ => by kernel_rfl
  go_enter Tryz.func85, Tryz.ntmps85
  go_wp2
  refine wp_loop_rounds 4 ?_
  rw [rounds_succ]
  go_wp2
  rw [rounds_succ]
  go_wp2
  rw [rounds_succ]
  go_wp2
  rw [rounds_succ]
  go_wp2
  go_ret
  exact ⟨rfl, rfl⟩
set_option maxRecDepth 100000 in
set_option maxHeartbeats 1000000 in
theorem kind_s92 (s : ByteArray) (i : Nat) (w : World) : Calls Tryz.prog 85 #[.string s, .int .i64 i, .int .i32 92] w (Kinded 1 w) := by
  have i0 : ∀ W, (Instr.index 150 (.agg #[.int .i32 0, .int .i32 40, .int .i32 41, .int .i32 42, .int .i32 92]) (.int .i64 0)).run Tryz.prog W = .ok (.int .i32 0) W := fun _ => by kernel_rfl
  have i1 : ∀ W, (Instr.index 150 (.agg #[.int .i32 0, .int .i32 40, .int .i32 41, .int .i32 42, .int .i32 92]) (.int .i64 1)).run Tryz.prog W = .ok (.int .i32 40) W := fun _ => by kernel_rfl
  have i2 : ∀ W, (Instr.index 150 (.agg #[.int .i32 0, .int .i32 40, .int .i32 41, .int .i32 42, .int .i32 92]) (.int .i64 2)).run Tryz.prog W = .ok (.int .i32 41) W := fun _ => by kernel_rfl
  have i3 : ∀ W, (Instr.index 150 (.agg #[.int .i32 0, .int .i32 40, .int .i32 41, .int .i32 42, .int .i32 92]) (.int .i64 3)).run Tryz.prog W = .ok (.int .i32 42) W := fun _ => by kernel_rfl
  have i4 : ∀ W, (Instr.index 150 (.agg #[.int .i32 0, .int .i32 40, .int .i32 41, .int .i32 42, .int .i32 92]) (.int .i64 4)).run Tryz.prog W = .ok (.int .i32 92) W := fun _ => by kernel_rfl
  go_enter Tryz.func85, Tryz.ntmps85
  go_wp2
  refine wp_loop_rounds 5 ?_
  rw [rounds_succ]
  go_wp2
  rw [rounds_succ]
  go_wp2
  rw [rounds_succ]
  go_wp2
  rw [rounds_succ]
  go_wp2
  rw [rounds_succ]
  go_wp2
  go_ret
  exact ⟨rfl, rfl⟩

/-- What the character at a place is. -/
def kindP (l : List UInt8) : Int := if firstP l = 0 then 0 else if bareB (l.getD 0 0) = true then 1 else 2
end Go.Proofs.YtjmpcoedfoaebaaGreatDoor

open Go Go.RowKit
namespace Go.Proofs.YtjmpcoedfoaebaaGreatDoor

theorem enc_head (x : Int) (hx : 127 < x ∨ x < 0) : ∃ c t, Lib.encodeRune x = c :: t ∧ 192 ≤ c.toNat := by
  unfold Lib.encodeRune Lib.encodeRuneZ
  rw [if_neg (by omega)]
  have key : ∀ n : Nat, n < 256 → ((n : Nat).toUInt8).toNat = n := fun n h => by simp; omega
  split
  · refine ⟨_, _, rfl, ?_⟩
    rw [key _ (by omega)]; omega
  · split
    · refine ⟨_, _, rfl, ?_⟩
      rw [key _ (by omega)]; omega
    · split
      · refine ⟨_, _, rfl, ?_⟩
        rw [key _ (by omega)]; omega
      · exact ⟨_, _, rfl, by decide⟩
theorem enc_one (x : Int) (h0 : 0 ≤ x) (h1 : x ≤ 127) : Lib.encodeRune x = [x.toNat.toUInt8] := by
  unfold Lib.encodeRune Lib.encodeRuneZ
  rw [if_pos ⟨h0, h1⟩]
  rfl
theorem low_bad : Lib.toLowerU 65533 = 65533 := by decide +kernel

theorem hexI_high {c : UInt8} (h : 128 ≤ c.toNat) : hexI c = -1 := by
  unfold hexI; rw [if_neg (by omega), if_neg (by omega)]
theorem peek0 (c : UInt8) (t : List UInt8) : peekB ⟨(c :: t).toArray⟩ 0 = c := by
  rw [peekB_in (by show 0 < (c :: t).length; simp)]; rfl
theorem peek1 (c d : UInt8) (t : List UInt8) : peekB ⟨(c :: d :: t).toArray⟩ 1 = d := by
  rw [peekB_in (by show 1 < (c :: d :: t).length; simp)]; rfl
theorem twoOk_short {t : List UInt8} (h : t.length < 2) : twoOk ⟨t.toArray⟩ = false := by
  unfold twoOk
  rw [decide_eq_false (by show ¬ 2 ≤ t.length; omega)]; rfl
theorem twoOk_head {c : UInt8} {t : List UInt8} (h : 128 ≤ c.toNat) : twoOk ⟨(c :: t).toArray⟩ = false := by
  unfold twoOk
  rw [peek0, hexI_high h]; simp
theorem twoOk_second {c d : UInt8} {t : List UInt8} (h : 128 ≤ d.toNat) : twoOk ⟨(c :: d :: t).toArray⟩ = false := by
  unfold twoOk
  rw [peek1, hexI_high h]; simp
theorem hex_low (a : UInt8) (ha : a.toNat < 128) : (hexV a).isSome = decide (0 ≤ hexI ((Lib.toLowerU (a.toNat : Int)).toNat.toUInt8)) ∧ ∀ x, hexV a = some x → hexI ((Lib.toLowerU (a.toNat : Int)).toNat.toUInt8) = x := by
  have hU : Lib.toLowerU (a.toNat : Int) = if 65 ≤ (a.toNat : Int) ∧ (a.toNat : Int) ≤ 90 then (a.toNat : Int) + 32 else (a.toNat : Int) := by
    unfold Lib.toLowerU; rw [if_pos (by omega)]
  have h := byte_all (p := fun n => ∀ x : Fin 16, (((if 48 ≤ n ∧ n ≤ 57 then some (n - 48) else if 97 ≤ n ∧ n ≤ 102 then some (n - 87) else if 65 ≤ n ∧ n ≤ 70 then some (n - 55) else none) : Option Nat).isSome = decide (0 ≤ hexI ((if 65 ≤ (n : Int) ∧ (n : Int) ≤ 90 then (n : Int) + 32 else (n : Int)).toNat.toUInt8))) ∧ (((if 48 ≤ n ∧ n ≤ 57 then some (n - 48) else if 97 ≤ n ∧ n ≤ 102 then some (n - 87) else if 65 ≤ n ∧ n ≤ 70 then some (n - 55) else none) : Option Nat) = some x.val → hexI ((if 65 ≤ (n : Int) ∧ (n : Int) ≤ 90 then (n : Int) + 32 else (n : Int)).toNat.toUInt8) = x.val)) (by decide +kernel) a
  rw [hU]
  refine ⟨(h 0).1, fun x hx => ?_⟩
  have hl := (hexV_lt hx).1
  exact (h ⟨x, hl⟩).2 hx
theorem low_ascii (a : UInt8) (t : List UInt8) (ha : a.toNat < 128) : Lib.toLowerD (a :: t) = (Lib.toLowerU (a.toNat : Int)).toNat.toUInt8 :: Lib.toLowerD t := by
  have hU : 0 ≤ Lib.toLowerU (a.toNat : Int) ∧ Lib.toLowerU (a.toNat : Int) ≤ 127 := by
    unfold Lib.toLowerU; rw [if_pos (by omega)]; split <;> omega
  have hd : Lib.decodeL (a :: t) = (a.toNat, 1) := by
    have h1 := firstP_ascii a t ha
    have h2 := firstP_pos (l := a :: t) (by simp) (by omega)
    have h3 : Lib.encodeRune ((Lib.decodeL (a :: t)).1 : Int) = [a] := by rw [h2.2.2.2.2, h1]; rfl
    rw [Lib.decodeL_N]
    show Lib.decodeN _ a.toNat _ _ _ = _
    unfold Lib.decodeN
    rw [if_pos ha]
  unfold Lib.toLowerD
  rw [Lib.mapD_step _ _ (by simp), hd]
  dsimp only
  rw [if_pos hU.1, enc_one _ hU.1 hU.2]
  rfl
theorem low_head_high (a : UInt8) (t : List UInt8) (ha : 128 ≤ a.toNat) : (∃ c r, Lib.toLowerD (a :: t) = c :: r ∧ 192 ≤ c.toNat) ∨ Lib.toLowerD (a :: t) = Lib.toLowerD (t.drop ((Lib.decodeL (a :: t)).2 - 1)) ∨ (2 ≤ (Lib.decodeL (a :: t)).2 ∧ ∃ c, Lib.toLowerD (a :: t) = c :: Lib.toLowerD (t.drop ((Lib.decodeL (a :: t)).2 - 1))) := by
  have hw := Lib.decodeL_width (a :: t)
  have hdrop : (a :: t).drop (Lib.decodeL (a :: t)).2 = t.drop ((Lib.decodeL (a :: t)).2 - 1) := by
    obtain ⟨k, hk⟩ : ∃ k, (Lib.decodeL (a :: t)).2 = k + 1 := ⟨(Lib.decodeL (a :: t)).2 - 1, by omega⟩
    rw [hk]; rfl
  unfold Lib.toLowerD
  rw [Lib.mapD_step _ _ (by simp), hdrop]
  by_cases h0 : 0 ≤ Lib.toLowerU ((Lib.decodeL (a :: t)).1 : Int)
  · rw [if_pos h0]
    by_cases h1 : Lib.toLowerU ((Lib.decodeL (a :: t)).1 : Int) ≤ 127
    · rw [enc_one _ h0 h1]
      refine .inr (.inr ⟨?_, _, rfl⟩)
      by_cases h2 : 2 ≤ (Lib.decodeL (a :: t)).2
      · exact h2
      · exfalso
        have hz : firstP (a :: t) = 0 := by
          by_cases hz : firstP (a :: t) = 0
          · exact hz
          · exfalso
            obtain ⟨e1, _, _, _, e5⟩ := firstP_pos (l := a :: t) (by simp) hz
            have hone : firstP (a :: t) = 1 := by omega
            rw [hone] at e5
            by_cases hr : (Lib.decodeL (a :: t)).1 ≤ 127
            · rw [enc_one _ (by omega) (by omega)] at e5
              have e6 : ((Lib.decodeL (a :: t)).1 : Int).toNat.toUInt8 = a := by
                simpa using e5
              have h7 := congrArg UInt8.toNat e6
              simp at h7
              omega
            · unfold Lib.encodeRune at e5
              have := congrArg List.length e5
              simp only [List.length_map, List.length_take, List.length_cons] at this
              unfold Lib.encodeRuneZ at this
              rw [if_neg (by omega)] at this
              split at this
              · simp at this
              · split at this
                · simp at this
                · split at this
                  · simp at this
                  · simp at this
        rw [(firstP_zero (by simp)).1 hz] at h1
        have : Lib.toLowerU ((65533 : Nat) : Int) = 65533 := low_bad
        rw [this] at h1
        omega
    · obtain ⟨c, r, hc, h⟩ := enc_head _ (.inl (by omega : 127 < Lib.toLowerU ((Lib.decodeL (a :: t)).1 : Int)))
      rw [hc]
      exact .inl ⟨c, _, rfl, h⟩
  · rw [if_neg h0]
    exact .inr (.inl rfl)

theorem one_low (a : UInt8) : twoOk ⟨(Lib.toLowerD [a]).toArray⟩ = false := by
  have hnil : Lib.toLowerD [] = [] := rfl
  by_cases ha : a.toNat < 128
  · rw [low_ascii a [] ha, hnil, twoOk_short (by simp)]
  · rcases low_head_high a [] (by omega) with ⟨c, r, h, hc⟩ | h | ⟨_, c, h⟩
    · rw [h, twoOk_head (by omega)]
    · rw [h]; simp only [List.drop_nil]; rw [hnil, twoOk_short (by simp)]
    · rw [h]; simp only [List.drop_nil]; rw [hnil, twoOk_short (by simp)]
/-- Two digits (or fewer) behind strings.ToLower: what octet.digits finds. -/
theorem two_low (l : List UInt8) (hl : l.length ≤ 2) :
    twoOk ⟨(Lib.toLowerD l).toArray⟩ = (pairV l).isSome ∧ ∀ v, pairV l = some v → 16 * hexI (peekB ⟨(Lib.toLowerD l).toArray⟩ 0) + hexI (peekB ⟨(Lib.toLowerD l).toArray⟩ 1) = v.toNat := by
  have hnil : Lib.toLowerD [] = [] := rfl
  match l, hl with
  | [], _ => exact ⟨by rw [hnil, twoOk_short (by simp)]; rfl, fun v h => by cases h⟩
  | [a], _ =>
    refine ⟨?_, fun v h => by cases h⟩
    show _ = false
    exact one_low a
  | [a, b], _ =>
    by_cases ha : a.toNat < 128
    · by_cases hb : b.toNat < 128
      · rw [low_ascii a [b] ha, low_ascii b [] hb, hnil]
        have ha' := hex_low a ha
        have hb' := hex_low b hb
        have e1 : ∀ c d : UInt8, twoOk ⟨[c, d].toArray⟩ = (decide (0 ≤ hexI c) && decide (0 ≤ hexI d)) := fun c d => by
          unfold twoOk
          rw [peek0, peek1, decide_eq_true (by show 2 ≤ [c, d].length; simp)]; rfl
        rw [e1, peek0, peek1]
        constructor
        · unfold pairV
          dsimp only
          rw [← ha'.1, ← hb'.1]
          cases hexV a <;> cases hexV b <;> rfl
        · intro v hv
          unfold pairV at hv
          dsimp only at hv
          cases h1 : hexV a with
          | none => rw [h1] at hv; cases hv
          | some x =>
            cases h2 : hexV b with
            | none => rw [h1, h2] at hv; cases hv
            | some y =>
              rw [h1, h2] at hv
              cases hv
              rw [ha'.2 x h1, hb'.2 y h2]
              have := (hexV_lt h1).1
              have := (hexV_lt h2).1
              simp
              omega
      · have hp : pairV [a, b] = none := by
          unfold pairV
          dsimp only
          cases h2 : hexV b with
          | none => cases hexV a <;> rfl
          | some y => exact absurd (hexV_lt h2).2 hb
        rw [hp]
        refine ⟨?_, fun v h => by cases h⟩
        rw [low_ascii a [b] ha]
        show _ = false
        rcases low_head_high b [] (by omega) with ⟨c, r, h, hc⟩ | h | ⟨h2, c, h⟩
        · rw [h, twoOk_second (by omega)]
        · rw [h]; simp only [List.drop_nil]; rw [hnil, twoOk_short (by simp)]
        · have hd := Lib.decodeL_le [b] (by simp)
          simp at hd
          omega
    · have hp : pairV [a, b] = none := by
        unfold pairV
        dsimp only
        cases h2 : hexV a with
        | none => rfl
        | some y => exact absurd (hexV_lt h2).2 ha
      rw [hp]
      refine ⟨?_, fun v h => by cases h⟩
      show _ = false
      rcases low_head_high a [b] (by omega) with ⟨c, r, h, hc⟩ | h | ⟨h2, c, h⟩
      · rw [h, twoOk_head (by omega)]
      · rw [h]
        cases (Lib.decodeL [a, b]).2 - 1 with
        | zero => exact one_low b
        | succ k => rw [show [b].drop (k + 1) = [] from by simp, hnil, twoOk_short (by simp)]
      · rw [h]
        have : (Lib.decodeL [a, b]).2 = 2 := by
          have := Lib.decodeL_le [a, b] (by simp)
          simp at this
          omega
        rw [this]
        simp only [Nat.add_one_sub_one, List.drop_one, List.tail_cons]
        rw [hnil, twoOk_short (by simp)]
end Go.Proofs.YtjmpcoedfoaebaaGreatDoor
