/- strings.IndexAny at the two signs that end a value. strings.IndexAny at the signs that end a value. -/
import Derived.Test.YtjmpcoedfoaebaaGreatDoorUnesc
import Derived.Laws.Runes
open Go Go.RowKit
namespace Go.Proofs.YtjmpcoedfoaebaaGreatDoor

theorem enc_size (r : Nat) (h1 : 128 ≤ r) (h2 : r ≤ 1114111) (h3 : r < 55296 ∨ 57343 < r) :
    (r < 2048 → ∃ a b : UInt8, Utf8.encode (r : Int) = ⟨#[a, b]⟩ ∧ 128 ≤ b.toNat) ∧ (2048 ≤ r → 3 ≤ (Utf8.encode (r : Int)).size ∧ (Utf8.encode (r : Int)).size ≤ 4) := by
  have hv : Utf8.valid (r : Int) = true := by
    unfold Utf8.valid
    simp
    omega
  have hc : (r : Int).toNat = r := Int.toNat_natCast r
  unfold Utf8.encode
  simp only [hv, if_true, hc]
  rw [if_neg (by omega)]
  constructor
  · intro h
    rw [if_pos h]
    exact ⟨_, _, rfl, by simp; omega⟩
  · intro h
    rw [if_neg (by omega)]
    split
    · exact ⟨by show 3 ≤ 3; omega, by show 3 ≤ 4; omega⟩
    · exact ⟨by show 3 ≤ 4; omega, by show 4 ≤ 4; omega⟩

set_option maxHeartbeats 400000 in
set_option maxRecDepth 1000000 in
theorem idxRune_long (r : Nat) (E : ByteArray) (w : World) (h1 : 128 ≤ r) (h4 : r ≠ 65533) (hvt : Lib.validRune (r : Int) = true) (hs1 : 3 ≤ E.size) (hs2 : E.size ≤ 4)
    (hconv : ∀ W, (convert 21 9 (.int .i32 (r : Int))).run Tryz.prog W = .ok (.string E) W) :
    Calls Tryz.prog 128 #[.string ⟨#[42, 41]⟩, .int .i32 r] w fun e w' => e = .returned (.int .i64 (-1)) ∧ Below w.heap.size w w' := by
  have g1 : ¬ (r : Int) < 128 := by omega
  have g2 : ((r : Int) == 65533) = false := by rw [beq_eq_false_iff_ne]; omega
  have hv := fun W => Tryz.utf8_ValidRune (r : Int) W
  rw [hvt] at hv
  have HV := Lib.hid hv
  clear hv hvt h1 h4
  go_enter Tryz.func128, Tryz.ntmps128
  go_wp2_with (go_at_call 149; refine (HV.out _).mono ?_; rintro e w' ⟨rfl, rfl⟩)
  go_step3
  go_wp2_with fail
  refine wp_loop_rounds 1 ?_
  rw [rounds_succ]
  go_wp2_with fail
  rw [Exit.noGoto_ret]
  go_ret
  exact ⟨rfl, Below.refl _ _⟩
theorem idx_none (b : UInt8) (w : World) : Calls Tryz.prog 49 #[.string ByteArray.empty, .int .u8 b.toNat] w fun e w' => e = .returned (.int .i64 (-1)) ∧ w' = w := by
  have h := Tryz.strings_IndexByte ⟨#[]⟩ (b.toNat : Int) w
  have e : Lib.indexByte (⟨#[]⟩ : ByteArray).data.toList ((b.toNat : Int).toNat.toUInt8) = -1 := rfl
  rw [e] at h
  exact h
set_option maxHeartbeats 400000 in
set_option maxRecDepth 1000000 in
theorem idxRune_two (r : Nat) (a b : UInt8) (w : World) (h1 : 128 ≤ r) (h4 : r ≠ 65533) (hvt : Lib.validRune (r : Int) = true) (hb : 128 ≤ b.toNat)
    (hconv : ∀ W, (convert 21 9 (.int .i32 (r : Int))).run Tryz.prog W = .ok (.string ⟨#[a, b]⟩) W) :
    Calls Tryz.prog 128 #[.string ⟨#[42, 41]⟩, .int .i32 r] w fun e w' => e = .returned (.int .i64 (-1)) ∧ Below w.heap.size w w' := by
  have g1 : ¬ (r : Int) < 128 := by omega
  have g2 : ((r : Int) == 65533) = false := by rw [beq_eq_false_iff_ne]; omega
  have hv := fun W => Tryz.utf8_ValidRune (r : Int) W
  rw [hvt] at hv
  have HV := Lib.hid hv
  have hne0 : (41 != (b.toNat : Int)) = true := by rw [bne_iff_ne]; omega
  have hne : ((((⟨#[42, 41]⟩ : ByteArray)[1]'(by decide)).toNat : Int) != (((⟨#[a, b]⟩ : ByteArray)[1]'(by show 1 < 2; omega)).toNat : Int)) = true := hne0
  have HI := Lib.hid (idx_none b)
  have hw2 : IntKind.i64.wrap 2 = 2 := by decide
  clear hv hvt h1 h4 hb hne0
  go_enter Tryz.func128, Tryz.ntmps128
  go_wp2_with (go_at_call 149; refine (HV.out _).mono ?_; rintro e w' ⟨rfl, rfl⟩)
  go_step3
  go_wp2_with fail
  refine wp_loop_rounds 1 ?_
  rw [rounds_succ]
  go_wp2_with fail
  go_step3
  go_wp2_with fail
  go_quiet (fail)
  go_wp2_with fail
  obtain ⟨W2, hW2⟩ : ∃ W2, W2 = w'.drewN nq := ⟨_, rfl⟩
  rw [← hW2]
  have HW := Lib.hid hW2
  clear hW2
  go_quiet ((exact Calls.quiet_of_same (HI.out _)))
  go_wp2_with fail
  rw [Exit.noGoto_ret]
  simp only [Exit.inBlock, Exit.then]
  rw [Exit.noGoto_ret]
  go_ret
  rw [HW.out]
  exact ⟨rfl, below_drewN (below_drewN (Below.refl _ _) _) _⟩

set_option maxHeartbeats 400000 in
set_option maxRecDepth 1000000 in
theorem idxRune_bad (w : World) :
    Calls Tryz.prog 128 #[.string ⟨#[42, 41]⟩, .int .i32 65533] w fun e w' => e = .returned (.int .i64 (-1)) ∧ Below w.heap.size w w' := by
  have n0 : ∀ ty, (Instr.next (.pointer (some ⟨w.heap.size, 0, none⟩)) true ty).run Tryz.prog (w.iter ⟨#[42, 41]⟩ 0) = .ok (.tuple #[.bool true, .int .i64 0, .int .i32 42]) (w.iter ⟨#[42, 41]⟩ 1) := fun ty => run_next_ascii w ⟨#[42, 41]⟩ 0 ty (by decide) (by decide)
  have n1 : ∀ ty, (Instr.next (.pointer (some ⟨w.heap.size, 0, none⟩)) true ty).run Tryz.prog (w.iter ⟨#[42, 41]⟩ 1) = .ok (.tuple #[.bool true, .int .i64 1, .int .i32 41]) (w.iter ⟨#[42, 41]⟩ 2) := fun ty => run_next_ascii w ⟨#[42, 41]⟩ 1 ty (by decide) (by decide)
  have n2 : ∀ ty, (Instr.next (.pointer (some ⟨w.heap.size, 0, none⟩)) true ty).run Tryz.prog (w.iter ⟨#[42, 41]⟩ 2) = .ok (.tuple #[.bool false]) (w.iter ⟨#[42, 41]⟩ 2) := fun ty => run_next_end w ⟨#[42, 41]⟩ 2 ty (by decide)
  go_enter Tryz.func128, Tryz.ntmps128
  go_wp2_with fail
  refine wp_loop_rounds 3 ?_
  rw [rounds_succ]
  go_wp2_with fail
  rw [rounds_succ]
  go_wp2_with fail
  rw [rounds_succ]
  go_wp2_with fail
  go_ret
  exact ⟨rfl, (Below.refl _ _).alloc (Nat.le_refl _) _⟩
end Go.Proofs.YtjmpcoedfoaebaaGreatDoor

open Go Go.RowKit
namespace Go.Proofs.YtjmpcoedfoaebaaGreatDoor

theorem decode_bytes (s : ByteArray) (pos : Nat) (hp : pos < s.size) :
    ((Utf8.decode s pos).1 < 128 → (Utf8.decode s pos).2 = 1 ∧ s[pos].toNat = (Utf8.decode s pos).1) ∧
    (128 ≤ (Utf8.decode s pos).1 → pos + (Utf8.decode s pos).2 ≤ s.size ∧ ∀ j (h : j < s.size), pos ≤ j → j < pos + (Utf8.decode s pos).2 → 128 ≤ s[j].toNat) := by
  have hl := drop_at s pos hp
  have hdl : Utf8.decode s pos = Lib.decodeL (s[pos] :: s.data.toList.drop (pos + 1)) := by rw [← hl, Lib.decodeL_drop]
  constructor
  · intro h
    rw [hdl] at h ⊢
    have h1 := decode_small h
    rw [decodeL_ascii' _ _ (by omega)]
    exact ⟨rfl, rfl⟩
  · intro h
    have hat : ∀ j (h : j < s.size), pos ≤ j → s[j] = (s[pos] :: s.data.toList.drop (pos + 1)).getD (j - pos) 0 := by
      intro j h hj
      rw [← hl, List.getD_eq_getElem?_getD, List.getElem?_drop, show pos + (j - pos) = j from by omega]
      rw [List.getElem?_eq_getElem (by simpa using h)]
      rfl
    have hlen : (s[pos] :: s.data.toList.drop (pos + 1)).length = s.size - pos := by rw [← hl]; simp
    have hle := Lib.decodeL_le (s[pos] :: s.data.toList.drop (pos + 1)) (by simp)
    rw [hlen, ← hdl] at hle
    refine ⟨by omega, fun j hj h1 h2 => ?_⟩
    rw [hat j hj h1]
    rw [hdl] at h h2
    generalize hL : s[pos] :: s.data.toList.drop (pos + 1) = L at *
    rw [Lib.decodeL_N] at h h2
    have k0 := (L.getD 0 0).toNat_lt
    rcases Lib.decodeN_shape L.length (L.getD 0 0).toNat (L.getD 1 0).toNat (L.getD 2 0).toNat (L.getD 3 0).toNat with ⟨_, e⟩ | ⟨a, _, c, _, e⟩ | ⟨a, _, c, d, _, _, e⟩ | ⟨a, _, c, d, f, _, _, e⟩ | e
    · rw [e] at h; dsimp only at h; omega
    · rw [e] at h2; dsimp only at h2
      rcases (by omega : j - pos = 0 ∨ j - pos = 1) with q | q <;> rw [q] <;> omega
    · rw [e] at h2; dsimp only at h2
      rcases (by omega : j - pos = 0 ∨ j - pos = 1 ∨ j - pos = 2) with q | q | q <;> rw [q] <;> omega
    · rw [e] at h2; dsimp only at h2
      rcases (by omega : j - pos = 0 ∨ j - pos = 1 ∨ j - pos = 2 ∨ j - pos = 3) with q | q | q | q <;> rw [q] <;> omega
    · rw [e] at h2; dsimp only at h2
      rw [show j - pos = 0 from by omega]
      rcases Nat.lt_or_ge (L.getD 0 0).toNat 128 with hlt | hge
      · exfalso
        unfold Lib.decodeN at e
        rw [if_pos hlt] at e
        have := congrArg Prod.fst e
        dsimp only at this
        omega
      · exact hge

/-- What IndexRune among the two signs answers at a character. -/
theorem idxRune_any (s : ByteArray) (pos : Nat) (w : World) :
    Calls Tryz.prog 128 #[.string ⟨#[42, 41]⟩, .int .i32 (Utf8.decode s pos).1] w fun e w' => e = .returned (.int .i64 (if (Utf8.decode s pos).1 = 42 then 0 else if (Utf8.decode s pos).1 = 41 then 1 else -1)) ∧ Below w.heap.size w w' := by
  have hv : Lib.validRune ((Utf8.decode s pos).1 : Int) = true := by
    have hv : (Utf8.decode s pos).1 < 55296 ∨ (57343 < (Utf8.decode s pos).1 ∧ (Utf8.decode s pos).1 ≤ 1114111) := by
      have b0 := (s.get! pos).toNat_lt
      rcases Lib.decodeN_shape (s.size - pos) (s.get! pos).toNat (s.get! (pos + 1)).toNat (s.get! (pos + 2)).toNat (s.get! (pos + 3)).toNat with ⟨h, e⟩ | ⟨a, _, _, _, e⟩ | ⟨a, _, _, _, _, _, e⟩ | ⟨a, _, _, _, _, _, _, e⟩ | e <;> rw [← Lib.decode_at] at e <;> rw [e] <;> dsimp only <;> omega
    unfold Lib.validRune
    simp
    omega
  have hle := Lib.rune_le s pos
  by_cases h1 : (Utf8.decode s pos).1 < 128
  · refine (Tryz.strings_IndexRune_ascii _ _ w (by omega) (by omega)).mono ?_
    rintro e w' ⟨rfl, rfl⟩
    refine ⟨ret_int ?_, Below.refl _ _⟩
    generalize (Utf8.decode s pos).1 = d at h1
    have h : ∀ d : Fin 128, Lib.indexByte [42, 41] ((d.val : Int).toNat.toUInt8) = if d.val = 42 then 0 else if d.val = 41 then 1 else -1 := by decide
    exact h ⟨d, h1⟩
  · rw [if_neg (by omega), if_neg (by omega)]
    by_cases h2 : (Utf8.decode s pos).1 = 65533
    · rw [h2]; exact idxRune_bad w
    · have hvr : (Utf8.decode s pos).1 < 55296 ∨ 57343 < (Utf8.decode s pos).1 := by
        unfold Lib.validRune at hv
        simp at hv
        omega
      have hc : ∀ W, (convert 21 9 (.int .i32 ((Utf8.decode s pos).1 : Int))).run Tryz.prog W = .ok (.string (Utf8.encode ((Utf8.decode s pos).1 : Int))) W := fun W =>
        run_convert_int_string W _ _ _ _ (by rw [Tryz.underlying21]; rfl) Tryz.underlying9
      obtain ⟨e1, e2⟩ := enc_size (Utf8.decode s pos).1 (by omega) hle hvr
      by_cases h3 : (Utf8.decode s pos).1 < 2048
      · obtain ⟨a, b, he, hb⟩ := e1 h3
        rw [he] at hc
        exact idxRune_two _ a b w (by omega) h2 hv hb hc
      · obtain ⟨hs1, hs2⟩ := e2 (by omega)
        exact idxRune_long _ _ w (by omega) h2 hv hs1 hs2 hc

def ShRel (s : ByteArray) (w : World) (k : Nat) (wr : World) : Prop :=
  ∃ pos, k = s.size + 1 - pos ∧ pos ≤ s.size ∧ Lib.NoAny s.data.toList [42, 41] pos ∧ wr.heap[w.heap.size]? = some (.stringIter s pos) ∧ Below w.heap.size w wr

set_option maxHeartbeats 400000 in
set_option maxRecDepth 1000000 in
theorem idxAny_short (s : ByteArray) (w : World) (h8 : s.size ≤ 8) :
    Calls Tryz.prog 109 #[.string s, .string ⟨#[42, 41]⟩] w fun e w' => e = .returned (.int .i64 (Lib.indexAny s.data.toList [42, 41])) ∧ Below w.heap.size w w' := by
  have hsh := fun W => Tryz.strings_shouldUseASCIISet (s.size : Int) W
  rw [decide_eq_false (by omega)] at hsh
  have HSH := Lib.hid hsh
  clear hsh
  go_enter Tryz.func109, Tryz.ntmps109
  go_wp2_with (go_at_call 129; refine (HSH.out _).mono ?_; rintro e w' ⟨rfl, rfl⟩)
  go_loopg [] (s.size + 1) (fun k wr => ShRel s w' k wr)
  case atStart => exact ⟨0, rfl, Nat.zero_le _, Lib.NoAny.zero _ _, World.iter_heap _ _ _, (Below.refl _ _).alloc (Nat.le_refl _) _⟩
  case round =>
    obtain ⟨pos, hk, hpos, hna, hit, hbw⟩ := hrel
    have hsz : w'.heap.size < wr.heap.size := (Array.getElem?_eq_some_iff.1 hit).1
    by_cases hp : pos < s.size
    · have hnx : ∀ ty, (Instr.next (.pointer (some ⟨w'.heap.size, 0, none⟩)) true ty).run Tryz.prog wr = _ := fun ty => Lib.run_next_any_at wr w'.heap.size s pos ty hit hp
      have hit2 := Lib.iterAt_heap wr w'.heap.size s pos (pos + (Utf8.decode s pos).2) hit
      have hbw2 := Lib.below_iterAt hbw (k := w'.heap.size) (Nat.le_refl _) s (pos + (Utf8.decode s pos).2)
      have hsz2 : w'.heap.size < (wr.iterAt w'.heap.size s (pos + (Utf8.decode s pos).2)).heap.size := by rw [Lib.iterAt_size]; exact hsz
      obtain ⟨d1, d2⟩ := decode_bytes s pos hp
      have hsp : s.data.toList[pos]? = some s[pos] := by rw [List.getElem?_eq_getElem (by simpa using hp)]; rfl
      have HR := Lib.hid (idxRune_any s pos)
      by_cases hin : (Utf8.decode s pos).1 = 42 ∨ (Utf8.decode s pos).1 = 41
      · have hby := (d1 (by omega)).2
        have hres : Lib.indexAny s.data.toList [42, 41] = pos := by
          refine Lib.indexAny_hit hna hsp ?_
          rcases hin with h | h
          · rw [UInt8.toNat_inj.1 (show s[pos].toNat = (42 : UInt8).toNat from by rw [hby, h]; rfl)]; rfl
          · rw [UInt8.toNat_inj.1 (show s[pos].toNat = (41 : UInt8).toNat from by rw [hby, h]; rfl)]; rfl
        have H0 : Hid (∃ v : Int, 0 ≤ v ∧ ∀ W, Calls Tryz.prog 128 #[.string ⟨#[42, 41]⟩, .int .i32 (Utf8.decode s pos).1] W fun e w' => e = .returned (.int .i64 v) ∧ Below W.heap.size W w') := by
          rcases hin with h | h
          · exact ⟨0, by omega, fun W => by have := HR.out W; rw [if_pos h] at this; exact this⟩
          · exact ⟨1, by omega, fun W => by have := HR.out W; rw [if_neg (by omega), if_pos h] at this; exact this⟩
        obtain ⟨v, hv, hc⟩ := H0.out
        have HC := Lib.hid hc
        have HRES := Lib.hid hres
        clear hc hres hin hby d1 d2 hsp H0
        go_wp2_with (go_at_call 128; refine (HC.out _).mono ?_; rintro e W1 ⟨rfl, b1⟩)
        go_ret
        exact ⟨by rw [HRES.out]; rfl, hbw2.trans (b1.mono (Nat.le_of_lt hsz2))⟩
      · have hc := HR.out
        rw [if_neg (by omega), if_neg (by omega)] at hc
        have HC := Lib.hid hc
        have hw1 := Lib.width_pos s pos
        have hnext : pos + (Utf8.decode s pos).2 ≤ s.size ∧ Lib.NoAny s.data.toList [42, 41] (pos + (Utf8.decode s pos).2) := by
          by_cases h128 : (Utf8.decode s pos).1 < 128
          · obtain ⟨e1, e2⟩ := d1 h128
            rw [e1]
            refine ⟨by omega, hna.succ hsp ?_⟩
            have a1 : (s[pos] == (42 : UInt8)) = false := by rw [beq_eq_false_iff_ne]; intro h; rw [h] at e2; exact hin (.inl e2.symm)
            have a2 : (s[pos] == (41 : UInt8)) = false := by rw [beq_eq_false_iff_ne]; intro h; rw [h] at e2; exact hin (.inr e2.symm)
            simp only [List.contains, List.elem, a1, a2]
          · obtain ⟨e1, e2⟩ := d2 (by omega)
            refine ⟨e1, fun j b hj hb => ?_⟩
            by_cases hjp : j < pos
            · exact hna j b hjp hb
            · have hjs : j < s.size := by omega
              have h3 := e2 j hjs (by omega) hj
              rw [List.getElem?_eq_getElem (by simpa using hjs)] at hb
              have hbe : s[j] = b := Option.some.inj hb
              rw [hbe] at h3
              have a1 : (b == (42 : UInt8)) = false := by rw [beq_eq_false_iff_ne]; intro h; rw [h] at h3; simp at h3
              have a2 : (b == (41 : UInt8)) = false := by rw [beq_eq_false_iff_ne]; intro h; rw [h] at h3; simp at h3
              simp only [List.contains, List.elem, a1, a2]
        obtain ⟨hn1, hn2⟩ := hnext
        clear hc hin d1 d2 hsp HR
        go_wp2_with (go_at_call 128; refine (HC.out _).mono ?_; rintro e W1 ⟨rfl, b1⟩)
        go_roundg (s.size + 1 - (pos + (Utf8.decode s pos).2))
        case measure => omega
        case rel => exact ⟨pos + (Utf8.decode s pos).2, rfl, hn1, hn2, (b1.block _ hsz2).trans hit2, hbw2.trans (b1.mono (Nat.le_of_lt hsz2))⟩
    · have hnx : ∀ ty, (Instr.next (.pointer (some ⟨w'.heap.size, 0, none⟩)) true ty).run Tryz.prog wr = _ := fun ty => Lib.run_next_end_at wr w'.heap.size s pos ty hit hp
      have hres : Lib.indexAny s.data.toList [42, 41] = -1 := by
        refine Lib.indexAny_none ?_
        have : s.data.toList.length = pos := by
          have h : s.data.toList.length = s.size := by simp
          omega
        rw [this]; exact hna
      have HRES := Lib.hid hres
      clear hres
      go_wp2
      go_ret
      exact ⟨by rw [HRES.out]; rfl, hbw⟩

theorem zero_set (w : World) : (zeroValue 162).run Tryz.prog w = .ok (.agg (Array.replicate 256 (.bool false))) w := by kernel_rfl
theorem ascii_two : ∀ (j : Nat) (b : UInt8), (⟨#[42, 41]⟩ : ByteArray).data.toList[j]? = some b → b.toNat < 128 := by
  intro j b h
  rcases j with _ | _ | j
  · cases h; decide
  · cases h; decide
  · cases h
theorem ascii_one : ∀ (j : Nat) (b : UInt8), (⟨#[41]⟩ : ByteArray).data.toList[j]? = some b → b.toNat < 128 := by
  intro j b h
  rcases j with _ | j
  · cases h; decide
  · cases h
theorem idxAny_two (s : ByteArray) (w : World) (hs : s.size < 4294967281) :
    Calls Tryz.prog 109 #[.string s, .string ⟨#[42, 41]⟩] w fun e w' => e = .returned (.int .i64 (Lib.indexAny s.data.toList [42, 41])) ∧ Below w.heap.size w w' := by
  by_cases h8 : s.size ≤ 8
  · exact idxAny_short s w h8
  · refine (Tryz.strings_IndexAny_long zero_set s ⟨#[42, 41]⟩ w (by decide) (by omega) hs (by decide) ascii_two).mono ?_
    rintro e w' ⟨rfl, rfl⟩
    exact ⟨rfl, ((Below.refl _ _).alloc (Nat.le_refl _) _).alloc (by simp) _⟩
theorem idxAny_one (s : ByteArray) (w : World) :
    Calls Tryz.prog 109 #[.string s, .string ⟨#[41]⟩] w fun e w' => e = .returned (.int .i64 (Lib.indexAny s.data.toList [41])) ∧ Below w.heap.size w w' := by
  refine (Tryz.strings_IndexAny_one s ⟨#[41]⟩ w (by decide) ascii_one).mono ?_
  rintro e w' ⟨rfl, rfl⟩
  exact ⟨rfl, Below.refl _ _⟩
/-- A byte at which a value ends. -/
def endB (star : Bool) (c : UInt8) : Bool := c == 41 || (star && c == 42)
def endsOf (star : Bool) : ByteArray := if star then ⟨#[42, 41]⟩ else ⟨#[41]⟩
theorem idx_run (star : Bool) (s : ByteArray) : Lib.indexAny s.data.toList (endsOf star).data.toList = if runP s (fun c => !endB star c) 0 < s.size then (runP s (fun c => !endB star c) 0 : Int) else -1 := by
  have hg : ∀ l : List UInt8, Lib.indexAny l (endsOf star).data.toList = if (l.takeWhile fun c => !endB star c).length < l.length then ((l.takeWhile fun c => !endB star c).length : Int) else -1 := by
    intro l
    induction l with
    | nil => rfl
    | cons b l ih =>
      have hb : (endsOf star).data.toList.contains b = endB star b := by
        unfold endsOf endB
        cases star <;> simp only [List.contains, List.elem, Bool.false_eq_true, if_true, if_false] <;> cases b == 42 <;> cases b == 41 <;> rfl
      unfold Lib.indexAny
      rw [hb]
      cases h : endB star b
      · rw [List.takeWhile_cons_of_pos (by simp [h]), ih]
        simp only [Bool.false_eq_true, if_false, List.length_cons]
        generalize (l.takeWhile fun c => !endB star c).length = n at *
        by_cases h1 : n < l.length
        · have e1 : (if n < l.length then (n : Int) else -1) = n := if_pos h1
          have e2 : (if n + 1 < l.length + 1 then ((n + 1 : Nat) : Int) else -1) = ((n + 1 : Nat) : Int) := if_pos (by omega)
          have e3 : ((n : Int) == -1) = false := by rw [beq_eq_false_iff_ne]; omega
          rw [e1, e2, e3]
          simp
        · have e1 : (if n < l.length then (n : Int) else -1) = -1 := if_neg h1
          have e2 : (if n + 1 < l.length + 1 then ((n + 1 : Nat) : Int) else -1) = -1 := if_neg (by omega)
          rw [e1, e2]
          rfl
      · rw [List.takeWhile_cons_of_neg (by simp [h])]
        simp
  rw [hg]
  unfold runP
  have : s.data.toList.length = s.size := by simp
  rw [this, List.drop_zero, Nat.zero_add]
theorem idxAny_any (star : Bool) (s : ByteArray) (w : World) (hs : s.size < 4294967281) :
    Calls Tryz.prog 109 #[.string s, .string (endsOf star)] w fun e w' => e = .returned (.int .i64 (if runP s (fun c => !endB star c) 0 < s.size then (runP s (fun c => !endB star c) 0 : Int) else -1)) ∧ Below w.heap.size w w' := by
  rw [← idx_run]
  cases star
  · exact idxAny_one s w
  · exact idxAny_two s w hs
end Go.Proofs.YtjmpcoedfoaebaaGreatDoor
