/- The reference's reader: filter, out of item and kids. -/
import Derived.Test.YtjmpcoedfoaebaaGreatDoorRpm
import Derived.Test.YtjmpcoedfoaebaaGreatDoorRpn
import Derived.Test.YtjmpcoedfoaebaaGreatDoorFltc
import Derived.Deep.DeepCutAuto
open Go Go.RowKit
namespace Go.Proofs.YtjmpcoedfoaebaaGreatDoor

theorem take_next {s : ByteArray} {i j : Nat} {c : UInt8} (h : takeP s i c = .ok j) : nextB s i c = true := by
  rw [next_take] at h
  cases hx : nextB s i c with
  | true => rfl
  | false => rw [hx] at h; cases h
theorem take_no {s : ByteArray} {i : Nat} {c : UInt8} {f : Int × Nat} (h : takeP s i c = .error f) : nextB s i c = false ∧ f = stuckF s i := by
  rw [next_take] at h
  cases hx : nextB s i c with
  | true => rw [hx] at h; cases h
  | false => rw [hx] at h; cases h; exact ⟨rfl, rfl⟩
theorem closeP_e {s : ByteArray} {g : Flt} {j q : Nat} {f : Int × Nat} (h : takeP s j 41 = .error f) : closeP s (.ok (g, j, q)) = .error f := by
  simp only [closeP, h]
theorem closeP_k {s : ByteArray} {g : Flt} {j q k : Nat} (h : takeP s j 41 = .ok k) : closeP s (.ok (g, j, q)) = .ok (g, k, q) := by
  simp only [closeP, h]
theorem ItSt.parts {w W : World} {b : Nat} {s d : ByteArray} {i p : Nat} (h : ItSt w b s d i p W) (hb : b < w.heap.size) (j : Nat) : ItSt w b s d i j (W.setCell ⟨b, 2, none⟩ (.int .i64 j)) :=
  ⟨h.R.setParts j, (setCell_ne _ (show w.heap.size ≠ b by omega)).trans h.F, (setCell_ne _ (show w.heap.size + 1 ≠ b by omega)).trans h.G, h.K.setCell _ _ (.inl (by simp))⟩
theorem FRetX.mkErr {b : Nat} {s : ByteArray} {w w2 : World} {f : Int × Nat} {k : Int} {a1 a2 : Option Addr} {n1 c1 n2 c2 : Nat} {d v st fi ru : ByteArray} {dn : Bool} {cs : List Value} (hE : RxF w2 b s f) (hK : Keep [b] w w2) (hb : b < w.heap.size) :
    FRetX b s w (.error f) (.returned (.tuple #[.agg #[.int .i8 k, .slice a1 n1 c1, .string d, .string v, .string st, .slice a2 n2 c2, .string fi, .string ru, .bool dn], .bool false])) (w2.setCells w.heap.size 0 cs) := by
  have hKr : Keep [w.heap.size] w2 (w2.setCells w.heap.size 0 cs) := setCells_keep (.inl (by simp)) _ 0 w2 (Keep.refl _ _)
  exact ⟨_, ⟨_, _, _, _, _, _, _, _, _, _, _, _, _, rfl⟩, rfl, hE.keep1 hKr (by simp; omega), hK.transTo hKr (by simp)⟩
theorem FRetX.mkOk {b : Nat} {s : ByteArray} {w w2 : World} {g : Flt} {j q lo hi : Nat} {kv mv : Value} {cs : List Value} (hG : FltR w2 lo hi g (nineOf kv mv g.it)) (hlo : w.heap.size < lo) (hhi : hi ≤ w2.heap.size) (hR : Rx w2 b s j q) (hK : Keep [b] w w2) (hb : b < w.heap.size) :
    FRetX b s w (.ok (g, j, q)) (.returned (.tuple #[.agg (nineOf kv mv g.it).toArray, .bool true])) (w2.setCells w.heap.size 0 cs) := by
  have hKr : Keep [w.heap.size] w2 (w2.setCells w.heap.size 0 cs) := setCells_keep (.inl (by simp)) _ 0 w2 (Keep.refl _ _)
  exact ⟨kv, mv, rfl, (hG.keep hKr (by simp; omega)).mono (by omega) (Nat.le_trans hhi hKr.size), hR.keep hKr (by simp; omega), hK.transTo hKr (by simp)⟩

set_option maxRecDepth 100000 in
set_option maxHeartbeats 2000000 in
theorem xfilter_shut (b i p : Nat) (d : Int) (s : ByteArray) (f : Int × Nat) (w : World) (hs : s.size ≤ 1048576) (hR : Rx w b s i p) (ht : takeP s i 40 = .error f) :
    Calls Tryz.prog 26 #[.pointer (some ⟨b, 0, none⟩), .int .i64 d] w (FRetX b s w (.error f)) := by
  have hsm : s.size ≤ maxLen := by unfold maxLen; omega
  have hbw := hR.lt
  have hS0 := ItSt.start hR
  unfold TwoF at hS0
  have HS0 := Lib.hid hS0
  have HX := Lib.hid (fun W h => xnext_any b i p 40 s W h)
  obtain ⟨hx, rfl⟩ := take_no ht
  rw [hx] at HX
  clear hR hx hS0 ht
  go_enter Tryz.func26, Tryz.ntmps26
  go_wp2_with (go_at_call 41; refine (HX.out _ (by exact HS0.out.R)).mono ?_; rintro e w' ⟨rfl, n, rfl⟩; have HS1 := Lib.hid (HS0.out.drewN n))
  obtain ⟨W1, hW1⟩ : ∃ W1, W1 = ((w.alloc (.cells #[.int .i8 0, .slice none 0 0, .string ⟨#[]⟩, .string ⟨#[]⟩, .string ⟨#[]⟩, .slice none 0 0, .string ⟨#[]⟩, .string ⟨#[]⟩, .bool false] 26)).alloc (.cells #[.int .i8 0, .slice none 0 0, .string ⟨#[]⟩, .string ⟨#[]⟩, .string ⟨#[]⟩, .slice none 0 0, .string ⟨#[]⟩, .string ⟨#[]⟩, .bool false] 26)).drewN n := ⟨_, rfl⟩
  rw [← hW1] at HS1 ⊢
  clear hW1 HS0 HX
  obtain ⟨y0, y1, y2, y3, y4, y5, y6, y7, y8, yf⟩ := nine HS1.out.G
  go_region_with (go_at_call 27; refine (xstuck_any b i p s _ hsm (by exact HS1.out.R)).mono ?_; rintro ev w3 ⟨rfl, hE3, hK3⟩; obtain ⟨x0, x1, x2, x3, x4, x5, x6, x7, x8, xf⟩ := nine (hK3.heap (by exact HS1.out.F) (by simp; omega)); obtain ⟨y0, y1, y2, y3, y4, y5, y6, y7, y8, yf⟩ := nine (hK3.heap (by exact HS1.out.G) (by simp; omega)); have HE3 := Lib.hid hE3; have HK3 : Hid (Keep [b] W1 w3) := Lib.hid (((Keep.refl [b] W1).drewN _).trans hK3); clear hE3 hK3)
  all_goals
    go_wp2_with fail
    refine bodyPost_ret (v := .tuple #[.agg #[.int .i8 0, .slice none 0 0, .string ⟨#[]⟩, .string ⟨#[]⟩, .string ⟨#[]⟩, .slice none 0 0, .string ⟨#[]⟩, .string ⟨#[]⟩, .bool false], .bool false]) (by simp [results, Tryz.results26, go_sem, x0, x1, x2, x3, x4, x5, x6, x7, x8]) rfl ?_
    exact FRetX.mkErr (cs := [.int .i8 0, .slice none 0 0, .string ⟨#[]⟩, .string ⟨#[]⟩, .string ⟨#[]⟩, .slice none 0 0, .string ⟨#[]⟩, .string ⟨#[]⟩, .bool false]) HE3.out (HS1.out.K.trans HK3.out) hbw

theorem many_cases (s : ByteArray) (i : Nat) : (nextB s i 38 = true ∧ nextB s i 124 = false ∧ nextB s i 33 = false ∧ manyP (peekB s i) = some 0) ∨ (nextB s i 38 = false ∧ nextB s i 124 = true ∧ nextB s i 33 = false ∧ manyP (peekB s i) = some 1) ∨
    (nextB s i 38 = false ∧ nextB s i 124 = false ∧ nextB s i 33 = true ∧ manyP (peekB s i) = some 2) ∨ (nextB s i 38 = false ∧ nextB s i 124 = false ∧ nextB s i 33 = false ∧ manyP (peekB s i) = none) := by
  unfold nextB manyP
  by_cases hl : i < s.size
  · by_cases h1 : peekB s i = 38
    · simp [hl, h1]
    · by_cases h2 : peekB s i = 124
      · simp [hl, h2]
      · by_cases h3 : peekB s i = 33
        · simp [hl, h3]
        · simp [h1, h2, h3]
  · simp [hl, peekB_out (Nat.le_of_not_lt hl)]
set_option maxRecDepth 100000 in
set_option maxHeartbeats 4000000 in
theorem xfilter_open (b i p : Nat) (rem : Nat) (d : Int) (s : ByteArray) (w : World) (hs : s.size ≤ 1048576) (hp : p ≤ 65536) (hR : Rx w b s i p) (ht : takeP s i 40 = .ok (i + 1)) (hd : d + rem = 65) (hrem : rem ≤ 64)
    (ih : ∀ rem', rem = rem' + 1 → ∀ (i p : Nat) (w : World), i ≤ s.size → p ≤ 65536 → Rx w b s i p → Calls Tryz.prog 26 #[.pointer (some ⟨b, 0, none⟩), .int .i64 (d + 1)] w (FRetX b s w (filterP s rem' i p))) :
    Calls Tryz.prog 26 #[.pointer (some ⟨b, 0, none⟩), .int .i64 d] w (FRetX b s w (filterP s rem i p)) := by
  have hsm : s.size ≤ maxLen := by unfold maxLen; omega
  have hbw := hR.lt
  have hS0 := ItSt.start hR
  unfold TwoF at hS0
  have HS0 := Lib.hid hS0
  have HX := Lib.hid (fun W h => xnext_any b i p 40 s W h)
  have hx := take_next ht
  have hi := (next_yes hx).1
  rw [hx] at HX
  have HN : ∀ nt, nextB s (i + 1) 33 = nt → True := fun _ _ => trivial
  obtain ⟨nt, hnt⟩ : ∃ nt, nextB s (i + 1) 33 = nt := ⟨_, rfl⟩
  have HNT := Lib.hid hnt
  obtain ⟨R, hRR⟩ : ∃ R, filterP s rem i p = R := ⟨_, rfl⟩
  rw [hRR]
  have HRR := Lib.hid hRR
  have HTK := Lib.hid ht
  have IH := Lib.hid ih
  clear hR hx hS0 ht hnt HN hRR ih
  go_enter Tryz.func26, Tryz.ntmps26
  go_wp2_with (go_at_call 41; refine (HX.out _ (by exact HS0.out.R)).mono ?_; rintro e w' ⟨rfl, n, rfl⟩; have HS1 := Lib.hid (HS0.out.drewN n))
  obtain ⟨W1, hW1⟩ : ∃ W1, W1 = ((w.alloc (.cells #[.int .i8 0, .slice none 0 0, .string ⟨#[]⟩, .string ⟨#[]⟩, .string ⟨#[]⟩, .slice none 0 0, .string ⟨#[]⟩, .string ⟨#[]⟩, .bool false] 26)).alloc (.cells #[.int .i8 0, .slice none 0 0, .string ⟨#[]⟩, .string ⟨#[]⟩, .string ⟨#[]⟩, .slice none 0 0, .string ⟨#[]⟩, .string ⟨#[]⟩, .bool false] 26)).drewN n := ⟨_, rfl⟩
  rw [← hW1] at HS1 ⊢
  clear hW1 HS0 HX
  have r0 := HS1.out.R.c0
  have r1 := HS1.out.R.c1
  go_cut [8] (fun s8 wx => s8 = .bool nt ∧ Hid (ItSt w b s ⟨#[]⟩ i p wx))
  case first =>
    by_cases hl : i + 1 < s.size
    · have hlI : ((i : Int) + 1) < (s.size : Int) := by omega
      have hl0 : (0 : Int) ≤ (i : Int) + 1 := by omega
      have hw1 : IntKind.i64.wrap ((i : Int) + 1) = (i : Int) + 1 := by
        have := wrap_small (i + 1) (by omega) (by omega)
        push_cast at this ⊢
        exact this
      have htn : ((i : Int) + 1).toNat = i + 1 := by omega
      obtain ⟨c, hc⟩ : ∃ c, s[i + 1] = c := ⟨_, rfl⟩
      have hct : nt = ((c.toNat : Int) == 33) := by
        rw [← HNT.out]
        unfold nextB
        rw [peekB_in hl, hc, Bool.eq_iff_iff]
        simp only [hl, true_and, decide_eq_true_eq, beq_iff_eq]
        constructor
        · intro h; rw [h]; rfl
        · intro h; exact UInt8.toNat_inj.1 (by show _ = 33; omega)
      have HCT := Lib.hid hct
      clear hct
      go_quiet (fail)
      go_wp2_with fail
      go_meet
      exact ⟨by rw [HCT.out], Lib.hid (HS1.out.drewN _)⟩
    · have hlI : decide (((i : Int) + 1) < (s.size : Int)) = false := by rw [decide_eq_false_iff_not]; omega
      have hw1 : IntKind.i64.wrap ((i : Int) + 1) = (i : Int) + 1 := by
        have := wrap_small (i + 1) (by omega) (by omega)
        push_cast at this ⊢
        exact this
      have HCT : Hid (nt = false) := Lib.hid (by
        rw [← HNT.out]; unfold nextB; simp only [hl, false_and, decide_false])
      clear hl
      go_quiet (fail)
      go_wp2_with fail
      go_meet
      exact ⟨by rw [HCT.out], Lib.hid (HS1.out.drewN _)⟩
  case rest =>
    obtain ⟨rfl, HS2⟩ := hcut
    clear HS1 r0 r1
    obtain ⟨W2, hW2⟩ : ∃ W2, W2 = wc := ⟨_, rfl⟩
    rw [← hW2] at HS2 ⊢
    clear hW2
    cases rem with
    | zero =>
      have hd64 : (64 : Int) < d := by omega
      have HP : Hid (R = .error (91, i)) := Lib.hid (by rw [← HRR.out, filterP, HTK.out])
      obtain ⟨y0, y1, y2, y3, y4, y5, y6, y7, y8, yf⟩ := nine HS2.out.G
      have r1 := HS2.out.R.c1
      go_wp2_with fail
      go_region_with (go_at_call 42; refine (xfails_any b i p i 91 s _ hsm (by exact HS2.out.R)).mono ?_; rintro ev w3 ⟨rfl, hE3, hK3⟩; obtain ⟨x0, x1, x2, x3, x4, x5, x6, x7, x8, xf⟩ := nine (hK3.heap (by exact HS2.out.F) (by simp; omega)); obtain ⟨y0, y1, y2, y3, y4, y5, y6, y7, y8, yf⟩ := nine (hK3.heap (by exact HS2.out.G) (by simp; omega)); have HE3 := Lib.hid hE3; have HK3 : Hid (Keep [b] W2 w3) := Lib.hid (((Keep.refl [b] W2).drewN _).trans hK3); clear hE3 hK3)
      all_goals
        go_wp2_with fail
        refine bodyPost_ret (v := .tuple #[.agg #[.int .i8 0, .slice none 0 0, .string ⟨#[]⟩, .string ⟨#[]⟩, .string ⟨#[]⟩, .slice none 0 0, .string ⟨#[]⟩, .string ⟨#[]⟩, .bool false], .bool false]) (by simp [results, Tryz.results26, go_sem, x0, x1, x2, x3, x4, x5, x6, x7, x8]) rfl ?_
        rw [HP.out]
        exact FRetX.mkErr (cs := [.int .i8 0, .slice none 0 0, .string ⟨#[]⟩, .string ⟨#[]⟩, .string ⟨#[]⟩, .slice none 0 0, .string ⟨#[]⟩, .string ⟨#[]⟩, .bool false]) HE3.out (HS2.out.K.trans HK3.out) hbw
    | succ rem =>
      have hd64 : d ≤ (64 : Int) := by omega
      obtain ⟨P1, hP1⟩ : ∃ P1, partsOf s (i + 1) p = P1 := ⟨_, rfl⟩
      have HP1 : Hid (P1 = if nt = true then p else p + 1) := Lib.hid (by
        rw [← hP1, ← HNT.out]
        unfold partsOf nextB
        by_cases h33 : peekB s (i + 1) = 33
        · have hlt : i + 1 < s.size := peekB_lt (by rw [h33]; decide)
          rw [if_pos h33]; simp [hlt, h33]
        · rw [if_neg h33]; simp [h33])
      have HR1 : Hid (R = if 65536 < P1 then .error (3, i) else match manyP (peekB s (i + 1)) with
        | some k => closeP s (kidsF k (kidsP (filterP s rem) s k (s.size + 1) (i + 1 + 1) P1 []))
        | none => closeP s (itemF P1 (itemP s (i + 1)))) := Lib.hid (by rw [← HRR.out, filterP, HTK.out, ← hP1]; rfl)
      clear hP1 HRR
      go_upto_if 53 with fail
      go_cut [] (fun wx => Hid (ItSt w b s ⟨#[]⟩ i P1 wx))
      case first =>
        cases nt
        · have r2 := HS2.out.R.c2
          have rf := HS2.out.R.free 2
          go_wp2_with fail
          go_meet
          rw [show P1 = p + 1 from HP1.out]
          exact Lib.hid (HS2.out.parts hbw (p + 1))
        · go_wp2_with fail
          go_meet
          rw [show P1 = p from HP1.out]
          exact HS2
      case rest =>
        obtain ⟨W3, hW3⟩ : ∃ W3, W3 = wc := ⟨_, rfl⟩
        have HS3 := Lib.hid hcut.out
        rw [← hW3] at HS3 ⊢
        clear hW3 hcut
        have r2 := HS3.out.R.c2
        by_cases hlong : 65536 < P1
        · have hl2 : (65536 : Int) < (P1 : Int) := by omega
          have HP : Hid (R = .error (3, i)) := Lib.hid (by rw [HR1.out, if_pos hlong])
          obtain ⟨y0, y1, y2, y3, y4, y5, y6, y7, y8, yf⟩ := nine HS3.out.G
          have r1 := HS3.out.R.c1
          go_wp2_with fail
          go_region_with (go_at_call 42; refine (xfails_any b i P1 i 3 s _ hsm (by exact HS3.out.R)).mono ?_; rintro ev w3 ⟨rfl, hE3, hK3⟩; obtain ⟨x0, x1, x2, x3, x4, x5, x6, x7, x8, xf⟩ := nine (hK3.heap (by exact HS3.out.F) (by simp; omega)); obtain ⟨y0, y1, y2, y3, y4, y5, y6, y7, y8, yf⟩ := nine (hK3.heap (by exact HS3.out.G) (by simp; omega)); have HE3 := Lib.hid hE3; have HK3 : Hid (Keep [b] W3 w3) := Lib.hid (((Keep.refl [b] W3).drewN _).trans hK3); clear hE3 hK3)
          all_goals
            go_wp2_with fail
            refine bodyPost_ret (v := .tuple #[.agg #[.int .i8 0, .slice none 0 0, .string ⟨#[]⟩, .string ⟨#[]⟩, .string ⟨#[]⟩, .slice none 0 0, .string ⟨#[]⟩, .string ⟨#[]⟩, .bool false], .bool false]) (by simp [results, Tryz.results26, go_sem, x0, x1, x2, x3, x4, x5, x6, x7, x8]) rfl ?_
            rw [HP.out]
            exact FRetX.mkErr (cs := [.int .i8 0, .slice none 0 0, .string ⟨#[]⟩, .string ⟨#[]⟩, .string ⟨#[]⟩, .slice none 0 0, .string ⟨#[]⟩, .string ⟨#[]⟩, .bool false]) HE3.out (HS3.out.K.trans HK3.out) hbw
        · have hl2 : (P1 : Int) ≤ (65536 : Int) := by omega
          have HR2 : Hid (R = match manyP (peekB s (i + 1)) with
            | some k => closeP s (kidsF k (kidsP (filterP s rem) s k (s.size + 1) (i + 1 + 1) P1 []))
            | none => closeP s (itemF P1 (itemP s (i + 1)))) := Lib.hid (by rw [HR1.out, if_neg hlong])
          clear HR1 hlong
          have r1 := HS3.out.R.c1
          have rf := HS3.out.R.free 1
          have HS4 := Lib.hid (HS3.out.at hbw (i + 1))
          have HMC := Lib.hid (many_cases s (i + 1))
          obtain ⟨ba, hba⟩ : ∃ ba, nextB s (i + 1) 38 = ba := ⟨_, rfl⟩
          obtain ⟨bo, hbo⟩ : ∃ bo, nextB s (i + 1) 124 = bo := ⟨_, rfl⟩
          have HXA : Hid (∀ W, Rx W b s (i + 1) P1 → Calls Tryz.prog 41 #[.pointer (some ⟨b, 0, none⟩), .int .u8 38] W fun e w' => e = .returned (.bool (nextB s (i + 1) 38)) ∧ ∃ n, w' = W.drewN n) := Lib.hid (fun W h => xnext_any b (i + 1) P1 38 s W h)
          have HXO : Hid (∀ W, Rx W b s (i + 1) P1 → Calls Tryz.prog 41 #[.pointer (some ⟨b, 0, none⟩), .int .u8 124] W fun e w' => e = .returned (.bool (nextB s (i + 1) 124)) ∧ ∃ n, w' = W.drewN n) := Lib.hid (fun W h => xnext_any b (i + 1) P1 124 s W h)
          rw [hba] at HXA HMC
          rw [hbo] at HXO HMC
          rw [HNT.out] at HMC
          clear hba hbo
          go_upto_region 16 with (first
            | (go_at_call 41; (with_reducible refine (HXA.out _ ?rxa).mono ?_); (case rxa => exact HS4.out.R); rintro e w' ⟨rfl, n1, rfl⟩; have HS5 := Lib.hid (HS4.out.drewN n1))
            | (go_at_call 41; (with_reducible refine (HXO.out _ ?rxo).mono ?_); (case rxo => exact HS5.out.R); rintro e w' ⟨rfl, n2, rfl⟩; have HS6 := Lib.hid (HS5.out.drewN n2)))
          obtain ⟨W6, hW6⟩ : ∃ W6, W6 = (W3.setCell ⟨b, 1, none⟩ (.int .i64 ((i : Int) + 1))).drewN (n1 + n2) := ⟨_, rfl⟩
          have HS7 : Hid (ItSt w b s ⟨#[]⟩ (i + 1) P1 W6) := Lib.hid (by rw [hW6]; exact HS4.out.drewN (n1 + n2))
          rw [← hW6]
          clear hW6 HS6 HS5 HS4 HS3 HXA HXO r1 r2 rf HNT HP1
          have hqi : IntKind.i64.wrap ((i : Int) + 1 + 1) = (i : Int) + 1 + 1 := by
            have := wrap_small (i + 1 + 1) (by omega) (by omega)
            push_cast at this ⊢
            exact this
          have r1 := HS7.out.R.c1
          have rf := HS7.out.R.free 1
          rcases HMC.out with ⟨rfl, rfl, rfl, hm⟩ | ⟨rfl, rfl, rfl, hm⟩ | ⟨rfl, rfl, rfl, hm⟩ | ⟨rfl, rfl, rfl, hm⟩
          · have HR3 : Hid (R = closeP s (kidsF 0 (kidsP (filterP s rem) s 0 (s.size + 1) (i + 1 + 1) P1 []))) := Lib.hid (by rw [HR2.out, hm])
            have hi1 : i + 1 < s.size := by
              rcases Nat.lt_or_ge (i + 1) s.size with h | h
              · exact h
              · rw [peekB_out h] at hm; cases hm
            clear HR2 hm HMC
            obtain ⟨y0, y1, y2, y3, y4, y5, y6, y7, y8, yf⟩ := nine HS7.out.G
            have HR7 : Hid (Rx ((W6.setCell ⟨b, 1, none⟩ (.int .i64 ((i : Int) + 1 + 1))).setCell ⟨w.heap.size + 1, 0, none⟩ (.int .i8 0)) b s (i + 1 + 1) P1) := Lib.hid ((setCell_ne _ (show b ≠ w.heap.size + 1 by omega)).trans (HS7.out.R.setAt (i + 1 + 1)))
            have HG7 : Hid (((W6.setCell ⟨b, 1, none⟩ (.int .i64 ((i : Int) + 1 + 1))).setCell ⟨w.heap.size + 1, 0, none⟩ (.int .i8 0)).heap[w.heap.size + 1]? = some (.cells #[.int .i8 0, .slice none 0 0, .string ⟨#[]⟩, .string ⟨#[]⟩, .string ⟨#[]⟩, .slice none 0 0, .string ⟨#[]⟩, .string ⟨#[]⟩, .bool false] 26 (0, 0))) := Lib.hid (setCell_at ((setCell_ne _ (show w.heap.size + 1 ≠ b by omega)).trans HS7.out.G) 0 _)
            have HF7 : Hid (((W6.setCell ⟨b, 1, none⟩ (.int .i64 ((i : Int) + 1 + 1))).setCell ⟨w.heap.size + 1, 0, none⟩ (.int .i8 0)).heap[w.heap.size]? = some (.cells #[.int .i8 0, .slice none 0 0, .string ⟨#[]⟩, .string ⟨#[]⟩, .string ⟨#[]⟩, .slice none 0 0, .string ⟨#[]⟩, .string ⟨#[]⟩, .bool false] 26 (0, 0))) := Lib.hid ((setCell_ne _ (show w.heap.size ≠ w.heap.size + 1 by omega)).trans ((setCell_ne _ (show w.heap.size ≠ b by omega)).trans HS7.out.F))
            have HK7 : Hid (Keep [b] w ((W6.setCell ⟨b, 1, none⟩ (.int .i64 ((i : Int) + 1 + 1))).setCell ⟨w.heap.size + 1, 0, none⟩ (.int .i8 0))) := Lib.hid ((HS7.out.K.setCell _ _ (.inl (by simp))).setCell _ _ (.inr (by simp)))
            have hz7 : w.heap.size + 1 < W6.heap.size := lt_of_block HS7.out.G
            have HC := Lib.hid (xkids_any b (i + 1 + 1) P1 s rem 0 (d + 1) false ((W6.setCell ⟨b, 1, none⟩ (.int .i64 ((i : Int) + 1 + 1))).setCell ⟨w.heap.size + 1, 0, none⟩ (.int .i8 0)) (by simp) hs (by omega) (by omega) HR7.out (fun i p w h1 h2 h3 => IH.out rem rfl i p w h1 h2 h3))
            cases hk : kidsP (filterP s rem) s 0 (s.size + 1) (i + 1 + 1) P1 [] with
            | error f =>
              rw [hk] at HC
              have HP : Hid (R = .error f) := Lib.hid (by rw [HR3.out, hk]; rfl)
              clear hk HR3 IH
              go_wp2_with (go_at_call 43; refine HC.out.mono ?_; rintro e w4 ⟨rfl, hE4, hK4⟩; obtain ⟨x0, x1, x2, x3, x4, x5, x6, x7, x8, xf⟩ := nine (hK4.heap (by exact HF7.out) (by simp; omega)); have hg4 := hK4.heap (by exact HG7.out) (by simp; omega); obtain ⟨z0, z1, z2, z3, z4, z5, z6, z7, z8, zf⟩ := nine hg4; have HE4 := Lib.hid hE4; have HK4 := Lib.hid hK4; clear hE4 hK4 hg4)
              refine bodyPost_ret (v := .tuple #[.agg #[.int .i8 0, .slice none 0 0, .string ⟨#[]⟩, .string ⟨#[]⟩, .string ⟨#[]⟩, .slice none 0 0, .string ⟨#[]⟩, .string ⟨#[]⟩, .bool false], .bool false]) (by simp [results, Tryz.results26, go_sem, x0, x1, x2, x3, x4, x5, x6, x7, x8]) rfl ?_
              rw [HP.out]
              exact FRetX.mkErr (cs := [.int .i8 0, .slice none 0 0, .string ⟨#[]⟩, .string ⟨#[]⟩, .string ⟨#[]⟩, .slice none 0 0, .string ⟨#[]⟩, .string ⟨#[]⟩, .bool false]) (HE4.out.keep1 ((Keep.refl [w.heap.size + 1] w4).setCell _ _ (.inl (by simp))) (by simp; omega)) ((HK7.out.trans HK4.out).setCell _ _ (.inr (by simp))) hbw
            | ok t =>
              obtain ⟨l, j, q⟩ := t
              rw [hk] at HC
              have hlt := kidsP_ok (fun a b c => filterP_ok a b c) (by omega) (by omega) hk
              have HR4 : Hid (R = closeP s (.ok (.mk ⟨0, noText, noText, noText, [], noText, noText, false⟩ l, j, q))) := Lib.hid (by rw [HR3.out, hk]; rfl)
              clear hk HR3 IH
              have HT := Lib.hid (fun W h => xtakes_any b j q 41 s W hsm h)
              cases ht : takeP s j 41 with
              | error f =>
                rw [ht] at HT
                have HP : Hid (R = .error f) := Lib.hid (by rw [HR4.out]; first | exact closeP_e ht | exact closeP_k ht)
                clear ht HR4
                go_wp2_with (first
                  | (go_at_call 43; refine HC.out.mono ?_; rintro e w4 ⟨kv, rfl, hQ4, hR4, hK4⟩; obtain ⟨ka, kc, rfl⟩ := hQ4.slice; have hg4 := hK4.heap (by exact HG7.out) (by simp; omega); obtain ⟨z0, z1, z2, z3, z4, z5, z6, z7, z8, zf⟩ := nine hg4; have HG8 : Hid ((w4.setCell ⟨w.heap.size + 1, 1, none⟩ (.slice ka l.length kc)).heap[w.heap.size + 1]? = some (.cells #[.int .i8 0, .slice ka l.length kc, .string ⟨#[]⟩, .string ⟨#[]⟩, .string ⟨#[]⟩, .slice none 0 0, .string ⟨#[]⟩, .string ⟨#[]⟩, .bool false] 26 (0, 0))) := Lib.hid (setCell_at hg4 1 _); have HF8 : Hid ((w4.setCell ⟨w.heap.size + 1, 1, none⟩ (.slice ka l.length kc)).heap[w.heap.size]? = some (.cells #[.int .i8 0, .slice none 0 0, .string ⟨#[]⟩, .string ⟨#[]⟩, .string ⟨#[]⟩, .slice none 0 0, .string ⟨#[]⟩, .string ⟨#[]⟩, .bool false] 26 (0, 0))) := Lib.hid ((setCell_ne _ (show w.heap.size ≠ w.heap.size + 1 by omega)).trans (hK4.heap (by exact HF7.out) (by simp; omega))); have HR8 : Hid (Rx (w4.setCell ⟨w.heap.size + 1, 1, none⟩ (.slice ka l.length kc)) b s j q) := Lib.hid ((setCell_ne _ (show b ≠ w.heap.size + 1 by omega)).trans hR4); have HQ4 := Lib.hid hQ4; have HK4 := Lib.hid hK4; clear hQ4 hR4 hK4 hg4)
                  | (go_at_call 45; refine (HT.out _ (by exact HR8.out)).mono ?_; intro e w5 hw; obtain ⟨rfl, hE5, hK5⟩ := WentX.err hw; clear hw z0 z1 z2 z3 z4 z5 z6 z7 z8 zf; obtain ⟨x0, x1, x2, x3, x4, x5, x6, x7, x8, xf⟩ := nine (hK5.heap (by exact HF8.out) (by simp; omega)); obtain ⟨z0, z1, z2, z3, z4, z5, z6, z7, z8, zf⟩ := nine (hK5.heap (by exact HG8.out) (by simp; omega)); have HE5 := Lib.hid hE5; have HK5 := Lib.hid hK5; clear hE5 hK5))
                refine bodyPost_ret (v := .tuple #[.agg #[.int .i8 0, .slice ka l.length kc, .string ⟨#[]⟩, .string ⟨#[]⟩, .string ⟨#[]⟩, .slice none 0 0, .string ⟨#[]⟩, .string ⟨#[]⟩, .bool false], .bool false]) (by simp [results, Tryz.results26, go_sem, x0, x1, x2, x3, x4, x5, x6, x7, x8]) rfl ?_
                rw [HP.out]
                exact FRetX.mkErr (cs := [.int .i8 0, .slice ka l.length kc, .string ⟨#[]⟩, .string ⟨#[]⟩, .string ⟨#[]⟩, .slice none 0 0, .string ⟨#[]⟩, .string ⟨#[]⟩, .bool false]) HE5.out (((HK7.out.trans HK4.out).setCell _ _ (.inr (by simp))).trans HK5.out) hbw
              | ok j2 =>
                rw [ht] at HT
                have HP : Hid (R = .ok (.mk ⟨0, noText, noText, noText, [], noText, noText, false⟩ l, j2, q)) := Lib.hid (by rw [HR4.out]; first | exact closeP_e ht | exact closeP_k ht)
                clear ht HR4
                go_wp2_with (first
                  | (go_at_call 43; refine HC.out.mono ?_; rintro e w4 ⟨kv, rfl, hQ4, hR4, hK4⟩; obtain ⟨ka, kc, rfl⟩ := hQ4.slice; have hg4 := hK4.heap (by exact HG7.out) (by simp; omega); obtain ⟨z0, z1, z2, z3, z4, z5, z6, z7, z8, zf⟩ := nine hg4; have HG8 : Hid ((w4.setCell ⟨w.heap.size + 1, 1, none⟩ (.slice ka l.length kc)).heap[w.heap.size + 1]? = some (.cells #[.int .i8 0, .slice ka l.length kc, .string ⟨#[]⟩, .string ⟨#[]⟩, .string ⟨#[]⟩, .slice none 0 0, .string ⟨#[]⟩, .string ⟨#[]⟩, .bool false] 26 (0, 0))) := Lib.hid (setCell_at hg4 1 _); have HF8 : Hid ((w4.setCell ⟨w.heap.size + 1, 1, none⟩ (.slice ka l.length kc)).heap[w.heap.size]? = some (.cells #[.int .i8 0, .slice none 0 0, .string ⟨#[]⟩, .string ⟨#[]⟩, .string ⟨#[]⟩, .slice none 0 0, .string ⟨#[]⟩, .string ⟨#[]⟩, .bool false] 26 (0, 0))) := Lib.hid ((setCell_ne _ (show w.heap.size ≠ w.heap.size + 1 by omega)).trans (hK4.heap (by exact HF7.out) (by simp; omega))); have HR8 : Hid (Rx (w4.setCell ⟨w.heap.size + 1, 1, none⟩ (.slice ka l.length kc)) b s j q) := Lib.hid ((setCell_ne _ (show b ≠ w.heap.size + 1 by omega)).trans hR4); have HQ4 := Lib.hid hQ4; have HK4 := Lib.hid hK4; clear hQ4 hR4 hK4 hg4)
                  | (go_at_call 45; refine (HT.out _ (by exact HR8.out)).mono ?_; intro e w5 hw; obtain ⟨rfl, hR5, hK5⟩ := WentX.ok hw; clear hw z0 z1 z2 z3 z4 z5 z6 z7 z8 zf; obtain ⟨x0, x1, x2, x3, x4, x5, x6, x7, x8, xf⟩ := nine (hK5.heap (by exact HF8.out) (by simp; omega)); obtain ⟨z0, z1, z2, z3, z4, z5, z6, z7, z8, zf⟩ := nine (hK5.heap (by exact HG8.out) (by simp; omega)); have HR5 := Lib.hid hR5; have HK5 := Lib.hid hK5; clear hR5 hK5))
                refine bodyPost_ret (v := .tuple #[.agg #[.int .i8 0, .slice ka l.length kc, .string ⟨#[]⟩, .string ⟨#[]⟩, .string ⟨#[]⟩, .slice none 0 0, .string ⟨#[]⟩, .string ⟨#[]⟩, .bool false], .bool true]) (by simp [results, Tryz.results26, go_sem, x0, x1, x2, x3, x4, x5, x6, x7, x8]) rfl ?_
                rw [HP.out]
                have hKs : Keep [w.heap.size + 1] w4 (w4.setCell ⟨w.heap.size + 1, 1, none⟩ (.slice ka l.length kc)) := (Keep.refl _ _).setCell _ _ (.inl (by simp))
                have hs7 : ((W6.setCell ⟨b, 1, none⟩ (.int .i64 ((i : Int) + 1 + 1))).setCell ⟨w.heap.size + 1, 0, none⟩ (.int .i8 0)).heap.size = W6.heap.size := by simp
                have hQ5 := (HQ4.out.keep hKs (by rw [hs7]; simp; omega)).keep HK5.out (by rw [hs7]; simp; omega)
                exact FRetX.mkOk (g := .mk ⟨0, noText, noText, noText, [], noText, noText, false⟩ l) (cs := [.int .i8 0, .slice ka l.length kc, .string ⟨#[]⟩, .string ⟨#[]⟩, .string ⟨#[]⟩, .slice none 0 0, .string ⟨#[]⟩, .string ⟨#[]⟩, .bool false]) (hQ5.flt ⟨0, noText, noText, noText, [], noText, noText, false⟩ rfl) (by rw [hs7]; omega) (Nat.le_trans hKs.size HK5.out.size) HR5.out (((HK7.out.trans HK4.out).setCell _ _ (.inr (by simp))).trans HK5.out) hbw
          · have HR3 : Hid (R = closeP s (kidsF 1 (kidsP (filterP s rem) s 1 (s.size + 1) (i + 1 + 1) P1 []))) := Lib.hid (by rw [HR2.out, hm])
            have hi1 : i + 1 < s.size := by
              rcases Nat.lt_or_ge (i + 1) s.size with h | h
              · exact h
              · rw [peekB_out h] at hm; cases hm
            clear HR2 hm HMC
            obtain ⟨y0, y1, y2, y3, y4, y5, y6, y7, y8, yf⟩ := nine HS7.out.G
            have HR7 : Hid (Rx (((W6.setCell ⟨b, 1, none⟩ (.int .i64 ((i : Int) + 1 + 1))).setCell ⟨w.heap.size + 1, 0, none⟩ (.int .i8 0)).setCell ⟨w.heap.size + 1, 0, none⟩ (.int .i8 1)) b s (i + 1 + 1) P1) := Lib.hid ((setCell_ne _ (show b ≠ w.heap.size + 1 by omega)).trans ((setCell_ne _ (show b ≠ w.heap.size + 1 by omega)).trans (HS7.out.R.setAt (i + 1 + 1))))
            have HG7 : Hid ((((W6.setCell ⟨b, 1, none⟩ (.int .i64 ((i : Int) + 1 + 1))).setCell ⟨w.heap.size + 1, 0, none⟩ (.int .i8 0)).setCell ⟨w.heap.size + 1, 0, none⟩ (.int .i8 1)).heap[w.heap.size + 1]? = some (.cells #[.int .i8 1, .slice none 0 0, .string ⟨#[]⟩, .string ⟨#[]⟩, .string ⟨#[]⟩, .slice none 0 0, .string ⟨#[]⟩, .string ⟨#[]⟩, .bool false] 26 (0, 0))) := Lib.hid (setCell_at (setCell_at ((setCell_ne _ (show w.heap.size + 1 ≠ b by omega)).trans HS7.out.G) 0 _) 0 _)
            have HF7 : Hid ((((W6.setCell ⟨b, 1, none⟩ (.int .i64 ((i : Int) + 1 + 1))).setCell ⟨w.heap.size + 1, 0, none⟩ (.int .i8 0)).setCell ⟨w.heap.size + 1, 0, none⟩ (.int .i8 1)).heap[w.heap.size]? = some (.cells #[.int .i8 0, .slice none 0 0, .string ⟨#[]⟩, .string ⟨#[]⟩, .string ⟨#[]⟩, .slice none 0 0, .string ⟨#[]⟩, .string ⟨#[]⟩, .bool false] 26 (0, 0))) := Lib.hid ((setCell_ne _ (show w.heap.size ≠ w.heap.size + 1 by omega)).trans ((setCell_ne _ (show w.heap.size ≠ w.heap.size + 1 by omega)).trans ((setCell_ne _ (show w.heap.size ≠ b by omega)).trans HS7.out.F)))
            have HK7 : Hid (Keep [b] w (((W6.setCell ⟨b, 1, none⟩ (.int .i64 ((i : Int) + 1 + 1))).setCell ⟨w.heap.size + 1, 0, none⟩ (.int .i8 0)).setCell ⟨w.heap.size + 1, 0, none⟩ (.int .i8 1))) := Lib.hid (((HS7.out.K.setCell _ _ (.inl (by simp))).setCell _ _ (.inr (by simp))).setCell _ _ (.inr (by simp)))
            have hz7 : w.heap.size + 1 < W6.heap.size := lt_of_block HS7.out.G
            have HC := Lib.hid (xkids_any b (i + 1 + 1) P1 s rem 1 (d + 1) false (((W6.setCell ⟨b, 1, none⟩ (.int .i64 ((i : Int) + 1 + 1))).setCell ⟨w.heap.size + 1, 0, none⟩ (.int .i8 0)).setCell ⟨w.heap.size + 1, 0, none⟩ (.int .i8 1)) (by simp) hs (by omega) (by omega) HR7.out (fun i p w h1 h2 h3 => IH.out rem rfl i p w h1 h2 h3))
            cases hk : kidsP (filterP s rem) s 1 (s.size + 1) (i + 1 + 1) P1 [] with
            | error f =>
              rw [hk] at HC
              have HP : Hid (R = .error f) := Lib.hid (by rw [HR3.out, hk]; rfl)
              clear hk HR3 IH
              go_wp2_with (go_at_call 43; refine HC.out.mono ?_; rintro e w4 ⟨rfl, hE4, hK4⟩; obtain ⟨x0, x1, x2, x3, x4, x5, x6, x7, x8, xf⟩ := nine (hK4.heap (by exact HF7.out) (by simp; omega)); have hg4 := hK4.heap (by exact HG7.out) (by simp; omega); obtain ⟨z0, z1, z2, z3, z4, z5, z6, z7, z8, zf⟩ := nine hg4; have HE4 := Lib.hid hE4; have HK4 := Lib.hid hK4; clear hE4 hK4 hg4)
              refine bodyPost_ret (v := .tuple #[.agg #[.int .i8 1, .slice none 0 0, .string ⟨#[]⟩, .string ⟨#[]⟩, .string ⟨#[]⟩, .slice none 0 0, .string ⟨#[]⟩, .string ⟨#[]⟩, .bool false], .bool false]) (by simp [results, Tryz.results26, go_sem, x0, x1, x2, x3, x4, x5, x6, x7, x8]) rfl ?_
              rw [HP.out]
              exact FRetX.mkErr (cs := [.int .i8 1, .slice none 0 0, .string ⟨#[]⟩, .string ⟨#[]⟩, .string ⟨#[]⟩, .slice none 0 0, .string ⟨#[]⟩, .string ⟨#[]⟩, .bool false]) (HE4.out.keep1 ((Keep.refl [w.heap.size + 1] w4).setCell _ _ (.inl (by simp))) (by simp; omega)) ((HK7.out.trans HK4.out).setCell _ _ (.inr (by simp))) hbw
            | ok t =>
              obtain ⟨l, j, q⟩ := t
              rw [hk] at HC
              have hlt := kidsP_ok (fun a b c => filterP_ok a b c) (by omega) (by omega) hk
              have HR4 : Hid (R = closeP s (.ok (.mk ⟨1, noText, noText, noText, [], noText, noText, false⟩ l, j, q))) := Lib.hid (by rw [HR3.out, hk]; rfl)
              clear hk HR3 IH
              have HT := Lib.hid (fun W h => xtakes_any b j q 41 s W hsm h)
              cases ht : takeP s j 41 with
              | error f =>
                rw [ht] at HT
                have HP : Hid (R = .error f) := Lib.hid (by rw [HR4.out]; first | exact closeP_e ht | exact closeP_k ht)
                clear ht HR4
                go_wp2_with (first
                  | (go_at_call 43; refine HC.out.mono ?_; rintro e w4 ⟨kv, rfl, hQ4, hR4, hK4⟩; obtain ⟨ka, kc, rfl⟩ := hQ4.slice; have hg4 := hK4.heap (by exact HG7.out) (by simp; omega); obtain ⟨z0, z1, z2, z3, z4, z5, z6, z7, z8, zf⟩ := nine hg4; have HG8 : Hid ((w4.setCell ⟨w.heap.size + 1, 1, none⟩ (.slice ka l.length kc)).heap[w.heap.size + 1]? = some (.cells #[.int .i8 1, .slice ka l.length kc, .string ⟨#[]⟩, .string ⟨#[]⟩, .string ⟨#[]⟩, .slice none 0 0, .string ⟨#[]⟩, .string ⟨#[]⟩, .bool false] 26 (0, 0))) := Lib.hid (setCell_at hg4 1 _); have HF8 : Hid ((w4.setCell ⟨w.heap.size + 1, 1, none⟩ (.slice ka l.length kc)).heap[w.heap.size]? = some (.cells #[.int .i8 0, .slice none 0 0, .string ⟨#[]⟩, .string ⟨#[]⟩, .string ⟨#[]⟩, .slice none 0 0, .string ⟨#[]⟩, .string ⟨#[]⟩, .bool false] 26 (0, 0))) := Lib.hid ((setCell_ne _ (show w.heap.size ≠ w.heap.size + 1 by omega)).trans (hK4.heap (by exact HF7.out) (by simp; omega))); have HR8 : Hid (Rx (w4.setCell ⟨w.heap.size + 1, 1, none⟩ (.slice ka l.length kc)) b s j q) := Lib.hid ((setCell_ne _ (show b ≠ w.heap.size + 1 by omega)).trans hR4); have HQ4 := Lib.hid hQ4; have HK4 := Lib.hid hK4; clear hQ4 hR4 hK4 hg4)
                  | (go_at_call 45; refine (HT.out _ (by exact HR8.out)).mono ?_; intro e w5 hw; obtain ⟨rfl, hE5, hK5⟩ := WentX.err hw; clear hw z0 z1 z2 z3 z4 z5 z6 z7 z8 zf; obtain ⟨x0, x1, x2, x3, x4, x5, x6, x7, x8, xf⟩ := nine (hK5.heap (by exact HF8.out) (by simp; omega)); obtain ⟨z0, z1, z2, z3, z4, z5, z6, z7, z8, zf⟩ := nine (hK5.heap (by exact HG8.out) (by simp; omega)); have HE5 := Lib.hid hE5; have HK5 := Lib.hid hK5; clear hE5 hK5))
                refine bodyPost_ret (v := .tuple #[.agg #[.int .i8 1, .slice ka l.length kc, .string ⟨#[]⟩, .string ⟨#[]⟩, .string ⟨#[]⟩, .slice none 0 0, .string ⟨#[]⟩, .string ⟨#[]⟩, .bool false], .bool false]) (by simp [results, Tryz.results26, go_sem, x0, x1, x2, x3, x4, x5, x6, x7, x8]) rfl ?_
                rw [HP.out]
                exact FRetX.mkErr (cs := [.int .i8 1, .slice ka l.length kc, .string ⟨#[]⟩, .string ⟨#[]⟩, .string ⟨#[]⟩, .slice none 0 0, .string ⟨#[]⟩, .string ⟨#[]⟩, .bool false]) HE5.out (((HK7.out.trans HK4.out).setCell _ _ (.inr (by simp))).trans HK5.out) hbw
              | ok j2 =>
                rw [ht] at HT
                have HP : Hid (R = .ok (.mk ⟨1, noText, noText, noText, [], noText, noText, false⟩ l, j2, q)) := Lib.hid (by rw [HR4.out]; first | exact closeP_e ht | exact closeP_k ht)
                clear ht HR4
                go_wp2_with (first
                  | (go_at_call 43; refine HC.out.mono ?_; rintro e w4 ⟨kv, rfl, hQ4, hR4, hK4⟩; obtain ⟨ka, kc, rfl⟩ := hQ4.slice; have hg4 := hK4.heap (by exact HG7.out) (by simp; omega); obtain ⟨z0, z1, z2, z3, z4, z5, z6, z7, z8, zf⟩ := nine hg4; have HG8 : Hid ((w4.setCell ⟨w.heap.size + 1, 1, none⟩ (.slice ka l.length kc)).heap[w.heap.size + 1]? = some (.cells #[.int .i8 1, .slice ka l.length kc, .string ⟨#[]⟩, .string ⟨#[]⟩, .string ⟨#[]⟩, .slice none 0 0, .string ⟨#[]⟩, .string ⟨#[]⟩, .bool false] 26 (0, 0))) := Lib.hid (setCell_at hg4 1 _); have HF8 : Hid ((w4.setCell ⟨w.heap.size + 1, 1, none⟩ (.slice ka l.length kc)).heap[w.heap.size]? = some (.cells #[.int .i8 0, .slice none 0 0, .string ⟨#[]⟩, .string ⟨#[]⟩, .string ⟨#[]⟩, .slice none 0 0, .string ⟨#[]⟩, .string ⟨#[]⟩, .bool false] 26 (0, 0))) := Lib.hid ((setCell_ne _ (show w.heap.size ≠ w.heap.size + 1 by omega)).trans (hK4.heap (by exact HF7.out) (by simp; omega))); have HR8 : Hid (Rx (w4.setCell ⟨w.heap.size + 1, 1, none⟩ (.slice ka l.length kc)) b s j q) := Lib.hid ((setCell_ne _ (show b ≠ w.heap.size + 1 by omega)).trans hR4); have HQ4 := Lib.hid hQ4; have HK4 := Lib.hid hK4; clear hQ4 hR4 hK4 hg4)
                  | (go_at_call 45; refine (HT.out _ (by exact HR8.out)).mono ?_; intro e w5 hw; obtain ⟨rfl, hR5, hK5⟩ := WentX.ok hw; clear hw z0 z1 z2 z3 z4 z5 z6 z7 z8 zf; obtain ⟨x0, x1, x2, x3, x4, x5, x6, x7, x8, xf⟩ := nine (hK5.heap (by exact HF8.out) (by simp; omega)); obtain ⟨z0, z1, z2, z3, z4, z5, z6, z7, z8, zf⟩ := nine (hK5.heap (by exact HG8.out) (by simp; omega)); have HR5 := Lib.hid hR5; have HK5 := Lib.hid hK5; clear hR5 hK5))
                refine bodyPost_ret (v := .tuple #[.agg #[.int .i8 1, .slice ka l.length kc, .string ⟨#[]⟩, .string ⟨#[]⟩, .string ⟨#[]⟩, .slice none 0 0, .string ⟨#[]⟩, .string ⟨#[]⟩, .bool false], .bool true]) (by simp [results, Tryz.results26, go_sem, x0, x1, x2, x3, x4, x5, x6, x7, x8]) rfl ?_
                rw [HP.out]
                have hKs : Keep [w.heap.size + 1] w4 (w4.setCell ⟨w.heap.size + 1, 1, none⟩ (.slice ka l.length kc)) := (Keep.refl _ _).setCell _ _ (.inl (by simp))
                have hs7 : (((W6.setCell ⟨b, 1, none⟩ (.int .i64 ((i : Int) + 1 + 1))).setCell ⟨w.heap.size + 1, 0, none⟩ (.int .i8 0)).setCell ⟨w.heap.size + 1, 0, none⟩ (.int .i8 1)).heap.size = W6.heap.size := by simp
                have hQ5 := (HQ4.out.keep hKs (by rw [hs7]; simp; omega)).keep HK5.out (by rw [hs7]; simp; omega)
                exact FRetX.mkOk (g := .mk ⟨1, noText, noText, noText, [], noText, noText, false⟩ l) (cs := [.int .i8 1, .slice ka l.length kc, .string ⟨#[]⟩, .string ⟨#[]⟩, .string ⟨#[]⟩, .slice none 0 0, .string ⟨#[]⟩, .string ⟨#[]⟩, .bool false]) (hQ5.flt ⟨1, noText, noText, noText, [], noText, noText, false⟩ rfl) (by rw [hs7]; omega) (Nat.le_trans hKs.size HK5.out.size) HR5.out (((HK7.out.trans HK4.out).setCell _ _ (.inr (by simp))).trans HK5.out) hbw
          · have HR3 : Hid (R = closeP s (kidsF 2 (kidsP (filterP s rem) s 2 (s.size + 1) (i + 1 + 1) P1 []))) := Lib.hid (by rw [HR2.out, hm])
            have hi1 : i + 1 < s.size := by
              rcases Nat.lt_or_ge (i + 1) s.size with h | h
              · exact h
              · rw [peekB_out h] at hm; cases hm
            clear HR2 hm HMC
            obtain ⟨y0, y1, y2, y3, y4, y5, y6, y7, y8, yf⟩ := nine HS7.out.G
            have HR7 : Hid (Rx (((W6.setCell ⟨b, 1, none⟩ (.int .i64 ((i : Int) + 1 + 1))).setCell ⟨w.heap.size + 1, 0, none⟩ (.int .i8 0)).setCell ⟨w.heap.size + 1, 0, none⟩ (.int .i8 2)) b s (i + 1 + 1) P1) := Lib.hid ((setCell_ne _ (show b ≠ w.heap.size + 1 by omega)).trans ((setCell_ne _ (show b ≠ w.heap.size + 1 by omega)).trans (HS7.out.R.setAt (i + 1 + 1))))
            have HG7 : Hid ((((W6.setCell ⟨b, 1, none⟩ (.int .i64 ((i : Int) + 1 + 1))).setCell ⟨w.heap.size + 1, 0, none⟩ (.int .i8 0)).setCell ⟨w.heap.size + 1, 0, none⟩ (.int .i8 2)).heap[w.heap.size + 1]? = some (.cells #[.int .i8 2, .slice none 0 0, .string ⟨#[]⟩, .string ⟨#[]⟩, .string ⟨#[]⟩, .slice none 0 0, .string ⟨#[]⟩, .string ⟨#[]⟩, .bool false] 26 (0, 0))) := Lib.hid (setCell_at (setCell_at ((setCell_ne _ (show w.heap.size + 1 ≠ b by omega)).trans HS7.out.G) 0 _) 0 _)
            have HF7 : Hid ((((W6.setCell ⟨b, 1, none⟩ (.int .i64 ((i : Int) + 1 + 1))).setCell ⟨w.heap.size + 1, 0, none⟩ (.int .i8 0)).setCell ⟨w.heap.size + 1, 0, none⟩ (.int .i8 2)).heap[w.heap.size]? = some (.cells #[.int .i8 0, .slice none 0 0, .string ⟨#[]⟩, .string ⟨#[]⟩, .string ⟨#[]⟩, .slice none 0 0, .string ⟨#[]⟩, .string ⟨#[]⟩, .bool false] 26 (0, 0))) := Lib.hid ((setCell_ne _ (show w.heap.size ≠ w.heap.size + 1 by omega)).trans ((setCell_ne _ (show w.heap.size ≠ w.heap.size + 1 by omega)).trans ((setCell_ne _ (show w.heap.size ≠ b by omega)).trans HS7.out.F)))
            have HK7 : Hid (Keep [b] w (((W6.setCell ⟨b, 1, none⟩ (.int .i64 ((i : Int) + 1 + 1))).setCell ⟨w.heap.size + 1, 0, none⟩ (.int .i8 0)).setCell ⟨w.heap.size + 1, 0, none⟩ (.int .i8 2))) := Lib.hid (((HS7.out.K.setCell _ _ (.inl (by simp))).setCell _ _ (.inr (by simp))).setCell _ _ (.inr (by simp)))
            have hz7 : w.heap.size + 1 < W6.heap.size := lt_of_block HS7.out.G
            have HC := Lib.hid (xkids_any b (i + 1 + 1) P1 s rem 2 (d + 1) true (((W6.setCell ⟨b, 1, none⟩ (.int .i64 ((i : Int) + 1 + 1))).setCell ⟨w.heap.size + 1, 0, none⟩ (.int .i8 0)).setCell ⟨w.heap.size + 1, 0, none⟩ (.int .i8 2)) (by simp) hs (by omega) (by omega) HR7.out (fun i p w h1 h2 h3 => IH.out rem rfl i p w h1 h2 h3))
            cases hk : kidsP (filterP s rem) s 2 (s.size + 1) (i + 1 + 1) P1 [] with
            | error f =>
              rw [hk] at HC
              have HP : Hid (R = .error f) := Lib.hid (by rw [HR3.out, hk]; rfl)
              clear hk HR3 IH
              go_wp2_with (go_at_call 43; refine HC.out.mono ?_; rintro e w4 ⟨rfl, hE4, hK4⟩; obtain ⟨x0, x1, x2, x3, x4, x5, x6, x7, x8, xf⟩ := nine (hK4.heap (by exact HF7.out) (by simp; omega)); have hg4 := hK4.heap (by exact HG7.out) (by simp; omega); obtain ⟨z0, z1, z2, z3, z4, z5, z6, z7, z8, zf⟩ := nine hg4; have HE4 := Lib.hid hE4; have HK4 := Lib.hid hK4; clear hE4 hK4 hg4)
              refine bodyPost_ret (v := .tuple #[.agg #[.int .i8 2, .slice none 0 0, .string ⟨#[]⟩, .string ⟨#[]⟩, .string ⟨#[]⟩, .slice none 0 0, .string ⟨#[]⟩, .string ⟨#[]⟩, .bool false], .bool false]) (by simp [results, Tryz.results26, go_sem, x0, x1, x2, x3, x4, x5, x6, x7, x8]) rfl ?_
              rw [HP.out]
              exact FRetX.mkErr (cs := [.int .i8 2, .slice none 0 0, .string ⟨#[]⟩, .string ⟨#[]⟩, .string ⟨#[]⟩, .slice none 0 0, .string ⟨#[]⟩, .string ⟨#[]⟩, .bool false]) (HE4.out.keep1 ((Keep.refl [w.heap.size + 1] w4).setCell _ _ (.inl (by simp))) (by simp; omega)) ((HK7.out.trans HK4.out).setCell _ _ (.inr (by simp))) hbw
            | ok t =>
              obtain ⟨l, j, q⟩ := t
              rw [hk] at HC
              have hlt := kidsP_ok (fun a b c => filterP_ok a b c) (by omega) (by omega) hk
              have HR4 : Hid (R = closeP s (.ok (.mk ⟨2, noText, noText, noText, [], noText, noText, false⟩ l, j, q))) := Lib.hid (by rw [HR3.out, hk]; rfl)
              clear hk HR3 IH
              have HT := Lib.hid (fun W h => xtakes_any b j q 41 s W hsm h)
              cases ht : takeP s j 41 with
              | error f =>
                rw [ht] at HT
                have HP : Hid (R = .error f) := Lib.hid (by rw [HR4.out]; first | exact closeP_e ht | exact closeP_k ht)
                clear ht HR4
                go_wp2_with (first
                  | (go_at_call 43; refine HC.out.mono ?_; rintro e w4 ⟨kv, rfl, hQ4, hR4, hK4⟩; obtain ⟨ka, kc, rfl⟩ := hQ4.slice; have hg4 := hK4.heap (by exact HG7.out) (by simp; omega); obtain ⟨z0, z1, z2, z3, z4, z5, z6, z7, z8, zf⟩ := nine hg4; have HG8 : Hid ((w4.setCell ⟨w.heap.size + 1, 1, none⟩ (.slice ka l.length kc)).heap[w.heap.size + 1]? = some (.cells #[.int .i8 2, .slice ka l.length kc, .string ⟨#[]⟩, .string ⟨#[]⟩, .string ⟨#[]⟩, .slice none 0 0, .string ⟨#[]⟩, .string ⟨#[]⟩, .bool false] 26 (0, 0))) := Lib.hid (setCell_at hg4 1 _); have HF8 : Hid ((w4.setCell ⟨w.heap.size + 1, 1, none⟩ (.slice ka l.length kc)).heap[w.heap.size]? = some (.cells #[.int .i8 0, .slice none 0 0, .string ⟨#[]⟩, .string ⟨#[]⟩, .string ⟨#[]⟩, .slice none 0 0, .string ⟨#[]⟩, .string ⟨#[]⟩, .bool false] 26 (0, 0))) := Lib.hid ((setCell_ne _ (show w.heap.size ≠ w.heap.size + 1 by omega)).trans (hK4.heap (by exact HF7.out) (by simp; omega))); have HR8 : Hid (Rx (w4.setCell ⟨w.heap.size + 1, 1, none⟩ (.slice ka l.length kc)) b s j q) := Lib.hid ((setCell_ne _ (show b ≠ w.heap.size + 1 by omega)).trans hR4); have HQ4 := Lib.hid hQ4; have HK4 := Lib.hid hK4; clear hQ4 hR4 hK4 hg4)
                  | (go_at_call 45; refine (HT.out _ (by exact HR8.out)).mono ?_; intro e w5 hw; obtain ⟨rfl, hE5, hK5⟩ := WentX.err hw; clear hw z0 z1 z2 z3 z4 z5 z6 z7 z8 zf; obtain ⟨x0, x1, x2, x3, x4, x5, x6, x7, x8, xf⟩ := nine (hK5.heap (by exact HF8.out) (by simp; omega)); obtain ⟨z0, z1, z2, z3, z4, z5, z6, z7, z8, zf⟩ := nine (hK5.heap (by exact HG8.out) (by simp; omega)); have HE5 := Lib.hid hE5; have HK5 := Lib.hid hK5; clear hE5 hK5))
                refine bodyPost_ret (v := .tuple #[.agg #[.int .i8 2, .slice ka l.length kc, .string ⟨#[]⟩, .string ⟨#[]⟩, .string ⟨#[]⟩, .slice none 0 0, .string ⟨#[]⟩, .string ⟨#[]⟩, .bool false], .bool false]) (by simp [results, Tryz.results26, go_sem, x0, x1, x2, x3, x4, x5, x6, x7, x8]) rfl ?_
                rw [HP.out]
                exact FRetX.mkErr (cs := [.int .i8 2, .slice ka l.length kc, .string ⟨#[]⟩, .string ⟨#[]⟩, .string ⟨#[]⟩, .slice none 0 0, .string ⟨#[]⟩, .string ⟨#[]⟩, .bool false]) HE5.out (((HK7.out.trans HK4.out).setCell _ _ (.inr (by simp))).trans HK5.out) hbw
              | ok j2 =>
                rw [ht] at HT
                have HP : Hid (R = .ok (.mk ⟨2, noText, noText, noText, [], noText, noText, false⟩ l, j2, q)) := Lib.hid (by rw [HR4.out]; first | exact closeP_e ht | exact closeP_k ht)
                clear ht HR4
                go_wp2_with (first
                  | (go_at_call 43; refine HC.out.mono ?_; rintro e w4 ⟨kv, rfl, hQ4, hR4, hK4⟩; obtain ⟨ka, kc, rfl⟩ := hQ4.slice; have hg4 := hK4.heap (by exact HG7.out) (by simp; omega); obtain ⟨z0, z1, z2, z3, z4, z5, z6, z7, z8, zf⟩ := nine hg4; have HG8 : Hid ((w4.setCell ⟨w.heap.size + 1, 1, none⟩ (.slice ka l.length kc)).heap[w.heap.size + 1]? = some (.cells #[.int .i8 2, .slice ka l.length kc, .string ⟨#[]⟩, .string ⟨#[]⟩, .string ⟨#[]⟩, .slice none 0 0, .string ⟨#[]⟩, .string ⟨#[]⟩, .bool false] 26 (0, 0))) := Lib.hid (setCell_at hg4 1 _); have HF8 : Hid ((w4.setCell ⟨w.heap.size + 1, 1, none⟩ (.slice ka l.length kc)).heap[w.heap.size]? = some (.cells #[.int .i8 0, .slice none 0 0, .string ⟨#[]⟩, .string ⟨#[]⟩, .string ⟨#[]⟩, .slice none 0 0, .string ⟨#[]⟩, .string ⟨#[]⟩, .bool false] 26 (0, 0))) := Lib.hid ((setCell_ne _ (show w.heap.size ≠ w.heap.size + 1 by omega)).trans (hK4.heap (by exact HF7.out) (by simp; omega))); have HR8 : Hid (Rx (w4.setCell ⟨w.heap.size + 1, 1, none⟩ (.slice ka l.length kc)) b s j q) := Lib.hid ((setCell_ne _ (show b ≠ w.heap.size + 1 by omega)).trans hR4); have HQ4 := Lib.hid hQ4; have HK4 := Lib.hid hK4; clear hQ4 hR4 hK4 hg4)
                  | (go_at_call 45; refine (HT.out _ (by exact HR8.out)).mono ?_; intro e w5 hw; obtain ⟨rfl, hR5, hK5⟩ := WentX.ok hw; clear hw z0 z1 z2 z3 z4 z5 z6 z7 z8 zf; obtain ⟨x0, x1, x2, x3, x4, x5, x6, x7, x8, xf⟩ := nine (hK5.heap (by exact HF8.out) (by simp; omega)); obtain ⟨z0, z1, z2, z3, z4, z5, z6, z7, z8, zf⟩ := nine (hK5.heap (by exact HG8.out) (by simp; omega)); have HR5 := Lib.hid hR5; have HK5 := Lib.hid hK5; clear hR5 hK5))
                refine bodyPost_ret (v := .tuple #[.agg #[.int .i8 2, .slice ka l.length kc, .string ⟨#[]⟩, .string ⟨#[]⟩, .string ⟨#[]⟩, .slice none 0 0, .string ⟨#[]⟩, .string ⟨#[]⟩, .bool false], .bool true]) (by simp [results, Tryz.results26, go_sem, x0, x1, x2, x3, x4, x5, x6, x7, x8]) rfl ?_
                rw [HP.out]
                have hKs : Keep [w.heap.size + 1] w4 (w4.setCell ⟨w.heap.size + 1, 1, none⟩ (.slice ka l.length kc)) := (Keep.refl _ _).setCell _ _ (.inl (by simp))
                have hs7 : (((W6.setCell ⟨b, 1, none⟩ (.int .i64 ((i : Int) + 1 + 1))).setCell ⟨w.heap.size + 1, 0, none⟩ (.int .i8 0)).setCell ⟨w.heap.size + 1, 0, none⟩ (.int .i8 2)).heap.size = W6.heap.size := by simp
                have hQ5 := (HQ4.out.keep hKs (by rw [hs7]; simp; omega)).keep HK5.out (by rw [hs7]; simp; omega)
                exact FRetX.mkOk (g := .mk ⟨2, noText, noText, noText, [], noText, noText, false⟩ l) (cs := [.int .i8 2, .slice ka l.length kc, .string ⟨#[]⟩, .string ⟨#[]⟩, .string ⟨#[]⟩, .slice none 0 0, .string ⟨#[]⟩, .string ⟨#[]⟩, .bool false]) (hQ5.flt ⟨2, noText, noText, noText, [], noText, noText, false⟩ rfl) (by rw [hs7]; omega) (Nat.le_trans hKs.size HK5.out.size) HR5.out (((HK7.out.trans HK4.out).setCell _ _ (.inr (by simp))).trans HK5.out) hbw
          · have HR3 : Hid (R = closeP s (itemF P1 (itemP s (i + 1)))) := Lib.hid (by rw [HR2.out, hm])
            clear HR2 hm HMC IH
            have HC := Lib.hid (xitem_any b (i + 1) P1 s W6 hs hi HS7.out.R)
            have hz7 : w.heap.size + 1 < W6.heap.size := lt_of_block HS7.out.G
            cases hk : itemP s (i + 1) with
            | error f =>
              rw [hk] at HC
              have HP : Hid (R = .error f) := Lib.hid (by rw [HR3.out, hk]; rfl)
              clear hk HR3
              go_wp2_with (go_at_call 44; refine HC.out.mono ?_; rintro e w4 ⟨_, ⟨k, a1, n1, c1, d0, v0, st, a2, n2, c2, fi, ru, dn, rfl⟩, rfl, hE4, hK4⟩; obtain ⟨x0, x1, x2, x3, x4, x5, x6, x7, x8, xf⟩ := nine (hK4.heap (by exact HS7.out.F) (by simp; omega)); have hg4 := hK4.heap (by exact HS7.out.G) (by simp; omega); obtain ⟨z0, z1, z2, z3, z4, z5, z6, z7, z8, zf⟩ := nine hg4; have HE4 := Lib.hid hE4; have HK4 := Lib.hid hK4; clear hE4 hK4 hg4)
              refine bodyPost_ret (v := .tuple #[.agg #[.int .i8 k, .slice a1 n1 c1, .string d0, .string v0, .string st, .slice a2 n2 c2, .string fi, .string ru, .bool dn], .bool false]) (by simp [results, Tryz.results26, go_sem, x0, x1, x2, x3, x4, x5, x6, x7, x8]) rfl ?_
              rw [HP.out]
              exact FRetX.mkErr (w2 := w4.setCells (w.heap.size + 1) 0 [.int .i8 k, .slice a1 n1 c1, .string d0, .string v0, .string st, .slice a2 n2 c2, .string fi, .string ru, .bool dn]) (cs := [.int .i8 k, .slice a1 n1 c1, .string d0, .string v0, .string st, .slice a2 n2 c2, .string fi, .string ru, .bool dn]) (HE4.out.keep1 (setCells_keep (S := [w.heap.size + 1]) (.inl (by simp)) [.int .i8 k, .slice a1 n1 c1, .string d0, .string v0, .string st, .slice a2 n2 c2, .string fi, .string ru, .bool dn] 0 w4 (Keep.refl _ _)) (by simp; omega)) (setCells_keep (.inr (by simp)) [.int .i8 k, .slice a1 n1 c1, .string d0, .string v0, .string st, .slice a2 n2 c2, .string fi, .string ru, .bool dn] 0 w4 (HS7.out.K.trans HK4.out)) hbw
            | ok t =>
              obtain ⟨it, j⟩ := t
              rw [hk] at HC
              have hlt := itemP_le hk
              have HR4 : Hid (R = closeP s (.ok (.mk it [], j, P1))) := Lib.hid (by rw [HR3.out, hk]; rfl)
              clear hk HR3
              have HT := Lib.hid (fun W h => xtakes_any b j P1 41 s W hsm h)
              cases ht : takeP s j 41 with
              | error f =>
                rw [ht] at HT
                have HP : Hid (R = .error f) := Lib.hid (by rw [HR4.out]; first | exact closeP_e ht | exact closeP_k ht)
                clear ht HR4
                go_wp2_with (first
                  | (go_at_call 44; refine HC.out.mono ?_; rintro e w4 ⟨a2, c2, rfl, hO4, hR4, hK4⟩; have hg4 := hK4.heap (by exact HS7.out.G) (by simp; omega); obtain ⟨z0, z1, z2, z3, z4, z5, z6, z7, z8, zf⟩ := nine hg4; have HG8 : Hid ((w4.setCells (w.heap.size + 1) 0 [.int .i8 it.kind, .slice none 0 0, .string it.desc, .string it.value, .string it.start, .slice a2 it.mids.length c2, .string it.fin, .string it.rule, .bool it.dn]).heap[w.heap.size + 1]? = some (.cells #[.int .i8 it.kind, .slice none 0 0, .string it.desc, .string it.value, .string it.start, .slice a2 it.mids.length c2, .string it.fin, .string it.rule, .bool it.dn] 26 (0, 0))) := Lib.hid (nine_block hg4 _ _ _ _ _ _ _ _ _); have HF8 : Hid ((w4.setCells (w.heap.size + 1) 0 [.int .i8 it.kind, .slice none 0 0, .string it.desc, .string it.value, .string it.start, .slice a2 it.mids.length c2, .string it.fin, .string it.rule, .bool it.dn]).heap[w.heap.size]? = some (.cells #[.int .i8 0, .slice none 0 0, .string ⟨#[]⟩, .string ⟨#[]⟩, .string ⟨#[]⟩, .slice none 0 0, .string ⟨#[]⟩, .string ⟨#[]⟩, .bool false] 26 (0, 0))) := Lib.hid ((setCells_ne (show w.heap.size ≠ w.heap.size + 1 by omega) _ _ _).trans (hK4.heap (by exact HS7.out.F) (by simp; omega))); have HR8 : Hid (Rx (w4.setCells (w.heap.size + 1) 0 [.int .i8 it.kind, .slice none 0 0, .string it.desc, .string it.value, .string it.start, .slice a2 it.mids.length c2, .string it.fin, .string it.rule, .bool it.dn]) b s j P1) := Lib.hid ((setCells_ne (show b ≠ w.heap.size + 1 by omega) _ _ _).trans hR4); have HO4 := Lib.hid hO4; have HK4 := Lib.hid hK4; clear hO4 hR4 hK4 hg4)
                  | (go_at_call 45; refine (HT.out _ (by exact HR8.out)).mono ?_; intro e w5 hw; obtain ⟨rfl, hE5, hK5⟩ := WentX.err hw; clear hw z0 z1 z2 z3 z4 z5 z6 z7 z8 zf; obtain ⟨x0, x1, x2, x3, x4, x5, x6, x7, x8, xf⟩ := nine (hK5.heap (by exact HF8.out) (by simp; omega)); obtain ⟨z0, z1, z2, z3, z4, z5, z6, z7, z8, zf⟩ := nine (hK5.heap (by exact HG8.out) (by simp; omega)); have HE5 := Lib.hid hE5; have HK5 : Hid (Keep [b] (w4.setCells (w.heap.size + 1) 0 [.int .i8 it.kind, .slice none 0 0, .string it.desc, .string it.value, .string it.start, .slice a2 it.mids.length c2, .string it.fin, .string it.rule, .bool it.dn]) w5) := Lib.hid hK5; clear hE5 hK5))
                refine bodyPost_ret (v := .tuple #[.agg #[.int .i8 it.kind, .slice none 0 0, .string it.desc, .string it.value, .string it.start, .slice a2 it.mids.length c2, .string it.fin, .string it.rule, .bool it.dn], .bool false]) (by simp [results, Tryz.results26, go_sem, x0, x1, x2, x3, x4, x5, x6, x7, x8]) rfl ?_
                rw [HP.out]
                exact FRetX.mkErr (cs := [.int .i8 it.kind, .slice none 0 0, .string it.desc, .string it.value, .string it.start, .slice a2 it.mids.length c2, .string it.fin, .string it.rule, .bool it.dn]) HE5.out ((setCells_keep (.inr (by simp)) [.int .i8 it.kind, .slice none 0 0, .string it.desc, .string it.value, .string it.start, .slice a2 it.mids.length c2, .string it.fin, .string it.rule, .bool it.dn] 0 w4 (HS7.out.K.trans HK4.out)).trans HK5.out) hbw
              | ok j2 =>
                rw [ht] at HT
                have HP : Hid (R = .ok (.mk it [], j2, P1)) := Lib.hid (by rw [HR4.out]; first | exact closeP_e ht | exact closeP_k ht)
                clear ht HR4
                go_wp2_with (first
                  | (go_at_call 44; refine HC.out.mono ?_; rintro e w4 ⟨a2, c2, rfl, hO4, hR4, hK4⟩; have hg4 := hK4.heap (by exact HS7.out.G) (by simp; omega); obtain ⟨z0, z1, z2, z3, z4, z5, z6, z7, z8, zf⟩ := nine hg4; have HG8 : Hid ((w4.setCells (w.heap.size + 1) 0 [.int .i8 it.kind, .slice none 0 0, .string it.desc, .string it.value, .string it.start, .slice a2 it.mids.length c2, .string it.fin, .string it.rule, .bool it.dn]).heap[w.heap.size + 1]? = some (.cells #[.int .i8 it.kind, .slice none 0 0, .string it.desc, .string it.value, .string it.start, .slice a2 it.mids.length c2, .string it.fin, .string it.rule, .bool it.dn] 26 (0, 0))) := Lib.hid (nine_block hg4 _ _ _ _ _ _ _ _ _); have HF8 : Hid ((w4.setCells (w.heap.size + 1) 0 [.int .i8 it.kind, .slice none 0 0, .string it.desc, .string it.value, .string it.start, .slice a2 it.mids.length c2, .string it.fin, .string it.rule, .bool it.dn]).heap[w.heap.size]? = some (.cells #[.int .i8 0, .slice none 0 0, .string ⟨#[]⟩, .string ⟨#[]⟩, .string ⟨#[]⟩, .slice none 0 0, .string ⟨#[]⟩, .string ⟨#[]⟩, .bool false] 26 (0, 0))) := Lib.hid ((setCells_ne (show w.heap.size ≠ w.heap.size + 1 by omega) _ _ _).trans (hK4.heap (by exact HS7.out.F) (by simp; omega))); have HR8 : Hid (Rx (w4.setCells (w.heap.size + 1) 0 [.int .i8 it.kind, .slice none 0 0, .string it.desc, .string it.value, .string it.start, .slice a2 it.mids.length c2, .string it.fin, .string it.rule, .bool it.dn]) b s j P1) := Lib.hid ((setCells_ne (show b ≠ w.heap.size + 1 by omega) _ _ _).trans hR4); have HO4 := Lib.hid hO4; have HK4 := Lib.hid hK4; clear hO4 hR4 hK4 hg4)
                  | (go_at_call 45; refine (HT.out _ (by exact HR8.out)).mono ?_; intro e w5 hw; obtain ⟨rfl, hR5, hK5⟩ := WentX.ok hw; clear hw z0 z1 z2 z3 z4 z5 z6 z7 z8 zf; obtain ⟨x0, x1, x2, x3, x4, x5, x6, x7, x8, xf⟩ := nine (hK5.heap (by exact HF8.out) (by simp; omega)); obtain ⟨z0, z1, z2, z3, z4, z5, z6, z7, z8, zf⟩ := nine (hK5.heap (by exact HG8.out) (by simp; omega)); have HR5 := Lib.hid hR5; have HK5 : Hid (Keep [b] (w4.setCells (w.heap.size + 1) 0 [.int .i8 it.kind, .slice none 0 0, .string it.desc, .string it.value, .string it.start, .slice a2 it.mids.length c2, .string it.fin, .string it.rule, .bool it.dn]) w5) := Lib.hid hK5; clear hR5 hK5))
                refine bodyPost_ret (v := .tuple #[.agg #[.int .i8 it.kind, .slice none 0 0, .string it.desc, .string it.value, .string it.start, .slice a2 it.mids.length c2, .string it.fin, .string it.rule, .bool it.dn], .bool true]) (by simp [results, Tryz.results26, go_sem, x0, x1, x2, x3, x4, x5, x6, x7, x8]) rfl ?_
                rw [HP.out]
                have hKs : Keep [w.heap.size + 1] w4 (w4.setCells (w.heap.size + 1) 0 [.int .i8 it.kind, .slice none 0 0, .string it.desc, .string it.value, .string it.start, .slice a2 it.mids.length c2, .string it.fin, .string it.rule, .bool it.dn]) := setCells_keep (.inl (by simp)) [.int .i8 it.kind, .slice none 0 0, .string it.desc, .string it.value, .string it.start, .slice a2 it.mids.length c2, .string it.fin, .string it.rule, .bool it.dn] 0 w4 (Keep.refl _ _)
                have hO5 := own_keepV (own_keepV HO4.out hKs (by simp; omega)) HK5.out (by simp; omega)
                exact FRetX.mkOk (g := .mk it []) (cs := [.int .i8 it.kind, .slice none 0 0, .string it.desc, .string it.value, .string it.start, .slice a2 it.mids.length c2, .string it.fin, .string it.rule, .bool it.dn]) (FltR.leaf hO5 (Nat.le_refl _)) (by omega) (Nat.le_refl _) HR5.out ((setCells_keep (.inr (by simp)) [.int .i8 it.kind, .slice none 0 0, .string it.desc, .string it.value, .string it.start, .slice a2 it.mids.length c2, .string it.fin, .string it.rule, .bool it.dn] 0 w4 (HS7.out.K.trans HK4.out)).trans HK5.out) hbw

theorem xfilter_any (b : Nat) (s : ByteArray) (hs : s.size ≤ 1048576) : ∀ (rem : Nat) (d : Int) (i p : Nat) (w : World), rem ≤ 64 → d + rem = 65 → i ≤ s.size → p ≤ 65536 → Rx w b s i p →
    Calls Tryz.prog 26 #[.pointer (some ⟨b, 0, none⟩), .int .i64 d] w (FRetX b s w (filterP s rem i p)) := by
  intro rem
  induction rem with
  | zero =>
    intro d i p w hr hd hi hp hR
    cases ht : takeP s i 40 with
    | error f =>
      rw [filterP, ht]
      exact xfilter_shut b i p d s f w hs hR ht
    | ok k =>
      obtain ⟨rfl, _⟩ := takeP_ok ht
      exact xfilter_open b i p 0 d s w hs hp hR ht hd hr fun _ h => by omega
  | succ rem ih =>
    intro d i p w hr hd hi hp hR
    cases ht : takeP s i 40 with
    | error f =>
      rw [filterP, ht]
      exact xfilter_shut b i p d s f w hs hR ht
    | ok k =>
      obtain ⟨rfl, _⟩ := takeP_ok ht
      refine xfilter_open b i p (rem + 1) d s w hs hp hR ht hd hr fun rem' h i p w h1 h2 h3 => ?_
      obtain rfl : rem = rem' := by omega
      exact ih (d + 1) i p w (by omega) (by omega) h1 h2 h3
end Go.Proofs.YtjmpcoedfoaebaaGreatDoor
