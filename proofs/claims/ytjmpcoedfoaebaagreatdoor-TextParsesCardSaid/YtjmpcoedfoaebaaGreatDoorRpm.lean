/- The reference's reader: item. -/
import Derived.Test.YtjmpcoedfoaebaaGreatDoorRpk
open Go Go.RowKit
namespace Go.Proofs.YtjmpcoedfoaebaaGreatDoor

/-- What a call that answers an item answers, whatever it is. -/
theorem ItX.shape {b p : Nat} {s : ByteArray} {w w' : World} {r : Except (Int × Nat) (Itm × Nat)} {e : Ending} (h : ItX b s p w r e w') : ∃ (k : Int) (a1 : Option Addr) (n1 c1 : Nat) (d v st : ByteArray) (a2 : Option Addr) (n2 c2 : Nat) (fi ru : ByteArray) (dn ok : Bool),
    e = .returned (.tuple #[.agg #[.int .i8 k, .slice a1 n1 c1, .string d, .string v, .string st, .slice a2 n2 c2, .string fi, .string ru, .bool dn], .bool ok]) := by
  cases r with
  | error f =>
    obtain ⟨x, ⟨k, a1, n1, c1, d, v, st, a2, n2, c2, fi, ru, dn, rfl⟩, rfl, _⟩ := h
    exact ⟨_, _, _, _, _, _, _, _, _, _, _, _, _, _, rfl⟩
  | ok t =>
    obtain ⟨a2, c2, rfl, _⟩ := h
    exact ⟨_, _, _, _, _, _, _, _, _, _, _, _, _, _, rfl⟩
/-- .. and it still has answered that when the answer is stored in the caller's own variable. -/
theorem ItX.store {b p : Nat} {s : ByteArray} {w W w2 : World} {r : Except (Int × Nat) (Itm × Nat)} {e : Ending} (h : ItX b s p W r e w2) (hK : Keep [b] w W) (hb : b < w.heap.size) (hlt : w.heap.size < W.heap.size) (cs : List Value) :
    ItX b s p w r e (w2.setCells w.heap.size 0 cs) := by
  have hKr : Keep [w.heap.size] w2 (w2.setCells w.heap.size 0 cs) := setCells_keep (.inl (by simp)) _ 0 w2 (Keep.refl _ _)
  cases r with
  | error f =>
    obtain ⟨x, hx, rfl, hE, hK2⟩ := h
    exact ⟨x, hx, rfl, hE.keep1 hKr (by simp; omega), (hK.trans hK2).transTo hKr (by simp)⟩
  | ok t =>
    obtain ⟨a2, c2, rfl, hO, hR, hK2⟩ := h
    exact ⟨a2, c2, rfl, owns_mono (own_keepV hO hKr (by simp; omega)) (by omega), hR.keep hKr (by simp; omega), (hK.trans hK2).transTo hKr (by simp)⟩
/-- An item of two signs: the answer. -/
theorem ItX.two {b p j q : Nat} {s d v : ByteArray} {k : Int} {w w2 : World} (hR : Rx w2 b s q p) (hK : Keep [b] w w2) (hd : cmpItm k d (valueP false s j) = .ok (⟨k, d, v, noText, [], noText, noText, false⟩, q)) :
    ItX b s p w (cmpItm k d (valueP false s j)) (.returned (.tuple #[.agg #[.int .i8 k, .slice none 0 0, .string d, .string v, .string ⟨#[]⟩, .slice none 0 0, .string ⟨#[]⟩, .string ⟨#[]⟩, .bool false], .bool true])) w2 := by
  rw [hd]
  exact ⟨none, 0, rfl, World.ownsRow_nil _ _ _ _, hR, hK⟩

/-- Where a walk of item stands: the reader, the answer's variable, the item's own, which holds a description. -/
structure ItSt (w : World) (b : Nat) (s d : ByteArray) (i p : Nat) (W : World) : Prop where
  R : Rx W b s i p
  F : W.heap[w.heap.size]? = some (.cells #[.int .i8 0, .slice none 0 0, .string ⟨#[]⟩, .string ⟨#[]⟩, .string ⟨#[]⟩, .slice none 0 0, .string ⟨#[]⟩, .string ⟨#[]⟩, .bool false] 26 (0, 0))
  G : W.heap[w.heap.size + 1]? = some (.cells #[.int .i8 0, .slice none 0 0, .string d, .string ⟨#[]⟩, .string ⟨#[]⟩, .slice none 0 0, .string ⟨#[]⟩, .string ⟨#[]⟩, .bool false] 26 (0, 0))
  K : Keep [b] w W
theorem ItSt.drewN {w W : World} {b : Nat} {s d : ByteArray} {i p : Nat} (h : ItSt w b s d i p W) (n : Nat) : ItSt w b s d i p (W.drewN n) := ⟨h.R, h.F, h.G, h.K.drewN n⟩
theorem ItSt.start {w : World} {b : Nat} {s : ByteArray} {i p : Nat} (h : Rx w b s i p) : ItSt w b s ⟨#[]⟩ i p (TwoF w 0 ⟨#[]⟩) := ⟨h.keep0 (TwoF.keep _ _ _), TwoF.own _ _ _, TwoF.res _ _ _, (TwoF.keep _ _ _).of0⟩
theorem ItSt.at {w W : World} {b : Nat} {s d : ByteArray} {i p : Nat} (h : ItSt w b s d i p W) (hb : b < w.heap.size) (j : Nat) : ItSt w b s d j p (W.setCell ⟨b, 1, none⟩ (.int .i64 j)) :=
  ⟨h.R.setAt j, (setCell_ne _ (show w.heap.size ≠ b by omega)).trans h.F, (setCell_ne _ (show w.heap.size + 1 ≠ b by omega)).trans h.G, h.K.setCell _ _ (.inl (by simp))⟩
theorem ItSt.size {w W : World} {b : Nat} {s d : ByteArray} {i p : Nat} (h : ItSt w b s d i p W) : w.heap.size < W.heap.size := lt_of_block h.F
theorem ItX.ret {b p : Nat} {s : ByteArray} {w W w2 : World} {r : Except (Int × Nat) (Itm × Nat)} {e : Ending} (h : ItX b s p W r e w2) (hb : b < w.heap.size) {x0 x1 x2 x3 x4 x5 x6 x7 x8 : Value} (hF : W.heap[w.heap.size]? = some (.cells #[x0, x1, x2, x3, x4, x5, x6, x7, x8] 26 (0, 0))) :
    w2.heap[w.heap.size]? = some (.cells #[x0, x1, x2, x3, x4, x5, x6, x7, x8] 26 (0, 0)) := by
  have hK2 : Keep [b] W w2 := by
    cases r with
    | error f => obtain ⟨_, _, _, _, h⟩ := h; exact h
    | ok t => obtain ⟨_, _, _, _, _, h⟩ := h; exact h
  exact hK2.heap hF (by simp; omega)

set_option maxRecDepth 100000 in
set_option maxHeartbeats 2000000 in
theorem xitem_bare (b i p : Nat) (s : ByteArray) (w : World) (hs : s.size ≤ 1048576) (hx : nextB s i 58 = true) (hR : Rx w b s i p) :
    Calls Tryz.prog 44 #[.pointer (some ⟨b, 0, none⟩)] w (ItX b s p w (ruleP s (i + 1) noText)) := by
  have hsm : s.size ≤ maxLen := by unfold maxLen; omega
  have hbw := hR.lt
  obtain ⟨hi, h58⟩ := next_yes hx
  have h58' : s[i] = 58 := by rw [← peekB_in hi]; exact h58
  have hS0 := ItSt.start hR
  unfold TwoF at hS0
  have HS0 := Lib.hid hS0
  have HX := Lib.hid (fun W h => xnext_any b i p 58 s W h)
  rw [hx] at HX
  have HE := Lib.hid (fun W h => xextensible_any b i p ⟨#[]⟩ s W hs hi h58 h)
  have h58i : ((i : Int)) < s.size := by omega
  clear hR hx h58 hS0
  go_enter Tryz.func44, Tryz.ntmps44
  go_wp2_with (go_at_call 41; refine (HX.out _ (by exact HS0.out.R)).mono ?_; rintro e w' ⟨rfl, n, rfl⟩; have HS1 := Lib.hid (HS0.out.drewN n))
  obtain ⟨W1, hW1⟩ : ∃ W1, W1 = ((w.alloc (.cells #[.int .i8 0, .slice none 0 0, .string ⟨#[]⟩, .string ⟨#[]⟩, .string ⟨#[]⟩, .slice none 0 0, .string ⟨#[]⟩, .string ⟨#[]⟩, .bool false] 26)).alloc (.cells #[.int .i8 0, .slice none 0 0, .string ⟨#[]⟩, .string ⟨#[]⟩, .string ⟨#[]⟩, .slice none 0 0, .string ⟨#[]⟩, .string ⟨#[]⟩, .bool false] 26)).drewN n := ⟨_, rfl⟩
  rw [← hW1] at HS1 ⊢
  have r0 := HS1.out.R.c0
  have r1 := HS1.out.R.c1
  clear hW1 HS0 HX
  go_quiet (fail)
  have HS2 := Lib.hid (HS1.out.drewN nq)
  obtain ⟨W2, hW2⟩ : ∃ W2, W2 = W1.drewN nq := ⟨_, rfl⟩
  rw [← hW2] at HS2 ⊢
  clear hW2 r0 r1
  have r0 := HS2.out.R.c0
  have r1 := HS2.out.R.c1
  go_wp2_with fail
  go_quiet (fail)
  have HS3 := Lib.hid (HS2.out.drewN nq)
  obtain ⟨W3, hW3⟩ : ∃ W3, W3 = W2.drewN nq := ⟨_, rfl⟩
  rw [← hW3] at HS3 ⊢
  clear hW3 r0 r1
  obtain ⟨y0, y1, y2, y3, y4, y5, y6, y7, y8, yf⟩ := nine HS3.out.G
  go_wp2_with (go_at_call 69; refine (HE.out _ HS3.out.R).mono ?_; intro e w4 hw; obtain ⟨x0, x1, x2, x3, x4, x5, x6, x7, x8, xf⟩ := nine (hw.ret hbw HS3.out.F); have HW := Lib.hid hw; obtain ⟨k, a1, n1, c1, d, v, st, a2, n2, c2, fi, ru, dn, ok, rfl⟩ := hw.shape; clear hw)
  refine bodyPost_ret (v := .tuple #[.agg #[.int .i8 k, .slice a1 n1 c1, .string d, .string v, .string st, .slice a2 n2 c2, .string fi, .string ru, .bool dn], .bool ok]) (by simp [results, Tryz.results44, go_sem, x0, x1, x2, x3, x4, x5, x6, x7, x8]) rfl ?_
  exact HW.out.store HS3.out.K hbw HS3.out.size [.int .i8 k, .slice a1 n1 c1, .string d, .string v, .string st, .slice a2 n2 c2, .string fi, .string ru, .bool dn]
/-! The item behind a description. -/

theorem ItSt.desc {w W W2 : World} {b : Nat} {s d : ByteArray} {i j p : Nat} (h : ItSt w b s ⟨#[]⟩ i p W) (hb : b < w.heap.size) (hR : Rx W2 b s j p) (hK : Keep [b] W W2) : ItSt w b s d j p (W2.setCell ⟨w.heap.size + 1, 2, none⟩ (.string d)) :=
  ⟨(setCell_ne _ (show b ≠ w.heap.size + 1 by omega)).trans hR, (setCell_ne _ (show w.heap.size ≠ w.heap.size + 1 by omega)).trans (hK.heap h.F (by simp; omega)), setCell_at (hK.heap h.G (by simp; omega)) 2 _, (h.K.trans hK).setCell _ _ (.inr (by simp))⟩

/-- A byte's tests, the byte being another. -/
theorem byte_no {c : UInt8} {k : UInt8} (h : c ≠ k) : ((c.toNat : Int) == k.toNat) = false := by
  rw [beq_eq_false_iff_ne]; intro e; exact h (UInt8.toNat_inj.1 (by omega))

set_option maxRecDepth 100000 in
set_option maxHeartbeats 4000000 in
theorem xitem_any (b i p : Nat) (s : ByteArray) (w : World) (hs : s.size ≤ 1048576) (hi : i ≤ s.size) (hR : Rx w b s i p) :
    Calls Tryz.prog 44 #[.pointer (some ⟨b, 0, none⟩)] w (ItX b s p w (itemP s i)) := by
  cases hx : nextB s i 58
  · have hne := next_no hx
    unfold itemP
    rw [if_neg hne]
    have hsm : s.size ≤ maxLen := by unfold maxLen; omega
    have hbw := hR.lt
    have hS0 := ItSt.start hR
    unfold TwoF at hS0
    have HS0 := Lib.hid hS0
    have HX := Lib.hid (fun W h => xnext_any b i p 58 s W h)
    rw [hx] at HX
    have HD := Lib.hid (fun W h => xdesc_any b i p s W hsm hi h)
    clear hR hx hS0 hne
    cases hd : descP s i with
    | error f =>
      rw [hd] at HD
      dsimp only
      clear hd
      go_enter Tryz.func44, Tryz.ntmps44
      go_wp2_with (first
        | (go_at_call 41; refine (HX.out _ (by exact HS0.out.R)).mono ?_; rintro e w' ⟨rfl, n, rfl⟩; have HS1 := Lib.hid (HS0.out.drewN n))
        | (go_at_call 37; refine (HD.out _ (by exact HS1.out.R)).mono ?_; intro e w3 hw; obtain ⟨rfl, hE3, hK3⟩ := GaveX.err hw; clear hw; obtain ⟨x0, x1, x2, x3, x4, x5, x6, x7, x8, xf⟩ := nine (hK3.heap (by exact HS1.out.F) (by simp; omega)); obtain ⟨y0, y1, y2, y3, y4, y5, y6, y7, y8, yf⟩ := nine (hK3.heap (by exact HS1.out.G) (by simp; omega)); have HE3 := Lib.hid hE3; have HK3 := Lib.hid hK3; clear hE3 hK3))
      refine bodyPost_ret (v := .tuple #[.agg #[.int .i8 0, .slice none 0 0, .string ⟨#[]⟩, .string ⟨#[]⟩, .string ⟨#[]⟩, .slice none 0 0, .string ⟨#[]⟩, .string ⟨#[]⟩, .bool false], .bool false]) (by simp [results, Tryz.results44, go_sem, x0, x1, x2, x3, x4, x5, x6, x7, x8]) rfl ?_
      have hKr : Keep [w.heap.size, w.heap.size + 1] w3 ((w3.setCell ⟨w.heap.size + 1, 2, none⟩ (.string ⟨#[]⟩)).setCells w.heap.size 0 [.int .i8 0, .slice none 0 0, .string ⟨#[]⟩, .string ⟨#[]⟩, .string ⟨#[]⟩, .slice none 0 0, .string ⟨#[]⟩, .string ⟨#[]⟩, .bool false]) := setCells_keep (.inl (by simp)) _ 0 _ ((Keep.refl _ _).setCell _ _ (.inl (by simp)))
      exact ⟨_, ⟨_, _, _, _, _, _, _, _, _, _, _, _, _, rfl⟩, rfl, HE3.out.keep1 hKr (by simp; omega), (HS1.out.K.trans HK3.out).transTo hKr (by simp)⟩
    | ok j =>
      rw [hd] at HD
      dsimp only
      obtain ⟨hij, hjs⟩ := descP_ok hd
      obtain ⟨D, hD⟩ : ∃ D, s.extract i j = D := ⟨_, rfl⟩
      rw [show textOf s i (.ok j) = .ok (D, j) from by rw [← hD]; rfl] at HD
      rw [hD]
      obtain ⟨R, hRR⟩ : ∃ R, itemD s j D = R := ⟨_, rfl⟩
      rw [hRR]
      have HRR := Lib.hid hRR
      clear hd hD hRR
      go_enter Tryz.func44, Tryz.ntmps44
      go_wp2_with (first
        | (go_at_call 41; refine (HX.out _ (by exact HS0.out.R)).mono ?_; rintro e w' ⟨rfl, n, rfl⟩; have HS1 := Lib.hid (HS0.out.drewN n))
        | (go_at_call 37; refine (HD.out _ (by exact HS1.out.R)).mono ?_; intro e w3 hw; obtain ⟨rfl, hR3, hK3⟩ := GaveX.ok hw; clear hw; have HS2 := Lib.hid (HS1.out.desc (d := D) hbw hR3 hK3); have q2 := free_of (hK3.heap (by exact HS1.out.G) (by simp; omega)) 2; have q3 := cell_of (hK3.heap (by exact HS1.out.G) (by simp; omega)) 2; clear hR3 hK3))
      obtain ⟨W2, hW2⟩ : ∃ W2, W2 = w3.setCell ⟨w.heap.size + 1, 2, none⟩ (.string D) := ⟨_, rfl⟩
      rw [← hW2] at HS2 ⊢
      clear hW2 HS0 HX HS1 HD q2 q3 hi
      by_cases hjl : s.size ≤ j
      · have hjI : (s.size : Int) ≤ (j : Int) := by omega
        have HP : Hid (R = .error (stuckF s j)) := Lib.hid (by
          rw [← HRR.out]
          unfold itemD
          rw [peekB_out hjl]; rfl)
        clear hjl
        have r0 := HS2.out.R.c0
        have r1 := HS2.out.R.c1
        go_wp2_with fail
        go_quiet (fail)
        have HS3 := Lib.hid (HS2.out.drewN nq)
        obtain ⟨W3, hW3⟩ : ∃ W, W = W2.drewN nq := ⟨_, rfl⟩
        rw [← hW3] at HS3 ⊢
        clear hW3 r0 r1
        obtain ⟨y0, y1, y2, y3, y4, y5, y6, y7, y8, yf⟩ := nine HS3.out.G
        go_wp2_with fail
        go_region_with (go_at_call 27; refine (xstuck_any b j p s _ hsm (by exact HS3.out.R)).mono ?_; rintro ev w3 ⟨rfl, hE3, hK3⟩; obtain ⟨x0, x1, x2, x3, x4, x5, x6, x7, x8, xf⟩ := nine (hK3.heap (by exact HS3.out.F) (by simp; omega)); obtain ⟨y0, y1, y2, y3, y4, y5, y6, y7, y8, yf⟩ := nine (hK3.heap (by exact HS3.out.G) (by simp; omega)); have HE3 := Lib.hid hE3; have HK3 : Hid (Keep [b] W3 w3) := Lib.hid (((Keep.refl [b] W3).drewN _).trans hK3); clear hE3 hK3)
        all_goals
          go_wp2_with fail
          refine bodyPost_ret (v := .tuple #[.agg #[.int .i8 0, .slice none 0 0, .string D, .string ⟨#[]⟩, .string ⟨#[]⟩, .slice none 0 0, .string ⟨#[]⟩, .string ⟨#[]⟩, .bool false], .bool false]) (by simp [results, Tryz.results44, go_sem, x0, x1, x2, x3, x4, x5, x6, x7, x8]) rfl ?_
          have hKr : Keep [w.heap.size] w3 (w3.setCells w.heap.size 0 [.int .i8 0, .slice none 0 0, .string D, .string ⟨#[]⟩, .string ⟨#[]⟩, .slice none 0 0, .string ⟨#[]⟩, .string ⟨#[]⟩, .bool false]) := setCells_keep (.inl (by simp)) _ 0 w3 (Keep.refl _ _)
          rw [HP.out]
          exact ⟨_, ⟨_, _, _, _, _, _, _, _, _, _, _, _, _, rfl⟩, rfl, HE3.out.keep1 hKr (by simp; omega), (HS3.out.K.trans HK3.out).transTo hKr (by simp)⟩
      · have hjl : j < s.size := by omega
        have hjI : (j : Int) < (s.size : Int) := by omega
        have hpk := peekB_in hjl
        obtain ⟨c, hc⟩ : ∃ c, s[j] = c := ⟨_, rfl⟩
        have HPK : Hid (peekB s j = c) := Lib.hid (hpk.trans hc)
        have HC := Lib.hid hc
        clear hpk hc
        have r0 := HS2.out.R.c0
        have r1 := HS2.out.R.c1
        go_wp2_with fail
        go_quiet (fail)
        have HS3 := Lib.hid (HS2.out.drewN nq)
        obtain ⟨W3, hW3⟩ : ∃ W, W = W2.drewN nq := ⟨_, rfl⟩
        rw [← hW3] at HS3 ⊢
        clear hW3 r0 r1
        have hc := HC.out
        have r0 := HS3.out.R.c0
        have r1 := HS3.out.R.c1
        go_wp2_with fail
        go_quiet (fail)
        have HS4 := Lib.hid (HS3.out.drewN nq)
        obtain ⟨W4, hW4⟩ : ∃ W, W = W3.drewN nq := ⟨_, rfl⟩
        rw [← hW4] at HS4 ⊢
        clear hW4 r0 r1
        clear hc
        obtain ⟨y0, y1, y2, y3, y4, y5, y6, y7, y8, yf⟩ := nine HS4.out.G
        by_cases h58 : c = 58
        · subst h58
          have HP : Hid (R = ruleP s (j + 1) D) := Lib.hid (by rw [← HRR.out]; unfold itemD; rw [if_pos HPK.out])
          have HE := Lib.hid (xextensible_any b j p D s W4 hs hjl HPK.out HS4.out.R)
          go_wp2_with (go_at_call 69; refine (HE.out).mono ?_; intro e w4 hw; obtain ⟨x0, x1, x2, x3, x4, x5, x6, x7, x8, xf⟩ := nine (hw.ret hbw HS4.out.F); have HW := Lib.hid hw; obtain ⟨k, a1, n1, c1, d, v, st, a2, n2, c2, fi, ru, dn, ok, rfl⟩ := hw.shape; clear hw)
          refine bodyPost_ret (v := .tuple #[.agg #[.int .i8 k, .slice a1 n1 c1, .string d, .string v, .string st, .slice a2 n2 c2, .string fi, .string ru, .bool dn], .bool ok]) (by simp [results, Tryz.results44, go_sem, x0, x1, x2, x3, x4, x5, x6, x7, x8]) rfl ?_
          rw [HP.out]
          exact HW.out.store HS4.out.K hbw HS4.out.size [.int .i8 k, .slice a1 n1 c1, .string d, .string v, .string st, .slice a2 n2 c2, .string fi, .string ru, .bool dn]
        · have t1 : ((c.toNat : Int) == 58) = false := byte_no (k := 58) h58
          by_cases h61 : c = 61
          · subst h61
            have HP : Hid (R = piecesP s (j + 1) D) := Lib.hid (by rw [← HRR.out]; unfold itemD; rw [HPK.out]; rfl)
            clear h58 t1
            have r1 := HS4.out.R.c1
            have rf := HS4.out.R.free 1
            have HS5 := Lib.hid (HS4.out.at hbw (j + 1))
            have HE := Lib.hid (xpieces_any b (j + 1) p D s _ hs hjl HS5.out.R)
            go_wp2_with (go_at_call 70; refine (HE.out).mono ?_; intro e w4 hw; obtain ⟨x0, x1, x2, x3, x4, x5, x6, x7, x8, xf⟩ := nine (hw.ret hbw HS5.out.F); have HW := Lib.hid hw; obtain ⟨k, a1, n1, c1, d, v, st, a2, n2, c2, fi, ru, dn, ok, rfl⟩ := hw.shape; clear hw)
            refine bodyPost_ret (v := .tuple #[.agg #[.int .i8 k, .slice a1 n1 c1, .string d, .string v, .string st, .slice a2 n2 c2, .string fi, .string ru, .bool dn], .bool ok]) (by simp [results, Tryz.results44, go_sem, x0, x1, x2, x3, x4, x5, x6, x7, x8]) rfl ?_
            rw [HP.out]
            exact HW.out.store HS5.out.K hbw HS5.out.size [.int .i8 k, .slice a1 n1 c1, .string d, .string v, .string st, .slice a2 n2 c2, .string fi, .string ru, .bool dn]
          · have t2 : ((c.toNat : Int) == 61) = false := byte_no (k := 61) h61
            have HI1 : Hid (R = match comparedP c with | some k => twoP s j D k | none => .error (stuckF s j)) := Lib.hid (by rw [← HRR.out]; unfold itemD; rw [HPK.out, if_neg h58, if_neg h61]; rfl)
            have HT := Lib.hid (fun W h => xtakes_any b (j + 1) p 61 s W hsm h)
            have HV := Lib.hid (fun q (W : World) (hq : q ≤ s.size) h => xvalue_any b q p false s W hs hq h)
            have HS5 := Lib.hid (HS4.out.at hbw (j + 1))
            have r1 := HS4.out.R.c1
            have rf := HS4.out.R.free 1
            clear h58 h61
            by_cases h126 : c = 126
            · subst h126
              have HP0 : Hid (R = twoP s j D 8) := Lib.hid (HI1.out.trans rfl)
              clear t1 t2 HI1
              cases ht : takeP s (j + 1) 61 with
              | error f =>
                rw [ht] at HT
                have HP : Hid (R = .error f) := Lib.hid (by rw [HP0.out]; unfold twoP; rw [ht])
                clear ht HV HP0
                go_wp2_with (go_at_call 45; refine (HT.out _ (by exact HS5.out.R)).mono ?_; intro e w3 hw; obtain ⟨rfl, hE3, hK3⟩ := WentX.err hw; clear hw y0 y1 y2 y3 y4 y5 y6 y7 y8 yf; obtain ⟨x0, x1, x2, x3, x4, x5, x6, x7, x8, xf⟩ := nine (hK3.heap (by exact HS5.out.F) (by simp; omega)); obtain ⟨y0, y1, y2, y3, y4, y5, y6, y7, y8, yf⟩ := nine (hK3.heap (by exact HS5.out.G) (by simp; omega)); have HE3 := Lib.hid hE3; have HK3 := Lib.hid hK3; clear hE3 hK3)
                refine bodyPost_ret (v := .tuple #[.agg #[.int .i8 8, .slice none 0 0, .string D, .string ⟨#[]⟩, .string ⟨#[]⟩, .slice none 0 0, .string ⟨#[]⟩, .string ⟨#[]⟩, .bool false], .bool false]) (by simp [results, Tryz.results44, go_sem, x0, x1, x2, x3, x4, x5, x6, x7, x8]) rfl ?_
                have hKr : Keep [w.heap.size, w.heap.size + 1] w3 ((w3.setCell ⟨w.heap.size + 1, 0, none⟩ (.int .i8 8)).setCells w.heap.size 0 [.int .i8 8, .slice none 0 0, .string D, .string ⟨#[]⟩, .string ⟨#[]⟩, .slice none 0 0, .string ⟨#[]⟩, .string ⟨#[]⟩, .bool false]) := setCells_keep (.inl (by simp)) _ 0 _ ((Keep.refl _ _).setCell _ _ (.inl (by simp)))
                rw [HP.out]
                exact ⟨_, ⟨_, _, _, _, _, _, _, _, _, _, _, _, _, rfl⟩, rfl, HE3.out.keep1 hKr (by simp; omega), (HS5.out.K.trans HK3.out).transTo hKr (by simp)⟩
              | ok q =>
                rw [ht] at HT
                obtain ⟨hq1, hq2⟩ := takeP_ok ht
                have HP1 : Hid (R = cmpItm 8 D (valueP false s q)) := Lib.hid (by rw [HP0.out]; unfold twoP; rw [ht])
                clear ht HP0
                have HVq := Lib.hid (fun W h => HV.out q W (by omega) h)
                cases hv : valueP false s q with
                | error f =>
                  rw [hv] at HVq
                  have HP : Hid (R = .error f) := Lib.hid (by rw [HP1.out, hv]; rfl)
                  clear hv HV HP1
                  go_wp2_with (first
                    | (go_at_call 45; refine (HT.out _ (by exact HS5.out.R)).mono ?_; intro e w5 hw; obtain ⟨rfl, hR5, hK5⟩ := WentX.ok hw; clear hw y0 y1 y2 y3 y4 y5 y6 y7 y8 yf; have HR5 := Lib.hid hR5; have HK5 := Lib.hid (HS5.out.K.trans hK5); have HF5 := Lib.hid (hK5.heap (by exact HS5.out.F) (by simp; omega)); have HG5 := Lib.hid (hK5.heap (by exact HS5.out.G) (by simp; omega)); clear hR5 hK5)
                    | (go_at_call 71; refine (HVq.out _ (by exact HR5.out)).mono ?_; intro e w3 hw; obtain ⟨rfl, hE3, hK3⟩ := GaveX.err hw; clear hw; obtain ⟨x0, x1, x2, x3, x4, x5, x6, x7, x8, xf⟩ := nine (hK3.heap (by exact HF5.out) (by simp; omega)); have hg3 := hK3.heap (by exact HG5.out) (by simp; omega); obtain ⟨y0, y1, y2, y3, y4, y5, y6, y7, y8, yf⟩ := nine hg3; have hX : (w3.setCell ⟨w.heap.size + 1, 3, none⟩ (.string ⟨#[]⟩)).heap[w.heap.size + 1]? = some (.cells #[.int .i8 0, .slice none 0 0, .string D, .string ⟨#[]⟩, .string ⟨#[]⟩, .slice none 0 0, .string ⟨#[]⟩, .string ⟨#[]⟩, .bool false] 26 (0, 0)) := setCell_at hg3 3 _; obtain ⟨u0, u1, u2, u3, u4, u5, u6, u7, u8, uf⟩ := nine hX; clear hg3 hX; have HE3 := Lib.hid hE3; have HK3 := Lib.hid hK3; clear hE3 hK3))
                  refine bodyPost_ret (v := .tuple #[.agg #[.int .i8 8, .slice none 0 0, .string D, .string ⟨#[]⟩, .string ⟨#[]⟩, .slice none 0 0, .string ⟨#[]⟩, .string ⟨#[]⟩, .bool false], .bool false]) (by simp [results, Tryz.results44, go_sem, x0, x1, x2, x3, x4, x5, x6, x7, x8]) rfl ?_
                  have hKr : Keep [w.heap.size, w.heap.size + 1] w3 (((w3.setCell ⟨w.heap.size + 1, 3, none⟩ (.string ⟨#[]⟩)).setCell ⟨w.heap.size + 1, 0, none⟩ (.int .i8 8)).setCells w.heap.size 0 [.int .i8 8, .slice none 0 0, .string D, .string ⟨#[]⟩, .string ⟨#[]⟩, .slice none 0 0, .string ⟨#[]⟩, .string ⟨#[]⟩, .bool false]) := setCells_keep (.inl (by simp)) _ 0 _ (((Keep.refl _ _).setCell _ _ (.inl (by simp))).setCell _ _ (.inl (by simp)))
                  rw [HP.out]
                  exact ⟨_, ⟨_, _, _, _, _, _, _, _, _, _, _, _, _, rfl⟩, rfl, HE3.out.keep1 hKr (by simp; omega), (HK5.out.trans HK3.out).transTo hKr (by simp)⟩
                | ok t =>
                  obtain ⟨v, q2⟩ := t
                  rw [hv] at HVq
                  have HP : Hid (R = .ok (⟨8, D, v, noText, [], noText, noText, false⟩, q2)) := Lib.hid (by rw [HP1.out, hv]; rfl)
                  clear hv HV HP1
                  go_wp2_with (first
                    | (go_at_call 45; refine (HT.out _ (by exact HS5.out.R)).mono ?_; intro e w5 hw; obtain ⟨rfl, hR5, hK5⟩ := WentX.ok hw; clear hw y0 y1 y2 y3 y4 y5 y6 y7 y8 yf; have HR5 := Lib.hid hR5; have HK5 := Lib.hid (HS5.out.K.trans hK5); have HF5 := Lib.hid (hK5.heap (by exact HS5.out.F) (by simp; omega)); have HG5 := Lib.hid (hK5.heap (by exact HS5.out.G) (by simp; omega)); clear hR5 hK5)
                    | (go_at_call 71; refine (HVq.out _ (by exact HR5.out)).mono ?_; intro e w3 hw; obtain ⟨rfl, hR3, hK3⟩ := GaveX.ok hw; clear hw; obtain ⟨x0, x1, x2, x3, x4, x5, x6, x7, x8, xf⟩ := nine (hK3.heap (by exact HF5.out) (by simp; omega)); have hg3 := hK3.heap (by exact HG5.out) (by simp; omega); obtain ⟨y0, y1, y2, y3, y4, y5, y6, y7, y8, yf⟩ := nine hg3; have hX : (w3.setCell ⟨w.heap.size + 1, 3, none⟩ (.string v)).heap[w.heap.size + 1]? = some (.cells #[.int .i8 0, .slice none 0 0, .string D, .string v, .string ⟨#[]⟩, .slice none 0 0, .string ⟨#[]⟩, .string ⟨#[]⟩, .bool false] 26 (0, 0)) := setCell_at hg3 3 _; obtain ⟨u0, u1, u2, u3, u4, u5, u6, u7, u8, uf⟩ := nine hX; clear hg3 hX; have HR3 := Lib.hid hR3; have HK3 := Lib.hid hK3; clear hR3 hK3))
                  refine bodyPost_ret (v := .tuple #[.agg #[.int .i8 8, .slice none 0 0, .string D, .string v, .string ⟨#[]⟩, .slice none 0 0, .string ⟨#[]⟩, .string ⟨#[]⟩, .bool false], .bool true]) (by simp [results, Tryz.results44, go_sem, x0, x1, x2, x3, x4, x5, x6, x7, x8]) rfl ?_
                  have hKr : Keep [w.heap.size, w.heap.size + 1] w3 (((w3.setCell ⟨w.heap.size + 1, 3, none⟩ (.string v)).setCell ⟨w.heap.size + 1, 0, none⟩ (.int .i8 8)).setCells w.heap.size 0 [.int .i8 8, .slice none 0 0, .string D, .string v, .string ⟨#[]⟩, .slice none 0 0, .string ⟨#[]⟩, .string ⟨#[]⟩, .bool false]) := setCells_keep (.inl (by simp)) _ 0 _ (((Keep.refl _ _).setCell _ _ (.inl (by simp))).setCell _ _ (.inl (by simp)))
                  rw [HP.out]
                  exact ⟨none, 0, rfl, World.ownsRow_nil _ _ _ _, HR3.out.keep hKr (by simp; omega), (HK5.out.trans HK3.out).transTo hKr (by simp)⟩
            · have t3 : ((c.toNat : Int) == 126) = false := byte_no (k := 126) h126
              by_cases h62 : c = 62
              · subst h62
                have HP0 : Hid (R = twoP s j D 5) := Lib.hid (HI1.out.trans rfl)
                clear t1 t2 t3 HI1
                cases ht : takeP s (j + 1) 61 with
                | error f =>
                  rw [ht] at HT
                  have HP : Hid (R = .error f) := Lib.hid (by rw [HP0.out]; unfold twoP; rw [ht])
                  clear ht HV HP0
                  go_wp2_with (go_at_call 45; refine (HT.out _ (by exact HS5.out.R)).mono ?_; intro e w3 hw; obtain ⟨rfl, hE3, hK3⟩ := WentX.err hw; clear hw y0 y1 y2 y3 y4 y5 y6 y7 y8 yf; obtain ⟨x0, x1, x2, x3, x4, x5, x6, x7, x8, xf⟩ := nine (hK3.heap (by exact HS5.out.F) (by simp; omega)); obtain ⟨y0, y1, y2, y3, y4, y5, y6, y7, y8, yf⟩ := nine (hK3.heap (by exact HS5.out.G) (by simp; omega)); have HE3 := Lib.hid hE3; have HK3 := Lib.hid hK3; clear hE3 hK3)
                  refine bodyPost_ret (v := .tuple #[.agg #[.int .i8 5, .slice none 0 0, .string D, .string ⟨#[]⟩, .string ⟨#[]⟩, .slice none 0 0, .string ⟨#[]⟩, .string ⟨#[]⟩, .bool false], .bool false]) (by simp [results, Tryz.results44, go_sem, x0, x1, x2, x3, x4, x5, x6, x7, x8]) rfl ?_
                  have hKr : Keep [w.heap.size, w.heap.size + 1] w3 (((w3.setCell ⟨w.heap.size + 1, 0, none⟩ (.int .i8 8)).setCell ⟨w.heap.size + 1, 0, none⟩ (.int .i8 5)).setCells w.heap.size 0 [.int .i8 5, .slice none 0 0, .string D, .string ⟨#[]⟩, .string ⟨#[]⟩, .slice none 0 0, .string ⟨#[]⟩, .string ⟨#[]⟩, .bool false]) := setCells_keep (.inl (by simp)) _ 0 _ (((Keep.refl _ _).setCell _ _ (.inl (by simp))).setCell _ _ (.inl (by simp)))
                  rw [HP.out]
                  exact ⟨_, ⟨_, _, _, _, _, _, _, _, _, _, _, _, _, rfl⟩, rfl, HE3.out.keep1 hKr (by simp; omega), (HS5.out.K.trans HK3.out).transTo hKr (by simp)⟩
                | ok q =>
                  rw [ht] at HT
                  obtain ⟨hq1, hq2⟩ := takeP_ok ht
                  have HP1 : Hid (R = cmpItm 5 D (valueP false s q)) := Lib.hid (by rw [HP0.out]; unfold twoP; rw [ht])
                  clear ht HP0
                  have HVq := Lib.hid (fun W h => HV.out q W (by omega) h)
                  cases hv : valueP false s q with
                  | error f =>
                    rw [hv] at HVq
                    have HP : Hid (R = .error f) := Lib.hid (by rw [HP1.out, hv]; rfl)
                    clear hv HV HP1
                    go_wp2_with (first
                      | (go_at_call 45; refine (HT.out _ (by exact HS5.out.R)).mono ?_; intro e w5 hw; obtain ⟨rfl, hR5, hK5⟩ := WentX.ok hw; clear hw y0 y1 y2 y3 y4 y5 y6 y7 y8 yf; have HR5 := Lib.hid hR5; have HK5 := Lib.hid (HS5.out.K.trans hK5); have HF5 := Lib.hid (hK5.heap (by exact HS5.out.F) (by simp; omega)); have HG5 := Lib.hid (hK5.heap (by exact HS5.out.G) (by simp; omega)); clear hR5 hK5)
                      | (go_at_call 71; refine (HVq.out _ (by exact HR5.out)).mono ?_; intro e w3 hw; obtain ⟨rfl, hE3, hK3⟩ := GaveX.err hw; clear hw; obtain ⟨x0, x1, x2, x3, x4, x5, x6, x7, x8, xf⟩ := nine (hK3.heap (by exact HF5.out) (by simp; omega)); have hg3 := hK3.heap (by exact HG5.out) (by simp; omega); obtain ⟨y0, y1, y2, y3, y4, y5, y6, y7, y8, yf⟩ := nine hg3; have hX : (w3.setCell ⟨w.heap.size + 1, 3, none⟩ (.string ⟨#[]⟩)).heap[w.heap.size + 1]? = some (.cells #[.int .i8 0, .slice none 0 0, .string D, .string ⟨#[]⟩, .string ⟨#[]⟩, .slice none 0 0, .string ⟨#[]⟩, .string ⟨#[]⟩, .bool false] 26 (0, 0)) := setCell_at hg3 3 _; obtain ⟨u0, u1, u2, u3, u4, u5, u6, u7, u8, uf⟩ := nine hX; clear hg3 hX; have HE3 := Lib.hid hE3; have HK3 := Lib.hid hK3; clear hE3 hK3))
                    refine bodyPost_ret (v := .tuple #[.agg #[.int .i8 5, .slice none 0 0, .string D, .string ⟨#[]⟩, .string ⟨#[]⟩, .slice none 0 0, .string ⟨#[]⟩, .string ⟨#[]⟩, .bool false], .bool false]) (by simp [results, Tryz.results44, go_sem, x0, x1, x2, x3, x4, x5, x6, x7, x8]) rfl ?_
                    have hKr : Keep [w.heap.size, w.heap.size + 1] w3 ((((w3.setCell ⟨w.heap.size + 1, 3, none⟩ (.string ⟨#[]⟩)).setCell ⟨w.heap.size + 1, 0, none⟩ (.int .i8 8)).setCell ⟨w.heap.size + 1, 0, none⟩ (.int .i8 5)).setCells w.heap.size 0 [.int .i8 5, .slice none 0 0, .string D, .string ⟨#[]⟩, .string ⟨#[]⟩, .slice none 0 0, .string ⟨#[]⟩, .string ⟨#[]⟩, .bool false]) := setCells_keep (.inl (by simp)) _ 0 _ ((((Keep.refl _ _).setCell _ _ (.inl (by simp))).setCell _ _ (.inl (by simp))).setCell _ _ (.inl (by simp)))
                    rw [HP.out]
                    exact ⟨_, ⟨_, _, _, _, _, _, _, _, _, _, _, _, _, rfl⟩, rfl, HE3.out.keep1 hKr (by simp; omega), (HK5.out.trans HK3.out).transTo hKr (by simp)⟩
                  | ok t =>
                    obtain ⟨v, q2⟩ := t
                    rw [hv] at HVq
                    have HP : Hid (R = .ok (⟨5, D, v, noText, [], noText, noText, false⟩, q2)) := Lib.hid (by rw [HP1.out, hv]; rfl)
                    clear hv HV HP1
                    go_wp2_with (first
                      | (go_at_call 45; refine (HT.out _ (by exact HS5.out.R)).mono ?_; intro e w5 hw; obtain ⟨rfl, hR5, hK5⟩ := WentX.ok hw; clear hw y0 y1 y2 y3 y4 y5 y6 y7 y8 yf; have HR5 := Lib.hid hR5; have HK5 := Lib.hid (HS5.out.K.trans hK5); have HF5 := Lib.hid (hK5.heap (by exact HS5.out.F) (by simp; omega)); have HG5 := Lib.hid (hK5.heap (by exact HS5.out.G) (by simp; omega)); clear hR5 hK5)
                      | (go_at_call 71; refine (HVq.out _ (by exact HR5.out)).mono ?_; intro e w3 hw; obtain ⟨rfl, hR3, hK3⟩ := GaveX.ok hw; clear hw; obtain ⟨x0, x1, x2, x3, x4, x5, x6, x7, x8, xf⟩ := nine (hK3.heap (by exact HF5.out) (by simp; omega)); have hg3 := hK3.heap (by exact HG5.out) (by simp; omega); obtain ⟨y0, y1, y2, y3, y4, y5, y6, y7, y8, yf⟩ := nine hg3; have hX : (w3.setCell ⟨w.heap.size + 1, 3, none⟩ (.string v)).heap[w.heap.size + 1]? = some (.cells #[.int .i8 0, .slice none 0 0, .string D, .string v, .string ⟨#[]⟩, .slice none 0 0, .string ⟨#[]⟩, .string ⟨#[]⟩, .bool false] 26 (0, 0)) := setCell_at hg3 3 _; obtain ⟨u0, u1, u2, u3, u4, u5, u6, u7, u8, uf⟩ := nine hX; clear hg3 hX; have HR3 := Lib.hid hR3; have HK3 := Lib.hid hK3; clear hR3 hK3))
                    refine bodyPost_ret (v := .tuple #[.agg #[.int .i8 5, .slice none 0 0, .string D, .string v, .string ⟨#[]⟩, .slice none 0 0, .string ⟨#[]⟩, .string ⟨#[]⟩, .bool false], .bool true]) (by simp [results, Tryz.results44, go_sem, x0, x1, x2, x3, x4, x5, x6, x7, x8]) rfl ?_
                    have hKr : Keep [w.heap.size, w.heap.size + 1] w3 ((((w3.setCell ⟨w.heap.size + 1, 3, none⟩ (.string v)).setCell ⟨w.heap.size + 1, 0, none⟩ (.int .i8 8)).setCell ⟨w.heap.size + 1, 0, none⟩ (.int .i8 5)).setCells w.heap.size 0 [.int .i8 5, .slice none 0 0, .string D, .string v, .string ⟨#[]⟩, .slice none 0 0, .string ⟨#[]⟩, .string ⟨#[]⟩, .bool false]) := setCells_keep (.inl (by simp)) _ 0 _ ((((Keep.refl _ _).setCell _ _ (.inl (by simp))).setCell _ _ (.inl (by simp))).setCell _ _ (.inl (by simp)))
                    rw [HP.out]
                    exact ⟨none, 0, rfl, World.ownsRow_nil _ _ _ _, HR3.out.keep hKr (by simp; omega), (HK5.out.trans HK3.out).transTo hKr (by simp)⟩
              · have t4 : ((c.toNat : Int) == 62) = false := byte_no (k := 62) h62
                by_cases h60 : c = 60
                · subst h60
                  have HP0 : Hid (R = twoP s j D 6) := Lib.hid (HI1.out.trans rfl)
                  clear t1 t2 t3 t4 HI1
                  cases ht : takeP s (j + 1) 61 with
                  | error f =>
                    rw [ht] at HT
                    have HP : Hid (R = .error f) := Lib.hid (by rw [HP0.out]; unfold twoP; rw [ht])
                    clear ht HV HP0
                    go_wp2_with (go_at_call 45; refine (HT.out _ (by exact HS5.out.R)).mono ?_; intro e w3 hw; obtain ⟨rfl, hE3, hK3⟩ := WentX.err hw; clear hw y0 y1 y2 y3 y4 y5 y6 y7 y8 yf; obtain ⟨x0, x1, x2, x3, x4, x5, x6, x7, x8, xf⟩ := nine (hK3.heap (by exact HS5.out.F) (by simp; omega)); obtain ⟨y0, y1, y2, y3, y4, y5, y6, y7, y8, yf⟩ := nine (hK3.heap (by exact HS5.out.G) (by simp; omega)); have HE3 := Lib.hid hE3; have HK3 := Lib.hid hK3; clear hE3 hK3)
                    refine bodyPost_ret (v := .tuple #[.agg #[.int .i8 6, .slice none 0 0, .string D, .string ⟨#[]⟩, .string ⟨#[]⟩, .slice none 0 0, .string ⟨#[]⟩, .string ⟨#[]⟩, .bool false], .bool false]) (by simp [results, Tryz.results44, go_sem, x0, x1, x2, x3, x4, x5, x6, x7, x8]) rfl ?_
                    have hKr : Keep [w.heap.size, w.heap.size + 1] w3 (((w3.setCell ⟨w.heap.size + 1, 0, none⟩ (.int .i8 8)).setCell ⟨w.heap.size + 1, 0, none⟩ (.int .i8 6)).setCells w.heap.size 0 [.int .i8 6, .slice none 0 0, .string D, .string ⟨#[]⟩, .string ⟨#[]⟩, .slice none 0 0, .string ⟨#[]⟩, .string ⟨#[]⟩, .bool false]) := setCells_keep (.inl (by simp)) _ 0 _ (((Keep.refl _ _).setCell _ _ (.inl (by simp))).setCell _ _ (.inl (by simp)))
                    rw [HP.out]
                    exact ⟨_, ⟨_, _, _, _, _, _, _, _, _, _, _, _, _, rfl⟩, rfl, HE3.out.keep1 hKr (by simp; omega), (HS5.out.K.trans HK3.out).transTo hKr (by simp)⟩
                  | ok q =>
                    rw [ht] at HT
                    obtain ⟨hq1, hq2⟩ := takeP_ok ht
                    have HP1 : Hid (R = cmpItm 6 D (valueP false s q)) := Lib.hid (by rw [HP0.out]; unfold twoP; rw [ht])
                    clear ht HP0
                    have HVq := Lib.hid (fun W h => HV.out q W (by omega) h)
                    cases hv : valueP false s q with
                    | error f =>
                      rw [hv] at HVq
                      have HP : Hid (R = .error f) := Lib.hid (by rw [HP1.out, hv]; rfl)
                      clear hv HV HP1
                      go_wp2_with (first
                        | (go_at_call 45; refine (HT.out _ (by exact HS5.out.R)).mono ?_; intro e w5 hw; obtain ⟨rfl, hR5, hK5⟩ := WentX.ok hw; clear hw y0 y1 y2 y3 y4 y5 y6 y7 y8 yf; have HR5 := Lib.hid hR5; have HK5 := Lib.hid (HS5.out.K.trans hK5); have HF5 := Lib.hid (hK5.heap (by exact HS5.out.F) (by simp; omega)); have HG5 := Lib.hid (hK5.heap (by exact HS5.out.G) (by simp; omega)); clear hR5 hK5)
                        | (go_at_call 71; refine (HVq.out _ (by exact HR5.out)).mono ?_; intro e w3 hw; obtain ⟨rfl, hE3, hK3⟩ := GaveX.err hw; clear hw; obtain ⟨x0, x1, x2, x3, x4, x5, x6, x7, x8, xf⟩ := nine (hK3.heap (by exact HF5.out) (by simp; omega)); have hg3 := hK3.heap (by exact HG5.out) (by simp; omega); obtain ⟨y0, y1, y2, y3, y4, y5, y6, y7, y8, yf⟩ := nine hg3; have hX : (w3.setCell ⟨w.heap.size + 1, 3, none⟩ (.string ⟨#[]⟩)).heap[w.heap.size + 1]? = some (.cells #[.int .i8 0, .slice none 0 0, .string D, .string ⟨#[]⟩, .string ⟨#[]⟩, .slice none 0 0, .string ⟨#[]⟩, .string ⟨#[]⟩, .bool false] 26 (0, 0)) := setCell_at hg3 3 _; obtain ⟨u0, u1, u2, u3, u4, u5, u6, u7, u8, uf⟩ := nine hX; clear hg3 hX; have HE3 := Lib.hid hE3; have HK3 := Lib.hid hK3; clear hE3 hK3))
                      refine bodyPost_ret (v := .tuple #[.agg #[.int .i8 6, .slice none 0 0, .string D, .string ⟨#[]⟩, .string ⟨#[]⟩, .slice none 0 0, .string ⟨#[]⟩, .string ⟨#[]⟩, .bool false], .bool false]) (by simp [results, Tryz.results44, go_sem, x0, x1, x2, x3, x4, x5, x6, x7, x8]) rfl ?_
                      have hKr : Keep [w.heap.size, w.heap.size + 1] w3 ((((w3.setCell ⟨w.heap.size + 1, 3, none⟩ (.string ⟨#[]⟩)).setCell ⟨w.heap.size + 1, 0, none⟩ (.int .i8 8)).setCell ⟨w.heap.size + 1, 0, none⟩ (.int .i8 6)).setCells w.heap.size 0 [.int .i8 6, .slice none 0 0, .string D, .string ⟨#[]⟩, .string ⟨#[]⟩, .slice none 0 0, .string ⟨#[]⟩, .string ⟨#[]⟩, .bool false]) := setCells_keep (.inl (by simp)) _ 0 _ ((((Keep.refl _ _).setCell _ _ (.inl (by simp))).setCell _ _ (.inl (by simp))).setCell _ _ (.inl (by simp)))
                      rw [HP.out]
                      exact ⟨_, ⟨_, _, _, _, _, _, _, _, _, _, _, _, _, rfl⟩, rfl, HE3.out.keep1 hKr (by simp; omega), (HK5.out.trans HK3.out).transTo hKr (by simp)⟩
                    | ok t =>
                      obtain ⟨v, q2⟩ := t
                      rw [hv] at HVq
                      have HP : Hid (R = .ok (⟨6, D, v, noText, [], noText, noText, false⟩, q2)) := Lib.hid (by rw [HP1.out, hv]; rfl)
                      clear hv HV HP1
                      go_wp2_with (first
                        | (go_at_call 45; refine (HT.out _ (by exact HS5.out.R)).mono ?_; intro e w5 hw; obtain ⟨rfl, hR5, hK5⟩ := WentX.ok hw; clear hw y0 y1 y2 y3 y4 y5 y6 y7 y8 yf; have HR5 := Lib.hid hR5; have HK5 := Lib.hid (HS5.out.K.trans hK5); have HF5 := Lib.hid (hK5.heap (by exact HS5.out.F) (by simp; omega)); have HG5 := Lib.hid (hK5.heap (by exact HS5.out.G) (by simp; omega)); clear hR5 hK5)
                        | (go_at_call 71; refine (HVq.out _ (by exact HR5.out)).mono ?_; intro e w3 hw; obtain ⟨rfl, hR3, hK3⟩ := GaveX.ok hw; clear hw; obtain ⟨x0, x1, x2, x3, x4, x5, x6, x7, x8, xf⟩ := nine (hK3.heap (by exact HF5.out) (by simp; omega)); have hg3 := hK3.heap (by exact HG5.out) (by simp; omega); obtain ⟨y0, y1, y2, y3, y4, y5, y6, y7, y8, yf⟩ := nine hg3; have hX : (w3.setCell ⟨w.heap.size + 1, 3, none⟩ (.string v)).heap[w.heap.size + 1]? = some (.cells #[.int .i8 0, .slice none 0 0, .string D, .string v, .string ⟨#[]⟩, .slice none 0 0, .string ⟨#[]⟩, .string ⟨#[]⟩, .bool false] 26 (0, 0)) := setCell_at hg3 3 _; obtain ⟨u0, u1, u2, u3, u4, u5, u6, u7, u8, uf⟩ := nine hX; clear hg3 hX; have HR3 := Lib.hid hR3; have HK3 := Lib.hid hK3; clear hR3 hK3))
                      refine bodyPost_ret (v := .tuple #[.agg #[.int .i8 6, .slice none 0 0, .string D, .string v, .string ⟨#[]⟩, .slice none 0 0, .string ⟨#[]⟩, .string ⟨#[]⟩, .bool false], .bool true]) (by simp [results, Tryz.results44, go_sem, x0, x1, x2, x3, x4, x5, x6, x7, x8]) rfl ?_
                      have hKr : Keep [w.heap.size, w.heap.size + 1] w3 ((((w3.setCell ⟨w.heap.size + 1, 3, none⟩ (.string v)).setCell ⟨w.heap.size + 1, 0, none⟩ (.int .i8 8)).setCell ⟨w.heap.size + 1, 0, none⟩ (.int .i8 6)).setCells w.heap.size 0 [.int .i8 6, .slice none 0 0, .string D, .string v, .string ⟨#[]⟩, .slice none 0 0, .string ⟨#[]⟩, .string ⟨#[]⟩, .bool false]) := setCells_keep (.inl (by simp)) _ 0 _ ((((Keep.refl _ _).setCell _ _ (.inl (by simp))).setCell _ _ (.inl (by simp))).setCell _ _ (.inl (by simp)))
                      rw [HP.out]
                      exact ⟨none, 0, rfl, World.ownsRow_nil _ _ _ _, HR3.out.keep hKr (by simp; omega), (HK5.out.trans HK3.out).transTo hKr (by simp)⟩
                · have t5 : ((c.toNat : Int) == 60) = false := byte_no (k := 60) h60
                  have HP : Hid (R = .error (stuckF s j)) := Lib.hid (HI1.out.trans (by unfold comparedP; rw [if_neg h126, if_neg h62, if_neg h60]))
                  clear h126 h62 h60 HI1 HT HV HS5 r1 rf
                  go_wp2_with fail
                  go_region_with (go_at_call 27; refine (xstuck_any b j p s _ hsm (by exact HS4.out.R)).mono ?_; rintro ev w3 ⟨rfl, hE3, hK3⟩; obtain ⟨x0, x1, x2, x3, x4, x5, x6, x7, x8, xf⟩ := nine (hK3.heap (by exact HS4.out.F) (by simp; omega)); obtain ⟨y0, y1, y2, y3, y4, y5, y6, y7, y8, yf⟩ := nine (hK3.heap (by exact HS4.out.G) (by simp; omega)); have HE3 := Lib.hid hE3; have HK3 : Hid (Keep [b] W4 w3) := Lib.hid (((Keep.refl [b] W4).drewN _).trans hK3); clear hE3 hK3)
                  all_goals
                    go_wp2_with fail
                    refine bodyPost_ret (v := .tuple #[.agg #[.int .i8 0, .slice none 0 0, .string D, .string ⟨#[]⟩, .string ⟨#[]⟩, .slice none 0 0, .string ⟨#[]⟩, .string ⟨#[]⟩, .bool false], .bool false]) (by simp [results, Tryz.results44, go_sem, x0, x1, x2, x3, x4, x5, x6, x7, x8]) rfl ?_
                    have hKr : Keep [w.heap.size] w3 (w3.setCells w.heap.size 0 [.int .i8 0, .slice none 0 0, .string D, .string ⟨#[]⟩, .string ⟨#[]⟩, .slice none 0 0, .string ⟨#[]⟩, .string ⟨#[]⟩, .bool false]) := setCells_keep (.inl (by simp)) _ 0 w3 (Keep.refl _ _)
                    rw [HP.out]
                    exact ⟨_, ⟨_, _, _, _, _, _, _, _, _, _, _, _, _, rfl⟩, rfl, HE3.out.keep1 hKr (by simp; omega), (HS4.out.K.trans HK3.out).transTo hKr (by simp)⟩
  · have h58 := (next_yes hx).2
    unfold itemP itemD
    rw [if_pos h58, if_pos h58]
    exact xitem_bare b i p s w hs hx hR
end Go.Proofs.YtjmpcoedfoaebaaGreatDoor
