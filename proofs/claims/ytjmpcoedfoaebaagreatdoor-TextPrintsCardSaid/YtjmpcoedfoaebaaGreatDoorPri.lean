/- The program's writer of filters, plain; one more text is written. The program's writer of filters: an item. text.Print, out of the writer's contract. -/
import Derived.Test.YtjmpcoedfoaebaaGreatDoorEsx
import Derived.Test.YtjmpcoedfoaebaaGreatDoorFpu
import Derived.Deep.RegionHeld3
import Derived.Deep.DeepCutAuto
import Derived.Test.YtjmpcoedfoaebaaGreatDoorFrx
open Go Go.RowKit
namespace Go.Proofs.YtjmpcoedfoaebaaGreatDoor

def txL (s : ByteArray) : List UInt8 := s.data.toList
/-- What stands between a description and a value. -/
def signP (k : Int) : ByteArray := if k = 3 then ⟨#[61]⟩ else if k = 5 then ⟨#[62, 61]⟩ else if k = 6 then ⟨#[60, 61]⟩ else if k = 7 then ⟨#[61, 42]⟩ else if k = 8 then ⟨#[126, 61]⟩ else if k = 9 then ⟨#[58, 61]⟩ else ⟨#[]⟩
def manyS (k : Int) : UInt8 := if k = 0 then 38 else if k = 1 then 124 else 33
def midsL : List ByteArray → List UInt8
  | [] => []
  | m :: ms => txL (escB m) ++ 42 :: midsL ms
/-- Between a part's brackets. -/
def bodyL (it : Itm) (ks : List UInt8) : List UInt8 :=
  if it.kind = 0 ∨ it.kind = 1 ∨ it.kind = 2 then manyS it.kind :: ks
  else if it.kind = 4 then txL it.desc ++ 61 :: (txL (escB it.start) ++ 42 :: (midsL it.mids ++ txL (escB it.fin)))
  else txL it.desc ++ ((if it.dn then [58, 100, 110] else []) ++ ((if someB it.rule then 58 :: txL it.rule else []) ++ (txL (signP it.kind) ++ txL (escB it.value))))
mutual
/-- A filter's text. -/
def printL : Flt → List UInt8
  | .mk it kids => 40 :: (bodyL it (printK kids) ++ [41])
def printK : List Flt → List UInt8
  | [] => []
  | g :: gs => printL g ++ printK gs
end
/-- Where the writer stands: its text; the part's own variable is untouched. -/
def StW (w : World) (N xb b0 : Nat) (c : Obj) (v : Value) (l : List UInt8) (wr : World) : Prop := ∃ v', WrAt wr N xb v' l ∧ WKeep xb v v' w wr ∧ wr.heap[b0]? = some c ∧ v'.ownBlock ≠ some b0
theorem StW.keep0 {w wr w' : World} {N xb b0 : Nat} {c : Obj} {v : Value} {l : List UInt8} (h : StW w N xb b0 c v l wr) (k : Keep [] wr w') : StW w N xb b0 c v l w' := by
  obtain ⟨v', h1, h2, h3, h4⟩ := h
  exact ⟨v', h1.keep0 k, h2.keep0 k, k.heap h3 (by simp), h4⟩
theorem StW.size {w wr : World} {N xb b0 : Nat} {c : Obj} {v : Value} {l : List UInt8} (h : StW w N xb b0 c v l wr) : w.heap.size ≤ wr.heap.size := by
  obtain ⟨v', _, h2, _⟩ := h
  exact h2.size
theorem StW.box {w wr : World} {N xb b0 : Nat} {c : Obj} {v : Value} {l : List UInt8} (h : StW w N xb b0 c v l wr) : wr.heap[b0]? = some c := by
  obtain ⟨v', _, _, h3, _⟩ := h
  exact h3
/-- What a call of add has done. -/
def AddS (w : World) (N xb b0 : Nat) (c : Obj) (v : Value) (l : List UInt8) (e : Ending) (w' : World) : Prop := e = .returned (.bool (decide (l.length ≤ 1048576))) ∧ StW w N xb b0 c v l w'
theorem add_rows {w wr : World} {N xb b0 : Nat} {c : Obj} {v : Value} {l : List UInt8} (h : StW w N xb b0 c v l wr) (hN : xb < N) (hNw : N ≤ w.heap.size) (hb : b0 ≠ xb) (ls : List ByteArray) (hsz : l.length + (catL ls).length ≤ 1099511627776) (hll : ls.length ≤ 100) :
    Calls Tryz.prog 58 #[.pointer (some ⟨xb, 0, none⟩), .slice (some ⟨wr.heap.size, 0, none⟩) ls.length ls.length] (wr.alloc (.cells (ls.map Value.string).toArray 9)) (AddS w N xb b0 c v (l ++ catL ls)) := by
  obtain ⟨v', h1, h2, h3, h4⟩ := h
  have hk : Keep [] wr (wr.alloc (.cells (ls.map Value.string).toArray 9)) := (Keep.refl [] wr).alloc _
  have hvl : ∀ k, v'.ownBlock = some k → k < wr.heap.size := fun k hk => (h1.2.lt k hk).2
  have hxl : xb < wr.heap.size := lt_of_block h1.1
  refine (add_any N xb v' l ls _ ls.length _ hN (Nat.le_trans hNw (Nat.le_trans h2.size hk.size)) (h1.keep0 hk) (.inr ⟨wr.heap.size, rfl, by omega, fun e => by have := hvl _ e; omega, by simp, fun k r hr => rows_cell wr ls 9 k r hr⟩) hsz (by omega)).mono ?_
  rintro e w' ⟨rfl, v2, g1, g2⟩
  refine ⟨rfl, v2, g1, (h2.keep0 hk).trans g2, g2.heap (hk.heap h3 (by simp)) hb h4, fun e => ?_⟩
  rcases g2.own b0 e with h5 | h5
  · exact h4 h5
  · have := lt_of_block h3
    simp at h5
    omega
theorem add_one {w wr : World} {N xb b0 : Nat} {c : Obj} {v : Value} {l : List UInt8} (h : StW w N xb b0 c v l wr) (hN : xb < N) (hNw : N ≤ w.heap.size) (hb : b0 ≠ xb) (x : ByteArray) (hsz : l.length + x.size ≤ 1099511627776) :
    Calls Tryz.prog 58 #[.pointer (some ⟨xb, 0, none⟩), .slice (some ⟨wr.heap.size, 0, none⟩) 1 1] (wr.alloc (.cells #[.string x] 9)) (AddS w N xb b0 c v (l ++ txL x)) := by
  have := add_rows h hN hNw hb [x] (by simpa [catL] using hsz) (by simp)
  simpa [catL, txL] using this
theorem add_two {w wr : World} {N xb b0 : Nat} {c : Obj} {v : Value} {l : List UInt8} (h : StW w N xb b0 c v l wr) (hN : xb < N) (hNw : N ≤ w.heap.size) (hb : b0 ≠ xb) (x y : ByteArray) (hsz : l.length + (x.size + y.size) ≤ 1099511627776) :
    Calls Tryz.prog 58 #[.pointer (some ⟨xb, 0, none⟩), .slice (some ⟨wr.heap.size, 0, none⟩) 2 2] (wr.alloc (.cells #[.string x, .string y] 9)) (AddS w N xb b0 c v (l ++ (txL x ++ txL y))) := by
  have := add_rows h hN hNw hb [x, y] (by simpa [catL] using hsz) (by simp)
  simpa [catL, txL] using this
theorem add_four {w wr : World} {N xb b0 : Nat} {c : Obj} {v : Value} {l : List UInt8} (h : StW w N xb b0 c v l wr) (hN : xb < N) (hNw : N ≤ w.heap.size) (hb : b0 ≠ xb) (x y z u : ByteArray) (hsz : l.length + (x.size + (y.size + (z.size + u.size))) ≤ 1099511627776) :
    Calls Tryz.prog 58 #[.pointer (some ⟨xb, 0, none⟩), .slice (some ⟨wr.heap.size, 0, none⟩) 4 4] (wr.alloc (.cells #[.string x, .string y, .string z, .string u] 9)) (AddS w N xb b0 c v (l ++ (txL x ++ (txL y ++ (txL z ++ txL u))))) := by
  have := add_rows h hN hNw hb [x, y, z, u] (by simpa [catL] using hsz) (by simp)
  simpa [catL, txL] using this
theorem escP_len : ∀ (k : Nat) (l : List UInt8), l.length ≤ k → (escP k l).length ≤ 3 * l.length
  | 0, [], _ => Nat.le_refl _
  | k + 1, [], _ => by rw [escP_nil]; exact Nat.zero_le _
  | k + 1, c :: t, h => by
    rw [escP]
    split
    · have := escP_len k t (by simpa using h)
      simp [hexT]
      omega
    · rename_i hx
      have h0 : firstP (c :: t) ≠ 0 := fun e => hx (.inl e)
      have := escP_len k ((c :: t).drop (firstP (c :: t))) (by rw [List.length_drop]; simp at h ⊢; omega)
      rw [List.length_append]
      rw [List.length_drop] at this
      have h2 : ((c :: t).take (firstP (c :: t))).length ≤ (c :: t).length - ((c :: t).length - firstP (c :: t)) := by rw [List.length_take]; omega
      omega
theorem escB_size (s : ByteArray) : (escB s).size ≤ 3 * s.size := escP_len (s.size + 1) s.data.toList (by simp)
theorem longM_le : ∀ (ms : List ByteArray) (n : Nat), ∀ m ∈ ms, m.size ≤ longM n ms
  | m :: ms, n, x, h => by
    rcases List.mem_cons.1 h with rfl | h
    · exact Nat.le_trans (Nat.le_max_right n x.size) (longM_ge ms (max n x.size))
    · exact longM_le ms (max n m.size) x h
theorem long_no {it : Itm} (h : longB it = false) : it.desc.size ≤ 65536 ∧ it.value.size ≤ 65536 ∧ it.start.size ≤ 65536 ∧ it.fin.size ≤ 65536 ∧ it.rule.size ≤ 65536 ∧ ∀ m ∈ it.mids, m.size ≤ 65536 := by
  have h1 : longM (longN it) it.mids ≤ 65536 := by
    have := of_decide_eq_false h; omega
  have h2 := longM_ge it.mids (longN it)
  have h3 : longN it ≤ 65536 := Nat.le_trans h2 h1
  unfold longN at h3
  exact ⟨by omega, by omega, by omega, by omega, by omega, fun m hm => Nat.le_trans (longM_le it.mids (longN it) m hm) h1⟩
end Go.Proofs.YtjmpcoedfoaebaaGreatDoor

open Go Go.RowKit
namespace Go.Proofs.YtjmpcoedfoaebaaGreatDoor

/-- What a call of the writer's filter has done: R is the text if it is not too long. -/
def PrW (N xb : Nat) (v : Value) (R : List UInt8) (w : World) (e : Ending) (w' : World) : Prop :=
  e = .returned (.bool (decide (R.length ≤ 1048576))) ∧ ∃ v' l', WrAt w' N xb v' l' ∧ WKeep xb v v' w w' ∧ (R.length ≤ 1048576 → l' = R)
theorem StW.env {w wr : World} {B N xb b0 : Nat} {c : Obj} {v : Value} {l : List UInt8} (h : StW w N xb b0 c v l wr) (hE : Env B w) (hB : B ≤ xb) (hN : xb < N) (hvo : ∀ k, v.ownBlock = some k → N ≤ k) : Env B wr := by
  obtain ⟨v', _, h2, _⟩ := h
  exact hE.low (Nat.le_trans hE.size h2.size) fun p hp => World.cell?_of_block (w := w) (h2.block p.block (Nat.lt_of_lt_of_le hp hE.size) (by omega) (fun e => by have := hvo _ e; omega))

theorem sign_size (k : Int) : (signP k).size ≤ 2 := by
  unfold signP
  split
  · decide
  · split
    · decide
    · split
      · decide
      · split
        · decide
        · split
          · decide
          · split
            · decide
            · decide
set_option maxHeartbeats 4000000 in
set_option maxRecDepth 1000000 in
theorem wf_item (B N xb : Nat) (it : Itm) (a1 : Option Addr) (n1 c1 : Nat) (a2 : Option Addr) (c2 : Nat) (v : Value) (l0 : List UInt8) (w : World) (hN : xb < N) (hNw : N ≤ w.heap.size) (hB : B ≤ xb) (hE : Env B w) (hW : WrAt w N xb v l0) (hl0 : l0.length ≤ 2000000)
    (hk : 3 ≤ it.kind ∧ it.kind ≤ 9 ∧ it.kind ≠ 4) (hlg : longB it = false) :
    Calls Tryz.prog 35 #[.pointer (some ⟨xb, 0, none⟩), .agg #[.int .i8 it.kind, .slice a1 n1 c1, .string it.desc, .string it.value, .string it.start, .slice a2 it.mids.length c2, .string it.fin, .string it.rule, .bool it.dn]] w (PrW N xb v (l0 ++ 40 :: (bodyL it [] ++ [41])) w) := by
  obtain ⟨z2, z3, z4, z6, z7, _⟩ := long_no hlg
  have ze := escB_size it.value
  obtain ⟨hk3, hk9, hk4⟩ := hk
  obtain ⟨R, hR⟩ : ∃ R, l0 ++ 40 :: (bodyL it [] ++ [41]) = R := ⟨_, rfl⟩
  have HR := Lib.hid hR
  rw [hR]
  obtain ⟨kn, hkn⟩ := Int.eq_ofNat_of_zero_le (show 0 ≤ it.kind by omega)
  rw [hkn] at hk3 hk9 hk4 ⊢
  have HKN := Lib.hid hkn
  clear hkn
  obtain ⟨dn, hdn⟩ : ∃ dn, it.dn = dn := ⟨_, rfl⟩
  rw [hdn]
  have HDN := Lib.hid hdn
  clear hdn
  have hvo : ∀ k, v.ownBlock = some k → N ≤ k := fun k e => (hW.2.lt k e).1
  have hvl : ∀ k, v.ownBlock = some k → k < w.heap.size := fun k e => (hW.2.lt k e).2
  have HSG : Hid (∀ W, Env B W → W.cell? ⟨1, kn, none⟩ = some (.string (signP it.kind))) := Lib.hid fun W h => by
    have h3 := h.signs kn (by omega)
    rw [h3, HKN.out]
    rcases (by omega : kn = 3 ∨ kn = 5 ∨ kn = 6 ∨ kn = 7 ∨ kn = 8 ∨ kn = 9) with rfl | rfl | rfl | rfl | rfl | rfl <;> rfl
  have HBD : Hid (l0 ++ txL ⟨#[40]⟩ ++ txL it.desc ++ (if dn then [58, 100, 110] else []) ++ (if someB it.rule then 58 :: txL it.rule else []) ++ (txL (signP it.kind) ++ txL (escB it.value)) ++ txL ⟨#[41]⟩ = l0 ++ 40 :: (bodyL it [] ++ [41])) := Lib.hid (by
    have hkn := HKN.out
    have e0 : ¬ (it.kind = 0 ∨ it.kind = 1 ∨ it.kind = 2) := by omega
    have e4 : ¬ it.kind = 4 := by omega
    unfold bodyL
    rw [if_neg e0, if_neg e4, HDN.out]
    have e1 : txL ⟨#[40]⟩ = [40] := rfl
    have e2 : txL ⟨#[41]⟩ = [41] := rfl
    rw [e1, e2]
    simp [List.append_assoc])
  have HVO := Lib.hid hvo
  have HE := Lib.hid hE
  obtain ⟨C, hC⟩ : ∃ C, C = Obj.cells #[.int .i8 kn, .slice a1 n1 c1, .string it.desc, .string it.value, .string it.start, .slice a2 it.mids.length c2, .string it.fin, .string it.rule, .bool dn] 26 (0, 0) := ⟨_, rfl⟩
  have HC := Lib.hid hC
  have hxl : xb < w.heap.size := lt_of_block hW.1
  have hS0 : StW w N xb w.heap.size C v l0 (w.alloc C) := ⟨v, hW.keep0 ((Keep.refl [] w).alloc _), WKeep.of0 ((Keep.refl [] w).alloc _), alloc_at w C, fun e => by have := hvl _ e; omega⟩
  have hbx : w.heap.size ≠ xb := by omega
  obtain ⟨W0, hW0⟩ : ∃ W0, W0 = w.alloc C := ⟨_, rfl⟩
  rw [← hW0] at hS0
  have HW0 : Hid (W0 = w.alloc (Obj.cells #[.int .i8 kn, .slice a1 n1 c1, .string it.desc, .string it.value, .string it.start, .slice a2 it.mids.length c2, .string it.fin, .string it.rule, .bool dn] 26 (0, 0))) := Lib.hid (by rw [hW0, hC])
  have HS0 := Lib.hid hS0
  have HA1 := Lib.hid (add_one hS0 hN hNw hbx ⟨#[40]⟩ (by show _ + 1 ≤ _; omega))
  clear hR hW hE hvo hvl hC hW0 hS0
  go_enter Tryz.func35, Tryz.ntmps35
  go_upto_region 1 with fail
  rw [← HW0.out]
  go_upto_region 2 with (go_at_call 58; refine HA1.out.mono ?_; rintro e W1 ⟨rfl, hS1⟩; have HS1 := Lib.hid hS1; clear hS1)
  have hq0 : ((kn : Int) == 0) = false := by rw [beq_eq_false_iff_ne]; omega
  have hq1 : ((kn : Int) == 1) = false := by rw [beq_eq_false_iff_ne]; omega
  have hq2 : ((kn : Int) == 2) = false := by rw [beq_eq_false_iff_ne]; omega
  have hq4 : ((kn : Int) == 4) = false := by rw [beq_eq_false_iff_ne]; exact hk4
  have HN9 : Hid (∀ (W : World) (l : List UInt8), StW w N xb w.heap.size C v l W → W.heap[w.heap.size]? = some (.cells #[.int .i8 kn, .slice a1 n1 c1, .string it.desc, .string it.value, .string it.start, .slice a2 it.mids.length c2, .string it.fin, .string it.rule, .bool dn] 26 (0, 0))) := Lib.hid fun W l h => h.box.trans (by rw [HC.out])
  obtain ⟨L1, hL1⟩ : ∃ L1, l0 ++ txL ⟨#[40]⟩ = L1 := ⟨_, rfl⟩
  have hl1 : L1.length ≤ 2000001 := by rw [← hL1, List.length_append]; show _ + 1 ≤ _; omega
  rw [hL1] at HS1
  have HL1 := Lib.hid hL1
  clear hL1 HA1 HS0 HW0
  obtain ⟨x0, x1, x2, x3, x4, x5, x6, x7, x8, xf⟩ := nine (HN9.out _ _ HS1.out)
  clear xf
  have HA2 := Lib.hid (add_one HS1.out hN hNw hbx it.desc (by omega))
  go_upto_if 20 with (go_at_call 58; refine HA2.out.mono ?_; rintro e W2 ⟨rfl, hS2⟩; have HS2 := Lib.hid hS2; clear hS2; obtain ⟨y0, y1, y2, y3, y4, y5, y6, y7, y8, yf⟩ := nine (HN9.out _ _ HS2.out); clear yf)
  clear x0 x1 x2 x3 x4 x5 x6 x7 x8 HA2 HS1
  obtain ⟨L2, hL2⟩ : ∃ L2, L1 ++ txL it.desc = L2 := ⟨_, rfl⟩
  have hl2 : L2.length ≤ 2065537 := by rw [← hL2, List.length_append]; show _ + it.desc.size ≤ _; omega
  rw [hL2] at HS2
  have HL2 := Lib.hid hL2
  clear hL2
  go_cut [] (fun wx => Hid (StW w N xb w.heap.size C v (L2 ++ (if dn then [58, 100, 110] else [])) wx))
  case first =>
    cases dn with
    | true =>
      have HA3 := Lib.hid (add_one HS2.out hN hNw hbx ⟨#[58, 100, 110]⟩ (by show _ + 3 ≤ _; omega))
      go_wp2_with (go_at_call 58; refine HA3.out.mono ?_; rintro e W3 ⟨rfl, hS3⟩; have HS3 := Lib.hid hS3; clear hS3)
      go_meet
      exact HS3
    | false =>
      go_wp2_with fail
      go_meet
      exact Lib.hid (by rw [if_neg (by simp), List.append_nil]; exact HS2.out)
  case rest =>
    obtain ⟨L3, hL3⟩ : ∃ L3, L2 ++ (if dn then [58, 100, 110] else []) = L3 := ⟨_, rfl⟩
    have hl3 : L3.length ≤ 2065540 := by rw [← hL3, List.length_append]; split <;> simp <;> omega
    rw [hL3] at hcut
    have HL3 := Lib.hid hL3
    clear hL3 HS2 y0 y1 y2 y3 y4 y5 y6 y7 y8
    obtain ⟨x0, x1, x2, x3, x4, x5, x6, x7, x8, xf⟩ := nine (HN9.out _ _ hcut.out)
    clear xf
    obtain ⟨eb, heb⟩ : ∃ eb : Bool, it.rule.toList.isEmpty = eb := ⟨_, rfl⟩
    have HSB : Hid (someB it.rule = !eb) := Lib.hid (by unfold someB; rw [heb])
    go_upto_if 26 with fail
    go_cut [] (fun wx => Hid (StW w N xb w.heap.size C v (L3 ++ (if someB it.rule then 58 :: txL it.rule else [])) wx))
    case first =>
      cases eb with
      | false =>
        have HA3 := Lib.hid (add_two hcut.out hN hNw hbx ⟨#[58]⟩ it.rule (by show _ + (1 + _) ≤ _; omega))
        go_wp2_with (go_at_call 58; refine HA3.out.mono ?_; rintro e W3 ⟨rfl, hS3⟩; have HS3 := Lib.hid hS3; clear hS3)
        go_meet
        exact Lib.hid (by rw [HSB.out]; exact HS3.out)
      | true =>
        go_wp2_with fail
        go_meet
        exact Lib.hid (by rw [HSB.out, if_neg (by simp), List.append_nil]; exact hcut.out)
    case rest =>
      obtain ⟨L4, hL4⟩ : ∃ L4, L3 ++ (if someB it.rule then 58 :: txL it.rule else []) = L4 := ⟨_, rfl⟩
      have hl4 : L4.length ≤ 2131077 := by
        rw [← hL4, List.length_append]
        have : (txL it.rule).length = it.rule.size := by simp [txL]
        split
        · rw [List.length_cons]; omega
        · rw [List.length_nil]; omega
      rw [hL4] at hcut
      have HL4 := Lib.hid hL4
      have HS4 := hcut
      clear hL4 hcut x0 x1 x2 x3 x4 x5 x6 x7 x8 heb
      obtain ⟨y0, y1, y2, y3, y4, y5, y6, y7, y8, yf⟩ := nine (HN9.out _ _ HS4.out)
      clear yf y1 y2 y4 y5 y6 y7 y8
      have ysg := HSG.out wc (HS4.out.env HE.out hB hN HVO.out)
      obtain ⟨sg, hsg⟩ : ∃ sg, signP it.kind = sg := ⟨_, rfl⟩
      have hsz : sg.size ≤ 2 := by rw [← hsg]; exact sign_size _
      rw [hsg] at ysg
      have HSGG := Lib.hid hsg
      clear hsg
      have hkz : (0 : Int) ≤ (kn : Int) := by omega
      have hkl : (kn : Int) < 10 := by omega
      go_upto_region 8 with fail
      have hb0w : w.heap.size < wc.heap.size := by
        obtain ⟨_, _, _, h3, _⟩ := HS4.out
        exact lt_of_block h3
      have hgw : 1 < wc.heap.size := by
        have := HE.out.lots
        have := HE.out.size
        omega
      go_region_held3 (fun w' => w'.cell? ⟨w.heap.size, 0, none⟩ = some (.int .i8 kn) ∧ w'.cell? ⟨w.heap.size, 3, none⟩ = some (.string it.value) ∧ w'.cell? ⟨1, kn, none⟩ = some (.string sg)) (go_keep) (first | (go_at_call 59; refine (escape_any it.value _ (by omega)).mono ?_; rintro e W5 ⟨rfl, hb⟩; have HK5 := Lib.hid (Keep.of_below hb); have q0 := (HK5.out.cell ⟨w.heap.size, 0, none⟩ (by simpa using hb0w) (by simp)).trans y0; have q3 := (HK5.out.cell ⟨w.heap.size, 3, none⟩ (by simpa using hb0w) (by simp)).trans y3; have q1 := (HK5.out.cell ⟨1, kn, none⟩ (by simpa using hgw) (by simp)).trans ysg; clear hb) | (go_at_call 58; refine (add_two ((HS4.out.keep0 ((Keep.refl [] wc).drewN 1)).keep0 HK5.out) hN hNw hbx sg (escB it.value) (by omega)).mono ?_; rintro e W6 ⟨rfl, hS6⟩; have HS6 := Lib.hid hS6; have p0 : W6.cell? ⟨w.heap.size, 0, none⟩ = some (.int .i8 kn) := cell_of (HN9.out _ _ HS6.out) 0; have p3 : W6.cell? ⟨w.heap.size, 3, none⟩ = some (.string it.value) := cell_of (HN9.out _ _ HS6.out) 3; have p1 : W6.cell? ⟨1, kn, none⟩ = some (.string sg) := HSGG.out ▸ HSG.out W6 (HS6.out.env HE.out hB hN HVO.out); clear hS6))
      obtain ⟨L6, hL6⟩ : ∃ L6, L4 ++ (txL sg ++ txL (escB it.value)) = L6 := ⟨_, rfl⟩
      have hl6 : L6.length ≤ 2400000 := by
        rw [← hL6, List.length_append, List.length_append]
        have h1 : (txL sg).length = sg.size := by simp [txL]
        have h2 : (txL (escB it.value)).length = (escB it.value).size := by simp [txL]
        omega
      rw [hL6] at HS6
      have HA7 := Lib.hid (add_one HS6.out hN hNw hbx ⟨#[41]⟩ (by show _ + 1 ≤ _; omega))
      have HRR : Hid (L6 ++ txL ⟨#[41]⟩ = R) := Lib.hid (by
        rw [← HR.out, ← hL6, ← HL4.out, ← HL3.out, ← HL2.out, ← HL1.out, ← HSGG.out]
        exact HBD.out)
      clear hL6 y0 y3 ysg q0 q3 q1 p0 p3 p1
      go_wp2_with (go_at_call 58; refine HA7.out.mono ?_; rintro e W7 ⟨rfl, hS7⟩; have HS7 := Lib.hid hS7; clear hS7)
      go_ret
      have hS7 := HS7.out
      have hRe := HRR.out
      obtain ⟨v7, k1, k2, _, _⟩ := hS7
      rw [hRe] at k1
      exact ⟨ret_bool (by rw [← hRe, List.length_append]), v7, R, k1, k2, fun _ => rfl⟩
end Go.Proofs.YtjmpcoedfoaebaaGreatDoor

open Go Go.RowKit
namespace Go.Proofs.YtjmpcoedfoaebaaGreatDoor

/-- Print, plain. -/
def printR (g : Flt) : ByteArray × Int := if (checkR g).1 ≠ 0 then (⟨#[]⟩, (checkR g).1) else if (printL g).length ≤ 1048576 then (⟨(printL g).toArray⟩, 0) else (⟨#[]⟩, 3)
def PriR (w : World) (r : ByteArray × Int) (e : Ending) (w' : World) : Prop := e = .returned (.tuple #[.string r.1, .int .i64 r.2]) ∧ Keep [] w w'
/-- What is asked of the writer at one filter. -/
def WfOk (B H : Nat) (g : Flt) (vs : List Value) : Prop := ∀ (N xb : Nat) (v : Value) (w : World), xb < N → N ≤ w.heap.size → B ≤ xb → H ≤ xb → Env B w → FltD w H g vs → WrAt w N xb v [] →
  Calls Tryz.prog 35 #[.pointer (some ⟨xb, 0, none⟩), .agg vs.toArray] w (PrW N xb v (printL g) w)

theorem printL_pos (g : Flt) : 0 < (printL g).length := by
  cases g with | mk it kids => rw [printL]; simp
theorem WKeep.low {w W w' : World} {xb : Nat} {v v' : Value} (h : WKeep xb v v' W w') (k : Keep [] w W) (hx : w.heap.size ≤ xb) (hv : v.ownBlock = none) : Keep [] w w' :=
  ⟨h.os.trans k.os, h.tape.trans k.tape, h.output.trans k.output, Nat.le_trans k.size h.size, fun j hj hn => (h.block j (Nat.lt_of_lt_of_le hj k.size) (by omega) (by rw [hv]; simp)).trans (k.block j hj hn)⟩
set_option maxHeartbeats 2000000 in
set_option maxRecDepth 100000 in
theorem print_of (B H : Nat) (g : Flt) (vs : List Value) (w : World) (hF : FltD w H g vs) (hE : Env B w) (hH : H ≤ w.heap.size) (hwf : (checkR g).1 = 0 → WfOk B H g vs) : Calls Tryz.prog 20 #[.agg vs.toArray] w (PriR w (printR g)) := by
  have hBw := hE.size
  obtain ⟨a1, c1, a2, c2, hvs⟩ := hF.nine
  obtain ⟨R, hR⟩ : ∃ R, printR g = R := ⟨_, rfl⟩
  have HR := Lib.hid hR
  rw [hR]
  obtain ⟨n9, hn9⟩ : ∃ n9, n9 = #[Value.int .i8 g.it.kind, .slice a1 g.kids.length c1, .string g.it.desc, .string g.it.value, .string g.it.start, .slice a2 g.it.mids.length c2, .string g.it.fin, .string g.it.rule, .bool g.it.dn] := ⟨_, rfl⟩
  have hva : vs.toArray = n9 := by rw [hvs, hn9]; rfl
  obtain ⟨W, hW⟩ : ∃ W, W = w.alloc (.cells n9 26) := ⟨_, rfl⟩
  have hK : Keep [] w W := by rw [hW]; exact (Keep.refl [] w).alloc _
  have HB : Hid (W.heap[w.heap.size]? = some (.cells #[Value.int .i8 g.it.kind, .slice a1 g.kids.length c1, .string g.it.desc, .string g.it.value, .string g.it.start, .slice a2 g.it.mids.length c2, .string g.it.fin, .string g.it.rule, .bool g.it.dn] 26 (0, 0))) := Lib.hid (by rw [hW, hn9]; exact alloc_at _ _)
  have hCh := check_calls B H g vs W (hF.keep hK hH (by simp)) (hE.keep0 hK) (Nat.le_trans hH hK.size)
  rw [hva] at hCh ⊢
  have HCh := Lib.hid hCh
  have HW := Lib.hid hW
  have HK := Lib.hid hK
  have HF := Lib.hid hF
  have HE := Lib.hid hE
  have HVA := Lib.hid hva
  have HWF := Lib.hid hwf
  clear hF hE hR hvs hCh hW hK hva hwf
  subst hn9
  go_enter Tryz.func20, Tryz.ntmps20
  go_upto_region 1 with fail
  rw [← HW.out]
  obtain ⟨x0, x1, x2, x3, x4, x5, x6, x7, x8, xf⟩ := nine HB.out
  clear xf
  obtain ⟨⟨cc, cn, cd⟩, hck⟩ : ∃ r, checkR g = r := ⟨_, rfl⟩
  have HCK := Lib.hid hck
  rw [hck] at HCh HWF
  clear hck
  cases hcc : decide (cc = 0) with
  | false =>
    have hz : (cc != 0) = true := by rw [bne_iff_ne]; exact of_decide_eq_false hcc
    have HX : Hid (R = (⟨#[]⟩, cc)) := Lib.hid (by rw [← HR.out]; unfold printR; rw [HCK.out, if_pos (of_decide_eq_false hcc)])
    clear hcc
    go_wp2_with (go_at_call 24; refine HCh.out.mono ?_; rintro e W2 ⟨rfl, hK2⟩)
    go_ret2
    rw [HX.out]
    exact ⟨rfl, HK.out.trans hK2⟩
  | true =>
    have hz : (cc != 0) = false := by rw [of_decide_eq_true hcc]; rfl
    have HX : Hid (R = if (printL g).length ≤ 1048576 then (⟨(printL g).toArray⟩, 0) else (⟨#[]⟩, 3)) := Lib.hid (by rw [← HR.out]; unfold printR; rw [HCK.out, if_neg (by simpa using of_decide_eq_true hcc)])
    have HWF2 := Lib.hid (HWF.out (of_decide_eq_true hcc))
    clear hcc HWF
    go_upto_region 5 with (go_at_call 24; refine HCh.out.mono ?_; rintro e W2 ⟨rfl, hK2⟩; have HK2 := Lib.hid (HK.out.trans hK2); have hb2 := hK2.heap HB.out (by simp); have HB2 := Lib.hid hb2; clear hK2 hb2)
    obtain ⟨W3, hW3⟩ : ∃ W3, W3 = W2.alloc (.cells #[.slice none 0 0] 68) := ⟨_, rfl⟩
    rw [← hW3]
    have hk3 : Keep [] W2 W3 := by rw [hW3]; exact (Keep.refl [] W2).alloc _
    have hs3 : W3.heap.size = W2.heap.size + 1 := by rw [hW3]; simp
    have hwr : WrAt W3 (W2.heap.size + 1) W2.heap.size (.slice none 0 0) [] := ⟨by rw [hW3]; exact alloc_at _ _, World.ownsRow_nil _ _ _ _⟩
    have hw2 := HK2.out.size
    have HA := HWF2.out (W2.heap.size + 1) W2.heap.size (.slice none 0 0) W3 (by omega) (by omega) (by omega) (by omega) (HE.out.keep0 (HK2.out.trans hk3)) (HF.out.keep (HK2.out.trans hk3) hH (by simp)) hwr
    rw [HVA.out] at HA
    have HA2 := Lib.hid HA
    have HK3 := Lib.hid (HK2.out.trans hk3)
    have hb3 := hk3.heap HB2.out (by simp)
    clear x0 x1 x2 x3 x4 x5 x6 x7 x8
    obtain ⟨x0, x1, x2, x3, x4, x5, x6, x7, x8, xf⟩ := nine hb3
    have HP0 := Lib.hid (printL_pos g)
    clear xf hb3 HA hk3 hwr hW3 hs3
    cases hpl : decide ((printL g).length ≤ 1048576) with
    | false =>
      have HX2 : Hid (R = (⟨#[]⟩, 3)) := Lib.hid (by rw [HX.out, if_neg (of_decide_eq_false hpl)])
      have HA3 : Hid (Calls Tryz.prog 35 #[.pointer (some ⟨W2.heap.size, 0, none⟩), .agg #[Value.int .i8 g.it.kind, .slice a1 g.kids.length c1, .string g.it.desc, .string g.it.value, .string g.it.start, .slice a2 g.it.mids.length c2, .string g.it.fin, .string g.it.rule, .bool g.it.dn]] W3 fun e w' => e = .returned (.bool false) ∧ ∃ v', WKeep W2.heap.size (.slice none 0 0) v' W3 w') := Lib.hid (HA2.out.mono fun e w' ⟨h1, v', l', _, h3, _⟩ => ⟨by rw [h1, hpl], v', h3⟩)
      clear hpl HX
      go_wp2_with (go_at_call 35; refine HA3.out.mono ?_; rintro e W4 ⟨rfl, v4, hK4⟩)
      go_ret2
      rw [HX2.out]
      exact ⟨rfl, hK4.low HK3.out hw2 rfl⟩
    | true =>
      have HX2 : Hid (R = (⟨(printL g).toArray⟩, 0)) := Lib.hid (by rw [HX.out, if_pos (of_decide_eq_true hpl)])
      have HA3 : Hid (Calls Tryz.prog 35 #[.pointer (some ⟨W2.heap.size, 0, none⟩), .agg #[Value.int .i8 g.it.kind, .slice a1 g.kids.length c1, .string g.it.desc, .string g.it.value, .string g.it.start, .slice a2 g.it.mids.length c2, .string g.it.fin, .string g.it.rule, .bool g.it.dn]] W3 fun e w' => e = .returned (.bool true) ∧ ∃ v', WrAt w' (W2.heap.size + 1) W2.heap.size v' (printL g) ∧ WKeep W2.heap.size (.slice none 0 0) v' W3 w') := Lib.hid (HA2.out.mono fun e w' ⟨h1, v', l', h2, h3, h4⟩ => ⟨by rw [h1, hpl], v', h4 (of_decide_eq_true hpl) ▸ h2, h3⟩)
      obtain ⟨P, hP⟩ : ∃ P, printL g = P := ⟨_, rfl⟩
      rw [hP] at HX2 HA3 HP0
      clear hpl HX hP
      go_wp2_with (go_at_call 35; refine HA3.out.mono ?_; rintro e W4 ⟨rfl, v4, hR4, hK4⟩; obtain ⟨gg, cap, rfl, _, _⟩ := hR4.2.form HP0.out; have hcb := cell_of hR4.1 0; have hcv := run_convert_bytes_back (P := Tryz.prog) W4 49 9 5 ⟨gg, 0, none⟩ cap P Tryz.underlying49 Tryz.underlying5 Tryz.underlying9 (fun j hj => hR4.2.cells (g := gg) rfl j _ (by simp [Lib.byteCells, hj])); have HK4 := Lib.hid hK4; clear hR4 hK4)
      go_ret2
      rw [HX2.out]
      exact ⟨rfl, HK4.out.low HK3.out hw2 rfl⟩
end Go.Proofs.YtjmpcoedfoaebaaGreatDoor
