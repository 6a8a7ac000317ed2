/- The reference's reader: pieces. -/
import Derived.Test.YtjmpcoedfoaebaaGreatDoorRva
import Derived.Test.YtjmpcoedfoaebaaGreatDoorFltx
open Go Go.RowKit
namespace Go.Proofs.YtjmpcoedfoaebaaGreatDoor

theorem alloc_is3 (w : World) (o : Obj) (k : Nat) (h : k = w.heap.size) : (w.alloc o).heap[k]? = some o := by rw [h]; exact alloc_at w o
theorem RxF.keep1 {S : List Nat} {w w' : World} {b : Nat} {s : ByteArray} {f : Int × Nat} (h : RxF w b s f) (k : Keep S w w') (hn : b ∉ S) : RxF w' b s f := by
  obtain ⟨i, n, h⟩ := h
  exact ⟨i, n, k.heap h hn⟩
theorem next_no {s : ByteArray} {q : Nat} {c : UInt8} (h : nextB s q c = false) (hc : c ≠ 0 := by decide) : ¬ peekB s q = c := fun hp => by
  have hlt : q < s.size := peekB_lt (by rw [hp]; exact hc)
  unfold nextB at h
  simp [hlt, hp] at h
theorem next_yes {s : ByteArray} {q : Nat} {c : UInt8} (h : nextB s q c = true) : q < s.size ∧ peekB s q = c := by
  unfold nextB at h
  simpa using h
/-- A filter's value, whatever it holds. -/
def Agg9 (x : Value) : Prop := ∃ (k : Int) (a1 : Option Addr) (n1 c1 : Nat) (d v st : ByteArray) (a2 : Option Addr) (n2 c2 : Nat) (fi ru : ByteArray) (dn : Bool),
  x = .agg #[.int .i8 k, .slice a1 n1 c1, .string d, .string v, .string st, .slice a2 n2 c2, .string fi, .string ru, .bool dn]
/-- What a call of the reference's reader that answers an item has done. -/
def ItX (b : Nat) (s : ByteArray) (parts : Nat) (w : World) (r : Except (Int × Nat) (Itm × Nat)) (e : Ending) (w' : World) : Prop :=
  match r with
  | .ok t => ∃ a2 c2, e = .returned (.tuple #[.agg #[.int .i8 t.1.kind, .slice none 0 0, .string t.1.desc, .string t.1.value, .string t.1.start, .slice a2 t.1.mids.length c2, .string t.1.fin, .string t.1.rule, .bool t.1.dn], .bool true]) ∧
      w'.ownsRow w.heap.size 9 1 (.slice a2 t.1.mids.length c2) t.1.mids.length (t.1.mids.map Value.string) ∧ Rx w' b s t.2 parts ∧ Keep [b] w w'
  | .error f => ∃ x, Agg9 x ∧ e = .returned (.tuple #[x, .bool false]) ∧ RxF w' b s f ∧ Keep [b] w w'

/-- The middles once a last value is known to be none. -/
def midsOf (ms : List ByteArray) (fin : ByteArray) : List ByteArray := if fin = noText then ms else ms ++ [fin]
def RpRel (b : Nat) (s : ByteArray) (p : Nat) (d v : ByteArray) (w : World) (R : Except (Int × Nat) (List ByteArray × ByteArray × Nat)) (k : Nat) (star : Value) (wr : World) : Prop :=
  ∃ (j : Nat) (ms : List ByteArray) (fe : ByteArray) (mv : Value), j ≤ s.size ∧ s.size < j + k ∧ ms.length ≤ j ∧ Rx wr b s j p ∧ Keep [b] w wr ∧
    wr.heap[w.heap.size]? = some (.cells #[.int .i8 4, .slice none 0 0, .string d, .string ⟨#[]⟩, .string v, mv, .string fe, .string ⟨#[]⟩, .bool false] 26 (0, 0)) ∧
    wr.heap[w.heap.size + 1]? = some (.cells #[.int .i8 0, .slice none 0 0, .string ⟨#[]⟩, .string ⟨#[]⟩, .string ⟨#[]⟩, .slice none 0 0, .string ⟨#[]⟩, .string ⟨#[]⟩, .bool false] 26 (0, 0)) ∧
    wr.ownsRow (w.heap.size + 2) 9 1 mv ms.length (ms.map Value.string) ∧
    ((star = .bool true ∧ fe = ⟨#[]⟩ ∧ peekB s j = 42 ∧ ∃ m0 fin, ms = midsOf m0 fin ∧ partsP k s j m0 fin = R) ∨ (star = .bool false ∧ R = .ok (ms, fe, j)))

theorem empty_eq {v : ByteArray} : v.toList.isEmpty = true ↔ v = noText := by
  rw [ByteArray.toList_eq]
  constructor
  · intro h
    have h2 : v.data.toList = [] := List.isEmpty_iff.1 h
    exact ByteArray.ext (Array.toList_inj.1 (h2.trans rfl))
  · intro h; rw [h]; rfl
theorem pk_yes {d v fe : ByteArray} {ms : List ByteArray} {q : Nat} (h1 : v.toList.isEmpty = true) (h2 : fe.toList.isEmpty = true) (h3 : ms.length = 0) : pieceItm d v (.ok (ms, fe, q)) = .ok (⟨7, d, noText, v, ms, fe, noText, false⟩, q) := by
  show Except.ok ((⟨if v = noText ∧ fe = noText ∧ ms = [] then 7 else 4, d, noText, v, ms, fe, noText, false⟩ : Itm), q) = _
  rw [if_pos ⟨empty_eq.1 h1, empty_eq.1 h2, List.length_eq_zero_iff.1 h3⟩]
theorem pk_no {d v fe : ByteArray} {ms : List ByteArray} {q : Nat} (h : v.toList.isEmpty = false ∨ fe.toList.isEmpty = false ∨ ms.length ≠ 0) : pieceItm d v (.ok (ms, fe, q)) = .ok (⟨4, d, noText, v, ms, fe, noText, false⟩, q) := by
  show Except.ok ((⟨if v = noText ∧ fe = noText ∧ ms = [] then 7 else 4, d, noText, v, ms, fe, noText, false⟩ : Itm), q) = _
  rw [if_neg]
  rintro ⟨h1, h2, h3⟩
  rcases h with h | h | h
  · rw [empty_eq.2 h1] at h; cases h
  · rw [empty_eq.2 h2] at h; cases h
  · exact h (by rw [h3]; rfl)
set_option maxRecDepth 100000 in
set_option maxHeartbeats 2000000 in
theorem xpieces_any (b i p : Nat) (d : ByteArray) (s : ByteArray) (w : World) (hs : s.size ≤ 1048576) (hi : i ≤ s.size) (hR : Rx w b s i p) :
    Calls Tryz.prog 70 #[.pointer (some ⟨b, 0, none⟩), .agg #[.int .i8 0, .slice none 0 0, .string d, .string ⟨#[]⟩, .string ⟨#[]⟩, .slice none 0 0, .string ⟨#[]⟩, .string ⟨#[]⟩, .bool false]] w (ItX b s p w (piecesP s i d)) := by
  have hsm : s.size ≤ maxLen := by unfold maxLen; omega
  have HR := Lib.hid hR
  clear hR
  have hbw := HR.out.lt
  have hW : Keep [] w ((w.alloc (.cells #[.int .i8 0, .slice none 0 0, .string d, .string ⟨#[]⟩, .string ⟨#[]⟩, .slice none 0 0, .string ⟨#[]⟩, .string ⟨#[]⟩, .bool false] 26)).alloc (.cells #[.int .i8 0, .slice none 0 0, .string ⟨#[]⟩, .string ⟨#[]⟩, .string ⟨#[]⟩, .slice none 0 0, .string ⟨#[]⟩, .string ⟨#[]⟩, .bool false] 26)) := ((Keep.refl [] w).alloc _).alloc _
  have hV := xvalue_any b i p true s _ hs hi (HR.out.keep0 hW)
  have HV := Lib.hid hV
  have HW := Lib.hid hW
  have hF : ((w.alloc (.cells #[.int .i8 0, .slice none 0 0, .string d, .string ⟨#[]⟩, .string ⟨#[]⟩, .slice none 0 0, .string ⟨#[]⟩, .string ⟨#[]⟩, .bool false] 26)).alloc (.cells #[.int .i8 0, .slice none 0 0, .string ⟨#[]⟩, .string ⟨#[]⟩, .string ⟨#[]⟩, .slice none 0 0, .string ⟨#[]⟩, .string ⟨#[]⟩, .bool false] 26)).heap[w.heap.size]? = some (.cells #[.int .i8 0, .slice none 0 0, .string d, .string ⟨#[]⟩, .string ⟨#[]⟩, .slice none 0 0, .string ⟨#[]⟩, .string ⟨#[]⟩, .bool false] 26 (0, 0)) := (alloc_lt _ (by simp)).trans (alloc_at w _)
  have hG : ((w.alloc (.cells #[.int .i8 0, .slice none 0 0, .string d, .string ⟨#[]⟩, .string ⟨#[]⟩, .slice none 0 0, .string ⟨#[]⟩, .string ⟨#[]⟩, .bool false] 26)).alloc (.cells #[.int .i8 0, .slice none 0 0, .string ⟨#[]⟩, .string ⟨#[]⟩, .string ⟨#[]⟩, .slice none 0 0, .string ⟨#[]⟩, .string ⟨#[]⟩, .bool false] 26)).heap[w.heap.size + 1]? = some (.cells #[.int .i8 0, .slice none 0 0, .string ⟨#[]⟩, .string ⟨#[]⟩, .string ⟨#[]⟩, .slice none 0 0, .string ⟨#[]⟩, .string ⟨#[]⟩, .bool false] 26 (0, 0)) := alloc_is3 (w.alloc _) _ _ (by simp)
  have HF := Lib.hid hF
  have HG := Lib.hid hG
  clear hV hW hF hG
  unfold piecesP
  cases hv : valueP true s i with
  | error f =>
    rw [hv] at HV
    clear hv
    dsimp only
    go_enter Tryz.func70, Tryz.ntmps70
    go_wp2_with (go_at_call 71; refine HV.out.mono ?_; intro e w2 hw; obtain ⟨rfl, hE, hK⟩ := GaveX.err hw; clear hw; have hF := hK.heap HF.out (by simp; omega); have hG := hK.heap HG.out (by simp; omega); obtain ⟨x0, x1, x2, x3, x4, x5, x6, x7, x8, xf⟩ := nine hF; obtain ⟨y0, y1, y2, y3, y4, y5, y6, y7, y8, yf⟩ := nine hG; have HF2 := Lib.hid hF; have HG2 := Lib.hid hG; have HE := Lib.hid hE; have HK := Lib.hid hK; clear hF hG hE hK)
    refine bodyPost_ret (v := .tuple #[.agg #[.int .i8 0, .slice none 0 0, .string d, .string ⟨#[]⟩, .string ⟨#[]⟩, .slice none 0 0, .string ⟨#[]⟩, .string ⟨#[]⟩, .bool false], .bool false]) (by simp [results, Tryz.results70, go_sem, y0, y1, y2, y3, y4, y5, y6, y7, y8]) rfl ?_
    have hKr : Keep [w.heap.size + 1] w2 (w2.setCells (w.heap.size + 1) 0 [.int .i8 0, .slice none 0 0, .string d, .string ⟨#[]⟩, .string ⟨#[]⟩, .slice none 0 0, .string ⟨#[]⟩, .string ⟨#[]⟩, .bool false]) := setCells_keep (.inl (by simp)) _ 0 w2 (Keep.refl _ _)
    exact ⟨_, ⟨_, _, _, _, _, _, _, _, _, _, _, _, _, rfl⟩, rfl, HE.out.keep1 hKr (by simp; omega), ((HW.out.of0).trans HK.out).transTo hKr (by simp)⟩
  | ok t =>
    obtain ⟨v, j⟩ := t
    rw [hv] at HV
    obtain ⟨hij, hjs, hvs⟩ := valueP_le hi hv
    dsimp only
    clear hv
    have HX := Lib.hid (fun W h => xnext_any b j p 42 s W h)
    cases hx : nextB s j 42
    · rw [hx] at HX
      have hne : ¬ peekB s j = 42 := next_no hx
      rw [if_neg hne]
      clear hne hx
      go_enter Tryz.func70, Tryz.ntmps70
      go_wp2_with (first
        | (go_at_call 71; refine HV.out.mono ?_; intro e w2 hw; obtain ⟨rfl, hR2, hK⟩ := GaveX.ok hw; clear hw; have hF := hK.heap HF.out (by simp; omega); have hG := hK.heap HG.out (by simp; omega); obtain ⟨x0, x1, x2, x3, x4, x5, x6, x7, x8, xf⟩ := nine hF; obtain ⟨y0, y1, y2, y3, y4, y5, y6, y7, y8, yf⟩ := nine hG; have HF2 := Lib.hid hF; have HG2 := Lib.hid hG; have HR2 := Lib.hid hR2; have HK := Lib.hid hK; clear hF hG hR2 hK)
        | (go_at_call 41; refine (HX.out _ (by exact HR2.out)).mono ?_; rintro e w' ⟨rfl, n, rfl⟩))
      refine bodyPost_ret (v := .tuple #[.agg #[.int .i8 3, .slice none 0 0, .string d, .string v, .string ⟨#[]⟩, .slice none 0 0, .string ⟨#[]⟩, .string ⟨#[]⟩, .bool false], .bool true]) (by simp [results, Tryz.results70, go_sem, y0, y1, y2, y3, y4, y5, y6, y7, y8]) rfl ?_
      have hKr : Keep [w.heap.size, w.heap.size + 1] w2 ((((w2.drewN n).setCell ⟨w.heap.size, 0, none⟩ (.int .i8 3)).setCell ⟨w.heap.size, 3, none⟩ (.string v)).setCells (w.heap.size + 1) 0 [.int .i8 3, .slice none 0 0, .string d, .string v, .string ⟨#[]⟩, .slice none 0 0, .string ⟨#[]⟩, .string ⟨#[]⟩, .bool false]) := setCells_keep (.inl (by simp)) _ 0 _ ((((Keep.refl _ _).drewN _).setCell _ _ (.inl (by simp))).setCell _ _ (.inl (by simp)))
      exact ⟨_, _, rfl, World.ownsRow_nil _ _ _ _, HR2.out.keep hKr (by simp; omega), ((HW.out.of0).trans HK.out).transTo hKr (by simp)⟩
    · rw [hx] at HX
      obtain ⟨hjl, h42⟩ := next_yes hx
      rw [if_pos h42]
      have HVA := Lib.hid (fun (q : Nat) (W : World) (h1 : q ≤ s.size) (h2 : Rx W b s q p) => xvalue_any b q p true s W hs h1 h2)
      generalize hRR : partsP (s.size + 1) s j [] noText = R
      have HRR := Lib.hid hRR
      have H42 := Lib.hid h42
      clear hRR h42 hx
      go_enter Tryz.func70, Tryz.ntmps70
      go_wp2_with (first
        | (go_at_call 71; refine HV.out.mono ?_; intro e w2 hw; obtain ⟨rfl, hR2, hK⟩ := GaveX.ok hw; clear hw; have hF := hK.heap HF.out (by simp; omega); have hG := hK.heap HG.out (by simp; omega); obtain ⟨x0, x1, x2, x3, x4, x5, x6, x7, x8, xf⟩ := nine hF; have HF2 := Lib.hid hF; have HG2 := Lib.hid hG; have HR2 := Lib.hid hR2; have HK := Lib.hid hK; clear hF hG hR2 hK)
        | (go_at_call 41; refine (HX.out _ (by exact HR2.out)).mono ?_; rintro e w' ⟨rfl, n, rfl⟩))
      have hKr : Keep [w.heap.size] w2 (((w2.drewN n).setCell ⟨w.heap.size, 0, none⟩ (.int .i8 4)).setCell ⟨w.heap.size, 4, none⟩ (.string v)) := (((Keep.refl _ _).drewN _).setCell _ _ (.inl (by simp))).setCell _ _ (.inl (by simp))
      have HR3 := Lib.hid (HR2.out.keep hKr (by simp; omega))
      have HK3 : Hid (Keep [b] w (((w2.drewN n).setCell ⟨w.heap.size, 0, none⟩ (.int .i8 4)).setCell ⟨w.heap.size, 4, none⟩ (.string v))) := Lib.hid (((HW.out.of0).trans HK.out).transTo hKr (by simp))
      have HG3 := Lib.hid (hKr.heap HG2.out (by simp))
      have HF3 := Lib.hid (setCell_at (setCell_at (w := w2.drewN n) HF2.out 0 (.int .i8 4)) 4 (.string v))
      clear hKr x0 x1 x2 x3 x4 x5 x6 x7 x8 xf HF2 HG2 HR2 HK HV HW HF HG HR
      go_loopg [8] (s.size + 1) (fun k star wr => RpRel b s p d v w R k star wr)
      case atStart => exact ⟨j, [], ⟨#[]⟩, .slice none 0 0, hjs, by omega, by simp, HR3.out, HK3.out, HF3.out, HG3.out, World.ownsRow_nil _ _ _ _, .inl ⟨rfl, rfl, H42.out, [], noText, rfl, HRR.out⟩⟩
      case round =>
        obtain ⟨q, ms, fe, mv, hq, hk, hml, hRq, hKq, hFq, hGq, hO, hst⟩ := hrel
        have r1 := hRq.c1
        have rf := hRq.free 1
        obtain ⟨x0, x1, x2, x3, x4, x5, x6, x7, x8, xf⟩ := nine hFq
        have HRq := Lib.hid hRq
        have HKq := Lib.hid hKq
        have HFq := Lib.hid hFq
        have HGq := Lib.hid hGq
        have HO := Lib.hid hO
        clear hRq hKq hFq hGq hO HR3 HK3 HG3 HF3
        rcases hst with ⟨rfl, rfl, h42, m0, fin, rfl, hP⟩ | ⟨rfl, rfl⟩
        · have hql : q < s.size := peekB_lt (by rw [h42]; decide)
          obtain ⟨k', rfl⟩ : ∃ k', gk = k' + 1 := ⟨gk - 1, by omega⟩
          obtain ⟨a2, c2, hmv⟩ := owns_slice HO.out
          subst hmv
          have hVq := HVA.out (q + 1) (wr.setCell ⟨b, 1, none⟩ (.int .i64 ((q : Int) + 1))) (by omega) (HRq.out.setAt (q + 1))
          have hFs : (wr.setCell ⟨b, 1, none⟩ (.int .i64 ((q : Int) + 1))).heap[w.heap.size]? = _ := (setCell_ne _ (show w.heap.size ≠ b by omega)).trans HFq.out
          have hGs : (wr.setCell ⟨b, 1, none⟩ (.int .i64 ((q : Int) + 1))).heap[w.heap.size + 1]? = _ := (setCell_ne _ (show w.heap.size + 1 ≠ b by omega)).trans HGq.out
          have hKs : Keep [b] w (wr.setCell ⟨b, 1, none⟩ (.int .i64 ((q : Int) + 1))) := HKq.out.setCell _ _ (.inl (by simp))
          have hOs : (wr.setCell ⟨b, 1, none⟩ (.int .i64 ((q : Int) + 1))).ownsRow (w.heap.size + 2) 9 1 (.slice a2 (midsOf m0 fin).length c2) (midsOf m0 fin).length ((midsOf m0 fin).map Value.string) := own_keepV HO.out ((Keep.refl [b] wr).setCell _ _ (.inl (by simp))) (by simp; omega)
          generalize hms : midsOf m0 fin = ms at *
          have HFs := Lib.hid hFs
          have HGs := Lib.hid hGs
          have HKs := Lib.hid hKs
          have HOs := Lib.hid hOs
          clear hFs hGs hKs hOs HFq HGq HKq HO HRq
          cases hvq : valueP true s (q + 1) with
          | error f =>
            rw [hvq] at hVq
            have HVq := Lib.hid hVq
            rw [partsP_err h42 hvq] at hP
            obtain rfl : Except.error f = R := hP
            clear hVq hvq h42 hms
            go_wp2_with (go_at_call 71; refine HVq.out.mono ?_; intro e w3 hw; obtain ⟨rfl, hE, hK⟩ := GaveX.err hw; clear hw; obtain ⟨z0, z1, z2, z3, z4, z5, z6, z7, z8, zf⟩ := nine (hK.heap HFs.out (by simp; omega)); obtain ⟨y0, y1, y2, y3, y4, y5, y6, y7, y8, yf⟩ := nine (hK.heap HGs.out (by simp; omega)); have HE := Lib.hid hE; have HK := Lib.hid hK; clear hE hK)
            refine bodyPost_ret (v := .tuple #[.agg #[.int .i8 4, .slice none 0 0, .string d, .string ⟨#[]⟩, .string v, .slice a2 ms.length c2, .string ⟨#[]⟩, .string ⟨#[]⟩, .bool false], .bool false]) (by simp [results, Tryz.results70, go_sem, y0, y1, y2, y3, y4, y5, y6, y7, y8]) rfl ?_
            have hKr : Keep [w.heap.size + 1] w3 (w3.setCells (w.heap.size + 1) 0 [.int .i8 4, .slice none 0 0, .string d, .string ⟨#[]⟩, .string v, .slice a2 ms.length c2, .string ⟨#[]⟩, .string ⟨#[]⟩, .bool false]) := setCells_keep (.inl (by simp)) _ 0 w3 (Keep.refl _ _)
            exact ⟨_, ⟨_, _, _, _, _, _, _, _, _, _, _, _, _, rfl⟩, rfl, HE.out.keep1 hKr (by simp; omega), (HKs.out.trans HK.out).transTo hKr (by simp)⟩
          | ok tq =>
            obtain ⟨u, q2⟩ := tq
            obtain ⟨hq2a, hq2b, _⟩ := valueP_le hql hvq
            rw [hvq] at hVq
            have HVq := Lib.hid hVq
            rw [partsP_ok h42 hvq] at hP
            have hP' : partsP k' s q2 ms u = R := by rw [← hms]; exact hP
            have HP := Lib.hid hP'
            clear hVq hvq h42 hP hP' hms
            have HX2 := Lib.hid (fun W h => xnext_any b q2 p 42 s W h)
            cases hx2 : nextB s q2 42
            · rw [hx2] at HX2
              have hne := next_no hx2
              clear hx2
              go_wp2_with (first
                | (go_at_call 71; refine HVq.out.mono ?_; intro e w3 hw; obtain ⟨rfl, hR3, hK⟩ := GaveX.ok hw; clear hw; have hF3 := hK.heap HFs.out (by simp; omega); obtain ⟨z0, z1, z2, z3, z4, z5, z6, z7, z8, zf⟩ := nine hF3; have HF3 := Lib.hid hF3; have HG3 := Lib.hid (hK.heap HGs.out (by simp; omega)); have HR3 := Lib.hid hR3; have HK := Lib.hid hK; clear hR3 hK hF3)
                | (go_at_call 41; refine (HX2.out _ (by exact HR3.out)).mono ?_; rintro e w' ⟨rfl, n, rfl⟩))
              go_roundg k'
              case measure => omega
              case rel =>
                obtain ⟨k2, rfl⟩ : ∃ k2, k' = k2 + 1 := ⟨k' - 1, by omega⟩
                have hKr : Keep [w.heap.size] w3 ((w3.drewN n).setCell ⟨w.heap.size, 6, none⟩ (.string u)) := ((Keep.refl _ _).drewN _).setCell _ _ (.inl (by simp))
                refine ⟨q2, ms, u, .slice a2 ms.length c2, hq2b, by omega, by omega, HR3.out.keep hKr (by simp; omega), (HKs.out.trans HK.out).transTo hKr (by simp), setCell_at (w := w3.drewN n) HF3.out 6 (.string u), hKr.heap HG3.out (by simp), own_keepV (own_keepV HOs.out HK.out (by simp; omega)) hKr (by simp), .inr ⟨rfl, ?_⟩⟩
                rw [← HP.out, partsP_stop hne]
            · rw [hx2] at HX2
              obtain ⟨hq2l, h42'⟩ := next_yes hx2
              have H42' := Lib.hid h42'
              clear hx2 h42'
              cases heu : u.toList.isEmpty
              · obtain ⟨i0, hi0, hz0, hz1, hz2⟩ := info_partsV Tryz.infoStr
                go_wp2_with (first
                  | (go_at_call 71; refine HVq.out.mono ?_; intro e w3 hw; obtain ⟨rfl, hR3, hK⟩ := GaveX.ok hw; clear hw; have hF3 := hK.heap HFs.out (by simp; omega); obtain ⟨z0, z1, z2, z3, z4, z5, z6, z7, z8, zf⟩ := nine hF3; have HF3 := Lib.hid hF3; have HG3 := Lib.hid (hK.heap HGs.out (by simp; omega)); have HR3 := Lib.hid hR3; have HK := Lib.hid hK; have HK3k := Lib.hid hK; clear hR3 hK hF3)
                  | (go_at_call 41; refine (HX2.out _ (by exact HR3.out)).mono ?_; rintro e w' ⟨rfl, n, rfl⟩; have hOa := own_keepV (own_keepV HOs.out HK3k.out (by simp; omega)) (((Keep.refl [] w3).drewN n).alloc (.cells #[.string u] 9)) (by simp); have HOa := Lib.hid hOa; clear hOa)
                  | (at_builtin; refine wpList_append_lies _ rfl (.tmp 55) (.tmp 57) 24 rfl (w.heap.size + 2) 9 i0 _ 1 16 Tryz.underlying24 hi0 hz0 hz1 hz2 rfl (by omega) (.slice a2 ms.length c2) ms.length (ms.map Value.string) (by rfl) (by exact HOa.out) ⟨w3.heap.size, 0, none⟩ 1 1 [.string u] (by rfl) (by rfl) (World.news_of_block (cs := #[.string u]) (t := 9) (fr := (0, 0)) (heap_alloc_new (w3.drewN n) _)) (by simp [Value.oneCell']) (by omega) (by unfold maxLen; omega) (by omega) (by have h1 := lt_of_block HG3.out; simp; omega) _ rfl ?_; intro gg cap w6 ho6 hgrow hat hlt; have hF6 := (hgrow.block w.heap.size (by have h1 := lt_of_block HF3.out; simp; omega) (fun h => by have h2 := own_ge HOa.out h.symm; omega)).trans ((alloc_lt (w := w3.drewN n) (.cells #[.string u] 9) (lt_of_block HF3.out)).trans HF3.out); have q5 := cell_of hF6 5; have qf := free_of hF6 5; have HF6 := Lib.hid hF6; have HO6 := Lib.hid ho6; have HGr := Lib.hid hgrow; clear hF6 ho6 hgrow hat hlt))
                go_roundg k'
                case measure => omega
                case rel =>
                  have hKa : Keep [] w3 ((w3.drewN n).alloc (.cells #[.string u] 9)) := ((Keep.refl [] w3).drewN n).alloc _
                  have hK6 : Keep [b] w w6 := ((HKs.out.trans HK.out).trans0 hKa).grown HGr.out (fun k hk => .inr (by have h2 := own_ge HOa.out hk; omega))
                  have hne6 : ∀ k, k < w3.heap.size → k < w.heap.size + 2 → w6.heap[k]? = w3.heap[k]? := fun k h1 h2 => (HGr.out.block k (by simp; omega) (fun h => by have h3 := own_ge HOa.out h.symm; omega)).trans (alloc_lt (w := w3.drewN n) _ h1)
                  have hKr : Keep [w.heap.size] w6 (w6.setCell ⟨w.heap.size, 5, none⟩ (.slice (some ⟨gg, 0, none⟩) (ms.length + 1) cap)) := (Keep.refl _ _).setCell _ _ (.inl (by simp))
                  have hml2 : midsOf ms u = ms ++ [u] := by unfold midsOf; rw [if_neg (fun h => by rw [empty_eq.2 h] at heu; cases heu)]
                  have hR6 : Rx w6 b s q2 p := (hne6 b (lt_of_block HR3.out) (by omega)).trans HR3.out
                  have hG6 := (hne6 (w.heap.size + 1) (lt_of_block HG3.out) (by omega)).trans HG3.out
                  refine ⟨q2, midsOf ms u, ⟨#[]⟩, .slice (some ⟨gg, 0, none⟩) (ms.length + 1) cap, hq2b, by omega, by rw [hml2, List.length_append]; simp; omega, hR6.keep hKr (by simp; omega), hK6.transTo hKr (by simp), setCell_at HF6.out 5 _, hKr.heap hG6 (by simp), ?_, .inl ⟨rfl, rfl, H42'.out, ms, u, rfl, HP.out⟩⟩
                  rw [hml2, List.length_append, List.map_append]
                  exact own_keepV HO6.out hKr (by simp)
              · have HU := Lib.hid (empty_eq.1 heu)
                go_wp2_with (first
                  | (go_at_call 71; refine HVq.out.mono ?_; intro e w3 hw; obtain ⟨rfl, hR3, hK⟩ := GaveX.ok hw; clear hw; have HF3 := Lib.hid (hK.heap HFs.out (by simp; omega)); have HG3 := Lib.hid (hK.heap HGs.out (by simp; omega)); have HR3 := Lib.hid hR3; have HK := Lib.hid hK; clear hR3 hK)
                  | (go_at_call 41; refine (HX2.out _ (by exact HR3.out)).mono ?_; rintro e w' ⟨rfl, n, rfl⟩))
                go_roundg k'
                case measure => omega
                case rel =>
                  have hKr : Keep [] w3 (w3.drewN n) := (Keep.refl _ _).drewN _
                  have hml2 : midsOf ms u = ms := by unfold midsOf; rw [if_pos HU.out]
                  refine ⟨q2, midsOf ms u, ⟨#[]⟩, .slice a2 ms.length c2, hq2b, by omega, by rw [hml2]; omega, HR3.out.keep0 hKr, (HKs.out.trans HK.out).trans0 hKr, HF3.out, HG3.out, ?_, .inl ⟨rfl, rfl, H42'.out, ms, u, rfl, HP.out⟩⟩
                  rw [hml2]
                  exact own_keepV (own_keepV HOs.out HK.out (by simp; omega)) hKr (by simp)
        · obtain ⟨y0, y1, y2, y3, y4, y5, y6, y7, y8, yf⟩ := nine HGq.out
          obtain ⟨a2, c2, hmv⟩ := owns_slice HO.out
          subst hmv
          cases he1 : v.toList.isEmpty
          · have HPK := Lib.hid (pk_no (d := d) (q := q) (.inl he1) (fe := fe) (ms := ms))
            go_wp2_with fail
            refine bodyPost_ret (v := .tuple #[.agg #[.int .i8 4, .slice none 0 0, .string d, .string ⟨#[]⟩, .string v, .slice a2 ms.length c2, .string fe, .string ⟨#[]⟩, .bool false], .bool true]) (by simp [results, Tryz.results70, go_sem, y0, y1, y2, y3, y4, y5, y6, y7, y8]) rfl ?_
            have hKr : Keep [w.heap.size, w.heap.size + 1] wr (wr.setCells (w.heap.size + 1) 0 [.int .i8 4, .slice none 0 0, .string d, .string ⟨#[]⟩, .string v, .slice a2 ms.length c2, .string fe, .string ⟨#[]⟩, .bool false]) := setCells_keep (.inl (by simp)) _ 0 _ (Keep.refl _ _)
            rw [HPK.out]
            exact ⟨_, _, rfl, owns_mono (own_keepV HO.out hKr (by simp)) (by omega), HRq.out.keep hKr (by simp; omega), HKq.out.transTo hKr (by simp)⟩
          · cases he2 : fe.toList.isEmpty
            · have HPK := Lib.hid (pk_no (d := d) (v := v) (q := q) (.inr (.inl he2)) (ms := ms))
              go_wp2_with fail
              refine bodyPost_ret (v := .tuple #[.agg #[.int .i8 4, .slice none 0 0, .string d, .string ⟨#[]⟩, .string v, .slice a2 ms.length c2, .string fe, .string ⟨#[]⟩, .bool false], .bool true]) (by simp [results, Tryz.results70, go_sem, y0, y1, y2, y3, y4, y5, y6, y7, y8]) rfl ?_
              have hKr : Keep [w.heap.size, w.heap.size + 1] wr (wr.setCells (w.heap.size + 1) 0 [.int .i8 4, .slice none 0 0, .string d, .string ⟨#[]⟩, .string v, .slice a2 ms.length c2, .string fe, .string ⟨#[]⟩, .bool false]) := setCells_keep (.inl (by simp)) _ 0 _ (Keep.refl _ _)
              rw [HPK.out]
              exact ⟨_, _, rfl, owns_mono (own_keepV HO.out hKr (by simp)) (by omega), HRq.out.keep hKr (by simp; omega), HKq.out.transTo hKr (by simp)⟩
            · by_cases hm0 : ms.length = 0
              · have HPK := Lib.hid (pk_yes (d := d) (q := q) he1 he2 hm0)
                have hmt : (((ms.length : Nat) : Int) == 0) = true := by rw [hm0]; rfl
                clear hm0
                go_wp2_with fail
                refine bodyPost_ret (v := .tuple #[.agg #[.int .i8 7, .slice none 0 0, .string d, .string ⟨#[]⟩, .string v, .slice a2 ms.length c2, .string fe, .string ⟨#[]⟩, .bool false], .bool true]) (by simp [results, Tryz.results70, go_sem, y0, y1, y2, y3, y4, y5, y6, y7, y8]) rfl ?_
                have hKr : Keep [w.heap.size, w.heap.size + 1] wr ((wr.setCell ⟨w.heap.size, 0, none⟩ (.int .i8 7)).setCells (w.heap.size + 1) 0 [.int .i8 7, .slice none 0 0, .string d, .string ⟨#[]⟩, .string v, .slice a2 ms.length c2, .string fe, .string ⟨#[]⟩, .bool false]) := setCells_keep (.inl (by simp)) _ 0 _ ((Keep.refl _ _).setCell _ _ (.inl (by simp)))
                rw [HPK.out]
                exact ⟨_, _, rfl, owns_mono (own_keepV HO.out hKr (by simp)) (by omega), HRq.out.keep hKr (by simp; omega), HKq.out.transTo hKr (by simp)⟩
              · have HPK := Lib.hid (pk_no (d := d) (v := v) (fe := fe) (q := q) (.inr (.inr hm0)))
                have hmt : (((ms.length : Nat) : Int) == 0) = false := by rw [beq_eq_false_iff_ne]; omega
                clear hm0
                go_wp2_with fail
                refine bodyPost_ret (v := .tuple #[.agg #[.int .i8 4, .slice none 0 0, .string d, .string ⟨#[]⟩, .string v, .slice a2 ms.length c2, .string fe, .string ⟨#[]⟩, .bool false], .bool true]) (by simp [results, Tryz.results70, go_sem, y0, y1, y2, y3, y4, y5, y6, y7, y8]) rfl ?_
                have hKr : Keep [w.heap.size, w.heap.size + 1] wr (wr.setCells (w.heap.size + 1) 0 [.int .i8 4, .slice none 0 0, .string d, .string ⟨#[]⟩, .string v, .slice a2 ms.length c2, .string fe, .string ⟨#[]⟩, .bool false]) := setCells_keep (.inl (by simp)) _ 0 _ (Keep.refl _ _)
                rw [HPK.out]
                exact ⟨_, _, rfl, owns_mono (own_keepV HO.out hKr (by simp)) (by omega), HRq.out.keep hKr (by simp; omega), HKq.out.transTo hKr (by simp)⟩
end Go.Proofs.YtjmpcoedfoaebaaGreatDoor
