/- filter.Check, plain; a filter that is read. filter.Check: its walk over the parts. filter.Check. -/
import Derived.Test.YtjmpcoedfoaebaaGreatDoorFpa
import Derived.Laws.EntriesVeiled
import Derived.RegionTactic
open Go Go.RowKit
namespace Go.Proofs.YtjmpcoedfoaebaaGreatDoor

/-- A filter that is read, its blocks below H. -/
inductive FltD (w : World) (H : Nat) : Flt → List Value → Prop where
  | mk (it : Itm) (kids : List Flt) (a1 : Option Addr) (c1 : Nat) (a2 : Option Addr) (c2 : Nat) (cs : Nat → List Value)
      (hm : Txt w H a2 it.mids) (hml : it.mids.length ≤ 9223372036854775807) (hkl : kids.length ≤ 9223372036854775807)
      (hk : kids = [] ∨ ∃ kb ko, a1 = some ⟨kb, ko, none⟩ ∧ kb < H ∧ ∀ i, i < kids.length → ∀ j u, (cs i)[j]? = some u → w.cell? ⟨kb, ko + i * 9 + j, none⟩ = some u)
      (hkid : ∀ i (h : i < kids.length), FltD w H kids[i] (cs i)) :
      FltD w H (.mk it kids) (nineOf (.slice a1 kids.length c1) (.slice a2 it.mids.length c2) it)
theorem FltD.keep {S : List Nat} {w w' : World} {H : Nat} (k : Keep S w w') (hH : H ≤ w.heap.size) (hS : ∀ x ∈ S, H ≤ x) {g : Flt} {vs : List Value} (h : FltD w H g vs) : FltD w' H g vs := by
  induction h with
  | mk it kids a1 c1 a2 c2 cs hm hml hkl hk hkid ih =>
    refine .mk it kids a1 c1 a2 c2 cs (hm.keep k hH hS) hml hkl ?_ ih
    rcases hk with h | ⟨kb, ko, h1, h2, h3⟩
    · exact .inl h
    · exact .inr ⟨kb, ko, h1, h2, fun i hi j u hu => (k.cell ⟨kb, ko + i * 9 + j, none⟩ (Nat.lt_of_lt_of_le h2 hH) (fun hm => by have := hS kb hm; omega)).trans (h3 i hi j u hu)⟩
theorem FltD.nine {w : World} {H : Nat} {g : Flt} {vs : List Value} (h : FltD w H g vs) : ∃ a1 c1 a2 c2, vs = nineOf (.slice a1 g.kids.length c1) (.slice a2 g.it.mids.length c2) g.it := by
  cases h; exact ⟨_, _, _, _, rfl⟩

/-- Parts behind one another: the first fault, the counts. -/
def checkL (f : Flt → Nat → Nat → Int × Nat × Nat) : List Flt → Nat → Nat → Int × Nat × Nat
  | [], n, d => (0, n, d)
  | g :: gs, n, d => if (f g n d).1 ≠ 0 then f g n d else checkL f gs (f g n d).2.1 (f g n d).2.2
/-- A part at a depth: the fault or 0; how many parts; how deep. -/
def checkP : Nat → Flt → Nat → Nat → Int × Nat × Nat
  | 0, _, n, d => (91, n, d)
  | rem + 1, g, n, d =>
    if 65536 < (if g.it.kind = 2 then n else n + 1) ∨ longB g.it = true then (3, if g.it.kind = 2 then n else n + 1, max d (64 - rem)) else
    if rightB g.it g.kids.length = false then (90, if g.it.kind = 2 then n else n + 1, max d (64 - rem)) else
    checkL (checkP rem) g.kids (if g.it.kind = 2 then n else n + 1) (max d (64 - rem))
end Go.Proofs.YtjmpcoedfoaebaaGreatDoor

open Go Go.RowKit
namespace Go.Proofs.YtjmpcoedfoaebaaGreatDoor

/-- What right answers. -/
def RightOk : Prop := ∀ (B H : Nat) (it : Itm) (a1 : Option Addr) (n1 c1 : Nat) (a2 : Option Addr) (c2 : Nat) (w : World), H ≤ w.heap.size → Txt w H a2 it.mids → it.mids.length ≤ 9223372036854775807 → n1 ≤ 9223372036854775807 → longB it = false → Env B w →
  Calls Tryz.prog 40 #[.agg #[.int .i8 it.kind, .slice a1 n1 c1, .string it.desc, .string it.value, .string it.start, .slice a2 it.mids.length c2, .string it.fin, .string it.rule, .bool it.dn]] w (RetB w (rightB it n1))
/-- The walk's counts, and itself. -/
def CkAt (w : World) (nb db wb n d : Nat) : Prop :=
  w.heap[nb]? = some (.cells #[.int .i64 n] 3 (0, 0)) ∧ w.heap[db]? = some (.cells #[.int .i64 d] 3 (0, 0)) ∧ w.heap[wb]? = some (.cells #[.func (.func 38) #[] #[.pointer (some ⟨db, 0, none⟩), .pointer (some ⟨nb, 0, none⟩), .pointer (some ⟨wb, 0, none⟩)]] 73 (0, 0))
theorem CkAt.keep0 {w w' : World} {nb db wb n d : Nat} (h : CkAt w nb db wb n d) (k : Keep [] w w') : CkAt w' nb db wb n d := ⟨k.heap h.1 (by simp), k.heap h.2.1 (by simp), k.heap h.2.2 (by simp)⟩
/-- What the walk has done. -/
def CkR (nb db wb : Nat) (w : World) (r : Int × Nat × Nat) (e : Ending) (w' : World) : Prop := e = .returned (.int .i64 r.1) ∧ CkAt w' nb db wb r.2.1 r.2.2 ∧ Keep [nb, db] w w'
theorem CkR.mk {nb db wb : Nat} {w w' : World} {c : Int} {n d : Nat} {r : Int × Nat × Nat} (hr : r = (c, n, d)) (h : CkAt w' nb db wb n d) (k : Keep [nb, db] w w') : CkR nb db wb w r (.returned (.int .i64 c)) w' := by
  rw [hr]; exact ⟨rfl, h, k⟩
theorem CkAt.setN {w : World} {nb db wb n d : Nat} (h : CkAt w nb db wb n d) (h1 : nb ≠ db) (h2 : nb ≠ wb) (m : Nat) : CkAt (w.setCell ⟨nb, 0, none⟩ (.int .i64 m)) nb db wb m d := ⟨setCell_at h.1 0 _, (setCell_ne _ (Ne.symm h1)).trans h.2.1, (setCell_ne _ (Ne.symm h2)).trans h.2.2⟩
theorem CkAt.setD {w : World} {nb db wb n d : Nat} (h : CkAt w nb db wb n d) (h1 : nb ≠ db) (h2 : db ≠ wb) (m : Nat) : CkAt (w.setCell ⟨db, 0, none⟩ (.int .i64 m)) nb db wb n m := ⟨(setCell_ne _ h1).trans h.1, setCell_at h.2.1 0 _, (setCell_ne _ (Ne.symm h2)).trans h.2.2⟩

theorem checkL_bound {f : Flt → Nat → Nat → Int × Nat × Nat} (hf : ∀ g n d, n ≤ 65536 → d ≤ 64 → (f g n d).1 = 0 → (f g n d).2.1 ≤ 65536 ∧ (f g n d).2.2 ≤ 64) : ∀ (gs : List Flt) (n d : Nat), n ≤ 65536 → d ≤ 64 → (checkL f gs n d).1 = 0 → (checkL f gs n d).2.1 ≤ 65536 ∧ (checkL f gs n d).2.2 ≤ 64
  | [], n, d, hn, hd, _ => ⟨hn, hd⟩
  | g :: gs, n, d, hn, hd, h => by
    unfold checkL at h ⊢
    by_cases hc : (f g n d).1 ≠ 0
    · rw [if_pos hc] at h; exact absurd h hc
    · rw [if_neg hc] at h ⊢
      have := hf g n d hn hd (Classical.not_not.1 hc)
      exact checkL_bound hf gs _ _ this.1 this.2 h
theorem checkP_bound : ∀ (rem : Nat) (g : Flt) (n d : Nat), n ≤ 65536 → d ≤ 64 → (checkP rem g n d).1 = 0 → (checkP rem g n d).2.1 ≤ 65536 ∧ (checkP rem g n d).2.2 ≤ 64
  | 0, _, _, _, _, _, h => by cases h
  | rem + 1, g, n, d, hn, hd, h => by
    rw [checkP] at h ⊢
    by_cases h1 : 65536 < (if g.it.kind = 2 then n else n + 1) ∨ longB g.it = true
    · rw [if_pos h1] at h; cases h
    · rw [if_neg h1] at h ⊢
      by_cases h2 : rightB g.it g.kids.length = false
      · rw [if_pos h2] at h; cases h
      · rw [if_neg h2] at h ⊢
        exact checkL_bound (checkP_bound rem) _ _ _ (by have := fun h => h1 (.inl h); omega) (by omega) h

set_option maxHeartbeats 1000000 in
set_option maxRecDepth 100000 in
theorem check_deep (nb db wb : Nat) (v : Value) (n d : Nat) (w : World) (hC : CkAt w nb db wb n d) (a1 : Option Addr) (n1 c1 : Nat) (a2 : Option Addr) (n2 c2 : Nat) (it : Itm) (hv : v = .agg #[.int .i8 it.kind, .slice a1 n1 c1, .string it.desc, .string it.value, .string it.start, .slice a2 n2 c2, .string it.fin, .string it.rule, .bool it.dn]) :
    Calls Tryz.prog 38 #[v, .int .i64 64, .pointer (some ⟨db, 0, none⟩), .pointer (some ⟨nb, 0, none⟩), .pointer (some ⟨wb, 0, none⟩)] w (CkR nb db wb w (91, n, d)) := by
  subst hv
  have HC := Lib.hid hC
  clear hC
  go_enter Tryz.func38, Tryz.ntmps38
  go_wp2_with fail
  go_ret
  have hk : Keep [] w (w.alloc (.cells #[.int .i8 it.kind, .slice a1 n1 c1, .string it.desc, .string it.value, .string it.start, .slice a2 n2 c2, .string it.fin, .string it.rule, .bool it.dn] 26)) := (Keep.refl [] w).alloc _
  exact CkR.mk rfl (HC.out.keep0 hk) hk.of0

set_option maxHeartbeats 4000000 in
set_option maxRecDepth 100000 in
theorem check_step (hRight : RightOk) (B H nb db wb : Nat) (hHn : H ≤ nb) (hHd : H ≤ db) (h1 : nb ≠ db) (h2 : nb ≠ wb) (h3 : db ≠ wb) (hBn : B ≤ nb) (hBd : B ≤ db) (rem : Nat) (it : Itm) (kids : List Flt) (a n d : Nat) (a1 : Option Addr) (c1 : Nat) (a2 : Option Addr) (c2 : Nat) (cs : Nat → List Value) (w : World)
    (ha : a + (rem + 1) = 64) (hn : n ≤ 65536) (hd : d ≤ 64) (hC : CkAt w nb db wb n d) (hE : Env B w) (hHw : H ≤ w.heap.size)
    (hm : Txt w H a2 it.mids) (hml : it.mids.length ≤ 9223372036854775807) (hkl : kids.length ≤ 9223372036854775807)
    (hk : kids = [] ∨ ∃ kb ko, a1 = some ⟨kb, ko, none⟩ ∧ kb < H ∧ ∀ i, i < kids.length → ∀ j u, (cs i)[j]? = some u → w.cell? ⟨kb, ko + i * 9 + j, none⟩ = some u)
    (hkid : ∀ i (h : i < kids.length), FltD w H kids[i] (cs i))
    (ih : ∀ (n d : Nat) (g : Flt) (vs : List Value) (w : World), n ≤ 65536 → d ≤ 64 → FltD w H g vs → CkAt w nb db wb n d → Env B w → H ≤ w.heap.size → Calls Tryz.prog 38 #[.agg vs.toArray, .int .i64 ((a : Int) + 1), .pointer (some ⟨db, 0, none⟩), .pointer (some ⟨nb, 0, none⟩), .pointer (some ⟨wb, 0, none⟩)] w (CkR nb db wb w (checkP rem g n d))) :
    Calls Tryz.prog 38 #[.agg #[.int .i8 it.kind, .slice a1 kids.length c1, .string it.desc, .string it.value, .string it.start, .slice a2 it.mids.length c2, .string it.fin, .string it.rule, .bool it.dn], .int .i64 a, .pointer (some ⟨db, 0, none⟩), .pointer (some ⟨nb, 0, none⟩), .pointer (some ⟨wb, 0, none⟩)] w (CkR nb db wb w (checkP (rem + 1) (.mk it kids) n d)) := by
  have hnb := lt_of_block hC.1
  have hdb := lt_of_block hC.2.1
  have hwb := lt_of_block hC.2.2
  obtain ⟨R, hR⟩ : ∃ R, checkP (rem + 1) (.mk it kids) n d = R := ⟨_, rfl⟩
  have HRes := Lib.hid hR
  rw [hR]
  obtain ⟨n', hn'⟩ : ∃ n', (if it.kind = 2 then n else n + 1) = n' := ⟨_, rfl⟩
  obtain ⟨d', hd'⟩ : ∃ d', max d (a + 1) = d' := ⟨_, rfl⟩
  have hn2 : n' ≤ 65537 := by rw [← hn']; split <;> omega
  have hd2 : d' ≤ 64 := by omega
  have hmx : ∀ V : World, (Builtin.max_ #[3, 3] 3 #[.int .i64 d, .int .i64 ((a : Int) + 1)]).run Tryz.prog V = .ok (.int .i64 (d' : Int)) V := fun V => by
    have e : ((a : Int) + 1) = ((a + 1 : Nat) : Int) := by push_cast; rfl
    rw [e, ← hd']
    simp only [Builtin.max_, List.foldlM_cons, List.foldlM_nil, Sem.run_pure, pure_bind, max2_run]
  have HN := Lib.hid hn'
  have HD := Lib.hid hd'
  have HIH := Lib.hid ih
  have HKI := Lib.hid hkid
  have HKC := Lib.hid hk
  have HE := Lib.hid hE
  have HMT := Lib.hid hm
  obtain ⟨W, hW⟩ : ∃ W, W = w.alloc (.cells #[.int .i8 it.kind, .slice a1 kids.length c1, .string it.desc, .string it.value, .string it.start, .slice a2 it.mids.length c2, .string it.fin, .string it.rule, .bool it.dn] 26) := ⟨_, rfl⟩
  have HKW : Hid (Keep [] w W) := Lib.hid (by rw [hW]; exact (Keep.refl [] w).alloc _)
  have HBX : Hid (W.heap[w.heap.size]? = some (.cells #[.int .i8 it.kind, .slice a1 kids.length c1, .string it.desc, .string it.value, .string it.start, .slice a2 it.mids.length c2, .string it.fin, .string it.rule, .bool it.dn] 26 (0, 0))) := Lib.hid (by rw [hW]; exact alloc_at _ _)
  have HCW := Lib.hid (hC.keep0 HKW.out)
  have HW := Lib.hid hW
  clear hR hn' hd' ih hkid hk hE hm hC hW
  go_enter Tryz.func38, Tryz.ntmps38
  go_upto_region 3 with fail
  rw [← HW.out]
  have hndb : db ≠ w.heap.size := by omega
  have hndb2 : w.heap.size ≠ db := by omega
  have hnnb : nb ≠ w.heap.size := by omega
  have cd := cell_of HCW.out.2.1 0
  have fd := free_of HCW.out.2.1 0
  have x0 := cell_of HBX.out 0
  go_upto_if 19 with fail
  clear cd fd x0 hmx
  obtain ⟨W2, hW2⟩ : ∃ W2, W2 = W.setCell ⟨db, 0, none⟩ (.int .i64 (d' : Int)) := ⟨_, rfl⟩
  have HC2 : Hid (CkAt W2 nb db wb n d') := Lib.hid (by rw [hW2]; exact HCW.out.setD h1 h3 d')
  have HB2 : Hid (W2.heap[w.heap.size]? = some (.cells #[.int .i8 it.kind, .slice a1 kids.length c1, .string it.desc, .string it.value, .string it.start, .slice a2 it.mids.length c2, .string it.fin, .string it.rule, .bool it.dn] 26 (0, 0))) := Lib.hid (by rw [hW2]; exact (setCell_ne _ hndb2).trans HBX.out)
  have HK2 : Hid (Keep [nb, db] w W2) := Lib.hid (by rw [hW2]; exact HKW.out.of0.setCell _ _ (.inl (by simp)))
  rw [← hW2]
  clear hW2 HCW HBX HKW HW
  go_cut [] (fun wx => Hid (CkAt wx nb db wb n' d') ∧ Hid (Keep [nb, db] w wx) ∧ Hid (wx.heap[w.heap.size]? = some (.cells #[.int .i8 it.kind, .slice a1 kids.length c1, .string it.desc, .string it.value, .string it.start, .slice a2 it.mids.length c2, .string it.fin, .string it.rule, .bool it.dn] 26 (0, 0))))
  case first =>
    cases hk2 : decide (it.kind = 2) with
    | true =>
      have hkb : (it.kind != 2) = false := by rw [of_decide_eq_true hk2]; rfl
      have HX : Hid (n' = n) := Lib.hid (by rw [← HN.out, if_pos (of_decide_eq_true hk2)])
      clear hk2
      go_wp2_with fail
      go_meet
      rw [HX.out]
      exact ⟨HC2, HK2, HB2⟩
    | false =>
      have hkb : (it.kind != 2) = true := by rw [bne_iff_ne]; exact of_decide_eq_false hk2
      have HX : Hid (n' = n + 1) := Lib.hid (by rw [← HN.out, if_neg (of_decide_eq_false hk2)])
      have cn := cell_of HC2.out.1 0
      have fn := free_of HC2.out.1 0
      clear hk2
      go_wp2_with fail
      go_meet
      rw [HX.out]
      exact ⟨Lib.hid (HC2.out.setN h1 h2 (n + 1)), Lib.hid (HK2.out.setCell _ _ (.inl (by simp))), Lib.hid ((setCell_ne _ (Ne.symm hnnb)).trans HB2.out)⟩
  case rest =>
    obtain ⟨HC3, HK3, HB3⟩ := hcut
    have HU : Hid (R = (if 65536 < n' ∨ longB it = true then (3, n', d') else if rightB it kids.length = false then (90, n', d') else checkL (checkP rem) kids n' d')) := Lib.hid (by
      have e : 64 - rem = a + 1 := by omega
      have e1 := HN.out
      have e2 := HD.out
      rw [← HRes.out, checkP, e, ← e1, ← e2]
      rfl)
    clear HRes HN HD HC2 HK2 HB2
    obtain ⟨x0, x1, x2, x3, x4, x5, x6, x7, x8, xf⟩ := nine HB3.out
    have cn := cell_of HC3.out.1 0
    have hHc : H ≤ wc.heap.size := Nat.le_trans hHw HK3.out.size
    have HT3 := Lib.hid (HMT.out.keep HK3.out hHw (by simp; omega))
    have HL := Lib.hid (long_any it a1 kids.length c1 a2 c2 wc H hHc HT3.out hml)
    cases hc1 : decide (65536 < n') with
    | true =>
      have hq : decide ((65536 : Int) < (n' : Int)) = true := by have := of_decide_eq_true hc1; simp; omega
      have HX : Hid (R = (3, n', d')) := Lib.hid (by rw [HU.out, if_pos (.inl (of_decide_eq_true hc1))])
      clear hc1
      go_wp2_with fail
      go_ret
      exact CkR.mk HX.out HC3.out HK3.out
    | false =>
      have hq : decide ((65536 : Int) < (n' : Int)) = false := by have := of_decide_eq_false hc1; simp; omega
      have hn3 : n' ≤ 65536 := by have := of_decide_eq_false hc1; omega
      have HNN := Lib.hid (of_decide_eq_false hc1)
      clear hc1
      cases hlb : longB it with
      | true =>
        have hL := HL.out
        rw [hlb] at hL
        have HL2 := Lib.hid hL
        have HX : Hid (R = (3, n', d')) := Lib.hid (by rw [HU.out, if_pos (.inr hlb)])
        clear hlb hL HL
        go_wp2_with (go_at_call 39; refine HL2.out.mono ?_; rintro e w5 ⟨rfl, hK⟩)
        go_ret
        exact CkR.mk HX.out (HC3.out.keep0 hK) (HK3.out.trans0 hK)
      | false =>
        have hL := HL.out
        rw [hlb] at hL
        have HL2 := Lib.hid hL
        have HRI := Lib.hid (fun W h1 h2 h3 => hRight B H it a1 kids.length c1 a2 c2 W h1 h2 hml hkl hlb h3)
        have HU2 : Hid (R = (if rightB it kids.length = false then (90, n', d') else checkL (checkP rem) kids n' d')) := Lib.hid (by rw [HU.out, if_neg (by rw [hlb]; simp; have := HNN.out; omega)])
        clear hlb hL HL HU
        cases hrb : rightB it kids.length with
        | false =>
          have HX : Hid (R = (90, n', d')) := Lib.hid (by rw [HU2.out, if_pos hrb])
          have HR2 : Hid (∀ W, H ≤ W.heap.size → Txt W H a2 it.mids → Env B W → Calls Tryz.prog 40 #[.agg #[.int .i8 it.kind, .slice a1 kids.length c1, .string it.desc, .string it.value, .string it.start, .slice a2 it.mids.length c2, .string it.fin, .string it.rule, .bool it.dn]] W (RetB W false)) := Lib.hid fun W h1 h2 h3 => hrb ▸ HRI.out W h1 h2 h3
          clear hrb HU2 HRI
          go_wp2_with (first
            | (go_at_call 39; refine HL2.out.mono ?_; rintro e w5 ⟨rfl, hK⟩; have HK5 := Lib.hid hK; have hB5 := hK.heap HB3.out (by simp); clear hK; obtain ⟨y0, y1, y2, y3, y4, y5, y6, y7, y8, yf⟩ := nine hB5; clear hB5)
            | (go_at_call 40; refine (HR2.out _ (Nat.le_trans hHc HK5.out.size) (HT3.out.keep HK5.out hHc (by simp)) (HE.out.keep (HK3.out.trans0 HK5.out) (by simp; omega))).mono ?_; rintro e w6 ⟨rfl, hK6⟩))
          go_ret
          exact CkR.mk HX.out ((HC3.out.keep0 HK5.out).keep0 hK6) ((HK3.out.trans0 HK5.out).trans0 hK6)
        | true =>
          have HX : Hid (checkL (checkP rem) kids n' d' = R) := Lib.hid (by rw [HU2.out, if_neg (by rw [hrb]; simp)])
          have HR2 : Hid (∀ W, H ≤ W.heap.size → Txt W H a2 it.mids → Env B W → Calls Tryz.prog 40 #[.agg #[.int .i8 it.kind, .slice a1 kids.length c1, .string it.desc, .string it.value, .string it.start, .slice a2 it.mids.length c2, .string it.fin, .string it.rule, .bool it.dn]] W (RetB W true)) := Lib.hid fun W h1 h2 h3 => hrb ▸ HRI.out W h1 h2 h3
          clear hrb HU2 HRI
          go_wp2_with (first
            | (go_at_call 39; refine HL2.out.mono ?_; rintro e w5 ⟨rfl, hK⟩; have HK5 := Lib.hid hK; have hB5 := hK.heap HB3.out (by simp); clear hK; obtain ⟨y0, y1, y2, y3, y4, y5, y6, y7, y8, yf⟩ := nine hB5; clear hB5)
            | (go_at_call 40; refine (HR2.out _ (Nat.le_trans hHc HK5.out.size) (HT3.out.keep HK5.out hHc (by simp)) (HE.out.keep (HK3.out.trans0 HK5.out) (by simp; omega))).mono ?_; rintro e w6 ⟨rfl, hK6⟩; have HK6 := Lib.hid hK6; have hB6 := hK6.heap (HK5.out.heap HB3.out (by simp)) (by simp); clear hK6; obtain ⟨z0, z1, z2, z3, z4, z5, z6, z7, z8, zf⟩ := nine hB6; clear hB6))
          have HC6 := Lib.hid ((HC3.out.keep0 HK5.out).keep0 HK6.out)
          have HK6 := Lib.hid ((HK3.out.trans0 HK5.out).trans0 HK6.out)
          clear x0 x1 x2 x3 x4 x5 x6 x7 x8 xf y0 y1 y2 y3 y4 y5 y6 y7 y8 yf z0 z1 z2 z3 z4 z5 z6 z7 z8 zf cn HK5 HK3 HC3 HB3 HR2 HL2 HT3
          go_loopg [34] kids.length (fun k s34 wr => ∃ i n2 dd : Nat, i ≤ kids.length ∧ k = kids.length - i ∧ s34 = .int .i64 i ∧ n2 ≤ 65536 ∧ dd ≤ 64 ∧ Hid (CkAt wr nb db wb n2 dd) ∧ Hid (Keep [nb, db] w wr) ∧ Hid (checkL (checkP rem) (kids.drop i) n2 dd = R))
          case atStart => exact ⟨0, n', d', Nat.zero_le _, by simp, rfl, hn3, hd2, HC6, HK6, HX⟩
          case round =>
            obtain ⟨i, n2, dd, hi, hgk, rfl, hn4, hd4, HC, HK, HRR⟩ := hrel
            have HGK := Lib.hid hgk
            clear hgk HC6 HK6 HX
            by_cases hlt : i < kids.length
            · obtain ⟨kid, hkid⟩ : ∃ kid, kids[i] = kid := ⟨_, rfl⟩
              have hF := HKI.out i hlt
              rw [hkid] at hF
              obtain ⟨b1, e1, b2, e2, hcs⟩ := hF.nine
              rw [hcs] at hF
              rcases HKC.out with h | ⟨kb, ko, rfl, hkb, hcells⟩
              · rw [h] at hlt; exact absurd hlt (by simp)
              · have hcell : ∀ j u, (cs i)[j]? = some u → wr.cell? ⟨kb, ko + i * 9 + j, none⟩ = some u := fun j u hu => (HK.out.cell ⟨kb, ko + i * 9 + j, none⟩ (by show kb < _; omega) (by simp; omega)).trans (hcells i hlt j u hu)
                rw [hcs] at hcell
                have k0 : wr.cell? ⟨kb, ko + i * 9, none⟩ = some (.int .i8 kid.it.kind) := hcell 0 _ rfl
                have k1 : wr.cell? ⟨kb, ko + i * 9 + 1, none⟩ = some (.slice b1 kid.kids.length e1) := hcell 1 _ rfl
                have k2 : wr.cell? ⟨kb, ko + i * 9 + 2, none⟩ = some (.string kid.it.desc) := hcell 2 _ rfl
                have k3 : wr.cell? ⟨kb, ko + i * 9 + 3, none⟩ = some (.string kid.it.value) := hcell 3 _ rfl
                have k4 : wr.cell? ⟨kb, ko + i * 9 + 4, none⟩ = some (.string kid.it.start) := hcell 4 _ rfl
                have k5 : wr.cell? ⟨kb, ko + i * 9 + 5, none⟩ = some (.slice b2 kid.it.mids.length e2) := hcell 5 _ rfl
                have k6 : wr.cell? ⟨kb, ko + i * 9 + 6, none⟩ = some (.string kid.it.fin) := hcell 6 _ rfl
                have k7 : wr.cell? ⟨kb, ko + i * 9 + 7, none⟩ = some (.string kid.it.rule) := hcell 7 _ rfl
                have k8 : wr.cell? ⟨kb, ko + i * 9 + 8, none⟩ = some (.bool kid.it.dn) := hcell 8 _ rfl
                have hwr : w.heap.size ≤ wr.heap.size := HK.out.size
                have hK7 : Keep [] wr (wr.alloc (.cells #[.int .i8 kid.it.kind, .slice b1 kid.kids.length e1, .string kid.it.desc, .string kid.it.value, .string kid.it.start, .slice b2 kid.it.mids.length e2, .string kid.it.fin, .string kid.it.rule, .bool kid.it.dn] 26)) := (Keep.refl [] wr).alloc _
                have hcw := cell_of (HC.out.keep0 hK7).2.2 0
                have HI := Lib.hid (HIH.out n2 dd kid _ _ hn4 hd4 (hF.keep (HK.out.trans0 hK7) hHw (by simp; omega)) (HC.out.keep0 hK7) (HE.out.keep (HK.out.trans0 hK7) (by simp; omega)) (Nat.le_trans hHw (Nat.le_trans hwr hK7.size)))
                have HK7 := Lib.hid (HK.out.trans0 hK7)
                have HST : Hid (checkL (checkP rem) (kids.drop i) n2 dd = if (checkP rem kid n2 dd).1 ≠ 0 then checkP rem kid n2 dd else checkL (checkP rem) (kids.drop (i + 1)) (checkP rem kid n2 dd).2.1 (checkP rem kid n2 dd).2.2) := Lib.hid (by
                  rw [List.drop_eq_getElem_cons hlt, hkid]; rfl)
                have hbd := checkP_bound rem kid n2 dd hn4 hd4
                obtain ⟨⟨cc, n5, d5⟩, hres⟩ : ∃ r, checkP rem kid n2 dd = r := ⟨_, rfl⟩
                rw [hres] at hbd HI HST
                have HBD := Lib.hid hbd
                clear hF hcell hcells hcs hkid hres hbd hK7
                cases hcc : decide (cc = 0) with
                | true =>
                  have hz : (cc != 0) = false := by rw [of_decide_eq_true hcc]; rfl
                  have hb2 := HBD.out (of_decide_eq_true hcc)
                  obtain ⟨hb3, hb4⟩ : n5 ≤ 65536 ∧ d5 ≤ 64 := hb2
                  have HN2 : Hid (checkL (checkP rem) (kids.drop (i + 1)) n5 d5 = R) := Lib.hid (by
                    have := HRR.out
                    rw [HST.out, if_neg (by simpa using of_decide_eq_true hcc)] at this
                    exact this)
                  clear hcc
                  go_wp2_with (go_at_call 38; refine HI.out.mono ?_; rintro e w8 ⟨rfl, hC8, hK8⟩; have HC8 := Lib.hid hC8; have HK8 := Lib.hid hK8; clear hC8 hK8)
                  go_roundg (kids.length - (i + 1))
                  case measure => have := HGK.out; omega
                  case rel => exact ⟨i + 1, n5, d5, by omega, rfl, by go_num, hb3, hb4, HC8, Lib.hid (HK7.out.trans HK8.out), HN2⟩
                | false =>
                  have hz : (cc != 0) = true := by rw [bne_iff_ne]; exact of_decide_eq_false hcc
                  have HN2 : Hid (R = (cc, n5, d5)) := Lib.hid (by
                    have := HRR.out
                    rw [HST.out, if_pos (of_decide_eq_false hcc)] at this
                    exact this.symm)
                  clear hcc
                  go_wp2_with (go_at_call 38; refine HI.out.mono ?_; rintro e w8 ⟨rfl, hC8, hK8⟩; have HC8 := Lib.hid hC8; have HK8 := Lib.hid hK8; clear hC8 hK8)
                  go_ret
                  exact CkR.mk HN2.out HC8.out (HK7.out.trans HK8.out)
            · have hei : i = kids.length := by omega
              have HX : Hid (R = (0, n2, dd)) := Lib.hid (by rw [← HRR.out, List.drop_of_length_le (by omega)]; rfl)
              clear hei
              go_wp2_with fail
              go_ret
              exact CkR.mk HX.out HC.out HK.out

theorem check_walk (hRight : RightOk) (B H nb db wb : Nat) (hHn : H ≤ nb) (hHd : H ≤ db) (h1 : nb ≠ db) (h2 : nb ≠ wb) (h3 : db ≠ wb) (hBn : B ≤ nb) (hBd : B ≤ db) : ∀ (rem : Nat) (a : Int) (n d : Nat) (g : Flt) (vs : List Value) (w : World), rem ≤ 64 → a + rem = 64 → n ≤ 65536 → d ≤ 64 → FltD w H g vs → CkAt w nb db wb n d → Env B w → H ≤ w.heap.size →
    Calls Tryz.prog 38 #[.agg vs.toArray, .int .i64 a, .pointer (some ⟨db, 0, none⟩), .pointer (some ⟨nb, 0, none⟩), .pointer (some ⟨wb, 0, none⟩)] w (CkR nb db wb w (checkP rem g n d)) := by
  intro rem
  induction rem with
  | zero =>
    intro a n d g vs w _ ha hn hd hF hC hE hHw
    obtain rfl : a = 64 := by omega
    obtain ⟨a1, c1, a2, c2, rfl⟩ := hF.nine
    exact check_deep nb db wb _ n d w hC a1 _ c1 a2 _ c2 g.it rfl
  | succ rem ih =>
    intro a n d g vs w hr ha hn hd hF hC hE hHw
    obtain ⟨k, rfl⟩ := Int.eq_ofNat_of_zero_le (show 0 ≤ a by omega)
    cases hF with
    | mk it kids a1 c1 a2 c2 cs hm hml hkl hk hkid =>
      exact check_step hRight B H nb db wb hHn hHd h1 h2 h3 hBn hBd rem it kids k n d a1 c1 a2 c2 cs w (by omega) hn hd hC hE hHw hm hml hkl hk hkid fun n d g vs w a b c d' e f => ih _ n d g vs w (by omega) (by omega) a b c d' e f

end Go.Proofs.YtjmpcoedfoaebaaGreatDoor

open Go Go.RowKit
namespace Go.Proofs.YtjmpcoedfoaebaaGreatDoor

/-- Check, plain. -/
def checkR (g : Flt) : Int × Nat × Nat := if (checkP 64 g 0 0).1 = 0 then checkP 64 g 0 0 else ((checkP 64 g 0 0).1, 0, 0)
/-- What Check has done. -/
def ChR (w : World) (r : Int × Nat × Nat) (e : Ending) (w' : World) : Prop := e = .returned (.tuple #[.int .i64 r.1, .int .i64 r.2.1, .int .i64 r.2.2]) ∧ Keep [] w w'

set_option maxHeartbeats 2000000 in
set_option maxRecDepth 100000 in
theorem check_any (hRight : RightOk) (B H : Nat) (g : Flt) (vs : List Value) (w : World) (hF : FltD w H g vs) (hE : Env B w) (hH : H ≤ w.heap.size) : Calls Tryz.prog 24 #[.agg vs.toArray] w (ChR w (checkR g)) := by
  have hBw := hE.size
  obtain ⟨a1, c1, a2, c2, hvs⟩ := hF.nine
  obtain ⟨R, hR⟩ : ∃ R, checkR g = R := ⟨_, rfl⟩
  have HR := Lib.hid hR
  rw [hR]
  have HF := Lib.hid hF
  have HE := Lib.hid hE
  have HV := Lib.hid hvs
  clear hF hE hR
  rw [hvs]
  clear hvs
  show Calls Tryz.prog 24 #[.agg #[.int .i8 g.it.kind, .slice a1 g.kids.length c1, .string g.it.desc, .string g.it.value, .string g.it.start, .slice a2 g.it.mids.length c2, .string g.it.fin, .string g.it.rule, .bool g.it.dn]] w _
  go_enter Tryz.func24, Tryz.ntmps24
  go_upto_region 3 with fail
  obtain ⟨W, hW⟩ : ∃ W, W = ((((w.alloc (.cells #[.int .i8 g.it.kind, .slice a1 g.kids.length c1, .string g.it.desc, .string g.it.value, .string g.it.start, .slice a2 g.it.mids.length c2, .string g.it.fin, .string g.it.rule, .bool g.it.dn] 26)).alloc (.cells #[.int .i64 0] 3)).alloc (.cells #[.int .i64 0] 3)).alloc (.cells #[(.func (.func 38) #[] #[.pointer (some ⟨w.heap.size + 1 + 1, 0, none⟩), .pointer (some ⟨w.heap.size + 1, 0, none⟩), .pointer (some ⟨w.heap.size + 1 + 1 + 1, 0, none⟩)])] 73)) := ⟨_, rfl⟩
  rw [← hW]
  have hb0 : W.heap[w.heap.size]? = some (.cells #[.int .i8 g.it.kind, .slice a1 g.kids.length c1, .string g.it.desc, .string g.it.value, .string g.it.start, .slice a2 g.it.mids.length c2, .string g.it.fin, .string g.it.rule, .bool g.it.dn] 26 (0, 0)) := by
    rw [hW, alloc_lt _ (by simp; omega), alloc_lt _ (by simp; omega), alloc_lt _ (by simp)]; exact alloc_at w _
  have hC : CkAt W (w.heap.size + 1) (w.heap.size + 1 + 1) (w.heap.size + 1 + 1 + 1) 0 0 := by
    rw [hW]
    refine ⟨?_, ?_, alloc_is2 _ _ _ (by simp)⟩
    · rw [alloc_lt _ (by simp), alloc_lt _ (by simp)]; exact alloc_is2 _ _ _ (by simp)
    · rw [alloc_lt _ (by simp)]; exact alloc_is2 _ _ _ (by simp)
  have hK : Keep [] w W := by rw [hW]; exact ((((Keep.refl [] w).alloc _).alloc _).alloc _).alloc _
  have hA := check_walk hRight B H (w.heap.size + 1) (w.heap.size + 1 + 1) (w.heap.size + 1 + 1 + 1) (by omega) (by omega) (by omega) (by omega) (by omega) (by omega) (by omega) 64 0 0 0 g _ W (Nat.le_refl _) rfl (by omega) (by omega) (HV.out ▸ HF.out.keep hK hH (by simp)) hC (HE.out.keep0 hK) (Nat.le_trans hH hK.size)
  have HA : Hid (Calls Tryz.prog 38 #[.agg #[.int .i8 g.it.kind, .slice a1 g.kids.length c1, .string g.it.desc, .string g.it.value, .string g.it.start, .slice a2 g.it.mids.length c2, .string g.it.fin, .string g.it.rule, .bool g.it.dn], .int .i64 0, .pointer (some ⟨w.heap.size + 1 + 1, 0, none⟩), .pointer (some ⟨w.heap.size + 1, 0, none⟩), .pointer (some ⟨w.heap.size + 1 + 1 + 1, 0, none⟩)] W (CkR (w.heap.size + 1) (w.heap.size + 1 + 1) (w.heap.size + 1 + 1 + 1) W (checkP 64 g 0 0))) := Lib.hid hA
  have hbd := checkP_bound 64 g 0 0 (by omega) (by omega)
  obtain ⟨⟨cc, n, d⟩, hres⟩ : ∃ r, checkP 64 g 0 0 = r := ⟨_, rfl⟩
  have HX : Hid (R = if cc = 0 then (cc, n, d) else (cc, 0, 0)) := Lib.hid (by rw [← HR.out]; unfold checkR; rw [hres])
  rw [hres] at HA hbd
  have HBD := Lib.hid hbd
  have HK := Lib.hid hK
  obtain ⟨x0, x1, x2, x3, x4, x5, x6, x7, x8, xf⟩ := nine hb0
  have cw := cell_of hC.2.2 0
  clear hW hb0 hC hK hA hres hbd HR HV HF xf
  cases hcc : decide (cc = 0) with
  | true =>
    have hz : (cc != 0) = false := by rw [of_decide_eq_true hcc]; rfl
    have HX2 : Hid (R = (0, n, d)) := Lib.hid (by rw [HX.out, if_pos (of_decide_eq_true hcc), of_decide_eq_true hcc])
    obtain ⟨hn, hd⟩ : n ≤ 65536 ∧ d ≤ 64 := HBD.out (of_decide_eq_true hcc)
    clear hcc HX
    go_wp2_with (go_at_call 38; refine HA.out.mono ?_; rintro e w8 ⟨rfl, hC8, hK8⟩; have HK8 := Lib.hid hK8; have c1' := cell_of hC8.1 0; have c2' := cell_of hC8.2.1 0; have f1' := free_of hC8.1 0; have f2' := free_of hC8.2.1 0; clear hC8 hK8)
    go_region
    all_goals
      go_wp2_with fail
      refine bodyPost_ret (v := .tuple #[.int .i64 0, .int .i64 n, .int .i64 d]) (by simp [results, Tryz.results24, go_sem, c1', c2']) rfl ?_
      rw [HX2.out]
      exact ⟨rfl, (((HK.out.transTo HK8.out (by simp; omega)).drewN 1).setCell _ _ (.inr (by simp))).setCell _ _ (.inr (by simp; omega))⟩
  | false =>
    have hz : (cc != 0) = true := by rw [bne_iff_ne]; exact of_decide_eq_false hcc
    have HX2 : Hid (R = (cc, 0, 0)) := Lib.hid (by rw [HX.out, if_neg (of_decide_eq_false hcc)])
    clear hcc HX
    go_wp2_with (go_at_call 38; refine HA.out.mono ?_; rintro e w8 ⟨rfl, hC8, hK8⟩; have HK8 := Lib.hid hK8; have c1' := cell_of hC8.1 0; have c2' := cell_of hC8.2.1 0; have f1' := free_of hC8.1 0; have f2' := free_of hC8.2.1 0; clear hC8 hK8)
    refine bodyPost_ret (v := .tuple #[.int .i64 cc, .int .i64 0, .int .i64 0]) (by simp [results, Tryz.results24, go_sem, c1', c2']) rfl ?_
    rw [HX2.out]
    exact ⟨rfl, ((HK.out.transTo HK8.out (by simp; omega)).setCell _ _ (.inr (by simp))).setCell _ _ (.inr (by simp; omega))⟩
end Go.Proofs.YtjmpcoedfoaebaaGreatDoor
