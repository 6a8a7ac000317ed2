/- The laws' kept: a twin is as it was, the marks too. 'rosterlaw10.TextPrints', the walk: for every filter it answers true. -/
import Derived.Test.YtjmpcoedfoaebaaGreatDoorNiy
import Derived.Test.YtjmpcoedfoaebaaGreatDoorSam
import Derived.Test.YtjmpcoedfoaebaaGreatDoorNin
import Derived.Test.YtjmpcoedfoaebaaGreatDoorWkb
open Go Go.RowKit
namespace Go.Proofs.YtjmpcoedfoaebaaGreatDoor

/-- A kid's twin that is read: its nine cells in the row. -/
theorem TwD.kidAt {w W : World} {P : Nat → Prop} {kids : List Flt} {kb : Nat} {cs : Nat → List Value} (k : Keep [] w W) (hP : ∀ b, P b → b < w.heap.size) (hPk : P kb)
    (hk : ∀ i, i < kids.length → ∀ j u, (cs i)[j]? = some u → w.cell? ⟨kb, i * 9 + j, none⟩ = some u) (hkid : ∀ i (h : i < kids.length), TwD w P kids[i] (cs i)) {i : Nat} (hi : i < kids.length) :
    ∃ b1 e1 b2 e2, TwD W P kids[i] (nineOf (.slice (some ⟨b1, 0, none⟩) kids[i].kids.length e1) (.slice (some ⟨b2, 0, none⟩) kids[i].it.mids.length e2) kids[i].it) ∧
      (∀ j u, (nineOf (.slice (some ⟨b1, 0, none⟩) kids[i].kids.length e1) (.slice (some ⟨b2, 0, none⟩) kids[i].it.mids.length e2) kids[i].it)[j]? = some u → W.cell? ⟨kb, i * 9 + j, none⟩ = some u) := by
  have hT := (hkid i hi).keep (fun b hb => k.block b (hP b hb) (by simp)) (fun b hb => hb)
  obtain ⟨b1, e1, b2, e2, hcs⟩ := hT.nine
  rw [hcs] at hT
  refine ⟨b1, e1, b2, e2, hT, fun j u hu => (k.cell ⟨kb, i * 9 + j, none⟩ (hP kb hPk) (by simp)).trans (hk i hi j u ?_)⟩
  rw [hcs]; exact hu

set_option maxHeartbeats 4000000 in
set_option maxRecDepth 100000 in
theorem kept_step (P : Nat → Prop) (H2 : Nat) (it : Itm) (kids : List Flt) (a1 c1 a2 c2 : Nat) (cs : Nat → List Value) (b1 : Option Addr) (d1 : Nat) (b2 : Option Addr) (d2 : Nat) (ds : Nat → List Value) (w : World)
    (hP : ∀ b, P b → b < w.heap.size) (hH2 : H2 ≤ w.heap.size) (hP1 : P a1) (hP2 : P a2)
    (hm : ∀ k r, it.mids[k]? = some r → w.cell? ⟨a2, k, none⟩ = some (.string r))
    (hmm : w.cell? ⟨a2, it.mids.length, none⟩ = some (.string ⟨#[35]⟩))
    (hk : ∀ i, i < kids.length → ∀ j u, (cs i)[j]? = some u → w.cell? ⟨a1, i * 9 + j, none⟩ = some u)
    (hkm : w.cell? ⟨a1, kids.length * 9, none⟩ = some (.int .i8 77))
    (hc1 : kids.length + 1 ≤ c1) (hc2 : it.mids.length + 1 ≤ c2) (hkl : kids.length ≤ 1073741824) (hml : it.mids.length ≤ 1073741824)
    (hkid : ∀ i (h : i < kids.length), TwD w P kids[i] (cs i))
    (hm2 : Txt w H2 b2 it.mids)
    (hk2 : kids = [] ∨ ∃ kb ko, b1 = some ⟨kb, ko, none⟩ ∧ kb < H2 ∧ ∀ i, i < kids.length → ∀ j u, (ds i)[j]? = some u → w.cell? ⟨kb, ko + i * 9 + j, none⟩ = some u)
    (hkid2 : ∀ i (h : i < kids.length), FltD w H2 kids[i] (ds i))
    (ih : ∀ i (h : i < kids.length) (vs us : List Value) (W : World), (∀ b, P b → b < W.heap.size) → H2 ≤ W.heap.size → TwD W P kids[i] vs → FltD W H2 kids[i] us → Calls Tryz.prog 21 #[.agg vs.toArray, .agg us.toArray] W (RetB W true)) :
    Calls Tryz.prog 21 #[.agg #[.int .i8 it.kind, .slice (some ⟨a1, 0, none⟩) kids.length c1, .string it.desc, .string it.value, .string it.start, .slice (some ⟨a2, 0, none⟩) it.mids.length c2, .string it.fin, .string it.rule, .bool it.dn], .agg #[.int .i8 it.kind, .slice b1 kids.length d1, .string it.desc, .string it.value, .string it.start, .slice b2 it.mids.length d2, .string it.fin, .string it.rule, .bool it.dn]] w (RetB w true) := by
  have HM := Lib.hid hm
  have HM2 := Lib.hid hm2
  have HMM := Lib.hid hmm
  have HKM := Lib.hid hkm
  have HP := Lib.hid hP
  have hpa := hP _ hP1
  have hpb := hP _ hP2
  have HKK := Lib.hid (fun (W : World) (k : Keep [] w W) (i : Nat) (hi : i < kids.length) => TwD.kidAt k hP hP1 hk hkid hi)
  have HKK2 := Lib.hid (fun (W : World) (k : Keep [] w W) (i : Nat) (hi : i < kids.length) => FltD.kid k hH2 hk2 hkid2 hi)
  have HIH := Lib.hid ih
  clear hm hm2 hk hkid hk2 hkid2 ih hmm hkm hP hP1 hP2
  have HB1 : Hid (((w.alloc (.cells #[.int .i8 it.kind, .slice (some ⟨a1, 0, none⟩) kids.length c1, .string it.desc, .string it.value, .string it.start, .slice (some ⟨a2, 0, none⟩) it.mids.length c2, .string it.fin, .string it.rule, .bool it.dn] 26)).alloc (.cells #[.int .i8 it.kind, .slice b1 kids.length d1, .string it.desc, .string it.value, .string it.start, .slice b2 it.mids.length d2, .string it.fin, .string it.rule, .bool it.dn] 26)).heap[w.heap.size]? = some (.cells #[.int .i8 it.kind, .slice (some ⟨a1, 0, none⟩) kids.length c1, .string it.desc, .string it.value, .string it.start, .slice (some ⟨a2, 0, none⟩) it.mids.length c2, .string it.fin, .string it.rule, .bool it.dn] 26 (0, 0))) := Lib.hid ((alloc_lt _ (by simp)).trans (alloc_at w _))
  have HB2 : Hid (((w.alloc (.cells #[.int .i8 it.kind, .slice (some ⟨a1, 0, none⟩) kids.length c1, .string it.desc, .string it.value, .string it.start, .slice (some ⟨a2, 0, none⟩) it.mids.length c2, .string it.fin, .string it.rule, .bool it.dn] 26)).alloc (.cells #[.int .i8 it.kind, .slice b1 kids.length d1, .string it.desc, .string it.value, .string it.start, .slice b2 it.mids.length d2, .string it.fin, .string it.rule, .bool it.dn] 26)).heap[w.heap.size + 1]? = some (.cells #[.int .i8 it.kind, .slice b1 kids.length d1, .string it.desc, .string it.value, .string it.start, .slice b2 it.mids.length d2, .string it.fin, .string it.rule, .bool it.dn] 26 (0, 0))) := Lib.hid (alloc_is (w.alloc _) _ _ (by simp))
  have HKW : Hid (Keep [] w ((w.alloc (.cells #[.int .i8 it.kind, .slice (some ⟨a1, 0, none⟩) kids.length c1, .string it.desc, .string it.value, .string it.start, .slice (some ⟨a2, 0, none⟩) it.mids.length c2, .string it.fin, .string it.rule, .bool it.dn] 26)).alloc (.cells #[.int .i8 it.kind, .slice b1 kids.length d1, .string it.desc, .string it.value, .string it.start, .slice b2 it.mids.length d2, .string it.fin, .string it.rule, .bool it.dn] 26))) := Lib.hid (((Keep.refl [] w).alloc _).alloc _)
  obtain ⟨W1, hW1⟩ : ∃ W1, W1 = (w.alloc (.cells #[.int .i8 it.kind, .slice (some ⟨a1, 0, none⟩) kids.length c1, .string it.desc, .string it.value, .string it.start, .slice (some ⟨a2, 0, none⟩) it.mids.length c2, .string it.fin, .string it.rule, .bool it.dn] 26)).alloc (.cells #[.int .i8 it.kind, .slice b1 kids.length d1, .string it.desc, .string it.value, .string it.start, .slice b2 it.mids.length d2, .string it.fin, .string it.rule, .bool it.dn] 26) := ⟨_, rfl⟩
  have HB1' : Hid (W1.heap[w.heap.size]? = some (.cells #[.int .i8 it.kind, .slice (some ⟨a1, 0, none⟩) kids.length c1, .string it.desc, .string it.value, .string it.start, .slice (some ⟨a2, 0, none⟩) it.mids.length c2, .string it.fin, .string it.rule, .bool it.dn] 26 (0, 0))) := Lib.hid (by rw [hW1]; exact HB1.out)
  have HB2' : Hid (W1.heap[w.heap.size + 1]? = some (.cells #[.int .i8 it.kind, .slice b1 kids.length d1, .string it.desc, .string it.value, .string it.start, .slice b2 it.mids.length d2, .string it.fin, .string it.rule, .bool it.dn] 26 (0, 0))) := Lib.hid (by rw [hW1]; exact HB2.out)
  have HK1 : Hid (Keep [] w W1) := Lib.hid (by rw [hW1]; exact HKW.out)
  have HW1 := Lib.hid hW1
  clear hW1
  go_enter Tryz.func21, Tryz.ntmps21
  go_upto_region 1 with fail
  rw [← HW1.out]
  clear HB1 HKW HW1
  obtain ⟨x0, x1, x2, x3, x4, x5, x6, x7, x8, xf⟩ := nine HB1'.out
  obtain ⟨y0, y1, y2, y3, y4, y5, y6, y7, y8, yf⟩ := nine HB2'.out
  have hmk := (HK1.out.cell ⟨a1, kids.length * 9, none⟩ hpa (by simp)).trans HKM.out
  have hmt := (HK1.out.cell ⟨a2, it.mids.length, none⟩ hpb (by simp)).trans HMM.out
  go_quiet (fail)
  obtain ⟨W2, hW2⟩ : ∃ W2, W2 = W1.drewN nq := ⟨_, rfl⟩
  have HC1 := Lib.hid (show W2.heap[w.heap.size]? = some _ by rw [hW2]; exact HB1'.out)
  have HC2 := Lib.hid (show W2.heap[w.heap.size + 1]? = some _ by rw [hW2]; exact HB2'.out)
  have HK2 : Hid (Keep [] w W2) := Lib.hid (by rw [hW2]; exact HK1.out.drewN _)
  rw [← hW2]
  clear hW2 x0 x1 x2 x3 x4 x5 x6 x7 x8 xf y0 y1 y2 y3 y4 y5 y6 y7 y8 yf hmk hmt HK1 HB1' HB2' HMM HKM HB2
  go_wp2_with fail
  go_loopg [5] (it.mids.length) (fun g i wr => ∃ k : Nat, k ≤ it.mids.length ∧ it.mids.length ≤ g + k ∧ i = .int .i64 k ∧ Hid (Keep [] W2 wr))
  case atStart => exact ⟨0, Nat.zero_le _, by omega, rfl, Lib.hid (Keep.refl _ _)⟩
  case round =>
  obtain ⟨k1, hk1, hg1, rfl, HK0⟩ := hrel
  obtain ⟨x0, x1, x2, x3, x4, x5, x6, x7, x8, xf⟩ := nine (HK0.out.heap HC1.out (by simp))
  obtain ⟨y0, y1, y2, y3, y4, y5, y6, y7, y8, yf⟩ := nine (HK0.out.heap HC2.out (by simp))
  by_cases hlt1 : k1 < it.mids.length
  · obtain ⟨r, hr⟩ : ∃ r, it.mids[k1]? = some r := ⟨_, List.getElem?_eq_getElem hlt1⟩
    have hc := ((HK2.out.trans HK0.out).cell ⟨a2, k1, none⟩ hpb (by simp)).trans (HM.out k1 r hr)
    obtain ⟨nb, no, rfl, hnb, hd⟩ := (HM2.out.keep0 (HK2.out.trans HK0.out) hH2).at hr
    clear hr
    go_wp2_with fail
    go_quiet (fail)
    go_wp2_with fail
    go_roundg (it.mids.length - (k1 + 1))
    case measure => omega
    case rel => exact ⟨k1 + 1, by omega, by omega, by go_num, Lib.hid (HK0.out.drewN _)⟩
  go_wp2_with fail
  clear x0 x1 x2 x3 x4 x5 x6 x7 x8 xf y0 y1 y2 y3 y4 y5 y6 y7 y8 yf HM HM2
  go_loopg [6, 7] (kids.length) (fun g i q wr => ∃ k : Nat, k ≤ kids.length ∧ kids.length ≤ g + k ∧ i = .int .i64 k ∧ Hid (Keep [] W2 wr))
  case atStart => exact ⟨0, Nat.zero_le _, by omega, rfl, HK0⟩
  case round =>
    obtain ⟨k, hk, hg, rfl, HK⟩ := hrel
    obtain ⟨x0, x1, x2, x3, x4, x5, x6, x7, x8, xf⟩ := nine (HK.out.heap HC1.out (by simp))
    obtain ⟨y0, y1, y2, y3, y4, y5, y6, y7, y8, yf⟩ := nine (HK.out.heap HC2.out (by simp))
    by_cases hlt : k < kids.length
    · obtain ⟨p1, q1, p2, q2, hF1, hc1⟩ := HKK.out wr (HK2.out.trans HK.out) k hlt
      obtain ⟨nb, no, r1, s1, r2, s2, rfl, hF2, hc2⟩ := HKK2.out wr (HK2.out.trans HK.out) k hlt
      have hkz := HK2.out.trans HK.out
      have hD1 := TwD.keep (w := wr) (w' := wr.drew) (P := P) (Q := P) (fun b _ => (rfl : wr.drew.heap[b]? = wr.heap[b]?)) (fun _ h => h) hF1
      have hI := HIH.out k hlt _ _ wr.drew (fun b hb => Nat.lt_of_lt_of_le (HP.out b hb) hkz.size) (Nat.le_trans hH2 hkz.size) hD1 (hF2.keep ((Keep.refl [] wr).drew) (Nat.le_trans hH2 hkz.size) (by simp))
      obtain ⟨kid, hkid⟩ : ∃ kid, kids[k] = kid := ⟨_, rfl⟩
      rw [hkid] at hI hc1 hc2
      obtain ⟨f0, f1, f2, f3, f4, f5, f6, f7, f8⟩ := nine_row hc1
      obtain ⟨g0, g1, g2, g3, g4, g5, g6, g7, g8⟩ := nine_row hc2
      have HI := Lib.hid hI
      have hk1 : (k : Int) < (kids.length : Int) := by omega
      have hk0 : (0 : Int) ≤ (k : Int) := by omega
      clear hI hD1 hF1 hF2 hc1 hc2 hkid hkz
      go_wp2_with fail
      go_still_tail 10, (by kernel_rfl)
      change wpList _ _ _ _ _ wr.drew
      have HKd : Hid (Keep [] W2 wr.drew) := Lib.hid HK.out.drew
      obtain ⟨wd, hwd⟩ : ∃ wd, wd = wr.drew := ⟨_, rfl⟩
      rw [← hwd] at HI HKd ⊢
      clear hwd f0 f1 f2 f3 f4 f5 f6 f7 f8 g0 g1 g2 g3 g4 g5 g6 g7 g8 x0 x1 x2 x3 x4 x5 x6 x7 x8 xf y0 y1 y2 y3 y4 y5 y6 y7 y8 yf
      go_wp2_with (go_at_call 21; refine HI.out.mono ?_; rintro e w3 ⟨rfl, hK3⟩; have HK3 := Lib.hid (HKd.out.trans hK3); clear hK3)
      go_roundg (kids.length - (k + 1))
      case measure => omega
      case rel => exact ⟨k + 1, by omega, by omega, by go_num, HK3⟩
    · go_wp2_with fail
      go_ret
      exact ⟨rfl, HK2.out.trans HK.out⟩

theorem kept_any (P : Nat → Prop) (H2 : Nat) : ∀ (n : Nat) (g : Flt) (vs us : List Value) (w : World), weight g ≤ n → (∀ b, P b → b < w.heap.size) → H2 ≤ w.heap.size → TwD w P g vs → FltD w H2 g us →
    Calls Tryz.prog 21 #[.agg vs.toArray, .agg us.toArray] w (RetB w true) := by
  intro n
  induction n with
  | zero =>
    intro g vs us w hn
    cases g with | mk it ks => simp only [weight] at hn; omega
  | succ n ih =>
    intro g vs us w hn hP hH2 h1 h2
    cases h1 with
    | mk it kids kb c1 mb c2 cs hPk hQ hm hmm hk hkm hc1 hc2 hl1 hl2 hkl hml hkid =>
      cases h2 with
      | mk _ _ b1 d1 b2 d2 ds hm2 hml2 hkl2 hk2 hkid2 =>
        refine kept_step P H2 it kids kb c1 mb c2 cs b1 d1 b2 d2 ds w hP hH2 hPk hQ hm hmm hk hkm hc1 hc2 hkl hml hkid hm2 hk2 hkid2 fun i hi vs us W e1 e2 e3 e4 => ih kids[i] vs us W ?_ e1 e2 e3 e4
        have := weight_kid kids i hi
        simp only [weight] at hn
        omega
end Go.Proofs.YtjmpcoedfoaebaaGreatDoor

open Go Go.RowKit
namespace Go.Proofs.YtjmpcoedfoaebaaGreatDoor

def nineP (g : Flt) (a1 : Option Addr) (c1 : Nat) (a2 : Option Addr) (c2 : Nat) : List Value := nineOf (.slice a1 g.kids.length c1) (.slice a2 g.it.mids.length c2) g.it
/-- A filter that is read, in a variable. -/
structure BoxP (W : World) (b H : Nat) (g : Flt) (a1 : Option Addr) (c1 : Nat) (a2 : Option Addr) (c2 : Nat) : Prop where
  X : W.heap[b]? = some (.cells (nineP g a1 c1 a2 c2).toArray 26 (0, 0))
  D : FltD W H g (nineP g a1 c1 a2 c2)
  le : H ≤ W.heap.size
theorem BoxP.keep0 {W W' : World} {b H : Nat} {g : Flt} {a1 : Option Addr} {c1 : Nat} {a2 : Option Addr} {c2 : Nat} (h : BoxP W b H g a1 c1 a2 c2) (k : Keep [] W W') : BoxP W' b H g a1 c1 a2 c2 :=
  ⟨k.heap h.X (by simp), h.D.keep k h.le (by simp), Nat.le_trans h.le k.size⟩
theorem BoxP.mk0 {w : World} {H : Nat} {g : Flt} {a1 : Option Addr} {c1 : Nat} {a2 : Option Addr} {c2 : Nat} (hH : H ≤ w.heap.size) (hF : FltD w H g (nineP g a1 c1 a2 c2)) : BoxP (w.alloc (.cells (nineP g a1 c1 a2 c2).toArray 26)) w.heap.size H g a1 c1 a2 c2 :=
  ⟨alloc_at _ _, hF.keep ((Keep.refl [] w).alloc _) hH (by simp), Nat.le_trans hH ((Keep.refl [] w).alloc _).size⟩
theorem heavy_p {W : World} {b H : Nat} {g : Flt} {a1 : Option Addr} {c1 : Nat} {a2 : Option Addr} {c2 : Nat} (h : BoxP W b H g a1 c1 a2 c2) (hz : SzOk g) : Calls Tryz.prog 17 #[.agg (nineP g a1 c1 a2 c2).toArray] W (RetB W (decide (leftP g 16777216 < 0))) := heavy_any H g a1 c1 a2 c2 W h.le h.D hz

set_option maxRecDepth 100000 in
set_option maxHeartbeats 4000000 in
theorem prints_any (B H : Nat) (g : Flt) (a1 : Option Addr) (c1 : Nat) (a2 : Option Addr) (c2 : Nat) (w : World) (hH : H ≤ w.heap.size) (hF : FltD w H g (nineP g a1 c1 a2 c2)) (hz : SzOk g) (hE : Env B w) :
    Calls Tryz.prog 4 #[.agg (nineP g a1 c1 a2 c2).toArray] w (RetB w true) := by
  have hkA : Keep [] w (w.alloc (.cells (nineP g a1 c1 a2 c2).toArray 26)) := (Keep.refl [] w).alloc _
  have HE := Lib.hid (hE.keep0 hkA)
  have HB := Lib.hid (BoxP.mk0 hH hF)
  have HW := Lib.hid (fun W (h : Env B W) => wakes_any B W h)
  have HV := Lib.hid (heavy_p HB.out hz)
  have HKA := Lib.hid hkA
  have HL : Hid (decide (leftP g 16777216 < 0) = false → Light g) := Lib.hid fun h => (light_of g 16777216 (by decide) (Int.not_lt.1 (of_decide_eq_false h))).1
  obtain ⟨hv, hhv⟩ : ∃ hv, decide (leftP g 16777216 < 0) = hv := ⟨_, rfl⟩
  rw [hhv] at HV HL
  clear hkA hE hF hz hhv hH
  have HTW := Lib.hid (fun W b (h : BoxP W b H g a1 c1 a2 c2) (hl : Light g) => twin_any H g _ W hl h.le h.D)
  have HYP := Lib.hid (fun W b (h : BoxP W b H g a1 c1 a2 c2) => yprint_any H g _ W h.D h.le)
  have HPR := Lib.hid (fun W H' vs (h : FltD W H' g vs) (hE : Env B W) (hl : H' ≤ W.heap.size) => print_any B H' g vs W h hE hl)
  obtain ⟨s, c, hpr⟩ : ∃ s c, printR g = (s, c) := ⟨_, _, rfl⟩
  rw [hpr] at HYP HPR
  unfold PriR at HPR HYP
  dsimp only at HPR HYP
  clear hpr
  have HX := Lib.hid HB.out.X
  obtain ⟨x0, x1, x2, x3, x4, x5, x6, x7, x8, xf⟩ := nine HX.out
  unfold nineP nineOf at HKA HE HB HV HYP HTW x0 x1 x2 x3 x4 x5 x6 x7 x8 xf ⊢
  clear HX
  cases hv with
  | true =>
    go_enter Tryz.func4, Tryz.ntmps4
    go_wp2_with (go_at_call 17; refine HV.out.mono ?_; rintro e w1 ⟨rfl, hK1⟩; have HK1 := Lib.hid hK1; clear hK1)
    go_ret
    exact ⟨rfl, HKA.out.trans HK1.out⟩
  | false =>
    go_enter Tryz.func4, Tryz.ntmps4
    go_upto_region 3 with (go_at_call 17; refine HV.out.mono ?_; rintro e w1 ⟨rfl, hK1⟩; have HK1 := Lib.hid hK1; clear hK1)
    have HB1 := Lib.hid (HB.out.keep0 HK1.out)
    have HE1 := Lib.hid (HE.out.keep0 HK1.out)
    have HKB := Lib.hid (HKA.out.trans HK1.out)
    clear x0 x1 x2 x3 x4 x5 x6 x7 x8 xf HB HE HK1 HKA HV
    obtain ⟨x0, x1, x2, x3, x4, x5, x6, x7, x8, xf⟩ := nine HB1.out.X
    have HY1 := Lib.hid (HYP.out _ _ HB1.out)
    clear HYP
    go_upto_region 4 with (go_at_call 18; refine HY1.out.mono ?_; rintro e w2 ⟨rfl, hK2⟩; have HK2 := Lib.hid hK2; clear hK2)
    have HB2 := Lib.hid (HB1.out.keep0 HK2.out)
    have HE2 := Lib.hid (HE1.out.keep0 HK2.out)
    have HKC := Lib.hid (HKB.out.trans HK2.out)
    clear x0 x1 x2 x3 x4 x5 x6 x7 x8 xf HB1 HE1 HK2 HKB HY1
    obtain ⟨x0, x1, x2, x3, x4, x5, x6, x7, x8, xf⟩ := nine HB2.out.X
    have HT2 := Lib.hid (HTW.out _ _ HB2.out (HL.out (by trivial)))
    clear HTW HL
    go_upto_region 5 with (go_at_call 19; refine HT2.out.mono ?_; rintro e w3 ⟨vs, rfl, hT, hK3⟩; obtain ⟨t1, e1, t2, e2, rfl⟩ := hT.nine; have HT3 := Lib.hid hT; have HK3 := Lib.hid hK3; clear hT hK3; unfold nineOf)
    obtain ⟨W4, hW4⟩ : ∃ W4, W4 = w3.alloc (.cells (nineOf (.slice (some ⟨t1, 0, none⟩) g.kids.length e1) (.slice (some ⟨t2, 0, none⟩) g.it.mids.length e2) g.it).toArray 26) := ⟨_, rfl⟩
    have hk : Keep [] w3 W4 := by rw [hW4]; exact (Keep.refl [] w3).alloc _
    have hb : W4.heap[w3.heap.size]? = some (.cells (nineOf (.slice (some ⟨t1, 0, none⟩) g.kids.length e1) (.slice (some ⟨t2, 0, none⟩) g.it.mids.length e2) g.it).toArray 26 (0, 0)) := by rw [hW4]; exact alloc_at _ _
    have HT4 := Lib.hid (HT3.out.keep (Q := fun b => b < w3.heap.size) (fun b hb => hk.block b hb.2 (by simp)) (fun b hb => hb.2))
    have HB4 := Lib.hid (HB2.out.keep0 (HK3.out.trans hk))
    have HE4 := Lib.hid (HE2.out.keep0 (HK3.out.trans hk))
    have HKD := Lib.hid (HKC.out.trans (HK3.out.trans hk))
    have HP4 := Lib.hid (HPR.out W4 w3.heap.size _ (HT4.out.toD fun b hb => hb) HE4.out hk.size)
    have HSZ := Lib.hid hk.size
    have HBX := Lib.hid hb
    unfold nineOf at hW4 HBX HP4
    rw [← hW4]
    clear hW4 hk hb HT3 HK3 HPR HKC HB2 HE2 HT2 x0 x1 x2 x3 x4 x5 x6 x7 x8 xf
    obtain ⟨z0, z1, z2, z3, z4, z5, z6, z7, z8, zf⟩ := nine HBX.out
    go_upto_region 6 with (go_at_call 20; refine HP4.out.mono ?_; rintro e w5 ⟨rfl, hK5⟩; have HK5 := Lib.hid hK5; clear hK5)
    have HB5 := Lib.hid (HB4.out.keep0 HK5.out)
    have HE5 := Lib.hid (HE4.out.keep0 HK5.out)
    have HKE := Lib.hid (HKD.out.trans HK5.out)
    have HBY := Lib.hid (HK5.out.heap HBX.out (by simp))
    have HS := Lib.hid (kept_any (fun b => b < w3.heap.size) H (weight g) g _ _ w5 (Nat.le_refl _) (fun b hb => Nat.lt_of_lt_of_le hb (Nat.le_trans HSZ.out HK5.out.size)) HB5.out.le (HT4.out.keep (fun b hb => HK5.out.block b (Nat.lt_of_lt_of_le hb HSZ.out) (by simp)) (fun b hb => hb)) HB5.out.D)
    unfold nineP nineOf at HS
    clear z0 z1 z2 z3 z4 z5 z6 z7 z8 zf HBX HB4 HE4 HKD HP4 HT4
    obtain ⟨z0, z1, z2, z3, z4, z5, z6, z7, z8, zf⟩ := nine HBY.out
    obtain ⟨x0, x1, x2, x3, x4, x5, x6, x7, x8, xf⟩ := nine HB5.out.X
    go_wp2_with (first
      | (go_at_call 21; refine HS.out.mono ?_; rintro e w6 ⟨rfl, hK6⟩; have HK6 := Lib.hid hK6; clear hK6)
      | (go_at_call 16; refine (HW.out _ (HE5.out.keep0 HK6.out)).mono ?_; rintro e w7 ⟨rfl, hK7⟩; have HK7 := Lib.hid hK7; clear hK7))
    go_ret
    exact ⟨rfl, (HKE.out.trans HK6.out).trans HK7.out⟩
end Go.Proofs.YtjmpcoedfoaebaaGreatDoor
