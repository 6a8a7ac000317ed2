/- The reference's Same, the laws' same: two readings of one filter are the same. -/
import Derived.Test.YtjmpcoedfoaebaaGreatDoorFpu
import Derived.Test.YtjmpcoedfoaebaaGreatDoorWgt
import Derived.Test.YtjmpcoedfoaebaaGreatDoorPar
import Derived.StillTailTactics
open Go Go.RowKit
namespace Go.Proofs.YtjmpcoedfoaebaaGreatDoor

theorem Txt.keep0 {w w' : World} {H : Nat} {a : Option Addr} {ms : List ByteArray} (h : Txt w H a ms) (k : Keep [] w w') (hH : H ≤ w.heap.size) : Txt w' H a ms := h.keep k hH (by simp)
theorem Txt.at {w : World} {H : Nat} {a : Option Addr} {ms : List ByteArray} (h : Txt w H a ms) {k : Nat} {r : ByteArray} (hr : ms[k]? = some r) : ∃ mb mo, a = some ⟨mb, mo, none⟩ ∧ mb < H ∧ w.cell? ⟨mb, mo + k, none⟩ = some (.string r) := by
  rcases h with h | ⟨mb, mo, h1, h2, h3⟩
  · rw [h] at hr; simp at hr
  · exact ⟨mb, mo, h1, h2, h3 k r hr⟩

set_option maxRecDepth 100000 in
theorem sameTexts_any (w : World) (H1 H2 : Nat) (a b : Option Addr) (c e : Nat) (ms : List ByteArray) (hH1 : H1 ≤ w.heap.size) (hH2 : H2 ≤ w.heap.size) (h1 : Txt w H1 a ms) (h2 : Txt w H2 b ms) (hl : ms.length ≤ 9223372036854775807) :
    Calls Tryz.prog 31 #[.slice a ms.length c, .slice b ms.length e] w (RetB w true) := by
  have H1 := Lib.hid h1
  have H2 := Lib.hid h2
  clear h1 h2
  go_enter Tryz.func31, Tryz.ntmps31
  go_wp2_with fail
  go_loopg [5] (ms.length) (fun g i wr => ∃ k, k ≤ ms.length ∧ ms.length ≤ g + k ∧ i = .int .i64 k ∧ Hid (Keep [] w wr))
  case atStart => exact ⟨0, Nat.zero_le _, by omega, rfl, Lib.hid (Keep.refl _ _)⟩
  case round =>
    obtain ⟨k, hk, hg, rfl, HK⟩ := hrel
    by_cases hlt : k < ms.length
    · obtain ⟨r, hr⟩ : ∃ r, ms[k]? = some r := ⟨_, List.getElem?_eq_getElem hlt⟩
      obtain ⟨mb, mo, rfl, hmb, hc⟩ := (H1.out.keep0 HK.out hH1).at hr
      obtain ⟨nb, no, rfl, hnb, hd⟩ := (H2.out.keep0 HK.out hH2).at hr
      clear hr
      go_wp2_with fail
      go_quiet (fail)
      go_wp2_with fail
      go_roundg (ms.length - (k + 1))
      case measure => omega
      case rel => exact ⟨k + 1, by omega, by omega, by go_num, Lib.hid (HK.out.drewN _)⟩
    · go_wp2_with fail
      go_ret
      exact ⟨rfl, HK.out⟩
theorem weight_kid : ∀ (kids : List Flt) (i : Nat) (h : i < kids.length), weight kids[i] ≤ weightK kids
  | [], _, h => by simp at h
  | g :: gs, 0, _ => by simp [weightK]
  | g :: gs, i + 1, h => by
    have := weight_kid gs i (by simpa using h)
    simp only [List.getElem_cons_succ, weightK]
    omega
/-- Nine cells of a row. -/
theorem nine_row {w : World} {kb o : Nat} {c0 c1 c2 c3 c4 c5 c6 c7 c8 : Value} (h : ∀ j u, ([c0, c1, c2, c3, c4, c5, c6, c7, c8] : List Value)[j]? = some u → w.cell? ⟨kb, o + j, none⟩ = some u) :
    w.cell? ⟨kb, o, none⟩ = some c0 ∧ w.cell? ⟨kb, o + 1, none⟩ = some c1 ∧ w.cell? ⟨kb, o + 2, none⟩ = some c2 ∧ w.cell? ⟨kb, o + 3, none⟩ = some c3 ∧ w.cell? ⟨kb, o + 4, none⟩ = some c4 ∧ w.cell? ⟨kb, o + 5, none⟩ = some c5 ∧ w.cell? ⟨kb, o + 6, none⟩ = some c6 ∧ w.cell? ⟨kb, o + 7, none⟩ = some c7 ∧ w.cell? ⟨kb, o + 8, none⟩ = some c8 :=
  ⟨h 0 _ rfl, h 1 _ rfl, h 2 _ rfl, h 3 _ rfl, h 4 _ rfl, h 5 _ rfl, h 6 _ rfl, h 7 _ rfl, h 8 _ rfl⟩
/-- A kid that is read: its nine cells in the row. -/
theorem FltD.kid {w W : World} {H : Nat} {kids : List Flt} {a1 : Option Addr} {cs : Nat → List Value} (k : Keep [] w W) (hH : H ≤ w.heap.size)
    (hk : kids = [] ∨ ∃ kb ko, a1 = some ⟨kb, ko, none⟩ ∧ kb < H ∧ ∀ i, i < kids.length → ∀ j u, (cs i)[j]? = some u → w.cell? ⟨kb, ko + i * 9 + j, none⟩ = some u)
    (hkid : ∀ i (h : i < kids.length), FltD w H kids[i] (cs i)) {i : Nat} (hi : i < kids.length) :
    ∃ kb ko b1 e1 b2 e2, a1 = some ⟨kb, ko, none⟩ ∧ FltD W H kids[i] (nineOf (.slice b1 kids[i].kids.length e1) (.slice b2 kids[i].it.mids.length e2) kids[i].it) ∧
      (∀ j u, (nineOf (.slice b1 kids[i].kids.length e1) (.slice b2 kids[i].it.mids.length e2) kids[i].it)[j]? = some u → W.cell? ⟨kb, ko + i * 9 + j, none⟩ = some u) := by
  rcases hk with h | ⟨kb, ko, h1, h2, h3⟩
  · rw [h] at hi; simp at hi
  · have hF := (hkid i hi).keep k hH (by simp)
    obtain ⟨b1, e1, b2, e2, hcs⟩ := hF.nine
    rw [hcs] at hF
    refine ⟨kb, ko, b1, e1, b2, e2, h1, hF, fun j u hu => (k.cell ⟨kb, ko + i * 9 + j, none⟩ (Nat.lt_of_lt_of_le h2 hH) (by simp)).trans (h3 i hi j u ?_)⟩
    rw [hcs]; exact hu

set_option maxHeartbeats 4000000 in
set_option maxRecDepth 100000 in
theorem xsame_step (H1 H2 : Nat) (it : Itm) (kids : List Flt) (a1 : Option Addr) (c1 : Nat) (a2 : Option Addr) (c2 : Nat) (cs : Nat → List Value) (b1 : Option Addr) (d1 : Nat) (b2 : Option Addr) (d2 : Nat) (ds : Nat → List Value) (w : World)
    (hH1 : H1 ≤ w.heap.size) (hH2 : H2 ≤ w.heap.size) (hm : Txt w H1 a2 it.mids) (hml : it.mids.length ≤ 9223372036854775807) (hkl : kids.length ≤ 9223372036854775807)
    (hk : kids = [] ∨ ∃ kb ko, a1 = some ⟨kb, ko, none⟩ ∧ kb < H1 ∧ ∀ i, i < kids.length → ∀ j u, (cs i)[j]? = some u → w.cell? ⟨kb, ko + i * 9 + j, none⟩ = some u)
    (hkid : ∀ i (h : i < kids.length), FltD w H1 kids[i] (cs i))
    (hm2 : Txt w H2 b2 it.mids)
    (hk2 : kids = [] ∨ ∃ kb ko, b1 = some ⟨kb, ko, none⟩ ∧ kb < H2 ∧ ∀ i, i < kids.length → ∀ j u, (ds i)[j]? = some u → w.cell? ⟨kb, ko + i * 9 + j, none⟩ = some u)
    (hkid2 : ∀ i (h : i < kids.length), FltD w H2 kids[i] (ds i))
    (ih : ∀ i (h : i < kids.length) (vs us : List Value) (W : World), H1 ≤ W.heap.size → H2 ≤ W.heap.size → FltD W H1 kids[i] vs → FltD W H2 kids[i] us → Calls Tryz.prog 14 #[.agg vs.toArray, .agg us.toArray] W (RetB W true)) :
    Calls Tryz.prog 14 #[.agg #[.int .i8 it.kind, .slice a1 kids.length c1, .string it.desc, .string it.value, .string it.start, .slice a2 it.mids.length c2, .string it.fin, .string it.rule, .bool it.dn], .agg #[.int .i8 it.kind, .slice b1 kids.length d1, .string it.desc, .string it.value, .string it.start, .slice b2 it.mids.length d2, .string it.fin, .string it.rule, .bool it.dn]] w (RetB w true) := by
  have HM := Lib.hid hm
  have HM2 := Lib.hid hm2
  have HKK := Lib.hid (fun (W : World) (k : Keep [] w W) (i : Nat) (hi : i < kids.length) => FltD.kid k hH1 hk hkid hi)
  have HKK2 := Lib.hid (fun (W : World) (k : Keep [] w W) (i : Nat) (hi : i < kids.length) => FltD.kid k hH2 hk2 hkid2 hi)
  have HIH := Lib.hid ih
  clear hm hm2 hk hkid hk2 hkid2 ih
  have HB1 : Hid (((w.alloc (.cells #[.int .i8 it.kind, .slice a1 kids.length c1, .string it.desc, .string it.value, .string it.start, .slice a2 it.mids.length c2, .string it.fin, .string it.rule, .bool it.dn] 26)).alloc (.cells #[.int .i8 it.kind, .slice b1 kids.length d1, .string it.desc, .string it.value, .string it.start, .slice b2 it.mids.length d2, .string it.fin, .string it.rule, .bool it.dn] 26)).heap[w.heap.size]? = some (.cells #[.int .i8 it.kind, .slice a1 kids.length c1, .string it.desc, .string it.value, .string it.start, .slice a2 it.mids.length c2, .string it.fin, .string it.rule, .bool it.dn] 26 (0, 0))) := Lib.hid ((alloc_lt _ (by simp)).trans (alloc_at w _))
  have HB2 : Hid (((w.alloc (.cells #[.int .i8 it.kind, .slice a1 kids.length c1, .string it.desc, .string it.value, .string it.start, .slice a2 it.mids.length c2, .string it.fin, .string it.rule, .bool it.dn] 26)).alloc (.cells #[.int .i8 it.kind, .slice b1 kids.length d1, .string it.desc, .string it.value, .string it.start, .slice b2 it.mids.length d2, .string it.fin, .string it.rule, .bool it.dn] 26)).heap[w.heap.size + 1]? = some (.cells #[.int .i8 it.kind, .slice b1 kids.length d1, .string it.desc, .string it.value, .string it.start, .slice b2 it.mids.length d2, .string it.fin, .string it.rule, .bool it.dn] 26 (0, 0))) := Lib.hid (alloc_is (w.alloc _) _ _ (by simp))
  have HKW : Hid (Keep [] w ((w.alloc (.cells #[.int .i8 it.kind, .slice a1 kids.length c1, .string it.desc, .string it.value, .string it.start, .slice a2 it.mids.length c2, .string it.fin, .string it.rule, .bool it.dn] 26)).alloc (.cells #[.int .i8 it.kind, .slice b1 kids.length d1, .string it.desc, .string it.value, .string it.start, .slice b2 it.mids.length d2, .string it.fin, .string it.rule, .bool it.dn] 26))) := Lib.hid (((Keep.refl [] w).alloc _).alloc _)
  go_enter Tryz.func14, Tryz.ntmps14
  go_wp2_with (go_at_call 31; refine (sameTexts_any _ H1 H2 _ _ _ _ it.mids (Nat.le_trans hH1 HKW.out.size) (Nat.le_trans hH2 HKW.out.size) (HM.out.keep0 HKW.out hH1) (HM2.out.keep0 HKW.out hH2) hml).mono ?_; rintro e W1 ⟨rfl, hK1⟩; obtain ⟨x0, x1, x2, x3, x4, x5, x6, x7, x8, xf⟩ := nine (hK1.heap HB1.out (by simp)); obtain ⟨y0, y1, y2, y3, y4, y5, y6, y7, y8, yf⟩ := nine (hK1.heap HB2.out (by simp)); have HB1' := Lib.hid (hK1.heap HB1.out (by simp)); have HB2' := Lib.hid (hK1.heap HB2.out (by simp)); have HK1 := Lib.hid (HKW.out.trans hK1); clear hK1)
  clear x0 x1 x2 x3 x4 x5 x6 x7 x8 xf y0 y1 y2 y3 y4 y5 y6 y7 y8 yf HB1 HB2 HKW HM HM2
  go_loopg [6] (kids.length) (fun g i wr => ∃ k : Nat, k ≤ kids.length ∧ kids.length ≤ g + k ∧ i = .int .i64 k ∧ Hid (Keep [] W1 wr))
  case atStart => exact ⟨0, Nat.zero_le _, by omega, rfl, Lib.hid (Keep.refl _ _)⟩
  case round =>
    obtain ⟨k, hk, hg, rfl, HK⟩ := hrel
    obtain ⟨x0, x1, x2, x3, x4, x5, x6, x7, x8, xf⟩ := nine (HK.out.heap HB1'.out (by simp))
    obtain ⟨y0, y1, y2, y3, y4, y5, y6, y7, y8, yf⟩ := nine (HK.out.heap HB2'.out (by simp))
    by_cases hlt : k < kids.length
    · obtain ⟨kb, ko, p1, q1, p2, q2, rfl, hF1, hc1⟩ := HKK.out wr (HK1.out.trans HK.out) k hlt
      obtain ⟨nb, no, r1, s1, r2, s2, rfl, hF2, hc2⟩ := HKK2.out wr (HK1.out.trans HK.out) k hlt
      have hI := HIH.out k hlt _ _ wr.drew (Nat.le_trans hH1 (HK1.out.trans HK.out).size) (Nat.le_trans hH2 (HK1.out.trans HK.out).size) (hF1.keep ((Keep.refl [] wr).drew) (Nat.le_trans hH1 (HK1.out.trans HK.out).size) (by simp)) (hF2.keep ((Keep.refl [] wr).drew) (Nat.le_trans hH2 (HK1.out.trans HK.out).size) (by simp))
      obtain ⟨kid, hkid⟩ : ∃ kid, kids[k] = kid := ⟨_, rfl⟩
      rw [hkid] at hI hc1 hc2
      obtain ⟨f0, f1, f2, f3, f4, f5, f6, f7, f8⟩ := nine_row hc1
      obtain ⟨g0, g1, g2, g3, g4, g5, g6, g7, g8⟩ := nine_row hc2
      have HI := Lib.hid hI
      have hk1 : (k : Int) < (kids.length : Int) := by omega
      have hk0 : (0 : Int) ≤ (k : Int) := by omega
      clear hI hF1 hF2 hc1 hc2 hkid
      go_wp2_with fail
      go_still_tail 10, (by kernel_rfl)
      change wpList _ _ _ _ _ wr.drew
      have HKd : Hid (Keep [] W1 wr.drew) := Lib.hid HK.out.drew
      obtain ⟨wd, hwd⟩ : ∃ wd, wd = wr.drew := ⟨_, rfl⟩
      rw [← hwd] at HI HKd ⊢
      clear hwd f0 f1 f2 f3 f4 f5 f6 f7 f8 g0 g1 g2 g3 g4 g5 g6 g7 g8 x0 x1 x2 x3 x4 x5 x6 x7 x8 xf y0 y1 y2 y3 y4 y5 y6 y7 y8 yf
      go_wp2_with (go_at_call 14; refine HI.out.mono ?_; rintro e w3 ⟨rfl, hK3⟩; have HK3 := Lib.hid (HKd.out.trans hK3); clear hK3)
      go_roundg (kids.length - (k + 1))
      case measure => omega
      case rel => exact ⟨k + 1, by omega, by omega, by go_num, HK3⟩
    · go_wp2_with fail
      go_ret
      exact ⟨rfl, HK1.out.trans HK.out⟩

theorem xsame_any (H1 H2 : Nat) : ∀ (n : Nat) (g : Flt) (vs us : List Value) (w : World), weight g ≤ n → H1 ≤ w.heap.size → H2 ≤ w.heap.size → FltD w H1 g vs → FltD w H2 g us →
    Calls Tryz.prog 14 #[.agg vs.toArray, .agg us.toArray] w (RetB w true) := by
  intro n
  induction n with
  | zero =>
    intro g vs us w hn
    cases g with | mk it ks => simp only [weight] at hn; omega
  | succ n ih =>
    intro g vs us w hn hH1 hH2 h1 h2
    cases h1 with
    | mk it kids a1 c1 a2 c2 cs hm hml hkl hk hkid =>
      cases h2 with
      | mk _ _ b1 d1 b2 d2 ds hm2 hml2 hkl2 hk2 hkid2 =>
        refine xsame_step H1 H2 it kids a1 c1 a2 c2 cs b1 d1 b2 d2 ds w hH1 hH2 hm hml hkl hk hkid hm2 hk2 hkid2 fun i hi vs us W e1 e2 e3 e4 => ih kids[i] vs us W ?_ e1 e2 e3 e4
        have := weight_kid kids i hi
        simp only [weight] at hn
        omega
end Go.Proofs.YtjmpcoedfoaebaaGreatDoor
