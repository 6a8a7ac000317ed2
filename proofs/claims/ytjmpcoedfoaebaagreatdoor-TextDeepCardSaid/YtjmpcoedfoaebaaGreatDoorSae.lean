/- The laws' same: two readings of one filter are the same. -/
import Derived.Test.YtjmpcoedfoaebaaGreatDoorSam
open Go Go.RowKit
namespace Go.Proofs.YtjmpcoedfoaebaaGreatDoor

set_option maxHeartbeats 4000000 in
set_option maxRecDepth 100000 in
theorem osame_step (H1 H2 : Nat) (it : Itm) (kids : List Flt) (a1 : Option Addr) (c1 : Nat) (a2 : Option Addr) (c2 : Nat) (cs : Nat → List Value) (b1 : Option Addr) (d1 : Nat) (b2 : Option Addr) (d2 : Nat) (ds : Nat → List Value) (w : World)
    (hH1 : H1 ≤ w.heap.size) (hH2 : H2 ≤ w.heap.size) (hm : Txt w H1 a2 it.mids) (hml : it.mids.length ≤ 9223372036854775807) (hkl : kids.length ≤ 9223372036854775807)
    (hk : kids = [] ∨ ∃ kb ko, a1 = some ⟨kb, ko, none⟩ ∧ kb < H1 ∧ ∀ i, i < kids.length → ∀ j u, (cs i)[j]? = some u → w.cell? ⟨kb, ko + i * 9 + j, none⟩ = some u)
    (hkid : ∀ i (h : i < kids.length), FltD w H1 kids[i] (cs i))
    (hm2 : Txt w H2 b2 it.mids)
    (hk2 : kids = [] ∨ ∃ kb ko, b1 = some ⟨kb, ko, none⟩ ∧ kb < H2 ∧ ∀ i, i < kids.length → ∀ j u, (ds i)[j]? = some u → w.cell? ⟨kb, ko + i * 9 + j, none⟩ = some u)
    (hkid2 : ∀ i (h : i < kids.length), FltD w H2 kids[i] (ds i))
    (ih : ∀ i (h : i < kids.length) (vs us : List Value) (W : World), H1 ≤ W.heap.size → H2 ≤ W.heap.size → FltD W H1 kids[i] vs → FltD W H2 kids[i] us → Calls Tryz.prog 25 #[.agg vs.toArray, .agg us.toArray] W (RetB W true)) :
    Calls Tryz.prog 25 #[.agg #[.int .i8 it.kind, .slice a1 kids.length c1, .string it.desc, .string it.value, .string it.start, .slice a2 it.mids.length c2, .string it.fin, .string it.rule, .bool it.dn], .agg #[.int .i8 it.kind, .slice b1 kids.length d1, .string it.desc, .string it.value, .string it.start, .slice b2 it.mids.length d2, .string it.fin, .string it.rule, .bool it.dn]] w (RetB w true) := by
  have HM := Lib.hid hm
  have HM2 := Lib.hid hm2
  have HKK := Lib.hid (fun (W : World) (k : Keep [] w W) (i : Nat) (hi : i < kids.length) => FltD.kid k hH1 hk hkid hi)
  have HKK2 := Lib.hid (fun (W : World) (k : Keep [] w W) (i : Nat) (hi : i < kids.length) => FltD.kid k hH2 hk2 hkid2 hi)
  have HIH := Lib.hid ih
  clear hm hm2 hk hkid hk2 hkid2 ih
  have HB1 : Hid (((w.alloc (.cells #[.int .i8 it.kind, .slice a1 kids.length c1, .string it.desc, .string it.value, .string it.start, .slice a2 it.mids.length c2, .string it.fin, .string it.rule, .bool it.dn] 26)).alloc (.cells #[.int .i8 it.kind, .slice b1 kids.length d1, .string it.desc, .string it.value, .string it.start, .slice b2 it.mids.length d2, .string it.fin, .string it.rule, .bool it.dn] 26)).heap[w.heap.size]? = some (.cells #[.int .i8 it.kind, .slice a1 kids.length c1, .string it.desc, .string it.value, .string it.start, .slice a2 it.mids.length c2, .string it.fin, .string it.rule, .bool it.dn] 26 (0, 0))) := Lib.hid ((alloc_lt _ (by simp)).trans (alloc_at w _))
  have HB2 : Hid (((w.alloc (.cells #[.int .i8 it.kind, .slice a1 kids.length c1, .string it.desc, .string it.value, .string it.start, .slice a2 it.mids.length c2, .string it.fin, .string it.rule, .bool it.dn] 26)).alloc (.cells #[.int .i8 it.kind, .slice b1 kids.length d1, .string it.desc, .string it.value, .string it.start, .slice b2 it.mids.length d2, .string it.fin, .string it.rule, .bool it.dn] 26)).heap[w.heap.size + 1]? = some (.cells #[.int .i8 it.kind, .slice b1 kids.length d1, .string it.desc, .string it.value, .string it.start, .slice b2 it.mids.length d2, .string it.fin, .string it.rule, .bool it.dn] 26 (0, 0))) := Lib.hid (alloc_is (w.alloc _) _ _ (by simp))
  have HKW : Hid (Keep [] w ((w.alloc (.cells #[.int .i8 it.kind, .slice a1 kids.length c1, .string it.desc, .string it.value, .string it.start, .slice a2 it.mids.length c2, .string it.fin, .string it.rule, .bool it.dn] 26)).alloc (.cells #[.int .i8 it.kind, .slice b1 kids.length d1, .string it.desc, .string it.value, .string it.start, .slice b2 it.mids.length d2, .string it.fin, .string it.rule, .bool it.dn] 26))) := Lib.hid (((Keep.refl [] w).alloc _).alloc _)
  obtain ⟨W1, hW1⟩ : ∃ W1, W1 = (w.alloc (.cells #[.int .i8 it.kind, .slice a1 kids.length c1, .string it.desc, .string it.value, .string it.start, .slice a2 it.mids.length c2, .string it.fin, .string it.rule, .bool it.dn] 26)).alloc (.cells #[.int .i8 it.kind, .slice b1 kids.length d1, .string it.desc, .string it.value, .string it.start, .slice b2 it.mids.length d2, .string it.fin, .string it.rule, .bool it.dn] 26) := ⟨_, rfl⟩
  have HB1' : Hid (W1.heap[w.heap.size]? = some (.cells #[.int .i8 it.kind, .slice a1 kids.length c1, .string it.desc, .string it.value, .string it.start, .slice a2 it.mids.length c2, .string it.fin, .string it.rule, .bool it.dn] 26 (0, 0))) := Lib.hid (by rw [hW1]; exact HB1.out)
  have HB2' : Hid (W1.heap[w.heap.size + 1]? = some (.cells #[.int .i8 it.kind, .slice b1 kids.length d1, .string it.desc, .string it.value, .string it.start, .slice b2 it.mids.length d2, .string it.fin, .string it.rule, .bool it.dn] 26 (0, 0))) := Lib.hid (by rw [hW1]; exact HB2.out)
  have HK1 : Hid (Keep [] w W1) := Lib.hid (by rw [hW1]; exact HKW.out)
  have HW1 := Lib.hid hW1
  clear hW1
  go_enter Tryz.func25, Tryz.ntmps25
  obtain ⟨x0, x1, x2, x3, x4, x5, x6, x7, x8, xf⟩ := nine HB1.out
  obtain ⟨y0, y1, y2, y3, y4, y5, y6, y7, y8, yf⟩ := nine HB2.out
  go_wp2_with fail
  rw [← HW1.out]
  clear x0 x1 x2 x3 x4 x5 x6 x7 x8 xf y0 y1 y2 y3 y4 y5 y6 y7 y8 yf HB1 HB2 HKW HW1
  go_loopg [5] (it.mids.length) (fun g i wr => ∃ k : Nat, k ≤ it.mids.length ∧ it.mids.length ≤ g + k ∧ i = .int .i64 k ∧ Hid (Keep [] W1 wr))
  case atStart => exact ⟨0, Nat.zero_le _, by omega, rfl, Lib.hid (Keep.refl _ _)⟩
  case round =>
  obtain ⟨k1, hk1, hg1, rfl, HK0⟩ := hrel
  obtain ⟨x0, x1, x2, x3, x4, x5, x6, x7, x8, xf⟩ := nine (HK0.out.heap HB1'.out (by simp))
  obtain ⟨y0, y1, y2, y3, y4, y5, y6, y7, y8, yf⟩ := nine (HK0.out.heap HB2'.out (by simp))
  by_cases hlt1 : k1 < it.mids.length
  · obtain ⟨r, hr⟩ : ∃ r, it.mids[k1]? = some r := ⟨_, List.getElem?_eq_getElem hlt1⟩
    obtain ⟨mb, mo, rfl, hmb, hc⟩ := (HM.out.keep0 (HK1.out.trans HK0.out) hH1).at hr
    obtain ⟨nb, no, rfl, hnb, hd⟩ := (HM2.out.keep0 (HK1.out.trans HK0.out) hH2).at hr
    clear hr
    go_wp2_with fail
    go_quiet (fail)
    go_wp2_with fail
    go_roundg (it.mids.length - (k1 + 1))
    case measure => omega
    case rel => exact ⟨k1 + 1, by omega, by omega, by go_num, Lib.hid (HK0.out.drewN _)⟩
  have HKx := Lib.hid (HK1.out.trans HK0.out)
  go_wp2_with fail
  clear x0 x1 x2 x3 x4 x5 x6 x7 x8 xf y0 y1 y2 y3 y4 y5 y6 y7 y8 yf HM HM2
  go_loopg [6] (kids.length) (fun g i wr => ∃ k : Nat, k ≤ kids.length ∧ kids.length ≤ g + k ∧ i = .int .i64 k ∧ Hid (Keep [] W1 wr))
  case atStart => exact ⟨0, Nat.zero_le _, by omega, rfl, HK0⟩
  case round =>
    obtain ⟨k, hk, hg, rfl, HK⟩ := hrel
    obtain ⟨x0, x1, x2, x3, x4, x5, x6, x7, x8, xf⟩ := nine (HK.out.heap HB1'.out (by simp))
    obtain ⟨y0, y1, y2, y3, y4, y5, y6, y7, y8, yf⟩ := nine (HK.out.heap HB2'.out (by simp))
    by_cases hlt : k < kids.length
    · obtain ⟨kb, ko, p1, q1, p2, q2, rfl, hF1, hc1⟩ := HKK.out wr (HK1.out.trans HK.out) k hlt
      obtain ⟨nb, no, r1, s1, r2, s2, rfl, hF2, hc2⟩ := HKK2.out wr (HK1.out.trans HK.out) k hlt
      have hI := HIH.out k hlt _ _ wr.drew (Nat.le_trans hH1 (HK1.out.trans HK.out).size) (Nat.le_trans hH2 (HK1.out.trans HK.out).size) (hF1.keep ((Keep.refl [] wr).drew) (Nat.le_trans hH1 (HK1.out.trans HK.out).size) (by simp)) (hF2.keep ((Keep.refl [] wr).drew) (Nat.le_trans hH2 (HK1.out.trans HK.out).size) (by simp))
      obtain ⟨kid, hkid⟩ : ∃ kid, kids[k] = kid := ⟨_, rfl⟩
      rw [hkid] at hI hc1 hc2
      obtain ⟨f0, f1, f2, f3, f4, f5, f6, f7, f8⟩ := nine_row hc1
      obtain ⟨g0, g1, g2, g3, g4, g5, g6, g7, g8⟩ := nine_row hc2
      have HI := Lib.hid hI
      have hk1 : (k : Int) < (kids.length : Int) := by omega
      have hk0 : (0 : Int) ≤ (k : Int) := by omega
      clear hI hF1 hF2 hc1 hc2 hkid
      go_wp2_with fail
      go_still_tail 10, (by kernel_rfl)
      change wpList _ _ _ _ _ wr.drew
      have HKd : Hid (Keep [] W1 wr.drew) := Lib.hid HK.out.drew
      obtain ⟨wd, hwd⟩ : ∃ wd, wd = wr.drew := ⟨_, rfl⟩
      rw [← hwd] at HI HKd ⊢
      clear hwd f0 f1 f2 f3 f4 f5 f6 f7 f8 g0 g1 g2 g3 g4 g5 g6 g7 g8 x0 x1 x2 x3 x4 x5 x6 x7 x8 xf y0 y1 y2 y3 y4 y5 y6 y7 y8 yf
      go_wp2_with (go_at_call 25; refine HI.out.mono ?_; rintro e w3 ⟨rfl, hK3⟩; have HK3 := Lib.hid (HKd.out.trans hK3); clear hK3)
      go_roundg (kids.length - (k + 1))
      case measure => omega
      case rel => exact ⟨k + 1, by omega, by omega, by go_num, HK3⟩
    · go_wp2_with fail
      go_ret
      exact ⟨rfl, HK1.out.trans HK.out⟩

theorem osame_any (H1 H2 : Nat) : ∀ (n : Nat) (g : Flt) (vs us : List Value) (w : World), weight g ≤ n → H1 ≤ w.heap.size → H2 ≤ w.heap.size → FltD w H1 g vs → FltD w H2 g us →
    Calls Tryz.prog 25 #[.agg vs.toArray, .agg us.toArray] w (RetB w true) := by
  intro n
  induction n with
  | zero =>
    intro g vs us w hn
    cases g with | mk it ks => simp only [weight] at hn; omega
  | succ n ih =>
    intro g vs us w hn hH1 hH2 h1 h2
    cases h1 with
    | mk it kids a1 c1 a2 c2 cs hm hml hkl hk hkid =>
      cases h2 with
      | mk _ _ b1 d1 b2 d2 ds hm2 hml2 hkl2 hk2 hkid2 =>
        refine osame_step H1 H2 it kids a1 c1 a2 c2 cs b1 d1 b2 d2 ds w hH1 hH2 hm hml hkl hk hkid hm2 hk2 hkid2 fun i hi vs us W e1 e2 e3 e4 => ih kids[i] vs us W ?_ e1 e2 e3 e4
        have := weight_kid kids i hi
        simp only [weight] at hn
        omega
end Go.Proofs.YtjmpcoedfoaebaaGreatDoor
