/- The reference's walk over a filter's parts; its Check. -/
import Derived.Test.YtjmpcoedfoaebaaGreatDoorNig
import Derived.Test.YtjmpcoedfoaebaaGreatDoorNie
import Derived.Test.YtjmpcoedfoaebaaGreatDoorFpu
import Derived.Deep.DeepCutAuto
open Go Go.RowKit
namespace Go.Proofs.YtjmpcoedfoaebaaGreatDoor

/-- The counts and the first error. -/
def CntAt (w : World) (b n d : Nat) (c : Int) : Prop := w.heap[b]? = some (.cells #[.int .i64 n, .int .i64 d, .int .i64 c] 99 (0, 0))
theorem CntAt.keep0 {w w' : World} {b n d : Nat} {c : Int} (h : CntAt w b n d c) (k : Keep [] w w') : CntAt w' b n d c := k.heap h (by simp)
theorem CntAt.setC {w : World} {b n d : Nat} {c : Int} (h : CntAt w b n d c) (c' : Int) : CntAt (w.setCell ⟨b, 2, none⟩ (.int .i64 c')) b n d c' := setCell_at h 2 _
theorem CntAt.setN {w : World} {b n d : Nat} {c : Int} (h : CntAt w b n d c) (n' : Nat) : CntAt (w.setCell ⟨b, 0, none⟩ (.int .i64 n')) b n' d c := setCell_at h 0 _
theorem CntAt.setD {w : World} {b n d : Nat} {c : Int} (h : CntAt w b n d c) (d' : Nat) : CntAt (w.setCell ⟨b, 1, none⟩ (.int .i64 d')) b n d' c := setCell_at h 1 _
/-- What the walk has done. -/
def WkR (b : Nat) (w : World) (r : Int × Nat × Nat) (e : Ending) (w' : World) : Prop := e = .returned (.tuple #[]) ∧ CntAt w' b r.2.1 r.2.2 r.1 ∧ Keep [b] w w'
theorem WkR.mk {b : Nat} {w w' : World} {c : Int} {n d : Nat} {r : Int × Nat × Nat} (hr : r = (c, n, d)) (h : CntAt w' b n d c) (k : Keep [b] w w') : WkR b w r (.returned (.tuple #[])) w' := by
  rw [hr]; exact ⟨rfl, h, k⟩

set_option maxHeartbeats 4000000 in
set_option maxRecDepth 100000 in
theorem ywalk_step (H b : Nat) (hHb : H ≤ b) (rem : Nat) (it : Itm) (kids : List Flt) (a n d : Nat) (a1 : Option Addr) (c1 : Nat) (a2 : Option Addr) (c2 : Nat) (cs : Nat → List Value) (w : World)
    (ha : a + (rem + 1) = 64) (hn : n ≤ 65536) (hd : d ≤ 64) (hC : CntAt w b n d 0) (hHw : H ≤ w.heap.size)
    (hm : Txt w H a2 it.mids) (hml : it.mids.length ≤ 9223372036854775807) (hkl : kids.length ≤ 9223372036854775807)
    (hk : kids = [] ∨ ∃ kb ko, a1 = some ⟨kb, ko, none⟩ ∧ kb < H ∧ ∀ i, i < kids.length → ∀ j u, (cs i)[j]? = some u → w.cell? ⟨kb, ko + i * 9 + j, none⟩ = some u)
    (hkid : ∀ i (h : i < kids.length), FltD w H kids[i] (cs i))
    (ih : ∀ (n d : Nat) (g : Flt) (vs : List Value) (w : World), n ≤ 65536 → d ≤ 64 → FltD w H g vs → CntAt w b n d 0 → H ≤ w.heap.size → Calls Tryz.prog 55 #[.pointer (some ⟨b, 0, none⟩), .agg vs.toArray, .int .i64 ((a : Int) + 1)] w (WkR b w (checkP rem g n d))) :
    Calls Tryz.prog 55 #[.pointer (some ⟨b, 0, none⟩), .agg #[.int .i8 it.kind, .slice a1 kids.length c1, .string it.desc, .string it.value, .string it.start, .slice a2 it.mids.length c2, .string it.fin, .string it.rule, .bool it.dn], .int .i64 a] w (WkR b w (checkP (rem + 1) (.mk it kids) n d)) := by
  have hbl := lt_of_block hC
  obtain ⟨R, hR⟩ : ∃ R, checkP (rem + 1) (.mk it kids) n d = R := ⟨_, rfl⟩
  have HRes := Lib.hid hR
  rw [hR]
  obtain ⟨n', hn'⟩ : ∃ n', (if it.kind = 2 then n else n + 1) = n' := ⟨_, rfl⟩
  obtain ⟨d', hd'⟩ : ∃ d', max d (a + 1) = d' := ⟨_, rfl⟩
  have hn2 : n' ≤ 65537 := by rw [← hn']; split <;> omega
  have hd2 : d' ≤ 64 := by omega
  have ha2 : (a : Int) ≤ 63 := by omega
  have HN := Lib.hid hn'
  have HD := Lib.hid hd'
  have HIH := Lib.hid ih
  have HKI := Lib.hid hkid
  have HKC := Lib.hid hk
  have HMT := Lib.hid hm
  obtain ⟨W, hW⟩ : ∃ W, W = w.alloc (.cells #[.int .i8 it.kind, .slice a1 kids.length c1, .string it.desc, .string it.value, .string it.start, .slice a2 it.mids.length c2, .string it.fin, .string it.rule, .bool it.dn] 26) := ⟨_, rfl⟩
  have HKW : Hid (Keep [] w W) := Lib.hid (by rw [hW]; exact (Keep.refl [] w).alloc _)
  have HBX : Hid (W.heap[w.heap.size]? = some (.cells #[.int .i8 it.kind, .slice a1 kids.length c1, .string it.desc, .string it.value, .string it.start, .slice a2 it.mids.length c2, .string it.fin, .string it.rule, .bool it.dn] 26 (0, 0))) := Lib.hid (by rw [hW]; exact alloc_at _ _)
  have HCW := Lib.hid (hC.keep0 HKW.out)
  have HW := Lib.hid hW
  clear hR hn' hd' ih hkid hk hm hC hW
  have hnb : b ≠ w.heap.size := by omega
  go_enter Tryz.func55, Tryz.ntmps55
  go_upto_region 3 with fail
  rw [← HW.out]
  have x0 := cell_of HBX.out 0
  go_upto_if 14 with fail
  clear x0
  go_cut [] (fun wx => Hid (CntAt wx b n' d 0) ∧ Hid (Keep [b] w wx) ∧ Hid (wx.heap[w.heap.size]? = some (.cells #[.int .i8 it.kind, .slice a1 kids.length c1, .string it.desc, .string it.value, .string it.start, .slice a2 it.mids.length c2, .string it.fin, .string it.rule, .bool it.dn] 26 (0, 0))))
  case first =>
    cases hk2 : decide (it.kind = 2) with
    | true =>
      have hkb : (it.kind != 2) = false := by rw [of_decide_eq_true hk2]; rfl
      have HX : Hid (n' = n) := Lib.hid (by rw [← HN.out, if_pos (of_decide_eq_true hk2)])
      clear hk2
      go_wp2_with fail
      go_meet
      rw [HX.out]
      exact ⟨HCW, Lib.hid HKW.out.of0, HBX⟩
    | false =>
      have hkb : (it.kind != 2) = true := by rw [bne_iff_ne]; exact of_decide_eq_false hk2
      have HX : Hid (n' = n + 1) := Lib.hid (by rw [← HN.out, if_neg (of_decide_eq_false hk2)])
      have cn := cell_of HCW.out 0
      have fn := free_of HCW.out
      clear hk2
      go_wp2_with fail
      go_meet
      rw [HX.out]
      exact ⟨Lib.hid (HCW.out.setN (n + 1)), Lib.hid (HKW.out.of0.setCell _ _ (.inl (by simp))), Lib.hid ((setCell_ne _ (Ne.symm hnb)).trans HBX.out)⟩
  case rest =>
  obtain ⟨HC1, HK1, HB1⟩ := hcut
  clear HCW HBX HKW HW
  have cd := cell_of HC1.out 1
  go_upto_if 28 with fail
  clear cd
  go_cut [] (fun wx => Hid (CntAt wx b n' d' 0) ∧ Hid (Keep [b] w wx) ∧ Hid (wx.heap[w.heap.size]? = some (.cells #[.int .i8 it.kind, .slice a1 kids.length c1, .string it.desc, .string it.value, .string it.start, .slice a2 it.mids.length c2, .string it.fin, .string it.rule, .bool it.dn] 26 (0, 0))))
  case first =>
    have cd := cell_of HC1.out 1
    have fd := free_of HC1.out
    cases hq : decide (d < a + 1) with
    | true =>
      have hqi : (d : Int) < (a : Int) + 1 := by have := of_decide_eq_true hq; omega
      have HX : Hid (d' = a + 1) := Lib.hid (by have := of_decide_eq_true hq; rw [← HD.out]; omega)
      clear hq
      go_wp2_with fail
      go_meet
      rw [HX.out]
      exact ⟨Lib.hid (HC1.out.setD (a + 1)), Lib.hid (HK1.out.setCell _ _ (.inl (by simp))), Lib.hid ((setCell_ne _ (Ne.symm hnb)).trans HB1.out)⟩
    | false =>
      have hqi : ¬ ((d : Int) < (a : Int) + 1) := by have := of_decide_eq_false hq; omega
      have HX : Hid (d' = d) := Lib.hid (by have := of_decide_eq_false hq; rw [← HD.out]; omega)
      clear hq
      go_wp2_with fail
      go_meet
      rw [HX.out]
      exact ⟨HC1, HK1, HB1⟩
  case rest =>
  obtain ⟨HC3, HK3, HB3⟩ := hcut
  have HU : Hid (R = (if 65536 < n' ∨ longB it = true then (3, n', d') else if rightB it kids.length = false then (90, n', d') else checkL (checkP rem) kids n' d')) := Lib.hid (by
    have e : 64 - rem = a + 1 := by omega
    have e1 := HN.out
    have e2 := HD.out
    rw [← HRes.out, checkP, e, ← e1, ← e2]
    rfl)
  clear HRes HN HD HC1 HK1 HB1
  obtain ⟨x0, x1, x2, x3, x4, x5, x6, x7, x8, xf⟩ := nine HB3.out
  have cn := cell_of HC3.out 0
  have cc := cell_of HC3.out 2
  have fc := free_of HC3.out
  have hHc : H ≤ wc.heap.size := Nat.le_trans hHw HK3.out.size
  have HT3 := Lib.hid (HMT.out.keep HK3.out hHw (by simp; omega))
  have HL := Lib.hid (fun (V : World) (hv : Keep [] wc V) => ylong_any H it a1 kids.length c1 a2 c2 V (Nat.le_trans hHc hv.size) (HT3.out.keep0 hv hHc) hml)
  cases hc1 : decide (65536 < n') with
  | true =>
    have hq : (65536 : Int) < (n' : Int) := by have := of_decide_eq_true hc1; omega
    have HX : Hid (R = (3, n', d')) := Lib.hid (by rw [HU.out, if_pos (.inl (of_decide_eq_true hc1))])
    clear hc1
    go_wp2_with fail
    ((try simp only [Exit.inBlock, Exit.then]); first | (refine bodyPost_ret (results_none rfl _ _ _) rfl ?_) | (refine bodyPost_end (results_none rfl _ _ _) rfl ?_))
    exact WkR.mk HX.out (HC3.out.setC 3) (HK3.out.setCell _ _ (.inl (by simp)))
  | false =>
    have hq : (n' : Int) ≤ 65536 := by have := of_decide_eq_false hc1; omega
    have hn3 : n' ≤ 65536 := by have := of_decide_eq_false hc1; omega
    have HNN := Lib.hid (of_decide_eq_false hc1)
    clear hc1
    cases hlb : longB it with
    | true =>
      have hL := HL.out
      rw [hlb] at hL
      have HL2 := Lib.hid hL
      have HX : Hid (R = (3, n', d')) := Lib.hid (by rw [HU.out, if_pos (.inr hlb)])
      clear hlb hL HL
      go_wp2_with (go_at_call 80; refine (HL2.out _ (Keep.refl _ _)).mono ?_; rintro e w5 ⟨rfl, hK⟩; have cc5 := cell_of (hK.heap HC3.out (by simp)) 2; have fc5 := free_of (hK.heap HC3.out (by simp)); have HK5 := Lib.hid hK; clear hK)
      ((try simp only [Exit.inBlock, Exit.then]); first | (refine bodyPost_ret (results_none rfl _ _ _) rfl ?_) | (refine bodyPost_end (results_none rfl _ _ _) rfl ?_))
      exact WkR.mk HX.out ((HC3.out.keep0 HK5.out).setC 3) ((HK3.out.trans0 HK5.out).setCell _ _ (.inl (by simp)))
    | false =>
      have hL := HL.out
      rw [hlb] at hL
      have HL2 := Lib.hid hL
      obtain ⟨z2, z3, z4, z6, z7, _⟩ := long_nog hlb
      have HRI := Lib.hid (fun (V : World) (hv : Keep [] wc V) => yfields_any H it a1 kids.length c1 a2 c2 V (Nat.le_trans hHc hv.size) (HT3.out.keep0 hv hHc) hml (by unfold topLen; omega) (by unfold topLen; omega))
      have HU2 : Hid (R = (if rightB it kids.length = false then (90, n', d') else checkL (checkP rem) kids n' d')) := Lib.hid (by rw [HU.out, if_neg (by rw [hlb]; simp; have := HNN.out; omega)])
      clear hlb hL HL HU
      obtain ⟨rt, hrt⟩ : ∃ rt, rightB it kids.length = rt := ⟨_, rfl⟩
      have hRI := HRI.out
      rw [hrt] at hRI
      have HR2 := Lib.hid hRI
      have hU2 := HU2.out
      rw [hrt] at hU2
      have HU3 := Lib.hid hU2
      clear hRI hU2 HU2 HRI hrt
      go_upto_region 9 with (go_at_call 80; refine (HL2.out _ (Keep.refl _ _)).mono ?_; rintro e w5 ⟨rfl, hK⟩; obtain ⟨y0, y1, y2, y3, y4, y5, y6, y7, y8, yf⟩ := nine (hK.heap HB3.out (by simp)); have HK5 := Lib.hid hK; clear hK)
      clear x0 x1 x2 x3 x4 x5 x6 x7 x8 xf cn cc fc
      cases rt with
      | false =>
        have HX : Hid (R = (90, n', d')) := Lib.hid (by rw [HU3.out, if_pos rfl])
        clear HU3
        go_wp2_with (go_at_call 81; refine (HR2.out _ HK5.out).mono ?_; rintro e w6 ⟨rfl, hK⟩; have cc5 := cell_of (hK.heap (HK5.out.heap HC3.out (by simp)) (by simp)) 2; have fc5 := free_of (hK.heap (HK5.out.heap HC3.out (by simp)) (by simp)); have HK6 := Lib.hid hK; clear hK)
        ((try simp only [Exit.inBlock, Exit.then]); first | (refine bodyPost_ret (results_none rfl _ _ _) rfl ?_) | (refine bodyPost_end (results_none rfl _ _ _) rfl ?_))
        exact WkR.mk HX.out (((HC3.out.keep0 HK5.out).keep0 HK6.out).setC 90) (((HK3.out.trans0 HK5.out).trans0 HK6.out).setCell _ _ (.inl (by simp)))
      | true =>
        have HX : Hid (checkL (checkP rem) kids n' d' = R) := Lib.hid (by rw [HU3.out, if_neg (by decide)])
        clear HU3
        go_wp2_with (go_at_call 81; refine (HR2.out _ HK5.out).mono ?_; rintro e w6 ⟨rfl, hK⟩; have HK6 := Lib.hid hK; clear hK)
        have HC6 := Lib.hid ((HC3.out.keep0 HK5.out).keep0 HK6.out)
        have HB6 := Lib.hid (HK6.out.heap (HK5.out.heap HB3.out (by simp)) (by simp))
        have HK6 := Lib.hid ((HK3.out.trans0 HK5.out).trans0 HK6.out)
        clear y0 y1 y2 y3 y4 y5 y6 y7 y8 yf HK5 HK3 HC3 HB3 HR2 HL2 HT3
        have HX0 : Hid ((if (0 : Int) ≠ 0 then ((0 : Int), n', d') else checkL (checkP rem) (kids.drop 0) n' d') = R) := Lib.hid (by rw [if_neg (fun h => h rfl), List.drop_zero]; exact HX.out)
        go_loopg [6] (kids.length) (fun g i wr => ∃ (k n2 dd : Nat) (cd : Int), k ≤ kids.length ∧ kids.length ≤ g + k ∧ i = .int .i64 k ∧ Hid (cd = 0 → n2 ≤ 65536 ∧ dd ≤ 64) ∧ Hid (CntAt wr b n2 dd cd) ∧ Hid (Keep [b] w wr) ∧ Hid (wr.heap[w.heap.size]? = some (.cells #[.int .i8 it.kind, .slice a1 kids.length c1, .string it.desc, .string it.value, .string it.start, .slice a2 it.mids.length c2, .string it.fin, .string it.rule, .bool it.dn] 26 (0, 0))) ∧ Hid ((if cd ≠ 0 then (cd, n2, dd) else checkL (checkP rem) (kids.drop k) n2 dd) = R))
        case atStart => exact ⟨0, n', d', 0, Nat.zero_le _, by omega, rfl, Lib.hid (fun _ => ⟨hn3, hd2⟩), HC6, HK6, HB6, HX0⟩
        case round =>
          clear HC6 HB6 HK6 HX HX0
          obtain ⟨k, n2, dd, cd, hkl2, hg, rfl, HBD, HC, HK, HB, HRR⟩ := hrel
          obtain ⟨x0, x1, x2, x3, x4, x5, x6, x7, x8, xf⟩ := nine HB.out
          clear xf
          have cc := cell_of HC.out 2
          rcases (show (k < kids.length ∧ cd = 0) ∨ (kids.length ≤ k) ∨ (k < kids.length ∧ cd ≠ 0) by omega) with ⟨hlt, hc0⟩ | hge | ⟨hlt, hc0⟩
          · subst hc0
            obtain ⟨hb1, hb2⟩ := HBD.out rfl
            obtain ⟨kid, hkid⟩ : ∃ kid, kids[k] = kid := ⟨_, rfl⟩
            have hF := (HKI.out k hlt).keep HK.out hHw (by simp; omega)
            rw [hkid] at hF
            obtain ⟨b1, e1, b2, e2, hcs⟩ := hF.nine
            rw [hcs] at hF
            rcases HKC.out with h | ⟨kb, ko, rfl, hkb, hcells⟩
            · rw [h] at hlt; exact absurd hlt (by simp)
            · have hcell : ∀ j u, (cs k)[j]? = some u → wr.cell? ⟨kb, ko + k * 9 + j, none⟩ = some u := fun j u hu => (HK.out.cell ⟨kb, ko + k * 9 + j, none⟩ (by show kb < _; omega) (by simp; omega)).trans (hcells k hlt j u hu)
              rw [hcs] at hcell
              obtain ⟨f0, f1, f2, f3, f4, f5, f6, f7, f8⟩ := nine_row hcell
              have HI := Lib.hid (HIH.out n2 dd kid _ wr hb1 hb2 hF HC.out (Nat.le_trans hHw HK.out.size))
              have HR4 : Hid ((if (checkP rem kid n2 dd).1 ≠ 0 then checkP rem kid n2 dd else checkL (checkP rem) (kids.drop (k + 1)) (checkP rem kid n2 dd).2.1 (checkP rem kid n2 dd).2.2) = R) := Lib.hid (by
                have h := HRR.out
                rw [if_neg (fun h => h rfl), List.drop_eq_getElem_cons hlt, checkL, hkid] at h
                exact h)
              have HBD2 : Hid ((checkP rem kid n2 dd).1 = 0 → (checkP rem kid n2 dd).2.1 ≤ 65536 ∧ (checkP rem kid n2 dd).2.2 ≤ 64) := Lib.hid (checkP_bound rem kid n2 dd hb1 hb2)
              obtain ⟨r, hr⟩ : ∃ r, checkP rem kid n2 dd = r := ⟨_, rfl⟩
              rw [hr] at HI HR4 HBD2
              obtain ⟨rc, rn, rd⟩ := r
              unfold nineOf at HI
              have hki : (k : Int) < (kids.length : Int) := by omega
              clear hF hcs hcell hkid hr HRR HBD
              go_wp2_with (go_at_call 55; refine HI.out.mono ?_; rintro e w7 ⟨rfl, hC7, hK7⟩; have HC7 := Lib.hid hC7; have HB7 := Lib.hid (hK7.heap HB.out (by simp; omega)); have HK7 := Lib.hid (HK.out.transTo hK7 (fun x hx => .inl hx)); clear hC7 hK7)
              go_roundg (kids.length - (k + 1))
              case measure => omega
              case rel =>
                refine ⟨k + 1, rn, rd, rc, by omega, by omega, by go_num, HBD2, HC7, HK7, HB7, Lib.hid ?_⟩
                have h := HR4.out
                exact h
          · have HE1 : Hid (R = (cd, n2, dd)) := Lib.hid (by
              rw [← HRR.out]
              by_cases h : cd = 0
              · rw [if_neg (fun h' => h' h), List.drop_of_length_le hge, checkL, h]
              · rw [if_pos h])
            clear HRR
            have hki : ¬ ((k : Int) < (kids.length : Int)) := by omega
            go_wp2_with fail
            ((try simp only [Exit.inBlock, Exit.then]); first | (refine bodyPost_ret (results_none rfl _ _ _) rfl ?_) | (refine bodyPost_end (results_none rfl _ _ _) rfl ?_))
            exact WkR.mk HE1.out HC.out HK.out
          · have HE1 : Hid (R = (cd, n2, dd)) := Lib.hid (by rw [← HRR.out, if_pos hc0])
            have hki : (k : Int) < (kids.length : Int) := by omega
            have hcb : (cd == 0) = false := by rw [beq_eq_false_iff_ne]; exact hc0
            clear HRR
            go_wp2_with fail
            ((try simp only [Exit.inBlock, Exit.then]); first | (refine bodyPost_ret (results_none rfl _ _ _) rfl ?_) | (refine bodyPost_end (results_none rfl _ _ _) rfl ?_))
            exact WkR.mk HE1.out HC.out HK.out

set_option maxHeartbeats 1000000 in
set_option maxRecDepth 100000 in
theorem ywalk_deep (b n d : Nat) (g : Flt) (a1 : Option Addr) (c1 : Nat) (a2 : Option Addr) (c2 : Nat) (w : World) (hC : CntAt w b n d 0) :
    Calls Tryz.prog 55 #[.pointer (some ⟨b, 0, none⟩), .agg #[.int .i8 g.it.kind, .slice a1 g.kids.length c1, .string g.it.desc, .string g.it.value, .string g.it.start, .slice a2 g.it.mids.length c2, .string g.it.fin, .string g.it.rule, .bool g.it.dn], .int .i64 64] w (WkR b w (91, n, d)) := by
  have hbl := lt_of_block hC
  have HC := Lib.hid (hC.keep0 ((Keep.refl [] w).alloc (.cells #[.int .i8 g.it.kind, .slice a1 g.kids.length c1, .string g.it.desc, .string g.it.value, .string g.it.start, .slice a2 g.it.mids.length c2, .string g.it.fin, .string g.it.rule, .bool g.it.dn] 26)))
  have cc := cell_of HC.out 2
  have fc := free_of HC.out
  have HC0 := Lib.hid hC
  clear hC
  go_enter Tryz.func55, Tryz.ntmps55
  go_wp2_with fail
  ((try simp only [Exit.inBlock, Exit.then]); first | (refine bodyPost_ret (results_none rfl _ _ _) rfl ?_) | (refine bodyPost_end (results_none rfl _ _ _) rfl ?_))
  exact WkR.mk rfl ((HC0.out.setC 91).keep0 ((Keep.refl [] _).alloc _)) (((Keep.refl [b] w).setCell _ _ (.inl (by simp))).alloc _)

theorem ywalk_any (H b : Nat) (hHb : H ≤ b) : ∀ (rem n d : Nat) (g : Flt) (vs : List Value) (w : World), rem ≤ 64 → n ≤ 65536 → d ≤ 64 → FltD w H g vs → CntAt w b n d 0 → H ≤ w.heap.size →
    Calls Tryz.prog 55 #[.pointer (some ⟨b, 0, none⟩), .agg vs.toArray, .int .i64 (((64 - rem : Nat)) : Int)] w (WkR b w (checkP rem g n d)) := by
  intro rem
  induction rem with
  | zero =>
    intro n d g vs w _ _ _ hF hC _
    obtain ⟨a1, c1, a2, c2, rfl⟩ := hF.nine
    exact ywalk_deep b n d g a1 c1 a2 c2 w hC
  | succ rem ih =>
    intro n d g vs w hr hn hd hF hC hH
    cases hF with
    | mk it kids a1 c1 a2 c2 cs hm hml hkl hk hkid =>
      refine ywalk_step H b hHb rem it kids (64 - (rem + 1)) n d a1 c1 a2 c2 cs w (by omega) hn hd hC hH hm hml hkl hk hkid ?_
      intro n d g vs w e1 e2 e3 e4 e5
      have h := ih n d g vs w (by omega) e1 e2 e3 e4 e5
      rwa [show (((64 - rem : Nat)) : Int) = ((64 - (rem + 1) : Nat) : Int) + 1 by omega] at h

set_option maxHeartbeats 2000000 in
set_option maxRecDepth 100000 in
/-- The reference's Check, at every filter. -/
theorem ycheck_any (H : Nat) (g : Flt) (a1 : Option Addr) (c1 : Nat) (a2 : Option Addr) (c2 : Nat) (w : World) (hH : H ≤ w.heap.size) (hF : FltD w H g (nineOf (.slice a1 g.kids.length c1) (.slice a2 g.it.mids.length c2) g.it)) :
    Calls Tryz.prog 33 #[.agg #[.int .i8 g.it.kind, .slice a1 g.kids.length c1, .string g.it.desc, .string g.it.value, .string g.it.start, .slice a2 g.it.mids.length c2, .string g.it.fin, .string g.it.rule, .bool g.it.dn]] w (ChR w (checkR g)) := by
  obtain ⟨r, hr⟩ : ∃ r, checkP 64 g 0 0 = r := ⟨_, rfl⟩
  obtain ⟨rc, rn, rd⟩ := r
  obtain ⟨R, hR⟩ : ∃ R, checkR g = R := ⟨_, rfl⟩
  have HU : Hid (R = if rc = 0 then (rc, rn, rd) else (rc, 0, 0)) := Lib.hid (by rw [← hR, checkR, hr])
  rw [hR]
  obtain ⟨W, hW⟩ : ∃ W, W = (w.alloc (.cells #[.int .i8 g.it.kind, .slice a1 g.kids.length c1, .string g.it.desc, .string g.it.value, .string g.it.start, .slice a2 g.it.mids.length c2, .string g.it.fin, .string g.it.rule, .bool g.it.dn] 26)).alloc (.cells #[.int .i64 0, .int .i64 0, .int .i64 0] 99) := ⟨_, rfl⟩
  have hK : Keep [] w W := by rw [hW]; exact ((Keep.refl [] w).alloc _).alloc _
  have hC : CntAt W (w.heap.size + 1) 0 0 0 := by
    rw [hW]
    exact alloc_is2 _ _ _ (by simp)
  have hb0 : W.heap[w.heap.size]? = some (.cells #[.int .i8 g.it.kind, .slice a1 g.kids.length c1, .string g.it.desc, .string g.it.value, .string g.it.start, .slice a2 g.it.mids.length c2, .string g.it.fin, .string g.it.rule, .bool g.it.dn] 26 (0, 0)) := by
    rw [hW]
    exact ((Keep.refl [] _).alloc _).heap (alloc_at _ _) (by simp)
  have hwk := ywalk_any H (w.heap.size + 1) (by omega) 64 0 0 g _ W (Nat.le_refl _) (by omega) (by omega) (hF.keep hK hH (by simp)) hC (Nat.le_trans hH hK.size)
  rw [hr] at hwk
  have HWK := Lib.hid hwk
  have HB0 := Lib.hid hb0
  have HK := Lib.hid hK
  have HW := Lib.hid hW
  clear hwk hb0 hK hC hr hR hF hW
  go_enter Tryz.func33, Tryz.ntmps33
  go_upto_region 2 with fail
  rw [← HW.out]
  obtain ⟨x0, x1, x2, x3, x4, x5, x6, x7, x8, xf⟩ := nine HB0.out
  go_upto_region 3 with (go_at_call 55; refine HWK.out.mono ?_; rintro e w5 ⟨rfl, hC, hK5⟩; have HC5 := Lib.hid hC; have HK5 := Lib.hid hK5; have c0 := cell_of HC5.out 0; have c1 := cell_of HC5.out 1; have c2 := cell_of HC5.out 2; clear hC hK5)
  cases hz : decide (rc = 0) with
  | true =>
    have hzb : (rc != 0) = false := by rw [of_decide_eq_true hz]; rfl
    have HX : Hid (R = (0, rn, rd)) := Lib.hid (by rw [HU.out, if_pos (of_decide_eq_true hz), of_decide_eq_true hz])
    clear hz
    go_wp2_with fail
    go_quiet (fail)
    go_wp2_with fail
    go_ret3
    exact ⟨by rw [HX.out]; rfl, (HK.out.transTo HK5.out (by simp)).drewN _⟩
  | false =>
    have hzb : (rc != 0) = true := by rw [bne_iff_ne]; exact of_decide_eq_false hz
    have HX : Hid (R = (rc, 0, 0)) := Lib.hid (by rw [HU.out, if_neg (of_decide_eq_false hz)])
    clear hz
    go_wp2_with fail
    go_ret3
    exact ⟨by rw [HX.out]; rfl, HK.out.transTo HK5.out (by simp)⟩
end Go.Proofs.YtjmpcoedfoaebaaGreatDoor
