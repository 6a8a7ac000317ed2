/- The program's reader of filters: kids. -/
import Derived.Test.YtjmpcoedfoaebaaGreatDoorFltd
open Go Go.RowKit
namespace Go.Proofs.YtjmpcoedfoaebaaGreatDoor
set_option maxHeartbeats 4000000 in
set_option maxRecDepth 1000000 in
/-- Kids. -/
theorem filter_kids (B b : Nat) (s : ByteArray) (rem : Nat) (kd : Int) (d : Int) (i p : Nat) (w : World) (hd : d ≤ 64) (hs : s.size ≤ 1048576) (hp : p ≤ 65536) (hR : Rd w b s i p) (hE : Env B w) (hBb : B ≤ b) (ht : takeP s i 40 = .ok (i + 1)) (hl : partsOf s (i + 1) p ≤ 65536) (hm : manyP (peekB s (i + 1)) = some kd)
    (hd0 : -1000000 ≤ d) (ih : ∀ (i p : Nat) (w : World), i ≤ s.size → p ≤ 65536 → Rd w b s i p → Env B w → Calls Tryz.prog 28 #[.pointer (some ⟨b, 0, none⟩), .int .i64 (d + 1)] w (FRet b s w (filterP s rem i p))) :
    Calls Tryz.prog 28 #[.pointer (some ⟨b, 0, none⟩), .int .i64 d] w (FRet b s w (closeP s (kidsF kd (kidsP (filterP s rem) s kd (s.size + 1) (i + 1 + 1) (partsOf s (i + 1) p) [])))) := by
  have hi1 : i + 1 < s.size := by
    rcases Nat.lt_or_ge (i + 1) s.size with h' | h'
    · exact h'
    · rw [peekB_out h'] at hm; cases hm
  have IH := Lib.hid ih
  have HE := Lib.hid hE
  obtain ⟨hm1, hkd0, hkd2⟩ := manyI_some hm
  have HM := Lib.hid hm1
  have hBw := hE.size
  clear hE hm ih hm1
  have hsm : s.size ≤ maxLen := by unfold maxLen; omega
  have hblt := hR.lt
  have hR0 : Rd (w.alloc (.cells #[.int .i8 0, .slice none 0 0, .string ⟨#[]⟩, .string ⟨#[]⟩, .string ⟨#[]⟩, .slice none 0 0, .string ⟨#[]⟩, .string ⟨#[]⟩, .bool false] 26)) b s i p := (alloc_lt _ hblt).trans hR
  have r1 := hR0.c1
  have hT := take_any b i p 40 s _ hsm hR0
  rw [ht] at hT
  have HT := Lib.hid hT
  have HPA : ∀ j W, Rd W b s j p → Calls Tryz.prog 47 #[.pointer (some ⟨b, 0, none⟩)] W fun e w' => e = .returned (.int .u8 (peekB s j).toNat) ∧ ∃ n, w' = W.drewN n := fun j W h => peek_any b j p s W h
  have HP := Lib.hid HPA
  obtain ⟨P1, hP1⟩ : ∃ P1, partsOf s (i + 1) p = P1 := ⟨_, rfl⟩
  rw [hP1] at hl ⊢
  have HP1 := Lib.hid hP1
  clear hT hR0 hR ht HPA hP1
  go_enter Tryz.func28, Tryz.ntmps28
  go_upto_if 24 with (first
    | (go_at_call 46; refine HT.out.mono ?_; intro ev w1 hw; obtain ⟨rfl, hR1, hK1⟩ := Went.ok hw; clear hw; have HR1 := Lib.hid hR1; have HK1 := Lib.hid hK1; clear hR1 hK1)
    | (go_at_call 47; refine (HP.out _ _ HR1.out).mono ?_; rintro ev w' ⟨rfl, n, rfl⟩))
  clear r1
  go_cut [] (fun wx => Hid (Rd wx b s (i + 1) P1) ∧ Hid (Keep [b] (w.alloc (.cells #[.int .i8 0, .slice none 0 0, .string ⟨#[]⟩, .string ⟨#[]⟩, .string ⟨#[]⟩, .slice none 0 0, .string ⟨#[]⟩, .string ⟨#[]⟩, .bool false] 26)) wx))
  case first =>
    cases h33 : decide (peekB s (i + 1) = 33) with
    | true =>
      have hpk : (((peekB s (i + 1)).toNat : Int) != 33) = false := by rw [of_decide_eq_true h33]; rfl
      have HX : Hid (P1 = p) := Lib.hid (by rw [← HP1.out]; unfold partsOf; rw [if_pos (of_decide_eq_true h33)])
      clear h33
      go_wp2_with fail
      go_meet
      rw [HX.out]
      exact ⟨Lib.hid HR1.out, Lib.hid (HK1.out.drewN _)⟩
    | false =>
      have hpk : (((peekB s (i + 1)).toNat : Int) != 33) = true := by
        rw [bne_iff_ne]; intro h; exact of_decide_eq_false h33 (UInt8.toNat_inj.1 (by show _ = 33; omega))
      have HX : Hid (P1 = p + 1) := Lib.hid (by rw [← HP1.out]; unfold partsOf; rw [if_neg (of_decide_eq_false h33)])
      clear h33
      have r2 := HR1.out.c2
      have rf := HR1.out.free 2
      go_wp2_with fail
      go_meet
      rw [HX.out]
      exact ⟨Lib.hid (setCell_at (w := w1.drewN n) HR1.out 2 _), Lib.hid ((HK1.out.drewN _).setCell _ _ (.inl (by simp)))⟩
  case rest =>
    obtain ⟨HR2, HK2⟩ := hcut
    have hb2 := HK2.out.heap (alloc_at w _) (by simp; omega)
    have HB2 := Lib.hid hb2
    have HE2 := Lib.hid (HE.out.keep (((Keep.refl [b] w).alloc _).trans HK2.out) (by simp; omega))
    have hsz : w.heap.size < wc.heap.size := lt_of_block hb2
    have r2 := HR2.out.c2
    clear hb2
    go_wp2_with (go_at_call 49; refine (index_many _ _).mono ?_; rintro ev W2 ⟨rfl, rfl⟩)
    rw [HM.out]
    have r0 := HR2.out.c0
    have r1 := HR2.out.c1
    have hk0 : decide (0 ≤ kd) = true := by simpa using hkd0
    have hil : decide ((i : Int) + 1 < (s.size : Int)) = true := by simp; omega
    go_quiet (fail)
    obtain ⟨W3, hW3⟩ : ∃ W3, W3 = W2.drewN nq := ⟨_, rfl⟩
    have HR3 : Hid (Rd W3 b s (i + 1) P1) := Lib.hid (by rw [hW3]; exact HR2.out)
    have HK3 : Hid (Keep [b] w W3) := Lib.hid (by rw [hW3]; exact (((Keep.refl [b] w).alloc _).trans HK2.out).drewN _)
    have HB3 : Hid (W3.heap[w.heap.size]? = some (.cells #[.int .i8 0, .slice none 0 0, .string ⟨#[]⟩, .string ⟨#[]⟩, .string ⟨#[]⟩, .slice none 0 0, .string ⟨#[]⟩, .string ⟨#[]⟩, .bool false] 26 (0, 0))) := Lib.hid (by rw [hW3]; exact HB2.out)
    rw [← hW3]
    have hsz3 : w.heap.size < W3.heap.size := lt_of_block HB3.out
    have hbf : b ≠ w.heap.size := by omega
    clear hW3 HR2 HK2 HB2 HE2 hsz r2 HR1 HK1 HT HM r0 r1
    obtain ⟨x0, x1, x2, x3, x4, x5, x6, x7, x8, xf⟩ := nine HB3.out
    have r1 := HR3.out.c1
    have rf := HR3.out.free 1
    have hqi : IntKind.i64.wrap ((i : Int) + 1 + 1) = (i : Int) + 1 + 1 := by
      have := wrap_small (i + 1 + 1) (by omega) (by omega)
      push_cast at this ⊢
      exact this
    obtain ⟨R, hRR⟩ : ∃ R, kidsP (filterP s rem) s kd (s.size + 1) (i + 1 + 1) P1 [] = R := ⟨_, rfl⟩
    have HRR := Lib.hid hRR
    clear hRR
    go_wp2_with fail
    clear x0 x1 x2 x3 x4 x5 x6 x7 x8 xf r1 rf hqi hk0 hil
    go_loopg [] (s.size + 1) (fun k wr => KdRel b s kd rem w R k wr)
    case atStart =>
      refine ⟨i + 1 + 1, P1, [], .slice none 0 0, by omega, by omega, hl, Nat.zero_le _, ?_, ?_, KidsR.nil _ _ _, ?_, HRR.out⟩
      · exact setCell_at (w := W3.setCell ⟨w.heap.size, 0, none⟩ (.int .i8 kd)) ((setCell_ne _ hbf).trans HR3.out) 1 (.int .i64 ((i : Int) + 1 + 1))
      · exact (setCell_ne _ (Ne.symm hbf)).trans (setCell_at HB3.out 0 (.int .i8 kd))
      · exact (HK3.out.setCell _ _ (.inr (Nat.le_refl _))).setCell _ _ (.inl (by simp))
    case round =>
      obtain ⟨j, q, acc, kv, hj, hk, hq, hal, hRq, hBq, hKq, hKw, hst⟩ := hrel
      obtain ⟨k', rfl⟩ : ∃ k', gk = k' + 1 := ⟨gk - 1, by omega⟩
      have HKq := Lib.hid hKq
      have HBq := Lib.hid hBq
      have HKw := Lib.hid hKw
      have HRq := Lib.hid hRq
      obtain ⟨ka, kc, rfl⟩ := hKq.slice
      have hI := IH.out j q wr hj hq hRq (HE.out.keep hKw (by simp; exact hBb))
      have hbq : w.heap.size < wr.heap.size := lt_of_block hBq
      clear hKq hBq hKw hRq HR3 HK3 HB3 IH
      cases hf : filterP s rem j q with
      | error f =>
        rw [hf] at hI
        rw [kidsP_err hf] at hst
        have HI := Lib.hid hI
        clear hI hf
        subst hst
        go_wp2_with (go_at_call 28; refine HI.out.mono ?_; intro ev w4 hw; obtain ⟨k, a1, n1, c1, d0, v0, st, a2, n2, c2, fi, ru, dn, qe, rfl, hE4, hK4⟩ := FRet.err hw; clear hw; have HE4 := Lib.hid hE4; have HK4 := Lib.hid hK4; have HB4 := Lib.hid (hK4.heap HBq.out (by simp; omega)); have hs4 := hK4.size; clear hE4 hK4; obtain ⟨y0, y1, y2, y3, y4, y5, y6, y7, y8, yf⟩ := nine ((alloc_lt (.cells #[.int .i8 k, .slice a1 n1 c1, .string d0, .string v0, .string st, .slice a2 n2 c2, .string fi, .string ru, .bool dn] 26) (lt_of_block HB4.out)).trans HB4.out))
        refine bodyPost_ret (v := .tuple #[.agg #[.int .i8 kd, .slice ka acc.length kc, .string ⟨#[]⟩, .string ⟨#[]⟩, .string ⟨#[]⟩, .slice none 0 0, .string ⟨#[]⟩, .string ⟨#[]⟩, .bool false], .iface 55 (.pointer (some ⟨qe, 0, none⟩))]) (by simp [results, Tryz.results28, go_sem, y0, y1, y2, y3, y4, y5, y6, y7, y8]) rfl ?_
        rw [HRR.out]
        refine FRet.mkErr ((HE4.out.keep0 ((Keep.refl [] w4).alloc _)).far (setCells_keep (S := [w.heap.size]) (b := w.heap.size) (.inl (by simp)) [_, _, _, _, _, _, _, _, _] 0 _ (Keep.refl _ _)) ?_) ?_
        · intro x hx; rw [List.mem_singleton.1 hx]; exact .inl (Shp.mk ((alloc_lt _ (lt_of_block HB4.out)).trans HB4.out))
        · exact setCells_keep (b := w.heap.size) (.inr (Nat.le_refl _)) [_, _, _, _, _, _, _, _, _] 0 _ (show Keep [b] w _ from (HKw.out.trans HK4.out).alloc _)
      | ok t =>
        obtain ⟨g, j2, q2⟩ := t
        have hlt := filterP_ok hj hq hf
        rw [hf] at hI
        rw [kidsP_ok1 hf] at hst
        have HI := Lib.hid hI
        have HST := Lib.hid hst
        clear hI hf hst
        go_upto_region 19 with (go_at_call 28; refine HI.out.mono ?_; intro ev w4 hw; obtain ⟨a1, n1, c1, a2, n2, c2, rfl, hG4, hR4, hK4⟩ := FRet.ok hw; clear hw; have HG4 := Lib.hid hG4; have HR4 := Lib.hid hR4; have HK4 := Lib.hid hK4; have HB4 := Lib.hid (hK4.heap HBq.out (by simp; omega)); have hs4 := hK4.size; clear hG4 hR4 hK4)
        obtain ⟨W1, hW1⟩ : ∃ W1, W1 = w4.alloc (.cells #[.int .i8 g.it.kind, .slice a1 n1 c1, .string g.it.desc, .string g.it.value, .string g.it.start, .slice a2 n2 c2, .string g.it.fin, .string g.it.rule, .bool g.it.dn] 26) := ⟨_, rfl⟩
        have HM1 : Hid (W1.heap[w4.heap.size]? = some (.cells #[.int .i8 g.it.kind, .slice a1 n1 c1, .string g.it.desc, .string g.it.value, .string g.it.start, .slice a2 n2 c2, .string g.it.fin, .string g.it.rule, .bool g.it.dn] 26 (0, 0))) := Lib.hid (by rw [hW1]; exact alloc_at _ _)
        have hK14 : Keep [] w4 W1 := by rw [hW1]; exact (Keep.refl _ _).alloc _
        have HK14 := Lib.hid hK14
        have HR1 := Lib.hid (HR4.out.keep0 hK14)
        have HB1 := Lib.hid (hK14.heap HB4.out (by simp))
        have HG1 : Hid (FltR W1 wr.heap.size w4.heap.size g [.int .i8 g.it.kind, .slice a1 n1 c1, .string g.it.desc, .string g.it.value, .string g.it.start, .slice a2 n2 c2, .string g.it.fin, .string g.it.rule, .bool g.it.dn]) := Lib.hid (HG4.out.keep hK14 (by simp))
        have HKq1 := Lib.hid (HKq.out.keep (HK4.out.trans0 hK14) (by simp; omega))
        have HKw1 := Lib.hid ((HKw.out.trans HK4.out).trans0 hK14)
        have hs1 : W1.heap.size = w4.heap.size + 1 := by rw [hW1]; simp
        rw [← hW1]
        clear hW1 hK14
        obtain ⟨XS, hXS⟩ : ∃ XS, W1.ownsRow (w.heap.size + 1) 26 9 (.slice ka acc.length kc) acc.length XS := by
          obtain ⟨L, H, cs, h, _⟩ := HKq1.out
          exact ⟨_, h⟩
        have HO1 := Lib.hid hXS
        have hs1' : w4.heap.size < W1.heap.size := by omega
        have HS1 := Lib.hid hs1
        clear hXS hs1
        go_cut [] (fun wx => ∃ kv', Hid (Rd wx b s j2 q2) ∧ Hid (Keep [b] w wx) ∧ Hid (wx.heap[w.heap.size]? = some (.cells #[.int .i8 kd, kv', .string ⟨#[]⟩, .string ⟨#[]⟩, .string ⟨#[]⟩, .slice none 0 0, .string ⟨#[]⟩, .string ⟨#[]⟩, .bool false] 26 (0, 0))) ∧ Hid (KidsR wx (w.heap.size + 1) wx.heap.size (acc ++ [g]) kv'))
        case first =>
          obtain ⟨i0, hi0, hz0, hz1, hz2⟩ := info_parts Tryz.infoFlt
          have z1 := cell_of HB1.out 1
          have hbN : w.heap.size < W1.heap.size := lt_of_block HB1.out
          obtain ⟨m0, m1, m2, m3, m4, m5, m6, m7, m8, mf⟩ := nine HM1.out
          clear mf
          have hne : (Value.slice ka acc.length kc).ownBlock ≠ some w.heap.size := fun h => by have := (HO1.out.lt _ h).1; omega
          have hxl := HO1.out.1
          have HXL := Lib.hid hxl
          clear hxl
          have ix0 : (0 : Int) ≤ (acc.length : Int) := by omega
          have ix1 : (acc.length : Int) < (acc.length : Int) + 1 := by omega
          go_region_law ((refine step_append_lies _ (by rfl) _ _ _ (by rfl) (w.heap.size + 1) 26 i0 _ 9 144 (by kernel_rfl) hi0 hz0 hz1 hz2 rfl (by omega) (.slice ka acc.length kc) acc.length XS (by rfl) (by exact (HO1.out.alloc _)) ⟨W1.heap.size, 0, none⟩ 1 1 [.int .i8 0, .slice none 0 0, .string ⟨#[]⟩, .string ⟨#[]⟩, .string ⟨#[]⟩, .slice none 0 0, .string ⟨#[]⟩, .string ⟨#[]⟩, .bool false] (by rfl) (by rfl) (World.news_of_block (cs := #[.int .i8 0, .slice none 0 0, .string ⟨#[]⟩, .string ⟨#[]⟩, .string ⟨#[]⟩, .slice none 0 0, .string ⟨#[]⟩, .string ⟨#[]⟩, .bool false]) (t := 26) (fr := (0, 0)) (heap_alloc_new W1 _)) (by simp [Value.oneCell']) (by omega) (by unfold maxLen; omega) (by omega) (by simp; omega) (W1.heap.size + 1) (by simp) ?_; intro gg cap w1 hown1 hgrow hat hlt; have hgr : (W1.alloc (.cells #[.int .i8 0, .slice none 0 0, .string ⟨#[]⟩, .string ⟨#[]⟩, .string ⟨#[]⟩, .slice none 0 0, .string ⟨#[]⟩, .string ⟨#[]⟩, .bool false] 26)).grownBy w1 (Value.slice ka acc.length kc).ownBlock := ⟨hgrow.os, hgrow.tape, hgrow.output, hgrow.size, hgrow.block⟩; have HB2 := Lib.hid (((hgr.block w.heap.size (by simp; omega) (Ne.symm hne)).trans (heap_alloc_old W1 _ hbN)).trans HB1.out); have q1 := cell_of HB2.out 1; have qf1 := free_of HB2.out 1; have t0 : w1.cell? ⟨gg, acc.length * 9, none⟩ = some (.int .i8 0) := (owns_tail hown1 HXL.out).1 0 _ rfl; have t1 : w1.cell? ⟨gg, acc.length * 9 + 1, none⟩ = some (.slice none 0 0) := (owns_tail hown1 HXL.out).1 1 _ rfl; have t2 : w1.cell? ⟨gg, acc.length * 9 + 2, none⟩ = some (.string ⟨#[]⟩) := (owns_tail hown1 HXL.out).1 2 _ rfl; have t3 : w1.cell? ⟨gg, acc.length * 9 + 3, none⟩ = some (.string ⟨#[]⟩) := (owns_tail hown1 HXL.out).1 3 _ rfl; have t4 : w1.cell? ⟨gg, acc.length * 9 + 4, none⟩ = some (.string ⟨#[]⟩) := (owns_tail hown1 HXL.out).1 4 _ rfl; have t5 : w1.cell? ⟨gg, acc.length * 9 + 5, none⟩ = some (.slice none 0 0) := (owns_tail hown1 HXL.out).1 5 _ rfl; have t6 : w1.cell? ⟨gg, acc.length * 9 + 6, none⟩ = some (.string ⟨#[]⟩) := (owns_tail hown1 HXL.out).1 6 _ rfl; have t7 : w1.cell? ⟨gg, acc.length * 9 + 7, none⟩ = some (.string ⟨#[]⟩) := (owns_tail hown1 HXL.out).1 7 _ rfl; have t8 : w1.cell? ⟨gg, acc.length * 9 + 8, none⟩ = some (.bool false) := (owns_tail hown1 HXL.out).1 8 _ rfl; have tf : ∀ j, w1.frozen? ⟨gg, j, none⟩ = false := (owns_tail hown1 HXL.out).2; have hgN : gg ≠ w.heap.size := fun h => by { have := (hown1.lt gg rfl).1; omega }; have hgN2 : w.heap.size ≠ gg := Ne.symm hgN; have HG := Lib.hid hgr; have HO2 := Lib.hid hown1; have HAT := Lib.hid hat; clear hgr hown1 hgrow hat))
          all_goals (go_wp2_with fail; go_meet)
          all_goals first
            | (with_reducible refine kids_stepA hblt HR1.out HKw1.out HB1.out HKq1.out HG1.out hbq hs4 (Nat.le_of_lt hs1') HO1.out HG.out ?_ HO2.out HAT.out); rfl
            | (with_reducible refine kids_stepB hblt HR1.out HKw1.out HB1.out HKq1.out HG1.out hbq hs4 (Nat.le_of_lt hs1') HO1.out HG.out ?_ HO2.out HAT.out); rfl
        case rest =>
          obtain ⟨kv', HR5, HK5, HB5, HQ5⟩ := hcut
          obtain ⟨kb, kcc, rfl⟩ := HQ5.out.slice
          have HL : Hid ((acc ++ [g]).length = acc.length + 1) := Lib.hid (by rw [List.length_append, List.length_singleton])
          rw [HL.out] at HB5 HQ5
          obtain ⟨x0, x1, x2, x3, x4, x5, x6, x7, x8, xf⟩ := nine HB5.out
          clear xf HR1 HKw1 HB1 HKq1 HG1 HO1 HS1 HM1 HG4 HR4 HK4 HB4 HKq HKw HRq HBq HI HK14
          have hNw : w.heap.size < wc.heap.size := lt_of_block HB5.out
          obtain ⟨eb, HEB⟩ : ∃ eb : Bool, Hid (eb = true ↔ (kd = 2 ∨ peekB s j2 ≠ 40)) := ⟨decide (kd = 2 ∨ peekB s j2 ≠ 40), Lib.hid decide_eq_true_iff⟩
          have HPQ : Hid (∀ n, Calls Tryz.prog 47 #[.pointer (some ⟨b, 0, none⟩)] (wc.drewN n) fun e w' => e = .returned (.int .u8 (peekB s j2).toNat) ∧ ∃ m, w' = (wc.drewN n).drewN m) := Lib.hid fun n => peek_any b j2 q2 s _ (HR5.out.drewN _)
          have HPZ : Hid (Calls Tryz.prog 47 #[.pointer (some ⟨b, 0, none⟩)] wc fun e w' => e = .returned (.int .u8 (peekB s j2).toNat) ∧ ∃ m, w' = wc.drewN m) := Lib.hid (peek_any b j2 q2 s _ HR5.out)
          go_upto_region 20 with fail
          go_cut [101] (fun s101 wx => s101 = .bool eb ∧ ∃ n1, wx = wc.drewN n1)
          case first =>
            cases hk2 : decide (kd = 2) with
            | true =>
              have hkb : (kd == 2) = true := by rw [of_decide_eq_true hk2]; rfl
              have HE0 : Hid (eb = true) := Lib.hid (HEB.out.2 (.inl (of_decide_eq_true hk2)))
              clear hk2
              go_wp2_with fail
              go_meet
              exact ⟨by rw [HE0.out], 0, rfl⟩
            | false =>
              have hkb : (kd == 2) = false := by rw [beq_eq_false_iff_ne]; exact of_decide_eq_false hk2
              cases h40 : decide (peekB s j2 = 40) with
              | true =>
                have hpk : (((peekB s j2).toNat : Int) != 40) = false := by rw [of_decide_eq_true h40]; rfl
                have HE0 : Hid (eb = false) := Lib.hid (by
                  cases heb : eb with
                  | false => rfl
                  | true => rcases HEB.out.1 heb with h | h
                            · exact absurd h (of_decide_eq_false hk2)
                            · exact absurd (of_decide_eq_true h40) h)
                clear hk2 h40
                go_wp2_with (go_at_call 47; refine HPZ.out.mono ?_; rintro ev w' ⟨rfl, n, rfl⟩)
                go_meet
                exact ⟨by rw [HE0.out], _, rfl⟩
              | false =>
                have hpk : (((peekB s j2).toNat : Int) != 40) = true := by
                  rw [bne_iff_ne]; intro h; exact of_decide_eq_false h40 (UInt8.toNat_inj.1 (by show _ = 40; omega))
                have HE0 : Hid (eb = true) := Lib.hid (HEB.out.2 (.inr (of_decide_eq_false h40)))
                clear hk2 h40
                go_wp2_with (go_at_call 47; refine HPZ.out.mono ?_; rintro ev w' ⟨rfl, n, rfl⟩)
                go_meet
                exact ⟨by rw [HE0.out], _, rfl⟩
          case rest =>
            obtain ⟨rfl, n1, rfl⟩ := hcut
            cases eb with
            | false =>
              have HC : Hid (¬ (kd = 2 ∨ peekB s j2 ≠ 40)) := Lib.hid fun h => by have := HEB.out.2 h; cases this
              have HST2 : Hid (kidsP (filterP s rem) s kd k' j2 q2 (acc ++ [g]) = R) := Lib.hid ((if_neg HC.out).symm.trans HST.out)
              clear HST HEB
              go_wp2_with fail
              go_roundg k'
              case measure => omega
              case rel =>
                refine ⟨j2, q2, acc ++ [g], _, hlt.2.1, by omega, hlt.2.2.2, by rw [HL.out]; omega, HR5.out, HB5.out, HQ5.out.keep ((Keep.refl [] wc).drewN n1) (by simp), HK5.out.drewN _, HST2.out⟩
            | true =>
              have HST2 : Hid (Except.ok (acc ++ [g], j2, q2) = R) := Lib.hid ((if_pos (HEB.out.1 rfl)).symm.trans HST.out)
              have HX1 : Hid (closeP s (kidsF kd (kidsP (filterP s rem) s kd (s.size + 1) (i + 1 + 1) P1 [])) = match takeP s j2 41 with
                | .error e => .error e
                | .ok j => .ok (.mk ⟨kd, noText, noText, noText, [], noText, noText, false⟩ (acc ++ [g]), j, q2)) := Lib.hid (by rw [HRR.out, ← HST2.out]; rfl)
              obtain ⟨W5, hW5⟩ : ∃ W5, W5 = wc.drewN n1 := ⟨_, rfl⟩
              have HR6 : Hid (Rd W5 b s j2 q2) := Lib.hid (by rw [hW5]; exact HR5.out)
              have HK6 : Hid (Keep [b] w W5) := Lib.hid (by rw [hW5]; exact HK5.out.drewN _)
              have HB6 : Hid (W5.heap[w.heap.size]? = some (.cells #[.int .i8 kd, .slice kb (acc.length + 1) kcc, .string ⟨#[]⟩, .string ⟨#[]⟩, .string ⟨#[]⟩, .slice none 0 0, .string ⟨#[]⟩, .string ⟨#[]⟩, .bool false] 26 (0, 0))) := Lib.hid (by rw [hW5]; exact HB5.out)
              have HQ6 : Hid (KidsR W5 (w.heap.size + 1) W5.heap.size (acc ++ [g]) (.slice kb (acc.length + 1) kcc)) := Lib.hid (by rw [hW5]; exact HQ5.out.keep ((Keep.refl [] wc).drewN n1) (by simp))
              rw [← hW5]
              clear hW5 HR5 HK5 HB5 HQ5 HPQ HPZ HST HEB x0 x1 x2 x3 x4 x5 x6 x7 x8
              obtain ⟨x0, x1, x2, x3, x4, x5, x6, x7, x8, xf⟩ := nine HB6.out
              have hN6 := lt_of_block HB6.out
              have HTA := Lib.hid (fun W h => take_any b j2 q2 41 s W hsm h)
              go_upto_region 24 with fail
              cases hc : takeP s j2 41 with
              | error f =>
                have HX : Hid (closeP s (kidsF kd (kidsP (filterP s rem) s kd (s.size + 1) (i + 1 + 1) P1 [])) = .error f) := Lib.hid (by rw [HX1.out, hc])
                have HT5 := Lib.hid (show ∀ W, Rd W b s j2 q2 → Calls Tryz.prog 46 #[.pointer (some ⟨b, 0, none⟩), .int .u8 41] W (Went b s q2 W (.error f)) from fun W h => hc ▸ HTA.out W h)
                clear hc HTA HX1
                go_region_with (go_at_call 46; refine (HT5.out _ (by exact HR6.out)).mono ?_; intro ev w5 hw; obtain ⟨qe, rfl, hE5, hK5⟩ := Went.err hw; clear hw; obtain ⟨z0, z1, z2, z3, z4, z5, z6, z7, z8, zf⟩ := nine (hK5.heap (by exact HB6.out) (by simp; omega)); have HE5 := Lib.hid hE5; have HK7 := Lib.hid hK5; clear hE5 hK5)
                all_goals
                  go_wp2_with fail
                  refine bodyPost_ret (v := .tuple #[.agg #[.int .i8 kd, .slice kb (acc.length + 1) kcc, .string ⟨#[]⟩, .string ⟨#[]⟩, .string ⟨#[]⟩, .slice none 0 0, .string ⟨#[]⟩, .string ⟨#[]⟩, .bool false], .iface 55 (.pointer (some ⟨qe, 0, none⟩))]) (by simp [results, Tryz.results28, go_sem, z0, z1, z2, z3, z4, z5, z6, z7, z8]) rfl ?_
                  have hb1 := HK7.out.heap (by exact HB6.out) (by simp; omega)
                  rw [HX.out]
                  refine FRet.mkErr (HE5.out.far (setCells_keep (S := [w.heap.size]) (b := w.heap.size) (.inl (by simp)) [_, _, _, _, _, _, _, _, _] 0 w5 (Keep.refl _ _)) ?_) ?_
                  · intro x hx; rw [List.mem_singleton.1 hx]; exact .inl (Shp.mk hb1)
                  · exact setCells_keep (b := w.heap.size) (.inr (Nat.le_refl _)) [_, _, _, _, _, _, _, _, _] 0 w5 (show Keep [b] w w5 from (HK6.out.drewN 1).trans HK7.out)
              | ok j3 =>
                have HX : Hid (closeP s (kidsF kd (kidsP (filterP s rem) s kd (s.size + 1) (i + 1 + 1) P1 [])) = .ok (.mk ⟨kd, noText, noText, noText, [], noText, noText, false⟩ (acc ++ [g]), j3, q2)) := Lib.hid (by rw [HX1.out, hc])
                have HT5 := Lib.hid (show ∀ W, Rd W b s j2 q2 → Calls Tryz.prog 46 #[.pointer (some ⟨b, 0, none⟩), .int .u8 41] W (Went b s q2 W (.ok j3)) from fun W h => hc ▸ HTA.out W h)
                clear hc HTA HX1
                go_region_with (go_at_call 46; refine (HT5.out _ (by exact HR6.out)).mono ?_; intro ev w5 hw; obtain ⟨rfl, hR5, hK5⟩ := Went.ok hw; clear hw; obtain ⟨z0, z1, z2, z3, z4, z5, z6, z7, z8, zf⟩ := nine (hK5.heap (by exact HB6.out) (by simp; omega)); have HR7 := Lib.hid hR5; have HK7 := Lib.hid hK5; clear hR5 hK5)
                all_goals
                  go_wp2_with fail
                  refine bodyPost_ret (v := .tuple #[.agg #[.int .i8 kd, .slice kb (acc.length + 1) kcc, .string ⟨#[]⟩, .string ⟨#[]⟩, .string ⟨#[]⟩, .slice none 0 0, .string ⟨#[]⟩, .string ⟨#[]⟩, .bool false], .nilIface]) (by simp [results, Tryz.results28, go_sem, z0, z1, z2, z3, z4, z5, z6, z7, z8]) rfl ?_
                  have hKs : Keep [w.heap.size] w5 (w5.setCells w.heap.size 0 [.int .i8 kd, .slice kb (acc.length + 1) kcc, .string ⟨#[]⟩, .string ⟨#[]⟩, .string ⟨#[]⟩, .slice none 0 0, .string ⟨#[]⟩, .string ⟨#[]⟩, .bool false]) :=
                    setCells_keep (S := [w.heap.size]) (.inl (by simp)) _ 0 w5 (Keep.refl _ _)
                  have hKb : Keep [b] w (w5.setCells w.heap.size 0 [.int .i8 kd, .slice kb (acc.length + 1) kcc, .string ⟨#[]⟩, .string ⟨#[]⟩, .string ⟨#[]⟩, .slice none 0 0, .string ⟨#[]⟩, .string ⟨#[]⟩, .bool false]) :=
                    setCells_keep (b := w.heap.size) (.inr (Nat.le_refl _)) _ 0 w5 ((HK6.out.drewN 1).trans HK7.out)
                  rw [HX.out]
                  refine FRet.mkOk (kv := .slice kb (acc.length + 1) kcc) (mv := .slice none 0 0) (g := .mk ⟨kd, noText, noText, noText, [], noText, noText, false⟩ (acc ++ [g])) ?_ (HR7.out.keep hKs (by simp; omega)) hKb
                  have hq := (HQ6.out.keep (w' := w5) (S := [b]) (((Keep.refl [b] W5).drewN 1).trans HK7.out) (by simp; omega)).keep hKs (by simp)
                  exact ((hq.flt ⟨kd, noText, noText, noText, [], noText, noText, false⟩ rfl).mono (Nat.le_succ _) (Nat.le_trans HK7.out.size hKs.size))
end Go.Proofs.YtjmpcoedfoaebaaGreatDoor
