/- The program's reader of filters: an item. -/
import Derived.Test.YtjmpcoedfoaebaaGreatDoorFltb
open Go Go.RowKit
namespace Go.Proofs.YtjmpcoedfoaebaaGreatDoor

theorem FltR.leaf {w : World} {N hi : Nat} {it : Itm} {mv : Value} (h : w.ownsRow N 9 1 mv it.mids.length (it.mids.map Value.string)) (hh : w.heap.size ≤ hi) : FltR w N hi (.mk it []) (nineOf (.slice none 0 0) mv it) :=
  .mk N hi it [] (.slice none 0 0) mv (fun _ => 0) (fun _ => 0) (fun _ => []) h (fun k hk => Nat.lt_of_lt_of_le (h.lt k hk).2 hh) (World.ownsRow_nil _ _ _ _) (fun _ h => by cases h) (fun _ h => by cases h) (fun _ h => by cases h) (fun _ _ _ h => by cases h) (fun _ _ h => by cases h) (fun _ h => by cases h)
/-- Which of the three signs. -/
def manyI (c : UInt8) : Int := if c = 38 then 0 else if c = 124 then 1 else if c = 33 then 2 else -1
theorem index_many (c : UInt8) (w : World) : Calls Tryz.prog 49 #[.string ⟨#[38, 124, 33]⟩, .int .u8 c.toNat] w fun e w' => e = .returned (.int .i64 (manyI c)) ∧ w' = w := by
  have h : ∀ n : Fin 256, Lib.indexByte [38, 124, 33] (n.val : Int).toNat.toUInt8 = manyI n.val.toUInt8 := by decide +kernel
  have h2 := h ⟨c.toNat, c.toNat_lt⟩
  refine (Tryz.strings_IndexByte ⟨#[38, 124, 33]⟩ c.toNat w).mono ?_
  rintro e w' ⟨rfl, rfl⟩
  refine ⟨ret_int ?_, rfl⟩
  have h3 : c.toNat.toUInt8 = c := by simp
  rw [show manyI c = manyI c.toNat.toUInt8 by rw [h3]]
  exact h2
theorem manyI_none {c : UInt8} (h : manyP c = none) : manyI c = -1 := by
  unfold manyP at h; unfold manyI
  split at h
  · cases h
  · split at h
    · cases h
    · split at h
      · cases h
      · rename_i h1 h2 h3; rw [if_neg h1, if_neg h2, if_neg h3]
theorem manyI_some {c : UInt8} {k : Int} (h : manyP c = some k) : manyI c = k ∧ 0 ≤ k ∧ k ≤ 2 := by
  unfold manyP at h; unfold manyI
  split at h
  · rename_i h1; cases h; exact ⟨if_pos h1, by omega, by omega⟩
  · rename_i h1
    split at h
    · rename_i h2; cases h; exact ⟨by rw [if_neg h1, if_pos h2], by omega, by omega⟩
    · rename_i h2
      split at h
      · rename_i h3; cases h; exact ⟨by rw [if_neg h1, if_neg h2, if_pos h3], by omega, by omega⟩
      · cases h

set_option maxHeartbeats 2000000 in
set_option maxRecDepth 1000000 in
/-- An item. -/
theorem filter_item (B b : Nat) (s : ByteArray) (d : Int) (i p : Nat) (w : World) (hd : d ≤ 64) (hs : s.size ≤ 1048576) (hp : p ≤ 65536) (hR : Rd w b s i p) (hE : Env B w) (hBb : B ≤ b) (ht : takeP s i 40 = .ok (i + 1)) (hl : partsOf s (i + 1) p ≤ 65536) (hm : manyP (peekB s (i + 1)) = none) :
    Calls Tryz.prog 28 #[.pointer (some ⟨b, 0, none⟩), .int .i64 d] w (FRet b s w (closeP s (itemF (partsOf s (i + 1) p) (itemP s (i + 1))))) := by
  have hi1 : i + 1 ≤ s.size := (takeP_ok ht).2
  have HE := Lib.hid hE
  have HM := Lib.hid (manyI_none hm)
  have hBw := hE.size
  clear hE hm
  have hsm : s.size ≤ maxLen := by unfold maxLen; omega
  have hblt := hR.lt
  have hR0 : Rd (w.alloc (.cells #[.int .i8 0, .slice none 0 0, .string ⟨#[]⟩, .string ⟨#[]⟩, .string ⟨#[]⟩, .slice none 0 0, .string ⟨#[]⟩, .string ⟨#[]⟩, .bool false] 26)) b s i p := (alloc_lt _ hblt).trans hR
  have r1 := hR0.c1
  have hT := take_any b i p 40 s _ hsm hR0
  rw [ht] at hT
  have HT := Lib.hid hT
  have HPA : ∀ j W, Rd W b s j p → Calls Tryz.prog 47 #[.pointer (some ⟨b, 0, none⟩)] W fun e w' => e = .returned (.int .u8 (peekB s j).toNat) ∧ ∃ n, w' = W.drewN n := fun j W h => peek_any b j p s W h
  have HP := Lib.hid HPA
  obtain ⟨P1, hP1⟩ : ∃ P1, partsOf s (i + 1) p = P1 := ⟨_, rfl⟩
  rw [hP1] at hl ⊢
  have HP1 := Lib.hid hP1
  clear hT hR0 hR ht HPA hP1
  go_enter Tryz.func28, Tryz.ntmps28
  go_upto_if 24 with (first
    | (go_at_call 46; refine HT.out.mono ?_; intro ev w1 hw; obtain ⟨rfl, hR1, hK1⟩ := Went.ok hw; clear hw; have HR1 := Lib.hid hR1; have HK1 := Lib.hid hK1; clear hR1 hK1)
    | (go_at_call 47; refine (HP.out _ _ HR1.out).mono ?_; rintro ev w' ⟨rfl, n, rfl⟩))
  clear r1
  go_cut [] (fun wx => Hid (Rd wx b s (i + 1) P1) ∧ Hid (Keep [b] (w.alloc (.cells #[.int .i8 0, .slice none 0 0, .string ⟨#[]⟩, .string ⟨#[]⟩, .string ⟨#[]⟩, .slice none 0 0, .string ⟨#[]⟩, .string ⟨#[]⟩, .bool false] 26)) wx))
  case first =>
    cases h33 : decide (peekB s (i + 1) = 33) with
    | true =>
      have hpk : (((peekB s (i + 1)).toNat : Int) != 33) = false := by rw [of_decide_eq_true h33]; rfl
      have HX : Hid (P1 = p) := Lib.hid (by rw [← HP1.out]; unfold partsOf; rw [if_pos (of_decide_eq_true h33)])
      clear h33
      go_wp2_with fail
      go_meet
      rw [HX.out]
      exact ⟨Lib.hid HR1.out, Lib.hid (HK1.out.drewN _)⟩
    | false =>
      have hpk : (((peekB s (i + 1)).toNat : Int) != 33) = true := by
        rw [bne_iff_ne]; intro h; exact of_decide_eq_false h33 (UInt8.toNat_inj.1 (by show _ = 33; omega))
      have HX : Hid (P1 = p + 1) := Lib.hid (by rw [← HP1.out]; unfold partsOf; rw [if_neg (of_decide_eq_false h33)])
      clear h33
      have r2 := HR1.out.c2
      have rf := HR1.out.free 2
      go_wp2_with fail
      go_meet
      rw [HX.out]
      exact ⟨Lib.hid (setCell_at (w := w1.drewN n) HR1.out 2 _), Lib.hid ((HK1.out.drewN _).setCell _ _ (.inl (by simp)))⟩
  case rest =>
    obtain ⟨HR2, HK2⟩ := hcut
    have hb2 := HK2.out.heap (alloc_at w _) (by simp; omega)
    have HB2 := Lib.hid hb2
    have HE2 := Lib.hid (HE.out.keep (((Keep.refl [b] w).alloc _).trans HK2.out) (by simp; omega))
    have hsz : w.heap.size < wc.heap.size := lt_of_block hb2
    have r2 := HR2.out.c2
    clear hb2
    go_wp2_with (go_at_call 49; refine (index_many _ _).mono ?_; rintro ev W2 ⟨rfl, rfl⟩)
    rw [HM.out]
    go_quiet (fail)
    obtain ⟨W3, hW3⟩ : ∃ W3, W3 = W2.drewN nq := ⟨_, rfl⟩
    have HR3 : Hid (Rd W3 b s (i + 1) P1) := Lib.hid (by rw [hW3]; exact HR2.out)
    have HK3 : Hid (Keep [b] w W3) := Lib.hid (by rw [hW3]; exact (((Keep.refl [b] w).alloc _).trans HK2.out).drewN _)
    have HB3 : Hid (W3.heap[w.heap.size]? = some (.cells #[.int .i8 0, .slice none 0 0, .string ⟨#[]⟩, .string ⟨#[]⟩, .string ⟨#[]⟩, .slice none 0 0, .string ⟨#[]⟩, .string ⟨#[]⟩, .bool false] 26 (0, 0))) := Lib.hid (by rw [hW3]; exact HB2.out)
    have HE3 : Hid (Env B W3) := Lib.hid (by rw [hW3]; exact HE2.out.drewN _)
    rw [← hW3]
    have hsz3 : w.heap.size < W3.heap.size := lt_of_block HB3.out
    have hbf : b ≠ w.heap.size := by omega
    clear hW3 HR2 HK2 HB2 HE2 hsz r2 HR1 HK1 HT HM
    have hI := item_any B b w.heap.size (i + 1) P1 s W3 hs hi1 hbf HR3.out HE3.out hBb hBw HB3.out
    have HIA := Lib.hid hI
    clear hI
    cases hit : itemP s (i + 1) with
    | error f =>
      have hI := HIA.out
      rw [hit] at hI
      have HI := Lib.hid hI
      have HX : Hid (closeP s (itemF P1 (itemP s (i + 1))) = .error f) := Lib.hid (by rw [hit]; rfl)
      clear hit hI HIA
      go_wp2_with (go_at_call 50; refine HI.out.mono ?_; intro ev w4 hw; obtain ⟨v, rfl, hE4, hK4, k, a1, n1, c1, d0, v0, st, a2, n2, c2, fi, ru, dn, hb4⟩ := hw; obtain ⟨qe, rfl, hq⟩ := hE4; obtain ⟨y0, y1, y2, y3, y4, y5, y6, y7, y8, yf⟩ := nine hb4; have HB4 := Lib.hid hb4; have HE4 : Hid (ErrAt w4 (.iface 55 (.pointer (some ⟨qe, 0, none⟩))) s f) := Lib.hid ⟨qe, rfl, hq⟩; have HK4 := Lib.hid hK4; clear hb4 hq hK4)
      refine bodyPost_ret (v := .tuple #[.agg #[.int .i8 k, .slice a1 n1 c1, .string d0, .string v0, .string st, .slice a2 n2 c2, .string fi, .string ru, .bool dn], .iface 55 (.pointer (some ⟨qe, 0, none⟩))]) (by simp [results, Tryz.results28, go_sem, y0, y1, y2, y3, y4, y5, y6, y7, y8]) rfl ?_
      rw [HX.out]
      refine FRet.mkErr (HE4.out.far (setCells_keep (S := [w.heap.size]) (b := w.heap.size) (.inl (by simp)) [_, _, _, _, _, _, _, _, _] 0 w4 (Keep.refl _ _)) ?_) ?_
      · intro x hx; rw [List.mem_singleton.1 hx]; exact .inl (Shp.mk HB4.out)
      · exact setCells_keep (b := w.heap.size) (.inr (Nat.le_refl _)) [_, _, _, _, _, _, _, _, _] 0 w4 (show Keep [b] w w4 from HK3.out.transTo HK4.out (by simp))
    | ok t =>
      obtain ⟨it, j⟩ := t
      have hj := itemP_le hit
      have hI := HIA.out
      rw [hit] at hI
      have HI := Lib.hid hI
      have HTA := Lib.hid (fun W h => take_any b j P1 41 s W hsm h)
      have HX1 : Hid (closeP s (itemF P1 (itemP s (i + 1))) = match takeP s j 41 with
        | .error e => .error e
        | .ok j => .ok (.mk it [], j, P1)) := Lib.hid (by rw [hit]; rfl)
      clear hit hI HIA
      go_wp2_with (go_at_call 50; refine HI.out.mono ?_; intro ev w4 hw; obtain ⟨rfl, hR4, ⟨mv, hb4, hown⟩, hK4⟩ := hw; obtain ⟨ma, mc, rfl⟩ := owns_slice hown; obtain ⟨y0, y1, y2, y3, y4, y5, y6, y7, y8, yf⟩ := nine hb4; have HB4 := Lib.hid hb4; have HR4 := Lib.hid hR4; have HK4 := Lib.hid hK4; have HO4 := Lib.hid hown; clear hb4 hR4 hK4 hown)
      have HKa : Hid (Keep [b] w w4) := Lib.hid (HK3.out.transTo HK4.out (by simp))
      cases hc : takeP s j 41 with
      | error f =>
        have HX : Hid (closeP s (itemF P1 (itemP s (i + 1))) = .error f) := Lib.hid (by rw [HX1.out, hc])
        have HT5 := Lib.hid (show ∀ W, Rd W b s j P1 → Calls Tryz.prog 46 #[.pointer (some ⟨b, 0, none⟩), .int .u8 41] W (Went b s P1 W (.error f)) from fun W h => hc ▸ HTA.out W h)
        clear hc HTA
        go_region_with (go_at_call 46; refine (HT5.out _ (by exact HR4.out)).mono ?_; intro ev w5 hw; obtain ⟨qe, rfl, hE5, hK5⟩ := Went.err hw; clear hw; obtain ⟨z0, z1, z2, z3, z4, z5, z6, z7, z8, zf⟩ := nine (hK5.heap (by exact HB4.out) (by simp; omega)); have HE5 := Lib.hid hE5; have HK5 := Lib.hid hK5; clear hE5 hK5)
        all_goals
          go_wp2_with fail
          refine bodyPost_ret (v := .tuple #[.agg #[.int .i8 it.kind, .slice none 0 0, .string it.desc, .string it.value, .string it.start, .slice ma it.mids.length mc, .string it.fin, .string it.rule, .bool it.dn], .iface 55 (.pointer (some ⟨qe, 0, none⟩))]) (by simp [results, Tryz.results28, go_sem, z0, z1, z2, z3, z4, z5, z6, z7, z8]) rfl ?_
          have hb1 := HK5.out.heap (by exact HB4.out) (by simp; omega)
          rw [HX.out]
          refine FRet.mkErr (HE5.out.far (setCells_keep (S := [w.heap.size]) (b := w.heap.size) (.inl (by simp)) [_, _, _, _, _, _, _, _, _] 0 w5 (Keep.refl _ _)) ?_) ?_
          · intro x hx; rw [List.mem_singleton.1 hx]; exact .inl (Shp.mk hb1)
          · exact setCells_keep (b := w.heap.size) (.inr (Nat.le_refl _)) [_, _, _, _, _, _, _, _, _] 0 w5 (show Keep [b] w w5 from (HKa.out.drewN 1).trans HK5.out)
      | ok j2 =>
        have HX : Hid (closeP s (itemF P1 (itemP s (i + 1))) = .ok (.mk it [], j2, P1)) := Lib.hid (by rw [HX1.out, hc])
        have HT5 := Lib.hid (show ∀ W, Rd W b s j P1 → Calls Tryz.prog 46 #[.pointer (some ⟨b, 0, none⟩), .int .u8 41] W (Went b s P1 W (.ok j2)) from fun W h => hc ▸ HTA.out W h)
        clear hc HTA
        go_region_with (go_at_call 46; refine (HT5.out _ (by exact HR4.out)).mono ?_; intro ev w5 hw; obtain ⟨rfl, hR5, hK5⟩ := Went.ok hw; clear hw; obtain ⟨z0, z1, z2, z3, z4, z5, z6, z7, z8, zf⟩ := nine (hK5.heap (by exact HB4.out) (by simp; omega)); have HR5 := Lib.hid hR5; have HK5 := Lib.hid hK5; clear hR5 hK5)
        all_goals
          go_wp2_with fail
          refine bodyPost_ret (v := .tuple #[.agg #[.int .i8 it.kind, .slice none 0 0, .string it.desc, .string it.value, .string it.start, .slice ma it.mids.length mc, .string it.fin, .string it.rule, .bool it.dn], .nilIface]) (by simp [results, Tryz.results28, go_sem, z0, z1, z2, z3, z4, z5, z6, z7, z8]) rfl ?_
          have hKs : Keep [w.heap.size] w5 (w5.setCells w.heap.size 0 [.int .i8 it.kind, .slice none 0 0, .string it.desc, .string it.value, .string it.start, .slice ma it.mids.length mc, .string it.fin, .string it.rule, .bool it.dn]) :=
            setCells_keep (S := [w.heap.size]) (b := w.heap.size) (.inl (by simp)) _ 0 w5 (Keep.refl _ _)
          have hKb : Keep [b] w (w5.setCells w.heap.size 0 [.int .i8 it.kind, .slice none 0 0, .string it.desc, .string it.value, .string it.start, .slice ma it.mids.length mc, .string it.fin, .string it.rule, .bool it.dn]) :=
            setCells_keep (b := w.heap.size) (.inr (Nat.le_refl _)) _ 0 w5 ((HKa.out.drewN 1).trans HK5.out)
          rw [HX.out]
          refine FRet.mkOk (kv := .slice none 0 0) (mv := .slice ma it.mids.length mc) (g := .mk it []) (FltR.leaf ?_ (Nat.le_refl _)) (HR5.out.keep hKs (by simp; omega)) hKb
          exact owns_mono (owns_keep2 (owns_keep2 (w' := w5) (S := [b]) (w := w4.drewN 1) HO4.out HK5.out (fun g hg => by have := (HO4.out.lt g hg).1; simp; omega)) hKs (fun g hg => by have := (HO4.out.lt g hg).1; simp; omega)) (Nat.le_of_lt hsz3)
end Go.Proofs.YtjmpcoedfoaebaaGreatDoor
