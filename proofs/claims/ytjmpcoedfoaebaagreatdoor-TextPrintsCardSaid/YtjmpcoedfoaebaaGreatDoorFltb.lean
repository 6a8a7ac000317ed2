/- The program's reader of filters: no opening sign, too deep, too many parts. -/
import Derived.Test.YtjmpcoedfoaebaaGreatDoorFltx
import Derived.Deep.RegionWith
open Go Go.RowKit
namespace Go.Proofs.YtjmpcoedfoaebaaGreatDoor
def zeroF : Array Value := #[.int .i8 0, .slice none 0 0, .string ⟨#[]⟩, .string ⟨#[]⟩, .string ⟨#[]⟩, .slice none 0 0, .string ⟨#[]⟩, .string ⟨#[]⟩, .bool false]

set_option maxHeartbeats 1000000 in
set_option maxRecDepth 1000000 in
/-- No opening sign. -/
theorem filter_shut (b : Nat) (s : ByteArray) (d : Int) (i p : Nat) (w : World) (f : Int × Nat) (hs : s.size ≤ 1048576) (hR : Rd w b s i p) (ht : takeP s i 40 = .error f) :
    Calls Tryz.prog 28 #[.pointer (some ⟨b, 0, none⟩), .int .i64 d] w (FRet b s w (.error f)) := by
  have hsm : s.size ≤ maxLen := by unfold maxLen; omega
  have hblt := hR.lt
  have hR0 : Rd (w.alloc (.cells #[.int .i8 0, .slice none 0 0, .string ⟨#[]⟩, .string ⟨#[]⟩, .string ⟨#[]⟩, .slice none 0 0, .string ⟨#[]⟩, .string ⟨#[]⟩, .bool false] 26)) b s i p := (alloc_lt _ hblt).trans hR
  have r1 := hR0.c1
  have hT := take_any b i p 40 s _ hsm hR0
  rw [ht] at hT
  have HT := Lib.hid hT
  have HR0 := Lib.hid hR0
  clear hT hR0 hR ht
  go_enter Tryz.func28, Tryz.ntmps28
  go_wp2_with fail
  refine HT.out.mono ?_
  intro ev w1 hw
  obtain ⟨qe, rfl, hE1, hK1⟩ := Went.err hw
  clear hw
  obtain ⟨x0, x1, x2, x3, x4, x5, x6, x7, x8, xf⟩ := nine (hK1.heap (alloc_at w _) (by simp; omega))
  have HE1 := Lib.hid hE1
  have HK1 := Lib.hid hK1
  clear hE1 hK1
  go_wp2_with fail
  refine bodyPost_ret (v := .tuple #[.agg #[.int .i8 0, .slice none 0 0, .string ⟨#[]⟩, .string ⟨#[]⟩, .string ⟨#[]⟩, .slice none 0 0, .string ⟨#[]⟩, .string ⟨#[]⟩, .bool false], .iface 55 (.pointer (some ⟨qe, 0, none⟩))]) (by simp [results, Tryz.results28, go_sem, x0, x1, x2, x3, x4, x5, x6, x7, x8]) rfl ?_
  have hb1 := HK1.out.heap (alloc_at w _) (by simp; omega)
  refine FRet.mkErr (HE1.out.far (setCells_keep (S := [w.heap.size]) (.inl (by simp)) [_, _, _, _, _, _, _, _, _] 0 w1 (Keep.refl _ _)) ?_) ?_
  · intro x hx; rw [List.mem_singleton.1 hx]; exact .inl (Shp.mk hb1)
  · exact setCells_keep (b := w.heap.size) (.inr (Nat.le_refl _)) [_, _, _, _, _, _, _, _, _] 0 w1 (((Keep.refl [b] w).alloc _).trans HK1.out)


set_option maxHeartbeats 1000000 in
set_option maxRecDepth 1000000 in
/-- Too deep. -/
theorem filter_deep (b : Nat) (s : ByteArray) (i p : Nat) (w : World) (hs : s.size ≤ 1048576) (hp : p ≤ 65536) (hR : Rd w b s i p) (ht : takeP s i 40 = .ok (i + 1)) :
    Calls Tryz.prog 28 #[.pointer (some ⟨b, 0, none⟩), .int .i64 65] w (FRet b s w (.error (91, i))) := by
  have hsm : s.size ≤ maxLen := by unfold maxLen; omega
  have hblt := hR.lt
  have hR0 : Rd (w.alloc (.cells #[.int .i8 0, .slice none 0 0, .string ⟨#[]⟩, .string ⟨#[]⟩, .string ⟨#[]⟩, .slice none 0 0, .string ⟨#[]⟩, .string ⟨#[]⟩, .bool false] 26)) b s i p := (alloc_lt _ hblt).trans hR
  have r1 := hR0.c1
  have hT := take_any b i p 40 s _ hsm hR0
  rw [ht] at hT
  have HT := Lib.hid hT
  have HPA : ∀ j W, Rd W b s j p → Calls Tryz.prog 47 #[.pointer (some ⟨b, 0, none⟩)] W fun e w' => e = .returned (.int .u8 (peekB s j).toNat) ∧ ∃ n, w' = W.drewN n := fun j W h => peek_any b j p s W h
  have HP := Lib.hid HPA
  clear hT hR0 hR ht HPA
  go_enter Tryz.func28, Tryz.ntmps28
  go_upto_if 24 with (first
    | (go_at_call 46; refine HT.out.mono ?_; intro ev w1 hw; obtain ⟨rfl, hR1, hK1⟩ := Went.ok hw; clear hw; have HR1 := Lib.hid hR1; have HK1 := Lib.hid hK1; clear hR1 hK1)
    | (go_at_call 47; refine (HP.out _ _ HR1.out).mono ?_; rintro ev w' ⟨rfl, n, rfl⟩))
  clear r1
  go_cut [] (fun wx => Hid (Rd wx b s (i + 1) (partsOf s (i + 1) p)) ∧ Hid (Keep [b] (w.alloc (.cells #[.int .i8 0, .slice none 0 0, .string ⟨#[]⟩, .string ⟨#[]⟩, .string ⟨#[]⟩, .slice none 0 0, .string ⟨#[]⟩, .string ⟨#[]⟩, .bool false] 26)) wx))
  case first =>
    cases h33 : decide (peekB s (i + 1) = 33) with
    | true =>
      have hpk : (((peekB s (i + 1)).toNat : Int) != 33) = false := by rw [of_decide_eq_true h33]; rfl
      have HX : Hid (partsOf s (i + 1) p = p) := Lib.hid (by unfold partsOf; rw [if_pos (of_decide_eq_true h33)])
      clear h33
      go_wp2_with fail
      go_meet
      rw [HX.out]
      exact ⟨Lib.hid HR1.out, Lib.hid (HK1.out.drewN _)⟩
    | false =>
      have hpk : (((peekB s (i + 1)).toNat : Int) != 33) = true := by
        rw [bne_iff_ne]; intro h; exact of_decide_eq_false h33 (UInt8.toNat_inj.1 (by show _ = 33; omega))
      have HX : Hid (partsOf s (i + 1) p = p + 1) := Lib.hid (by unfold partsOf; rw [if_neg (of_decide_eq_false h33)])
      clear h33
      have r2 := HR1.out.c2
      have rf := HR1.out.free 2
      go_wp2_with fail
      go_meet
      rw [HX.out]
      exact ⟨Lib.hid (setCell_at (w := w1.drewN n) HR1.out 2 _), Lib.hid ((HK1.out.drewN _).setCell _ _ (.inl (by simp)))⟩
  case rest =>
    obtain ⟨HR2, HK2⟩ := hcut
    have hb2 := HK2.out.heap (alloc_at w _) (by simp; omega)
    obtain ⟨x0, x1, x2, x3, x4, x5, x6, x7, x8, xf⟩ := nine hb2
    have HB2 := Lib.hid hb2
    clear hb2
    go_wp2_with fail
    go_region_with (go_at_call 48; refine (fault_any b (i + 1) _ i 91 s _ hsm (by exact HR2.out)).mono ?_; rintro ev w3 ⟨v, rfl, hE3, hK3⟩; obtain ⟨y0, y1, y2, y3, y4, y5, y6, y7, y8, yf⟩ := nine (hK3.heap (by exact HB2.out) (by simp)); have HE3 := Lib.hid hE3; have HK3 := Lib.hid hK3; clear hE3 hK3)
    all_goals
      go_wp2_with fail
      refine bodyPost_ret (v := .tuple #[.agg #[.int .i8 0, .slice none 0 0, .string ⟨#[]⟩, .string ⟨#[]⟩, .string ⟨#[]⟩, .slice none 0 0, .string ⟨#[]⟩, .string ⟨#[]⟩, .bool false], v]) (by simp [results, Tryz.results28, go_sem, y0, y1, y2, y3, y4, y5, y6, y7, y8]) rfl ?_
      have hb1 := HK3.out.heap (by exact HB2.out) (by simp)
      refine FRet.mkErr (HE3.out.far (setCells_keep (S := [w.heap.size]) (.inl (by simp)) [_, _, _, _, _, _, _, _, _] 0 w3 (Keep.refl _ _)) ?_) ?_
      · intro x hx; rw [List.mem_singleton.1 hx]; exact .inl (Shp.mk hb1)
      · exact setCells_keep (b := w.heap.size) (.inr (Nat.le_refl _)) [_, _, _, _, _, _, _, _, _] 0 w3 (((((Keep.refl [b] w).alloc _).trans HK2.out).drewN 1).trans0 HK3.out)


set_option maxHeartbeats 1000000 in
set_option maxRecDepth 1000000 in
/-- Too many parts. -/
theorem filter_long (b : Nat) (s : ByteArray) (d : Int) (i p : Nat) (w : World) (hd : d ≤ 64) (hs : s.size ≤ 1048576) (hp : p ≤ 65536) (hR : Rd w b s i p) (ht : takeP s i 40 = .ok (i + 1)) (hl : 65536 < partsOf s (i + 1) p) :
    Calls Tryz.prog 28 #[.pointer (some ⟨b, 0, none⟩), .int .i64 d] w (FRet b s w (.error (3, i))) := by
  have hsm : s.size ≤ maxLen := by unfold maxLen; omega
  have hblt := hR.lt
  have hR0 : Rd (w.alloc (.cells #[.int .i8 0, .slice none 0 0, .string ⟨#[]⟩, .string ⟨#[]⟩, .string ⟨#[]⟩, .slice none 0 0, .string ⟨#[]⟩, .string ⟨#[]⟩, .bool false] 26)) b s i p := (alloc_lt _ hblt).trans hR
  have r1 := hR0.c1
  have hT := take_any b i p 40 s _ hsm hR0
  rw [ht] at hT
  have HT := Lib.hid hT
  have HPA : ∀ j W, Rd W b s j p → Calls Tryz.prog 47 #[.pointer (some ⟨b, 0, none⟩)] W fun e w' => e = .returned (.int .u8 (peekB s j).toNat) ∧ ∃ n, w' = W.drewN n := fun j W h => peek_any b j p s W h
  have HP := Lib.hid HPA
  obtain ⟨P1, hP1⟩ : ∃ P1, partsOf s (i + 1) p = P1 := ⟨_, rfl⟩
  rw [hP1] at hl
  have HP1 := Lib.hid hP1
  clear hT hR0 hR ht HPA hP1
  go_enter Tryz.func28, Tryz.ntmps28
  go_upto_if 24 with (first
    | (go_at_call 46; refine HT.out.mono ?_; intro ev w1 hw; obtain ⟨rfl, hR1, hK1⟩ := Went.ok hw; clear hw; have HR1 := Lib.hid hR1; have HK1 := Lib.hid hK1; clear hR1 hK1)
    | (go_at_call 47; refine (HP.out _ _ HR1.out).mono ?_; rintro ev w' ⟨rfl, n, rfl⟩))
  clear r1
  go_cut [] (fun wx => Hid (Rd wx b s (i + 1) P1) ∧ Hid (Keep [b] (w.alloc (.cells #[.int .i8 0, .slice none 0 0, .string ⟨#[]⟩, .string ⟨#[]⟩, .string ⟨#[]⟩, .slice none 0 0, .string ⟨#[]⟩, .string ⟨#[]⟩, .bool false] 26)) wx))
  case first =>
    cases h33 : decide (peekB s (i + 1) = 33) with
    | true =>
      have hpk : (((peekB s (i + 1)).toNat : Int) != 33) = false := by rw [of_decide_eq_true h33]; rfl
      have HX : Hid (P1 = p) := Lib.hid (by rw [← HP1.out]; unfold partsOf; rw [if_pos (of_decide_eq_true h33)])
      clear h33
      go_wp2_with fail
      go_meet
      rw [HX.out]
      exact ⟨Lib.hid HR1.out, Lib.hid (HK1.out.drewN _)⟩
    | false =>
      have hpk : (((peekB s (i + 1)).toNat : Int) != 33) = true := by
        rw [bne_iff_ne]; intro h; exact of_decide_eq_false h33 (UInt8.toNat_inj.1 (by show _ = 33; omega))
      have HX : Hid (P1 = p + 1) := Lib.hid (by rw [← HP1.out]; unfold partsOf; rw [if_neg (of_decide_eq_false h33)])
      clear h33
      have r2 := HR1.out.c2
      have rf := HR1.out.free 2
      go_wp2_with fail
      go_meet
      rw [HX.out]
      exact ⟨Lib.hid (setCell_at (w := w1.drewN n) HR1.out 2 _), Lib.hid ((HK1.out.drewN _).setCell _ _ (.inl (by simp)))⟩
  case rest =>
    obtain ⟨HR2, HK2⟩ := hcut
    have hb2 := HK2.out.heap (alloc_at w _) (by simp; omega)
    obtain ⟨x0, x1, x2, x3, x4, x5, x6, x7, x8, xf⟩ := nine hb2
    have HB2 := Lib.hid hb2
    have r2 := HR2.out.c2
    clear hb2
    go_wp2_with fail
    go_region_with (go_at_call 48; refine (fault_any b (i + 1) _ i 3 s _ hsm (by exact HR2.out)).mono ?_; rintro ev w3 ⟨v, rfl, hE3, hK3⟩; obtain ⟨y0, y1, y2, y3, y4, y5, y6, y7, y8, yf⟩ := nine (hK3.heap (by exact HB2.out) (by simp)); have HE3 := Lib.hid hE3; have HK3 := Lib.hid hK3; clear hE3 hK3)
    all_goals
      go_wp2_with fail
      refine bodyPost_ret (v := .tuple #[.agg #[.int .i8 0, .slice none 0 0, .string ⟨#[]⟩, .string ⟨#[]⟩, .string ⟨#[]⟩, .slice none 0 0, .string ⟨#[]⟩, .string ⟨#[]⟩, .bool false], v]) (by simp [results, Tryz.results28, go_sem, y0, y1, y2, y3, y4, y5, y6, y7, y8]) rfl ?_
      have hb1 := HK3.out.heap (by exact HB2.out) (by simp)
      refine FRet.mkErr (HE3.out.far (setCells_keep (S := [w.heap.size]) (.inl (by simp)) [_, _, _, _, _, _, _, _, _] 0 w3 (Keep.refl _ _)) ?_) ?_
      · intro x hx; rw [List.mem_singleton.1 hx]; exact .inl (Shp.mk hb1)
      · exact setCells_keep (b := w.heap.size) (.inr (Nat.le_refl _)) [_, _, _, _, _, _, _, _, _] 0 w3 (((((Keep.refl [b] w).alloc _).trans HK2.out).drewN 1).trans0 HK3.out)
end Go.Proofs.YtjmpcoedfoaebaaGreatDoor
