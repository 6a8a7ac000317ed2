/- filter.Check. -/
import Derived.Test.YtjmpcoedfoaebaaGreatDoorFpg
import Derived.Laws.EntriesVeiled
import Derived.RegionTactic
open Go Go.RowKit
namespace Go.Proofs.YtjmpcoedfoaebaaGreatDoor

/-- Check, plain. -/
def checkR (g : Flt) : Int × Nat × Nat := if (checkP 64 g 0 0).1 = 0 then checkP 64 g 0 0 else ((checkP 64 g 0 0).1, 0, 0)
/-- What Check has done. -/
def ChR (w : World) (r : Int × Nat × Nat) (e : Ending) (w' : World) : Prop := e = .returned (.tuple #[.int .i64 r.1, .int .i64 r.2.1, .int .i64 r.2.2]) ∧ Keep [] w w'

set_option maxHeartbeats 2000000 in
set_option maxRecDepth 100000 in
theorem check_any (hRight : RightOk) (B H : Nat) (g : Flt) (vs : List Value) (w : World) (hF : FltD w H g vs) (hE : Env B w) (hH : H ≤ w.heap.size) : Calls Tryz.prog 24 #[.agg vs.toArray] w (ChR w (checkR g)) := by
  have hBw := hE.size
  obtain ⟨a1, c1, a2, c2, hvs⟩ := hF.nine
  obtain ⟨R, hR⟩ : ∃ R, checkR g = R := ⟨_, rfl⟩
  have HR := Lib.hid hR
  rw [hR]
  have HF := Lib.hid hF
  have HE := Lib.hid hE
  have HV := Lib.hid hvs
  clear hF hE hR
  rw [hvs]
  clear hvs
  show Calls Tryz.prog 24 #[.agg #[.int .i8 g.it.kind, .slice a1 g.kids.length c1, .string g.it.desc, .string g.it.value, .string g.it.start, .slice a2 g.it.mids.length c2, .string g.it.fin, .string g.it.rule, .bool g.it.dn]] w _
  go_enter Tryz.func24, Tryz.ntmps24
  go_upto_region 3 with fail
  obtain ⟨W, hW⟩ : ∃ W, W = ((((w.alloc (.cells #[.int .i8 g.it.kind, .slice a1 g.kids.length c1, .string g.it.desc, .string g.it.value, .string g.it.start, .slice a2 g.it.mids.length c2, .string g.it.fin, .string g.it.rule, .bool g.it.dn] 26)).alloc (.cells #[.int .i64 0] 3)).alloc (.cells #[.int .i64 0] 3)).alloc (.cells #[(.func (.func 38) #[] #[.pointer (some ⟨w.heap.size + 1 + 1, 0, none⟩), .pointer (some ⟨w.heap.size + 1, 0, none⟩), .pointer (some ⟨w.heap.size + 1 + 1 + 1, 0, none⟩)])] 73)) := ⟨_, rfl⟩
  rw [← hW]
  have hb0 : W.heap[w.heap.size]? = some (.cells #[.int .i8 g.it.kind, .slice a1 g.kids.length c1, .string g.it.desc, .string g.it.value, .string g.it.start, .slice a2 g.it.mids.length c2, .string g.it.fin, .string g.it.rule, .bool g.it.dn] 26 (0, 0)) := by
    rw [hW, alloc_lt _ (by simp; omega), alloc_lt _ (by simp; omega), alloc_lt _ (by simp)]; exact alloc_at w _
  have hC : CkAt W (w.heap.size + 1) (w.heap.size + 1 + 1) (w.heap.size + 1 + 1 + 1) 0 0 := by
    rw [hW]
    refine ⟨?_, ?_, alloc_is2 _ _ _ (by simp)⟩
    · rw [alloc_lt _ (by simp), alloc_lt _ (by simp)]; exact alloc_is2 _ _ _ (by simp)
    · rw [alloc_lt _ (by simp)]; exact alloc_is2 _ _ _ (by simp)
  have hK : Keep [] w W := by rw [hW]; exact ((((Keep.refl [] w).alloc _).alloc _).alloc _).alloc _
  have hA := check_walk hRight B H (w.heap.size + 1) (w.heap.size + 1 + 1) (w.heap.size + 1 + 1 + 1) (by omega) (by omega) (by omega) (by omega) (by omega) (by omega) (by omega) 64 0 0 0 g _ W (Nat.le_refl _) rfl (by omega) (by omega) (HV.out ▸ HF.out.keep hK hH (by simp)) hC (HE.out.keep0 hK) (Nat.le_trans hH hK.size)
  have HA : Hid (Calls Tryz.prog 38 #[.agg #[.int .i8 g.it.kind, .slice a1 g.kids.length c1, .string g.it.desc, .string g.it.value, .string g.it.start, .slice a2 g.it.mids.length c2, .string g.it.fin, .string g.it.rule, .bool g.it.dn], .int .i64 0, .pointer (some ⟨w.heap.size + 1 + 1, 0, none⟩), .pointer (some ⟨w.heap.size + 1, 0, none⟩), .pointer (some ⟨w.heap.size + 1 + 1 + 1, 0, none⟩)] W (CkR (w.heap.size + 1) (w.heap.size + 1 + 1) (w.heap.size + 1 + 1 + 1) W (checkP 64 g 0 0))) := Lib.hid hA
  have hbd := checkP_bound 64 g 0 0 (by omega) (by omega)
  obtain ⟨⟨cc, n, d⟩, hres⟩ : ∃ r, checkP 64 g 0 0 = r := ⟨_, rfl⟩
  have HX : Hid (R = if cc = 0 then (cc, n, d) else (cc, 0, 0)) := Lib.hid (by rw [← HR.out]; unfold checkR; rw [hres])
  rw [hres] at HA hbd
  have HBD := Lib.hid hbd
  have HK := Lib.hid hK
  obtain ⟨x0, x1, x2, x3, x4, x5, x6, x7, x8, xf⟩ := nine hb0
  have cw := cell_of hC.2.2 0
  clear hW hb0 hC hK hA hres hbd HR HV HF xf
  cases hcc : decide (cc = 0) with
  | true =>
    have hz : (cc != 0) = false := by rw [of_decide_eq_true hcc]; rfl
    have HX2 : Hid (R = (0, n, d)) := Lib.hid (by rw [HX.out, if_pos (of_decide_eq_true hcc), of_decide_eq_true hcc])
    obtain ⟨hn, hd⟩ : n ≤ 65536 ∧ d ≤ 64 := HBD.out (of_decide_eq_true hcc)
    clear hcc HX
    go_wp2_with (go_at_call 38; refine HA.out.mono ?_; rintro e w8 ⟨rfl, hC8, hK8⟩; have HK8 := Lib.hid hK8; have c1' := cell_of hC8.1 0; have c2' := cell_of hC8.2.1 0; have f1' := free_of hC8.1 0; have f2' := free_of hC8.2.1 0; clear hC8 hK8)
    go_region
    all_goals
      go_wp2_with fail
      refine bodyPost_ret (v := .tuple #[.int .i64 0, .int .i64 n, .int .i64 d]) (by simp [results, Tryz.results24, go_sem, c1', c2']) rfl ?_
      rw [HX2.out]
      exact ⟨rfl, (((HK.out.transTo HK8.out (by simp; omega)).drewN 1).setCell _ _ (.inr (by simp))).setCell _ _ (.inr (by simp; omega))⟩
  | false =>
    have hz : (cc != 0) = true := by rw [bne_iff_ne]; exact of_decide_eq_false hcc
    have HX2 : Hid (R = (cc, 0, 0)) := Lib.hid (by rw [HX.out, if_neg (of_decide_eq_false hcc)])
    clear hcc HX
    go_wp2_with (go_at_call 38; refine HA.out.mono ?_; rintro e w8 ⟨rfl, hC8, hK8⟩; have HK8 := Lib.hid hK8; have c1' := cell_of hC8.1 0; have c2' := cell_of hC8.2.1 0; have f1' := free_of hC8.1 0; have f2' := free_of hC8.2.1 0; clear hC8 hK8)
    refine bodyPost_ret (v := .tuple #[.int .i64 cc, .int .i64 0, .int .i64 0]) (by simp [results, Tryz.results24, go_sem, c1', c2']) rfl ?_
    rw [HX2.out]
    exact ⟨rfl, ((HK.out.transTo HK8.out (by simp; omega)).setCell _ _ (.inr (by simp))).setCell _ _ (.inr (by simp; omega))⟩
end Go.Proofs.YtjmpcoedfoaebaaGreatDoor
