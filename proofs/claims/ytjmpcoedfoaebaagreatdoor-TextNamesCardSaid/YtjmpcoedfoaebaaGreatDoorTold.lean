/- text.Desc; the laws' told: an error as a fault. -/
import Derived.Test.YtjmpcoedfoaebaaGreatDoorAs
import Derived.Test.YtjmpcoedfoaebaaGreatDoorEnv
import Derived.Test.YtjmpcoedfoaebaaGreatDoorRdd
open Go Go.RowKit
namespace Go.Proofs.YtjmpcoedfoaebaaGreatDoor

theorem alloc_is2 (w : World) (o : Obj) (k : Nat) (h : k = w.heap.size) : (w.alloc o).heap[k]? = some o := by rw [h]; exact alloc_at w o
/-- What errors.As leaves behind. -/
theorem as_any (B e t : Nat) (w : World) (hE : Env B w) (ht : w.heap[t]? = some (.cells #[.pointer none] 55 (0, 0))) :
    Calls Tryz.prog 30 #[.iface 55 (.pointer (some ⟨e, 0, none⟩)), .iface 62 (.pointer (some ⟨t, 0, none⟩))] w fun ev w' => ev = .returned (.bool true) ∧ Keep [t] w w' ∧ w'.heap[t]? = some (.cells #[.pointer (some ⟨e, 0, none⟩)] 55 (0, 0)) := by
  refine (as_hit ⟨e, 0, none⟩ ⟨t, 0, none⟩ (.pointer none) w hE.errT (cell_of ht 0) (free_of ht 0)).mono ?_
  rintro ev w' ⟨rfl, rfl⟩
  have hlt := lt_of_block ht
  have h2 := (alloc_lt (w := ((w.alloc (.cells #[.pointer (some ⟨t, 0, none⟩)] 62)).alloc (.cells #[.pointer (some ⟨8, 62, none⟩), .pointer (some ⟨w.heap.size, 0, none⟩), .int .u64 150] 88)).alloc (.cells #[.pointer (some ⟨8, 62, none⟩), .pointer (some ⟨w.heap.size, 0, none⟩), .int .u64 150] 88)) (.cells #[.pointer (some ⟨e, 0, none⟩)] 55) (k := t) (by simp; omega)).trans ((alloc_lt _ (by simp; omega)).trans ((alloc_lt _ (by simp; omega)).trans ((alloc_lt _ hlt).trans ht)))
  exact ⟨rfl, (((((Keep.refl [t] w).alloc _).alloc _).alloc _).alloc _).setCell _ _ (.inl (by simp)), setCell_at h2 0 _⟩

/-- What told has done. -/
def ToldR (w : World) (c p : Int) (t : ByteArray) (e : Ending) (w' : World) : Prop := e = .returned (.tuple #[.agg #[.int .i64 c, .int .i64 p, .string t], .bool true]) ∧ Keep [] w w'
theorem told_nil (w : World) : Calls Tryz.prog 13 #[.nilIface] w (ToldR w 0 0 ⟨#[]⟩) := by
  go_enter Tryz.func13, Tryz.ntmps13
  go_wp2
  refine bodyPost_ret (v := .tuple #[.agg #[.int .i64 0, .int .i64 0, .string ⟨#[]⟩], .bool true]) (by simp [results, Tryz.results13, go_sem]) rfl ?_
  exact ⟨rfl, (Keep.refl [] w).alloc _⟩

set_option maxHeartbeats 1000000 in
theorem told_hit (B fb : Nat) (c : Int) (p : Int) (t : ByteArray) (w : World) (hE : Env B w) (hc : c ≠ 0) (hF : w.heap[fb]? = some (.cells #[.int .i64 c, .int .i64 p, .string t] 29 (0, 0))) :
    Calls Tryz.prog 13 #[.iface 55 (.pointer (some ⟨fb, 0, none⟩))] w (ToldR w c p t) := by
  have hc0 : (c == 0) = false := by rw [beq_eq_false_iff_ne]; exact hc
  have hlt := lt_of_block hF
  have hBw := hE.size
  have hK2 : Keep [] w ((w.alloc (.cells #[.int .i64 0, .int .i64 0, .string ⟨#[]⟩] 29)).alloc (.cells #[.pointer none] 55)) := ((Keep.refl [] w).alloc _).alloc _
  have hA := as_any B fb (w.heap.size + 1) _ (hE.keep0 hK2) (alloc_is2 (w.alloc (.cells #[.int .i64 0, .int .i64 0, .string ⟨#[]⟩] 29)) _ _ (by simp))
  have HA := Lib.hid hA
  have HF := Lib.hid (hK2.heap hF (by simp))
  have HR := Lib.hid ((alloc_lt (w := w.alloc (.cells #[.int .i64 0, .int .i64 0, .string ⟨#[]⟩] 29)) (.cells #[.pointer none] 55) (k := w.heap.size) (by simp)).trans (alloc_at w _))
  have HK2 := Lib.hid hK2
  clear hF hE hc hK2 hA
  go_enter Tryz.func13, Tryz.ntmps13
  go_wp2_with (go_at_call 30; refine HA.out.mono ?_; rintro ev w3 ⟨rfl, hK, hT⟩; have hF3 := hK.heap HF.out (by simp; omega); have hR3 := hK.heap HR.out (by simp); have HK := Lib.hid hK; have hc1 := cell_of hT 0; have HR3 := Lib.hid hR3; have f0 := cell_of hF3 0; have f1 := cell_of hF3 1; have f2 := cell_of hF3 2; have r0 := cell_of hR3 0; have r1 := cell_of hR3 1; have r2 := cell_of hR3 2; have rf := free_of hR3; clear hF3 hR3 hT hK)
  refine bodyPost_ret (v := .tuple #[.agg #[.int .i64 c, .int .i64 p, .string t], .bool true]) (by simp [results, Tryz.results13, go_sem, r0, r1, r2]) rfl ?_
  exact ⟨rfl, (((HK2.out.transTo HK.out (by simp)).setCell _ _ (.inr (Nat.le_refl _))).setCell _ _ (.inr (Nat.le_refl _))).setCell _ _ (.inr (Nat.le_refl _))⟩

/-- Is a text a description? -/
def descB (s : ByteArray) : Bool := match descP s 0 with
  | .ok j => decide (j = s.size)
  | .error _ => false
def RetB (w : World) (v : Bool) (e : Ending) (w' : World) : Prop := e = .returned (.bool v) ∧ Keep [] w w'

set_option maxHeartbeats 1000000 in
theorem descB_any (B : Nat) (s : ByteArray) (w : World) (hs : s.size ≤ maxLen) (hE : Env B w) : Calls Tryz.prog 22 #[.string s] w (RetB w (descB s)) := by
  have hBw := hE.size
  have hK1 : Keep [] w (w.alloc (.cells #[.string s, .int .i64 0, .int .i64 0] 58)) := (Keep.refl [] w).alloc _
  have hD := desc_any w.heap.size 0 0 s _ hs (Nat.zero_le _) (show Rd (w.alloc (.cells #[.string s, .int .i64 0, .int .i64 0] 58)) w.heap.size s 0 0 from alloc_at w _)
  have HE1 := Lib.hid (hE.keep0 hK1)
  have HK1 := Lib.hid hK1
  have hs' := hs
  unfold maxLen at hs'
  clear hE hK1
  cases hd : descP s 0 with
  | error f =>
    rw [hd] at hD
    have HD := Lib.hid hD
    have HX : Hid (descB s = false) := Lib.hid (by unfold descB; rw [hd])
    clear hD hd
    go_enter Tryz.func22, Tryz.ntmps22
    go_wp2_with (first
      | (go_at_call 36; refine HD.out.mono ?_; intro ev w2 hw; obtain ⟨qe, rfl, hEr, hK⟩ := Gave.err hw; clear hw; have HK := Lib.hid (HK1.out.transTo hK (by simp)); have HA := Lib.hid (as_any B qe w2.heap.size _ ((HE1.out.keep hK (by simp; omega)).keep0 ((Keep.refl [] w2).alloc _)) (alloc_at w2 _)); clear hEr hK)
      | (go_at_call 30; refine HA.out.mono ?_; rintro ev w3 ⟨rfl, hK, hT⟩; have HK3 := Lib.hid hK; clear hK hT))
    go_ret
    rw [HX.out]
    exact ⟨rfl, (HK.out.alloc _).transTo HK3.out (by simp; exact HK.out.size)⟩
  | ok j =>
    have hj := descP_ok hd
    rw [hd] at hD
    have HD := Lib.hid hD
    have HX : Hid (descB s = decide (j = s.size)) := Lib.hid (by unfold descB; rw [hd])
    obtain ⟨eb, heb, HEB⟩ : ∃ eb : Bool, ((j : Int) == (s.size : Int)) = eb ∧ Hid (decide (j = s.size) = eb) := by
      by_cases h : j = s.size
      · exact ⟨true, by rw [h]; simp, Lib.hid (by simp [h])⟩
      · exact ⟨false, by rw [beq_eq_false_iff_ne]; omega, Lib.hid (by simp [h])⟩
    clear hD hd
    go_enter Tryz.func22, Tryz.ntmps22
    go_wp2_with (first
      | (go_at_call 36; refine HD.out.mono ?_; intro ev w2 hw; obtain ⟨rfl, hR, hK⟩ := Gave.ok hw; clear hw; have HK := Lib.hid (HK1.out.transTo hK (by simp)); have hc1 := (hR.keep0 ((Keep.refl [] w2).alloc (.cells #[.pointer none] 55))).c1; clear hR hK)
      | (go_at_call 30; refine (as_nil _ _).mono ?_; rintro ev w3 ⟨rfl, rfl⟩))
    go_ret
    rw [HX.out, HEB.out]
    exact ⟨rfl, HK.out.alloc _⟩
end Go.Proofs.YtjmpcoedfoaebaaGreatDoor
