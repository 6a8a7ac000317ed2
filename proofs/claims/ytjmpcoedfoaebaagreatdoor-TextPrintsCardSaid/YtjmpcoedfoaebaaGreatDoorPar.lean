/- The program's reader of filters, whole: filter at every depth. -/
import Derived.Test.YtjmpcoedfoaebaaGreatDoorFlte
open Go Go.RowKit
namespace Go.Proofs.YtjmpcoedfoaebaaGreatDoor

theorem filter_any (B b : Nat) (s : ByteArray) (hs : s.size ≤ 1048576) (hBb : B ≤ b) : ∀ (rem : Nat) (d : Int) (i p : Nat) (w : World), rem ≤ 64 → d + rem = 65 → i ≤ s.size → p ≤ 65536 → Rd w b s i p → Env B w →
    Calls Tryz.prog 28 #[.pointer (some ⟨b, 0, none⟩), .int .i64 d] w (FRet b s w (filterP s rem i p)) := by
  intro rem
  induction rem with
  | zero =>
    intro d i p w _ hd hi hp hR hE
    obtain rfl : d = 65 := by omega
    rw [filterP]
    cases ht : takeP s i 40 with
    | error f => exact filter_shut b s 65 i p w f hs hR ht
    | ok k =>
      obtain ⟨rfl, _⟩ := takeP_ok ht
      exact filter_deep b s i p w hs hp hR ht
  | succ rem ih =>
    intro d i p w hr hd hi hp hR hE
    rw [filterP]
    cases ht : takeP s i 40 with
    | error f => exact filter_shut b s d i p w f hs hR ht
    | ok k =>
      obtain ⟨rfl, _⟩ := takeP_ok ht
      dsimp only
      by_cases hl : 65536 < partsOf s (i + 1) p
      · rw [if_pos hl]
        exact filter_long b s d i p w (by omega) hs hp hR ht hl
      · rw [if_neg hl]
        cases hm : manyP (peekB s (i + 1)) with
        | none => exact filter_item B b s d i p w (by omega) hs hp hR hE hBb ht (by omega) hm
        | some kd => exact filter_kids B b s rem kd d i p w (by omega) hs hp hR hE hBb ht (by omega) hm (by omega) fun i p w h1 h2 h3 h4 => ih (d + 1) i p w (by omega) (by omega) h1 h2 h3 h4

theorem alloc_is (w : World) (o : Obj) (k : Nat) (h : k = w.heap.size) : (w.alloc o).heap[k]? = some o := by rw [h]; exact alloc_at w o
/-- Parse, plain: the filter, or the fault. -/
def parseP (s : ByteArray) : Except (Int × Nat × ByteArray) Flt :=
  if 1048576 < s.size then .error (3, 0, noText) else
    match filterP s 64 0 0 with
    | .error f => .error (f.1, f.2, wordAt s f.2)
    | .ok t => if t.2.1 < s.size then .error ((stuckF s t.2.1).1, (stuckF s t.2.1).2, wordAt s (stuckF s t.2.1).2) else .ok t.1
/-- What a call of Parse has done. -/
def PRet (w : World) (r : Except (Int × Nat × ByteArray) Flt) (e : Ending) (w' : World) : Prop :=
  match r with
  | .ok g => ∃ a1 n1 c1 a2 n2 c2, e = .returned (.tuple #[.agg #[.int .i8 g.it.kind, .slice a1 n1 c1, .string g.it.desc, .string g.it.value, .string g.it.start, .slice a2 n2 c2, .string g.it.fin, .string g.it.rule, .bool g.it.dn], .nilIface]) ∧ FltR w' w.heap.size w'.heap.size g (nineOf (.slice a1 n1 c1) (.slice a2 n2 c2) g.it) ∧ Keep [] w w'
  | .error f => ∃ fb, e = .returned (.tuple #[.agg #[.int .i8 0, .slice none 0 0, .string ⟨#[]⟩, .string ⟨#[]⟩, .string ⟨#[]⟩, .slice none 0 0, .string ⟨#[]⟩, .string ⟨#[]⟩, .bool false], .iface 55 (.pointer (some ⟨fb, 0, none⟩))]) ∧ FaultAt w' (.iface 55 (.pointer (some ⟨fb, 0, none⟩))) f.1 f.2.1 f.2.2 ∧ Keep [] w w'

set_option maxHeartbeats 2000000 in
set_option maxRecDepth 1000000 in
theorem parse_any (B : Nat) (s : ByteArray) (w : World) (hE : Env B w) : Calls Tryz.prog 12 #[.string s] w (PRet w (parseP s)) := by
  unfold parseP
  by_cases hl : 1048576 < s.size
  · rw [if_pos hl]
    go_enter Tryz.func12, Tryz.ntmps12
    go_wp2_with fail
    refine bodyPost_ret (v := .tuple #[.agg #[.int .i8 0, .slice none 0 0, .string ⟨#[]⟩, .string ⟨#[]⟩, .string ⟨#[]⟩, .slice none 0 0, .string ⟨#[]⟩, .string ⟨#[]⟩, .bool false], .iface 55 (.pointer (some ⟨w.heap.size + 1, 0, none⟩))]) (by simp [results, Tryz.results12, go_sem]) rfl ?_
    refine ⟨_, rfl, ⟨_, rfl, ?_⟩, ((Keep.refl [] w).alloc _).alloc _⟩
    exact alloc_is (w.alloc (.cells #[.int .i8 0, .slice none 0 0, .string ⟨#[]⟩, .string ⟨#[]⟩, .string ⟨#[]⟩, .slice none 0 0, .string ⟨#[]⟩, .string ⟨#[]⟩, .bool false] 26)) _ _ (by simp)
  · rw [if_neg hl]
    have hs : s.size ≤ 1048576 := by omega
    have hsm : s.size ≤ maxLen := by unfold maxLen; omega
    have hK2 : Keep [] w ((w.alloc (.cells #[.int .i8 0, .slice none 0 0, .string ⟨#[]⟩, .string ⟨#[]⟩, .string ⟨#[]⟩, .slice none 0 0, .string ⟨#[]⟩, .string ⟨#[]⟩, .bool false] 26)).alloc (.cells #[.string s, .int .i64 0, .int .i64 0] 58)) := ((Keep.refl [] w).alloc _).alloc _
    have hR2 : Rd ((w.alloc (.cells #[.int .i8 0, .slice none 0 0, .string ⟨#[]⟩, .string ⟨#[]⟩, .string ⟨#[]⟩, .slice none 0 0, .string ⟨#[]⟩, .string ⟨#[]⟩, .bool false] 26)).alloc (.cells #[.string s, .int .i64 0, .int .i64 0] 58)) (w.heap.size + 1) s 0 0 := alloc_is (w.alloc (.cells #[.int .i8 0, .slice none 0 0, .string ⟨#[]⟩, .string ⟨#[]⟩, .string ⟨#[]⟩, .slice none 0 0, .string ⟨#[]⟩, .string ⟨#[]⟩, .bool false] 26)) _ _ (by simp)
    have hE2 := hE.keep0 hK2
    have hF := filter_any B (w.heap.size + 1) s hs (by have := hE.size; omega) 64 1 0 0 _ (Nat.le_refl _) rfl (Nat.zero_le _) (Nat.zero_le _) hR2 hE2
    have hB2 : ((w.alloc (.cells #[.int .i8 0, .slice none 0 0, .string ⟨#[]⟩, .string ⟨#[]⟩, .string ⟨#[]⟩, .slice none 0 0, .string ⟨#[]⟩, .string ⟨#[]⟩, .bool false] 26)).alloc (.cells #[.string s, .int .i64 0, .int .i64 0] 58)).heap[w.heap.size]? = some (.cells #[.int .i8 0, .slice none 0 0, .string ⟨#[]⟩, .string ⟨#[]⟩, .string ⟨#[]⟩, .slice none 0 0, .string ⟨#[]⟩, .string ⟨#[]⟩, .bool false] 26 (0, 0)) := (alloc_lt _ (by simp)).trans (alloc_at w _)
    obtain ⟨W2, hW2⟩ : ∃ W2, W2 = ((w.alloc (.cells #[.int .i8 0, .slice none 0 0, .string ⟨#[]⟩, .string ⟨#[]⟩, .string ⟨#[]⟩, .slice none 0 0, .string ⟨#[]⟩, .string ⟨#[]⟩, .bool false] 26)).alloc (.cells #[.string s, .int .i64 0, .int .i64 0] 58)) := ⟨_, rfl⟩
    rw [← hW2] at hF hB2 hK2
    have HW2 := Lib.hid hW2
    have hz2 : W2.heap.size = w.heap.size + 2 := by rw [hW2]; simp
    have HZ2 := Lib.hid hz2
    have HK2 := Lib.hid hK2
    have HB2 := Lib.hid hB2
    clear hR2 hE2 hE hK2 hB2 hW2 hz2
    cases hf : filterP s 64 0 0 with
    | error f =>
      rw [hf] at hF
      have HF := Lib.hid hF
      clear hF hf
      dsimp only
      go_enter Tryz.func12, Tryz.ntmps12
      go_wp2_with fail
      rw [← HW2.out]
      go_wp2_with (go_at_call 28; refine HF.out.mono ?_; intro ev w4 hw; obtain ⟨k, a1, n1, c1, d0, v0, st, a2, n2, c2, fi, ru, dn, qe, rfl, hE4, hK4⟩ := FRet.err hw; clear hw; have HE4 := Lib.hid hE4; have HK4 := Lib.hid hK4; have HB4 := Lib.hid (hK4.heap HB2.out (by simp)); clear hE4 hK4; obtain ⟨y0, y1, y2, y3, y4, y5, y6, y7, y8, yf⟩ := nine ((alloc_lt (.cells #[.int .i8 k, .slice a1 n1 c1, .string d0, .string v0, .string st, .slice a2 n2 c2, .string fi, .string ru, .bool dn] 26) (lt_of_block HB4.out)).trans HB4.out))
      refine bodyPost_ret (v := .tuple #[.agg #[.int .i8 0, .slice none 0 0, .string ⟨#[]⟩, .string ⟨#[]⟩, .string ⟨#[]⟩, .slice none 0 0, .string ⟨#[]⟩, .string ⟨#[]⟩, .bool false], .iface 55 (.pointer (some ⟨qe, 0, none⟩))]) (by simp [results, Tryz.results12, go_sem, y0, y1, y2, y3, y4, y5, y6, y7, y8]) rfl ?_
      refine ⟨_, rfl, (HE4.out.keep0 ((Keep.refl [] w4).alloc _)).far (setCells_keep (S := [w.heap.size]) (b := w.heap.size) (.inl (by simp)) [_, _, _, _, _, _, _, _, _] 0 _ (Keep.refl _ _)) ?_, ?_⟩
      · intro x hx; rw [List.mem_singleton.1 hx]; exact .inl (Shp.mk ((alloc_lt _ (lt_of_block HB4.out)).trans HB4.out))
      · exact setCells_keep (b := w.heap.size) (.inr (Nat.le_refl _)) [_, _, _, _, _, _, _, _, _] 0 _ (show Keep [] w _ from (HK2.out.transTo HK4.out (by simp)).alloc _)
    | ok t =>
      obtain ⟨g, j, q⟩ := t
      have hjl := filterP_ok (Nat.zero_le _) (Nat.zero_le _) hf
      rw [hf] at hF
      have HF := Lib.hid hF
      clear hF hf
      dsimp only
      by_cases hjs : j < s.size
      · rw [if_pos hjs]
        go_enter Tryz.func12, Tryz.ntmps12
        go_wp2_with fail
        rw [← HW2.out]
        go_wp2_with (first
          | (go_at_call 28; refine HF.out.mono ?_; intro ev w4 hw; obtain ⟨a1, n1, c1, a2, n2, c2, rfl, hG4, hR4, hK4⟩ := FRet.ok hw; clear hw; have HR4 : Hid (Rd (w4.alloc (.cells #[.int .i8 g.it.kind, .slice a1 n1 c1, .string g.it.desc, .string g.it.value, .string g.it.start, .slice a2 n2 c2, .string g.it.fin, .string g.it.rule, .bool g.it.dn] 26)) (w.heap.size + 1) s j q) := Lib.hid (hR4.keep0 ((Keep.refl [] w4).alloc _)); have HK4 := Lib.hid hK4; have HB4 := Lib.hid (hK4.heap HB2.out (by simp)); have hc1 := HR4.out.c1; clear hG4 hR4 hK4)
          | (go_at_call 29; refine (stuck_any (w.heap.size + 1) j q s _ hsm (by exact HR4.out)).mono ?_; rintro ev w5 ⟨v, rfl, ⟨qe, rfl, hq⟩, hK5⟩; have HE5 : Hid (ErrAt w5 (.iface 55 (.pointer (some ⟨qe, 0, none⟩))) s (stuckF s j)) := Lib.hid ⟨qe, rfl, hq⟩; have HK5 := Lib.hid hK5; have HB5 := Lib.hid (hK5.heap ((alloc_lt _ (lt_of_block HB4.out)).trans HB4.out) (by simp)); clear hq hK5; obtain ⟨y0, y1, y2, y3, y4, y5, y6, y7, y8, yf⟩ := nine HB5.out))
        refine bodyPost_ret (v := .tuple #[.agg #[.int .i8 0, .slice none 0 0, .string ⟨#[]⟩, .string ⟨#[]⟩, .string ⟨#[]⟩, .slice none 0 0, .string ⟨#[]⟩, .string ⟨#[]⟩, .bool false], .iface 55 (.pointer (some ⟨qe, 0, none⟩))]) (by simp [results, Tryz.results12, go_sem, y0, y1, y2, y3, y4, y5, y6, y7, y8]) rfl ?_
        refine ⟨_, rfl, HE5.out.far (setCells_keep (S := [w.heap.size]) (b := w.heap.size) (.inl (by simp)) [_, _, _, _, _, _, _, _, _] 0 _ (Keep.refl _ _)) ?_, ?_⟩
        · intro x hx; rw [List.mem_singleton.1 hx]; exact .inl (Shp.mk HB5.out)
        · exact setCells_keep (b := w.heap.size) (.inr (Nat.le_refl _)) [_, _, _, _, _, _, _, _, _] 0 _ (show Keep [] w _ from ((HK2.out.transTo HK4.out (by simp)).alloc _).trans HK5.out)
      · rw [if_neg hjs]
        go_enter Tryz.func12, Tryz.ntmps12
        go_wp2_with fail
        rw [← HW2.out]
        go_wp2_with (go_at_call 28; refine HF.out.mono ?_; intro ev w4 hw; obtain ⟨a1, n1, c1, a2, n2, c2, rfl, hG4, hR4, hK4⟩ := FRet.ok hw; clear hw; have HG4 := Lib.hid hG4; have HR4 : Hid (Rd (w4.alloc (.cells #[.int .i8 g.it.kind, .slice a1 n1 c1, .string g.it.desc, .string g.it.value, .string g.it.start, .slice a2 n2 c2, .string g.it.fin, .string g.it.rule, .bool g.it.dn] 26)) (w.heap.size + 1) s j q) := Lib.hid (hR4.keep0 ((Keep.refl [] w4).alloc _)); have HK4 := Lib.hid hK4; have HB4 := Lib.hid (hK4.heap HB2.out (by simp)); have hc1 := HR4.out.c1; clear hG4 hR4 hK4; obtain ⟨y0, y1, y2, y3, y4, y5, y6, y7, y8, yf⟩ := nine ((alloc_lt (.cells #[.int .i8 g.it.kind, .slice a1 n1 c1, .string g.it.desc, .string g.it.value, .string g.it.start, .slice a2 n2 c2, .string g.it.fin, .string g.it.rule, .bool g.it.dn] 26) (lt_of_block HB4.out)).trans HB4.out))
        refine bodyPost_ret (v := .tuple #[.agg #[.int .i8 g.it.kind, .slice a1 n1 c1, .string g.it.desc, .string g.it.value, .string g.it.start, .slice a2 n2 c2, .string g.it.fin, .string g.it.rule, .bool g.it.dn], .nilIface]) (by simp [results, Tryz.results12, go_sem, y0, y1, y2, y3, y4, y5, y6, y7, y8]) rfl ?_
        have hKs : Keep [w.heap.size] (w4.alloc (.cells #[.int .i8 g.it.kind, .slice a1 n1 c1, .string g.it.desc, .string g.it.value, .string g.it.start, .slice a2 n2 c2, .string g.it.fin, .string g.it.rule, .bool g.it.dn] 26)) ((w4.alloc (.cells #[.int .i8 g.it.kind, .slice a1 n1 c1, .string g.it.desc, .string g.it.value, .string g.it.start, .slice a2 n2 c2, .string g.it.fin, .string g.it.rule, .bool g.it.dn] 26)).setCells w.heap.size 0 [.int .i8 g.it.kind, .slice a1 n1 c1, .string g.it.desc, .string g.it.value, .string g.it.start, .slice a2 n2 c2, .string g.it.fin, .string g.it.rule, .bool g.it.dn]) :=
          setCells_keep (S := [w.heap.size]) (.inl (by simp)) _ 0 _ (Keep.refl _ _)
        have hKb : Keep [] w ((w4.alloc (.cells #[.int .i8 g.it.kind, .slice a1 n1 c1, .string g.it.desc, .string g.it.value, .string g.it.start, .slice a2 n2 c2, .string g.it.fin, .string g.it.rule, .bool g.it.dn] 26)).setCells w.heap.size 0 [.int .i8 g.it.kind, .slice a1 n1 c1, .string g.it.desc, .string g.it.value, .string g.it.start, .slice a2 n2 c2, .string g.it.fin, .string g.it.rule, .bool g.it.dn]) :=
          setCells_keep (b := w.heap.size) (.inr (Nat.le_refl _)) _ 0 _ ((HK2.out.transTo HK4.out (by simp)).alloc _)
        refine ⟨a1, n1, c1, a2, n2, c2, rfl, ?_, hKb⟩
        have hz := HZ2.out
        exact ((HG4.out.keep ((Keep.refl [] w4).alloc _) (by simp)).keep hKs (by intro x hx; rw [List.mem_singleton.1 hx]; omega)).mono (by omega) (Nat.le_trans (by simp) hKs.size)
end Go.Proofs.YtjmpcoedfoaebaaGreatDoor
