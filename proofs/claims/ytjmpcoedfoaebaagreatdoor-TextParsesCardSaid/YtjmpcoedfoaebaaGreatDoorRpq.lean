/- The reference's Parse. -/
import Derived.Test.YtjmpcoedfoaebaaGreatDoorRpo
import Derived.Test.YtjmpcoedfoaebaaGreatDoorPar
import Derived.BigRegion
open Go Go.RowKit
namespace Go.Proofs.YtjmpcoedfoaebaaGreatDoor

/-- What a call of the reference's Parse has done. -/
def XPRet (w : World) (r : Except (Int × Nat × ByteArray) Flt) (e : Ending) (w' : World) : Prop :=
  match r with
  | .ok g => ∃ a1 c1 a2 c2, e = .returned (.tuple #[.agg #[.int .i8 g.it.kind, .slice a1 g.kids.length c1, .string g.it.desc, .string g.it.value, .string g.it.start, .slice a2 g.it.mids.length c2, .string g.it.fin, .string g.it.rule, .bool g.it.dn], .agg #[.int .i64 0, .int .i64 0, .string ⟨#[]⟩]]) ∧
      FltR w' w.heap.size w'.heap.size g (nineOf (.slice a1 g.kids.length c1) (.slice a2 g.it.mids.length c2) g.it) ∧ Keep [] w w'
  | .error f => e = .returned (.tuple #[.agg #[.int .i8 0, .slice none 0 0, .string ⟨#[]⟩, .string ⟨#[]⟩, .string ⟨#[]⟩, .slice none 0 0, .string ⟨#[]⟩, .string ⟨#[]⟩, .bool false], .agg #[.int .i64 f.1, .int .i64 f.2.1, .string f.2.2]]) ∧ Keep [] w w'

theorem three {w : World} {fb : Nat} {c0 c1 c2 : Value} {T : TypeId} (h : w.heap[fb]? = some (.cells #[c0, c1, c2] T (0, 0))) :
    w.cell? ⟨fb, 0, none⟩ = some c0 ∧ w.cell? ⟨fb, 1, none⟩ = some c1 ∧ w.cell? ⟨fb, 2, none⟩ = some c2 ∧ ∀ j, w.frozen? ⟨fb, j, none⟩ = false :=
  ⟨cell_of h 0, cell_of h 1, cell_of h 2, fun j => free_of h j⟩
/-- Where the answers' two variables lie. -/
structure PaSt (w W : World) : Prop where
  F : W.heap[w.heap.size]? = some (.cells #[.int .i8 0, .slice none 0 0, .string ⟨#[]⟩, .string ⟨#[]⟩, .string ⟨#[]⟩, .slice none 0 0, .string ⟨#[]⟩, .string ⟨#[]⟩, .bool false] 26 (0, 0))
  G : W.heap[w.heap.size + 1]? = some (.cells #[.int .i64 0, .int .i64 0, .string ⟨#[]⟩] 29 (0, 0))
  K : Keep [] w W
theorem PaSt.keep {w W W' : World} (h : PaSt w W) (k : Keep [w.heap.size + 1 + 1] W W') : PaSt w W' := ⟨k.heap h.F (by simp; omega), k.heap h.G (by simp), h.K.transTo k (by simp; omega)⟩

set_option maxHeartbeats 2000000 in
set_option maxRecDepth 100000 in
theorem xParse_any (s : ByteArray) (w : World) (hsm : s.size ≤ maxLen) : Calls Tryz.prog 11 #[.string s] w (XPRet w (parseP s)) := by
  unfold parseP
  by_cases hl : 1048576 < s.size
  · rw [if_pos hl]
    go_enter Tryz.func11, Tryz.ntmps11
    go_wp2_with fail
    refine bodyPost_ret (v := .tuple #[.agg #[.int .i8 0, .slice none 0 0, .string ⟨#[]⟩, .string ⟨#[]⟩, .string ⟨#[]⟩, .slice none 0 0, .string ⟨#[]⟩, .string ⟨#[]⟩, .bool false], .agg #[.int .i64 3, .int .i64 0, .string ⟨#[]⟩]]) (by simp [results, Tryz.results11, go_sem]) rfl ?_
    exact ⟨rfl, ((Keep.refl [] w).alloc _).alloc _⟩
  · rw [if_neg hl]
    have hs : s.size ≤ 1048576 := by omega
    have hR3 : Rx (((w.alloc (.cells #[.int .i8 0, .slice none 0 0, .string ⟨#[]⟩, .string ⟨#[]⟩, .string ⟨#[]⟩, .slice none 0 0, .string ⟨#[]⟩, .string ⟨#[]⟩, .bool false] 26)).alloc (.cells #[.int .i64 0, .int .i64 0, .string ⟨#[]⟩] 29)).alloc (.cells #[.string s, .int .i64 0, .int .i64 0, .int .i64 0, .int .i64 0, .string ⟨#[]⟩] 52)) (w.heap.size + 1 + 1) s 0 0 := alloc_is3 (((w.alloc (.cells #[.int .i8 0, .slice none 0 0, .string ⟨#[]⟩, .string ⟨#[]⟩, .string ⟨#[]⟩, .slice none 0 0, .string ⟨#[]⟩, .string ⟨#[]⟩, .bool false] 26)).alloc (.cells #[.int .i64 0, .int .i64 0, .string ⟨#[]⟩] 29))) _ _ (by simp)
    have hS3 : PaSt w (((w.alloc (.cells #[.int .i8 0, .slice none 0 0, .string ⟨#[]⟩, .string ⟨#[]⟩, .string ⟨#[]⟩, .slice none 0 0, .string ⟨#[]⟩, .string ⟨#[]⟩, .bool false] 26)).alloc (.cells #[.int .i64 0, .int .i64 0, .string ⟨#[]⟩] 29)).alloc (.cells #[.string s, .int .i64 0, .int .i64 0, .int .i64 0, .int .i64 0, .string ⟨#[]⟩] 52)) := ⟨(alloc_lt _ (by simp; omega)).trans ((alloc_lt _ (by simp)).trans (alloc_at w _)), (alloc_lt _ (by simp)).trans (alloc_is3 (w.alloc _) _ _ (by simp)), (((Keep.refl [] w).alloc _).alloc _).alloc _⟩
    have hC := xfilter_any (w.heap.size + 1 + 1) s hs 64 1 0 0 _ (Nat.le_refl _) rfl (Nat.zero_le _) (Nat.zero_le _) hR3
    have hz : ((((w.alloc (.cells #[.int .i8 0, .slice none 0 0, .string ⟨#[]⟩, .string ⟨#[]⟩, .string ⟨#[]⟩, .slice none 0 0, .string ⟨#[]⟩, .string ⟨#[]⟩, .bool false] 26)).alloc (.cells #[.int .i64 0, .int .i64 0, .string ⟨#[]⟩] 29)).alloc (.cells #[.string s, .int .i64 0, .int .i64 0, .int .i64 0, .int .i64 0, .string ⟨#[]⟩] 52))).heap.size = w.heap.size + 3 := by simp
    obtain ⟨W3, hW3⟩ : ∃ X, X = (((w.alloc (.cells #[.int .i8 0, .slice none 0 0, .string ⟨#[]⟩, .string ⟨#[]⟩, .string ⟨#[]⟩, .slice none 0 0, .string ⟨#[]⟩, .string ⟨#[]⟩, .bool false] 26)).alloc (.cells #[.int .i64 0, .int .i64 0, .string ⟨#[]⟩] 29)).alloc (.cells #[.string s, .int .i64 0, .int .i64 0, .int .i64 0, .int .i64 0, .string ⟨#[]⟩] 52)) := ⟨_, rfl⟩
    rw [← hW3] at hC hS3 hR3 hz
    have HW3 := Lib.hid hW3
    have HZ := Lib.hid hz
    have HS3 := Lib.hid hS3
    clear hR3 hS3 hW3 hz
    cases hf : filterP s 64 0 0 with
    | error f =>
      rw [hf] at hC
      have HC := Lib.hid hC
      clear hC hf
      dsimp only
      go_enter Tryz.func11, Tryz.ntmps11
      go_wp2_with fail
      rw [← HW3.out]
      go_wp2_with (go_at_call 26; refine HC.out.mono ?_; intro ev w4 hw; obtain ⟨k, a1, n1, c1, d0, v0, st, a2, n2, c2, fi, ru, dn, rfl, hE4, hK4⟩ := FRetX.err hw; clear hw; obtain ⟨i, q, hRC⟩ := hE4; have hRC5 : RxC (w4.alloc (.cells #[.int .i8 k, .slice a1 n1 c1, .string d0, .string v0, .string st, .slice a2 n2 c2, .string fi, .string ru, .bool dn] 26)) (w.heap.size + 1 + 1) s i q f.1 f.2 (wordAt s f.2) := (alloc_lt _ (lt_of_block hRC)).trans hRC; obtain ⟨r0, r1, r2, r3, r4, r5⟩ := RxC.cells hRC5; have HS4 : Hid (PaSt w (w4.alloc (.cells #[.int .i8 k, .slice a1 n1 c1, .string d0, .string v0, .string st, .slice a2 n2 c2, .string fi, .string ru, .bool dn] 26))) := Lib.hid ((HS3.out.keep hK4).keep ((Keep.refl _ w4).alloc _)); clear hK4 hRC hRC5; obtain ⟨x0, x1, x2, x3, x4, x5, x6, x7, x8, xf⟩ := nine HS4.out.F; obtain ⟨y0, y1, y2, yf⟩ := three HS4.out.G)
      go_region
      all_goals
        go_wp2_with fail
        refine bodyPost_ret (v := .tuple #[.agg #[.int .i8 0, .slice none 0 0, .string ⟨#[]⟩, .string ⟨#[]⟩, .string ⟨#[]⟩, .slice none 0 0, .string ⟨#[]⟩, .string ⟨#[]⟩, .bool false], .agg #[.int .i64 f.1, .int .i64 f.2, .string (wordAt s f.2)]]) (by simp [results, Tryz.results11, go_sem, x0, x1, x2, x3, x4, x5, x6, x7, x8, y0, y1, y2]) rfl ?_
        exact ⟨rfl, Keep.drew (setCells_keep (.inr (by simp)) [.int .i64 f.1, .int .i64 f.2, .string (wordAt s f.2)] 0 _ (setCells_keep (.inr (Nat.le_refl _)) [.int .i8 0, .slice none 0 0, .string ⟨#[]⟩, .string ⟨#[]⟩, .string ⟨#[]⟩, .slice none 0 0, .string ⟨#[]⟩, .string ⟨#[]⟩, .bool false] 0 _ HS4.out.K))⟩
    | ok t =>
      obtain ⟨g, j, q⟩ := t
      have hjl := filterP_ok (Nat.zero_le _) (Nat.zero_le _) hf
      rw [hf] at hC
      have HC := Lib.hid hC
      clear hC hf
      dsimp only
      by_cases hjs : j < s.size
      · rw [if_pos hjs]
        have hjI : (j : Int) < (s.size : Int) := by omega
        go_enter Tryz.func11, Tryz.ntmps11
        go_wp2_with fail
        rw [← HW3.out]
        go_wp2_with (first
          | (go_at_call 26; refine HC.out.mono ?_; intro ev w4 hw; obtain ⟨a1, c1, a2, c2, rfl, hG4, hR4, hK4⟩ := FRetX.ok hw; clear hw; have hR5 : Rx (w4.alloc (.cells #[.int .i8 g.it.kind, .slice a1 g.kids.length c1, .string g.it.desc, .string g.it.value, .string g.it.start, .slice a2 g.it.mids.length c2, .string g.it.fin, .string g.it.rule, .bool g.it.dn] 26)) (w.heap.size + 1 + 1) s j q := hR4.keep0 ((Keep.refl [] w4).alloc _); have r1 := hR5.c1; have HR4 := Lib.hid hR5; have HS4 : Hid (PaSt w (w4.alloc (.cells #[.int .i8 g.it.kind, .slice a1 g.kids.length c1, .string g.it.desc, .string g.it.value, .string g.it.start, .slice a2 g.it.mids.length c2, .string g.it.fin, .string g.it.rule, .bool g.it.dn] 26))) := Lib.hid ((HS3.out.keep hK4).keep ((Keep.refl _ w4).alloc _)); clear hK4 hR4 hR5 hG4)
          | (go_at_call 27; refine (xstuck_any (w.heap.size + 1 + 1) j q s _ hsm (by exact HR4.out)).mono ?_; rintro ev w5 ⟨rfl, hE5, hK5⟩; obtain ⟨i, q', hRC⟩ := hE5; obtain ⟨r0, r1, r2, r3, r4, r5⟩ := RxC.cells hRC; have HS5 := Lib.hid (HS4.out.keep hK5); clear hK5 hRC; obtain ⟨x0, x1, x2, x3, x4, x5, x6, x7, x8, xf⟩ := nine HS5.out.F; obtain ⟨y0, y1, y2, yf⟩ := three HS5.out.G))
        go_region
        all_goals
          go_wp2_with fail
          refine bodyPost_ret (v := .tuple #[.agg #[.int .i8 0, .slice none 0 0, .string ⟨#[]⟩, .string ⟨#[]⟩, .string ⟨#[]⟩, .slice none 0 0, .string ⟨#[]⟩, .string ⟨#[]⟩, .bool false], .agg #[.int .i64 (stuckF s j).1, .int .i64 (stuckF s j).2, .string (wordAt s (stuckF s j).2)]]) (by simp [results, Tryz.results11, go_sem, x0, x1, x2, x3, x4, x5, x6, x7, x8, y0, y1, y2]) rfl ?_
          exact ⟨rfl, Keep.drew (setCells_keep (.inr (by simp)) [.int .i64 (stuckF s j).1, .int .i64 (stuckF s j).2, .string (wordAt s (stuckF s j).2)] 0 _ (setCells_keep (.inr (Nat.le_refl _)) [.int .i8 0, .slice none 0 0, .string ⟨#[]⟩, .string ⟨#[]⟩, .string ⟨#[]⟩, .slice none 0 0, .string ⟨#[]⟩, .string ⟨#[]⟩, .bool false] 0 _ HS5.out.K))⟩
      · rw [if_neg hjs]
        have hjI : (s.size : Int) ≤ (j : Int) := by omega
        go_enter Tryz.func11, Tryz.ntmps11
        go_wp2_with fail
        rw [← HW3.out]
        go_wp2_with (go_at_call 26; refine HC.out.mono ?_; intro ev w4 hw; obtain ⟨a1, c1, a2, c2, rfl, hG4, hR4, hK4⟩ := FRetX.ok hw; clear hw; have hR5 : Rx (w4.alloc (.cells #[.int .i8 g.it.kind, .slice a1 g.kids.length c1, .string g.it.desc, .string g.it.value, .string g.it.start, .slice a2 g.it.mids.length c2, .string g.it.fin, .string g.it.rule, .bool g.it.dn] 26)) (w.heap.size + 1 + 1) s j q := hR4.keep0 ((Keep.refl [] w4).alloc _); have r1 := hR5.c1; have HG4 := Lib.hid hG4; have HS4 : Hid (PaSt w (w4.alloc (.cells #[.int .i8 g.it.kind, .slice a1 g.kids.length c1, .string g.it.desc, .string g.it.value, .string g.it.start, .slice a2 g.it.mids.length c2, .string g.it.fin, .string g.it.rule, .bool g.it.dn] 26))) := Lib.hid ((HS3.out.keep hK4).keep ((Keep.refl _ w4).alloc _)); have HK4 := Lib.hid (HS3.out.keep hK4).K; clear hK4 hR4 hR5 hG4; obtain ⟨x0, x1, x2, x3, x4, x5, x6, x7, x8, xf⟩ := nine HS4.out.F; obtain ⟨y0, y1, y2, yf⟩ := three HS4.out.G)
        refine bodyPost_ret (v := .tuple #[.agg #[.int .i8 g.it.kind, .slice a1 g.kids.length c1, .string g.it.desc, .string g.it.value, .string g.it.start, .slice a2 g.it.mids.length c2, .string g.it.fin, .string g.it.rule, .bool g.it.dn], .agg #[.int .i64 0, .int .i64 0, .string ⟨#[]⟩]]) (by simp [results, Tryz.results11, go_sem, x0, x1, x2, x3, x4, x5, x6, x7, x8, y0, y1, y2]) rfl ?_
        have hKa : Keep [w.heap.size, w.heap.size + 1] w4 (((w4.alloc (.cells #[.int .i8 g.it.kind, .slice a1 g.kids.length c1, .string g.it.desc, .string g.it.value, .string g.it.start, .slice a2 g.it.mids.length c2, .string g.it.fin, .string g.it.rule, .bool g.it.dn] 26)).setCells w.heap.size 0 [.int .i8 g.it.kind, .slice a1 g.kids.length c1, .string g.it.desc, .string g.it.value, .string g.it.start, .slice a2 g.it.mids.length c2, .string g.it.fin, .string g.it.rule, .bool g.it.dn]).setCells (w.heap.size + 1) 0 [.int .i64 0, .int .i64 0, .string ⟨#[]⟩]) := setCells_keep (.inl (by simp)) _ 0 _ (setCells_keep (.inl (by simp)) _ 0 _ ((Keep.refl _ w4).alloc _))
        have hz := HZ.out
        exact ⟨a1, c1, a2, c2, rfl, (HG4.out.keep hKa (by simp; omega)).mono (by omega) hKa.size, HK4.out.transTo hKa (by simp)⟩
end Go.Proofs.YtjmpcoedfoaebaaGreatDoor
