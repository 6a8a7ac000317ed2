/- What the listed package-level variables hold, as a walk wants it; octet's kind at a character. -/
import Derived.Test.YtjmpcoedfoaebaaGreatDoorOctx
open Go Go.RowKit
namespace Go.Proofs.YtjmpcoedfoaebaaGreatDoor

/-- The cells of the listed variables, all in blocks below B. -/
structure Env (B : Nat) (w : World) : Prop where
  size : B ≤ w.heap.size
  lots : 8 ≤ B
  caseV : ∃ R oR cap, R < B ∧ w.cell? ⟨3, 0, none⟩ = some (.slice (some ⟨R, oR, none⟩) Lib.caseA.size cap) ∧ Lib.CaseTab R oR Lib.caseA w
  tabs : Lib.Utf8Tabs 6 7 w
  maxLen : ∃ m, w.cell? ⟨2, 0, none⟩ = some (.int .i64 m)
  errT : w.cell? ⟨0, 0, none⟩ = some (.iface 114 (.agg #[.pointer (some ⟨8, 33, none⟩)]))
  signs : ∀ j, j < 10 → w.cell? ⟨1, j, none⟩ = some (.string (#[⟨#[]⟩, ⟨#[]⟩, ⟨#[]⟩, ⟨#[61]⟩, ⟨#[]⟩, ⟨#[62, 61]⟩, ⟨#[60, 61]⟩, ⟨#[61, 42]⟩, ⟨#[126, 61]⟩, ⟨#[58, 61]⟩].getD j ⟨#[]⟩))
theorem Env.low {B : Nat} {w w' : World} (h : Env B w) (hsz : B ≤ w'.heap.size) (hc : ∀ p : Addr, p.block < B → w'.cell? p = w.cell? p) : Env B w' := by
  have hl := h.lots
  obtain ⟨R, oR, cap, hR, h1, h2⟩ := h.caseV
  obtain ⟨m, hm⟩ := h.maxLen
  have hg : ∀ g o, g < 8 → w'.cell? ⟨g, o, none⟩ = w.cell? ⟨g, o, none⟩ := fun g o h => hc ⟨g, o, none⟩ (Nat.lt_of_lt_of_le h hl)
  refine ⟨hsz, hl, ⟨R, oR, cap, hR, (hg _ _ (by omega)).trans h1, fun i hi => ?_⟩, ⟨fun c hcc => (hg _ _ (by omega)).trans (h.tabs.1 c hcc), fun i hi => ?_⟩, ⟨m, (hg _ _ (by omega)).trans hm⟩, (hg _ _ (by omega)).trans h.errT, fun j hj => (hg _ _ (by omega)).trans (h.signs j hj)⟩
  · obtain ⟨a1, a2, a3, a4, a5⟩ := h2 i hi
    exact ⟨(hc _ hR).trans a1, (hc _ hR).trans a2, (hc _ hR).trans a3, (hc _ hR).trans a4, (hc _ hR).trans a5⟩
  · obtain ⟨a1, a2⟩ := h.tabs.2 i hi
    exact ⟨(hg _ _ (by omega)).trans a1, (hg _ _ (by omega)).trans a2⟩
theorem Env.keep {B : Nat} {S : List Nat} {w w' : World} (h : Env B w) (k : Keep S w w') (hS : ∀ x ∈ S, B ≤ x) : Env B w' :=
  h.low (Nat.le_trans h.size k.size) fun p hp => k.cell p (Nat.lt_of_lt_of_le hp h.size) fun hm => by have := hS _ hm; omega
theorem Env.keep0 {B : Nat} {w w' : World} (h : Env B w) (k : Keep [] w w') : Env B w' := h.keep k (by simp)
theorem Env.below {B : Nat} {w w' : World} (h : Env B w) (k : Below w.heap.size w w') : Env B w' := h.keep0 (Keep.of_below k)
theorem Env.drewN {B : Nat} {w : World} (h : Env B w) (n : Nat) : Env B (w.drewN n) := h.low h.size fun _ _ => rfl
theorem Env.caseVar {B : Nat} {w : World} (h : Env B w) : Lib.CaseVar 3 Lib.caseA w := by
  obtain ⟨R, oR, cap, _, h1, h2⟩ := h.caseV
  exact ⟨R, oR, cap, h1, h2⟩

theorem rep_prefix (l : List UInt8) (h : Lib.hasPrefix l [239, 191, 189] = true) : Lib.decodeL l = (65533, 3) := by
  unfold Lib.hasPrefix at h
  obtain ⟨t, rfl⟩ := List.isPrefixOf_iff_prefix.1 h
  rw [Lib.decodeL_N]
  show Lib.decodeN _ 239 191 189 _ = _
  unfold Lib.decodeN
  rw [if_neg (by omega), if_neg (by omega), if_pos (by simp), if_pos (by omega)]
theorem enc_bad : Lib.encodeRune 65533 = [239, 191, 189] := by decide
theorem bare_lt {c : UInt8} (h : bareB c = true) : c.toNat = 0 ∨ c.toNat = 40 ∨ c.toNat = 41 ∨ c.toNat = 42 ∨ c.toNat = 92 := by
  unfold bareB at h
  simp at h
  omega
theorem decodeL_ascii' (c : UInt8) (t : List UInt8) (h : c.toNat < 128) : Lib.decodeL (c :: t) = (c.toNat, 1) := by
  rw [Lib.decodeL_N]
  show Lib.decodeN _ c.toNat _ _ _ = _
  unfold Lib.decodeN
  rw [if_pos h]
/-- A rune below 128 was read from just that byte. -/
theorem decode_small {c : UInt8} {t : List UInt8} (h : (Lib.decodeL (c :: t)).1 < 128) : c.toNat = (Lib.decodeL (c :: t)).1 := by
  by_cases hc : c.toNat < 128
  · rw [decodeL_ascii' c t hc]
  · exfalso
    have h0 : firstP (c :: t) ≠ 0 := fun e => by rw [(firstP_zero (by simp)).1 e] at h; omega
    obtain ⟨_, _, h1, _, e5⟩ := firstP_pos (l := c :: t) (by simp) h0
    rw [enc_one _ (by omega) (by omega)] at e5
    obtain ⟨k, hk⟩ : ∃ k, firstP (c :: t) = k + 1 := ⟨firstP (c :: t) - 1, by omega⟩
    rw [hk] at e5
    have h7 := congrArg UInt8.toNat (List.cons.inj e5).1
    simp at h7
    omega

set_option maxHeartbeats 400000 in
theorem kind_any (s : ByteArray) (i : Nat) (w : World) (hi : i < s.size) :
    Calls Tryz.prog 85 #[.string s, .int .i64 i, .int .i32 (Utf8.decode s i).1] w (Kinded (kindP (s.data.toList.drop i)) w) := by
  rw [← Lib.decodeL_drop]
  obtain ⟨c, t, hl⟩ : ∃ c t, s.data.toList.drop i = c :: t := ⟨_, _, drop_at s i hi⟩
  unfold kindP
  rw [hl]
  have hg : (c :: t).getD 0 0 = c := rfl
  rw [hg]
  by_cases h0 : firstP (c :: t) = 0
  · rw [if_pos h0]
    have hd := (firstP_zero (by simp)).1 h0
    rw [hd]
    refine kind_alone s i w hi ?_
    rw [hl]
    cases hp : Lib.hasPrefix (c :: t) [239, 191, 189]
    · rfl
    · rw [rep_prefix _ hp] at hd
      cases hd
  · rw [if_neg h0]
    obtain ⟨e1, e2, e3, e4, e5⟩ := firstP_pos (l := c :: t) (by simp) h0
    by_cases hr : (Lib.decodeL (c :: t)).1 = 65533
    · have hb : bareB c = false := by
        cases hb : bareB c
        · rfl
        · have hc := bare_lt hb
          rw [decodeL_ascii' c t (by omega)] at hr
          simp at hr
          omega
      rw [hb, if_neg (by simp), hr]
      refine kind_repl s i w hi ?_
      rw [hl]
      unfold Lib.hasPrefix
      rw [List.isPrefixOf_iff_prefix]
      have e6 : (c :: t).take (firstP (c :: t)) = [239, 191, 189] := by rw [← e5, hr]; exact enc_bad
      rw [← e6]
      exact List.take_prefix _ _
    · by_cases hs : (Lib.decodeL (c :: t)).1 = 0 ∨ (Lib.decodeL (c :: t)).1 = 40 ∨ (Lib.decodeL (c :: t)).1 = 41 ∨ (Lib.decodeL (c :: t)).1 = 42 ∨ (Lib.decodeL (c :: t)).1 = 92
      · have hc := decode_small (c := c) (t := t) (by omega)
        have hb : bareB c = true := by
          unfold bareB
          simp
          omega
        rw [hb, if_pos rfl]
        rcases hs with h | h | h | h | h <;> rw [h]
        · exact kind_s0 s i w
        · exact kind_s40 s i w
        · exact kind_s41 s i w
        · exact kind_s42 s i w
        · exact kind_s92 s i w
      · have hb : bareB c = false := by
          cases hb : bareB c
          · rfl
          · have hc := bare_lt hb
            rw [decodeL_ascii' c t (by omega)] at hs
            exact absurd hc hs
        rw [hb, if_neg (by simp)]
        exact kind_fine s i _ w hr (by omega) (by omega) (by omega) (by omega) (by omega)
end Go.Proofs.YtjmpcoedfoaebaaGreatDoor
