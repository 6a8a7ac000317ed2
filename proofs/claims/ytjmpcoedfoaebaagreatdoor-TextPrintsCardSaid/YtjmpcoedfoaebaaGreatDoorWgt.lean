/- What a text's filter weighs: never more than the text is long. No program here. -/
import Derived.Test.YtjmpcoedfoaebaaGreatDoorFltx
open Go Go.RowKit
namespace Go.Proofs.YtjmpcoedfoaebaaGreatDoor

mutual
/-- How many parts and middles a filter has. -/
def weight : Flt → Nat
  | .mk it ks => 1 + it.mids.length + weightK ks
def weightK : List Flt → Nat
  | [] => 0
  | g :: gs => weight g + weightK gs
end
theorem weightK_append : ∀ (l m : List Flt), weightK (l ++ m) = weightK l + weightK m
  | [], m => by simp [weightK]
  | g :: l, m => by rw [List.cons_append, weightK, weightK, weightK_append l m]; omega
theorem partsP_w {s : ByteArray} : ∀ {k j ms fin l t q}, j ≤ s.size → partsP k s j ms fin = .ok (l, t, q) → l.length + j ≤ ms.length + q
  | 0, _, _, _, _, _, _, _, h => by cases h
  | k + 1, j, ms, fin, l, t, q, hj, h => by
    by_cases h42 : peekB s j = 42
    · have hlt : j < s.size := peekB_lt (by rw [h42]; decide)
      cases hv : valueP true s (j + 1) with
      | error f => rw [partsP_err h42 hv] at h; cases h
      | ok u =>
        rw [partsP_ok h42 hv] at h
        have h1 := valueP_le (t := u.1) (j := u.2) (by omega) hv
        have h2 := partsP_w h1.2.1 h
        have h3 : (if fin = noText then ms else ms ++ [fin]).length ≤ ms.length + 1 := by split <;> simp
        omega
    · rw [partsP_stop h42] at h; cases h; omega
theorem piecesP_w {s d : ByteArray} {i j : Nat} {it : Itm} (hi : i ≤ s.size) (h : piecesP s i d = .ok (it, j)) : it.mids.length + i ≤ j := by
  unfold piecesP at h
  cases hv : valueP true s i with
  | error f => rw [hv] at h; cases h
  | ok u =>
    obtain ⟨v, q⟩ := u
    rw [hv] at h
    have h1 := valueP_le hi hv
    dsimp only at h
    split at h
    · cases hp : partsP (s.size + 1) s q [] noText with
      | error f => rw [hp] at h; cases h
      | ok t =>
        obtain ⟨ms, fin, q'⟩ := t
        rw [hp] at h
        have := partsP_w h1.2.1 hp
        cases h; simp at this ⊢; omega
    · cases h; simp; omega
theorem cmpItm_m {s d : ByteArray} {k : Int} {i j : Nat} {it : Itm} (h : cmpItm k d (valueP false s i) = .ok (it, j)) : it.mids = [] := by
  cases hv : valueP false s i with
  | error f => rw [hv] at h; cases h
  | ok u => rw [hv] at h; cases h; rfl
theorem ruleP_m {s d : ByteArray} {i j : Nat} {it : Itm} (h : ruleP s i d = .ok (it, j)) : it.mids = [] := by
  unfold ruleP at h
  cases hr : rulesP (s.size + 1) s d i noText false with
  | error f => rw [hr] at h; cases h
  | ok t =>
    obtain ⟨ru, dn, q⟩ := t
    rw [hr] at h
    dsimp only [ruleEnd] at h
    cases hv : valueP false s (q + 1) with
    | error f => rw [hv] at h; cases h
    | ok u => rw [hv] at h; cases h; rfl
theorem itemD_w {s d : ByteArray} {i j : Nat} {it : Itm} (h : itemD s i d = .ok (it, j)) : it.mids.length + i < j := by
  have hle := itemD_le h
  unfold itemD at h
  by_cases h58 : peekB s i = 58
  · rw [if_pos h58] at h
    rw [ruleP_m h]; simp; omega
  · rw [if_neg h58] at h
    by_cases h61 : peekB s i = 61
    · have hlt : i < s.size := peekB_lt (by rw [h61]; decide)
      rw [if_pos h61] at h
      have := piecesP_w (by omega) h
      omega
    · rw [if_neg h61] at h
      cases hc : comparedP (peekB s i) with
      | none => rw [hc] at h; cases h
      | some k =>
        rw [hc] at h
        dsimp only [twoP] at h
        cases ht : takeP s (i + 1) 61 with
        | error f => rw [ht] at h; cases h
        | ok q => rw [ht] at h; rw [cmpItm_m h]; simp; omega
theorem itemP_w {s : ByteArray} {i j : Nat} {it : Itm} (h : itemP s i = .ok (it, j)) : it.mids.length + i < j := by
  unfold itemP at h
  split at h
  · exact itemD_w h
  · cases hd : descP s i with
    | error f => rw [hd] at h; cases h
    | ok k =>
      rw [hd] at h
      have h1 := descP_ok hd
      have := itemD_w h
      omega
theorem kidsP_w {f : Nat → Nat → Except (Int × Nat) (Flt × Nat × Nat)} {s : ByteArray} {kind : Int} (hf : ∀ {i p g j q}, i ≤ s.size → p ≤ 65536 → f i p = .ok (g, j, q) → i < j ∧ j ≤ s.size ∧ p ≤ q ∧ q ≤ 65536)
    (hw : ∀ {i p g j q}, i ≤ s.size → p ≤ 65536 → f i p = .ok (g, j, q) → weight g + i ≤ j) :
    ∀ {k i p acc l j q}, i ≤ s.size → p ≤ 65536 → kidsP f s kind k i p acc = .ok (l, j, q) → weightK l + i ≤ weightK acc + j
  | 0, _, _, _, _, _, _, _, _, h => by cases h
  | k + 1, i, p, acc, l, j, q, hi, hp, h => by
    unfold kidsP at h
    cases hr : f i p with
    | error e => rw [hr] at h; cases h
    | ok t =>
      obtain ⟨g, j', q'⟩ := t
      rw [hr] at h
      have h1 := hf hi hp hr
      have h2 := hw hi hp hr
      dsimp only at h
      split at h
      · cases h; rw [weightK_append]; simp [weightK]; omega
      · have h3 := kidsP_w hf hw h1.2.1 h1.2.2.2 h
        rw [weightK_append] at h3; simp [weightK] at h3; omega
theorem filterP_w {s : ByteArray} : ∀ {rem i p g j q}, i ≤ s.size → p ≤ 65536 → filterP s rem i p = .ok (g, j, q) → weight g + i ≤ j
  | 0, i, p, g, j, q, _, _, h => by
    rw [filterP] at h
    cases ht : takeP s i 40 with
    | error f => rw [ht] at h; cases h
    | ok k => rw [ht] at h; cases h
  | rem + 1, i, p, g, j, q, hi, hp, h => by
    rw [filterP] at h
    cases ht : takeP s i 40 with
    | error f => rw [ht] at h; cases h
    | ok k =>
      obtain ⟨rfl, hlt⟩ := takeP_ok ht
      rw [ht] at h
      dsimp only at h
      by_cases hl : 65536 < partsOf s (i + 1) p
      · rw [if_pos hl] at h; cases h
      · rw [if_neg hl] at h
        cases hm : manyP (peekB s (i + 1)) with
        | none =>
          rw [hm] at h
          obtain ⟨j', h1, h2, h3⟩ := closeP_ok h
          cases hi2 : itemP s (i + 1) with
          | error f => rw [hi2] at h1; cases h1
          | ok t =>
            obtain ⟨it, j''⟩ := t
            rw [hi2] at h1
            have := itemP_w hi2
            cases h1
            simp [weight, weightK]; omega
        | some kd =>
          have hlt2 : i + 1 < s.size := by
            rcases Nat.lt_or_ge (i + 1) s.size with h' | h'
            · exact h'
            · rw [peekB_out h'] at hm; cases hm
          rw [hm] at h
          obtain ⟨j', h1, h2, h3⟩ := closeP_ok h
          cases hk : kidsP (filterP s rem) s kd (s.size + 1) (i + 1 + 1) (partsOf s (i + 1) p) [] with
          | error f => rw [hk] at h1; cases h1
          | ok t =>
            obtain ⟨l, j'', q''⟩ := t
            rw [hk] at h1
            have := kidsP_w (fun a b c => filterP_ok a b c) (fun a b c => filterP_w a b c) (by omega) (by omega) hk
            cases h1
            simp [weight] at this ⊢; simp [weightK] at this; omega
end Go.Proofs.YtjmpcoedfoaebaaGreatDoor
