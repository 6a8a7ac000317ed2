/- The faults of a filter's text: each lies within the text, at its end just if the text ends too early; none is zero. No program here. -/
import Derived.Test.YtjmpcoedfoaebaaGreatDoorWgt
open Go Go.RowKit
namespace Go.Proofs.YtjmpcoedfoaebaaGreatDoor

/-- If there is a fault, it lies within the text, at its end just if the text ends too early. -/
def Gd {α : Type} (s : ByteArray) (r : Except (Int × Nat) α) : Prop := ∀ f, r = .error f → f.2 ≤ s.size ∧ (f.1 = 5 ↔ f.2 = s.size) ∧ f.1 ≠ 0
section
variable {α β : Type} {s : ByteArray}
theorem Gd.ok (a : α) : Gd s (.ok a : Except (Int × Nat) α) := fun _ h => by cases h
theorem gd_at {i : Nat} {c : Int} (hi : i < s.size) (h5 : c ≠ 5) (h0 : c ≠ 0) : Gd s (.error (c, i) : Except (Int × Nat) α) := fun f h => by
  cases h
  exact ⟨Nat.le_of_lt hi, ⟨fun h => absurd h h5, fun h => by dsimp only at h; omega⟩, h0⟩
theorem gd_stuck {i : Nat} (hi : i ≤ s.size) : Gd s (.error (stuckF s i) : Except (Int × Nat) α) := fun f h => by
  cases h
  unfold stuckF
  split
  · exact ⟨hi, ⟨fun _ => by dsimp only; omega, fun _ => rfl⟩, by dsimp only; omega⟩
  · exact ⟨hi, ⟨fun h => by dsimp only at h; omega, fun h => by dsimp only at h; omega⟩, by dsimp only; omega⟩
theorem Gd.re {f : Int × Nat} (h : Gd s (.error f : Except (Int × Nat) α)) : Gd s (.error f : Except (Int × Nat) β) := fun g hg => by cases hg; exact h f rfl
theorem gd_take {i : Nat} {c : UInt8} (hi : i ≤ s.size) : Gd s (takeP s i c) := by
  unfold takeP
  split
  · exact Gd.ok _
  · exact gd_stuck hi
theorem gd_num {i : Nat} (hi : i ≤ s.size) : Gd s (numP s i) := by
  unfold numP
  split
  · split <;> exact Gd.ok _
  · exact gd_stuck hi
theorem gd_dots : ∀ (k : Nat) {i : Nat}, i ≤ s.size → s.size < i + k → Gd s (dotsP k s i)
  | 0, _, h, h' => by omega
  | k + 1, i, h, h' => by
    rw [dotsP_succ]
    cases h1 : takeP s i 46 with
    | error f => exact (h1 ▸ gd_take h : Gd s (.error f : Except (Int × Nat) Nat)).re
    | ok i1 =>
      obtain ⟨rfl, hlt⟩ := takeP_ok h1
      dsimp only
      cases h2 : numP s (i + 1) with
      | error f => exact (h2 ▸ gd_num hlt : Gd s (.error f : Except (Int × Nat) Nat)).re
      | ok i2 =>
        have hn := numP_ok h2
        dsimp only [nextP]
        split
        · exact gd_dots k hn.2 (by omega)
        · exact Gd.ok _
theorem gd_word {i : Nat} (hi : i ≤ s.size) : Gd s (wordP s i) := by
  unfold wordP
  split
  · exact Gd.ok _
  · cases h2 : numP s i with
    | error f => exact (h2 ▸ gd_num hi : Gd s (.error f : Except (Int × Nat) Nat)).re
    | ok i2 => exact gd_dots _ (numP_ok h2).2 (by omega)
theorem gd_opts : ∀ (k : Nat) {i : Nat}, i ≤ s.size → s.size < i + k → Gd s (optsP k s i)
  | 0, _, h, h' => by omega
  | k + 1, i, h, h' => by
    unfold optsP
    by_cases hc : peekB s i = 59
    · have hlt : i < s.size := peekB_lt (by rw [hc]; decide)
      rw [if_pos hc]
      have := runP_le s innB (i + 1) (by omega)
      split
      · exact gd_stuck hlt
      · exact gd_opts k this.2 (by omega)
    · rw [if_neg hc]; exact Gd.ok _
theorem gd_since {i j : Nat} (hj : j ≤ s.size) : Gd s (sinceP i j) := by
  unfold sinceP
  split
  · exact gd_at (by omega) (by decide) (by decide)
  · exact Gd.ok _
theorem gd_desc {i : Nat} (hi : i ≤ s.size) : Gd s (descP s i) := by
  unfold descP
  cases h1 : wordP s i with
  | error f => exact (h1 ▸ gd_word hi : Gd s (.error f : Except (Int × Nat) Nat)).re
  | ok j =>
    have hw := wordP_ok h1
    dsimp only
    cases h2 : optsP (s.size + 1) s j with
    | error f => exact (h2 ▸ gd_opts _ hw.2 (by omega) : Gd s (.error f : Except (Int × Nat) Nat))
    | ok k => exact gd_since (optsP_ok hw.2 h2).2
theorem pieceP_bad {l : List UInt8} {e : Int} (h : pieceP l = .error e) (hl : l ≠ []) : e = 10 ∨ e = 11 ∨ e = 12 := by
  unfold pieceP at h
  split at h
  · exact absurd rfl hl
  · split at h
    · split at h <;> cases h
      exact .inr (.inl rfl)
    · split at h
      · cases h; exact .inr (.inr rfl)
      · split at h <;> cases h
        exact .inl rfl
theorem gd_val {star : Bool} : ∀ (k : Nat) {p : Nat} {acc : List UInt8}, p ≤ s.size → s.size < p + k → Gd s (valP star k s p acc)
  | 0, _, _, h, h' => by omega
  | k + 1, p, acc, h, h' => by
    by_cases hs : s.size ≤ p ∨ endB star (peekB s p) = true
    · rw [valP_stop hs]; exact Gd.ok _
    · have hlt : p < s.size := by omega
      cases hp : pieceP (s.data.toList.drop p) with
      | error e =>
        rw [valP_err hs hp]
        have := pieceP_bad hp (by rw [drop_at s p hlt]; exact List.cons_ne_nil _ _)
        exact gd_at hlt (by omega) (by omega)
      | ok tn =>
        obtain ⟨t, n⟩ := tn
        rw [valP_ok hs hp]
        obtain ⟨h1, h2, _, _⟩ := pieceP_ok hp
        rw [List.length_drop] at h2
        have h3 : s.data.toList.length = s.size := by simp
        exact gd_val k (by omega) (by omega)
theorem val_len {star : Bool} : ∀ (k : Nat) {p q : Nat} {acc b : List UInt8}, p ≤ s.size → valP star k s p acc = .ok (b, q) → b.length + p ≤ acc.length + q ∧ q ≤ s.size
  | 0, _, _, _, _, _, h => by cases h
  | k + 1, p, q, acc, b, hp, h => by
    by_cases hs : s.size ≤ p ∨ endB star (peekB s p) = true
    · rw [valP_stop hs] at h; cases h; omega
    · have hlt : p < s.size := by omega
      cases hpc : pieceP (s.data.toList.drop p) with
      | error e => rw [valP_err hs hpc] at h; cases h
      | ok tn =>
        obtain ⟨t, n⟩ := tn
        rw [valP_ok hs hpc] at h
        obtain ⟨h1, h2, h4, _⟩ := pieceP_ok hpc
        rw [List.length_drop] at h2
        have h3 : s.data.toList.length = s.size := by simp
        have := val_len k (p := p + n) (by omega) h
        rw [List.length_append] at this
        omega
theorem gd_value {star : Bool} {i : Nat} (hi : i ≤ s.size) : Gd s (valueP star s i) := by
  unfold valueP
  cases hv : valP star (s.size + 1) s i [] with
  | error f => exact (hv ▸ gd_val _ hi (by omega) : Gd s (.error f : Except (Int × Nat) (List UInt8 × Nat))).re
  | ok t =>
    obtain ⟨b, j⟩ := t
    have := val_len _ hi hv
    show Gd s (if 65536 < b.length then .error (3, i) else .ok ((⟨b.toArray⟩ : ByteArray), j))
    split
    · simp at this; exact gd_at (by omega) (by decide) (by decide)
    · exact Gd.ok _
theorem gd_parts : ∀ (k : Nat) {j : Nat} {ms : List ByteArray} {fin : ByteArray}, j ≤ s.size → s.size < j + k → Gd s (partsP k s j ms fin)
  | 0, _, _, _, h, h' => by omega
  | k + 1, j, ms, fin, h, h' => by
    by_cases h42 : peekB s j = 42
    · have hlt : j < s.size := peekB_lt (by rw [h42]; decide)
      cases hv : valueP true s (j + 1) with
      | error f => rw [partsP_err h42 hv]; exact (hv ▸ gd_value hlt : Gd s (.error f : Except (Int × Nat) (ByteArray × Nat))).re
      | ok u =>
        rw [partsP_ok h42 hv]
        have h1 := valueP_le (t := u.1) (j := u.2) (by omega) hv
        exact gd_parts k h1.2.1 (by omega)
    · rw [partsP_stop h42]; exact Gd.ok _
theorem gd_pieces {d : ByteArray} {i : Nat} (hi : i ≤ s.size) : Gd s (piecesP s i d) := by
  unfold piecesP
  cases hv : valueP true s i with
  | error f => exact (hv ▸ gd_value hi : Gd s (.error f : Except (Int × Nat) (ByteArray × Nat))).re
  | ok u =>
    obtain ⟨v, j⟩ := u
    have h1 := valueP_le hi hv
    dsimp only
    split
    · cases hp : partsP (s.size + 1) s j [] noText with
      | error f => exact (hp ▸ gd_parts _ h1.2.1 (by omega) : Gd s (.error f : Except (Int × Nat) (List ByteArray × ByteArray × Nat))).re
      | ok t => obtain ⟨ms, fin, q⟩ := t; exact Gd.ok _
    · exact Gd.ok _
theorem gd_cmp {d : ByteArray} {k : Int} {i : Nat} (hi : i ≤ s.size) : Gd s (cmpItm k d (valueP false s i)) := by
  cases hv : valueP false s i with
  | error f => exact (hv ▸ gd_value hi : Gd s (.error f : Except (Int × Nat) (ByteArray × Nat))).re
  | ok u => exact Gd.ok _
theorem gd_rules {d : ByteArray} : ∀ (k : Nat) {j : Nat} {ru : ByteArray} {dn : Bool}, j ≤ s.size → s.size < j + k → Gd s (rulesP k s d j ru dn)
  | 0, _, _, _, h, h' => by omega
  | k + 1, j, ru, dn, h, h' => by
    rw [rulesP]
    split
    · split
      · exact gd_stuck h
      · cases hw : wordP s j with
        | error f => exact (hw ▸ gd_word h : Gd s (.error f : Except (Int × Nat) Nat)).re
        | ok e =>
          have h1 := wordP_ok hw
          dsimp only
          cases h2 : sinceP j e with
          | error f => exact (h2 ▸ gd_since h1.2 : Gd s (.error f : Except (Int × Nat) Nat)).re
          | ok e' =>
            have he : e' = e := by unfold sinceP at h2; split at h2 <;> cases h2; rfl
            subst he
            dsimp only
            split
            · exact gd_at (by omega) (by decide) (by decide)
            · cases h3 : takeP s e' 58 with
              | error f => exact (h3 ▸ gd_take h1.2 : Gd s (.error f : Except (Int × Nat) Nat)).re
              | ok q =>
                obtain ⟨rfl, hlt⟩ := takeP_ok h3
                dsimp only
                split
                · exact gd_rules k (by omega) (by omega)
                · exact gd_rules k (by omega) (by omega)
    · exact Gd.ok _
theorem gd_rule {d : ByteArray} {i : Nat} (hi : i ≤ s.size) : Gd s (ruleP s i d) := by
  unfold ruleP
  cases hr : rulesP (s.size + 1) s d i noText false with
  | error f => exact (hr ▸ gd_rules _ hi (by omega) : Gd s (.error f : Except (Int × Nat) (ByteArray × Bool × Nat))).re
  | ok t =>
    obtain ⟨ru, dn, q⟩ := t
    have h1 := rulesP_le hi hr
    dsimp only [ruleEnd]
    cases hv : valueP false s (q + 1) with
    | error f => exact (hv ▸ gd_value (by omega) : Gd s (.error f : Except (Int × Nat) (ByteArray × Nat))).re
    | ok u => exact Gd.ok _
theorem gd_itemD {d : ByteArray} {i : Nat} (hi : i ≤ s.size) : Gd s (itemD s i d) := by
  unfold itemD
  by_cases h58 : peekB s i = 58
  · have hlt : i < s.size := peekB_lt (by rw [h58]; decide)
    rw [if_pos h58]
    exact gd_rule hlt
  · rw [if_neg h58]
    by_cases h61 : peekB s i = 61
    · have hlt : i < s.size := peekB_lt (by rw [h61]; decide)
      rw [if_pos h61]
      exact gd_pieces hlt
    · rw [if_neg h61]
      cases hc : comparedP (peekB s i) with
      | none => exact gd_stuck hi
      | some k =>
        have hlt : i < s.size := peekB_lt (fun h => by rw [h] at hc; unfold comparedP at hc; simp at hc)
        dsimp only [twoP]
        cases ht : takeP s (i + 1) 61 with
        | error f => exact (ht ▸ gd_take hlt : Gd s (.error f : Except (Int × Nat) Nat)).re
        | ok q => exact gd_cmp (by have := takeP_ok ht; omega)
theorem gd_item {i : Nat} (hi : i ≤ s.size) : Gd s (itemP s i) := by
  unfold itemP
  split
  · exact gd_itemD hi
  · cases hd : descP s i with
    | error f => exact (hd ▸ gd_desc hi : Gd s (.error f : Except (Int × Nat) Nat)).re
    | ok k => exact gd_itemD (descP_ok hd).2
theorem gd_close {x : Except (Int × Nat) (Flt × Nat × Nat)} (hx : Gd s x) (hj : ∀ g j q, x = .ok (g, j, q) → j ≤ s.size) : Gd s (closeP s x) := by
  cases x with
  | error f => exact hx.re
  | ok t =>
    obtain ⟨g, j, q⟩ := t
    have hl := hj g j q rfl
    unfold closeP
    dsimp only
    cases ht : takeP s j 41 with
    | error f => exact (ht ▸ gd_take hl : Gd s (.error f : Except (Int × Nat) Nat)).re
    | ok k => exact Gd.ok _
theorem gd_kids {f : Nat → Nat → Except (Int × Nat) (Flt × Nat × Nat)} {kind : Int} (hf : ∀ {i p g j q}, i ≤ s.size → p ≤ 65536 → f i p = .ok (g, j, q) → i < j ∧ j ≤ s.size ∧ p ≤ q ∧ q ≤ 65536) (hg : ∀ {i p}, i ≤ s.size → p ≤ 65536 → Gd s (f i p)) :
    ∀ (k : Nat) {i p : Nat} {acc : List Flt}, i ≤ s.size → p ≤ 65536 → s.size < i + k → Gd s (kidsP f s kind k i p acc)
  | 0, _, _, _, h, _, h' => by omega
  | k + 1, i, p, acc, hi, hp, h' => by
    unfold kidsP
    cases hr : f i p with
    | error e => exact (hr ▸ hg hi hp : Gd s (.error e : Except (Int × Nat) (Flt × Nat × Nat))).re
    | ok t =>
      obtain ⟨g, j, q⟩ := t
      have h1 := hf hi hp hr
      dsimp only
      split
      · exact Gd.ok _
      · exact gd_kids hf hg k h1.2.1 h1.2.2.2 (by omega)
theorem gd_filter : ∀ (rem : Nat) {i p : Nat}, i ≤ s.size → p ≤ 65536 → Gd s (filterP s rem i p)
  | 0, i, p, hi, hp => by
    rw [filterP]
    cases ht : takeP s i 40 with
    | error f => exact (ht ▸ gd_take hi : Gd s (.error f : Except (Int × Nat) Nat)).re
    | ok k => exact gd_at (takeP_ok ht).2 (by decide) (by decide)
  | rem + 1, i, p, hi, hp => by
    rw [filterP]
    cases ht : takeP s i 40 with
    | error f => exact (ht ▸ gd_take hi : Gd s (.error f : Except (Int × Nat) Nat)).re
    | ok k =>
      obtain ⟨rfl, hlt⟩ := takeP_ok ht
      dsimp only
      by_cases hl : 65536 < partsOf s (i + 1) p
      · rw [if_pos hl]; exact gd_at hlt (by decide) (by decide)
      · rw [if_neg hl]
        cases hm : manyP (peekB s (i + 1)) with
        | none =>
          refine gd_close ?_ fun g j q h => ?_
          · cases hi2 : itemP s (i + 1) with
            | error f => exact (hi2 ▸ gd_item hlt : Gd s (.error f : Except (Int × Nat) (Itm × Nat))).re
            | ok t => exact Gd.ok _
          · cases hi2 : itemP s (i + 1) with
            | error f => rw [hi2] at h; cases h
            | ok t => rw [hi2] at h; cases h; exact (itemP_le hi2).2
        | some kd =>
          have hlt2 : i + 1 < s.size := by
            rcases Nat.lt_or_ge (i + 1) s.size with h' | h'
            · exact h'
            · rw [peekB_out h'] at hm; cases hm
          refine gd_close ?_ fun g j q h => ?_
          · cases hk : kidsP (filterP s rem) s kd (s.size + 1) (i + 1 + 1) (partsOf s (i + 1) p) [] with
            | error f => exact (hk ▸ gd_kids (fun a b c => filterP_ok a b c) (fun a b => gd_filter rem a b) _ (by omega) (by omega) (by omega) : Gd s (.error f : Except (Int × Nat) (List Flt × Nat × Nat))).re
            | ok t => exact Gd.ok _
          · cases hk : kidsP (filterP s rem) s kd (s.size + 1) (i + 1 + 1) (partsOf s (i + 1) p) [] with
            | error f => rw [hk] at h; cases h
            | ok t =>
              rw [hk] at h
              have := kidsP_ok (fun a b c => filterP_ok a b c) (by omega) (by omega) hk
              cases h; exact this.2.1
end
end Go.Proofs.YtjmpcoedfoaebaaGreatDoor
