/- An extensible rule, plain: what it is, how far it goes. No program here. -/
import Derived.Test.YtjmpcoedfoaebaaGreatDoorItm
open Go Go.RowKit
namespace Go.Proofs.YtjmpcoedfoaebaaGreatDoor

/-- Inner bytes of a word, dots among them. -/
def wrdB (c : UInt8) : Bool := innB c || c.toNat == 46
theorem wrdB_ascii {c : UInt8} (h : wrdB c = true) : c.toNat < 128 := by
  unfold wrdB innB digB letB at h
  simp only [Bool.or_eq_true, Bool.and_eq_true, decide_eq_true_eq, beq_iff_eq] at h
  omega
/-- Every byte from i up to j is one of these. -/
def AllW (s : ByteArray) (i j : Nat) : Prop := ∀ k, i ≤ k → k < j → wrdB (peekB s k) = true
theorem AllW.trans {s : ByteArray} {i j k : Nat} (h : AllW s i j) (g : AllW s j k) : AllW s i k := fun n h1 h2 => by
  rcases Nat.lt_or_ge n j with h3 | h3
  · exact h n h1 h3
  · exact g n h3 h2
theorem AllW.one {s : ByteArray} {i : Nat} (h : wrdB (peekB s i) = true) : AllW s i (i + 1) := fun n h1 h2 => by rw [show n = i by omega]; exact h
theorem allW_run {s : ByteArray} {f : UInt8 → Bool} (hf : ∀ c, f c = true → wrdB c = true) (h0 : f 0 = false) : ∀ (m i : Nat), s.size ≤ i + m → AllW s i (runP s f i)
  | 0, i, h => by rw [runP_end (by omega)]; intro k h1 h2; omega
  | m + 1, i, h => by
    rw [runP_peek h0]
    by_cases hc : f (peekB s i) = true
    · rw [if_pos hc]
      exact (AllW.one (hf _ hc)).trans (allW_run hf h0 m (i + 1) (by omega))
    · rw [if_neg hc]; intro k h1 h2; omega
theorem inn_wrd (c : UInt8) (h : innB c = true) : wrdB c = true := by unfold wrdB; rw [h]; rfl
theorem dig_wrd (c : UInt8) (h : digB c = true) : wrdB c = true := inn_wrd c (by unfold innB; rw [h]; rfl)
theorem numP_all {s : ByteArray} {i j : Nat} (h : numP s i = .ok j) : AllW s i j := by
  unfold numP at h
  by_cases hd : digB (peekB s i) = true
  · rw [if_pos hd] at h
    split at h <;> cases h
    · exact AllW.one (dig_wrd _ hd)
    · exact allW_run dig_wrd (by decide) s.size i (by omega)
  · rw [if_neg hd] at h; cases h
theorem takeP_peek {s : ByteArray} {i j : Nat} {c : UInt8} (h : takeP s i c = .ok j) : peekB s i = c := by
  unfold takeP at h
  split at h
  · rename_i h1; exact h1.2
  · cases h
theorem dotsP_all {s : ByteArray} : ∀ {k i j : Nat}, dotsP k s i = .ok j → AllW s i j
  | 0, _, _, h => by cases h
  | k + 1, i, j, h => by
    rw [dotsP_succ] at h
    cases h1 : takeP s i 46 with
    | error f => rw [h1] at h; cases h
    | ok i1 =>
      rw [h1] at h
      have hp := takeP_peek h1
      obtain ⟨rfl, hlt⟩ := takeP_ok h1
      dsimp only at h
      cases h2 : numP s (i + 1) with
      | error f => rw [h2] at h; cases h
      | ok i2 =>
        rw [h2] at h
        have a1 : AllW s i (i + 1) := AllW.one (by rw [hp]; decide)
        have a2 := a1.trans (numP_all h2)
        dsimp only [nextP] at h
        split at h
        · exact a2.trans (dotsP_all h)
        · cases h; exact a2
theorem wordP_all {s : ByteArray} {i j : Nat} (h : wordP s i = .ok j) : AllW s i j := by
  unfold wordP at h
  by_cases hl : letB (peekB s i) = true
  · rw [if_pos hl] at h
    cases h
    exact allW_run inn_wrd (by decide) s.size i (by omega)
  · rw [if_neg hl] at h
    cases h2 : numP s i with
    | error f => rw [h2] at h; cases h
    | ok i2 => rw [h2] at h; exact (numP_all h2).trans (dotsP_all h)
/-- A word's bytes are below 128. -/
theorem word_ascii {s : ByteArray} {i j : Nat} (h : wordP s i = .ok j) : ∀ (k : Nat) (b : UInt8), (s.extract i j).data.toList[k]? = some b → b.toNat < 128 := by
  intro k b hb
  have hw := wordP_ok h
  have ha := wordP_all h
  have hk : k < j - i := by
    have := (List.getElem?_eq_some_iff.1 hb).1
    simp at this
    omega
  have hx : b = peekB s (i + k) := by
    rw [peekB_in (by omega : i + k < s.size)]
    have e := (List.getElem?_eq_some_iff.1 hb).2
    rw [← e]
    simp [ByteArray.getElem_eq_getElem_data]
  rw [hx]
  exact wrdB_ascii (ha (i + k) (by omega) (by omega))

/-- Is this word dn, whatever the letters' case? -/
def dnB (t : ByteArray) : Bool := Lib.equalFold t.data.toList [100, 110]
/-- What stands between the description and the sign: the rule, dn or not. -/
def rulesP : Nat → ByteArray → ByteArray → Nat → ByteArray → Bool → Except (Int × Nat) (ByteArray × Bool × Nat)
  | 0, _, _, j, _, _ => .error (0, j)
  | k + 1, s, d, j, ru, dn =>
    if peekB s j ≠ 61 ∨ (d = noText ∧ ru = noText) then
      if ru ≠ noText then .error (stuckF s j) else
        match wordP s j with
        | .error f => .error f
        | .ok e => match sinceP j e with
          | .error f => .error f
          | .ok e => if dnB (s.extract j e) = true ∧ dn = true then .error (50, j) else
              match takeP s e 58 with
              | .error f => .error f
              | .ok q => if dnB (s.extract j e) = true then rulesP k s d q ru true else rulesP k s d q (s.extract j e) dn
    else .ok (ru, dn, j)
/-- .. and the value behind the sign. -/
def valItm (d ru : ByteArray) (dn : Bool) : Except (Int × Nat) (ByteArray × Nat) → Except (Int × Nat) (Itm × Nat)
  | .error f => .error f
  | .ok (v, q) => .ok (⟨9, d, v, noText, [], noText, ru, dn⟩, q)
def ruleEnd (s d : ByteArray) : Except (Int × Nat) (ByteArray × Bool × Nat) → Except (Int × Nat) (Itm × Nat)
  | .error f => .error f
  | .ok (ru, dn, j) => valItm d ru dn (valueP false s (j + 1))
/-- An extensible item behind the description and the first sign. -/
def ruleP (s : ByteArray) (i : Nat) (d : ByteArray) : Except (Int × Nat) (Itm × Nat) := ruleEnd s d (rulesP (s.size + 1) s d i noText false)
end Go.Proofs.YtjmpcoedfoaebaaGreatDoor
