/- The grammar, plain: how far each part of a filter's text goes, or the fault. No program here. -/
import Derived.Test.YtjmpcoedfoaebaaGreatDoorBase
open Go Go.RowKit
namespace Go.Proofs.YtjmpcoedfoaebaaGreatDoor

/-- How far bytes of a sort go on. -/
def runP (s : ByteArray) (f : UInt8 → Bool) (i : Nat) : Nat := i + ((s.data.toList.drop i).takeWhile f).length
theorem drop_at (s : ByteArray) (i : Nat) (h : i < s.size) : s.data.toList.drop i = s[i] :: s.data.toList.drop (i + 1) := by
  rw [List.drop_eq_getElem_cons (by simpa using h)]; rfl
theorem runP_yes {s : ByteArray} {f : UInt8 → Bool} {i : Nat} (h : i < s.size) (hf : f s[i] = true) : runP s f i = runP s f (i + 1) := by
  unfold runP; rw [drop_at s i h, List.takeWhile_cons_of_pos hf]; simp; omega
theorem runP_no {s : ByteArray} {f : UInt8 → Bool} {i : Nat} (h : i < s.size) (hf : f s[i] = false) : runP s f i = i := by
  unfold runP; rw [drop_at s i h, List.takeWhile_cons_of_neg (by simp [hf])]; simp
theorem runP_end {s : ByteArray} {f : UInt8 → Bool} {i : Nat} (h : s.size ≤ i) : runP s f i = i := by
  unfold runP; rw [List.drop_of_length_le (by simpa using h)]; simp
theorem runP_le (s : ByteArray) (f : UInt8 → Bool) (i : Nat) (h : i ≤ s.size) : i ≤ runP s f i ∧ runP s f i ≤ s.size := by
  unfold runP
  have h1 : ((s.data.toList.drop i).takeWhile f).length ≤ (s.data.toList.drop i).length := (List.takeWhile_sublist _).length_le
  have h2 : (s.data.toList.drop i).length = s.size - i := by simp
  omega
theorem peekB_in {s : ByteArray} {i : Nat} (h : i < s.size) : peekB s i = s[i] := by unfold peekB; rw [dif_pos h]
theorem peekB_out {s : ByteArray} {i : Nat} (h : s.size ≤ i) : peekB s i = 0 := by unfold peekB; rw [dif_neg (by omega)]
theorem peekB_lt {s : ByteArray} {i : Nat} (h : peekB s i ≠ 0) : i < s.size := by
  rcases Nat.lt_or_ge i s.size with h' | h'
  · exact h'
  · exact absurd (peekB_out h') h
theorem runP_peek {s : ByteArray} {f : UInt8 → Bool} {i : Nat} (h0 : f 0 = false) : runP s f i = if f (peekB s i) then runP s f (i + 1) else i := by
  rcases Nat.lt_or_ge i s.size with h | h
  · rw [peekB_in h]
    cases hf : f s[i]
    · simp [runP_no h hf]
    · simp [runP_yes h hf]
  · rw [peekB_out h, h0, runP_end h]; simp

/-- A number: 0, or a digit from 1 to 9 and then digits. -/
def numP (s : ByteArray) (i : Nat) : Except (Int × Nat) Nat :=
  if digB (peekB s i) = true then (if peekB s i = 48 then .ok (i + 1) else .ok (runP s digB i)) else .error (stuckF s i)
theorem numP_ok {s : ByteArray} {i j : Nat} (h : numP s i = .ok j) : i < j ∧ j ≤ s.size := by
  unfold numP at h
  by_cases hd : digB (peekB s i) = true
  · have hlt : i < s.size := peekB_lt (fun e => by rw [e] at hd; simp [digB] at hd)
    rw [if_pos hd] at h
    split at h <;> cases h
    · omega
    · rw [runP_yes hlt (by rw [← peekB_in hlt]; exact hd)]
      have := runP_le s digB (i + 1) (by omega)
      omega
  · rw [if_neg hd] at h; cases h
theorem takeP_ok {s : ByteArray} {i j : Nat} {c : UInt8} (h : takeP s i c = .ok j) : j = i + 1 ∧ i < s.size := by
  unfold takeP at h
  split at h
  · rename_i h1; cases h; exact ⟨rfl, h1.1⟩
  · cases h

/-- What must follow a number of a word: a dot and a number, one pair at least. -/
def dotsP : Nat → ByteArray → Nat → Except (Int × Nat) Nat
  | 0, _, i => .error (0, i)
  | k + 1, s, i => match takeP s i 46 with
    | .error f => .error f
    | .ok i1 => match numP s i1 with
      | .error f => .error f
      | .ok i2 => if peekB s i2 = 46 then dotsP k s i2 else .ok i2
/-- Behind a dot and a number: more, if a dot stands next. -/
def nextP (k : Nat) (s : ByteArray) (i : Nat) : Except (Int × Nat) Nat := if peekB s i = 46 then dotsP k s i else .ok i
theorem dotsP_succ (k : Nat) (s : ByteArray) (i : Nat) : dotsP (k + 1) s i = match takeP s i 46 with
    | .error f => .error f
    | .ok i1 => match numP s i1 with
      | .error f => .error f
      | .ok i2 => nextP k s i2 := rfl
theorem dotsP_ok {s : ByteArray} : ∀ {k i j : Nat}, i ≤ s.size → dotsP k s i = .ok j → i < j ∧ j ≤ s.size
  | 0, _, _, _, h => by cases h
  | k + 1, i, j, _, h => by
    rw [dotsP_succ] at h
    cases h1 : takeP s i 46 with
    | error f => rw [h1] at h; cases h
    | ok i1 =>
      rw [h1] at h
      obtain ⟨rfl, hlt⟩ := takeP_ok h1
      dsimp only at h
      cases h2 : numP s (i + 1) with
      | error f => rw [h2] at h; cases h
      | ok i2 =>
        rw [h2] at h
        have hn := numP_ok h2
        dsimp only [nextP] at h
        split at h
        · have := dotsP_ok hn.2 h; omega
        · cases h; omega
/-- Fuel beyond the text's end makes no difference. -/
theorem dotsP_fuel {s : ByteArray} : ∀ (k : Nat) {i : Nat}, i ≤ s.size → s.size < i + k → ∀ k', s.size < i + k' → dotsP k s i = dotsP k' s i
  | 0, _, h, h', _, _ => by omega
  | k + 1, i, h, h', 0, h'' => by omega
  | k + 1, i, h, h', k' + 1, h'' => by
    rw [dotsP_succ, dotsP_succ]
    cases h1 : takeP s i 46 with
    | error f => rfl
    | ok i1 =>
      obtain ⟨rfl, hlt⟩ := takeP_ok h1
      dsimp only
      cases h2 : numP s (i + 1) with
      | error f => rfl
      | ok i2 =>
        have hn := numP_ok h2
        dsimp only [nextP]
        split
        · exact dotsP_fuel k hn.2 (by omega) k' (by omega)
        · rfl
/-- A word. -/
def wordP (s : ByteArray) (i : Nat) : Except (Int × Nat) Nat :=
  if letB (peekB s i) = true then .ok (runP s innB i) else
    match numP s i with
    | .error f => .error f
    | .ok j => dotsP (s.size + 1) s j
theorem wordP_ok {s : ByteArray} {i j : Nat} (h : wordP s i = .ok j) : i < j ∧ j ≤ s.size := by
  unfold wordP at h
  by_cases hl : letB (peekB s i) = true
  · have hlt : i < s.size := peekB_lt (fun e => by rw [e] at hl; simp [letB] at hl)
    rw [if_pos hl] at h
    cases h
    rw [runP_yes hlt (by rw [← peekB_in hlt]; simp [innB, hl])]
    have := runP_le s innB (i + 1) (by omega)
    omega
  · rw [if_neg hl] at h
    cases h2 : numP s i with
    | error f => rw [h2] at h; cases h
    | ok i2 =>
      rw [h2] at h
      have hn := numP_ok h2
      have := dotsP_ok hn.2 h
      omega
/-- Options: as long as a ; stands next. -/
def optsP : Nat → ByteArray → Nat → Except (Int × Nat) Nat
  | 0, _, i => .error (0, i)
  | k + 1, s, i => if peekB s i = 59 then (if runP s innB (i + 1) = i + 1 then .error (stuckF s (i + 1)) else optsP k s (runP s innB (i + 1))) else .ok i
theorem optsP_ok {s : ByteArray} : ∀ {k i j : Nat}, i ≤ s.size → optsP k s i = .ok j → i ≤ j ∧ j ≤ s.size
  | 0, _, _, _, h => by cases h
  | k + 1, i, j, hi, h => by
    unfold optsP at h
    by_cases hc : peekB s i = 59
    · have hlt : i < s.size := peekB_lt (by rw [hc]; decide)
      rw [if_pos hc] at h
      split at h
      · cases h
      · have := runP_le s innB (i + 1) (by omega)
        have := optsP_ok this.2 h
        omega
    · rw [if_neg hc] at h; cases h; omega
/-- What was read since a place, if it is not too long. -/
def sinceP (i j : Nat) : Except (Int × Nat) Nat := if 65536 < j - i then .error (3, i) else .ok j
def sinceOf (i : Nat) : Except (Int × Nat) Nat → Except (Int × Nat) Nat
  | .error f => .error f
  | .ok k => sinceP i k
/-- A description. -/
def descP (s : ByteArray) (i : Nat) : Except (Int × Nat) Nat :=
  match wordP s i with
  | .error f => .error f
  | .ok j => sinceOf i (optsP (s.size + 1) s j)
theorem descP_ok {s : ByteArray} {i j : Nat} (h : descP s i = .ok j) : i < j ∧ j ≤ s.size := by
  unfold descP at h
  cases h1 : wordP s i with
  | error f => rw [h1] at h; cases h
  | ok j1 =>
    rw [h1] at h
    have w := wordP_ok h1
    dsimp only at h
    cases h2 : optsP (s.size + 1) s j1 with
    | error f => rw [h2] at h; cases h
    | ok k =>
      rw [h2] at h
      have o := optsP_ok w.2 h2
      dsimp only [sinceOf, sinceP] at h
      split at h <;> cases h
      omega
/-- The text that was read, and how far. -/
def textOf (s : ByteArray) (i : Nat) : Except (Int × Nat) Nat → Except (Int × Nat) (ByteArray × Nat)
  | .ok j => .ok (s.extract i j, j)
  | .error f => .error f
/-- Fuel beyond the text's end makes no difference. -/
theorem optsP_fuel {s : ByteArray} : ∀ (k : Nat) {i : Nat}, i ≤ s.size → s.size < i + k → ∀ k', s.size < i + k' → optsP k s i = optsP k' s i
  | 0, _, h, h', _, _ => by omega
  | k + 1, i, h, h', 0, h'' => by omega
  | k + 1, i, h, h', k' + 1, h'' => by
    unfold optsP
    by_cases hc : peekB s i = 59
    · have hlt : i < s.size := peekB_lt (by rw [hc]; decide)
      rw [if_pos hc, if_pos hc]
      have := runP_le s innB (i + 1) (by omega)
      split
      · rfl
      · exact optsP_fuel k this.2 (by omega) k' (by omega)
    · rw [if_neg hc, if_neg hc]
end Go.Proofs.YtjmpcoedfoaebaaGreatDoor
