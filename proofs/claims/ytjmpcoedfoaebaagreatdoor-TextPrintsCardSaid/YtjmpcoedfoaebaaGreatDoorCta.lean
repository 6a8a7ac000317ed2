/- A text that is cut off: what is read of it. No program here. -/
import Derived.Test.YtjmpcoedfoaebaaGreatDoorTxx
open Go Go.RowKit
namespace Go.Proofs.YtjmpcoedfoaebaaGreatDoor

/-- A fault that a text's end may bring. -/
def BadC (k : Nat) (f : Int × Nat) : Prop := f.2 ≤ k ∧ (f.1 = 5 ∨ f.1 = 11 ∨ f.1 = 10 ∨ (f.1 = 50 ∧ f.2 < k))
theorem bad5 (k : Nat) : BadC k (5, k) := ⟨Nat.le_refl _, .inl rfl⟩
/-- Read up to j of the whole text; so of the text that is cut at k: the same, or up to its end, or a fault. -/
def CutN (k j : Nat) (r : Except (Int × Nat) Nat) : Prop := (j < k ∧ r = .ok j) ∨ (k ≤ j ∧ (r = .ok k ∨ ∃ f, r = .error f ∧ BadC k f))
def CutV {α : Type} (k : Nat) (a : α) (j : Nat) (r : Except (Int × Nat) (α × Nat)) : Prop := (j < k ∧ r = .ok (a, j)) ∨ (k ≤ j ∧ ((∃ a', r = .ok (a', k)) ∨ ∃ f, r = .error f ∧ BadC k f))
/-- One text is another, cut at k. -/
structure IsCut (s c : ByteArray) (k : Nat) : Prop where
  lt : k < s.size
  sz : c.size = k
  cut : c.data.toList = s.data.toList.take k
theorem CutN.min {k j : Nat} {r : Except (Int × Nat) Nat} (h : r = .ok (min j k)) : CutN k j r := by
  rcases Nat.lt_or_ge j k with h1 | h1
  · exact .inl ⟨h1, by rw [h, Nat.min_eq_left (Nat.le_of_lt h1)]⟩
  · exact .inr ⟨h1, .inl (by rw [h, Nat.min_eq_right h1])⟩
theorem takeWhile_take (f : UInt8 → Bool) : ∀ (l : List UInt8) (n : Nat), ((l.take n).takeWhile f).length = min (l.takeWhile f).length n
  | [], n => by simp
  | x :: l, 0 => by simp
  | x :: l, n + 1 => by
    rw [List.take_succ_cons]
    by_cases hx : f x = true
    · rw [List.takeWhile_cons_of_pos hx, List.takeWhile_cons_of_pos hx, List.length_cons, List.length_cons, takeWhile_take f l n]; omega
    · rw [List.takeWhile_cons_of_neg hx, List.takeWhile_cons_of_neg hx]; simp
theorem ext_list (s : ByteArray) (i j : Nat) : (s.extract i j).data.toList = (s.data.toList.drop i).take (j - i) := by
  rw [ByteArray.data_extract, Array.toList_extract]
  try simp [List.extract_eq_take_drop, List.extract_eq_drop_take]
section
variable {s c : ByteArray} {k : Nat}
theorem IsCut.drop (h : IsCut s c k) (i : Nat) : c.data.toList.drop i = (s.data.toList.drop i).take (k - i) := by rw [h.cut, List.drop_take]
theorem IsCut.peek (h : IsCut s c k) {i : Nat} (hi : i < k) : peekB c i = peekB s i := by
  have hd := h.drop i
  rw [at_drop (Nat.lt_trans hi h.lt), show k - i = (k - i - 1) + 1 by omega, List.take_succ_cons] at hd
  exact (peek_of hd).2.1
theorem IsCut.end0 (h : IsCut s c k) : peekB c k = 0 := peekB_out (by rw [h.sz]; exact Nat.le_refl _)
theorem IsCut.stuck (h : IsCut s c k) : stuckF c k = (5, k) := by unfold stuckF; rw [if_pos (by rw [h.sz]; exact Nat.le_refl _)]
theorem IsCut.run (h : IsCut s c k) (f : UInt8 → Bool) {i : Nat} (hi : i ≤ k) : runP c f i = min (runP s f i) k := by
  unfold runP; rw [h.drop, takeWhile_take]; omega
theorem IsCut.ext (h : IsCut s c k) {i j : Nat} (hj : j ≤ k) : c.extract i j = s.extract i j := by
  apply ByteArray.ext
  apply Array.ext'
  rw [ext_list, ext_list, h.drop, List.take_take, Nat.min_eq_left (by omega)]
theorem IsCut.take (h : IsCut s c k) {i j : Nat} {x : UInt8} (ht : takeP s i x = .ok j) (hi : i ≤ k) : (i < k ∧ takeP c i x = .ok (i + 1)) ∨ (i = k ∧ takeP c i x = .error (5, k)) := by
  unfold takeP at ht ⊢
  rcases Nat.lt_or_ge i k with h1 | h1
  · split at ht
    · rename_i h2
      exact .inl ⟨h1, by rw [if_pos ⟨by rw [h.sz]; exact h1, by rw [h.peek h1]; exact h2.2⟩]⟩
    · cases ht
  · obtain rfl : i = k := Nat.le_antisymm hi h1
    exact .inr ⟨rfl, by rw [if_neg (fun e => by have := e.1; rw [h.sz] at this; omega), h.stuck]⟩
theorem IsCut.take_end (h : IsCut s c k) (x : UInt8) : takeP c k x = .error (5, k) := by
  unfold takeP; rw [if_neg (fun e => by have := e.1; rw [h.sz] at this; omega), h.stuck]
theorem IsCut.num_end (h : IsCut s c k) : numP c k = .error (5, k) := by
  unfold numP; rw [h.end0, if_neg (by decide), h.stuck]
theorem IsCut.word_end (h : IsCut s c k) : wordP c k = .error (5, k) := by
  unfold wordP; rw [h.end0, if_neg (by decide), h.num_end]
theorem IsCut.num (h : IsCut s c k) {i j : Nat} (hn : numP s i = .ok j) (hi : i ≤ k) : CutN k j (numP c i) := by
  rcases Nat.lt_or_ge i k with h1 | h1
  · unfold numP at hn ⊢
    rw [h.peek h1]
    by_cases hd : digB (peekB s i) = true
    · rw [if_pos hd] at hn ⊢
      by_cases h0 : peekB s i = 48
      · rw [if_pos h0] at hn ⊢; cases hn
        exact CutN.min (by rw [Nat.min_eq_left (by omega)])
      · rw [if_neg h0] at hn ⊢; cases hn
        exact CutN.min (by rw [h.run _ (Nat.le_of_lt h1)])
    · rw [if_neg hd] at hn; cases hn
  · obtain rfl : i = k := Nat.le_antisymm hi h1
    have := numP_ok hn
    exact .inr ⟨by omega, .inr ⟨_, h.num_end, bad5 _⟩⟩
theorem IsCut.dots (h : IsCut s c k) : ∀ (m n : Nat) {i j : Nat}, dotsP m s i = .ok j → i ≤ k → k < i + n → CutN k j (dotsP n c i)
  | 0, _, _, _, hd, _, _ => by cases hd
  | m + 1, 0, i, j, _, hi, hn => by omega
  | m + 1, n + 1, i, j, hd, hi, hn => by
    have hlt := h.lt
    have hij := dotsP_ok (by omega) hd
    rw [dotsP_succ] at hd ⊢
    cases h1 : takeP s i 46 with
    | error f => rw [h1] at hd; cases hd
    | ok i1 =>
      rw [h1] at hd
      have he : i1 = i + 1 := (takeP_ok h1).1
      subst he
      dsimp only at hd
      rcases h.take h1 hi with ⟨h2, h3⟩ | ⟨h2, h3⟩
      · rw [h3]
        dsimp only
        cases h4 : numP s (i + 1) with
        | error f => rw [h4] at hd; cases hd
        | ok i2 =>
          rw [h4] at hd
          have hn2 := numP_ok h4
          dsimp only [nextP] at hd
          have hji : i2 ≤ j := by
            split at hd
            · have := dotsP_ok hn2.2 hd; omega
            · cases hd; omega
          rcases h.num h4 h2 with ⟨h5, h6⟩ | ⟨h5, h6 | ⟨f, h6, h7⟩⟩
          · rw [h6]
            dsimp only [nextP]
            rw [h.peek h5]
            split at hd
            · rename_i h7
              rw [if_pos h7]
              exact h.dots m n hd (by omega) (by omega)
            · rename_i h7
              rw [if_neg h7]
              cases hd
              exact .inl ⟨h5, rfl⟩
          · rw [h6]
            dsimp only [nextP]
            rw [h.end0, if_neg (by decide)]
            exact .inr ⟨by omega, .inl rfl⟩
          · rw [h6]
            exact .inr ⟨by omega, .inr ⟨f, rfl, h7⟩⟩
      · rw [h3]
        exact .inr ⟨by omega, .inr ⟨_, rfl, bad5 _⟩⟩
theorem IsCut.word (h : IsCut s c k) {i j : Nat} (hw : wordP s i = .ok j) (hi : i ≤ k) : CutN k j (wordP c i) := by
  have hij := wordP_ok hw
  rcases Nat.lt_or_ge i k with h1 | h1
  · unfold wordP at hw ⊢
    rw [h.peek h1]
    by_cases hl : letB (peekB s i) = true
    · rw [if_pos hl] at hw ⊢; cases hw
      exact CutN.min (by rw [h.run _ hi])
    · rw [if_neg hl] at hw ⊢
      cases h4 : numP s i with
      | error f => rw [h4] at hw; cases hw
      | ok i2 =>
        rw [h4] at hw
        have hn2 := numP_ok h4
        dsimp only at hw
        have hd := dotsP_ok hn2.2 hw
        rcases h.num h4 hi with ⟨h5, h6⟩ | ⟨h5, h6 | ⟨f, h6, h7⟩⟩
        · rw [h6]
          exact h.dots _ _ hw (by omega) (by rw [h.sz]; omega)
        · rw [h6]
          dsimp only
          rw [show dotsP (c.size + 1) c k = .error (5, k) by rw [dotsP_succ, h.take_end]]
          exact .inr ⟨by omega, .inr ⟨_, rfl, bad5 _⟩⟩
        · rw [h6]
          exact .inr ⟨by omega, .inr ⟨f, rfl, h7⟩⟩
  · obtain rfl : i = k := Nat.le_antisymm hi h1
    exact .inr ⟨by omega, .inr ⟨_, h.word_end, bad5 _⟩⟩
theorem IsCut.opts_end (h : IsCut s c k) {n : Nat} (hn : 0 < n) : optsP n c k = .ok k := by
  cases n with
  | zero => omega
  | succ n => rw [optsP, h.end0, if_neg (by decide)]
theorem IsCut.opts (h : IsCut s c k) : ∀ (m n : Nat) {i j : Nat}, optsP m s i = .ok j → i ≤ k → k < i + n → CutN k j (optsP n c i)
  | 0, _, _, _, hd, _, _ => by cases hd
  | m + 1, 0, i, j, _, hi, hn => by omega
  | m + 1, n + 1, i, j, hd, hi, hn => by
    have hlt := h.lt
    have hij := optsP_ok (by omega) hd
    rcases Nat.lt_or_ge i k with h1 | h1
    · unfold optsP at hd ⊢
      rw [h.peek h1]
      by_cases hc : peekB s i = 59
      · rw [if_pos hc] at hd ⊢
        rw [h.run innB (show i + 1 ≤ k by omega)]
        have hr := runP_le s innB (i + 1) (by omega)
        by_cases h2 : runP s innB (i + 1) = i + 1
        · rw [if_pos h2] at hd; cases hd
        · rw [if_neg h2] at hd
          have hj := optsP_ok hr.2 hd
          by_cases h3 : min (runP s innB (i + 1)) k = i + 1
          · rw [if_pos h3]
            have hk : k = i + 1 := by omega
            rw [← hk, h.stuck]
            exact .inr ⟨by omega, .inr ⟨_, rfl, bad5 _⟩⟩
          · rw [if_neg h3]
            rcases Nat.le_total (runP s innB (i + 1)) k with h4 | h4
            · rw [Nat.min_eq_left h4]
              exact h.opts m n hd h4 (by omega)
            · rw [Nat.min_eq_right h4, h.opts_end (by omega)]
              exact .inr ⟨by omega, .inl rfl⟩
      · rw [if_neg hc] at hd ⊢; cases hd
        exact .inl ⟨h1, rfl⟩
    · obtain rfl : i = k := Nat.le_antisymm hi h1
      rw [h.opts_end (by omega)]
      exact .inr ⟨by omega, .inl rfl⟩
theorem sinceP_is {i j e : Nat} (h : sinceP i j = .ok e) : e = j ∧ j - i ≤ 65536 := by
  unfold sinceP at h
  split at h <;> cases h
  omega
theorem sinceP_of {i j : Nat} (h : j - i ≤ 65536) : sinceP i j = .ok j := by unfold sinceP; rw [if_neg (by omega)]
theorem IsCut.desc (h : IsCut s c k) {i j : Nat} (hd : descP s i = .ok j) (hi : i ≤ k) : CutN k j (descP c i) := by
  unfold descP at hd ⊢
  cases h1 : wordP s i with
  | error f => rw [h1] at hd; cases hd
  | ok j1 =>
    rw [h1] at hd
    have hw := wordP_ok h1
    dsimp only at hd
    cases h2 : optsP (s.size + 1) s j1 with
    | error f => rw [h2] at hd; cases hd
    | ok j2 =>
      rw [h2] at hd
      have ho := optsP_ok hw.2 h2
      dsimp only [sinceOf] at hd
      obtain ⟨rfl, hs⟩ := sinceP_is hd
      rcases h.word h1 hi with ⟨h5, h6⟩ | ⟨h5, h6 | ⟨f, h6, h7⟩⟩
      · rw [h6]
        dsimp only
        rcases h.opts _ (c.size + 1) h2 (by omega) (by rw [h.sz]; omega) with ⟨h8, h9⟩ | ⟨h8, h9 | ⟨f, h9, h10⟩⟩
        · rw [h9]
          dsimp only [sinceOf]
          rw [sinceP_of hs]
          exact .inl ⟨h8, rfl⟩
        · rw [h9]
          dsimp only [sinceOf]
          rw [sinceP_of (by omega)]
          exact .inr ⟨h8, .inl rfl⟩
        · rw [h9]
          exact .inr ⟨h8, .inr ⟨f, rfl, h10⟩⟩
      · rw [h6]
        dsimp only
        rw [h.opts_end (by omega)]
        dsimp only [sinceOf]
        rw [sinceP_of (by omega)]
        exact .inr ⟨by omega, .inl rfl⟩
      · rw [h6]
        exact .inr ⟨by omega, .inr ⟨f, rfl, h7⟩⟩
theorem IsCut.desc_end (h : IsCut s c k) : descP c k = .error (5, k) := by unfold descP; rw [h.word_end]

theorem piece_part {l t : List UInt8} {n x : Nat} (h : pieceP l = .ok (t, n)) (hx : 0 < x) : (n ≤ x ∧ pieceP (l.take x) = .ok (t, n)) ∨ (x < n ∧ ∃ e, pieceP (l.take x) = .error e ∧ (e = 10 ∨ e = 11)) := by
  cases l with
  | nil => cases h
  | cons a l =>
    obtain ⟨y, rfl⟩ : ∃ y, x = y + 1 := ⟨x - 1, by omega⟩
    rw [List.take_succ_cons]
    rw [pieceP] at h ⊢
    by_cases h92 : a.toNat = 92
    · rw [if_pos h92] at h ⊢
      cases hp : pairV l with
      | none => rw [hp] at h; cases h
      | some v =>
        rw [hp] at h
        cases h
        obtain ⟨_, p, q, r, rfl, _, _⟩ := pairV_len hp
        rcases Nat.lt_or_ge y 2 with hy | hy
        · refine .inr ⟨by omega, 11, ?_, .inr rfl⟩
          have : pairV (List.take y (p :: q :: r)) = none := by
            match y, hy with
            | 0, _ => rfl
            | 1, _ => rfl
          rw [this]
        · refine .inl ⟨by omega, ?_⟩
          have : pairV (List.take y (p :: q :: r)) = some v := by
            match y, hy with
            | y + 2, _ => rw [List.take_succ_cons, List.take_succ_cons]; rw [← hp]; rfl
          rw [this]
    · rw [if_neg h92] at h ⊢
      by_cases hb : bareB a = true
      · rw [if_pos hb] at h; cases h
      · rw [if_neg hb] at h ⊢
        have he : a :: List.take y l = List.take (y + 1) (a :: l) := rfl
        rw [he]
        by_cases hf : firstP (a :: l) = 0
        · rw [if_pos hf] at h; cases h
        · rw [if_neg hf] at h
          cases h
          rcases Nat.lt_or_ge (y + 1) (firstP (a :: l)) with h1 | h1
          · refine .inr ⟨h1, 10, ?_, .inl rfl⟩
            rw [if_pos]
            refine Decidable.byContradiction fun hne => ?_
            obtain ⟨m, hm⟩ : ∃ m, firstP (List.take (y + 1) (a :: l)) = m := ⟨_, rfl⟩
            have hle := firstP_le (List.take (y + 1) (a :: l))
            have hml : m ≤ y + 1 := by rw [hm, List.length_take] at hle; omega
            have h2 := first_take ((a :: l).drop m) hne
            rw [hm, List.take_take, Nat.min_eq_left hml, List.take_append_drop] at h2
            omega
          · refine .inl ⟨h1, ?_⟩
            have h2 := first_take ((List.take (y + 1) (a :: l)).drop (firstP (a :: l))) hf
            have h3 : List.take (firstP (a :: l)) (a :: l) = List.take (firstP (a :: l)) (List.take (y + 1) (a :: l)) := by rw [List.take_take, Nat.min_eq_left h1]
            rw [h3, List.take_append_drop] at h2
            rw [if_neg (by rw [h2]; exact hf), h2, ← h3]
theorem val_grow {star : Bool} : ∀ (m : Nat) {p q : Nat} {acc b : List UInt8}, valP star m s p acc = .ok (b, q) → acc.length ≤ b.length ∧ p ≤ q
  | 0, _, _, _, _, h => by cases h
  | m + 1, p, q, acc, b, h => by
    by_cases hs : s.size ≤ p ∨ endB star (peekB s p) = true
    · rw [valP_stop hs] at h; cases h; omega
    · cases hpc : pieceP (s.data.toList.drop p) with
      | error e => rw [valP_err hs hpc] at h; cases h
      | ok tn =>
        obtain ⟨t, n⟩ := tn
        rw [valP_ok hs hpc] at h
        have := val_grow m h
        rw [List.length_append] at this
        omega
theorem IsCut.val (h : IsCut s c k) {star : Bool} : ∀ (m n : Nat) {p q : Nat} {acc b : List UInt8}, valP star m s p acc = .ok (b, q) → p ≤ k → k < p + n →
    (q < k ∧ valP star n c p acc = .ok (b, q)) ∨ (k ≤ q ∧ ((∃ b', valP star n c p acc = .ok (b', k) ∧ b'.length ≤ b.length) ∨ ∃ f, valP star n c p acc = .error f ∧ BadC k f))
  | 0, _, _, _, _, _, hv, _, _ => by cases hv
  | m + 1, 0, _, _, _, _, _, hp, hn => by omega
  | m + 1, n + 1, p, q, acc, b, hv, hp, hn => by
    have hg := val_grow _ hv
    have hlt := h.lt
    rcases Nat.lt_or_ge p k with h1 | h1
    · by_cases he : endB star (peekB s p) = true
      · rw [valP_stop (.inr he)] at hv; cases hv
        exact .inl ⟨h1, valP_stop (.inr (by rw [h.peek h1]; exact he))⟩
      · have hs1 : ¬ (s.size ≤ p ∨ endB star (peekB s p) = true) := fun e => e.elim (fun e => by omega) he
        have hs2 : ¬ (c.size ≤ p ∨ endB star (peekB c p) = true) := fun e => e.elim (fun e => by rw [h.sz] at e; omega) (by rw [h.peek h1]; exact he)
        cases hpc : pieceP (s.data.toList.drop p) with
        | error e => rw [valP_err hs1 hpc] at hv; cases hv
        | ok tn =>
          obtain ⟨t, w⟩ := tn
          rw [valP_ok hs1 hpc] at hv
          have hg2 := val_grow _ hv
          have hw := (pieceP_ok hpc).1
          rcases piece_part hpc (show 0 < k - p by omega) with ⟨h2, h3⟩ | ⟨h2, e, h3, h4⟩
          · rw [← h.drop] at h3
            rw [valP_ok hs2 h3]
            exact h.val m n hv (by omega) (by omega)
          · rw [← h.drop] at h3
            rw [valP_err hs2 h3]
            exact .inr ⟨by omega, .inr ⟨_, rfl, Nat.le_of_lt h1, h4.elim (fun e => .inr (.inr (.inl e))) (fun e => .inr (.inl e))⟩⟩
    · obtain rfl : p = k := Nat.le_antisymm hp h1
      exact .inr ⟨hg.2, .inl ⟨acc, valP_stop (.inl (by rw [h.sz]; exact Nat.le_refl _)), hg.1⟩⟩
theorem IsCut.value (h : IsCut s c k) {star : Bool} {i j : Nat} {v : ByteArray} (hv : valueP star s i = .ok (v, j)) (hi : i ≤ k) : CutV k v j (valueP star c i) := by
  unfold valueP at hv ⊢
  cases hw : valP star (s.size + 1) s i [] with
  | error f => rw [hw] at hv; cases hv
  | ok t =>
    obtain ⟨b, q⟩ := t
    rw [hw] at hv
    have hl : ¬ 65536 < b.length := fun e => by rw [lenP, if_pos e] at hv; cases hv
    rw [lenP, if_neg hl] at hv
    cases hv
    rcases h.val _ (c.size + 1) hw hi (by rw [h.sz]; omega) with ⟨h1, h2⟩ | ⟨h1, ⟨b', h2, h3⟩ | ⟨f, h2, h3⟩⟩
    · rw [h2, lenP, if_neg hl]
      exact .inl ⟨h1, rfl⟩
    · rw [h2, lenP, if_neg (by omega)]
      exact .inr ⟨h1, .inl ⟨_, rfl⟩⟩
    · rw [h2]
      exact .inr ⟨h1, .inr ⟨f, rfl, h3⟩⟩
theorem IsCut.parts_end (h : IsCut s c k) {n : Nat} {ms : List ByteArray} {fin : ByteArray} (hn : 0 < n) : partsP n c k ms fin = .ok (ms, fin, k) := by
  cases n with
  | zero => omega
  | succ n => rw [partsP, h.end0, if_neg (by decide)]
theorem IsCut.parts (h : IsCut s c k) : ∀ (m n : Nat) {j : Nat} {ms : List ByteArray} {fin : ByteArray} {l : List ByteArray} {t : ByteArray} {q : Nat}, partsP m s j ms fin = .ok (l, t, q) → j ≤ k → k < j + n →
    (q < k ∧ partsP n c j ms fin = .ok (l, t, q)) ∨ (k ≤ q ∧ ((∃ l' t', partsP n c j ms fin = .ok (l', t', k)) ∨ ∃ f, partsP n c j ms fin = .error f ∧ BadC k f))
  | 0, _, _, _, _, _, _, _, hv, _, _ => by cases hv
  | m + 1, 0, _, _, _, _, _, _, _, hp, hn => by omega
  | m + 1, n + 1, j, ms, fin, l, t, q, hv, hj, hn => by
    have hlt := h.lt
    have hle := partsP_le (by omega) hv
    rcases Nat.lt_or_ge j k with h1 | h1
    · by_cases h42 : peekB s j = 42
      · have h42' : peekB c j = 42 := by rw [h.peek h1]; exact h42
        cases hw : valueP true s (j + 1) with
        | error f => rw [partsP_err h42 hw] at hv; cases hv
        | ok u =>
          obtain ⟨u, j2⟩ := u
          rw [partsP_ok h42 hw] at hv
          have hu := valueP_le (by omega) hw
          have hle2 := partsP_le hu.2.1 hv
          rcases h.value hw (by omega) with ⟨h2, h3⟩ | ⟨h2, ⟨v', h3⟩ | ⟨f, h3, h4⟩⟩
          · rw [partsP_ok h42' h3]
            exact h.parts m n hv (by omega) (by omega)
          · rw [partsP_ok h42' h3, h.parts_end (by omega)]
            exact .inr ⟨Nat.le_trans h2 hle2.1, .inl ⟨_, _, rfl⟩⟩
          · rw [partsP_err h42' h3]
            exact .inr ⟨Nat.le_trans h2 hle2.1, .inr ⟨f, rfl, h4⟩⟩
      · rw [partsP_stop h42] at hv; cases hv
        exact .inl ⟨h1, partsP_stop (by rw [h.peek h1]; exact h42)⟩
    · obtain rfl : j = k := Nat.le_antisymm hj h1
      exact .inr ⟨hle.1, .inl ⟨_, _, h.parts_end (by omega)⟩⟩
theorem IsCut.pieces (h : IsCut s c k) {i j : Nat} {d : ByteArray} {it : Itm} (hv : piecesP s i d = .ok (it, j)) (hi : i ≤ k) : CutV k it j (piecesP c i d) := by
  have hlt := h.lt
  unfold piecesP at hv ⊢
  cases hw : valueP true s i with
  | error f => rw [hw] at hv; cases hv
  | ok u =>
    obtain ⟨v, j1⟩ := u
    rw [hw] at hv
    have hu := valueP_le (by omega) hw
    dsimp only at hv
    have hjj : j1 ≤ j := by
      split at hv
      · cases hp : partsP (s.size + 1) s j1 [] noText with
        | error f => rw [hp] at hv; cases hv
        | ok t =>
          obtain ⟨l, t, q⟩ := t
          rw [hp] at hv
          have := partsP_le hu.2.1 hp
          cases hv; omega
      · cases hv; exact Nat.le_refl _
    rcases h.value hw hi with ⟨h2, h3⟩ | ⟨h2, ⟨v', h3⟩ | ⟨f, h3, h4⟩⟩
    · rw [h3]
      dsimp only
      rw [h.peek h2]
      by_cases h42 : peekB s j1 = 42
      · rw [if_pos h42] at hv ⊢
        cases hp : partsP (s.size + 1) s j1 [] noText with
        | error f => rw [hp] at hv; cases hv
        | ok t =>
          obtain ⟨l, t, q⟩ := t
          rw [hp] at hv
          cases hv
          rcases h.parts _ (c.size + 1) hp (by omega) (by rw [h.sz]; omega) with ⟨h5, h6⟩ | ⟨h5, ⟨l', t', h6⟩ | ⟨f, h6, h7⟩⟩
          · rw [h6]; exact .inl ⟨h5, rfl⟩
          · rw [h6]; exact .inr ⟨h5, .inl ⟨_, rfl⟩⟩
          · rw [h6]; exact .inr ⟨h5, .inr ⟨f, rfl, h7⟩⟩
      · rw [if_neg h42] at hv ⊢; cases hv
        exact .inl ⟨h2, rfl⟩
    · rw [h3]
      dsimp only
      rw [h.end0, if_neg (by decide)]
      exact .inr ⟨by omega, .inl ⟨_, rfl⟩⟩
    · rw [h3]
      exact .inr ⟨by omega, .inr ⟨f, rfl, h4⟩⟩
theorem IsCut.cmp (h : IsCut s c k) {i j : Nat} {kd : Int} {d : ByteArray} {it : Itm} (hv : cmpItm kd d (valueP false s i) = .ok (it, j)) (hi : i ≤ k) : CutV k it j (cmpItm kd d (valueP false c i)) := by
  cases hw : valueP false s i with
  | error f => rw [hw] at hv; cases hv
  | ok u =>
    obtain ⟨v, j1⟩ := u
    rw [hw] at hv
    cases hv
    rcases h.value hw hi with ⟨h2, h3⟩ | ⟨h2, ⟨v', h3⟩ | ⟨f, h3, h4⟩⟩
    · rw [h3]; exact .inl ⟨h2, rfl⟩
    · rw [h3]; exact .inr ⟨h2, .inl ⟨_, rfl⟩⟩
    · rw [h3]; exact .inr ⟨h2, .inr ⟨f, rfl, h4⟩⟩
theorem IsCut.rules (h : IsCut s c k) {d : ByteArray} : ∀ (m n : Nat) {j : Nat} {ru : ByteArray} {dn : Bool} {r : ByteArray} {x : Bool} {q : Nat}, rulesP m s d j ru dn = .ok (r, x, q) → j ≤ k → k < j + n →
    (q < k ∧ rulesP n c d j ru dn = .ok (r, x, q)) ∨ (k ≤ q ∧ ∃ f, rulesP n c d j ru dn = .error f ∧ BadC k f)
  | 0, _, _, _, _, _, _, _, hv, _, _ => by cases hv
  | m + 1, 0, _, _, _, _, _, _, _, hp, hn => by omega
  | m + 1, n + 1, j, ru, dn, r, x, q, hv, hj, hn => by
    have hlt := h.lt
    have hle := rulesP_le (by omega) hv
    rcases Nat.lt_or_ge j k with h1 | h1
    · rw [rulesP] at hv ⊢
      rw [h.peek h1]
      by_cases hc : peekB s j ≠ 61 ∨ (d = noText ∧ ru = noText)
      · rw [if_pos hc] at hv ⊢
        by_cases hr : ru ≠ noText
        · rw [if_pos hr] at hv; cases hv
        · rw [if_neg hr] at hv ⊢
          cases hw : wordP s j with
          | error f => rw [hw] at hv; cases hv
          | ok e =>
            rw [hw] at hv
            have hwe := wordP_ok hw
            dsimp only at hv
            cases h2 : sinceP j e with
            | error f => rw [h2] at hv; cases hv
            | ok e' =>
              obtain ⟨rfl, hs⟩ := sinceP_is h2
              rw [h2] at hv
              dsimp only at hv
              by_cases hdn : dnB (s.extract j e') = true ∧ dn = true
              · rw [if_pos hdn] at hv; cases hv
              · rw [if_neg hdn] at hv
                cases h3 : takeP s e' 58 with
                | error f => rw [h3] at hv; cases hv
                | ok q1 =>
                  rw [h3] at hv
                  have hq1 : q1 = e' + 1 := (takeP_ok h3).1
                  subst hq1
                  dsimp only at hv
                  have hqe : e' + 1 ≤ q := by
                    have h3' := (takeP_ok h3).2
                    split at hv
                    · exact (rulesP_le (by omega) hv).1
                    · exact (rulesP_le (by omega) hv).1
                  rcases h.word hw hj with ⟨h5, h6⟩ | ⟨h5, h6 | ⟨f, h6, h7⟩⟩
                  · rw [h6]
                    dsimp only
                    rw [sinceP_of hs]
                    dsimp only
                    rw [h.ext (Nat.le_of_lt h5), if_neg hdn]
                    rcases h.take h3 (Nat.le_of_lt h5) with ⟨h8, h9⟩ | ⟨h8, h9⟩
                    · rw [h9]
                      dsimp only
                      split at hv
                      · rename_i h10
                        rw [if_pos h10]
                        exact h.rules m n hv (by omega) (by omega)
                      · rename_i h10
                        rw [if_neg h10]
                        exact h.rules m n hv (by omega) (by omega)
                    · omega
                  · rw [h6]
                    dsimp only
                    rw [sinceP_of (by omega)]
                    dsimp only
                    split
                    · exact .inr ⟨by omega, _, rfl, Nat.le_of_lt h1, .inr (.inr (.inr ⟨rfl, h1⟩))⟩
                    · rw [h.take_end]
                      exact .inr ⟨by omega, _, rfl, bad5 _⟩
                  · rw [h6]
                    exact .inr ⟨by omega, f, rfl, h7⟩
      · rw [if_neg hc] at hv ⊢; cases hv
        exact .inl ⟨h1, rfl⟩
    · obtain rfl : j = k := Nat.le_antisymm hj h1
      refine .inr ⟨hle.1, (5, j), ?_, bad5 _⟩
      rw [rulesP, h.end0, if_pos (.inl (by decide)), h.stuck, h.word_end]
      split <;> rfl
theorem IsCut.rule (h : IsCut s c k) {i j : Nat} {d : ByteArray} {it : Itm} (hv : ruleP s i d = .ok (it, j)) (hi : i ≤ k) : CutV k it j (ruleP c i d) := by
  have hlt := h.lt
  unfold ruleP at hv ⊢
  cases hw : rulesP (s.size + 1) s d i noText false with
  | error f => rw [hw] at hv; cases hv
  | ok u =>
    obtain ⟨r, x, q⟩ := u
    rw [hw] at hv
    have hq := rulesP_le (by omega) hw
    dsimp only [ruleEnd] at hv
    cases hu : valueP false s (q + 1) with
    | error f => rw [hu] at hv; cases hv
    | ok u =>
      obtain ⟨v, j1⟩ := u
      rw [hu] at hv
      have hvl := valueP_le (by omega) hu
      cases hv
      rcases h.rules _ (c.size + 1) hw hi (by rw [h.sz]; omega) with ⟨h2, h3⟩ | ⟨h2, f, h3, h4⟩
      · rw [h3]
        dsimp only [ruleEnd]
        rcases h.value hu (by omega) with ⟨h5, h6⟩ | ⟨h5, ⟨v', h6⟩ | ⟨f, h6, h7⟩⟩
        · rw [h6]; exact .inl ⟨h5, rfl⟩
        · rw [h6]; exact .inr ⟨h5, .inl ⟨_, rfl⟩⟩
        · rw [h6]; exact .inr ⟨h5, .inr ⟨f, rfl, h7⟩⟩
      · rw [h3]
        exact .inr ⟨by omega, .inr ⟨f, rfl, h4⟩⟩
theorem IsCut.itemD (h : IsCut s c k) {i j : Nat} {d : ByteArray} {it : Itm} (hv : itemD s i d = .ok (it, j)) (hi : i < k) : CutV k it j (itemD c i d) := by
  unfold Go.Proofs.YtjmpcoedfoaebaaGreatDoor.itemD at hv ⊢
  rw [h.peek hi]
  by_cases h58 : peekB s i = 58
  · rw [if_pos h58] at hv ⊢
    exact h.rule hv hi
  · rw [if_neg h58] at hv ⊢
    by_cases h61 : peekB s i = 61
    · rw [if_pos h61] at hv ⊢
      exact h.pieces hv hi
    · rw [if_neg h61] at hv ⊢
      cases hc : comparedP (peekB s i) with
      | none => rw [hc] at hv; cases hv
      | some kd =>
        rw [hc] at hv
        dsimp only [twoP] at hv ⊢
        cases ht : takeP s (i + 1) 61 with
        | error f => rw [ht] at hv; cases hv
        | ok q =>
          rw [ht] at hv
          have hq : q = i + 1 + 1 := (takeP_ok ht).1
          have hq2 := (takeP_ok ht).2
          subst hq
          have hjl := cmpItm_le (by omega) hv
          rcases h.take ht hi with ⟨h8, h9⟩ | ⟨h8, h9⟩
          · rw [h9]
            exact h.cmp hv (by omega)
          · rw [h9]
            exact .inr ⟨by omega, .inr ⟨_, rfl, bad5 _⟩⟩
theorem IsCut.itemD_end (h : IsCut s c k) (d : ByteArray) : Go.Proofs.YtjmpcoedfoaebaaGreatDoor.itemD c k d = .error (5, k) := by
  unfold Go.Proofs.YtjmpcoedfoaebaaGreatDoor.itemD
  rw [h.end0, if_neg (by decide), if_neg (by decide), h.stuck]
  rfl
theorem IsCut.item (h : IsCut s c k) {i j : Nat} {it : Itm} (hv : itemP s i = .ok (it, j)) (hi : i ≤ k) : CutV k it j (itemP c i) := by
  have hle := itemP_le hv
  rcases Nat.lt_or_ge i k with h1 | h1
  · unfold itemP at hv ⊢
    rw [h.peek h1]
    by_cases h58 : peekB s i = 58
    · rw [if_pos h58] at hv ⊢
      exact h.itemD hv h1
    · rw [if_neg h58] at hv ⊢
      cases hd : descP s i with
      | error f => rw [hd] at hv; cases hv
      | ok j1 =>
        rw [hd] at hv
        dsimp only at hv
        have hl2 := itemD_le hv
        rcases h.desc hd hi with ⟨h5, h6⟩ | ⟨h5, h6 | ⟨f, h6, h7⟩⟩
        · rw [h6]
          dsimp only
          rw [h.ext (Nat.le_of_lt h5)]
          exact h.itemD hv h5
        · rw [h6]
          dsimp only
          rw [h.itemD_end]
          exact .inr ⟨by omega, .inr ⟨_, rfl, bad5 _⟩⟩
        · rw [h6]
          exact .inr ⟨by omega, .inr ⟨f, rfl, h7⟩⟩
  · obtain rfl : i = k := Nat.le_antisymm hi h1
    refine .inr ⟨by omega, .inr ⟨(5, i), ?_, bad5 _⟩⟩
    unfold itemP
    rw [h.end0, if_neg (by decide), h.desc_end]
/-- A filter is read up to j: so of the text that is cut. -/
def CutF (k : Nat) (g : Flt) (j q : Nat) (r : Except (Int × Nat) (Flt × Nat × Nat)) : Prop := (j ≤ k ∧ r = .ok (g, j, q)) ∨ (k < j ∧ ∃ f, r = .error f ∧ BadC k f)
def CutK {α : Type} (k : Nat) (g : α) (j q : Nat) (r : Except (Int × Nat) (α × Nat × Nat)) : Prop := (j < k ∧ r = .ok (g, j, q)) ∨ (k ≤ j ∧ ((∃ g' q', r = .ok (g', k, q')) ∨ ∃ f, r = .error f ∧ BadC k f))
theorem IsCut.close (h : IsCut s c k) {x x' : Except (Int × Nat) (Flt × Nat × Nat)} {g : Flt} {j q : Nat} (hc : closeP s x = .ok (g, j, q)) (hx : ∀ j', x = .ok (g, j', q) → CutK k g j' q x') : CutF k g j q (closeP c x') := by
  obtain ⟨j', h1, rfl, h3⟩ := closeP_ok hc
  have ht : takeP s j' 41 = .ok (j' + 1) := by
    rw [h1] at hc
    unfold closeP at hc
    dsimp only at hc
    cases ht : takeP s j' 41 with
    | error f => rw [ht] at hc; cases hc
    | ok q => rw [(takeP_ok ht).1]
  rcases hx j' h1 with ⟨h4, h5⟩ | ⟨h4, ⟨g', q', h5⟩ | ⟨f, h5, h6⟩⟩
  · rcases h.take ht (Nat.le_of_lt h4) with ⟨h8, h9⟩ | ⟨h8, h9⟩
    · refine .inl ⟨h8, ?_⟩
      rw [h5]; unfold closeP; dsimp only; rw [h9]
    · omega
  · refine .inr ⟨by omega, (5, k), ?_, bad5 _⟩
    rw [h5]; unfold closeP; dsimp only; rw [h.take_end]
  · refine .inr ⟨by omega, f, ?_, h6⟩
    rw [h5]; rfl
theorem IsCut.kids (h : IsCut s c k) {f f' : Nat → Nat → Except (Int × Nat) (Flt × Nat × Nat)} {kind : Int} (hf : ∀ {i p g j q}, i ≤ s.size → p ≤ 65536 → f i p = .ok (g, j, q) → i < j ∧ j ≤ s.size ∧ p ≤ q ∧ q ≤ 65536)
    (hff : ∀ {i p g j q}, i ≤ k → p ≤ 65536 → f i p = .ok (g, j, q) → CutF k g j q (f' i p)) :
    ∀ (m n : Nat) {i p : Nat} {acc l : List Flt} {j q : Nat}, kidsP f s kind m i p acc = .ok (l, j, q) → i ≤ k → p ≤ 65536 → k < i + n → CutK k l j q (kidsP f' c kind n i p acc)
  | 0, _, _, _, _, _, _, _, hv, _, _, _ => by cases hv
  | m + 1, 0, _, _, _, _, _, _, _, hp, _, hn => by omega
  | m + 1, n + 1, i, p, acc, l, j, q, hv, hi, hp, hn => by
    have hlt := h.lt
    rw [kidsP] at hv ⊢
    cases hr : f i p with
    | error e => rw [hr] at hv; cases hv
    | ok t =>
      obtain ⟨g, j1, q1⟩ := t
      rw [hr] at hv
      dsimp only at hv
      have h1 := hf (by omega) hp hr
      have hjj : j1 ≤ j := by
        split at hv
        · cases hv; exact Nat.le_refl _
        · exact Nat.le_of_lt (kidsP_ok hf h1.2.1 h1.2.2.2 hv).1
      rcases hff hi hp hr with ⟨h2, h3⟩ | ⟨h2, e, h3, h4⟩
      · rw [h3]
        dsimp only
        by_cases hk : kind = 2
        · rw [if_pos (.inl hk)] at hv ⊢
          cases hv
          rcases Nat.lt_or_ge j k with h5 | h5
          · exact .inl ⟨h5, rfl⟩
          · obtain rfl : j = k := Nat.le_antisymm h2 h5
            exact .inr ⟨h5, .inl ⟨_, _, rfl⟩⟩
        · rcases Nat.lt_or_ge j1 k with h5 | h5
          · rw [h.peek h5]
            split at hv
            · rename_i h6
              rw [if_pos h6]
              cases hv
              exact .inl ⟨h5, rfl⟩
            · rename_i h6
              rw [if_neg h6]
              exact h.kids hf hff m n hv h2 h1.2.2.2 (by omega)
          · obtain rfl : j1 = k := Nat.le_antisymm h2 h5
            rw [if_pos (.inr (by rw [h.end0]; decide))]
            exact .inr ⟨hjj, .inl ⟨_, _, rfl⟩⟩
      · rw [h3]
        exact .inr ⟨by omega, .inr ⟨e, rfl, h4⟩⟩
theorem IsCut.filter (h : IsCut s c k) : ∀ (rem : Nat) {i p : Nat} {g : Flt} {j q : Nat}, filterP s rem i p = .ok (g, j, q) → i ≤ k → p ≤ 65536 → CutF k g j q (filterP c rem i p)
  | 0, i, p, g, j, q, hv, _, _ => by
    rw [filterP] at hv
    cases ht : takeP s i 40 with
    | error f => rw [ht] at hv; cases hv
    | ok x => rw [ht] at hv; cases hv
  | rem + 1, i, p, g, j, q, hv, hi, hp => by
    have hlt := h.lt
    have hmo := filter_more (by omega) hp hv
    rw [filterP] at hv ⊢
    cases ht : takeP s i 40 with
    | error f => rw [ht] at hv; cases hv
    | ok x =>
      rw [ht] at hv
      have hx : x = i + 1 := (takeP_ok ht).1
      subst hx
      dsimp only at hv
      rcases h.take ht hi with ⟨h1, h2⟩ | ⟨h1, h2⟩
      · rw [h2]
        dsimp only
        by_cases hl : 65536 < partsOf s (i + 1) p
        · rw [if_pos hl] at hv; cases hv
        · rw [if_neg hl] at hv
          rcases Nat.lt_or_ge (i + 1) k with h3 | h3
          · have hpo : partsOf c (i + 1) p = partsOf s (i + 1) p := by unfold partsOf; rw [h.peek h3]
            rw [hpo, if_neg hl, h.peek h3]
            cases hm : manyP (peekB s (i + 1)) with
            | none =>
              rw [hm] at hv
              refine h.close hv fun j' hj' => ?_
              cases hit : itemP s (i + 1) with
              | error f => rw [hit] at hj'; cases hj'
              | ok t =>
                obtain ⟨it, j2⟩ := t
                rw [hit] at hj'
                cases hj'
                rcases h.item hit h1 with ⟨h5, h6⟩ | ⟨h5, ⟨v', h6⟩ | ⟨f, h6, h7⟩⟩
                · rw [h6]; exact .inl ⟨h5, rfl⟩
                · rw [h6]; exact .inr ⟨h5, .inl ⟨_, _, rfl⟩⟩
                · rw [h6]; exact .inr ⟨h5, .inr ⟨f, rfl, h7⟩⟩
            | some kd =>
              rw [hm] at hv
              refine h.close hv fun j' hj' => ?_
              cases hit : kidsP (filterP s rem) s kd (s.size + 1) (i + 1 + 1) (partsOf s (i + 1) p) [] with
              | error f => rw [hit] at hj'; cases hj'
              | ok t =>
                obtain ⟨l, j2, q2⟩ := t
                rw [hit] at hj'
                cases hj'
                rcases h.kids (f' := filterP c rem) (fun a b c => filterP_ok a b c) (fun a b e => h.filter rem e a b) _ (c.size + 1) hit (by omega) (by omega) (by rw [h.sz]; omega) with ⟨h5, h6⟩ | ⟨h5, ⟨v', q', h6⟩ | ⟨f, h6, h7⟩⟩
                · rw [h6]; exact .inl ⟨h5, rfl⟩
                · rw [h6]; exact .inr ⟨h5, .inl ⟨_, _, rfl⟩⟩
                · rw [h6]; exact .inr ⟨h5, .inr ⟨f, rfl, h7⟩⟩
          · obtain rfl : i + 1 = k := Nat.le_antisymm h1 h3
            have hpo : partsOf c (i + 1) p = p + 1 := by unfold partsOf; rw [h.end0, if_neg (by decide)]
            rw [hpo, if_neg (by omega), h.end0]
            have hj2 : i + 1 < j := by
              have hv' := hv
              cases hm : manyP (peekB s (i + 1)) with
              | none =>
                rw [hm] at hv'
                obtain ⟨j', e1, rfl, _⟩ := closeP_ok hv'
                cases hit : itemP s (i + 1) with
                | error f => rw [hit] at e1; cases e1
                | ok t =>
                  obtain ⟨it, j2⟩ := t
                  rw [hit] at e1
                  have := itemP_le hit
                  cases e1; omega
              | some kd =>
                rw [hm] at hv'
                obtain ⟨j', e1, rfl, _⟩ := closeP_ok hv'
                cases hit : kidsP (filterP s rem) s kd (s.size + 1) (i + 1 + 1) (partsOf s (i + 1) p) [] with
                | error f => rw [hit] at e1; cases e1
                | ok t =>
                  obtain ⟨l, j2, q2⟩ := t
                  rw [hit] at e1
                  have := kidsP_ok (fun a b c => filterP_ok a b c) (by omega) (by omega) hit
                  cases e1; omega
            refine .inr ⟨hj2, (5, i + 1), ?_, bad5 _⟩
            show closeP c (itemF (p + 1) (itemP c (i + 1))) = _
            have : itemP c (i + 1) = .error (5, i + 1) := by unfold itemP; rw [h.end0, if_neg (by decide), h.desc_end]
            rw [this]; rfl
      · rw [h2]
        exact .inr ⟨by omega, _, rfl, bad5 _⟩
end
/-- A filter's text, cut off: the fault. -/
theorem parse_cut {g : Flt} {k : Nat} (h : (checkR g).1 = 0) (hl : (printL g).length ≤ 1048576) (hk : k < (printL g).length) :
    ∃ f : Int × Nat, parseP (ByteArray.extract ⟨(printL g).toArray⟩ 0 k) = .error (f.1, f.2, wordAt (ByteArray.extract ⟨(printL g).toArray⟩ 0 k) f.2) ∧ BadC k f := by
  obtain ⟨s, hs⟩ : ∃ s : ByteArray, s = ⟨(printL g).toArray⟩ := ⟨_, rfl⟩
  have hz : (checkP 64 g 0 0).1 = 0 := by
    unfold checkR at h
    by_cases h' : (checkP 64 g 0 0).1 = 0
    · exact h'
    · rw [if_neg h'] at h; exact absurd h h'
  have hsz : s.size = (printL g).length := by rw [hs]; simp [ByteArray.size]
  have hd : s.data.toList.drop 0 = printL g ++ [] := by rw [hs]; simp
  have hf := filter_rt 64 g 0 0 0 [] hz hd
  rw [← hs]
  have hc : IsCut s (s.extract 0 k) k := ⟨by omega, by rw [ByteArray.size_extract]; omega, by rw [ext_list, List.drop_zero, Nat.sub_zero]⟩
  rcases hc.filter 64 hf (Nat.zero_le _) (Nat.zero_le _) with ⟨h1, _⟩ | ⟨_, f, h2, h3⟩
  · omega
  · refine ⟨f, ?_, h3⟩
    unfold parseP
    rw [if_neg (by rw [hc.sz]; omega), h2]
/-- A filter's text with something behind it: that cannot stand there. -/
theorem parse_behind {g : Flt} {b : ByteArray} (h : (checkR g).1 = 0) (hb : 0 < b.size) (hl : (printL g).length + b.size ≤ 1048576) :
    parseP ⟨(printL g ++ b.data.toList).toArray⟩ = .error (50, (printL g).length, b.extract 0 1) := by
  obtain ⟨s, hs⟩ : ∃ s : ByteArray, s = ⟨(printL g ++ b.data.toList).toArray⟩ := ⟨_, rfl⟩
  have hz : (checkP 64 g 0 0).1 = 0 := by
    unfold checkR at h
    by_cases h' : (checkP 64 g 0 0).1 = 0
    · exact h'
    · rw [if_neg h'] at h; exact absurd h h'
  have hbl : b.data.toList.length = b.size := by simp
  have hsz : s.size = (printL g).length + b.size := by
    have h1 : s.data.toList.length = (printL g).length + b.data.toList.length := by rw [hs]; simp
    rw [hbl] at h1
    simpa using h1
  have hd : s.data.toList.drop 0 = printL g ++ b.data.toList := by rw [hs]; simp
  have hf := filter_rt 64 g 0 0 0 _ hz hd
  have hst : stuckF s (0 + (printL g).length) = (50, (printL g).length) := by unfold stuckF; rw [if_neg (by omega), Nat.zero_add]
  rw [← hs]
  unfold parseP
  rw [if_neg (by omega), hf]
  dsimp only
  rw [if_pos (by omega), hst]
  have hw : wordAt s (printL g).length = b.extract 0 1 := by
    unfold wordAt
    rw [if_pos (by omega)]
    apply ByteArray.ext
    apply Array.ext'
    rw [ext_list, ext_list]
    have h2 : s.data.toList.drop (printL g).length = b.data.toList := by
      have := drop_more hd
      rwa [Nat.zero_add] at this
    rw [h2]
    simp
  rw [hw]
end Go.Proofs.YtjmpcoedfoaebaaGreatDoor
