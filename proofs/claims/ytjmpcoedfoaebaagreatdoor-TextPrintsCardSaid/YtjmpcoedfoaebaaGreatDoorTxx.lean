/- A word and a description: what the grammar reads is what has their form, and the other way round. No program here. What the grammar reads has the form of a word, of a description; a value that is written is read as that value. No program here. An item that is written is read as that item. No program here. A filter that is written is read as that filter; what is read may be. No program here. What is read is a filter that may be. No program here. -/
import Derived.Test.YtjmpcoedfoaebaaGreatDoorGud
import Derived.Test.YtjmpcoedfoaebaaGreatDoorFpa
import Derived.Test.YtjmpcoedfoaebaaGreatDoorPri
import Derived.Shelf.Strings.CaseAny
import Derived.Test.YtjmpcoedfoaebaaGreatDoorWrx
open Go Go.RowKit
namespace Go.Proofs.YtjmpcoedfoaebaaGreatDoor

/-! ## A text cut at a byte -/
def splC (c : UInt8) : List UInt8 → List (List UInt8)
  | [] => [[]]
  | x :: l => if x = c then [] :: splC c l else (match splC c l with | r :: rs => (x :: r) :: rs | [] => [[x]])
theorem splC_ne (c : UInt8) (l : List UInt8) : splC c l ≠ [] := by
  cases l with
  | nil => simp [splC]
  | cons x l =>
    unfold splC
    split
    · simp
    · split <;> simp
theorem index_cons_eq (c : UInt8) (l : List UInt8) : Lib.index (c :: l) [c] = 0 := by
  unfold Lib.index; simp
theorem index_cons_ne {x c : UInt8} (h : x ≠ c) (l : List UInt8) : Lib.index (x :: l) [c] = if Lib.index l [c] = -1 then -1 else Lib.index l [c] + 1 := by
  rw [Lib.index]
  have : List.isPrefixOf [c] (x :: l) = false := by
    show (c == x && _) = false
    rw [beq_false_of_ne (Ne.symm h)]; rfl
  rw [this]
  simp
theorem index_minus (c : UInt8) : ∀ l : List UInt8, Lib.index l [c] = -1 ↔ Lib.count l [c] = 0
  | [] => by simp [Lib.index, Lib.count_one]
  | x :: l => by
    by_cases h : x = c
    · subst h; rw [index_cons_eq, Lib.count_cons_eq]; constructor <;> intro h' <;> omega
    · rw [index_cons_ne h, Lib.count_cons_ne x c l h, ← index_minus c l]
      have := Lib.index_ge l [c]
      split
      · simp_all
      · constructor
        · intro h'; omega
        · intro h'; exact absurd h' ‹_›
theorem splitK_one (c : UInt8) : ∀ l : List UInt8, Lib.splitK [c] 0 (Lib.count l [c]) l = splC c l
  | [] => by rw [show Lib.count [] [c] = 0 by rw [Lib.count_one]; rfl]; rfl
  | x :: l => by
    have ih := splitK_one c l
    by_cases h : x = c
    · subst h
      rw [Lib.count_cons_eq, Nat.add_comm, Lib.splitK, index_cons_eq, splC, if_pos rfl]
      rw [if_neg (by decide)]
      show [] :: Lib.splitK [x] 0 (Lib.count l [x]) l = _
      rw [ih]
    · rw [Lib.count_cons_ne x c l h, splC, if_neg h, ← ih]
      have hge := Lib.index_ge l [c]
      cases hk : Lib.count l [c] with
      | zero => rfl
      | succ k =>
        have hne : Lib.index l [c] ≠ -1 := fun e => by have := (index_minus c l).1 e; omega
        obtain ⟨i, hi⟩ := Int.eq_ofNat_of_zero_le (show 0 ≤ Lib.index l [c] by omega)
        have h1 : Lib.index (x :: l) [c] = ((i + 1 : Nat) : Int) := by rw [index_cons_ne h, if_neg hne, hi]; rfl
        have e1 : (Lib.index (x :: l) [c] == -1) = false := by rw [beq_eq_false_iff_ne, h1]; omega
        have e2 : (Lib.index l [c] == -1) = false := by rw [beq_eq_false_iff_ne]; exact hne
        rw [Lib.splitK, Lib.splitK, e1, e2, h1, hi]
        simp
theorem rows_list (s : ByteArray) (c : UInt8) : (rowsOf s ⟨#[c]⟩).map (·.data.toList) = splC c s.data.toList := by
  unfold rowsOf
  rw [Lib.splitB_data]
  exact splitK_one c s.data.toList
/-- What rows make a text: the byte between each two. -/
def joinC (c : UInt8) (r0 : List UInt8) (rs : List (List UInt8)) : List UInt8 := r0 ++ rs.flatMap (c :: ·)
theorem splC_plain {c : UInt8} : ∀ {r : List UInt8}, c ∉ r → splC c r = [r]
  | [], _ => rfl
  | x :: r, h => by
    have h1 : x ≠ c := fun e => h (by simp [e])
    rw [splC, if_neg h1, splC_plain (fun hm => h (by simp [hm]))]
theorem splC_app {c : UInt8} : ∀ {r : List UInt8} (l : List UInt8), c ∉ r → splC c (r ++ c :: l) = r :: splC c l
  | [], l, _ => by rw [List.nil_append, splC, if_pos rfl]
  | x :: r, l, h => by
    have h1 : x ≠ c := fun e => h (by simp [e])
    rw [List.cons_append, splC, if_neg h1, splC_app l (fun hm => h (by simp [hm]))]
theorem splC_join {c : UInt8} : ∀ (rs : List (List UInt8)) (r0 : List UInt8), c ∉ r0 → (∀ r ∈ rs, c ∉ r) → splC c (joinC c r0 rs) = r0 :: rs
  | [], r0, h0, _ => by unfold joinC; rw [List.flatMap_nil, List.append_nil]; exact splC_plain h0
  | r :: rs, r0, h0, h => by
    have := splC_join rs r (h r (by simp)) (fun x hx => h x (by simp [hx]))
    unfold joinC at this ⊢
    rw [List.flatMap_cons, List.cons_append, splC_app _ h0, this]
theorem join_splC {c : UInt8} : ∀ (l r0 : List UInt8) (rs : List (List UInt8)), splC c l = r0 :: rs → l = joinC c r0 rs ∧ c ∉ r0 ∧ ∀ r ∈ rs, c ∉ r
  | [], r0, rs, h => by
    unfold splC at h; cases h; exact ⟨rfl, by simp, by simp⟩
  | x :: l, r0, rs, h => by
    unfold splC at h
    split at h
    · rename_i hx
      cases hs : splC c l with
      | nil => exact absurd hs (splC_ne c l)
      | cons r1 rs1 =>
        rw [hs] at h
        cases h
        obtain ⟨h1, h2, h3⟩ := join_splC l r1 rs1 hs
        refine ⟨?_, by simp, fun r hr => ?_⟩
        · unfold joinC at h1 ⊢
          rw [List.flatMap_cons, List.nil_append, List.cons_append, ← h1, hx]
        · rcases List.mem_cons.1 hr with rfl | hr
          · exact h2
          · exact h3 r hr
    · rename_i hx
      cases hs : splC c l with
      | nil => exact absurd hs (splC_ne c l)
      | cons r1 rs1 =>
        rw [hs] at h
        dsimp only at h
        cases h
        obtain ⟨h1, h2, h3⟩ := join_splC l r1 rs hs
        refine ⟨?_, ?_, h3⟩
        · unfold joinC at h1 ⊢
          rw [List.cons_append, ← h1]
        · intro hm
          rcases List.mem_cons.1 hm with h' | h'
          · exact hx h'.symm
          · exact h2 h'

/-! ## Forms of texts as lists -/
def numL (r : List UInt8) : Bool := r.all digB && !r.isEmpty && !((r.headD 0 == 48) && decide (1 < r.length))
def wordL (l : List UInt8) : Bool := if letB (l.headD 0) = true then l.all innB && !l.isEmpty else (splC 46 l).all numL && decide (1 < (splC 46 l).length)
def descL (l : List UInt8) : Bool := match splC 59 l with
  | [] => false
  | r0 :: rs => rs.all (fun r => r.all innB && !r.isEmpty) && wordL r0
theorem empty_list (s : ByteArray) : s.toList.isEmpty = s.data.toList.isEmpty := by rw [ByteArray.toList_eq]
theorem peek_head (s : ByteArray) : peekB s 0 = s.data.toList.headD 0 := by
  unfold peekB
  split
  · rename_i h
    have := drop_at s 0 h
    rw [List.drop_zero] at this
    rw [this]; rfl
  · rename_i h
    have : s.data.toList = [] := by
      apply List.length_eq_zero_iff.1
      have : s.data.toList.length = s.size := rfl
      omega
    rw [this]; rfl
theorem numQ_list (r : ByteArray) : numQ r = numL r.data.toList := by
  unfold numQ numL allQ
  rw [empty_list, peek_head]
  rfl
theorem wordQ_list (s : ByteArray) : wordQ s = wordL s.data.toList := by
  unfold wordQ wordL
  rw [peek_head, ← rows_list s 46]
  have : (rowsOf s dotT).all numQ = ((rowsOf s ⟨#[46]⟩).map (·.data.toList)).all numL := by
    rw [List.all_map]
    congr 1
    funext r
    exact numQ_list r
  rw [this, List.length_map]
  unfold allQ
  rw [empty_list]
  rfl
theorem descQ_list (s : ByteArray) : descQ s = descL s.data.toList := by
  unfold descQ descL
  rw [← rows_list s 59]
  show (match rowsOf s ⟨#[59]⟩ with | [] => false | r0 :: rs => _) = _
  cases rowsOf s ⟨#[59]⟩ with
  | nil => rfl
  | cons r0 rs =>
    simp only [List.map_cons, List.all_map]
    rw [wordQ_list]
    congr 1
    congr 1
    funext r
    simp [allQ, empty_list]

/-! ## The grammar on a text that goes on with a given list -/
section
variable {s : ByteArray}
theorem len_of {i : Nat} {l : List UInt8} (h : s.data.toList.drop i = l) : s.size - i = l.length := by
  rw [← h, List.length_drop]; rfl
theorem peek_of {i : Nat} {c : UInt8} {t : List UInt8} (h : s.data.toList.drop i = c :: t) : i < s.size ∧ peekB s i = c ∧ s.data.toList.drop (i + 1) = t := by
  have h1 := len_of h
  have hlt : i < s.size := by simp only [List.length_cons] at h1; omega
  rw [drop_at s i hlt] at h
  injection h with h2 h3
  exact ⟨hlt, by rw [peekB_in hlt]; exact h2, h3⟩
theorem peek_end {i : Nat} (h : s.data.toList.drop i = []) : peekB s i = 0 := by
  have h1 := len_of h
  exact peekB_out (by simp only [List.length_nil] at h1; omega)
theorem drop_more {i : Nat} {l rest : List UInt8} (h : s.data.toList.drop i = l ++ rest) : s.data.toList.drop (i + l.length) = rest := by
  rw [← List.drop_drop, h, List.drop_left]
theorem ext_of {i : Nat} {l rest : List UInt8} (h : s.data.toList.drop i = l ++ rest) : (s.extract i (i + l.length)).data.toList = l := by
  rw [Lib.extract_data]
  simp only [Nat.add_sub_cancel_left]
  rw [h, List.take_left]
theorem run_of {f : UInt8 → Bool} {i : Nat} {l rest : List UInt8} (h : s.data.toList.drop i = l ++ rest) (hl : l.all f = true) (hr : ∀ x t, rest = x :: t → f x = false) : runP s f i = i + l.length := by
  unfold runP
  rw [h]
  congr 1
  have h1 : ∀ l : List UInt8, l.all f = true → (l ++ rest).takeWhile f = l := by
    intro l
    induction l with
    | nil =>
      intro _
      cases rest with
      | nil => rfl
      | cons x t => rw [List.nil_append, List.takeWhile_cons_of_neg (by rw [hr x t rfl]; simp)]
    | cons x l ih =>
      intro hx
      rw [List.all_cons, Bool.and_eq_true] at hx
      rw [List.cons_append, List.takeWhile_cons_of_pos hx.1, ih hx.2]
  rw [h1 l hl]
theorem num_of {i : Nat} {r rest : List UInt8} (h : s.data.toList.drop i = r ++ rest) (hn : numL r = true) (hr : ∀ x t, rest = x :: t → digB x = false) : numP s i = .ok (i + r.length) := by
  unfold numL at hn
  simp only [Bool.and_eq_true] at hn
  obtain ⟨⟨h1, h2⟩, h3⟩ := hn
  cases r with
  | nil => simp at h2
  | cons x r =>
    obtain ⟨hlt, hp, hd⟩ := peek_of h
    have hx : digB x = true := by rw [List.all_cons, Bool.and_eq_true] at h1; exact h1.1
    unfold numP
    rw [hp, if_pos hx]
    by_cases h48 : x = 48
    · rw [if_pos h48]
      subst h48
      simp only [List.headD_cons, beq_self_eq_true, Bool.true_and, Bool.not_eq_true', decide_eq_false_iff_not, List.length_cons] at h3
      rw [show i + (48 :: r : List UInt8).length = i + 1 by rw [List.length_cons]; omega]
    · rw [if_neg h48, run_of h h1 hr]
theorem dots_of : ∀ (rs : List (List UInt8)) (k i : Nat) {rest : List UInt8}, rs ≠ [] → rs.all numL = true → s.data.toList.drop i = rs.flatMap (46 :: ·) ++ rest → (∀ x t, rest = x :: t → digB x = false ∧ x ≠ 46) → rs.length ≤ k → dotsP k s i = .ok (i + (rs.flatMap (46 :: ·)).length)
  | [], _, _, _, h, _, _, _, _ => absurd rfl h
  | r :: rs, 0, _, _, _, _, _, _, h => by simp at h
  | r :: rs, k + 1, i, rest, _, hn, hd, hr, hk => by
    rw [List.all_cons, Bool.and_eq_true] at hn
    rw [List.flatMap_cons, List.cons_append, List.cons_append, List.append_assoc] at hd
    obtain ⟨hlt, hp, hd1⟩ := peek_of hd
    have ht : takeP s i 46 = .ok (i + 1) := by unfold takeP; rw [if_pos ⟨hlt, hp⟩]
    rw [dotsP_succ, ht]
    dsimp only
    have hnum : numP s (i + 1) = .ok (i + 1 + r.length) := num_of hd1 hn.1 (fun x t hx => by
      cases rs with
      | nil => exact (hr x t (by simpa using hx)).1
      | cons r1 rs => rw [List.flatMap_cons, List.cons_append, List.cons_append] at hx; cases hx; decide)
    rw [hnum]
    dsimp only
    have hd2 := drop_more hd1
    cases hrs : rs with
    | nil =>
      rw [hrs, List.flatMap_nil, List.nil_append] at hd2
      have hne : peekB s (i + 1 + r.length) ≠ 46 := by
        cases rest with
        | nil => rw [peek_end hd2]; decide
        | cons x t => rw [(peek_of hd2).2.1]; exact (hr x t rfl).2
      unfold nextP
      rw [if_neg hne]
      simp only [List.flatMap_cons, List.flatMap_nil, List.append_nil, List.length_cons]
      congr 1; omega
    | cons r1 rs1 =>
      have hp2 : peekB s (i + 1 + r.length) = 46 := by
        rw [hrs, List.flatMap_cons, List.cons_append, List.cons_append] at hd2
        exact (peek_of hd2).2.1
      unfold nextP
      rw [if_pos hp2, ← hrs, dots_of rs k _ (by rw [hrs]; simp) hn.2 hd2 hr (by simpa using hk)]
      simp only [List.flatMap_cons, List.length_append, List.length_cons]
      congr 1; omega
theorem flat_len (c : UInt8) : ∀ rs : List (List UInt8), rs.length ≤ (rs.flatMap (c :: ·)).length
  | [] => Nat.le_refl _
  | r :: rs => by
    have := flat_len c rs
    simp only [List.flatMap_cons, List.length_append, List.length_cons]; omega
theorem dig_inn {c : UInt8} (h : innB c = false) : digB c = false := by
  unfold innB at h
  cases hd : digB c
  · rfl
  · rw [hd] at h; simp at h
theorem word_of {i : Nat} {l rest : List UInt8} (h : s.data.toList.drop i = l ++ rest) (hw : wordL l = true) (hr : ∀ x t, rest = x :: t → innB x = false ∧ x ≠ 46) : wordP s i = .ok (i + l.length) := by
  unfold wordL at hw
  cases l with
  | nil => exact absurd hw (by decide)
  | cons x l =>
    obtain ⟨hlt, hp, _⟩ := peek_of h
    rw [List.headD_cons] at hw
    unfold wordP
    rw [hp]
    by_cases hl : letB x = true
    · rw [if_pos hl] at hw ⊢
      rw [Bool.and_eq_true] at hw
      rw [run_of h hw.1 (fun x t hx => (hr x t hx).1)]
    · rw [if_neg hl] at hw ⊢
      cases hs : splC 46 (x :: l) with
      | nil => exact absurd hs (splC_ne _ _)
      | cons r0 rs =>
        rw [hs, List.all_cons] at hw
        simp only [Bool.and_eq_true, List.length_cons, decide_eq_true_eq] at hw
        obtain ⟨hj, _, _⟩ := join_splC _ _ _ hs
        have hrs : rs ≠ [] := by intro e; rw [e] at hw; simp at hw
        rw [hj] at h ⊢
        unfold joinC at h ⊢
        rw [List.append_assoc] at h
        have hn : numP s i = .ok (i + r0.length) := num_of h hw.1.1 (fun x t hx => by
          cases rs with
          | nil => exact absurd rfl hrs
          | cons r1 rs => rw [List.flatMap_cons, List.cons_append, List.cons_append] at hx; cases hx; decide)
        rw [hn]
        dsimp only
        have hd2 := drop_more h
        have h3 := len_of hd2
        have h4 := flat_len 46 rs
        rw [List.length_append] at h3
        rw [dots_of rs _ _ hrs hw.1.2 hd2 (fun x t hx => ⟨dig_inn (hr x t hx).1, (hr x t hx).2⟩) (by omega), List.length_append, Nat.add_assoc]
def optL (r : List UInt8) : Bool := r.all innB && !r.isEmpty
theorem opts_of : ∀ (rs : List (List UInt8)) (k i : Nat) {rest : List UInt8}, rs.all optL = true → s.data.toList.drop i = rs.flatMap (59 :: ·) ++ rest → (∀ x t, rest = x :: t → innB x = false ∧ x ≠ 59) → rs.length < k → optsP k s i = .ok (i + (rs.flatMap (59 :: ·)).length)
  | _, 0, _, _, _, _, _, h => by omega
  | [], k + 1, i, rest, _, hd, hr, _ => by
    rw [List.flatMap_nil, List.nil_append] at hd
    have hne : peekB s i ≠ 59 := by
      cases rest with
      | nil => rw [peek_end hd]; decide
      | cons x t => rw [(peek_of hd).2.1]; exact (hr x t rfl).2
    unfold optsP
    rw [if_neg hne]; rfl
  | r :: rs, k + 1, i, rest, hn, hd, hr, hk => by
    rw [List.all_cons, Bool.and_eq_true] at hn
    rw [List.flatMap_cons, List.cons_append, List.cons_append, List.append_assoc] at hd
    obtain ⟨hlt, hp, hd1⟩ := peek_of hd
    have ho := hn.1
    unfold optL at ho
    rw [Bool.and_eq_true] at ho
    have hrun : runP s innB (i + 1) = i + 1 + r.length := run_of hd1 ho.1 (fun x t hx => by
      cases rs with
      | nil => exact (hr x t (by simpa using hx)).1
      | cons r1 rs => rw [List.flatMap_cons, List.cons_append, List.cons_append] at hx; cases hx; decide)
    have hne : r.length ≠ 0 := fun e => by rw [List.length_eq_zero_iff.1 e] at ho; simp at ho
    unfold optsP
    rw [if_pos hp, hrun, if_neg (by omega), opts_of rs k _ hn.2 (drop_more hd1) hr (by simpa using hk)]
    simp only [List.flatMap_cons, List.length_append, List.length_cons]
    congr 1; omega
theorem desc_of {i : Nat} {l rest : List UInt8} (h : s.data.toList.drop i = l ++ rest) (hw : descL l = true) (hl : l.length ≤ 65536) (hr : ∀ x t, rest = x :: t → innB x = false ∧ x ≠ 46 ∧ x ≠ 59) : descP s i = .ok (i + l.length) := by
  unfold descL at hw
  cases hs : splC 59 l with
  | nil => exact absurd hs (splC_ne _ _)
  | cons r0 rs =>
    rw [hs] at hw
    dsimp only at hw
    rw [Bool.and_eq_true] at hw
    obtain ⟨hj, _, _⟩ := join_splC _ _ _ hs
    have h0 := h
    rw [hj] at h
    unfold joinC at h
    rw [List.append_assoc] at h
    unfold descP
    have hword : wordP s i = .ok (i + r0.length) := word_of h hw.2 (fun x t hx => by
      cases rs with
      | nil => exact ⟨(hr x t (by simpa using hx)).1, (hr x t (by simpa using hx)).2.1⟩
      | cons r1 rs => rw [List.flatMap_cons, List.cons_append, List.cons_append] at hx; cases hx; exact ⟨by decide, by decide⟩)
    rw [hword]
    dsimp only
    have hd2 := drop_more h
    have h3 := len_of hd2
    have h4 := flat_len 59 rs
    rw [List.length_append] at h3
    have hll : l.length = r0.length + (rs.flatMap (59 :: ·)).length := by rw [hj]; unfold joinC; rw [List.length_append]
    rw [opts_of rs _ _ hw.1 hd2 (fun x t hx => ⟨(hr x t hx).1, (hr x t hx).2.2⟩) (by omega)]
    show sinceP i _ = _
    unfold sinceP
    rw [if_neg (by omega), hll, Nat.add_assoc]
end
end Go.Proofs.YtjmpcoedfoaebaaGreatDoor

open Go Go.RowKit
namespace Go.Proofs.YtjmpcoedfoaebaaGreatDoor

section
variable {s : ByteArray}
theorem run_to {f : UInt8 → Bool} {i : Nat} : ∃ l, s.data.toList.drop i = l ++ s.data.toList.drop (runP s f i) ∧ runP s f i = i + l.length ∧ l.all f = true := by
  refine ⟨(s.data.toList.drop i).takeWhile f, ?_, rfl, List.all_takeWhile⟩
  unfold runP
  rw [← List.drop_drop]
  have h1 : ∀ l : List UInt8, l.drop (l.takeWhile f).length = l.dropWhile f := by
    intro l
    induction l with
    | nil => rfl
    | cons x l ih =>
      by_cases h : f x = true
      · rw [List.takeWhile_cons_of_pos h, List.dropWhile_cons_of_pos h, List.length_cons, List.drop_succ_cons, ih]
      · rw [List.takeWhile_cons_of_neg h, List.dropWhile_cons_of_neg h]; rfl
  rw [h1, List.takeWhile_append_dropWhile]
theorem at_drop {i : Nat} (h : i < s.size) : s.data.toList.drop i = peekB s i :: s.data.toList.drop (i + 1) := by
  rw [drop_at s i h, peekB_in h]
theorem num_to {i j : Nat} (h : numP s i = .ok j) : ∃ r, numL r = true ∧ s.data.toList.drop i = r ++ s.data.toList.drop j ∧ j = i + r.length := by
  unfold numP at h
  by_cases hd : digB (peekB s i) = true
  · have hlt : i < s.size := peekB_lt (fun e => by rw [e] at hd; simp [digB] at hd)
    rw [if_pos hd] at h
    by_cases h48 : peekB s i = 48
    · rw [if_pos h48] at h
      cases h
      exact ⟨[48], by decide, by rw [at_drop hlt, h48]; rfl, rfl⟩
    · rw [if_neg h48] at h
      cases h
      obtain ⟨l, h1, h2, h3⟩ := run_to (s := s) (f := digB) (i := i)
      refine ⟨l, ?_, h1, h2⟩
      have hl : l ≠ [] := fun e => by
        rw [runP_yes hlt (by rw [← peekB_in hlt]; exact hd), e] at h2
        have := (runP_le s digB (i + 1) (by omega)).1
        simp at h2; omega
      cases l with
      | nil => exact absurd rfl hl
      | cons x t =>
        rw [at_drop hlt] at h1
        injection h1 with h4 _
        unfold numL
        rw [h3]
        simp only [List.isEmpty_cons, Bool.not_false, Bool.and_true, List.headD_cons, ← h4, Bool.true_and]
        rw [beq_false_of_ne h48]; rfl
  · rw [if_neg hd] at h; cases h
theorem take_to {i j : Nat} {c : UInt8} (h : takeP s i c = .ok j) : j = i + 1 ∧ s.data.toList.drop i = c :: s.data.toList.drop (i + 1) := by
  have h1 := takeP_ok h
  exact ⟨h1.1, by rw [at_drop h1.2, takeP_peek h]⟩
theorem dots_to : ∀ (k : Nat) {i j : Nat}, dotsP k s i = .ok j → ∃ rs : List (List UInt8), rs ≠ [] ∧ rs.all numL = true ∧ s.data.toList.drop i = rs.flatMap (46 :: ·) ++ s.data.toList.drop j ∧ j = i + (rs.flatMap (46 :: ·)).length
  | 0, _, _, h => by cases h
  | k + 1, i, j, h => by
    rw [dotsP_succ] at h
    cases h1 : takeP s i 46 with
    | error f => rw [h1] at h; cases h
    | ok i1 =>
      rw [h1] at h
      obtain ⟨rfl, hd⟩ := take_to h1
      dsimp only at h
      cases h2 : numP s (i + 1) with
      | error f => rw [h2] at h; cases h
      | ok i2 =>
        rw [h2] at h
        obtain ⟨r, hr, hd2, rfl⟩ := num_to h2
        dsimp only [nextP] at h
        split at h
        · obtain ⟨rs, _, h4, h5, h6⟩ := dots_to k h
          refine ⟨r :: rs, by simp, by rw [List.all_cons, hr, h4]; rfl, ?_, ?_⟩
          · rw [hd, hd2, h5]; simp
          · rw [h6]; simp; omega
        · cases h
          refine ⟨[r], by simp, by rw [List.all_cons, hr]; rfl, ?_, ?_⟩
          · rw [hd, hd2]; simp
          · simp; omega
theorem num_dig {r : List UInt8} (h : numL r = true) {c : UInt8} (hc : digB c = false) : c ∉ r := fun hm => by
  unfold numL at h
  simp only [Bool.and_eq_true] at h
  have := List.all_eq_true.1 h.1.1 c hm
  rw [hc] at this; cases this
theorem word_to {i j : Nat} (h : wordP s i = .ok j) : ∃ l, wordL l = true ∧ s.data.toList.drop i = l ++ s.data.toList.drop j ∧ j = i + l.length ∧ 59 ∉ l := by
  unfold wordP at h
  by_cases hl : letB (peekB s i) = true
  · have hlt : i < s.size := peekB_lt (fun e => by rw [e] at hl; simp [letB] at hl)
    rw [if_pos hl] at h
    cases h
    obtain ⟨l, h1, h2, h3⟩ := run_to (s := s) (f := innB) (i := i)
    refine ⟨l, ?_, h1, h2, fun hm => by have := List.all_eq_true.1 h3 _ hm; exact absurd this (by decide)⟩
    have hl' : l ≠ [] := fun e => by
      rw [runP_yes hlt (by rw [← peekB_in hlt]; unfold innB; rw [hl]; simp), e] at h2
      have := (runP_le s innB (i + 1) (by omega)).1
      simp at h2; omega
    cases l with
    | nil => exact absurd rfl hl'
    | cons x t =>
      rw [at_drop hlt] at h1
      injection h1 with h4 _
      unfold wordL
      rw [List.headD_cons, ← h4, if_pos hl, h4, h3]; rfl
  · rw [if_neg hl] at h
    cases h2 : numP s i with
    | error f => rw [h2] at h; cases h
    | ok i2 =>
      rw [h2] at h
      obtain ⟨r0, hr0, hd0, rfl⟩ := num_to h2
      obtain ⟨rs, hne, hall, hd1, hj⟩ := dots_to _ h
      have hn46 : ∀ r ∈ r0 :: rs, (46 : UInt8) ∉ r := fun r hr => num_dig (by rcases List.mem_cons.1 hr with rfl | hr; exact hr0; exact List.all_eq_true.1 hall r hr) (by decide)
      refine ⟨joinC 46 r0 rs, ?_, ?_, ?_, ?_⟩
      · have hs := splC_join rs r0 (hn46 r0 (by simp)) (fun r hr => hn46 r (by simp [hr]))
        have hhd : letB ((joinC 46 r0 rs).headD 0) = false := by
          unfold joinC
          cases r0 with
          | nil => exact absurd hr0 (by decide)
          | cons x t =>
            rw [List.cons_append, List.headD_cons]
            have : digB x = true := by
              unfold numL at hr0
              simp only [Bool.and_eq_true, List.all_cons] at hr0
              exact hr0.1.1.1
            unfold digB at this
            unfold letB
            simp only [Bool.and_eq_true, decide_eq_true_eq] at this
            simp only [Bool.or_eq_false_iff, Bool.and_eq_false_iff, decide_eq_false_iff_not]
            omega
        unfold wordL
        rw [hhd, if_neg (by simp), hs, List.all_cons, hr0, hall]
        cases rs with
        | nil => exact absurd rfl hne
        | cons _ _ => simp
      · unfold joinC; rw [hd0, hd1, List.append_assoc]
      · unfold joinC; rw [hj, List.length_append]; omega
      · unfold joinC
        intro hm
        rcases List.mem_append.1 hm with hm | hm
        · exact num_dig hr0 (by decide) hm
        · obtain ⟨r, hr, hm⟩ := List.mem_flatMap.1 hm
          rcases List.mem_cons.1 hm with hm | hm
          · exact absurd hm (by decide)
          · exact num_dig (List.all_eq_true.1 hall r hr) (by decide) hm
theorem opts_to : ∀ (k : Nat) {i j : Nat}, i ≤ s.size → optsP k s i = .ok j → ∃ rs : List (List UInt8), rs.all optL = true ∧ s.data.toList.drop i = rs.flatMap (59 :: ·) ++ s.data.toList.drop j ∧ j = i + (rs.flatMap (59 :: ·)).length
  | 0, _, _, _, h => by cases h
  | k + 1, i, j, hi, h => by
    unfold optsP at h
    by_cases hc : peekB s i = 59
    · have hlt : i < s.size := peekB_lt (by rw [hc]; decide)
      rw [if_pos hc] at h
      obtain ⟨l, h1, h2, h3⟩ := run_to (s := s) (f := innB) (i := i + 1)
      split at h
      · cases h
      · rename_i hne
        have := runP_le s innB (i + 1) (by omega)
        obtain ⟨rs, h4, h5, h6⟩ := opts_to k this.2 h
        refine ⟨l :: rs, ?_, ?_, ?_⟩
        · rw [List.all_cons, h4, Bool.and_true]
          unfold optL
          rw [h3]
          cases l with
          | nil => exact absurd h2 hne
          | cons _ _ => rfl
        · rw [at_drop hlt, hc, h1, h5]; simp
        · rw [h6, h2]; simp; omega
    · rw [if_neg hc] at h
      cases h
      exact ⟨[], rfl, rfl, rfl⟩
theorem desc_to {i j : Nat} (h : descP s i = .ok j) : ∃ l, descL l = true ∧ s.data.toList.drop i = l ++ s.data.toList.drop j ∧ j = i + l.length ∧ l.length ≤ 65536 := by
  unfold descP at h
  cases h1 : wordP s i with
  | error f => rw [h1] at h; cases h
  | ok k =>
    rw [h1] at h
    have hk := (wordP_ok h1).2
    obtain ⟨r0, hw, hd0, rfl, h59⟩ := word_to h1
    dsimp only at h
    cases h2 : optsP (s.size + 1) s (i + r0.length) with
    | error f => rw [h2] at h; cases h
    | ok q =>
      rw [h2] at h
      obtain ⟨rs, hall, hd1, hq⟩ := opts_to _ hk h2
      dsimp only [sinceOf, sinceP] at h
      split at h
      · cases h
      · rename_i hlen
        cases h
        have hn : ∀ r ∈ rs, (59 : UInt8) ∉ r := fun r hr hm => by
          have := List.all_eq_true.1 hall r hr
          unfold optL at this
          rw [Bool.and_eq_true] at this
          exact absurd (List.all_eq_true.1 this.1 _ hm) (by decide)
        have hl : (joinC 59 r0 rs).length = r0.length + (rs.flatMap (59 :: ·)).length := by unfold joinC; rw [List.length_append]
        refine ⟨joinC 59 r0 rs, ?_, by unfold joinC; rw [hd0, hd1, List.append_assoc], by rw [hl]; omega, by rw [hl]; omega⟩
        unfold descL
        rw [splC_join rs r0 h59 hn]
        show (rs.all optL && wordL r0) = true
        rw [hall, hw]; rfl

/-! ## Values -/
theorem firstN_pre {n n' b0 b1 b2 b3 c1 c2 c3 m : Nat} (h : firstN n b0 b1 b2 b3 = m) (h0 : m ≠ 0) (hn : m ≤ n') (h1 : 1 < m → c1 = b1) (h2 : 2 < m → c2 = b2) (h3 : 3 < m → c3 = b3) : firstN n' b0 c1 c2 c3 = m := by
  unfold firstN at h ⊢
  split at h
  · rename_i g; rw [if_pos g]; exact h
  · rename_i g1
    rw [if_neg g1]
    split at h
    · subst h; obtain rfl := h1 (by omega); rw [if_pos (by omega)]
    · rename_i g2
      split at h
      · subst h; obtain rfl := h1 (by omega); obtain rfl := h2 (by omega); rw [if_neg (by omega), if_pos (by omega)]
      · rename_i g3
        split at h
        · subst h; obtain rfl := h1 (by omega); obtain rfl := h2 (by omega); rw [if_neg (by omega), if_neg (by omega), if_pos (by omega)]
        · rename_i g4
          split at h
          · subst h; obtain rfl := h1 (by omega); obtain rfl := h2 (by omega); rw [if_neg (by omega), if_neg (by omega), if_neg (by omega), if_pos (by omega)]
          · rename_i g5
            split at h
            · subst h; obtain rfl := h1 (by omega); obtain rfl := h2 (by omega); obtain rfl := h3 (by omega); rw [if_neg (by omega), if_neg (by omega), if_neg (by omega), if_neg (by omega), if_pos (by omega)]
            · rename_i g6
              split at h
              · subst h; obtain rfl := h1 (by omega); obtain rfl := h2 (by omega); obtain rfl := h3 (by omega); rw [if_neg (by omega), if_neg (by omega), if_neg (by omega), if_neg (by omega), if_neg (by omega), if_pos (by omega)]
              · rename_i g7
                split at h
                · subst h; obtain rfl := h1 (by omega); obtain rfl := h2 (by omega); obtain rfl := h3 (by omega); rw [if_neg (by omega), if_neg (by omega), if_neg (by omega), if_neg (by omega), if_neg (by omega), if_neg (by omega), if_pos (by omega)]
                · exact absurd h.symm h0
theorem first_take {l : List UInt8} (r : List UInt8) (h0 : firstP l ≠ 0) : firstP (l.take (firstP l) ++ r) = firstP l := by
  have hl : l ≠ [] := fun e => h0 (by rw [e]; rfl)
  have hle := firstP_le l
  obtain ⟨m, hm⟩ : ∃ m, firstP l = m := ⟨_, rfl⟩
  rw [hm] at h0 hle ⊢
  have hget : ∀ k, k < m → (l.take m ++ r).getD k 0 = l.getD k 0 := fun k hk => by
    rw [List.getD_eq_getElem?_getD, List.getD_eq_getElem?_getD, List.getElem?_append_left (by rw [List.length_take]; omega), List.getElem?_take, if_pos hk]
  have hne : l.take m ++ r ≠ [] := by
    intro e
    have h2 : (l.take m ++ r).length = 0 := by rw [e]; rfl
    rw [List.length_append, List.length_take] at h2
    omega
  unfold firstP at hm ⊢
  rw [if_neg hl] at hm
  rw [if_neg hne, hget 0 (by omega)]
  exact firstN_pre hm h0 (by rw [List.length_append, List.length_take]; omega) (fun h => by rw [hget 1 h]) (fun h => by rw [hget 2 h]) (fun h => by rw [hget 3 h])
theorem pair_hex (x : UInt8) (r : List UInt8) : pairV (hexT x ++ r) = some x := by
  have h : ∀ n : Fin 256, hexV (hexB (n.val / 16)) = some (n.val / 16) ∧ hexV (hexB (n.val % 16)) = some (n.val % 16) := by decide +kernel
  obtain ⟨h1, h2⟩ := h ⟨x.toNat, x.toNat_lt⟩
  show (match hexV (hexB (x.toNat / 16)), hexV (hexB (x.toNat % 16)) with | some a, some b => some (UInt8.ofNat (16 * a + b)) | _, _ => none) = some x
  rw [h1, h2]
  show some (UInt8.ofNat (16 * (x.toNat / 16) + x.toNat % 16)) = some x
  rw [Nat.div_add_mod, UInt8.ofNat_toNat]
theorem val_of {star : Bool} : ∀ (k : Nat) (l : List UInt8) (k' p : Nat) (acc : List UInt8) {c : UInt8} {rest : List UInt8}, l.length < k → s.data.toList.drop p = escP k l ++ c :: rest → endB star c = true → s.size < p + k' →
    valP star k' s p acc = .ok (acc ++ l, p + (escP k l).length)
  | 0, _, _, _, _, _, _, h, _, _, _ => by omega
  | k + 1, [], k', p, acc, c, rest, _, hd, he, hk' => by
    rw [escP, List.nil_append] at hd
    obtain ⟨hlt, hp, _⟩ := peek_of hd
    obtain ⟨k2, rfl⟩ : ∃ k2, k' = k2 + 1 := ⟨k' - 1, by omega⟩
    rw [valP_stop (.inr (by rw [hp]; exact he))]
    simp [escP]
  | k + 1, x :: t, k', p, acc, c, rest, hl, hd, he, hk' => by
    rw [escP] at hd ⊢
    by_cases hb : firstP (x :: t) = 0 ∨ bareB x = true
    · rw [if_pos hb] at hd ⊢
      rw [List.cons_append, List.append_assoc] at hd
      obtain ⟨hlt, hp, hd1⟩ := peek_of hd
      obtain ⟨k2, rfl⟩ : ∃ k2, k' = k2 + 1 := ⟨k' - 1, by omega⟩
      have hpc : pieceP (s.data.toList.drop p) = .ok ([x], 3) := by
        rw [hd]; unfold pieceP
        dsimp only
        rw [if_pos (by decide), pair_hex]
      rw [valP_ok (by rw [hp]; intro h; rcases h with h | h; omega; cases star <;> exact absurd h (by decide)) hpc]
      have hd3 : s.data.toList.drop (p + 3) = escP k t ++ c :: rest := by
        have := drop_more (l := [92] ++ hexT x) (rest := escP k t ++ c :: rest) (by rw [hd]; simp)
        exact this
      rw [val_of k t k2 (p + 3) _ (by simpa using hl) hd3 he (by omega)]
      simp only [List.append_assoc, List.singleton_append, List.length_cons, List.length_append]
      show Except.ok _ = Except.ok _
      congr 2
      show _ = p + (2 + _ + 1)
      omega
    · rw [if_neg hb] at hd ⊢
      rw [not_or] at hb
      obtain ⟨n, hn⟩ : ∃ n, firstP (x :: t) = n := ⟨_, rfl⟩
      have hft := first_take (escP k ((x :: t).drop n) ++ c :: rest) hb.1
      have hle := firstP_le (x :: t)
      rw [hn] at hd hft hle ⊢
      have hn0 : n ≠ 0 := by rw [← hn]; exact hb.1
      obtain ⟨n', rfl⟩ : ∃ n', n = n' + 1 := ⟨n - 1, by omega⟩
      rw [List.append_assoc] at hd
      have hd0 := hd
      rw [List.take_succ_cons, List.cons_append] at hd hft
      obtain ⟨hlt, hp, _⟩ := peek_of hd
      obtain ⟨k2, rfl⟩ : ∃ k2, k' = k2 + 1 := ⟨k' - 1, by omega⟩
      have hb2 : bareB x = false := by cases h : bareB x <;> simp_all
      have h92 : x.toNat ≠ 92 := fun e => by rw [show x = 92 from UInt8.toNat_inj.1 e] at hb2; exact absurd hb2 (by decide)
      have hpc : pieceP (s.data.toList.drop p) = .ok ((x :: t).take (n' + 1), n' + 1) := by
        rw [hd]; unfold pieceP
        dsimp only
        rw [if_neg h92, if_neg (by rw [hb2]; simp), hft, if_neg (by omega)]
        congr 2
        rw [List.take_succ_cons, List.take_succ_cons, List.take_append_of_le_length (by rw [List.length_take]; simp at hle; omega), List.take_take, Nat.min_self]
      have hend : endB star x = false := by
        unfold endB
        have h1 : x ≠ 41 := fun e => by rw [e] at hb2; exact absurd hb2 (by decide)
        have h2 : x ≠ 42 := fun e => by rw [e] at hb2; exact absurd hb2 (by decide)
        rw [beq_false_of_ne h1, beq_false_of_ne h2]; simp
      rw [valP_ok (by rw [hp, hend]; intro h; rcases h with h | h; omega; cases h) hpc]
      have hlt2 : ((x :: t).take (n' + 1)).length = n' + 1 := by rw [List.length_take]; omega
      have hd3 : s.data.toList.drop (p + (n' + 1)) = escP k ((x :: t).drop (n' + 1)) ++ c :: rest := by
        have := drop_more hd0
        rw [hlt2] at this
        exact this
      rw [val_of k ((x :: t).drop (n' + 1)) k2 (p + (n' + 1)) _ (by rw [List.length_drop]; simp only [List.length_cons] at hl hle ⊢; omega) hd3 he (by omega)]
      rw [List.append_assoc, List.take_append_drop, List.length_append, hlt2]
      congr 2; omega
theorem value_of {star : Bool} {i : Nat} {v : ByteArray} {c : UInt8} {rest : List UInt8} (hd : s.data.toList.drop i = txL (escB v) ++ c :: rest) (he : endB star c = true) (hv : v.size ≤ 65536) : valueP star s i = .ok (v, i + (txL (escB v)).length) := by
  have hlt : i ≤ s.size := by
    have := len_of hd
    simp only [List.length_append, List.length_cons] at this; omega
  unfold valueP
  have hl : v.data.toList.length = v.size := rfl
  rw [val_of (v.size + 1) v.data.toList (s.size + 1) i [] (by omega) hd he (by omega)]
  show (if 65536 < ([] ++ v.data.toList).length then _ else _) = _
  rw [List.nil_append, if_neg (by omega)]
  rfl
end
end Go.Proofs.YtjmpcoedfoaebaaGreatDoor

open Go Go.RowKit
namespace Go.Proofs.YtjmpcoedfoaebaaGreatDoor

/-! ## dn, in great letters or small -/
theorem inn_ascii {c : UInt8} (h : innB c = true) : c.toNat < 128 := wrdB_ascii (inn_wrd c h)
theorem word_asciiL {l : List UInt8} (h : wordL l = true) : ∀ b ∈ l, b.toNat < 128 := by
  unfold wordL at h
  split at h
  · rw [Bool.and_eq_true] at h
    exact fun b hb => inn_ascii (List.all_eq_true.1 h.1 b hb)
  · rw [Bool.and_eq_true] at h
    cases hs : splC 46 l with
    | nil => exact absurd hs (splC_ne _ _)
    | cons r0 rs =>
      obtain ⟨hj, _, _⟩ := join_splC _ _ _ hs
      rw [hs] at h
      have hd : ∀ r ∈ r0 :: rs, ∀ b ∈ r, b.toNat < 128 := fun r hr b hb => by
        have := List.all_eq_true.1 h.1 r hr
        unfold numL at this
        simp only [Bool.and_eq_true] at this
        exact inn_ascii (by unfold innB; rw [List.all_eq_true.1 this.1.1 b hb]; rfl)
      rw [hj]
      unfold joinC
      intro b hb
      rcases List.mem_append.1 hb with hb | hb
      · exact hd r0 (by simp) b hb
      · obtain ⟨r, hr, hm⟩ := List.mem_flatMap.1 hb
        rcases List.mem_cons.1 hm with rfl | hm
        · decide
        · exact hd r (by simp [hr]) b hm
theorem fold_d2 (c : UInt8) : Lib.foldEq c 100 = (Lib.lowerB c == 100) := by
  have h : ∀ n : Fin 256, Lib.foldEq (UInt8.ofNat n.val) 100 = (Lib.lowerB (UInt8.ofNat n.val) == 100) := by decide +kernel
  have := h ⟨c.toNat, c.toNat_lt⟩
  simpa using this
theorem fold_n2 (c : UInt8) : Lib.foldEq c 110 = (Lib.lowerB c == 110) := by
  have h : ∀ n : Fin 256, Lib.foldEq (UInt8.ofNat n.val) 110 = (Lib.lowerB (UInt8.ofNat n.val) == 110) := by decide +kernel
  have := h ⟨c.toNat, c.toNat_lt⟩
  simpa using this
theorem dn_lower {s : ByteArray} (h : ∀ b ∈ s.data.toList, b.toNat < 128) : dnB s = decide (Lib.toLowerD s.data.toList = [100, 110]) := by
  rw [Lib.toLowerD_ascii _ h]
  unfold dnB Lib.toLowerA
  match s.data.toList with
  | [] => rfl
  | [x] => simp [Lib.equalFold]
  | [x, y] =>
    rw [Bool.eq_iff_iff]
    simp [Lib.equalFold, fold_d2, fold_n2]
  | x :: y :: z :: r => simp [Lib.equalFold]

/-! ## What right says of a part -/
theorem some_no {x : ByteArray} (h : someB x = false) : x = noText := by
  unfold someB at h
  exact empty_iff.1 (by simpa using h)
theorem some_yes {x : ByteArray} : someB x = true ↔ x ≠ noText := by
  unfold someB
  constructor
  · intro h e; rw [empty_iff.2 e] at h; cases h
  · intro h; cases hx : x.toList.isEmpty
    · rfl
    · exact absurd (empty_iff.1 hx) h
theorem some_none : someB noText = false := by
  cases h : someB noText
  · rfl
  · exact absurd rfl (some_yes.1 h)
theorem pieces_no {it : Itm} (h : piecesB it = false) : it.start = noText ∧ it.fin = noText ∧ it.mids = [] := by
  unfold piecesB at h
  simp only [Bool.or_eq_false_iff, decide_eq_false_iff_not] at h
  exact ⟨some_no h.1.1, some_no h.1.2, List.length_eq_zero_iff.1 (by omega)⟩
theorem ruled_no {it : Itm} (h : ruledB it = false) : it.rule = noText ∧ it.dn = false := by
  unfold ruledB at h
  simp only [Bool.or_eq_false_iff] at h
  exact ⟨some_no h.1, h.2⟩
/-- A word, a description begin with a letter or a digit. -/
theorem word_head {l : List UInt8} (h : wordL l = true) : ∃ x t, l = x :: t ∧ innB x = true ∧ x ≠ 45 := by
  cases l with
  | nil => exact absurd h (by decide)
  | cons x t =>
    refine ⟨x, t, rfl, ?_⟩
    unfold wordL at h
    rw [List.headD_cons] at h
    by_cases hl : letB x = true
    · exact ⟨by unfold innB; rw [hl]; simp, fun e => by rw [e] at hl; exact absurd hl (by decide)⟩
    · rw [if_neg hl, Bool.and_eq_true] at h
      cases hs : splC 46 (x :: t) with
      | nil => exact absurd hs (splC_ne _ _)
      | cons r0 rs =>
        obtain ⟨hj, _, _⟩ := join_splC _ _ _ hs
        rw [hs] at h
        have h0 := List.all_eq_true.1 h.1 r0 (by simp)
        cases r0 with
        | nil => exact absurd h0 (by decide)
        | cons y r =>
          unfold joinC at hj
          rw [List.cons_append] at hj
          injection hj with h1 _
          unfold numL at h0
          simp only [Bool.and_eq_true, List.all_cons] at h0
          have hd : digB x = true := by rw [h1]; exact h0.1.1.1
          exact ⟨by unfold innB; rw [hd]; rfl, fun e => by rw [e] at hd; exact absurd hd (by decide)⟩
theorem desc_head {l : List UInt8} (h : descL l = true) : ∃ x t, l = x :: t ∧ innB x = true ∧ x ≠ 45 := by
  unfold descL at h
  cases hs : splC 59 l with
  | nil => exact absurd hs (splC_ne _ _)
  | cons r0 rs =>
    rw [hs] at h
    dsimp only at h
    rw [Bool.and_eq_true] at h
    obtain ⟨hj, _, _⟩ := join_splC _ _ _ hs
    obtain ⟨x, t, h1, h2⟩ := word_head h.2
    rw [hj]
    exact ⟨x, _, by unfold joinC; rw [h1, List.cons_append], h2⟩

section
variable {s : ByteArray}
theorem ext_is {i : Nat} {d : ByteArray} {rest : List UInt8} (h : s.data.toList.drop i = txL d ++ rest) : s.extract i (i + (txL d).length) = d := by
  have := ext_of h
  exact ByteArray.ext (Array.toList_inj.1 this)
theorem take_of {i : Nat} {c : UInt8} {t : List UInt8} (h : s.data.toList.drop i = c :: t) : takeP s i c = .ok (i + 1) := by
  obtain ⟨h1, h2, _⟩ := peek_of h
  unfold takeP; rw [if_pos ⟨h1, h2⟩]
theorem txL_len (x : ByteArray) : (txL x).length = x.size := by simp [txL]
theorem esc_none : txL (escB noText) = [] := by decide

/-- Pieces: a value, stars between, the last one. -/
theorem parts_of : ∀ (ms : List ByteArray) (k j : Nat) (acc : List ByteArray) (f0 fin : ByteArray) {rest : List UInt8}, (∀ m ∈ ms, someB m = true ∧ m.size ≤ 65536) → fin.size ≤ 65536 → s.data.toList.drop j = 42 :: (midsL ms ++ (txL (escB fin) ++ 41 :: rest)) → ms.length + 1 < k →
    partsP k s j acc f0 = .ok ((if f0 = noText then acc else acc ++ [f0]) ++ ms, fin, j + 1 + (midsL ms).length + (txL (escB fin)).length)
  | _, 0, _, _, _, _, _, _, _, _, h => by omega
  | [], k + 1, j, acc, f0, fin, rest, _, hf, hd, hk => by
    obtain ⟨hlt, hp, hd1⟩ := peek_of hd
    rw [midsL, List.nil_append] at hd1
    have hv := value_of (star := true) hd1 (by decide) hf
    rw [partsP_ok hp hv]
    obtain ⟨k2, rfl⟩ : ∃ k2, k = k2 + 1 := ⟨k - 1, by simp at hk; omega⟩
    have hp2 : peekB s (j + 1 + (txL (escB fin)).length) ≠ 42 := by rw [(peek_of (drop_more hd1)).2.1]; decide
    rw [partsP_stop hp2]
    simp [midsL]
  | m :: ms, k + 1, j, acc, f0, fin, rest, hm, hf, hd, hk => by
    obtain ⟨hlt, hp, hd1⟩ := peek_of hd
    rw [midsL, List.append_assoc, List.cons_append] at hd1
    have h0 := hm m (by simp)
    have hv := value_of (star := true) hd1 (by decide) h0.2
    rw [partsP_ok hp hv]
    dsimp only
    rw [parts_of ms k _ _ m fin (fun x hx => hm x (by simp [hx])) hf (drop_more hd1) (by simpa using hk), if_neg (some_yes.1 h0.1)]
    simp only [midsL, List.append_assoc, List.singleton_append, List.length_append, List.length_cons]
    congr 3; omega
theorem mids_len : ∀ ms : List ByteArray, ms.length ≤ (midsL ms).length
  | [] => Nat.le_refl _
  | m :: ms => by
    have := mids_len ms
    simp only [midsL, List.length_append, List.length_cons]; omega

/-- Behind the first sign of an extensible item: the rule and dn. -/
theorem rules_end {k q : Nat} {d ru : ByteArray} {dn : Bool} {t : List UInt8} (hd : s.data.toList.drop q = 61 :: t) (h : d ≠ noText ∨ ru ≠ noText) : rulesP (k + 1) s d q ru dn = .ok (ru, dn, q) := by
  obtain ⟨_, hp, _⟩ := peek_of hd
  rw [rulesP, if_neg]
  rintro (h1 | ⟨h1, h2⟩)
  · exact h1 hp
  · exact h.elim (fun h => h h1) (fun h => h h2)
theorem word_ne61 {q : Nat} {l t : List UInt8} (hd : s.data.toList.drop q = l ++ t) (hw : wordL l = true) : peekB s q ≠ 61 := by
  obtain ⟨x, r, rfl, hx, _⟩ := word_head hw
  rw [(peek_of hd).2.1]
  intro e; rw [e] at hx; exact absurd hx (by decide)
theorem rules_rule {k q : Nat} {d ru : ByteArray} {dn : Bool} {t : List UInt8} (hd : s.data.toList.drop q = txL ru ++ 58 :: 61 :: t) (hw : wordL (txL ru) = true) (hl : ru.size ≤ 65536) (hn : dnB ru = false) : rulesP (k + 2) s d q noText dn = .ok (ru, dn, q + ru.size + 1) := by
  have hne : ru ≠ noText := fun e => by rw [e] at hw; exact absurd hw (by decide)
  have hwd := word_of hd hw (fun x t hx => by cases hx; exact ⟨by decide, by decide⟩)
  have he := ext_is hd
  rw [txL_len] at hwd he
  have hd2 := drop_more hd
  rw [txL_len] at hd2
  have ht := take_of hd2
  have hd3 := (peek_of hd2).2.2
  rw [rulesP, if_pos (.inl (word_ne61 hd hw)), if_neg (by simp), hwd]
  dsimp only
  have hs : sinceP q (q + ru.size) = .ok (q + ru.size) := by unfold sinceP; rw [if_neg (by omega)]
  rw [hs]
  dsimp only
  rw [he, hn, if_neg (by simp), ht]
  dsimp only
  rw [if_neg (by simp)]
  exact rules_end hd3 (.inr hne)
theorem rules_dn {k q : Nat} {d : ByteArray} {t : List UInt8} (hd : s.data.toList.drop q = 100 :: 110 :: 58 :: t) : rulesP (k + 1) s d q noText false = rulesP k s d (q + 3) noText true := by
  have hd' : s.data.toList.drop q = txL ⟨#[100, 110]⟩ ++ 58 :: t := hd
  have hw : wordL (txL ⟨#[100, 110]⟩) = true := by decide
  have hwd := word_of hd' hw (fun x t hx => by cases hx; exact ⟨by decide, by decide⟩)
  have he := ext_is hd'
  have hd2 := drop_more hd'
  have hz : (txL ⟨#[100, 110]⟩).length = 2 := rfl
  rw [hz] at hwd he hd2
  have ht := take_of hd2
  rw [rulesP, if_pos (.inl (word_ne61 hd' hw)), if_neg (by simp), hwd]
  dsimp only
  have hs : sinceP q (q + 2) = .ok (q + 2) := by unfold sinceP; rw [if_neg (by omega)]
  rw [hs]
  dsimp only
  have hdn : dnB ⟨#[100, 110]⟩ = true := by decide +kernel
  rw [he, hdn, if_neg (by simp), ht]
  dsimp only
  rw [if_pos rfl]

/-- The fields of an item that may be, by its kind. -/
theorem right_item {it : Itm} (h : rightB it 0 = true) (hk : it.kind ≠ 0 ∧ it.kind ≠ 1 ∧ it.kind ≠ 2) :
    ((it.kind = 3 ∨ it.kind = 5 ∨ it.kind = 6 ∨ it.kind = 8) ∧ descL (txL it.desc) = true ∧ it = ⟨it.kind, it.desc, it.value, noText, [], noText, noText, false⟩) ∨
    (descL (txL it.desc) = true ∧ it = ⟨7, it.desc, noText, noText, [], noText, noText, false⟩) ∨
    (descL (txL it.desc) = true ∧ it = ⟨4, it.desc, noText, it.start, it.mids, it.fin, noText, false⟩ ∧ (∀ m ∈ it.mids, someB m = true) ∧ ¬ (it.start = noText ∧ it.fin = noText ∧ it.mids = [])) ∨
    (it = ⟨9, it.desc, it.value, noText, [], noText, it.rule, it.dn⟩ ∧ (it.desc ≠ noText ∨ it.rule ≠ noText) ∧ (it.desc = noText ∨ descL (txL it.desc) = true) ∧ (it.rule = noText ∨ (wordL (txL it.rule) = true ∧ dnB it.rule = false))) := by
  obtain ⟨k, d, v, st, ms, fi, ru, dn⟩ := it
  dsimp only at hk ⊢
  unfold rightB at h
  dsimp only at h
  rw [if_neg (by omega)] at h
  split at h
  · rename_i h9
    subst h9
    simp only [Bool.and_eq_true, Bool.or_eq_true, decide_eq_true_eq, Bool.not_eq_true'] at h
    obtain ⟨⟨⟨⟨_, h1⟩, h2⟩, h3⟩, h4⟩ := h
    obtain ⟨e1, e2, e3⟩ := pieces_no h1
    dsimp only at e1 e2 e3
    subst e1; subst e2; subst e3
    refine .inr (.inr (.inr ⟨rfl, h2.imp some_yes.1 some_yes.1, ?_, ?_⟩))
    · rcases h3 with h3 | h3
      · exact .inl (some_no h3)
      · exact .inr (by rw [descQ_list] at h3; exact h3)
    · rcases h4 with h4 | ⟨h4, h5⟩
      · exact .inl (some_no h4)
      · rw [wordQ_list] at h4
        refine .inr ⟨h4, ?_⟩
        rw [dn_lower (word_asciiL h4)]
        exact decide_eq_false h5
  · split at h
    · rename_i h4
      subst h4
      simp only [Bool.and_eq_true, decide_eq_true_eq, Bool.not_eq_true'] at h
      obtain ⟨⟨⟨⟨⟨h1, _⟩, h2⟩, h3⟩, h4⟩, h5⟩ := h
      obtain ⟨e1, e2⟩ := ruled_no h3
      dsimp only at e1 e2
      subst e1; subst e2
      have e3 := some_no h4
      subst e3
      rw [descQ_list] at h5
      refine .inr (.inr (.inl ⟨h5, rfl, fun m hm => List.all_eq_true.1 h1 m hm, ?_⟩))
      rintro ⟨rfl, rfl, rfl⟩
      unfold piecesB at h2
      simp [some_none] at h2
    · split at h
      · rename_i h7
        subst h7
        simp only [Bool.and_eq_true, decide_eq_true_eq, Bool.not_eq_true'] at h
        obtain ⟨⟨⟨⟨_, h1⟩, h2⟩, h3⟩, h4⟩ := h
        obtain ⟨e1, e2, e3⟩ := pieces_no h1
        obtain ⟨e4, e5⟩ := ruled_no h2
        have e6 := some_no h3
        dsimp only at e1 e2 e3 e4 e5
        subst e1; subst e2; subst e3; subst e4; subst e5; subst e6
        rw [descQ_list] at h4
        exact .inr (.inl ⟨h4, rfl⟩)
      · split at h
        · rename_i hkk
          simp only [Bool.and_eq_true, decide_eq_true_eq, Bool.not_eq_true'] at h
          obtain ⟨⟨⟨_, h1⟩, h2⟩, h3⟩ := h
          obtain ⟨e1, e2, e3⟩ := pieces_no h1
          obtain ⟨e4, e5⟩ := ruled_no h2
          dsimp only at e1 e2 e3 e4 e5
          subst e1; subst e2; subst e3; subst e4; subst e5
          rw [descQ_list] at h3
          exact .inl ⟨hkk, h3, rfl⟩
        · cases h

/-- An extensible item behind its description. -/
theorem rule_of {it : Itm} {q : Nat} {rest : List UInt8} (h1 : it = ⟨9, it.desc, it.value, noText, [], noText, it.rule, it.dn⟩) (h2 : it.desc ≠ noText ∨ it.rule ≠ noText) (h4 : it.rule = noText ∨ (wordL (txL it.rule) = true ∧ dnB it.rule = false)) (z3 : it.value.size ≤ 65536) (z7 : it.rule.size ≤ 65536)
    (hd : s.data.toList.drop q = ((if it.dn then [58, 100, 110] else []) ++ ((if someB it.rule then 58 :: txL it.rule else []) ++ (txL (signP it.kind) ++ txL (escB it.value)))) ++ 41 :: rest) :
    itemD s q it.desc = .ok (it, q + ((if it.dn then [58, 100, 110] else []) ++ ((if someB it.rule then 58 :: txL it.rule else []) ++ (txL (signP it.kind) ++ txL (escB it.value)))).length) := by
  have hsg : txL (signP it.kind) = [58, 61] := by rw [h1]; rfl
  rw [hsg] at hd ⊢
  have hln := len_of hd
  simp only [List.length_append, List.length_cons, List.length_nil] at hln
  obtain ⟨k, hk⟩ : ∃ k, s.size + 1 = k + 3 := ⟨s.size - 2, by omega⟩
  -- the value, once the rule is read
  have hend : ∀ (q2 : Nat) (ru : ByteArray) (dn : Bool), rulesP (s.size + 1) s it.desc (q + 1) noText false = .ok (ru, dn, q2) → ru = it.rule → dn = it.dn → s.data.toList.drop q2 = 61 :: (txL (escB it.value) ++ 41 :: rest) → peekB s q = 58 → itemD s q it.desc = .ok (it, q2 + 1 + (txL (escB it.value)).length) := by
    intro q2 ru dn e1 e2 e3 e4 e5
    have hv := value_of (star := false) (peek_of e4).2.2 (by decide) z3
    unfold itemD
    rw [if_pos e5]
    unfold ruleP
    rw [e1]
    show valItm it.desc ru dn (valueP false s (q2 + 1)) = _
    rw [hv, e2, e3]
    show Except.ok ((⟨9, it.desc, it.value, noText, [], noText, it.rule, it.dn⟩ : Itm), _) = _
    rw [← h1]
  by_cases hr : it.rule = noText
  · have hsb : someB it.rule = false := by rw [hr]; exact some_none
    have hdn0 : it.desc ≠ noText := h2.elim id (fun h => absurd hr h)
    cases hdn : it.dn with
    | false =>
      rw [hsb, hdn] at hd
      rw [hsb]
      simp only [Bool.false_eq_true, if_false, List.nil_append, List.cons_append] at hd ⊢
      obtain ⟨_, hp, hd1⟩ := peek_of hd
      rw [hend (q + 1) noText false (by rw [hk]; exact rules_end hd1 (.inl hdn0)) hr.symm hdn.symm hd1 hp]
      simp only [List.length_cons]
      congr 2; omega
    | true =>
      rw [hsb, hdn] at hd
      rw [hsb]
      simp only [Bool.false_eq_true, if_false, if_true, List.nil_append, List.cons_append] at hd ⊢
      obtain ⟨_, hp, hd1⟩ := peek_of hd
      have hd4 : s.data.toList.drop (q + 1 + 3) = 61 :: (txL (escB it.value) ++ 41 :: rest) := drop_more (l := [100, 110, 58]) (by rw [hd1]; rfl)
      rw [hend (q + 1 + 3) noText true (by rw [hk, rules_dn hd1]; exact rules_end hd4 (.inl hdn0)) hr.symm hdn.symm hd4 hp]
      simp only [List.length_cons]
      congr 2; omega
  · have hsb : someB it.rule = true := some_yes.2 hr
    obtain ⟨hw, hnd⟩ := h4.resolve_left hr
    cases hdn : it.dn with
    | false =>
      rw [hsb, hdn] at hd
      rw [hsb]
      simp only [Bool.false_eq_true, if_false, if_true, List.nil_append, List.cons_append, List.append_assoc] at hd ⊢
      obtain ⟨_, hp, hd1⟩ := peek_of hd
      have hd4 : s.data.toList.drop (q + 1 + it.rule.size + 1) = 61 :: (txL (escB it.value) ++ 41 :: rest) := by
        have := drop_more hd1
        rw [txL_len] at this
        exact (peek_of this).2.2
      rw [hend (q + 1 + it.rule.size + 1) it.rule false (by rw [hk]; exact rules_rule hd1 hw z7 hnd) rfl hdn.symm hd4 hp]
      simp only [List.length_cons, List.length_append, txL_len]
      congr 2; omega
    | true =>
      rw [hsb, hdn] at hd
      rw [hsb]
      simp only [if_true, List.nil_append, List.cons_append, List.append_assoc] at hd ⊢
      obtain ⟨_, hp, hd1⟩ := peek_of hd
      have hd3 : s.data.toList.drop (q + 1 + 3) = txL it.rule ++ 58 :: 61 :: (txL (escB it.value) ++ 41 :: rest) := drop_more (l := [100, 110, 58]) (by rw [hd1]; rfl)
      have hd4 : s.data.toList.drop (q + 1 + 3 + it.rule.size + 1) = 61 :: (txL (escB it.value) ++ 41 :: rest) := by
        have := drop_more hd3
        rw [txL_len] at this
        exact (peek_of this).2.2
      rw [hend (q + 1 + 3 + it.rule.size + 1) it.rule true (by rw [hk, rules_dn hd1]; exact rules_rule hd3 hw z7 hnd) rfl hdn.symm hd4 hp]
      simp only [List.length_cons, List.length_append, txL_len]
      congr 2; omega
/-- Behind the description, at an item of a sign. -/
theorem itemD_of (it : Itm) {i : Nat} {rest : List UInt8} (hl : longB it = false) (h : rightB it 0 = true) (hk : it.kind ≠ 0 ∧ it.kind ≠ 1 ∧ it.kind ≠ 2) (hd : s.data.toList.drop i = bodyL it [] ++ 41 :: rest) :
    itemP s i = .ok (it, i + (bodyL it []).length) := by
  obtain ⟨z2, z3, z4, z6, z7, zm⟩ := long_no hl
  have hsz : i ≤ s.size := by
    have := len_of hd
    simp only [List.length_append, List.length_cons] at this; omega
  -- the description, where there is one
  have hdesc : ∀ t : List UInt8, descL (txL it.desc) = true → s.data.toList.drop i = txL it.desc ++ t → (∀ x r, t = x :: r → innB x = false ∧ x ≠ 46 ∧ x ≠ 59) → itemP s i = itemD s (i + it.desc.size) it.desc ∧ s.data.toList.drop (i + it.desc.size) = t := by
    intro t h1 h2 h3
    obtain ⟨x, r, hx, hx1, hx2⟩ := desc_head h1
    have hp : peekB s i ≠ 58 := by
      rw [hx, List.cons_append] at h2
      rw [(peek_of h2).2.1]
      intro e; rw [e] at hx1; exact absurd hx1 (by decide)
    have h4 := desc_of h2 h1 (by rw [txL_len]; exact z2) h3
    have h5 := ext_is h2
    have h6 := drop_more h2
    rw [txL_len] at h4 h5 h6
    refine ⟨?_, h6⟩
    unfold itemP
    rw [if_neg hp, h4]
    dsimp only
    rw [h5]
  rcases right_item h hk with ⟨hkk, h1, h2⟩ | ⟨h1, h2⟩ | ⟨h1, h2, h3, h4⟩ | ⟨h1, h2, h3, h4⟩
  · have hb : bodyL it [] = txL it.desc ++ (txL (signP it.kind) ++ txL (escB it.value)) := by
      rw [h2]; unfold bodyL
      rw [if_neg (by dsimp only; omega), if_neg (by dsimp only; omega)]
      have : someB noText = false := some_none
      dsimp only
      rw [this]; simp
    have hv0 : (txL (escB it.value)).length = (escB it.value).size := txL_len _
    rw [hb, List.append_assoc, List.append_assoc] at hd
    rcases hkk with hk3 | hk3 | hk3 | hk3
    · have hsg : txL (signP it.kind) = [61] := by rw [hk3]; rfl
      rw [hsg] at hd hb
      obtain ⟨e1, e2⟩ := hdesc _ h1 hd (fun x r hx => by cases hx; exact ⟨by decide, by decide, by decide⟩)
      obtain ⟨_, hp, hd3⟩ := peek_of e2
      have hv := value_of (star := true) hd3 (by decide) z3
      have hp2 : peekB s (i + it.desc.size + 1 + (txL (escB it.value)).length) ≠ 42 := by rw [(peek_of (drop_more hd3)).2.1]; decide
      rw [e1]
      unfold itemD
      rw [if_neg (by rw [hp]; decide), if_pos hp]
      unfold piecesP
      rw [hv]
      dsimp only
      rw [if_neg hp2, hb]
      conv => rhs; rw [h2]
      rw [hk3]
      simp only [List.length_append, List.length_cons, List.length_nil, txL_len]
      congr 2; omega
    all_goals
      have hsg : ∃ c : UInt8, txL (signP it.kind) = [c, 61] ∧ c ≠ 58 ∧ c ≠ 61 ∧ comparedP c = some it.kind ∧ innB c = false ∧ c ≠ 46 ∧ c ≠ 59 := by
        rw [hk3]
        first
          | exact ⟨62, rfl, by decide, by decide, rfl, by decide, by decide, by decide⟩
          | exact ⟨60, rfl, by decide, by decide, rfl, by decide, by decide, by decide⟩
          | exact ⟨126, rfl, by decide, by decide, rfl, by decide, by decide, by decide⟩
      obtain ⟨c, hsg, c1, c2, c3, c4, c5, c6⟩ := hsg
      rw [hsg] at hd hb
      obtain ⟨e1, e2⟩ := hdesc _ h1 hd (fun x r hx => by cases hx; exact ⟨c4, c5, c6⟩)
      obtain ⟨_, hp, hd3⟩ := peek_of e2
      have ht := take_of hd3
      have hd4 := (peek_of hd3).2.2
      have hv := value_of (star := false) hd4 (by decide) z3
      rw [e1]
      unfold itemD
      rw [if_neg (by rw [hp]; exact c1), if_neg (by rw [hp]; exact c2), hp, c3]
      dsimp only [twoP]
      rw [ht]
      dsimp only
      rw [hv, hb]
      conv => rhs; rw [h2]
      show Except.ok _ = _
      simp only [List.length_append, List.length_cons, List.length_nil, txL_len]
      congr 2; omega
  · have hb : bodyL it [] = txL it.desc ++ [61, 42] := by
      rw [h2]; unfold bodyL
      rw [if_neg (by dsimp only; omega), if_neg (by dsimp only; omega)]
      have : someB noText = false := some_none
      dsimp only
      rw [this, esc_none]
      show _ ++ ([] ++ ([] ++ ([61, 42] ++ []))) = _
      simp
    rw [hb, List.append_assoc] at hd
    obtain ⟨e1, e2⟩ := hdesc _ h1 hd (fun x r hx => by cases hx; exact ⟨by decide, by decide, by decide⟩)
    obtain ⟨_, hp, hd3⟩ := peek_of e2
    have hd3' : s.data.toList.drop (i + it.desc.size + 1) = txL (escB noText) ++ 42 :: 41 :: rest := by rw [hd3, esc_none]; rfl
    have hv := value_of (star := true) hd3' (by decide) (by decide)
    rw [esc_none, List.length_nil, Nat.add_zero] at hv
    have hd3s : s.data.toList.drop (i + it.desc.size + 1) = 42 :: (midsL [] ++ (txL (escB noText) ++ 41 :: rest)) := by rw [hd3, esc_none]; rfl
    have hps := parts_of [] (s.size + 1) (i + it.desc.size + 1) [] noText noText (by simp) (by decide) hd3s (by
      have := len_of hd3s; simp only [List.length_cons] at this; simp; omega)
    rw [e1]
    unfold itemD
    rw [if_neg (by rw [hp]; decide), if_pos hp]
    unfold piecesP
    rw [hv]
    dsimp only
    rw [if_pos (peek_of hd3s).2.1, hps, hb]
    conv => rhs; rw [h2]
    rw [if_pos rfl, esc_none]
    show Except.ok ((⟨if noText = noText ∧ noText = noText ∧ ([] : List ByteArray) ++ [] = [] then 7 else 4, _, _, _, _, _, _, _⟩ : Itm), _) = _
    rw [if_pos ⟨rfl, rfl, rfl⟩]
    simp only [List.length_append, List.length_cons, List.length_nil, txL_len, midsL, List.append_nil]
    rfl
  · have hb : bodyL it [] = txL it.desc ++ 61 :: (txL (escB it.start) ++ 42 :: (midsL it.mids ++ txL (escB it.fin))) := by
      unfold bodyL
      have : it.kind = 4 := by rw [h2]
      rw [if_neg (by omega), if_pos this]
    rw [hb, List.append_assoc] at hd
    obtain ⟨e1, e2⟩ := hdesc _ h1 hd (fun x r hx => by rw [List.cons_append] at hx; cases hx; exact ⟨by decide, by decide, by decide⟩)
    rw [List.cons_append] at e2
    obtain ⟨_, hp, hd3⟩ := peek_of e2
    rw [List.append_assoc, List.cons_append] at hd3
    have hv := value_of (star := true) hd3 (by decide) z4
    have hd4 := drop_more hd3
    rw [List.append_assoc] at hd4
    have hln := len_of hd4
    have hml := mids_len it.mids
    simp only [List.length_cons, List.length_append] at hln
    have hps := parts_of it.mids (s.size + 1) _ [] noText it.fin (fun m hm => ⟨h3 m hm, zm m hm⟩) z6 hd4 (by omega)
    rw [e1]
    unfold itemD
    rw [if_neg (by rw [hp]; decide), if_pos hp]
    unfold piecesP
    rw [hv]
    dsimp only
    rw [if_pos (peek_of hd4).2.1, hps, hb]
    conv => rhs; rw [h2]
    rw [if_pos rfl]
    show Except.ok ((⟨if it.start = noText ∧ it.fin = noText ∧ ([] : List ByteArray) ++ it.mids = [] then 7 else 4, _, _, _, _, _, _, _⟩ : Itm), _) = _
    rw [List.nil_append, if_neg h4]
    simp only [List.length_append, List.length_cons, txL_len]
    congr 2; omega
  · have hb : bodyL it [] = txL it.desc ++ ((if it.dn then [58, 100, 110] else []) ++ ((if someB it.rule then 58 :: txL it.rule else []) ++ (txL (signP it.kind) ++ txL (escB it.value)))) := by
      unfold bodyL
      have : it.kind = 9 := by rw [h1]
      rw [if_neg (by omega), if_neg (by omega)]
    have hsg : txL (signP it.kind) = [58, 61] := by rw [h1]; rfl
    obtain ⟨T, hT⟩ : ∃ T, ((if it.dn then [58, 100, 110] else []) ++ ((if someB it.rule then 58 :: txL it.rule else []) ++ (txL (signP it.kind) ++ txL (escB it.value)))) = T := ⟨_, rfl⟩
    have hT0 : ∃ r, T = 58 :: r := by
      rw [← hT, hsg]
      cases it.dn <;> cases someB it.rule <;> exact ⟨_, rfl⟩
    have hrl := fun q (hd : s.data.toList.drop q = T ++ 41 :: rest) => rule_of h1 h2 h4 z3 z7 (by rw [hT]; exact hd)
    rw [hT] at hrl
    rw [hb, hT, List.append_assoc] at hd
    rw [hb, hT]
    rcases h3 with h3 | h3
    · rw [h3] at hd ⊢
      have hd' : s.data.toList.drop i = T ++ 41 :: rest := hd
      obtain ⟨r, hr⟩ := hT0
      have hp : peekB s i = 58 := by rw [hr] at hd'; exact (peek_of hd').2.1
      have h5 := hrl i hd'
      rw [h3] at h5
      unfold itemP
      rw [if_pos hp, h5]
      rfl
    · obtain ⟨r, hr⟩ := hT0
      obtain ⟨e1, e2⟩ := hdesc _ h3 hd (fun x t hx => by rw [hr, List.cons_append] at hx; cases hx; exact ⟨by decide, by decide, by decide⟩)
      rw [e1, hrl _ e2, List.length_append, txL_len, Nat.add_assoc]
end
end Go.Proofs.YtjmpcoedfoaebaaGreatDoor

open Go Go.RowKit
namespace Go.Proofs.YtjmpcoedfoaebaaGreatDoor

/-- A part of kids, by its kind. -/
theorem right_many {it : Itm} {n : Nat} (h : rightB it n = true) (hk : it.kind = 0 ∨ it.kind = 1 ∨ it.kind = 2) : 0 < n ∧ (it.kind = 2 → n = 1) ∧ it = ⟨it.kind, noText, noText, noText, [], noText, noText, false⟩ := by
  obtain ⟨k, d, v, st, ms, fi, ru, dn⟩ := it
  dsimp only at hk ⊢
  unfold rightB at h
  dsimp only at h
  rw [if_pos hk] at h
  simp only [Bool.and_eq_true, decide_eq_true_eq, Bool.not_eq_true', Bool.or_eq_true] at h
  obtain ⟨⟨⟨⟨⟨h1, h2⟩, h3⟩, h4⟩, h5⟩, h6⟩ := h
  obtain ⟨e1, e2, e3⟩ := pieces_no h5
  obtain ⟨e4, e5⟩ := ruled_no h6
  have e6 := some_no h3
  have e7 := some_no h4
  dsimp only at e1 e2 e3 e4 e5
  subst e1; subst e2; subst e3; subst e4; subst e5; subst e6; subst e7
  exact ⟨h1, fun e => h2.resolve_right (fun h => h e), rfl⟩
theorem printL_head (g : Flt) : ∃ r, printL g = 40 :: r := by
  cases g with | mk it ks => rw [printL]; exact ⟨_, rfl⟩
theorem printK_len : ∀ gs : List Flt, gs.length ≤ (printK gs).length
  | [] => by simp
  | g :: gs => by
    have := printK_len gs
    obtain ⟨r, hr⟩ := printL_head g
    simp only [printK, List.length_append, List.length_cons, hr]
    omega
/-- What an item's text begins with. -/
theorem body_head {it : Itm} (h : rightB it 0 = true) (hk : it.kind ≠ 0 ∧ it.kind ≠ 1 ∧ it.kind ≠ 2) : ∃ x r, bodyL it [] = x :: r ∧ x ≠ 33 ∧ manyP x = none := by
  have hinn : ∀ x : UInt8, innB x = true → x ≠ 33 ∧ manyP x = none := fun x hx => by
    refine ⟨fun e => by rw [e] at hx; exact absurd hx (by decide), ?_⟩
    unfold manyP
    rw [if_neg (fun e => by rw [e] at hx; exact absurd hx (by decide)), if_neg (fun e => by rw [e] at hx; exact absurd hx (by decide)), if_neg (fun e => by rw [e] at hx; exact absurd hx (by decide))]
  have hds : ∀ t : List UInt8, descL (txL it.desc) = true → ∃ x r, txL it.desc ++ t = x :: r ∧ x ≠ 33 ∧ manyP x = none := fun t h => by
    obtain ⟨x, r, hx, hx1, _⟩ := desc_head h
    exact ⟨x, r ++ t, by rw [hx]; rfl, hinn x hx1⟩
  unfold bodyL
  rw [if_neg (by omega)]
  rcases right_item h hk with ⟨hkk, h1, _⟩ | ⟨h1, _⟩ | ⟨h1, _, _, _⟩ | ⟨h1, _, h3, _⟩
  · split <;> exact hds _ h1
  · split <;> exact hds _ h1
  · split <;> exact hds _ h1
  · have h9 : it.kind = 9 := by rw [h1]
    rw [if_neg (by omega)]
    rcases h3 with h3 | h3
    · have hsg : txL (signP it.kind) = [58, 61] := by rw [h9]; rfl
      rw [h3, hsg]
      refine ⟨58, ?_⟩
      cases it.dn <;> cases someB it.rule <;> exact ⟨_, rfl, by decide, rfl⟩
    · exact hds _ h3

section
variable {s : ByteArray}
theorem kids_rt {rem : Nat} {kind : Int} (ih : ∀ (g : Flt) (n d i : Nat) (rest : List UInt8), (checkP rem g n d).1 = 0 → s.data.toList.drop i = printL g ++ rest → filterP s rem i n = .ok (g, i + (printL g).length, (checkP rem g n d).2.1)) :
    ∀ (gs : List Flt) (k i p d : Nat) (acc : List Flt) {rest : List UInt8}, gs ≠ [] → (kind = 2 → gs.length = 1) → (checkL (checkP rem) gs p d).1 = 0 → s.data.toList.drop i = printK gs ++ 41 :: rest → gs.length ≤ k →
      kidsP (filterP s rem) s kind k i p acc = .ok (acc ++ gs, i + (printK gs).length, (checkL (checkP rem) gs p d).2.1)
  | [], _, _, _, _, _, _, h, _, _, _, _ => absurd rfl h
  | g :: gs, 0, _, _, _, _, _, _, _, _, _, h => by simp at h
  | g :: gs, k + 1, i, p, d, acc, rest, _, h2, hz, hd, hk => by
    rw [checkL] at hz ⊢
    by_cases h0 : (checkP rem g p d).1 ≠ 0
    · rw [if_pos h0] at hz; exact absurd hz h0
    · rw [if_neg h0] at hz ⊢
      rw [printK, List.append_assoc] at hd
      have hf := ih g p d i _ (by simpa using h0) hd
      rw [kidsP, hf]
      dsimp only
      have hd2 := drop_more hd
      cases hgs : gs with
      | nil =>
        rw [hgs, printK, List.nil_append] at hd2
        have hp : peekB s (i + (printL g).length) ≠ 40 := by rw [(peek_of hd2).2.1]; decide
        rw [if_pos (.inr hp)]
        simp [printK, checkL]
      | cons g1 gs1 =>
        have hp : peekB s (i + (printL g).length) = 40 := by
          obtain ⟨r, hr⟩ := printL_head g1
          rw [hgs, printK, hr, List.cons_append, List.cons_append] at hd2
          exact (peek_of hd2).2.1
        have hk2 : kind ≠ 2 := fun e => by have := h2 e; rw [hgs] at this; simp at this
        rw [if_neg (by rw [not_or]; exact ⟨hk2, fun h => h hp⟩), ← hgs]
        rw [kids_rt ih gs k _ _ (checkP rem g p d).2.2 _ (by rw [hgs]; simp) (fun e => absurd e hk2) hz hd2 (by simpa using hk)]
        simp only [printK, List.length_append, List.append_assoc, List.singleton_append]
        congr 3; omega
/-- A filter that is written is read as that filter. -/
theorem filter_rt : ∀ (rem : Nat) (g : Flt) (n d i : Nat) (rest : List UInt8), (checkP rem g n d).1 = 0 → s.data.toList.drop i = printL g ++ rest → filterP s rem i n = .ok (g, i + (printL g).length, (checkP rem g n d).2.1)
  | 0, _, _, _, _, _, h, _ => absurd (show (91 : Int) = 0 from h) (by decide)
  | rem + 1, .mk it kids, n, d, i, rest, h, hd => by
    obtain ⟨h1, h2, h3, h4⟩ := checkP_zero h
    rw [h4] at h ⊢
    have h1' : longB it = false := h1
    have h2' : rightB it kids.length = true := h2
    have h3' : (if it.kind = 2 then n else n + 1) ≤ 65536 := h3
    have h' : (checkL (checkP rem) kids (if it.kind = 2 then n else n + 1) (max d (64 - rem))).1 = 0 := h
    show _ = Except.ok (Flt.mk it kids, i + (printL (.mk it kids)).length, (checkL (checkP rem) kids (if it.kind = 2 then n else n + 1) (max d (64 - rem))).2.1)
    obtain ⟨⟨kn, hkn, hk9⟩, hkk⟩ := right_kind h2'
    rw [printL, List.cons_append, List.append_assoc] at hd
    have ht := take_of hd
    have hd1 := (peek_of hd).2.2
    rw [List.singleton_append] at hd1
    rw [filterP, ht]
    dsimp only
    by_cases hm : it.kind = 0 ∨ it.kind = 1 ∨ it.kind = 2
    · obtain ⟨hn0, hn1, hit⟩ := right_many h2' hm
      have hb : bodyL it (printK kids) = manyS it.kind :: printK kids := by unfold bodyL; rw [if_pos hm]
      rw [hb, List.cons_append] at hd1
      obtain ⟨hlt, hp, hd2⟩ := peek_of hd1
      have hpo : partsOf s (i + 1) n = (if it.kind = 2 then n else n + 1) := by
        unfold partsOf
        rw [hp]
        rcases hm with hm | hm | hm <;> rw [hm] <;> rfl
      have hmany : manyP (peekB s (i + 1)) = some it.kind := by
        rw [hp]
        rcases hm with hm | hm | hm <;> rw [hm] <;> rfl
      rw [hpo, if_neg (by omega), hmany]
      dsimp only
      have hl1 := len_of hd2
      have hpl := printK_len kids
      rw [List.length_append, List.length_cons] at hl1
      rw [kids_rt (fun g n d i rest a b => filter_rt rem g n d i rest a b) kids (s.size + 1) (i + 1 + 1) _ _ [] (by intro e; rw [e] at hn0; simp at hn0) hn1 h' hd2 (by omega)]
      rw [List.nil_append]
      show closeP s (.ok (.mk ⟨it.kind, noText, noText, noText, [], noText, noText, false⟩ kids, _, _)) = _
      rw [← hit]
      unfold closeP
      dsimp only
      rw [take_of (drop_more hd2)]
      dsimp only
      rw [printL, hb]
      simp only [List.length_cons, List.length_append, List.length_nil]
      congr 3; omega
    · have hk0 : kids = [] := by
        rcases hkk with h | h | h | h
        · exact absurd (.inl h) hm
        · exact absurd (.inr (.inl h)) hm
        · exact absurd (.inr (.inr h)) hm
        · exact List.length_eq_zero_iff.1 h
      subst hk0
      have hne : it.kind ≠ 0 ∧ it.kind ≠ 1 ∧ it.kind ≠ 2 := by omega
      rw [printK] at hd1
      obtain ⟨x, r, hx, hx1, hx2⟩ := body_head h2' hne
      have hp : peekB s (i + 1) = x := by
        have := hd1
        rw [hx, List.cons_append] at this
        exact (peek_of this).2.1
      have hpo : partsOf s (i + 1) n = n + 1 := by unfold partsOf; rw [hp, if_neg hx1]
      have hk2 : (if it.kind = 2 then n else n + 1) = n + 1 := if_neg hne.2.2
      rw [hk2] at h3'
      rw [hpo, if_neg (by omega), hp, hx2, hk2]
      dsimp only
      rw [itemD_of it h1' h2' hne hd1]
      show closeP s (.ok (.mk it [], _, _)) = _
      unfold closeP
      dsimp only
      rw [take_of (drop_more hd1)]
      dsimp only
      rw [printL, printK]
      simp only [List.length_cons, List.length_append, List.length_nil, checkL]
      congr 3; omega
/-- A filter that may be, and whose text is not too long, is read back. -/
theorem parse_print {g : Flt} (h : (checkR g).1 = 0) (hl : (printL g).length ≤ 1048576) : parseP ⟨(printL g).toArray⟩ = .ok g := by
  have hz : (checkP 64 g 0 0).1 = 0 := by
    unfold checkR at h
    by_cases h' : (checkP 64 g 0 0).1 = 0
    · exact h'
    · rw [if_neg h'] at h; exact absurd h h'
  have hs : (⟨(printL g).toArray⟩ : ByteArray).size = (printL g).length := by simp [ByteArray.size]
  have hd : (⟨(printL g).toArray⟩ : ByteArray).data.toList.drop 0 = printL g ++ [] := by simp
  unfold parseP
  rw [if_neg (by rw [hs]; omega), filter_rt 64 g 0 0 0 [] hz hd]
  dsimp only
  rw [if_neg (by rw [hs]; omega)]
end
end Go.Proofs.YtjmpcoedfoaebaaGreatDoor

open Go Go.RowKit
namespace Go.Proofs.YtjmpcoedfoaebaaGreatDoor

theorem longM_small {b : Nat} : ∀ (ms : List ByteArray) (n : Nat), n ≤ b → (∀ m ∈ ms, m.size ≤ b) → longM n ms ≤ b
  | [], _, h, _ => h
  | m :: ms, n, h, hm => longM_small ms _ (by have := hm m (by simp); omega) fun x hx => hm x (by simp [hx])
theorem long_ok {it : Itm} (h1 : it.desc.size ≤ 65536) (h2 : it.value.size ≤ 65536) (h3 : it.start.size ≤ 65536) (h4 : it.fin.size ≤ 65536) (h5 : it.rule.size ≤ 65536) (h6 : ∀ m ∈ it.mids, m.size ≤ 65536) : longB it = false := by
  unfold longB
  rw [decide_eq_false_iff_not]
  have : longM (longN it) it.mids ≤ 65536 := longM_small _ _ (by unfold longN; omega) h6
  omega
theorem pieces_none {k : Int} {d v ru : ByteArray} {dn : Bool} : piecesB ⟨k, d, v, noText, [], noText, ru, dn⟩ = false := by
  unfold piecesB; simp [some_none]
theorem ruled_none {k : Int} {d v st fi : ByteArray} {ms : List ByteArray} : ruledB ⟨k, d, v, st, ms, fi, noText, false⟩ = false := by
  unfold ruledB; simp [some_none]
theorem right_plain {k : Int} {d v : ByteArray} (hk : k = 3 ∨ k = 5 ∨ k = 6 ∨ k = 8) (hd : descL (txL d) = true) : rightB ⟨k, d, v, noText, [], noText, noText, false⟩ 0 = true := by
  unfold rightB
  dsimp only
  rw [if_neg (by omega), if_neg (by omega), if_neg (by omega), if_neg (by omega), if_pos hk, pieces_none, ruled_none, descQ_list]
  rw [show descL d.data.toList = true from hd]; rfl
theorem right_have {d : ByteArray} (hd : descL (txL d) = true) : rightB ⟨7, d, noText, noText, [], noText, noText, false⟩ 0 = true := by
  unfold rightB
  dsimp only
  rw [if_neg (by omega), if_neg (by omega), if_neg (by omega), if_pos rfl, pieces_none, ruled_none, descQ_list, some_none]
  rw [show descL d.data.toList = true from hd]; rfl
theorem right_part {d st fi : ByteArray} {ms : List ByteArray} (hd : descL (txL d) = true) (hm : ∀ m ∈ ms, someB m = true) (h : ¬ (st = noText ∧ fi = noText ∧ ms = [])) : rightB ⟨4, d, noText, st, ms, fi, noText, false⟩ 0 = true := by
  have hp : piecesB ⟨4, d, noText, st, ms, fi, noText, false⟩ = true := by
    unfold piecesB
    dsimp only
    by_cases h1 : st = noText
    · by_cases h2 : fi = noText
      · have h3 : ms ≠ [] := fun e => h ⟨h1, h2, e⟩
        have : 0 < ms.length := by cases ms; exact absurd rfl h3; simp
        rw [decide_eq_true this, Bool.or_true]
      · rw [some_yes.2 h2]; simp
    · rw [some_yes.2 h1]; simp
  unfold rightB
  dsimp only
  rw [if_neg (by omega), if_neg (by omega), if_pos rfl, hp, ruled_none, descQ_list, some_none]
  rw [show descL d.data.toList = true from hd, List.all_eq_true.2 hm]; rfl
theorem right_rule {d v ru : ByteArray} {dn : Bool} (h1 : d ≠ noText ∨ ru ≠ noText) (h2 : d = noText ∨ descL (txL d) = true) (h3 : ru = noText ∨ (wordL (txL ru) = true ∧ dnB ru = false)) : rightB ⟨9, d, v, noText, [], noText, ru, dn⟩ 0 = true := by
  unfold rightB
  dsimp only
  rw [if_neg (by omega), if_pos rfl, pieces_none]
  simp only [Bool.and_eq_true, Bool.or_eq_true, decide_eq_true_eq, Bool.not_eq_true']
  refine ⟨⟨⟨by simp, h1.imp some_yes.2 some_yes.2⟩, ?_⟩, ?_⟩
  · rcases h2 with h2 | h2
    · rw [h2]; exact .inl some_none
    · exact .inr (by rw [descQ_list]; exact h2)
  · rcases h3 with h3 | ⟨h3, h4⟩
    · rw [h3]; exact .inl some_none
    · refine .inr ⟨by rw [wordQ_list]; exact h3, ?_⟩
      rw [dn_lower (word_asciiL h3)] at h4
      exact of_decide_eq_false h4
theorem right_kids {k : Int} {n : Nat} (hk : k = 0 ∨ k = 1 ∨ k = 2) (hn : 0 < n) (h2 : k = 2 → n = 1) : rightB ⟨k, noText, noText, noText, [], noText, noText, false⟩ n = true := by
  unfold rightB
  dsimp only
  rw [if_pos hk, pieces_none, ruled_none, some_none]
  simp only [Bool.and_eq_true, Bool.or_eq_true, decide_eq_true_eq, Bool.not_false, and_true]
  exact ⟨hn, by by_cases h : k = 2; exact .inl (h2 h); exact .inr h⟩

section
variable {s : ByteArray}
theorem parts_may : ∀ {k j : Nat} {ms : List ByteArray} {fin : ByteArray} {l : List ByteArray} {t : ByteArray} {q : Nat}, j ≤ s.size → partsP k s j ms fin = .ok (l, t, q) → (∀ m ∈ ms, someB m = true ∧ m.size ≤ 65536) → fin.size ≤ 65536 → (∀ m ∈ l, someB m = true ∧ m.size ≤ 65536) ∧ t.size ≤ 65536
  | 0, _, _, _, _, _, _, _, h, _, _ => by cases h
  | k + 1, j, ms, fin, l, t, q, hj, h, hm, hf => by
    by_cases h42 : peekB s j = 42
    · have hlt : j < s.size := peekB_lt (by rw [h42]; decide)
      cases hv : valueP true s (j + 1) with
      | error f => rw [partsP_err h42 hv] at h; cases h
      | ok u =>
        rw [partsP_ok h42 hv] at h
        have h1 := valueP_le (t := u.1) (j := u.2) (by omega) hv
        refine parts_may h1.2.1 h ?_ h1.2.2
        intro m hmm
        split at hmm
        · exact hm m hmm
        · rename_i hne
          rcases List.mem_append.1 hmm with h3 | h3
          · exact hm m h3
          · rw [List.mem_singleton.1 h3]; exact ⟨some_yes.2 hne, hf⟩
    · rw [partsP_stop h42] at h; cases h; exact ⟨hm, hf⟩
theorem pieces_may {d : ByteArray} {i j : Nat} {it : Itm} (hi : i ≤ s.size) (hd : descL (txL d) = true) (hdz : d.size ≤ 65536) (h : piecesP s i d = .ok (it, j)) : longB it = false ∧ rightB it 0 = true ∧ 3 ≤ it.kind := by
  unfold piecesP at h
  cases hv : valueP true s i with
  | error f => rw [hv] at h; cases h
  | ok u =>
    obtain ⟨v, q⟩ := u
    rw [hv] at h
    have h1 := valueP_le hi hv
    dsimp only at h
    split at h
    · cases hp : partsP (s.size + 1) s q [] noText with
      | error f => rw [hp] at h; cases h
      | ok t =>
        obtain ⟨ms, fin, q'⟩ := t
        rw [hp] at h
        obtain ⟨h2, h3⟩ := parts_may h1.2.1 hp (by simp) (by decide)
        by_cases hall : v = noText ∧ fin = noText ∧ ms = []
        · have : pieceItm d v (.ok (ms, fin, q')) = .ok (⟨7, d, noText, v, ms, fin, noText, false⟩, q') := by
            show Except.ok ((⟨if v = noText ∧ fin = noText ∧ ms = [] then 7 else 4, d, noText, v, ms, fin, noText, false⟩ : Itm), q') = _
            rw [if_pos hall]
          rw [this] at h
          obtain ⟨rfl, rfl, rfl⟩ := hall
          cases h
          exact ⟨long_ok hdz (show noText.size ≤ 65536 by decide) (show noText.size ≤ 65536 by decide) (show noText.size ≤ 65536 by decide) (show noText.size ≤ 65536 by decide) (fun m hm => by cases hm), right_have hd, show (3 : Int) ≤ 7 by decide⟩
        · have : pieceItm d v (.ok (ms, fin, q')) = .ok (⟨4, d, noText, v, ms, fin, noText, false⟩, q') := by
            show Except.ok ((⟨if v = noText ∧ fin = noText ∧ ms = [] then 7 else 4, d, noText, v, ms, fin, noText, false⟩ : Itm), q') = _
            rw [if_neg hall]
          rw [this] at h
          cases h
          exact ⟨long_ok hdz (show noText.size ≤ 65536 by decide) h1.2.2 h3 (show noText.size ≤ 65536 by decide) (fun m hm => (h2 m hm).2), right_part hd (fun m hm => (h2 m hm).1) hall, show (3 : Int) ≤ 4 by decide⟩
    · cases h
      exact ⟨long_ok hdz h1.2.2 (show noText.size ≤ 65536 by decide) (show noText.size ≤ 65536 by decide) (show noText.size ≤ 65536 by decide) (fun m hm => by cases hm), right_plain (.inl rfl) hd, Int.le_refl _⟩
theorem rules_may {d : ByteArray} : ∀ {k j : Nat} {ru : ByteArray} {dn : Bool} {r : ByteArray} {x : Bool} {q : Nat}, rulesP k s d j ru dn = .ok (r, x, q) → (ru = noText ∨ (wordL (txL ru) = true ∧ dnB ru = false)) → ru.size ≤ 65536 → (d ≠ noText ∨ r ≠ noText) ∧ (r = noText ∨ (wordL (txL r) = true ∧ dnB r = false)) ∧ r.size ≤ 65536
  | 0, _, _, _, _, _, _, h, _, _ => by cases h
  | k + 1, j, ru, dn, r, x, q, h, hr, hz => by
    rw [rulesP] at h
    by_cases hc : peekB s j ≠ 61 ∨ (d = noText ∧ ru = noText)
    · rw [if_pos hc] at h
      by_cases hru : ru ≠ noText
      · rw [if_pos hru] at h; cases h
      · rw [if_neg hru] at h
        cases hw : wordP s j with
        | error f => rw [hw] at h; cases h
        | ok e =>
          rw [hw] at h
          dsimp only at h
          cases h2 : sinceP j e with
          | error f => rw [h2] at h; cases h
          | ok e' =>
            obtain ⟨he, hlen⟩ : e' = e ∧ ¬ 65536 < e - j := by unfold sinceP at h2; split at h2 <;> cases h2; exact ⟨rfl, ‹_›⟩
            subst he
            rw [h2] at h
            dsimp only at h
            split at h
            · cases h
            · cases h3 : takeP s e' 58 with
              | error f => rw [h3] at h; cases h
              | ok q' =>
                rw [h3] at h
                dsimp only at h
                obtain ⟨l, hl, hd1, hd2, _⟩ := word_to hw
                have hx : txL (s.extract j e') = l := by rw [hd2]; exact ext_of hd1
                have hxz : (s.extract j e').size ≤ 65536 := by rw [← txL_len, hx]; omega
                split at h
                · exact rules_may h hr hz
                · rename_i hdn
                  exact rules_may h (.inr ⟨by rw [hx]; exact hl, by cases hb : dnB (s.extract j e'); rfl; exact absurd hb hdn⟩) hxz
    · rw [if_neg hc] at h
      cases h
      rw [not_or] at hc
      refine ⟨?_, hr, hz⟩
      by_cases hd : d = noText
      · exact .inr fun e => hc.2 ⟨hd, e⟩
      · exact .inl hd
theorem rule_may {d : ByteArray} {i j : Nat} {it : Itm} (hi : i ≤ s.size) (hd : d = noText ∨ descL (txL d) = true) (hdz : d.size ≤ 65536) (h : ruleP s i d = .ok (it, j)) : longB it = false ∧ rightB it 0 = true ∧ 3 ≤ it.kind := by
  unfold ruleP at h
  cases hr : rulesP (s.size + 1) s d i noText false with
  | error f => rw [hr] at h; cases h
  | ok t =>
    obtain ⟨ru, dn, q⟩ := t
    have h1 := rulesP_le hi hr
    obtain ⟨h2, h3, h4⟩ := rules_may hr (.inl rfl) (by decide)
    rw [hr] at h
    dsimp only [ruleEnd] at h
    cases hv : valueP false s (q + 1) with
    | error f => rw [hv] at h; cases h
    | ok u =>
      obtain ⟨v, q'⟩ := u
      have h5 := valueP_le (by omega) hv
      rw [hv] at h
      cases h
      exact ⟨long_ok hdz h5.2.2 (show noText.size ≤ 65536 by decide) (show noText.size ≤ 65536 by decide) h4 (fun m hm => by cases hm), right_rule h2 hd h3, show (3 : Int) ≤ 9 by decide⟩
theorem itemD_may {d : ByteArray} {i j : Nat} {it : Itm} (hd : (d = noText ∧ peekB s i = 58) ∨ descL (txL d) = true) (hdz : d.size ≤ 65536) (h : itemD s i d = .ok (it, j)) : longB it = false ∧ rightB it 0 = true ∧ 3 ≤ it.kind := by
  unfold itemD at h
  by_cases h58 : peekB s i = 58
  · have hlt : i < s.size := peekB_lt (by rw [h58]; decide)
    rw [if_pos h58] at h
    exact rule_may (by omega) (hd.imp (fun h => h.1) id) hdz h
  · rw [if_neg h58] at h
    have hd' := hd.resolve_left fun h => h58 h.2
    by_cases h61 : peekB s i = 61
    · have hlt : i < s.size := peekB_lt (by rw [h61]; decide)
      rw [if_pos h61] at h
      exact pieces_may (by omega) hd' hdz h
    · rw [if_neg h61] at h
      cases hc : comparedP (peekB s i) with
      | none => rw [hc] at h; cases h
      | some k =>
        rw [hc] at h
        have hk : k = 8 ∨ k = 5 ∨ k = 6 := by
          unfold comparedP at hc
          split at hc
          · cases hc; exact .inl rfl
          · split at hc
            · cases hc; exact .inr (.inl rfl)
            · split at hc
              · cases hc; exact .inr (.inr rfl)
              · cases hc
        dsimp only [twoP] at h
        cases ht : takeP s (i + 1) 61 with
        | error f => rw [ht] at h; cases h
        | ok q =>
          rw [ht] at h
          obtain ⟨rfl, hlt⟩ := takeP_ok ht
          dsimp only at h
          cases hv : valueP false s (i + 1 + 1) with
          | error f => rw [hv] at h; cases h
          | ok u =>
            obtain ⟨v, q'⟩ := u
            have h5 := valueP_le (by omega) hv
            rw [hv] at h
            cases h
            exact ⟨long_ok hdz h5.2.2 (show noText.size ≤ 65536 by decide) (show noText.size ≤ 65536 by decide) (show noText.size ≤ 65536 by decide) (fun m hm => by cases hm), right_plain (by omega) hd', show 3 ≤ k by omega⟩
theorem item_may {i j : Nat} {it : Itm} (h : itemP s i = .ok (it, j)) : longB it = false ∧ rightB it 0 = true ∧ 3 ≤ it.kind := by
  unfold itemP at h
  split at h
  · exact itemD_may (.inl ⟨rfl, ‹_›⟩) (by decide) h
  · cases hd : descP s i with
    | error f => rw [hd] at h; cases h
    | ok k =>
      rw [hd] at h
      obtain ⟨l, hl, h1, h2, h3⟩ := desc_to hd
      have hx : txL (s.extract i k) = l := by rw [h2]; exact ext_of h1
      exact itemD_may (.inr (by rw [hx]; exact hl)) (by rw [← txL_len, hx]; exact h3) h
/-- How many parts are read: one more at least. -/
theorem kids_more {f : Nat → Nat → Except (Int × Nat) (Flt × Nat × Nat)} {kind : Int} (hg : ∀ {i p g j q}, i ≤ s.size → p ≤ 65536 → f i p = .ok (g, j, q) → i < j ∧ j ≤ s.size ∧ p < q ∧ q ≤ 65536) :
    ∀ {k i p : Nat} {acc l : List Flt} {j q : Nat}, i ≤ s.size → p ≤ 65536 → kidsP f s kind k i p acc = .ok (l, j, q) → p < q
  | 0, _, _, _, _, _, _, _, _, h => by cases h
  | k + 1, i, p, acc, l, j, q, hi, hp, h => by
    unfold kidsP at h
    cases hr : f i p with
    | error e => rw [hr] at h; cases h
    | ok t =>
      obtain ⟨g, j', q'⟩ := t
      rw [hr] at h
      have h1 := hg hi hp hr
      dsimp only at h
      split at h
      · cases h; exact h1.2.2.1
      · have := kids_more hg h1.2.1 h1.2.2.2 h; omega
theorem filter_more : ∀ {rem i p : Nat} {g : Flt} {j q : Nat}, i ≤ s.size → p ≤ 65536 → filterP s rem i p = .ok (g, j, q) → i < j ∧ j ≤ s.size ∧ p < q ∧ q ≤ 65536
  | rem, i, p, g, j, q, hi, hp, h => by
    have h0 := filterP_ok hi hp h
    refine ⟨h0.1, h0.2.1, ?_, h0.2.2.2⟩
    match rem with
    | 0 =>
      rw [filterP] at h
      cases ht : takeP s i 40 with
      | error f => rw [ht] at h; cases h
      | ok k => rw [ht] at h; cases h
    | rem + 1 =>
      rw [filterP] at h
      cases ht : takeP s i 40 with
      | error f => rw [ht] at h; cases h
      | ok k =>
        obtain ⟨rfl, hlt⟩ := takeP_ok ht
        rw [ht] at h
        dsimp only at h
        by_cases hl : 65536 < partsOf s (i + 1) p
        · rw [if_pos hl] at h; cases h
        · rw [if_neg hl] at h
          have hpp : p ≤ partsOf s (i + 1) p := by unfold partsOf; split <;> omega
          cases hm : manyP (peekB s (i + 1)) with
          | none =>
            rw [hm] at h
            obtain ⟨j', h1, h2, h3⟩ := closeP_ok h
            cases hi2 : itemP s (i + 1) with
            | error f => rw [hi2] at h1; cases h1
            | ok t =>
              rw [hi2] at h1
              cases h1
              have hne : peekB s (i + 1) ≠ 33 := fun e => by rw [e] at hm; exact absurd hm (by decide)
              unfold partsOf; rw [if_neg hne]; omega
          | some kd =>
            have hlt2 : i + 1 < s.size := by
              rcases Nat.lt_or_ge (i + 1) s.size with h' | h'
              · exact h'
              · rw [peekB_out h'] at hm; cases hm
            rw [hm] at h
            obtain ⟨j', h1, h2, h3⟩ := closeP_ok h
            cases hk : kidsP (filterP s rem) s kd (s.size + 1) (i + 1 + 1) (partsOf s (i + 1) p) [] with
            | error f => rw [hk] at h1; cases h1
            | ok t =>
              obtain ⟨l, j'', q''⟩ := t
              rw [hk] at h1
              have := kids_more (fun a b c => filter_more a b c) (by omega) (by omega) hk
              cases h1
              omega
theorem kids_may {rem : Nat} {kind : Int} (ih : ∀ {i p : Nat} {g : Flt} {j q : Nat} (d : Nat), i ≤ s.size → p ≤ 65536 → filterP s rem i p = .ok (g, j, q) → (checkP rem g p d).1 = 0 ∧ (checkP rem g p d).2.1 = q) :
    ∀ {k i p : Nat} {acc l : List Flt} {j q : Nat} (d : Nat), i ≤ s.size → p ≤ 65536 → kidsP (filterP s rem) s kind k i p acc = .ok (l, j, q) → ∃ gs, l = acc ++ gs ∧ gs ≠ [] ∧ (kind = 2 → gs.length = 1) ∧ (checkL (checkP rem) gs p d).1 = 0 ∧ (checkL (checkP rem) gs p d).2.1 = q
  | 0, _, _, _, _, _, _, _, _, _, h => by cases h
  | k + 1, i, p, acc, l, j, q, d, hi, hp, h => by
    unfold kidsP at h
    cases hr : filterP s rem i p with
    | error e => rw [hr] at h; cases h
    | ok t =>
      obtain ⟨g, j', q'⟩ := t
      rw [hr] at h
      have h1 := filterP_ok hi hp hr
      obtain ⟨h2, h3⟩ := ih d hi hp hr
      dsimp only at h
      split at h
      · cases h
        refine ⟨[g], rfl, by simp, fun _ => rfl, ?_, ?_⟩
        · rw [checkL, if_neg (by simpa using h2)]; rfl
        · rw [checkL, if_neg (by simpa using h2)]; exact h3
      · rename_i hc
        rw [not_or] at hc
        obtain ⟨gs, e1, e2, e3, e4, e5⟩ := kids_may (d := (checkP rem g p d).2.2) ih h1.2.1 h1.2.2.2 h
        refine ⟨g :: gs, by rw [e1]; simp, by simp, fun e => absurd e hc.1, ?_, ?_⟩
        · rw [checkL, if_neg (by simpa using h2), h3]; exact e4
        · rw [checkL, if_neg (by simpa using h2), h3]; exact e5
/-- What is read is a filter that may be, of as many parts. -/
theorem filter_may : ∀ {rem i p : Nat} {g : Flt} {j q : Nat} (d : Nat), i ≤ s.size → p ≤ 65536 → filterP s rem i p = .ok (g, j, q) → (checkP rem g p d).1 = 0 ∧ (checkP rem g p d).2.1 = q
  | 0, i, p, g, j, q, d, _, _, h => by
    rw [filterP] at h
    cases ht : takeP s i 40 with
    | error f => rw [ht] at h; cases h
    | ok k => rw [ht] at h; cases h
  | rem + 1, i, p, g, j, q, d, hi, hp, h => by
    rw [filterP] at h
    cases ht : takeP s i 40 with
    | error f => rw [ht] at h; cases h
    | ok k =>
      obtain ⟨rfl, hlt⟩ := takeP_ok ht
      rw [ht] at h
      dsimp only at h
      by_cases hl : 65536 < partsOf s (i + 1) p
      · rw [if_pos hl] at h; cases h
      · rw [if_neg hl] at h
        cases hm : manyP (peekB s (i + 1)) with
        | none =>
          rw [hm] at h
          obtain ⟨j', h1, h2, h3⟩ := closeP_ok h
          cases hi2 : itemP s (i + 1) with
          | error f => rw [hi2] at h1; cases h1
          | ok t =>
            obtain ⟨it, j''⟩ := t
            rw [hi2] at h1
            obtain ⟨e1, e2, e3⟩ := item_may hi2
            cases h1
            have hne : peekB s (i + 1) ≠ 33 := fun e => by rw [e] at hm; exact absurd hm (by decide)
            have hpo : partsOf s (i + 1) p = p + 1 := by unfold partsOf; rw [if_neg hne]
            rw [hpo] at hl ⊢
            have hk2 : (if (Flt.mk it []).it.kind = 2 then p else p + 1) = p + 1 := if_neg (by show ¬ it.kind = 2; omega)
            have hn1 : ¬ (65536 < p + 1 ∨ longB (Flt.mk it []).it = true) := by
              rintro (h | h)
              · exact hl h
              · rw [show longB (Flt.mk it []).it = false from e1] at h; cases h
            have hn2 : ¬ rightB (Flt.mk it []).it (Flt.mk it []).kids.length = false := by
              intro h; rw [show rightB (Flt.mk it []).it (Flt.mk it []).kids.length = true from e2] at h; cases h
            rw [checkP, hk2, if_neg hn1, if_neg hn2]
            exact ⟨rfl, rfl⟩
        | some kd =>
          have hlt2 : i + 1 < s.size := by
            rcases Nat.lt_or_ge (i + 1) s.size with h' | h'
            · exact h'
            · rw [peekB_out h'] at hm; cases hm
          rw [hm] at h
          obtain ⟨j', h1, h2, h3⟩ := closeP_ok h
          cases hk : kidsP (filterP s rem) s kd (s.size + 1) (i + 1 + 1) (partsOf s (i + 1) p) [] with
          | error f => rw [hk] at h1; cases h1
          | ok t =>
            obtain ⟨l, j'', q''⟩ := t
            rw [hk] at h1
            obtain ⟨gs, e1, e2, e3, e4, e5⟩ := kids_may (fun d a b c => filter_may d a b c) (max d (64 - rem)) (by omega) (by omega) hk
            rw [List.nil_append] at e1
            subst e1
            cases h1
            have hkd : (kd = 0 ∨ kd = 1 ∨ kd = 2) ∧ (kd = 2 ↔ peekB s (i + 1) = 33) := by
              unfold manyP at hm
              split at hm
              · rename_i hh; cases hm; rw [hh]; exact ⟨.inl rfl, by decide⟩
              · split at hm
                · rename_i hh; cases hm; rw [hh]; exact ⟨.inr (.inl rfl), by decide⟩
                · split at hm
                  · rename_i hh; cases hm; rw [hh]; exact ⟨.inr (.inr rfl), by decide⟩
                  · cases hm
            have hk2 : (if (Flt.mk ⟨kd, noText, noText, noText, [], noText, noText, false⟩ l).it.kind = 2 then p else p + 1) = partsOf s (i + 1) p := by
              unfold partsOf
              show (if kd = 2 then p else p + 1) = _
              by_cases h : kd = 2
              · rw [if_pos h, if_pos (hkd.2.1 h)]
              · rw [if_neg h, if_neg fun h' => h (hkd.2.2 h')]
            have hlg : longB (⟨kd, noText, noText, noText, [], noText, noText, false⟩ : Itm) = false := long_ok (show noText.size ≤ 65536 by decide) (show noText.size ≤ 65536 by decide) (show noText.size ≤ 65536 by decide) (show noText.size ≤ 65536 by decide) (show noText.size ≤ 65536 by decide) (fun m hm => by cases hm)
            have hrt : rightB (⟨kd, noText, noText, noText, [], noText, noText, false⟩ : Itm) l.length = true := right_kids hkd.1 (by cases l; exact absurd rfl e2; simp) e3
            have hn1 : ¬ (65536 < partsOf s (i + 1) p ∨ longB (Flt.mk ⟨kd, noText, noText, noText, [], noText, noText, false⟩ l).it = true) := by
              rintro (h | h)
              · exact hl h
              · rw [show longB (Flt.mk ⟨kd, noText, noText, noText, [], noText, noText, false⟩ l).it = false from hlg] at h; cases h
            have hn2 : ¬ rightB (Flt.mk ⟨kd, noText, noText, noText, [], noText, noText, false⟩ l).it (Flt.mk ⟨kd, noText, noText, noText, [], noText, noText, false⟩ l).kids.length = false := by
              intro h; rw [show rightB (Flt.mk ⟨kd, noText, noText, noText, [], noText, noText, false⟩ l).it (Flt.mk ⟨kd, noText, noText, noText, [], noText, noText, false⟩ l).kids.length = true from hrt] at h; cases h
            rw [checkP, hk2, if_neg hn1, if_neg hn2]
            exact ⟨e4, e5⟩
theorem checkL_deep {f : Flt → Nat → Nat → Int × Nat × Nat} (hf : ∀ g n d, d ≤ (f g n d).2.2) : ∀ (gs : List Flt) (n d : Nat), d ≤ (checkL f gs n d).2.2
  | [], _, _ => Nat.le_refl _
  | g :: gs, n, d => by
    rw [checkL]
    split
    · exact hf g n d
    · exact Nat.le_trans (hf g n d) (checkL_deep hf gs _ _)
theorem checkP_deep : ∀ (rem : Nat) (g : Flt) (n d : Nat), d ≤ (checkP rem g n d).2.2 ∧ (rem ≠ 0 → 65 - rem ≤ (checkP rem g n d).2.2)
  | 0, _, _, d => ⟨Nat.le_refl _, fun h => absurd rfl h⟩
  | rem + 1, g, n, d => by
    have hL := checkL_deep (fun g n d => (checkP_deep rem g n d).1) g.kids (if g.it.kind = 2 then n else n + 1) (max d (64 - rem))
    rw [checkP]
    by_cases h1 : 65536 < (if g.it.kind = 2 then n else n + 1) ∨ longB g.it = true
    · rw [if_pos h1]
      exact ⟨Nat.le_max_left _ _, fun _ => by show _ ≤ max d (64 - rem); omega⟩
    · rw [if_neg h1]
      by_cases h2 : rightB g.it g.kids.length = false
      · rw [if_pos h2]
        exact ⟨Nat.le_max_left _ _, fun _ => by show _ ≤ max d (64 - rem); omega⟩
      · rw [if_neg h2]
        exact ⟨by omega, fun _ => by omega⟩
/-- What Parse reads: Check takes it; how many parts, how deep. -/
theorem parse_check {g : Flt} (h : parseP s = .ok g) : s.size ≤ 1048576 ∧ ∃ n d, checkR g = (0, n, d) ∧ 1 ≤ n ∧ n ≤ 65536 ∧ 1 ≤ d ∧ d ≤ 64 := by
  unfold parseP at h
  split at h
  · cases h
  · rename_i hs
    cases hf : filterP s 64 0 0 with
    | error e => rw [hf] at h; cases h
    | ok t =>
      obtain ⟨g', j, q⟩ := t
      rw [hf] at h
      dsimp only at h
      split at h
      · cases h
      · cases h
        obtain ⟨h1, h2⟩ := filter_may 0 (Nat.zero_le _) (Nat.zero_le _) hf
        have h3 := filter_more (Nat.zero_le _) (Nat.zero_le _) hf
        have h4 := checkP_bound 64 g 0 0 (Nat.zero_le _) (Nat.zero_le _) h1
        have h5 := (checkP_deep 64 g 0 0).2 (by decide)
        refine ⟨by omega, q, (checkP 64 g 0 0).2.2, ?_, by omega, by omega, by omega, h4.2⟩
        unfold checkR
        rw [if_pos h1]
        exact Prod.ext h1 (Prod.ext h2 rfl)
end
end Go.Proofs.YtjmpcoedfoaebaaGreatDoor
