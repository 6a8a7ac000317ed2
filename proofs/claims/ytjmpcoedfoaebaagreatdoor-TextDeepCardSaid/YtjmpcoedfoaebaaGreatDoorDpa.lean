/- The limits on depth and parts, at the texts of TextDeep. No program here. -/
import Derived.Test.YtjmpcoedfoaebaaGreatDoorTxx
open Go Go.RowKit
namespace Go.Proofs.YtjmpcoedfoaebaaGreatDoor

def abF : Flt := .mk ⟨3, ⟨#[97]⟩, ⟨#[98]⟩, noText, [], noText, noText, false⟩ []
def abL : List UInt8 := [40, 97, 61, 98, 41]
def deepF : Nat → Flt
  | 0 => abF
  | n + 1 => .mk ⟨2, noText, noText, noText, [], noText, noText, false⟩ [deepF n]
def opL : Nat → List UInt8
  | 0 => []
  | n + 1 => opL n ++ [40, 33]
def shL : Nat → List UInt8
  | 0 => []
  | n + 1 => shL n ++ [41]
def manyL : Nat → List UInt8
  | 0 => []
  | n + 1 => manyL n ++ abL
theorem opL_len (n : Nat) : (opL n).length = 2 * n := by induction n with
  | zero => rfl
  | succ n ih => rw [opL, List.length_append, ih]; simp; omega
theorem shL_len (n : Nat) : (shL n).length = n := by induction n with
  | zero => rfl
  | succ n ih => rw [shL, List.length_append, ih]; rfl
theorem manyL_len (n : Nat) : (manyL n).length = 5 * n := by induction n with
  | zero => rfl
  | succ n ih => rw [manyL, List.length_append, ih]; simp [abL]; omega
theorem opL_cons (n : Nat) : opL (n + 1) = 40 :: 33 :: opL n := by induction n with
  | zero => rfl
  | succ n ih =>
    show opL (n + 1) ++ [40, 33] = 40 :: 33 :: (opL n ++ [40, 33])
    rw [ih]; rfl
theorem shL_cons (n : Nat) : shL (n + 1) = 41 :: shL n := by induction n with
  | zero => rfl
  | succ n ih =>
    show shL (n + 1) ++ [41] = 41 :: (shL n ++ [41])
    rw [ih]; rfl
theorem manyL_cons (n : Nat) : manyL (n + 1) = abL ++ manyL n := by induction n with
  | zero => rfl
  | succ n ih =>
    show manyL (n + 1) ++ abL = abL ++ (manyL n ++ abL)
    rw [ih, List.append_assoc]
theorem print_ab : printL abF = abL := by kernel_rfl
theorem print_deep : ∀ n : Nat, printL (deepF n) = opL n ++ abL ++ shL n
  | 0 => by rw [deepF, print_ab]; rfl
  | n + 1 => by
    rw [deepF, printL, printK, printK, print_deep n, opL_cons, List.append_nil]
    show 40 :: (33 :: (opL n ++ abL ++ shL n) ++ [41]) = _
    rw [shL]
    simp
theorem print_many : ∀ n : Nat, printK (List.replicate n abF) = manyL n
  | 0 => rfl
  | n + 1 => by rw [List.replicate_succ, printK, print_ab, print_many n, manyL_cons]
theorem long_ab : longB abF.it = false := by kernel_rfl
theorem desc_a : descL (txL ⟨#[97]⟩) = true := by kernel_rfl
theorem right_ab : rightB abF.it 0 = true := right_plain (.inl rfl) desc_a
theorem long_not (k : Int) : longB ⟨k, noText, noText, noText, [], noText, noText, false⟩ = false := long_ok (show noText.size ≤ 65536 by decide) (show noText.size ≤ 65536 by decide) (show noText.size ≤ 65536 by decide) (show noText.size ≤ 65536 by decide) (show noText.size ≤ 65536 by decide) (fun m hm => by cases hm)
theorem check_ab {rem p d : Nat} (hp : p + 1 ≤ 65536) : checkP (rem + 1) abF p d = (0, p + 1, max d (64 - rem)) := by
  rw [checkP, if_neg (show ¬ abF.it.kind = 2 by decide), long_ab, if_neg (fun h => h.elim (fun h => by omega) (fun h => by cases h))]
  rw [show abF.kids.length = 0 from rfl, right_ab, if_neg (by decide)]
  rfl
theorem check_dp : ∀ (n rem p d : Nat), n < rem → rem ≤ 64 → p + 1 ≤ 65536 → checkP rem (deepF n) p d = (0, p + 1, max d (65 - rem + n))
  | _, 0, _, _, h, _, _ => by omega
  | 0, rem + 1, p, d, _, h2, hp => by
    rw [deepF, check_ab hp, show 65 - (rem + 1) + 0 = 64 - rem by omega]
  | n + 1, rem + 1, p, d, h, h2, hp => by
    have ih := check_dp n rem p (max d (64 - rem)) (by omega) (by omega) hp
    rw [deepF, checkP]
    have e0 : (if (Flt.mk ⟨2, noText, noText, noText, [], noText, noText, false⟩ [deepF n]).it.kind = 2 then p else p + 1) = p := if_pos rfl
    have e1 : ¬ (65536 < p ∨ longB (Flt.mk ⟨2, noText, noText, noText, [], noText, noText, false⟩ [deepF n]).it = true) := fun h => h.elim (fun h => by omega) (fun h => by
      rw [show longB (Flt.mk ⟨2, noText, noText, noText, [], noText, noText, false⟩ [deepF n]).it = false from long_not 2] at h; cases h)
    have e2 : ¬ rightB (Flt.mk ⟨2, noText, noText, noText, [], noText, noText, false⟩ [deepF n]).it (Flt.mk ⟨2, noText, noText, noText, [], noText, noText, false⟩ [deepF n]).kids.length = false := fun h' => by
      rw [show rightB (Flt.mk ⟨2, noText, noText, noText, [], noText, noText, false⟩ [deepF n]).it (Flt.mk ⟨2, noText, noText, noText, [], noText, noText, false⟩ [deepF n]).kids.length = true from right_kids (.inr (.inr rfl)) (Nat.succ_pos 0) (fun _ => rfl)] at h'; cases h'
    rw [e0, if_neg e1, if_neg e2]
    show checkL (checkP rem) [deepF n] p (max d (64 - rem)) = _
    rw [checkL, ih, if_neg (by simp), checkL]
    have : max (max d (64 - rem)) (65 - rem + n) = max d (65 - (rem + 1) + (n + 1)) := by omega
    rw [this]
theorem check_list : ∀ (m rem p d : Nat), p + m ≤ 65536 → checkL (checkP (rem + 1)) (List.replicate m abF) p d = (0, p + m, (if m = 0 then d else max d (64 - rem) : Nat))
  | 0, _, _, _, _ => rfl
  | m + 1, rem, p, d, h => by
    rw [List.replicate_succ, checkL, check_ab (by omega), if_neg (by simp)]
    dsimp only
    rw [check_list m rem (p + 1) (max d (64 - rem)) (by omega)]
    refine Prod.ext rfl (Prod.ext (show p + 1 + m = p + (m + 1) by omega) ?_)
    show (if m = 0 then max d (64 - rem) else max (max d (64 - rem)) (64 - rem)) = if m + 1 = 0 then d else max d (64 - rem)
    rw [if_neg (show ¬ m + 1 = 0 by omega)]
    split
    · rfl
    · omega
theorem check_root {g : Flt} {n d : Nat} (h : checkP 64 g 0 0 = (0, n, d)) : checkR g = (0, n, d) := by
  unfold checkR
  rw [h]
  rfl
/-- 64 deep. -/
theorem check_dp63 : checkR (deepF 63) = (0, 1, 64) := check_root (check_dp 63 64 0 0 (by decide) (by decide) (by decide))
def orF (l : List Flt) : Flt := .mk ⟨1, noText, noText, noText, [], noText, noText, false⟩ l
theorem check_or {l : List Flt} {n d : Nat} (hl : 0 < l.length) (h : checkL (checkP 63) l 1 1 = (0, n, d)) : checkR (orF l) = (0, n, d) := by
  refine check_root ?_
  rw [orF, checkP]
  have e1 : ¬ (65536 < (if (Flt.mk ⟨1, noText, noText, noText, [], noText, noText, false⟩ l).it.kind = 2 then 0 else 0 + 1) ∨ longB (Flt.mk ⟨1, noText, noText, noText, [], noText, noText, false⟩ l).it = true) := fun h => h.elim (fun h => by
    rw [if_neg (show ¬ (Flt.mk ⟨1, noText, noText, noText, [], noText, noText, false⟩ l).it.kind = 2 from fun h => absurd (show (1 : Int) = 2 from h) (by decide))] at h; omega) (fun h => by
    rw [show longB (Flt.mk ⟨1, noText, noText, noText, [], noText, noText, false⟩ l).it = false from long_not 1] at h; cases h)
  have e2 : ¬ rightB (Flt.mk ⟨1, noText, noText, noText, [], noText, noText, false⟩ l).it (Flt.mk ⟨1, noText, noText, noText, [], noText, noText, false⟩ l).kids.length = false := fun h' => by
    rw [show rightB (Flt.mk ⟨1, noText, noText, noText, [], noText, noText, false⟩ l).it (Flt.mk ⟨1, noText, noText, noText, [], noText, noText, false⟩ l).kids.length = true from right_kids (.inr (.inl rfl)) hl (fun h => by cases h)] at h'; cases h'
  rw [if_neg e1, if_neg e2]
  exact h
theorem check_many {m : Nat} (h0 : 0 < m) (h : 1 + m ≤ 65536) : checkR (orF (List.replicate m abF)) = (0, 1 + m, 2) := by
  refine check_or (by rw [List.length_replicate]; exact h0) ?_
  rw [check_list m 62 1 1 h, if_neg (by omega)]
  rfl
theorem check_more {m : Nat} (h0 : 0 < m) (h : 2 + m ≤ 65536) : checkR (orF (deepF 1 :: List.replicate m abF)) = (0, 2 + m, 3) := by
  refine check_or (Nat.succ_pos _) ?_
  rw [checkL, check_dp 1 63 1 1 (by decide) (by decide) (by decide), if_neg (fun h => h rfl)]
  show checkL (checkP 63) (List.replicate m abF) 2 3 = _
  rw [check_list m 62 2 3 h, if_neg (by omega)]
  rfl
theorem print_or (l : List Flt) : printL (orF l) = [40, 124] ++ printK l ++ [41] := by
  rw [orF, printL]
  rfl
section
variable {s : ByteArray}
theorem take_yes {i : Nat} {c : UInt8} {t : List UInt8} (h : s.data.toList.drop i = c :: t) : takeP s i c = .ok (i + 1) := take_of h
/-- Too deep. -/
theorem deep_fail : ∀ (rem n i p : Nat) (rest : List UInt8), rem ≤ n → p ≤ 65536 → s.data.toList.drop i = printL (deepF n) ++ rest → filterP s rem i p = .error (91, i + 2 * rem)
  | 0, n, i, p, rest, _, _, h => by
    obtain ⟨r, hr⟩ := printL_head (deepF n)
    rw [hr, List.cons_append] at h
    rw [filterP, take_of h]
    rfl
  | rem + 1, 0, _, _, _, h, _, _ => by omega
  | rem + 1, n + 1, i, p, rest, hn, hp, h => by
    rw [deepF, printL, printK, printK, List.append_nil] at h
    have h' : s.data.toList.drop i = 40 :: 33 :: (printL (deepF n) ++ (41 :: rest)) := by
      rw [h]
      show (40 :: (33 :: printL (deepF n) ++ [41])) ++ rest = _
      simp
    have ht := take_of h'
    obtain ⟨_, hpk, hd⟩ := peek_of (peek_of h').2.2
    rw [filterP, ht]
    dsimp only
    have hpo : partsOf s (i + 1) p = p := by unfold partsOf; rw [hpk, if_pos rfl]
    rw [hpo, if_neg (by omega), hpk]
    show closeP s (kidsF 2 (kidsP (filterP s rem) s 2 (s.size + 1) (i + 1 + 1) p [])) = _
    rw [kidsP, deep_fail rem n (i + 1 + 1) p _ (by omega) hp hd]
    show Except.error (91, i + 1 + 1 + 2 * rem) = _
    congr 2; omega
/-- Too many parts. -/
theorem many_fail : ∀ (m fuel i p : Nat) (acc : List Flt) (rest : List UInt8), p + m = 65536 → m < fuel → s.data.toList.drop i = manyL m ++ (40 :: 97 :: rest) → kidsP (filterP s 63) s 1 fuel i p acc = .error (3, i + 5 * m)
  | _, 0, _, _, _, _, _, h, _ => by omega
  | 0, fuel + 1, i, p, acc, rest, hp, _, h => by
    have h' : s.data.toList.drop i = 40 :: 97 :: rest := h
    have hf : filterP s 63 i p = .error (3, i) := by
      rw [filterP, take_of h']
      dsimp only
      have hpk := (peek_of (peek_of h').2.2).2.1
      have hpo : partsOf s (i + 1) p = p + 1 := by unfold partsOf; rw [hpk, if_neg (by decide)]
      rw [hpo, if_pos (by omega)]
    rw [kidsP, hf]
    rfl
  | m + 1, fuel + 1, i, p, acc, rest, hp, hm, h => by
    rw [manyL_cons, List.append_assoc] at h
    have hc : checkP 63 abF p 0 = (0, p + 1, max 0 (64 - 62)) := check_ab (by omega)
    have hf := filter_rt 63 abF p 0 i _ (by rw [hc]) (by rw [print_ab]; exact h)
    rw [hc, print_ab] at hf
    have hd := drop_more h
    have hpk : peekB s (i + abL.length) = 40 := by
      cases m with
      | zero => exact (peek_of hd).2.1
      | succ m => rw [manyL_cons] at hd; exact (peek_of hd).2.1
    rw [kidsP, hf]
    dsimp only
    rw [if_neg (by rw [not_or]; exact ⟨by decide, fun h => h hpk⟩), many_fail m fuel (i + abL.length) (p + 1) (acc ++ [abF]) rest (by omega) (by omega) hd]
    congr 2
    show i + 5 + 5 * m = i + 5 * (m + 1)
    omega
end
/-- The five texts. -/
theorem parse_deep63 : parseP ⟨(opL 63 ++ abL ++ shL 63).toArray⟩ = .ok (deepF 63) := by
  have := parse_print (g := deepF 63) (by rw [check_dp63]) (by rw [print_deep]; simp [opL_len, shL_len, abL])
  rwa [print_deep] at this
theorem parse_deep64 : parseP ⟨(opL 63 ++ [40, 33, 40, 97, 61, 98, 41, 41] ++ shL 63).toArray⟩ = .error (91, 128, ⟨#[40]⟩) := by
  obtain ⟨s, hs⟩ : ∃ s : ByteArray, s = ⟨(opL 63 ++ [40, 33, 40, 97, 61, 98, 41, 41] ++ shL 63).toArray⟩ := ⟨_, rfl⟩
  have hl : s.data.toList = printL (deepF 64) := by
    have e1 : opL 64 = opL 63 ++ [40, 33] := rfl
    have e2 : shL 64 = 41 :: shL 63 := shL_cons 63
    rw [hs, print_deep, e1, e2]
    simp [abL]
  have hz : s.size = 197 := by
    have : s.data.toList.length = 197 := by rw [hl, print_deep]; simp [opL_len, shL_len, abL]
    simpa using this
  rw [← hs]
  have hf := deep_fail (s := s) 64 64 0 0 [] (by decide) (by decide) (by rw [List.drop_zero, List.append_nil]; exact hl)
  unfold parseP
  rw [if_neg (by omega), hf]
  have hw : wordAt s 128 = ⟨#[40]⟩ := by
    unfold wordAt
    rw [if_pos (by omega)]
    apply ByteArray.ext
    apply Array.ext'
    rw [ByteArray.data_extract, Array.toList_extract]
    have hd : s.data.toList.drop 128 = 40 :: (([97, 61, 98, 41] : List UInt8) ++ shL 64) := by
      rw [hl, print_deep, List.append_assoc, List.drop_left' (by rw [opL_len])]
      rfl
    simp [List.extract_eq_take_drop, hd]
  show Except.error (91, 0 + 2 * 64, wordAt s (0 + 2 * 64)) = _
  rw [show 0 + 2 * 64 = 128 from rfl, hw]
theorem parse_many {m : Nat} (h0 : 0 < m) (h : 1 + m ≤ 65536) : parseP ⟨([40, 124] ++ manyL m ++ [41]).toArray⟩ = .ok (orF (List.replicate m abF)) := by
  have hl : (printL (orF (List.replicate m abF))).length ≤ 1048576 := by
    rw [print_or, print_many, List.length_append, List.length_append, manyL_len]
    show 2 + 5 * m + 1 ≤ 1048576
    omega
  have := parse_print (g := orF (List.replicate m abF)) (by rw [check_many h0 h]) hl
  rwa [print_or, print_many] at this
theorem parse_over {m : Nat} (h : 1 + m = 65536) : parseP ⟨([40, 124] ++ manyL m ++ [40, 97, 61, 98, 41, 41]).toArray⟩ = .error (3, 2 + 5 * m, ⟨#[40]⟩) := by
  obtain ⟨s, hs⟩ : ∃ s : ByteArray, s = ⟨([40, 124] ++ manyL m ++ [40, 97, 61, 98, 41, 41]).toArray⟩ := ⟨_, rfl⟩
  have hl : s.data.toList = 40 :: 124 :: (manyL m ++ [40, 97, 61, 98, 41, 41]) := by rw [hs]; simp
  have hz : s.size = 2 + 5 * m + 6 := by
    have : s.data.toList.length = 2 + 5 * m + 6 := by
      rw [hl, List.length_cons, List.length_cons, List.length_append, manyL_len]
      show 5 * m + 6 + 1 + 1 = _
      omega
    simpa using this
  rw [← hs]
  have h0 : s.data.toList.drop 0 = 40 :: 124 :: (manyL m ++ [40, 97, 61, 98, 41, 41]) := hl
  obtain ⟨_, _, h1⟩ := peek_of h0
  obtain ⟨_, hpk, h2⟩ := peek_of h1
  have hk := many_fail (s := s) m (s.size + 1) (0 + 1 + 1) 1 [] _ h (by omega) h2
  have hf : filterP s 64 0 0 = .error (3, 2 + 5 * m) := by
    rw [filterP, take_of h0]
    dsimp only
    have hpo : partsOf s (0 + 1) 0 = 1 := by unfold partsOf; rw [hpk, if_neg (by decide)]
    rw [hpo, if_neg (by decide), hpk]
    show closeP s (kidsF 1 (kidsP (filterP s 63) s 1 (s.size + 1) (0 + 1 + 1) 1 [])) = _
    rw [hk]
    rfl
  unfold parseP
  rw [if_neg (by omega), hf]
  have hw : wordAt s (2 + 5 * m) = ⟨#[40]⟩ := by
    unfold wordAt
    rw [if_pos (by omega)]
    apply ByteArray.ext
    apply Array.ext'
    rw [ByteArray.data_extract, Array.toList_extract]
    have hd : s.data.toList.drop (2 + 5 * m) = [40, 97, 61, 98, 41, 41] := by
      have := drop_more h2
      rw [manyL_len] at this
      exact this
    simp [List.extract_eq_take_drop, hd]
  show Except.error (3, 2 + 5 * m, wordAt s (2 + 5 * m)) = _
  rw [hw]
theorem parse_more {m : Nat} (h0 : 0 < m) (h : 2 + m ≤ 65536) : parseP ⟨([40, 124] ++ [40, 33, 40, 97, 61, 98, 41, 41] ++ manyL m ++ [41]).toArray⟩ = .ok (orF (deepF 1 :: List.replicate m abF)) := by
  have hp : printL (orF (deepF 1 :: List.replicate m abF)) = [40, 124] ++ [40, 33, 40, 97, 61, 98, 41, 41] ++ manyL m ++ [41] := by
    rw [print_or, printK, print_many, print_deep]
    simp [opL, shL, abL]
  have hl : (printL (orF (deepF 1 :: List.replicate m abF))).length ≤ 1048576 := by
    rw [hp, List.length_append, List.length_append, List.length_append, manyL_len]
    show 2 + 8 + 5 * m + 1 ≤ 1048576
    omega
  have := parse_print (g := orF (deepF 1 :: List.replicate m abF)) (by rw [check_more h0 h]) hl
  rwa [hp] at this
end Go.Proofs.YtjmpcoedfoaebaaGreatDoor
