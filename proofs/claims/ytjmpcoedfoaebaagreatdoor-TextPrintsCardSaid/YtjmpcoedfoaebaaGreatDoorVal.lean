/- A value, plain: its pieces up to the byte at which it ends; a text that is cut at such a byte has the same pieces. No program here. -/
import Derived.Test.YtjmpcoedfoaebaaGreatDoorIdxx
open Go Go.RowKit
namespace Go.Proofs.YtjmpcoedfoaebaaGreatDoor

/-- The pieces of a value, behind others. -/
def valP (star : Bool) : Nat → ByteArray → Nat → List UInt8 → Except (Int × Nat) (List UInt8 × Nat)
  | 0, _, p, _ => .error (0, p)
  | k + 1, s, p, acc => if s.size ≤ p ∨ endB star (peekB s p) = true then .ok (acc, p) else
    match pieceP (s.data.toList.drop p) with
    | .error e => .error (e, p)
    | .ok (t, n) => valP star k s (p + n) (acc ++ t)
/-- A value's bytes, if they are not too many. -/
def lenP (i : Nat) : Except (Int × Nat) (List UInt8 × Nat) → Except (Int × Nat) (ByteArray × Nat)
  | .error f => .error f
  | .ok (b, j) => if 65536 < b.length then .error (3, i) else .ok (⟨b.toArray⟩, j)
def valueP (star : Bool) (s : ByteArray) (i : Nat) : Except (Int × Nat) (ByteArray × Nat) := lenP i (valP star (s.size + 1) s i [])
theorem valP_stop {star : Bool} {k : Nat} {s : ByteArray} {p : Nat} {acc : List UInt8} (h : s.size ≤ p ∨ endB star (peekB s p) = true) : valP star (k + 1) s p acc = .ok (acc, p) := by
  rw [valP, if_pos h]
theorem valP_err {star : Bool} {k : Nat} {s : ByteArray} {p : Nat} {acc : List UInt8} {e : Int} (h : ¬ (s.size ≤ p ∨ endB star (peekB s p) = true)) (hp : pieceP (s.data.toList.drop p) = .error e) : valP star (k + 1) s p acc = .error (e, p) := by
  rw [valP, if_neg h, hp]
theorem valP_ok {star : Bool} {k : Nat} {s : ByteArray} {p n : Nat} {acc t : List UInt8} (h : ¬ (s.size ≤ p ∨ endB star (peekB s p) = true)) (hp : pieceP (s.data.toList.drop p) = .ok (t, n)) : valP star (k + 1) s p acc = valP star k s (p + n) (acc ++ t) := by
  rw [valP, if_neg h, hp]

/-- A text that is cut ahead of a byte below 128 begins with the same character. -/
theorem firstP_cut (L r : List UInt8) (hL : L ≠ []) (hr : ∀ c t, r = c :: t → c.toNat < 128) : firstP (L ++ r) = firstP L := by
  unfold firstP
  rw [if_neg hL, if_neg (by simp [hL])]
  have hd : ∀ k, k < L.length → (L ++ r).getD k 0 = L.getD k 0 := fun k hk => by
    rw [List.getD_eq_getElem?_getD, List.getD_eq_getElem?_getD, List.getElem?_append_left hk]
  have hlo : (r = [] ∧ (L ++ r).length = L.length ∧ ∀ k, (L ++ r).getD k 0 = L.getD k 0) ∨ (L.length < (L ++ r).length ∧ ((L ++ r).getD L.length 0).toNat < 128) := by
    cases r with
    | nil => exact .inl ⟨rfl, by simp, fun k => by simp⟩
    | cons c t =>
      refine .inr ⟨by simp, ?_⟩
      rw [List.getD_eq_getElem?_getD, List.getElem?_append_right (Nat.le_refl _)]
      simp
      exact hr c t rfl
  have hz : ∀ k, L.length ≤ k → (L.getD k 0).toNat = 0 := fun k hk => by
    rw [List.getD_eq_getElem?_getD, List.getElem?_eq_none hk]; rfl
  have h0 := hd 0 (by cases L with | nil => exact absurd rfl hL | cons _ _ => simp)
  rw [h0]
  rcases hlo with ⟨_, h1, h2⟩ | ⟨h1, h2⟩
  · rw [h1, h2, h2, h2]
  · have hpos : 1 ≤ L.length := by cases L with | nil => exact absurd rfl hL | cons _ _ => simp
    generalize (L.getD 0 0).toNat = b0
    rcases (by omega : L.length = 1 ∨ L.length = 2 ∨ L.length = 3 ∨ 4 ≤ L.length) with hl | hl | hl | hl
    · rw [hl] at h2
      rw [hz 1 (by omega), hz 2 (by omega), hz 3 (by omega)]
      generalize ((L ++ r).getD 1 0).toNat = b1 at h2
      unfold firstN
      by_cases a : b0 ≤ 127
      · rw [if_pos a, if_pos a]
      · rw [if_neg a, if_neg a]
        repeat rw [if_neg (by omega)]
    · rw [hl] at h2
      rw [hd 1 (by omega), hz 2 (by omega), hz 3 (by omega), hl]
      have hln : 2 < (L ++ r).length := by omega
      generalize ((L ++ r).getD 2 0).toNat = b2 at h2
      generalize (L.getD 1 0).toNat = b1
      unfold firstN
      by_cases a : b0 ≤ 127
      · rw [if_pos a, if_pos a]
      · rw [if_neg a, if_neg a]
        by_cases c : (194 ≤ b0 ∧ b0 ≤ 223) ∧ 128 ≤ b1 ∧ b1 ≤ 191
        · rw [if_pos (by omega), if_pos (by omega)]
        · repeat rw [if_neg (by omega)]
    · rw [hl] at h2
      rw [hd 1 (by omega), hd 2 (by omega), hz 3 (by omega), hl]
      have hln : 3 < (L ++ r).length := by omega
      generalize ((L ++ r).getD 3 0).toNat = b3 at h2
      generalize (L.getD 1 0).toNat = b1
      generalize (L.getD 2 0).toNat = b2
      unfold firstN
      have e1 : (1 < (L ++ r).length) = (1 < 3) := by rw [eq_iff_iff]; omega
      have e2 : (2 < (L ++ r).length) = (2 < 3) := by rw [eq_iff_iff]; omega
      have e3 : (3 < (L ++ r).length ∧ 128 ≤ b3 ∧ b3 ≤ 191) = False := eq_false (by omega)
      have e4 : (3 < 3 ∧ 128 ≤ 0 ∧ 0 ≤ 191) = False := eq_false (by omega)
      simp only [e1, e2, e3, e4]
    · rw [hd 1 (by omega), hd 2 (by omega), hd 3 (by omega)]
      generalize (L.getD 1 0).toNat = b1
      generalize (L.getD 2 0).toNat = b2
      generalize (L.getD 3 0).toNat = b3
      unfold firstN
      have e1 : (1 < (L ++ r).length) = (1 < L.length) := by rw [eq_iff_iff]; omega
      have e2 : (2 < (L ++ r).length) = (2 < L.length) := by rw [eq_iff_iff]; omega
      have e3 : (3 < (L ++ r).length) = (3 < L.length) := by rw [eq_iff_iff]; omega
      simp only [e1, e2, e3]

theorem pairV_cut (T r : List UInt8) (hr : ∀ c t, r = c :: t → hexV c = none) : pairV (T ++ r) = pairV T := by
  match T with
  | [] =>
    match r with
    | [] => rfl
    | [_] => rfl
    | c :: d :: t =>
      show pairV (c :: d :: t) = none
      unfold pairV
      dsimp only
      rw [hr c _ rfl]
  | [a] =>
    match r with
    | [] => rfl
    | c :: t =>
      show pairV (a :: c :: t) = none
      unfold pairV
      dsimp only
      rw [hr c _ rfl]
      cases hexV a <;> rfl
  | _ :: _ :: _ => rfl
/-- .. and with the same piece, if the byte is no digit. -/
theorem piece_cut (L r : List UInt8) (hL : L ≠ []) (hr : ∀ c t, r = c :: t → c.toNat < 128 ∧ hexV c = none) : pieceP (L ++ r) = pieceP L := by
  cases L with
  | nil => exact absurd rfl hL
  | cons c T =>
    rw [List.cons_append, piece_cons, piece_cons, pairV_cut T r (fun c t h => (hr c t h).2), ← List.cons_append, firstP_cut (c :: T) r (by simp) (fun c t h => (hr c t h).1)]
    have hle := firstP_le (c :: T)
    rw [List.take_append_of_le_length hle]
theorem end_hex {star : Bool} {c : UInt8} (h : endB star c = true) : c.toNat < 128 ∧ hexV c = none ∧ bareB c = true := by
  unfold endB at h
  have : c = 41 ∨ c = 42 := by
    cases star <;> simp at h
    · exact .inl h
    · exact h
  rcases this with rfl | rfl <;> decide
theorem firstN_take (N b0 b1 b2 b3 n c1 c2 c3 : Nat) (h : firstN N b0 b1 b2 b3 = n) (hn : n ≠ 0) (h1 : 1 < n → c1 = b1) (h2 : 2 < n → c2 = b2) (h3 : 3 < n → c3 = b3) : firstN n b0 c1 c2 c3 = n := by
  unfold firstN at h
  split at h
  · subst h; unfold firstN; rw [if_pos (by omega)]
  split at h
  · subst h; unfold firstN; rw [if_neg (by omega), if_pos (by omega)]
  split at h
  · subst h; unfold firstN; rw [if_neg (by omega), if_neg (by omega), if_pos (by omega)]
  split at h
  · subst h; unfold firstN; rw [if_neg (by omega), if_neg (by omega), if_neg (by omega), if_pos (by omega)]
  split at h
  · subst h; unfold firstN; rw [if_neg (by omega), if_neg (by omega), if_neg (by omega), if_neg (by omega), if_pos (by omega)]
  split at h
  · subst h; unfold firstN; rw [if_neg (by omega), if_neg (by omega), if_neg (by omega), if_neg (by omega), if_neg (by omega), if_pos (by omega)]
  split at h
  · subst h; unfold firstN; rw [if_neg (by omega), if_neg (by omega), if_neg (by omega), if_neg (by omega), if_neg (by omega), if_neg (by omega), if_pos (by omega)]
  split at h
  · subst h; unfold firstN; rw [if_neg (by omega), if_neg (by omega), if_neg (by omega), if_neg (by omega), if_neg (by omega), if_neg (by omega), if_neg (by omega), if_pos (by omega)]
  exact absurd h.symm hn
theorem firstP_take {l : List UInt8} (h : firstP l ≠ 0) : firstP (l.take (firstP l)) = firstP l := by
  have hl : l ≠ [] := fun e => by rw [e] at h; exact h rfl
  obtain ⟨_, _, h1, h2, _⟩ := firstP_pos hl h
  have hne : l.take (firstP l) ≠ [] := by
    intro e
    have := congrArg List.length e
    rw [List.length_take, List.length_nil] at this
    omega
  generalize hn : firstP l = n at *
  have hg : ∀ k, k < n → (l.take n).getD k 0 = l.getD k 0 := fun k hk => by
    rw [List.getD_eq_getElem?_getD, List.getD_eq_getElem?_getD, List.getElem?_take_of_lt hk]
  unfold firstP at hn ⊢
  rw [if_neg hl] at hn
  rw [if_neg hne, List.length_take, Nat.min_eq_left h2, hg 0 (by omega)]
  exact firstN_take _ _ _ _ _ _ _ _ _ hn h (fun h => by rw [hg 1 h]) (fun h => by rw [hg 2 h]) (fun h => by rw [hg 3 h])
/-- One character alone is read as it stands. -/
theorem un_one {l t : List UInt8} {n : Nat} (hp : pieceP l = .ok (t, n)) (hp' : pieceP (l.take n) = .ok (t, n)) : unP (l.take n) = .ok t := by
  obtain ⟨h1, h2, h3, h4⟩ := pieceP_ok hp
  have hne : l.take n ≠ [] := by
    intro e
    have := congrArg List.length e
    rw [List.length_take, List.length_nil] at this
    omega
  unfold unP
  rw [unL_ok hne hp']
  rw [List.drop_of_length_le (by rw [List.length_take]; omega), unL_nil]
  rfl
theorem un_bad {l : List UInt8} {e : Int} (hne : l ≠ []) (hp : pieceP l = .error e) : unP l = .error e := by
  unfold unP
  rw [unL_err hne hp]
/-- What the program hands to Unescape at a character: as many bytes of the text. -/
def pieceN (l : List UInt8) : Nat :=
  match l with
  | [] => 0
  | c :: t => if c.toNat = 92 then min 3 (c :: t).length else if firstP (c :: t) = 0 then 1 else firstP (c :: t)
theorem un_piece {c : UInt8} {t : List UInt8} : unP ((c :: t).take (pieceN (c :: t))) = (match pieceP (c :: t) with | .error e => .error e | .ok (v, _) => .ok v) ∧ (∀ v n, pieceP (c :: t) = .ok (v, n) → n = pieceN (c :: t)) ∧ 1 ≤ pieceN (c :: t) ∧ pieceN (c :: t) ≤ (c :: t).length := by
  unfold pieceN
  dsimp only
  by_cases h92 : c.toNat = 92
  · rw [if_pos h92]
    have hb : ∀ m, ((c :: t).take (m + 1)) = c :: t.take m := fun m => rfl
    refine ⟨?_, ?_, by simp; omega, by omega⟩
    · cases hv : pairV t with
      | none =>
        have h1 := piece_no (c := c) (t := t) h92 hv
        rw [h1]
        have hm : min 3 (c :: t).length = (min 2 t.length) + 1 := by simp; omega
        rw [hm, hb]
        refine un_bad (by simp) (piece_no h92 ?_)
        have : t.take (min 2 t.length) = t.take 2 := by
          rcases Nat.le_total 2 t.length with h | h
          · rw [Nat.min_eq_left h]
          · rw [Nat.min_eq_right h, List.take_of_length_le (Nat.le_refl _), List.take_of_length_le h]
        rw [this, pair_take]
        exact hv
      | some v =>
        have h1 := piece_esc (c := c) (t := t) h92 hv
        have hl := (pairV_len hv).1
        rw [h1, show min 3 (c :: t).length = 3 from by simp; omega]
        refine un_one h1 ?_
        show pieceP (c :: t.take 2) = _
        exact piece_esc h92 (by rw [pair_take]; exact hv)
    · intro v n h
      cases hv : pairV t with
      | none => rw [piece_no h92 hv] at h; cases h
      | some v =>
        rw [piece_esc h92 hv] at h
        cases h
        have hl := (pairV_len hv).1
        simp
        omega
  · rw [if_neg h92]
    by_cases hf : firstP (c :: t) = 0
    · rw [if_pos hf]
      have h1 := piece_bad hf
      have h128 : ¬ c.toNat < 128 := fun e => by rw [firstP_ascii c t e] at hf; cases hf
      refine ⟨?_, ?_, by omega, by simp⟩
      case refine_2 =>
        intro v n h
        rw [h1] at h
        cases h
      rw [h1]
      refine un_bad (by simp) (piece_bad ?_)
      show firstP [c] = 0
      unfold firstP firstN
      rw [if_neg (by simp), if_neg (by show ¬ c.toNat ≤ 127; omega)]
      repeat rw [if_neg (by simp)]
    · rw [if_neg hf]
      obtain ⟨_, _, g1, g2, _⟩ := firstP_pos (l := c :: t) (by simp) hf
      obtain ⟨k, hk⟩ : ∃ k, firstP (c :: t) = k + 1 := ⟨firstP (c :: t) - 1, by omega⟩
      have hcons : (c :: t).take (firstP (c :: t)) = c :: t.take k := by rw [hk]; rfl
      have hft := firstP_take hf
      refine ⟨?_, ?_, g1, g2⟩
      · cases hb : bareB c
        · have h1 := piece_fine (t := t) hb hf
          rw [h1]
          refine un_one h1 ?_
          rw [hcons] at hft
          rw [hcons, piece_fine hb (by rw [hft]; exact hf), hft, hk]
          rw [List.take_of_length_le]
          have := congrArg List.length hcons
          rw [List.length_take] at this
          omega
        · have h1 := piece_bare (t := t) hb h92
          rw [h1, hcons]
          exact un_bad (by simp) (piece_bare hb h92)
      · intro v n h
        cases hb : bareB c
        · rw [piece_fine hb hf] at h; cases h; rfl
        · rw [piece_bare hb h92] at h; cases h
end Go.Proofs.YtjmpcoedfoaebaaGreatDoor
