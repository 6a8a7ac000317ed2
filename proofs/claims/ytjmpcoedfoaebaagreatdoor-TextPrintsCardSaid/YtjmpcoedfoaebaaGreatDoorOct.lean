/- Characters and escapes, plain: the first character of a text, one piece of a value's text. No program here. -/
import Derived.Test.YtjmpcoedfoaebaaGreatDoorPlain
import Derived.Lib.MapLaws
import Derived.Lib.RuneBytes
open Go Go.RowKit
namespace Go.Proofs.YtjmpcoedfoaebaaGreatDoor

/-- How many bytes the first character has, by the document's table; 0: none. -/
def firstN (n b0 b1 b2 b3 : Nat) : Nat :=
  if b0 ≤ 127 then 1
  else if (194 ≤ b0 ∧ b0 ≤ 223) ∧ (1 < n ∧ 128 ≤ b1 ∧ b1 ≤ 191) then 2
  else if b0 = 224 ∧ (160 ≤ b1 ∧ b1 ≤ 191) ∧ (2 < n ∧ 128 ≤ b2 ∧ b2 ≤ 191) then 3
  else if ((225 ≤ b0 ∧ b0 ≤ 236) ∨ b0 = 238 ∨ b0 = 239) ∧ (1 < n ∧ 128 ≤ b1 ∧ b1 ≤ 191) ∧ (2 < n ∧ 128 ≤ b2 ∧ b2 ≤ 191) then 3
  else if b0 = 237 ∧ (128 ≤ b1 ∧ b1 ≤ 159) ∧ (2 < n ∧ 128 ≤ b2 ∧ b2 ≤ 191) then 3
  else if b0 = 240 ∧ (144 ≤ b1 ∧ b1 ≤ 191) ∧ (2 < n ∧ 128 ≤ b2 ∧ b2 ≤ 191) ∧ (3 < n ∧ 128 ≤ b3 ∧ b3 ≤ 191) then 4
  else if (241 ≤ b0 ∧ b0 ≤ 243) ∧ (1 < n ∧ 128 ≤ b1 ∧ b1 ≤ 191) ∧ (2 < n ∧ 128 ≤ b2 ∧ b2 ≤ 191) ∧ (3 < n ∧ 128 ≤ b3 ∧ b3 ≤ 191) then 4
  else if b0 = 244 ∧ (128 ≤ b1 ∧ b1 ≤ 143) ∧ (2 < n ∧ 128 ≤ b2 ∧ b2 ≤ 191) ∧ (3 < n ∧ 128 ≤ b3 ∧ b3 ≤ 191) then 4
  else 0

theorem c_iff (b : Nat) : b / 64 = 2 ↔ (128 ≤ b ∧ b ≤ 191) := by omega

theorem pick_bad {d : Nat × Nat} (h : d = (65533, 1)) : (if d = (65533, 1) then 0 else d.2) = 0 := by rw [if_pos h]
theorem pick_ok {d : Nat × Nat} {r w : Nat} (h : d = (r, w)) (hw : 1 < w ∨ r < 65533) : (if d = (65533, 1) then 0 else d.2) = w := by
  subst h
  rw [if_neg (by simp only [Prod.mk.injEq]; omega)]
theorem firstN_eq (n b0 b1 b2 b3 : Nat) (h0 : b0 < 256) :
    firstN n b0 b1 b2 b3 = if Lib.decodeN n b0 b1 b2 b3 = (65533, 1) then 0 else (Lib.decodeN n b0 b1 b2 b3).2 := by
  unfold firstN
  by_cases a1 : b0 ≤ 127
  · rw [if_pos a1, pick_ok (r := b0) (w := 1) (by unfold Lib.decodeN; rw [if_pos (by omega)]) (by omega)]
  rw [if_neg a1]
  by_cases a2 : 194 ≤ b0 ∧ b0 ≤ 223
  · by_cases a3 : 1 < n ∧ 128 ≤ b1 ∧ b1 ≤ 191
    · rw [if_pos ⟨a2, a3⟩, pick_ok (w := 2) (by unfold Lib.decodeN; rw [if_neg (by omega), if_pos (by omega), if_pos (by omega)]) (by omega)]
    · rw [if_neg (by omega), if_neg (by omega), if_neg (by omega), if_neg (by omega), if_neg (by omega), if_neg (by omega), if_neg (by omega)]
      rw [pick_bad]
      unfold Lib.decodeN
      rw [if_neg (by omega), if_neg (by omega), if_neg (by omega), if_neg (by omega)]
  rw [if_neg (by omega)]
  by_cases b : b0 < 224 ∨ 244 < b0
  · rw [if_neg (by omega), if_neg (by omega), if_neg (by omega), if_neg (by omega), if_neg (by omega), if_neg (by omega)]
    rw [pick_bad]
    unfold Lib.decodeN
    rw [if_neg (by omega)]
    by_cases b' : b0 / 32 = 6 ∧ 1 < n ∧ b1 / 64 = 2
    · rw [if_pos b', if_neg (by omega)]
    · rw [if_neg b', if_neg (by omega)]
      by_cases b'' : b0 / 8 = 30 ∧ (1 < n ∧ b1 / 64 = 2) ∧ (2 < n ∧ b2 / 64 = 2) ∧ (3 < n ∧ b3 / 64 = 2)
      · rw [if_pos b'', if_neg (by omega)]
      · rw [if_neg b'']
  by_cases c : b0 < 240
  · by_cases t2 : (1 < n ∧ 128 ≤ b1 ∧ b1 ≤ 191) ∧ (2 < n ∧ 128 ≤ b2 ∧ b2 ≤ 191)
    · by_cases g : (b0 = 224 ∧ b1 < 160) ∨ (b0 = 237 ∧ 159 < b1)
      · rw [if_neg (by omega), if_neg (by omega), if_neg (by omega), if_neg (by omega), if_neg (by omega), if_neg (by omega)]
        rw [pick_bad]
        unfold Lib.decodeN
        rw [if_neg (by omega), if_neg (by omega), if_pos (by omega), if_neg (by omega)]
      · rw [pick_ok (w := 3) (by unfold Lib.decodeN; rw [if_neg (by omega), if_neg (by omega), if_pos (by omega), if_pos (by omega)]) (by omega)]
        by_cases e1 : b0 = 224
        · rw [if_pos (by omega)]
        · rw [if_neg (by omega)]
          by_cases e2 : b0 = 237
          · rw [if_neg (by omega), if_pos (by omega)]
          · rw [if_pos (by omega)]
    · rw [if_neg (by omega), if_neg (by omega), if_neg (by omega), if_neg (by omega), if_neg (by omega), if_neg (by omega)]
      rw [pick_bad]
      unfold Lib.decodeN
      rw [if_neg (by omega), if_neg (by omega), if_neg (by omega), if_neg (by omega)]
  · rw [if_neg (by omega), if_neg (by omega), if_neg (by omega)]
    by_cases t3 : (1 < n ∧ 128 ≤ b1 ∧ b1 ≤ 191) ∧ (2 < n ∧ 128 ≤ b2 ∧ b2 ≤ 191) ∧ (3 < n ∧ 128 ≤ b3 ∧ b3 ≤ 191)
    · by_cases g : (b0 = 240 ∧ b1 < 144) ∨ (b0 = 244 ∧ 143 < b1)
      · rw [if_neg (by omega), if_neg (by omega), if_neg (by omega)]
        rw [pick_bad]
        unfold Lib.decodeN
        rw [if_neg (by omega), if_neg (by omega), if_neg (by omega), if_pos (by omega), if_neg (by omega)]
      · rw [pick_ok (w := 4) (by unfold Lib.decodeN; rw [if_neg (by omega), if_neg (by omega), if_neg (by omega), if_pos (by omega), if_pos (by omega)]) (by omega)]
        by_cases e1 : b0 = 240
        · rw [if_pos (by omega)]
        · rw [if_neg (by omega)]
          by_cases e2 : b0 = 244
          · rw [if_neg (by omega), if_pos (by omega)]
          · rw [if_pos (by omega)]
    · rw [if_neg (by omega), if_neg (by omega), if_neg (by omega)]
      rw [pick_bad]
      unfold Lib.decodeN
      rw [if_neg (by omega), if_neg (by omega), if_neg (by omega), if_neg (by omega)]

/-- The first character's length; 0: the first byte stands alone, or there is none. -/
def firstP (l : List UInt8) : Nat := if l = [] then 0 else firstN l.length (l.getD 0 0).toNat (l.getD 1 0).toNat (l.getD 2 0).toNat (l.getD 3 0).toNat
theorem firstP_eq {l : List UInt8} (h : l ≠ []) : firstP l = if Lib.decodeL l = (65533, 1) then 0 else (Lib.decodeL l).2 := by
  unfold firstP
  rw [if_neg h, firstN_eq _ _ _ _ _ (UInt8.toNat_lt _), ← Lib.decodeL_N]
theorem firstP_nil : firstP [] = 0 := rfl
theorem firstP_zero {l : List UInt8} (h : l ≠ []) : firstP l = 0 ↔ Lib.decodeL l = (65533, 1) := by
  rw [firstP_eq h]
  have := Lib.decodeL_width l
  split <;> simp_all
  omega
theorem firstP_pos {l : List UInt8} (h : l ≠ []) (hp : firstP l ≠ 0) : firstP l = (Lib.decodeL l).2 ∧ ¬ ((Lib.decodeL l).1 = 65533 ∧ (Lib.decodeL l).2 = 1) ∧ 1 ≤ firstP l ∧ firstP l ≤ l.length ∧ Lib.encodeRune ((Lib.decodeL l).1 : Int) = l.take (firstP l) := by
  have hd : ¬ Lib.decodeL l = (65533, 1) := fun e => hp ((firstP_zero h).2 e)
  have he : firstP l = (Lib.decodeL l).2 := by rw [firstP_eq h, if_neg hd]
  have hn : ¬ ((Lib.decodeL l).1 = 65533 ∧ (Lib.decodeL l).2 = 1) := fun e => hd (Prod.ext e.1 e.2)
  refine ⟨he, hn, by omega, ?_, ?_⟩
  · rw [he]; exact Lib.decodeL_le l h
  · rw [he]; exact Lib.encode_decode l h hn
theorem firstP_le (l : List UInt8) : firstP l ≤ l.length := by
  by_cases h : l = []
  · subst h; exact Nat.le_refl _
  · by_cases hp : firstP l = 0
    · omega
    · exact (firstP_pos h hp).2.2.2.1
theorem firstP_ascii (c : UInt8) (t : List UInt8) (h : c.toNat < 128) : firstP (c :: t) = 1 := by
  unfold firstP firstN
  rw [if_neg (by simp), if_pos (by show c.toNat ≤ 127; omega)]

/-- A byte that must be escaped, though it is a character. -/
def bareB (c : UInt8) : Bool := c.toNat == 0 || c.toNat == 40 || c.toNat == 41 || c.toNat == 42 || c.toNat == 92
/-- What a digit to the base 16 says. -/
def hexV (c : UInt8) : Option Nat :=
  if 48 ≤ c.toNat ∧ c.toNat ≤ 57 then some (c.toNat - 48)
  else if 97 ≤ c.toNat ∧ c.toNat ≤ 102 then some (c.toNat - 87)
  else if 65 ≤ c.toNat ∧ c.toNat ≤ 70 then some (c.toNat - 55)
  else none
theorem hexV_lt {c : UInt8} {x : Nat} (h : hexV c = some x) : x < 16 ∧ c.toNat < 128 := by
  unfold hexV at h
  split at h
  · cases h; omega
  · split at h
    · cases h; omega
    · split at h
      · cases h; omega
      · cases h
/-- Two digits. -/
def pairV (l : List UInt8) : Option UInt8 :=
  match l with
  | a :: b :: _ => match hexV a, hexV b with
    | some x, some y => some (UInt8.ofNat (16 * x + y))
    | _, _ => none
  | _ => none
/-- One piece of a value's text: the bytes it says and how many it takes, or the code of what is wrong. -/
def pieceP (l : List UInt8) : Except Int (List UInt8 × Nat) :=
  match l with
  | [] => .error 0
  | c :: t =>
    if c.toNat = 92 then (match pairV t with | some v => .ok ([v], 3) | none => .error 11)
    else if bareB c = true then .error 12
    else if firstP (c :: t) = 0 then .error 10
    else .ok ((c :: t).take (firstP (c :: t)), firstP (c :: t))
theorem pairV_len {t : List UInt8} {v : UInt8} (h : pairV t = some v) : 2 ≤ t.length ∧ (∃ a b r, t = a :: b :: r ∧ a.toNat < 128 ∧ b.toNat < 128) := by
  unfold pairV at h
  split at h
  · rename_i a b r
    split at h
    · rename_i x y h1 h2
      exact ⟨by simp, a, b, r, rfl, (hexV_lt h1).2, (hexV_lt h2).2⟩
    · cases h
  · cases h
theorem pieceP_ok {l : List UInt8} {t : List UInt8} {n : Nat} (h : pieceP l = .ok (t, n)) : 1 ≤ n ∧ n ≤ l.length ∧ t.length ≤ n ∧ 1 ≤ t.length := by
  unfold pieceP at h
  split at h
  · cases h
  · rename_i c r
    split at h
    · split at h
      · rename_i v hv
        cases h
        have := (pairV_len hv).1
        simp; omega
      · cases h
    · split at h
      · cases h
      · split at h
        · cases h
        · rename_i hp
          cases h
          obtain ⟨_, _, h1, h2, _⟩ := firstP_pos (by simp) hp
          refine ⟨h1, h2, by simp; omega, by simp at h2 ⊢; omega⟩
/-- The pieces of a text, behind others. -/
def unL : Nat → List UInt8 → List UInt8 → Except Int (List UInt8)
  | 0, _, acc => .ok acc
  | k + 1, l, acc => if l = [] then .ok acc else
    match pieceP l with
    | .error e => .error e
    | .ok (t, n) => unL k (l.drop n) (acc ++ t)
theorem unL_nil (k : Nat) (acc : List UInt8) : unL k [] acc = .ok acc := by cases k <;> rfl
theorem unL_err {k : Nat} {l acc : List UInt8} {e : Int} (hl : l ≠ []) (h : pieceP l = .error e) : unL (k + 1) l acc = .error e := by
  unfold unL; rw [if_neg hl, h]
theorem unL_ok {k n : Nat} {l acc t : List UInt8} (hl : l ≠ []) (h : pieceP l = .ok (t, n)) : unL (k + 1) l acc = unL k (l.drop n) (acc ++ t) := by
  rw [unL, if_neg hl, h]
/-- octet.Unescape. -/
def unP (l : List UInt8) : Except Int (List UInt8) := unL (l.length + 1) l []
end Go.Proofs.YtjmpcoedfoaebaaGreatDoor
