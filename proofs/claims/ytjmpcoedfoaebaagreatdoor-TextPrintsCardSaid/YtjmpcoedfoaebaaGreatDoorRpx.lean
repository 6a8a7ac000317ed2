/- The reference's characters: within, tail, First, bare, digit. The reference's First: how many bytes the first character of a text has. Printed by wip/genfirst.py. The reference's First, bare, digit, Piece. The reference's Piece. -/
import Derived.Test.YtjmpcoedfoaebaaGreatDoorOct
import Derived.Deep.LoopGhost
import Derived.OwnWalk
import Derived.Laws.IdiomStrings
open Go Go.RowKit
namespace Go.Proofs.YtjmpcoedfoaebaaGreatDoor

theorem xwithin_any (x a b : Int) (w : World) : Calls Tryz.prog 117 #[.int .u8 x, .int .u8 a, .int .u8 b] w fun e w' => e = .returned (.bool (decide (a ≤ x ∧ x ≤ b))) ∧ w = w' := by
  go_enter Tryz.func117, Tryz.ntmps117
  go_wp2
  all_goals go_ret
  all_goals refine ⟨ret_bool ?_, rfl⟩
  all_goals simp
  all_goals omega

def contB (s : ByteArray) (j : Nat) : Bool := decide (j < s.size ∧ 128 ≤ (peekB s j).toNat ∧ (peekB s j).toNat ≤ 191)
def tailP (s : ByteArray) (p : Nat) : Nat → Bool
  | 0 => true
  | n + 1 => contB s p && tailP s (p + 1) n
def TailRel (s : ByteArray) (p n : Nat) (R : Bool) (w : World) (k : Nat) (i : Value) (wr : World) : Prop :=
  ∃ j : Nat, i = .int .i64 j ∧ j ≤ n ∧ k = n - j ∧ tailP s (p + j) (n - j) = R ∧ wr = w
set_option maxHeartbeats 1000000 in
theorem xtail_any (s : ByteArray) (p n : Nat) (w : World) (hp : p ≤ 8) (hn : n ≤ 8) (hs : s.size ≤ maxLen) :
    Calls Tryz.prog 118 #[.string s, .int .i64 p, .int .i64 n] w fun e w' => e = .returned (.bool (tailP s p n)) ∧ w' = w := by
  generalize hR : tailP s p n = R
  have HR := Lib.hid hR
  clear hR
  unfold maxLen at hs
  go_enter Tryz.func118, Tryz.ntmps118
  go_wp2
  go_loopg [7] n (fun k i wr => TailRel s p n R w k i wr)
  case atStart => exact ⟨0, rfl, by omega, rfl, HR.out, rfl⟩
  case round =>
    obtain ⟨j, rfl, hj, hk, hT, hm⟩ := hrel
    subst hk
    have HT := Lib.hid hT
    have HM := Lib.hid hm
    clear hT hm HR
    by_cases hjn : j < n
    · obtain ⟨d, hd⟩ : ∃ d, n - j = d + 1 := ⟨n - j - 1, by omega⟩
      have hT := HT.out
      rw [hd] at hT
      have hT' : (contB s (p + j) && tailP s (p + (j + 1)) (n - (j + 1))) = R := by
        rw [show n - (j + 1) = d by omega]
        exact hT
      clear hT HT
      by_cases hlt : p + j < s.size
      · have hpk : peekB s (p + j) = s[p + j] := peekB_in hlt
        have hc : contB s (p + j) = decide (128 ≤ (s[p + j].toNat : Int) ∧ (s[p + j].toNat : Int) ≤ 191) := by
          unfold contB
          rw [hpk, Bool.eq_iff_iff]
          simp [hlt]
          omega
        rw [hc] at hT'
        have HW := Lib.hid (fun W => xwithin_any s[p + j].toNat 128 191 W)
        generalize (decide (128 ≤ (s[p + j].toNat : Int) ∧ (s[p + j].toNat : Int) ≤ 191)) = cb at HW hT'
        clear hc hpk
        cases cb
        · obtain rfl : false = R := hT'
          go_wp2_with (first | (go_at_call 117; refine (HW.out _).mono ?_; rintro e w' ⟨rfl, rfl⟩))
          go_ret
          exact ⟨rfl, HM.out⟩
        · have HT' := Lib.hid hT'
          clear hT'
          go_wp2_with (first | (go_at_call 117; refine (HW.out _).mono ?_; rintro e w' ⟨rfl, rfl⟩))
          go_roundg (n - (j + 1))
          case measure => omega
          case rel => exact ⟨j + 1, rfl, by omega, rfl, by simpa using HT'.out, HM.out⟩
      · have hle : s.size ≤ p + j := by omega
        have hc : contB s (p + j) = false := by unfold contB; simp; omega
        rw [hc] at hT'
        obtain rfl : false = R := hT'
        clear hc
        go_wp2
        go_ret
        exact ⟨rfl, HM.out⟩
    · obtain rfl : j = n := by omega
      have hT := HT.out
      rw [Nat.sub_self] at hT
      obtain rfl : true = R := hT
      clear HT
      go_wp2
      go_ret
      exact ⟨rfl, HM.out⟩
theorem cont_eq (s : ByteArray) (j : Nat) : contB s j = decide (j < s.size ∧ 128 ≤ (peekB s j).toNat ∧ (peekB s j).toNat ≤ 191) := rfl
theorem tail1 (s : ByteArray) (p : Nat) : tailP s p 1 = decide (p < s.size ∧ 128 ≤ (peekB s p).toNat ∧ (peekB s p).toNat ≤ 191) := by
  unfold tailP tailP; rw [Bool.and_true]; rfl
theorem tail2 (s : ByteArray) (p : Nat) : tailP s p 2 = decide ((p < s.size ∧ 128 ≤ (peekB s p).toNat ∧ (peekB s p).toNat ≤ 191) ∧ (p + 1 < s.size ∧ 128 ≤ (peekB s (p + 1)).toNat ∧ (peekB s (p + 1)).toNat ≤ 191)) := by
  show (contB s p && tailP s (p + 1) 1) = _
  rw [tail1, cont_eq, ← Bool.decide_and]
theorem tail3 (s : ByteArray) (p : Nat) : tailP s p 3 = decide ((p < s.size ∧ 128 ≤ (peekB s p).toNat ∧ (peekB s p).toNat ≤ 191) ∧ (p + 1 < s.size ∧ 128 ≤ (peekB s (p + 1)).toNat ∧ (peekB s (p + 1)).toNat ≤ 191) ∧ (p + 1 + 1 < s.size ∧ 128 ≤ (peekB s (p + 1 + 1)).toNat ∧ (peekB s (p + 1 + 1)).toNat ≤ 191)) := by
  show (contB s p && tailP s (p + 1) 2) = _
  rw [tail2, cont_eq, ← Bool.decide_and]
/-- tail's answers, in figures. -/
def Tl (s : ByteArray) (p : Nat) : Prop := p < s.size ∧ 128 ≤ (peekB s p).toNat ∧ (peekB s p).toNat ≤ 191
theorem peek_getD (s : ByteArray) (k : Nat) : s.data.toList.getD k 0 = peekB s k := by
  rcases Nat.lt_or_ge k s.size with h | h
  · have hk : k < s.data.toList.length := by simpa using h
    rw [peekB_in h, List.getD_eq_getElem?_getD, List.getElem?_eq_getElem hk]
    simp [ByteArray.getElem_eq_getElem_data]
  · have hk : s.data.toList.length ≤ k := by simpa using h
    rw [peekB_out h, List.getD_eq_getElem?_getD, List.getElem?_eq_none hk]
    rfl
theorem firstP_peek {s : ByteArray} (h : 0 < s.size) : firstP s.data.toList = firstN s.size (peekB s 0).toNat (peekB s 1).toNat (peekB s 2).toNat (peekB s 3).toNat := by
  unfold firstP
  rw [if_neg (by intro e; have h2 : s.data.toList.length = s.size := rfl; rw [e] at h2; exact absurd (show s.size = 0 from h2.symm) (by omega)), peek_getD, peek_getD, peek_getD, peek_getD]
  rfl
theorem isEmpty_has {s : ByteArray} (h : 0 < s.size) : s.toList.isEmpty = false := by
  rw [ByteArray.toList_eq]
  cases hs : s.data.toList with
  | nil => exact absurd (show s.size = 0 by have h2 : s.data.toList.length = s.size := rfl; rw [hs] at h2; exact h2.symm) (by omega)
  | cons _ _ => rfl
end Go.Proofs.YtjmpcoedfoaebaaGreatDoor

open Go Go.RowKit
namespace Go.Proofs.YtjmpcoedfoaebaaGreatDoor

theorem xwithin_yes (x a b : Int) (w : World) (h : a ≤ x ∧ x ≤ b) : Calls Tryz.prog 117 #[.int .u8 x, .int .u8 a, .int .u8 b] w fun e w' => e = .returned (.bool true) ∧ w = w' := by
  have H := xwithin_any x a b w
  rw [decide_eq_true h] at H
  exact H
theorem xwithin_no (x a b : Int) (w : World) (h : ¬ (a ≤ x ∧ x ≤ b)) : Calls Tryz.prog 117 #[.int .u8 x, .int .u8 a, .int .u8 b] w fun e w' => e = .returned (.bool false) ∧ w = w' := by
  have H := xwithin_any x a b w
  rw [decide_eq_false h] at H
  exact H
def TailX (s : ByteArray) (p n : Int) (b : Bool) : Prop := ∀ w : World, Calls Tryz.prog 118 #[.string s, .int .i64 p, .int .i64 n] w fun e w' => e = .returned (.bool b) ∧ w' = w
set_option maxHeartbeats 1000000
set_option maxRecDepth 100000
theorem xf_A_l (s : ByteArray) (w : World) (c x : UInt8) (hem : s.toList.isEmpty = false) (hs : s.size ≤ 2 ^ 63 - 1) (h0 : 0 < s.size) (hc : s[0] = c) (hk : c.toNat ≤ 127) (h1 : 1 < s.size) (hx : s[1] = x) : Calls Tryz.prog 82 #[.string s] w fun e w' => e = .returned (.int .i64 1) ∧ w' = w := by
  have hy : (0 : Int) < s.size := by omega
  have hz : (1 : Int) < s.size := by omega
  have hcl := c.toNat_lt
  go_enter Tryz.func82, Tryz.ntmps82
  go_wp2_with (first
    | (go_at_call 117; refine (xwithin_no _ _ _ _ (by omega)).mono ?_; rintro e w' ⟨rfl, rfl⟩)
    | (go_at_call 117; refine (xwithin_yes _ _ _ _ (by omega)).mono ?_; rintro e w' ⟨rfl, rfl⟩))
  go_ret
  exact ⟨rfl, rfl⟩

theorem xf_A_s (s : ByteArray) (w : World) (c : UInt8) (hem : s.toList.isEmpty = false) (hs : s.size ≤ 2 ^ 63 - 1) (h0 : 0 < s.size) (hc : s[0] = c) (hk : c.toNat ≤ 127) (h1 : s.size ≤ 1) : Calls Tryz.prog 82 #[.string s] w fun e w' => e = .returned (.int .i64 1) ∧ w' = w := by
  have hy : (0 : Int) < s.size := by omega
  have hcl := c.toNat_lt
  go_enter Tryz.func82, Tryz.ntmps82
  go_wp2_with (first
    | (go_at_call 117; refine (xwithin_no _ _ _ _ (by omega)).mono ?_; rintro e w' ⟨rfl, rfl⟩)
    | (go_at_call 117; refine (xwithin_yes _ _ _ _ (by omega)).mono ?_; rintro e w' ⟨rfl, rfl⟩))
  go_ret
  exact ⟨rfl, rfl⟩

theorem xf_B_t (s : ByteArray) (w : World) (c x : UInt8) (hem : s.toList.isEmpty = false) (hs : s.size ≤ 2 ^ 63 - 1) (h0 : 0 < s.size) (hc : s[0] = c) (hk : 194 ≤ c.toNat ∧ c.toNat ≤ 223) (h1 : 1 < s.size) (hx : s[1] = x) (ht : TailX s 1 1 true) : Calls Tryz.prog 82 #[.string s] w fun e w' => e = .returned (.int .i64 2) ∧ w' = w := by
  have e224 : ((c.toNat : Int) == 224) = false := by rw [beq_eq_false_iff_ne]; omega
  have e238 : ((c.toNat : Int) == 238) = false := by rw [beq_eq_false_iff_ne]; omega
  have e239 : ((c.toNat : Int) == 239) = false := by rw [beq_eq_false_iff_ne]; omega
  have e237 : ((c.toNat : Int) == 237) = false := by rw [beq_eq_false_iff_ne]; omega
  have e240 : ((c.toNat : Int) == 240) = false := by rw [beq_eq_false_iff_ne]; omega
  have e244 : ((c.toNat : Int) == 244) = false := by rw [beq_eq_false_iff_ne]; omega
  have h7 : (127 : Int) < c.toNat := by omega
  have HT := Lib.hid ht
  clear ht
  have hy : (0 : Int) < s.size := by omega
  have hz : (1 : Int) < s.size := by omega
  have hcl := c.toNat_lt
  go_enter Tryz.func82, Tryz.ntmps82
  go_wp2_with (first
    | (go_at_call 117; refine (xwithin_no _ _ _ _ (by omega)).mono ?_; rintro e w' ⟨rfl, rfl⟩)
    | (go_at_call 117; refine (xwithin_yes _ _ _ _ (by omega)).mono ?_; rintro e w' ⟨rfl, rfl⟩)
    | (go_at_call 118; refine (HT.out _).mono ?_; rintro e w' ⟨rfl, rfl⟩))
  go_ret
  exact ⟨rfl, rfl⟩

theorem xf_B_f (s : ByteArray) (w : World) (c x : UInt8) (hem : s.toList.isEmpty = false) (hs : s.size ≤ 2 ^ 63 - 1) (h0 : 0 < s.size) (hc : s[0] = c) (hk : 194 ≤ c.toNat ∧ c.toNat ≤ 223) (h1 : 1 < s.size) (hx : s[1] = x) (ht : TailX s 1 1 false) : Calls Tryz.prog 82 #[.string s] w fun e w' => e = .returned (.int .i64 0) ∧ w' = w := by
  have e224 : ((c.toNat : Int) == 224) = false := by rw [beq_eq_false_iff_ne]; omega
  have e238 : ((c.toNat : Int) == 238) = false := by rw [beq_eq_false_iff_ne]; omega
  have e239 : ((c.toNat : Int) == 239) = false := by rw [beq_eq_false_iff_ne]; omega
  have e237 : ((c.toNat : Int) == 237) = false := by rw [beq_eq_false_iff_ne]; omega
  have e240 : ((c.toNat : Int) == 240) = false := by rw [beq_eq_false_iff_ne]; omega
  have e244 : ((c.toNat : Int) == 244) = false := by rw [beq_eq_false_iff_ne]; omega
  have h7 : (127 : Int) < c.toNat := by omega
  have HT := Lib.hid ht
  clear ht
  have hy : (0 : Int) < s.size := by omega
  have hz : (1 : Int) < s.size := by omega
  have hcl := c.toNat_lt
  go_enter Tryz.func82, Tryz.ntmps82
  go_wp2_with (first
    | (go_at_call 117; refine (xwithin_no _ _ _ _ (by omega)).mono ?_; rintro e w' ⟨rfl, rfl⟩)
    | (go_at_call 117; refine (xwithin_yes _ _ _ _ (by omega)).mono ?_; rintro e w' ⟨rfl, rfl⟩)
    | (go_at_call 118; refine (HT.out _).mono ?_; rintro e w' ⟨rfl, rfl⟩))
  go_ret
  exact ⟨rfl, rfl⟩

theorem xf_B_s (s : ByteArray) (w : World) (c : UInt8) (hem : s.toList.isEmpty = false) (hs : s.size ≤ 2 ^ 63 - 1) (h0 : 0 < s.size) (hc : s[0] = c) (hk : 194 ≤ c.toNat ∧ c.toNat ≤ 223) (h1 : s.size ≤ 1) (ht : TailX s 1 1 false) : Calls Tryz.prog 82 #[.string s] w fun e w' => e = .returned (.int .i64 0) ∧ w' = w := by
  have e224 : ((c.toNat : Int) == 224) = false := by rw [beq_eq_false_iff_ne]; omega
  have e238 : ((c.toNat : Int) == 238) = false := by rw [beq_eq_false_iff_ne]; omega
  have e239 : ((c.toNat : Int) == 239) = false := by rw [beq_eq_false_iff_ne]; omega
  have e237 : ((c.toNat : Int) == 237) = false := by rw [beq_eq_false_iff_ne]; omega
  have e240 : ((c.toNat : Int) == 240) = false := by rw [beq_eq_false_iff_ne]; omega
  have e244 : ((c.toNat : Int) == 244) = false := by rw [beq_eq_false_iff_ne]; omega
  have h7 : (127 : Int) < c.toNat := by omega
  have HT := Lib.hid ht
  clear ht
  have hy : (0 : Int) < s.size := by omega
  have hcl := c.toNat_lt
  go_enter Tryz.func82, Tryz.ntmps82
  go_wp2_with (first
    | (go_at_call 117; refine (xwithin_no _ _ _ _ (by omega)).mono ?_; rintro e w' ⟨rfl, rfl⟩)
    | (go_at_call 117; refine (xwithin_yes _ _ _ _ (by omega)).mono ?_; rintro e w' ⟨rfl, rfl⟩)
    | (go_at_call 118; refine (HT.out _).mono ?_; rintro e w' ⟨rfl, rfl⟩))
  go_ret
  exact ⟨rfl, rfl⟩

theorem xf_C_t (s : ByteArray) (w : World) (c x : UInt8) (hem : s.toList.isEmpty = false) (hs : s.size ≤ 2 ^ 63 - 1) (h0 : 0 < s.size) (hc : s[0] = c) (hk : c.toNat = 224) (h1 : 1 < s.size) (hx : s[1] = x) (hw : (160 ≤ x.toNat ∧ x.toNat ≤ 191)) (ht : TailX s 2 1 true) : Calls Tryz.prog 82 #[.string s] w fun e w' => e = .returned (.int .i64 3) ∧ w' = w := by
  have e224 : ((c.toNat : Int) == 224) = true := by rw [beq_iff_eq]; omega
  have e238 : ((c.toNat : Int) == 238) = false := by rw [beq_eq_false_iff_ne]; omega
  have e239 : ((c.toNat : Int) == 239) = false := by rw [beq_eq_false_iff_ne]; omega
  have e237 : ((c.toNat : Int) == 237) = false := by rw [beq_eq_false_iff_ne]; omega
  have e240 : ((c.toNat : Int) == 240) = false := by rw [beq_eq_false_iff_ne]; omega
  have e244 : ((c.toNat : Int) == 244) = false := by rw [beq_eq_false_iff_ne]; omega
  have h7 : (127 : Int) < c.toNat := by omega
  have HT := Lib.hid ht
  clear ht
  have hy : (0 : Int) < s.size := by omega
  have hz : (1 : Int) < s.size := by omega
  have hcl := c.toNat_lt
  go_enter Tryz.func82, Tryz.ntmps82
  go_wp2_with (first
    | (go_at_call 117; refine (xwithin_no _ _ _ _ (by omega)).mono ?_; rintro e w' ⟨rfl, rfl⟩)
    | (go_at_call 117; refine (xwithin_yes _ _ _ _ (by omega)).mono ?_; rintro e w' ⟨rfl, rfl⟩)
    | (go_at_call 118; refine (HT.out _).mono ?_; rintro e w' ⟨rfl, rfl⟩))
  go_ret
  exact ⟨rfl, rfl⟩

theorem xf_C_f (s : ByteArray) (w : World) (c x : UInt8) (hem : s.toList.isEmpty = false) (hs : s.size ≤ 2 ^ 63 - 1) (h0 : 0 < s.size) (hc : s[0] = c) (hk : c.toNat = 224) (h1 : 1 < s.size) (hx : s[1] = x) (hw : (160 ≤ x.toNat ∧ x.toNat ≤ 191)) (ht : TailX s 2 1 false) : Calls Tryz.prog 82 #[.string s] w fun e w' => e = .returned (.int .i64 0) ∧ w' = w := by
  have e224 : ((c.toNat : Int) == 224) = true := by rw [beq_iff_eq]; omega
  have e238 : ((c.toNat : Int) == 238) = false := by rw [beq_eq_false_iff_ne]; omega
  have e239 : ((c.toNat : Int) == 239) = false := by rw [beq_eq_false_iff_ne]; omega
  have e237 : ((c.toNat : Int) == 237) = false := by rw [beq_eq_false_iff_ne]; omega
  have e240 : ((c.toNat : Int) == 240) = false := by rw [beq_eq_false_iff_ne]; omega
  have e244 : ((c.toNat : Int) == 244) = false := by rw [beq_eq_false_iff_ne]; omega
  have h7 : (127 : Int) < c.toNat := by omega
  have HT := Lib.hid ht
  clear ht
  have hy : (0 : Int) < s.size := by omega
  have hz : (1 : Int) < s.size := by omega
  have hcl := c.toNat_lt
  go_enter Tryz.func82, Tryz.ntmps82
  go_wp2_with (first
    | (go_at_call 117; refine (xwithin_no _ _ _ _ (by omega)).mono ?_; rintro e w' ⟨rfl, rfl⟩)
    | (go_at_call 117; refine (xwithin_yes _ _ _ _ (by omega)).mono ?_; rintro e w' ⟨rfl, rfl⟩)
    | (go_at_call 118; refine (HT.out _).mono ?_; rintro e w' ⟨rfl, rfl⟩))
  go_ret
  exact ⟨rfl, rfl⟩

theorem xf_C_n (s : ByteArray) (w : World) (c x : UInt8) (hem : s.toList.isEmpty = false) (hs : s.size ≤ 2 ^ 63 - 1) (h0 : 0 < s.size) (hc : s[0] = c) (hk : c.toNat = 224) (h1 : 1 < s.size) (hx : s[1] = x) (hw : ¬ (160 ≤ x.toNat ∧ x.toNat ≤ 191)) : Calls Tryz.prog 82 #[.string s] w fun e w' => e = .returned (.int .i64 0) ∧ w' = w := by
  have e224 : ((c.toNat : Int) == 224) = true := by rw [beq_iff_eq]; omega
  have e238 : ((c.toNat : Int) == 238) = false := by rw [beq_eq_false_iff_ne]; omega
  have e239 : ((c.toNat : Int) == 239) = false := by rw [beq_eq_false_iff_ne]; omega
  have e237 : ((c.toNat : Int) == 237) = false := by rw [beq_eq_false_iff_ne]; omega
  have e240 : ((c.toNat : Int) == 240) = false := by rw [beq_eq_false_iff_ne]; omega
  have e244 : ((c.toNat : Int) == 244) = false := by rw [beq_eq_false_iff_ne]; omega
  have h7 : (127 : Int) < c.toNat := by omega
  have hy : (0 : Int) < s.size := by omega
  have hz : (1 : Int) < s.size := by omega
  have hcl := c.toNat_lt
  go_enter Tryz.func82, Tryz.ntmps82
  go_wp2_with (first
    | (go_at_call 117; refine (xwithin_no _ _ _ _ (by omega)).mono ?_; rintro e w' ⟨rfl, rfl⟩)
    | (go_at_call 117; refine (xwithin_yes _ _ _ _ (by omega)).mono ?_; rintro e w' ⟨rfl, rfl⟩))
  go_ret
  exact ⟨rfl, rfl⟩

theorem xf_C_s (s : ByteArray) (w : World) (c : UInt8) (hem : s.toList.isEmpty = false) (hs : s.size ≤ 2 ^ 63 - 1) (h0 : 0 < s.size) (hc : s[0] = c) (hk : c.toNat = 224) (h1 : s.size ≤ 1) : Calls Tryz.prog 82 #[.string s] w fun e w' => e = .returned (.int .i64 0) ∧ w' = w := by
  have e224 : ((c.toNat : Int) == 224) = true := by rw [beq_iff_eq]; omega
  have e238 : ((c.toNat : Int) == 238) = false := by rw [beq_eq_false_iff_ne]; omega
  have e239 : ((c.toNat : Int) == 239) = false := by rw [beq_eq_false_iff_ne]; omega
  have e237 : ((c.toNat : Int) == 237) = false := by rw [beq_eq_false_iff_ne]; omega
  have e240 : ((c.toNat : Int) == 240) = false := by rw [beq_eq_false_iff_ne]; omega
  have e244 : ((c.toNat : Int) == 244) = false := by rw [beq_eq_false_iff_ne]; omega
  have h7 : (127 : Int) < c.toNat := by omega
  have hy : (0 : Int) < s.size := by omega
  have hcl := c.toNat_lt
  go_enter Tryz.func82, Tryz.ntmps82
  go_wp2_with (first
    | (go_at_call 117; refine (xwithin_no _ _ _ _ (by omega)).mono ?_; rintro e w' ⟨rfl, rfl⟩)
    | (go_at_call 117; refine (xwithin_yes _ _ _ _ (by omega)).mono ?_; rintro e w' ⟨rfl, rfl⟩))
  go_ret
  exact ⟨rfl, rfl⟩

theorem xf_D_t (s : ByteArray) (w : World) (c x : UInt8) (hem : s.toList.isEmpty = false) (hs : s.size ≤ 2 ^ 63 - 1) (h0 : 0 < s.size) (hc : s[0] = c) (hk : 225 ≤ c.toNat ∧ c.toNat ≤ 236) (h1 : 1 < s.size) (hx : s[1] = x) (ht : TailX s 1 2 true) : Calls Tryz.prog 82 #[.string s] w fun e w' => e = .returned (.int .i64 3) ∧ w' = w := by
  have e224 : ((c.toNat : Int) == 224) = false := by rw [beq_eq_false_iff_ne]; omega
  have e238 : ((c.toNat : Int) == 238) = false := by rw [beq_eq_false_iff_ne]; omega
  have e239 : ((c.toNat : Int) == 239) = false := by rw [beq_eq_false_iff_ne]; omega
  have e237 : ((c.toNat : Int) == 237) = false := by rw [beq_eq_false_iff_ne]; omega
  have e240 : ((c.toNat : Int) == 240) = false := by rw [beq_eq_false_iff_ne]; omega
  have e244 : ((c.toNat : Int) == 244) = false := by rw [beq_eq_false_iff_ne]; omega
  have h7 : (127 : Int) < c.toNat := by omega
  have HT := Lib.hid ht
  clear ht
  have hy : (0 : Int) < s.size := by omega
  have hz : (1 : Int) < s.size := by omega
  have hcl := c.toNat_lt
  go_enter Tryz.func82, Tryz.ntmps82
  go_wp2_with (first
    | (go_at_call 117; refine (xwithin_no _ _ _ _ (by omega)).mono ?_; rintro e w' ⟨rfl, rfl⟩)
    | (go_at_call 117; refine (xwithin_yes _ _ _ _ (by omega)).mono ?_; rintro e w' ⟨rfl, rfl⟩)
    | (go_at_call 118; refine (HT.out _).mono ?_; rintro e w' ⟨rfl, rfl⟩))
  go_ret
  exact ⟨rfl, rfl⟩

theorem xf_D_f (s : ByteArray) (w : World) (c x : UInt8) (hem : s.toList.isEmpty = false) (hs : s.size ≤ 2 ^ 63 - 1) (h0 : 0 < s.size) (hc : s[0] = c) (hk : 225 ≤ c.toNat ∧ c.toNat ≤ 236) (h1 : 1 < s.size) (hx : s[1] = x) (ht : TailX s 1 2 false) : Calls Tryz.prog 82 #[.string s] w fun e w' => e = .returned (.int .i64 0) ∧ w' = w := by
  have e224 : ((c.toNat : Int) == 224) = false := by rw [beq_eq_false_iff_ne]; omega
  have e238 : ((c.toNat : Int) == 238) = false := by rw [beq_eq_false_iff_ne]; omega
  have e239 : ((c.toNat : Int) == 239) = false := by rw [beq_eq_false_iff_ne]; omega
  have e237 : ((c.toNat : Int) == 237) = false := by rw [beq_eq_false_iff_ne]; omega
  have e240 : ((c.toNat : Int) == 240) = false := by rw [beq_eq_false_iff_ne]; omega
  have e244 : ((c.toNat : Int) == 244) = false := by rw [beq_eq_false_iff_ne]; omega
  have h7 : (127 : Int) < c.toNat := by omega
  have HT := Lib.hid ht
  clear ht
  have hy : (0 : Int) < s.size := by omega
  have hz : (1 : Int) < s.size := by omega
  have hcl := c.toNat_lt
  go_enter Tryz.func82, Tryz.ntmps82
  go_wp2_with (first
    | (go_at_call 117; refine (xwithin_no _ _ _ _ (by omega)).mono ?_; rintro e w' ⟨rfl, rfl⟩)
    | (go_at_call 117; refine (xwithin_yes _ _ _ _ (by omega)).mono ?_; rintro e w' ⟨rfl, rfl⟩)
    | (go_at_call 118; refine (HT.out _).mono ?_; rintro e w' ⟨rfl, rfl⟩))
  go_ret
  exact ⟨rfl, rfl⟩

theorem xf_D_s (s : ByteArray) (w : World) (c : UInt8) (hem : s.toList.isEmpty = false) (hs : s.size ≤ 2 ^ 63 - 1) (h0 : 0 < s.size) (hc : s[0] = c) (hk : 225 ≤ c.toNat ∧ c.toNat ≤ 236) (h1 : s.size ≤ 1) (ht : TailX s 1 2 false) : Calls Tryz.prog 82 #[.string s] w fun e w' => e = .returned (.int .i64 0) ∧ w' = w := by
  have e224 : ((c.toNat : Int) == 224) = false := by rw [beq_eq_false_iff_ne]; omega
  have e238 : ((c.toNat : Int) == 238) = false := by rw [beq_eq_false_iff_ne]; omega
  have e239 : ((c.toNat : Int) == 239) = false := by rw [beq_eq_false_iff_ne]; omega
  have e237 : ((c.toNat : Int) == 237) = false := by rw [beq_eq_false_iff_ne]; omega
  have e240 : ((c.toNat : Int) == 240) = false := by rw [beq_eq_false_iff_ne]; omega
  have e244 : ((c.toNat : Int) == 244) = false := by rw [beq_eq_false_iff_ne]; omega
  have h7 : (127 : Int) < c.toNat := by omega
  have HT := Lib.hid ht
  clear ht
  have hy : (0 : Int) < s.size := by omega
  have hcl := c.toNat_lt
  go_enter Tryz.func82, Tryz.ntmps82
  go_wp2_with (first
    | (go_at_call 117; refine (xwithin_no _ _ _ _ (by omega)).mono ?_; rintro e w' ⟨rfl, rfl⟩)
    | (go_at_call 117; refine (xwithin_yes _ _ _ _ (by omega)).mono ?_; rintro e w' ⟨rfl, rfl⟩)
    | (go_at_call 118; refine (HT.out _).mono ?_; rintro e w' ⟨rfl, rfl⟩))
  go_ret
  exact ⟨rfl, rfl⟩

theorem xf_D2_t (s : ByteArray) (w : World) (c x : UInt8) (hem : s.toList.isEmpty = false) (hs : s.size ≤ 2 ^ 63 - 1) (h0 : 0 < s.size) (hc : s[0] = c) (hk : c.toNat = 238) (h1 : 1 < s.size) (hx : s[1] = x) (ht : TailX s 1 2 true) : Calls Tryz.prog 82 #[.string s] w fun e w' => e = .returned (.int .i64 3) ∧ w' = w := by
  have e224 : ((c.toNat : Int) == 224) = false := by rw [beq_eq_false_iff_ne]; omega
  have e238 : ((c.toNat : Int) == 238) = true := by rw [beq_iff_eq]; omega
  have e239 : ((c.toNat : Int) == 239) = false := by rw [beq_eq_false_iff_ne]; omega
  have e237 : ((c.toNat : Int) == 237) = false := by rw [beq_eq_false_iff_ne]; omega
  have e240 : ((c.toNat : Int) == 240) = false := by rw [beq_eq_false_iff_ne]; omega
  have e244 : ((c.toNat : Int) == 244) = false := by rw [beq_eq_false_iff_ne]; omega
  have h7 : (127 : Int) < c.toNat := by omega
  have HT := Lib.hid ht
  clear ht
  have hy : (0 : Int) < s.size := by omega
  have hz : (1 : Int) < s.size := by omega
  have hcl := c.toNat_lt
  go_enter Tryz.func82, Tryz.ntmps82
  go_wp2_with (first
    | (go_at_call 117; refine (xwithin_no _ _ _ _ (by omega)).mono ?_; rintro e w' ⟨rfl, rfl⟩)
    | (go_at_call 117; refine (xwithin_yes _ _ _ _ (by omega)).mono ?_; rintro e w' ⟨rfl, rfl⟩)
    | (go_at_call 118; refine (HT.out _).mono ?_; rintro e w' ⟨rfl, rfl⟩))
  go_ret
  exact ⟨rfl, rfl⟩

theorem xf_D2_f (s : ByteArray) (w : World) (c x : UInt8) (hem : s.toList.isEmpty = false) (hs : s.size ≤ 2 ^ 63 - 1) (h0 : 0 < s.size) (hc : s[0] = c) (hk : c.toNat = 238) (h1 : 1 < s.size) (hx : s[1] = x) (ht : TailX s 1 2 false) : Calls Tryz.prog 82 #[.string s] w fun e w' => e = .returned (.int .i64 0) ∧ w' = w := by
  have e224 : ((c.toNat : Int) == 224) = false := by rw [beq_eq_false_iff_ne]; omega
  have e238 : ((c.toNat : Int) == 238) = true := by rw [beq_iff_eq]; omega
  have e239 : ((c.toNat : Int) == 239) = false := by rw [beq_eq_false_iff_ne]; omega
  have e237 : ((c.toNat : Int) == 237) = false := by rw [beq_eq_false_iff_ne]; omega
  have e240 : ((c.toNat : Int) == 240) = false := by rw [beq_eq_false_iff_ne]; omega
  have e244 : ((c.toNat : Int) == 244) = false := by rw [beq_eq_false_iff_ne]; omega
  have h7 : (127 : Int) < c.toNat := by omega
  have HT := Lib.hid ht
  clear ht
  have hy : (0 : Int) < s.size := by omega
  have hz : (1 : Int) < s.size := by omega
  have hcl := c.toNat_lt
  go_enter Tryz.func82, Tryz.ntmps82
  go_wp2_with (first
    | (go_at_call 117; refine (xwithin_no _ _ _ _ (by omega)).mono ?_; rintro e w' ⟨rfl, rfl⟩)
    | (go_at_call 117; refine (xwithin_yes _ _ _ _ (by omega)).mono ?_; rintro e w' ⟨rfl, rfl⟩)
    | (go_at_call 118; refine (HT.out _).mono ?_; rintro e w' ⟨rfl, rfl⟩))
  go_ret
  exact ⟨rfl, rfl⟩

theorem xf_D2_s (s : ByteArray) (w : World) (c : UInt8) (hem : s.toList.isEmpty = false) (hs : s.size ≤ 2 ^ 63 - 1) (h0 : 0 < s.size) (hc : s[0] = c) (hk : c.toNat = 238) (h1 : s.size ≤ 1) (ht : TailX s 1 2 false) : Calls Tryz.prog 82 #[.string s] w fun e w' => e = .returned (.int .i64 0) ∧ w' = w := by
  have e224 : ((c.toNat : Int) == 224) = false := by rw [beq_eq_false_iff_ne]; omega
  have e238 : ((c.toNat : Int) == 238) = true := by rw [beq_iff_eq]; omega
  have e239 : ((c.toNat : Int) == 239) = false := by rw [beq_eq_false_iff_ne]; omega
  have e237 : ((c.toNat : Int) == 237) = false := by rw [beq_eq_false_iff_ne]; omega
  have e240 : ((c.toNat : Int) == 240) = false := by rw [beq_eq_false_iff_ne]; omega
  have e244 : ((c.toNat : Int) == 244) = false := by rw [beq_eq_false_iff_ne]; omega
  have h7 : (127 : Int) < c.toNat := by omega
  have HT := Lib.hid ht
  clear ht
  have hy : (0 : Int) < s.size := by omega
  have hcl := c.toNat_lt
  go_enter Tryz.func82, Tryz.ntmps82
  go_wp2_with (first
    | (go_at_call 117; refine (xwithin_no _ _ _ _ (by omega)).mono ?_; rintro e w' ⟨rfl, rfl⟩)
    | (go_at_call 117; refine (xwithin_yes _ _ _ _ (by omega)).mono ?_; rintro e w' ⟨rfl, rfl⟩)
    | (go_at_call 118; refine (HT.out _).mono ?_; rintro e w' ⟨rfl, rfl⟩))
  go_ret
  exact ⟨rfl, rfl⟩

theorem xf_D3_t (s : ByteArray) (w : World) (c x : UInt8) (hem : s.toList.isEmpty = false) (hs : s.size ≤ 2 ^ 63 - 1) (h0 : 0 < s.size) (hc : s[0] = c) (hk : c.toNat = 239) (h1 : 1 < s.size) (hx : s[1] = x) (ht : TailX s 1 2 true) : Calls Tryz.prog 82 #[.string s] w fun e w' => e = .returned (.int .i64 3) ∧ w' = w := by
  have e224 : ((c.toNat : Int) == 224) = false := by rw [beq_eq_false_iff_ne]; omega
  have e238 : ((c.toNat : Int) == 238) = false := by rw [beq_eq_false_iff_ne]; omega
  have e239 : ((c.toNat : Int) == 239) = true := by rw [beq_iff_eq]; omega
  have e237 : ((c.toNat : Int) == 237) = false := by rw [beq_eq_false_iff_ne]; omega
  have e240 : ((c.toNat : Int) == 240) = false := by rw [beq_eq_false_iff_ne]; omega
  have e244 : ((c.toNat : Int) == 244) = false := by rw [beq_eq_false_iff_ne]; omega
  have h7 : (127 : Int) < c.toNat := by omega
  have HT := Lib.hid ht
  clear ht
  have hy : (0 : Int) < s.size := by omega
  have hz : (1 : Int) < s.size := by omega
  have hcl := c.toNat_lt
  go_enter Tryz.func82, Tryz.ntmps82
  go_wp2_with (first
    | (go_at_call 117; refine (xwithin_no _ _ _ _ (by omega)).mono ?_; rintro e w' ⟨rfl, rfl⟩)
    | (go_at_call 117; refine (xwithin_yes _ _ _ _ (by omega)).mono ?_; rintro e w' ⟨rfl, rfl⟩)
    | (go_at_call 118; refine (HT.out _).mono ?_; rintro e w' ⟨rfl, rfl⟩))
  go_ret
  exact ⟨rfl, rfl⟩

theorem xf_D3_f (s : ByteArray) (w : World) (c x : UInt8) (hem : s.toList.isEmpty = false) (hs : s.size ≤ 2 ^ 63 - 1) (h0 : 0 < s.size) (hc : s[0] = c) (hk : c.toNat = 239) (h1 : 1 < s.size) (hx : s[1] = x) (ht : TailX s 1 2 false) : Calls Tryz.prog 82 #[.string s] w fun e w' => e = .returned (.int .i64 0) ∧ w' = w := by
  have e224 : ((c.toNat : Int) == 224) = false := by rw [beq_eq_false_iff_ne]; omega
  have e238 : ((c.toNat : Int) == 238) = false := by rw [beq_eq_false_iff_ne]; omega
  have e239 : ((c.toNat : Int) == 239) = true := by rw [beq_iff_eq]; omega
  have e237 : ((c.toNat : Int) == 237) = false := by rw [beq_eq_false_iff_ne]; omega
  have e240 : ((c.toNat : Int) == 240) = false := by rw [beq_eq_false_iff_ne]; omega
  have e244 : ((c.toNat : Int) == 244) = false := by rw [beq_eq_false_iff_ne]; omega
  have h7 : (127 : Int) < c.toNat := by omega
  have HT := Lib.hid ht
  clear ht
  have hy : (0 : Int) < s.size := by omega
  have hz : (1 : Int) < s.size := by omega
  have hcl := c.toNat_lt
  go_enter Tryz.func82, Tryz.ntmps82
  go_wp2_with (first
    | (go_at_call 117; refine (xwithin_no _ _ _ _ (by omega)).mono ?_; rintro e w' ⟨rfl, rfl⟩)
    | (go_at_call 117; refine (xwithin_yes _ _ _ _ (by omega)).mono ?_; rintro e w' ⟨rfl, rfl⟩)
    | (go_at_call 118; refine (HT.out _).mono ?_; rintro e w' ⟨rfl, rfl⟩))
  go_ret
  exact ⟨rfl, rfl⟩

theorem xf_D3_s (s : ByteArray) (w : World) (c : UInt8) (hem : s.toList.isEmpty = false) (hs : s.size ≤ 2 ^ 63 - 1) (h0 : 0 < s.size) (hc : s[0] = c) (hk : c.toNat = 239) (h1 : s.size ≤ 1) (ht : TailX s 1 2 false) : Calls Tryz.prog 82 #[.string s] w fun e w' => e = .returned (.int .i64 0) ∧ w' = w := by
  have e224 : ((c.toNat : Int) == 224) = false := by rw [beq_eq_false_iff_ne]; omega
  have e238 : ((c.toNat : Int) == 238) = false := by rw [beq_eq_false_iff_ne]; omega
  have e239 : ((c.toNat : Int) == 239) = true := by rw [beq_iff_eq]; omega
  have e237 : ((c.toNat : Int) == 237) = false := by rw [beq_eq_false_iff_ne]; omega
  have e240 : ((c.toNat : Int) == 240) = false := by rw [beq_eq_false_iff_ne]; omega
  have e244 : ((c.toNat : Int) == 244) = false := by rw [beq_eq_false_iff_ne]; omega
  have h7 : (127 : Int) < c.toNat := by omega
  have HT := Lib.hid ht
  clear ht
  have hy : (0 : Int) < s.size := by omega
  have hcl := c.toNat_lt
  go_enter Tryz.func82, Tryz.ntmps82
  go_wp2_with (first
    | (go_at_call 117; refine (xwithin_no _ _ _ _ (by omega)).mono ?_; rintro e w' ⟨rfl, rfl⟩)
    | (go_at_call 117; refine (xwithin_yes _ _ _ _ (by omega)).mono ?_; rintro e w' ⟨rfl, rfl⟩)
    | (go_at_call 118; refine (HT.out _).mono ?_; rintro e w' ⟨rfl, rfl⟩))
  go_ret
  exact ⟨rfl, rfl⟩

theorem xf_E_t (s : ByteArray) (w : World) (c x : UInt8) (hem : s.toList.isEmpty = false) (hs : s.size ≤ 2 ^ 63 - 1) (h0 : 0 < s.size) (hc : s[0] = c) (hk : c.toNat = 237) (h1 : 1 < s.size) (hx : s[1] = x) (hw : (128 ≤ x.toNat ∧ x.toNat ≤ 159)) (ht : TailX s 2 1 true) : Calls Tryz.prog 82 #[.string s] w fun e w' => e = .returned (.int .i64 3) ∧ w' = w := by
  have e224 : ((c.toNat : Int) == 224) = false := by rw [beq_eq_false_iff_ne]; omega
  have e238 : ((c.toNat : Int) == 238) = false := by rw [beq_eq_false_iff_ne]; omega
  have e239 : ((c.toNat : Int) == 239) = false := by rw [beq_eq_false_iff_ne]; omega
  have e237 : ((c.toNat : Int) == 237) = true := by rw [beq_iff_eq]; omega
  have e240 : ((c.toNat : Int) == 240) = false := by rw [beq_eq_false_iff_ne]; omega
  have e244 : ((c.toNat : Int) == 244) = false := by rw [beq_eq_false_iff_ne]; omega
  have h7 : (127 : Int) < c.toNat := by omega
  have HT := Lib.hid ht
  clear ht
  have hy : (0 : Int) < s.size := by omega
  have hz : (1 : Int) < s.size := by omega
  have hcl := c.toNat_lt
  go_enter Tryz.func82, Tryz.ntmps82
  go_wp2_with (first
    | (go_at_call 117; refine (xwithin_no _ _ _ _ (by omega)).mono ?_; rintro e w' ⟨rfl, rfl⟩)
    | (go_at_call 117; refine (xwithin_yes _ _ _ _ (by omega)).mono ?_; rintro e w' ⟨rfl, rfl⟩)
    | (go_at_call 118; refine (HT.out _).mono ?_; rintro e w' ⟨rfl, rfl⟩))
  go_ret
  exact ⟨rfl, rfl⟩

theorem xf_E_f (s : ByteArray) (w : World) (c x : UInt8) (hem : s.toList.isEmpty = false) (hs : s.size ≤ 2 ^ 63 - 1) (h0 : 0 < s.size) (hc : s[0] = c) (hk : c.toNat = 237) (h1 : 1 < s.size) (hx : s[1] = x) (hw : (128 ≤ x.toNat ∧ x.toNat ≤ 159)) (ht : TailX s 2 1 false) : Calls Tryz.prog 82 #[.string s] w fun e w' => e = .returned (.int .i64 0) ∧ w' = w := by
  have e224 : ((c.toNat : Int) == 224) = false := by rw [beq_eq_false_iff_ne]; omega
  have e238 : ((c.toNat : Int) == 238) = false := by rw [beq_eq_false_iff_ne]; omega
  have e239 : ((c.toNat : Int) == 239) = false := by rw [beq_eq_false_iff_ne]; omega
  have e237 : ((c.toNat : Int) == 237) = true := by rw [beq_iff_eq]; omega
  have e240 : ((c.toNat : Int) == 240) = false := by rw [beq_eq_false_iff_ne]; omega
  have e244 : ((c.toNat : Int) == 244) = false := by rw [beq_eq_false_iff_ne]; omega
  have h7 : (127 : Int) < c.toNat := by omega
  have HT := Lib.hid ht
  clear ht
  have hy : (0 : Int) < s.size := by omega
  have hz : (1 : Int) < s.size := by omega
  have hcl := c.toNat_lt
  go_enter Tryz.func82, Tryz.ntmps82
  go_wp2_with (first
    | (go_at_call 117; refine (xwithin_no _ _ _ _ (by omega)).mono ?_; rintro e w' ⟨rfl, rfl⟩)
    | (go_at_call 117; refine (xwithin_yes _ _ _ _ (by omega)).mono ?_; rintro e w' ⟨rfl, rfl⟩)
    | (go_at_call 118; refine (HT.out _).mono ?_; rintro e w' ⟨rfl, rfl⟩))
  go_ret
  exact ⟨rfl, rfl⟩

theorem xf_E_n (s : ByteArray) (w : World) (c x : UInt8) (hem : s.toList.isEmpty = false) (hs : s.size ≤ 2 ^ 63 - 1) (h0 : 0 < s.size) (hc : s[0] = c) (hk : c.toNat = 237) (h1 : 1 < s.size) (hx : s[1] = x) (hw : ¬ (128 ≤ x.toNat ∧ x.toNat ≤ 159)) : Calls Tryz.prog 82 #[.string s] w fun e w' => e = .returned (.int .i64 0) ∧ w' = w := by
  have e224 : ((c.toNat : Int) == 224) = false := by rw [beq_eq_false_iff_ne]; omega
  have e238 : ((c.toNat : Int) == 238) = false := by rw [beq_eq_false_iff_ne]; omega
  have e239 : ((c.toNat : Int) == 239) = false := by rw [beq_eq_false_iff_ne]; omega
  have e237 : ((c.toNat : Int) == 237) = true := by rw [beq_iff_eq]; omega
  have e240 : ((c.toNat : Int) == 240) = false := by rw [beq_eq_false_iff_ne]; omega
  have e244 : ((c.toNat : Int) == 244) = false := by rw [beq_eq_false_iff_ne]; omega
  have h7 : (127 : Int) < c.toNat := by omega
  have hy : (0 : Int) < s.size := by omega
  have hz : (1 : Int) < s.size := by omega
  have hcl := c.toNat_lt
  go_enter Tryz.func82, Tryz.ntmps82
  go_wp2_with (first
    | (go_at_call 117; refine (xwithin_no _ _ _ _ (by omega)).mono ?_; rintro e w' ⟨rfl, rfl⟩)
    | (go_at_call 117; refine (xwithin_yes _ _ _ _ (by omega)).mono ?_; rintro e w' ⟨rfl, rfl⟩))
  go_ret
  exact ⟨rfl, rfl⟩

theorem xf_E_s (s : ByteArray) (w : World) (c : UInt8) (hem : s.toList.isEmpty = false) (hs : s.size ≤ 2 ^ 63 - 1) (h0 : 0 < s.size) (hc : s[0] = c) (hk : c.toNat = 237) (h1 : s.size ≤ 1) : Calls Tryz.prog 82 #[.string s] w fun e w' => e = .returned (.int .i64 0) ∧ w' = w := by
  have e224 : ((c.toNat : Int) == 224) = false := by rw [beq_eq_false_iff_ne]; omega
  have e238 : ((c.toNat : Int) == 238) = false := by rw [beq_eq_false_iff_ne]; omega
  have e239 : ((c.toNat : Int) == 239) = false := by rw [beq_eq_false_iff_ne]; omega
  have e237 : ((c.toNat : Int) == 237) = true := by rw [beq_iff_eq]; omega
  have e240 : ((c.toNat : Int) == 240) = false := by rw [beq_eq_false_iff_ne]; omega
  have e244 : ((c.toNat : Int) == 244) = false := by rw [beq_eq_false_iff_ne]; omega
  have h7 : (127 : Int) < c.toNat := by omega
  have hy : (0 : Int) < s.size := by omega
  have hcl := c.toNat_lt
  go_enter Tryz.func82, Tryz.ntmps82
  go_wp2_with (first
    | (go_at_call 117; refine (xwithin_no _ _ _ _ (by omega)).mono ?_; rintro e w' ⟨rfl, rfl⟩)
    | (go_at_call 117; refine (xwithin_yes _ _ _ _ (by omega)).mono ?_; rintro e w' ⟨rfl, rfl⟩))
  go_ret
  exact ⟨rfl, rfl⟩

theorem xf_F_t (s : ByteArray) (w : World) (c x : UInt8) (hem : s.toList.isEmpty = false) (hs : s.size ≤ 2 ^ 63 - 1) (h0 : 0 < s.size) (hc : s[0] = c) (hk : c.toNat = 240) (h1 : 1 < s.size) (hx : s[1] = x) (hw : (144 ≤ x.toNat ∧ x.toNat ≤ 191)) (ht : TailX s 2 2 true) : Calls Tryz.prog 82 #[.string s] w fun e w' => e = .returned (.int .i64 4) ∧ w' = w := by
  have e224 : ((c.toNat : Int) == 224) = false := by rw [beq_eq_false_iff_ne]; omega
  have e238 : ((c.toNat : Int) == 238) = false := by rw [beq_eq_false_iff_ne]; omega
  have e239 : ((c.toNat : Int) == 239) = false := by rw [beq_eq_false_iff_ne]; omega
  have e237 : ((c.toNat : Int) == 237) = false := by rw [beq_eq_false_iff_ne]; omega
  have e240 : ((c.toNat : Int) == 240) = true := by rw [beq_iff_eq]; omega
  have e244 : ((c.toNat : Int) == 244) = false := by rw [beq_eq_false_iff_ne]; omega
  have h7 : (127 : Int) < c.toNat := by omega
  have HT := Lib.hid ht
  clear ht
  have hy : (0 : Int) < s.size := by omega
  have hz : (1 : Int) < s.size := by omega
  have hcl := c.toNat_lt
  go_enter Tryz.func82, Tryz.ntmps82
  go_wp2_with (first
    | (go_at_call 117; refine (xwithin_no _ _ _ _ (by omega)).mono ?_; rintro e w' ⟨rfl, rfl⟩)
    | (go_at_call 117; refine (xwithin_yes _ _ _ _ (by omega)).mono ?_; rintro e w' ⟨rfl, rfl⟩)
    | (go_at_call 118; refine (HT.out _).mono ?_; rintro e w' ⟨rfl, rfl⟩))
  go_ret
  exact ⟨rfl, rfl⟩

theorem xf_F_f (s : ByteArray) (w : World) (c x : UInt8) (hem : s.toList.isEmpty = false) (hs : s.size ≤ 2 ^ 63 - 1) (h0 : 0 < s.size) (hc : s[0] = c) (hk : c.toNat = 240) (h1 : 1 < s.size) (hx : s[1] = x) (hw : (144 ≤ x.toNat ∧ x.toNat ≤ 191)) (ht : TailX s 2 2 false) : Calls Tryz.prog 82 #[.string s] w fun e w' => e = .returned (.int .i64 0) ∧ w' = w := by
  have e224 : ((c.toNat : Int) == 224) = false := by rw [beq_eq_false_iff_ne]; omega
  have e238 : ((c.toNat : Int) == 238) = false := by rw [beq_eq_false_iff_ne]; omega
  have e239 : ((c.toNat : Int) == 239) = false := by rw [beq_eq_false_iff_ne]; omega
  have e237 : ((c.toNat : Int) == 237) = false := by rw [beq_eq_false_iff_ne]; omega
  have e240 : ((c.toNat : Int) == 240) = true := by rw [beq_iff_eq]; omega
  have e244 : ((c.toNat : Int) == 244) = false := by rw [beq_eq_false_iff_ne]; omega
  have h7 : (127 : Int) < c.toNat := by omega
  have HT := Lib.hid ht
  clear ht
  have hy : (0 : Int) < s.size := by omega
  have hz : (1 : Int) < s.size := by omega
  have hcl := c.toNat_lt
  go_enter Tryz.func82, Tryz.ntmps82
  go_wp2_with (first
    | (go_at_call 117; refine (xwithin_no _ _ _ _ (by omega)).mono ?_; rintro e w' ⟨rfl, rfl⟩)
    | (go_at_call 117; refine (xwithin_yes _ _ _ _ (by omega)).mono ?_; rintro e w' ⟨rfl, rfl⟩)
    | (go_at_call 118; refine (HT.out _).mono ?_; rintro e w' ⟨rfl, rfl⟩))
  go_ret
  exact ⟨rfl, rfl⟩

theorem xf_F_n (s : ByteArray) (w : World) (c x : UInt8) (hem : s.toList.isEmpty = false) (hs : s.size ≤ 2 ^ 63 - 1) (h0 : 0 < s.size) (hc : s[0] = c) (hk : c.toNat = 240) (h1 : 1 < s.size) (hx : s[1] = x) (hw : ¬ (144 ≤ x.toNat ∧ x.toNat ≤ 191)) : Calls Tryz.prog 82 #[.string s] w fun e w' => e = .returned (.int .i64 0) ∧ w' = w := by
  have e224 : ((c.toNat : Int) == 224) = false := by rw [beq_eq_false_iff_ne]; omega
  have e238 : ((c.toNat : Int) == 238) = false := by rw [beq_eq_false_iff_ne]; omega
  have e239 : ((c.toNat : Int) == 239) = false := by rw [beq_eq_false_iff_ne]; omega
  have e237 : ((c.toNat : Int) == 237) = false := by rw [beq_eq_false_iff_ne]; omega
  have e240 : ((c.toNat : Int) == 240) = true := by rw [beq_iff_eq]; omega
  have e244 : ((c.toNat : Int) == 244) = false := by rw [beq_eq_false_iff_ne]; omega
  have h7 : (127 : Int) < c.toNat := by omega
  have hy : (0 : Int) < s.size := by omega
  have hz : (1 : Int) < s.size := by omega
  have hcl := c.toNat_lt
  go_enter Tryz.func82, Tryz.ntmps82
  go_wp2_with (first
    | (go_at_call 117; refine (xwithin_no _ _ _ _ (by omega)).mono ?_; rintro e w' ⟨rfl, rfl⟩)
    | (go_at_call 117; refine (xwithin_yes _ _ _ _ (by omega)).mono ?_; rintro e w' ⟨rfl, rfl⟩))
  go_ret
  exact ⟨rfl, rfl⟩

theorem xf_F_s (s : ByteArray) (w : World) (c : UInt8) (hem : s.toList.isEmpty = false) (hs : s.size ≤ 2 ^ 63 - 1) (h0 : 0 < s.size) (hc : s[0] = c) (hk : c.toNat = 240) (h1 : s.size ≤ 1) : Calls Tryz.prog 82 #[.string s] w fun e w' => e = .returned (.int .i64 0) ∧ w' = w := by
  have e224 : ((c.toNat : Int) == 224) = false := by rw [beq_eq_false_iff_ne]; omega
  have e238 : ((c.toNat : Int) == 238) = false := by rw [beq_eq_false_iff_ne]; omega
  have e239 : ((c.toNat : Int) == 239) = false := by rw [beq_eq_false_iff_ne]; omega
  have e237 : ((c.toNat : Int) == 237) = false := by rw [beq_eq_false_iff_ne]; omega
  have e240 : ((c.toNat : Int) == 240) = true := by rw [beq_iff_eq]; omega
  have e244 : ((c.toNat : Int) == 244) = false := by rw [beq_eq_false_iff_ne]; omega
  have h7 : (127 : Int) < c.toNat := by omega
  have hy : (0 : Int) < s.size := by omega
  have hcl := c.toNat_lt
  go_enter Tryz.func82, Tryz.ntmps82
  go_wp2_with (first
    | (go_at_call 117; refine (xwithin_no _ _ _ _ (by omega)).mono ?_; rintro e w' ⟨rfl, rfl⟩)
    | (go_at_call 117; refine (xwithin_yes _ _ _ _ (by omega)).mono ?_; rintro e w' ⟨rfl, rfl⟩))
  go_ret
  exact ⟨rfl, rfl⟩

theorem xf_G_t (s : ByteArray) (w : World) (c x : UInt8) (hem : s.toList.isEmpty = false) (hs : s.size ≤ 2 ^ 63 - 1) (h0 : 0 < s.size) (hc : s[0] = c) (hk : 241 ≤ c.toNat ∧ c.toNat ≤ 243) (h1 : 1 < s.size) (hx : s[1] = x) (ht : TailX s 1 3 true) : Calls Tryz.prog 82 #[.string s] w fun e w' => e = .returned (.int .i64 4) ∧ w' = w := by
  have e224 : ((c.toNat : Int) == 224) = false := by rw [beq_eq_false_iff_ne]; omega
  have e238 : ((c.toNat : Int) == 238) = false := by rw [beq_eq_false_iff_ne]; omega
  have e239 : ((c.toNat : Int) == 239) = false := by rw [beq_eq_false_iff_ne]; omega
  have e237 : ((c.toNat : Int) == 237) = false := by rw [beq_eq_false_iff_ne]; omega
  have e240 : ((c.toNat : Int) == 240) = false := by rw [beq_eq_false_iff_ne]; omega
  have e244 : ((c.toNat : Int) == 244) = false := by rw [beq_eq_false_iff_ne]; omega
  have h7 : (127 : Int) < c.toNat := by omega
  have HT := Lib.hid ht
  clear ht
  have hy : (0 : Int) < s.size := by omega
  have hz : (1 : Int) < s.size := by omega
  have hcl := c.toNat_lt
  go_enter Tryz.func82, Tryz.ntmps82
  go_wp2_with (first
    | (go_at_call 117; refine (xwithin_no _ _ _ _ (by omega)).mono ?_; rintro e w' ⟨rfl, rfl⟩)
    | (go_at_call 117; refine (xwithin_yes _ _ _ _ (by omega)).mono ?_; rintro e w' ⟨rfl, rfl⟩)
    | (go_at_call 118; refine (HT.out _).mono ?_; rintro e w' ⟨rfl, rfl⟩))
  go_ret
  exact ⟨rfl, rfl⟩

theorem xf_G_f (s : ByteArray) (w : World) (c x : UInt8) (hem : s.toList.isEmpty = false) (hs : s.size ≤ 2 ^ 63 - 1) (h0 : 0 < s.size) (hc : s[0] = c) (hk : 241 ≤ c.toNat ∧ c.toNat ≤ 243) (h1 : 1 < s.size) (hx : s[1] = x) (ht : TailX s 1 3 false) : Calls Tryz.prog 82 #[.string s] w fun e w' => e = .returned (.int .i64 0) ∧ w' = w := by
  have e224 : ((c.toNat : Int) == 224) = false := by rw [beq_eq_false_iff_ne]; omega
  have e238 : ((c.toNat : Int) == 238) = false := by rw [beq_eq_false_iff_ne]; omega
  have e239 : ((c.toNat : Int) == 239) = false := by rw [beq_eq_false_iff_ne]; omega
  have e237 : ((c.toNat : Int) == 237) = false := by rw [beq_eq_false_iff_ne]; omega
  have e240 : ((c.toNat : Int) == 240) = false := by rw [beq_eq_false_iff_ne]; omega
  have e244 : ((c.toNat : Int) == 244) = false := by rw [beq_eq_false_iff_ne]; omega
  have h7 : (127 : Int) < c.toNat := by omega
  have HT := Lib.hid ht
  clear ht
  have hy : (0 : Int) < s.size := by omega
  have hz : (1 : Int) < s.size := by omega
  have hcl := c.toNat_lt
  go_enter Tryz.func82, Tryz.ntmps82
  go_wp2_with (first
    | (go_at_call 117; refine (xwithin_no _ _ _ _ (by omega)).mono ?_; rintro e w' ⟨rfl, rfl⟩)
    | (go_at_call 117; refine (xwithin_yes _ _ _ _ (by omega)).mono ?_; rintro e w' ⟨rfl, rfl⟩)
    | (go_at_call 118; refine (HT.out _).mono ?_; rintro e w' ⟨rfl, rfl⟩))
  go_ret
  exact ⟨rfl, rfl⟩

theorem xf_G_s (s : ByteArray) (w : World) (c : UInt8) (hem : s.toList.isEmpty = false) (hs : s.size ≤ 2 ^ 63 - 1) (h0 : 0 < s.size) (hc : s[0] = c) (hk : 241 ≤ c.toNat ∧ c.toNat ≤ 243) (h1 : s.size ≤ 1) (ht : TailX s 1 3 false) : Calls Tryz.prog 82 #[.string s] w fun e w' => e = .returned (.int .i64 0) ∧ w' = w := by
  have e224 : ((c.toNat : Int) == 224) = false := by rw [beq_eq_false_iff_ne]; omega
  have e238 : ((c.toNat : Int) == 238) = false := by rw [beq_eq_false_iff_ne]; omega
  have e239 : ((c.toNat : Int) == 239) = false := by rw [beq_eq_false_iff_ne]; omega
  have e237 : ((c.toNat : Int) == 237) = false := by rw [beq_eq_false_iff_ne]; omega
  have e240 : ((c.toNat : Int) == 240) = false := by rw [beq_eq_false_iff_ne]; omega
  have e244 : ((c.toNat : Int) == 244) = false := by rw [beq_eq_false_iff_ne]; omega
  have h7 : (127 : Int) < c.toNat := by omega
  have HT := Lib.hid ht
  clear ht
  have hy : (0 : Int) < s.size := by omega
  have hcl := c.toNat_lt
  go_enter Tryz.func82, Tryz.ntmps82
  go_wp2_with (first
    | (go_at_call 117; refine (xwithin_no _ _ _ _ (by omega)).mono ?_; rintro e w' ⟨rfl, rfl⟩)
    | (go_at_call 117; refine (xwithin_yes _ _ _ _ (by omega)).mono ?_; rintro e w' ⟨rfl, rfl⟩)
    | (go_at_call 118; refine (HT.out _).mono ?_; rintro e w' ⟨rfl, rfl⟩))
  go_ret
  exact ⟨rfl, rfl⟩

theorem xf_H_t (s : ByteArray) (w : World) (c x : UInt8) (hem : s.toList.isEmpty = false) (hs : s.size ≤ 2 ^ 63 - 1) (h0 : 0 < s.size) (hc : s[0] = c) (hk : c.toNat = 244) (h1 : 1 < s.size) (hx : s[1] = x) (hw : (128 ≤ x.toNat ∧ x.toNat ≤ 143)) (ht : TailX s 2 2 true) : Calls Tryz.prog 82 #[.string s] w fun e w' => e = .returned (.int .i64 4) ∧ w' = w := by
  have e224 : ((c.toNat : Int) == 224) = false := by rw [beq_eq_false_iff_ne]; omega
  have e238 : ((c.toNat : Int) == 238) = false := by rw [beq_eq_false_iff_ne]; omega
  have e239 : ((c.toNat : Int) == 239) = false := by rw [beq_eq_false_iff_ne]; omega
  have e237 : ((c.toNat : Int) == 237) = false := by rw [beq_eq_false_iff_ne]; omega
  have e240 : ((c.toNat : Int) == 240) = false := by rw [beq_eq_false_iff_ne]; omega
  have e244 : ((c.toNat : Int) == 244) = true := by rw [beq_iff_eq]; omega
  have h7 : (127 : Int) < c.toNat := by omega
  have HT := Lib.hid ht
  clear ht
  have hy : (0 : Int) < s.size := by omega
  have hz : (1 : Int) < s.size := by omega
  have hcl := c.toNat_lt
  go_enter Tryz.func82, Tryz.ntmps82
  go_wp2_with (first
    | (go_at_call 117; refine (xwithin_no _ _ _ _ (by omega)).mono ?_; rintro e w' ⟨rfl, rfl⟩)
    | (go_at_call 117; refine (xwithin_yes _ _ _ _ (by omega)).mono ?_; rintro e w' ⟨rfl, rfl⟩)
    | (go_at_call 118; refine (HT.out _).mono ?_; rintro e w' ⟨rfl, rfl⟩))
  go_ret
  exact ⟨rfl, rfl⟩

theorem xf_H_f (s : ByteArray) (w : World) (c x : UInt8) (hem : s.toList.isEmpty = false) (hs : s.size ≤ 2 ^ 63 - 1) (h0 : 0 < s.size) (hc : s[0] = c) (hk : c.toNat = 244) (h1 : 1 < s.size) (hx : s[1] = x) (hw : (128 ≤ x.toNat ∧ x.toNat ≤ 143)) (ht : TailX s 2 2 false) : Calls Tryz.prog 82 #[.string s] w fun e w' => e = .returned (.int .i64 0) ∧ w' = w := by
  have e224 : ((c.toNat : Int) == 224) = false := by rw [beq_eq_false_iff_ne]; omega
  have e238 : ((c.toNat : Int) == 238) = false := by rw [beq_eq_false_iff_ne]; omega
  have e239 : ((c.toNat : Int) == 239) = false := by rw [beq_eq_false_iff_ne]; omega
  have e237 : ((c.toNat : Int) == 237) = false := by rw [beq_eq_false_iff_ne]; omega
  have e240 : ((c.toNat : Int) == 240) = false := by rw [beq_eq_false_iff_ne]; omega
  have e244 : ((c.toNat : Int) == 244) = true := by rw [beq_iff_eq]; omega
  have h7 : (127 : Int) < c.toNat := by omega
  have HT := Lib.hid ht
  clear ht
  have hy : (0 : Int) < s.size := by omega
  have hz : (1 : Int) < s.size := by omega
  have hcl := c.toNat_lt
  go_enter Tryz.func82, Tryz.ntmps82
  go_wp2_with (first
    | (go_at_call 117; refine (xwithin_no _ _ _ _ (by omega)).mono ?_; rintro e w' ⟨rfl, rfl⟩)
    | (go_at_call 117; refine (xwithin_yes _ _ _ _ (by omega)).mono ?_; rintro e w' ⟨rfl, rfl⟩)
    | (go_at_call 118; refine (HT.out _).mono ?_; rintro e w' ⟨rfl, rfl⟩))
  go_ret
  exact ⟨rfl, rfl⟩

theorem xf_H_n (s : ByteArray) (w : World) (c x : UInt8) (hem : s.toList.isEmpty = false) (hs : s.size ≤ 2 ^ 63 - 1) (h0 : 0 < s.size) (hc : s[0] = c) (hk : c.toNat = 244) (h1 : 1 < s.size) (hx : s[1] = x) (hw : ¬ (128 ≤ x.toNat ∧ x.toNat ≤ 143)) : Calls Tryz.prog 82 #[.string s] w fun e w' => e = .returned (.int .i64 0) ∧ w' = w := by
  have e224 : ((c.toNat : Int) == 224) = false := by rw [beq_eq_false_iff_ne]; omega
  have e238 : ((c.toNat : Int) == 238) = false := by rw [beq_eq_false_iff_ne]; omega
  have e239 : ((c.toNat : Int) == 239) = false := by rw [beq_eq_false_iff_ne]; omega
  have e237 : ((c.toNat : Int) == 237) = false := by rw [beq_eq_false_iff_ne]; omega
  have e240 : ((c.toNat : Int) == 240) = false := by rw [beq_eq_false_iff_ne]; omega
  have e244 : ((c.toNat : Int) == 244) = true := by rw [beq_iff_eq]; omega
  have h7 : (127 : Int) < c.toNat := by omega
  have hy : (0 : Int) < s.size := by omega
  have hz : (1 : Int) < s.size := by omega
  have hcl := c.toNat_lt
  go_enter Tryz.func82, Tryz.ntmps82
  go_wp2_with (first
    | (go_at_call 117; refine (xwithin_no _ _ _ _ (by omega)).mono ?_; rintro e w' ⟨rfl, rfl⟩)
    | (go_at_call 117; refine (xwithin_yes _ _ _ _ (by omega)).mono ?_; rintro e w' ⟨rfl, rfl⟩))
  go_ret
  exact ⟨rfl, rfl⟩

theorem xf_H_s (s : ByteArray) (w : World) (c : UInt8) (hem : s.toList.isEmpty = false) (hs : s.size ≤ 2 ^ 63 - 1) (h0 : 0 < s.size) (hc : s[0] = c) (hk : c.toNat = 244) (h1 : s.size ≤ 1) : Calls Tryz.prog 82 #[.string s] w fun e w' => e = .returned (.int .i64 0) ∧ w' = w := by
  have e224 : ((c.toNat : Int) == 224) = false := by rw [beq_eq_false_iff_ne]; omega
  have e238 : ((c.toNat : Int) == 238) = false := by rw [beq_eq_false_iff_ne]; omega
  have e239 : ((c.toNat : Int) == 239) = false := by rw [beq_eq_false_iff_ne]; omega
  have e237 : ((c.toNat : Int) == 237) = false := by rw [beq_eq_false_iff_ne]; omega
  have e240 : ((c.toNat : Int) == 240) = false := by rw [beq_eq_false_iff_ne]; omega
  have e244 : ((c.toNat : Int) == 244) = true := by rw [beq_iff_eq]; omega
  have h7 : (127 : Int) < c.toNat := by omega
  have hy : (0 : Int) < s.size := by omega
  have hcl := c.toNat_lt
  go_enter Tryz.func82, Tryz.ntmps82
  go_wp2_with (first
    | (go_at_call 117; refine (xwithin_no _ _ _ _ (by omega)).mono ?_; rintro e w' ⟨rfl, rfl⟩)
    | (go_at_call 117; refine (xwithin_yes _ _ _ _ (by omega)).mono ?_; rintro e w' ⟨rfl, rfl⟩))
  go_ret
  exact ⟨rfl, rfl⟩

theorem xf_I_l (s : ByteArray) (w : World) (c x : UInt8) (hem : s.toList.isEmpty = false) (hs : s.size ≤ 2 ^ 63 - 1) (h0 : 0 < s.size) (hc : s[0] = c) (hk : 128 ≤ c.toNat ∧ c.toNat ≤ 193) (h1 : 1 < s.size) (hx : s[1] = x) : Calls Tryz.prog 82 #[.string s] w fun e w' => e = .returned (.int .i64 0) ∧ w' = w := by
  have e224 : ((c.toNat : Int) == 224) = false := by rw [beq_eq_false_iff_ne]; omega
  have e238 : ((c.toNat : Int) == 238) = false := by rw [beq_eq_false_iff_ne]; omega
  have e239 : ((c.toNat : Int) == 239) = false := by rw [beq_eq_false_iff_ne]; omega
  have e237 : ((c.toNat : Int) == 237) = false := by rw [beq_eq_false_iff_ne]; omega
  have e240 : ((c.toNat : Int) == 240) = false := by rw [beq_eq_false_iff_ne]; omega
  have e244 : ((c.toNat : Int) == 244) = false := by rw [beq_eq_false_iff_ne]; omega
  have h7 : (127 : Int) < c.toNat := by omega
  have hy : (0 : Int) < s.size := by omega
  have hz : (1 : Int) < s.size := by omega
  have hcl := c.toNat_lt
  go_enter Tryz.func82, Tryz.ntmps82
  go_wp2_with (first
    | (go_at_call 117; refine (xwithin_no _ _ _ _ (by omega)).mono ?_; rintro e w' ⟨rfl, rfl⟩)
    | (go_at_call 117; refine (xwithin_yes _ _ _ _ (by omega)).mono ?_; rintro e w' ⟨rfl, rfl⟩))
  go_ret
  exact ⟨rfl, rfl⟩

theorem xf_I_s (s : ByteArray) (w : World) (c : UInt8) (hem : s.toList.isEmpty = false) (hs : s.size ≤ 2 ^ 63 - 1) (h0 : 0 < s.size) (hc : s[0] = c) (hk : 128 ≤ c.toNat ∧ c.toNat ≤ 193) (h1 : s.size ≤ 1) : Calls Tryz.prog 82 #[.string s] w fun e w' => e = .returned (.int .i64 0) ∧ w' = w := by
  have e224 : ((c.toNat : Int) == 224) = false := by rw [beq_eq_false_iff_ne]; omega
  have e238 : ((c.toNat : Int) == 238) = false := by rw [beq_eq_false_iff_ne]; omega
  have e239 : ((c.toNat : Int) == 239) = false := by rw [beq_eq_false_iff_ne]; omega
  have e237 : ((c.toNat : Int) == 237) = false := by rw [beq_eq_false_iff_ne]; omega
  have e240 : ((c.toNat : Int) == 240) = false := by rw [beq_eq_false_iff_ne]; omega
  have e244 : ((c.toNat : Int) == 244) = false := by rw [beq_eq_false_iff_ne]; omega
  have h7 : (127 : Int) < c.toNat := by omega
  have hy : (0 : Int) < s.size := by omega
  have hcl := c.toNat_lt
  go_enter Tryz.func82, Tryz.ntmps82
  go_wp2_with (first
    | (go_at_call 117; refine (xwithin_no _ _ _ _ (by omega)).mono ?_; rintro e w' ⟨rfl, rfl⟩)
    | (go_at_call 117; refine (xwithin_yes _ _ _ _ (by omega)).mono ?_; rintro e w' ⟨rfl, rfl⟩))
  go_ret
  exact ⟨rfl, rfl⟩

theorem xf_J_l (s : ByteArray) (w : World) (c x : UInt8) (hem : s.toList.isEmpty = false) (hs : s.size ≤ 2 ^ 63 - 1) (h0 : 0 < s.size) (hc : s[0] = c) (hk : 245 ≤ c.toNat) (h1 : 1 < s.size) (hx : s[1] = x) : Calls Tryz.prog 82 #[.string s] w fun e w' => e = .returned (.int .i64 0) ∧ w' = w := by
  have e224 : ((c.toNat : Int) == 224) = false := by rw [beq_eq_false_iff_ne]; omega
  have e238 : ((c.toNat : Int) == 238) = false := by rw [beq_eq_false_iff_ne]; omega
  have e239 : ((c.toNat : Int) == 239) = false := by rw [beq_eq_false_iff_ne]; omega
  have e237 : ((c.toNat : Int) == 237) = false := by rw [beq_eq_false_iff_ne]; omega
  have e240 : ((c.toNat : Int) == 240) = false := by rw [beq_eq_false_iff_ne]; omega
  have e244 : ((c.toNat : Int) == 244) = false := by rw [beq_eq_false_iff_ne]; omega
  have h7 : (127 : Int) < c.toNat := by omega
  have hy : (0 : Int) < s.size := by omega
  have hz : (1 : Int) < s.size := by omega
  have hcl := c.toNat_lt
  go_enter Tryz.func82, Tryz.ntmps82
  go_wp2_with (first
    | (go_at_call 117; refine (xwithin_no _ _ _ _ (by omega)).mono ?_; rintro e w' ⟨rfl, rfl⟩)
    | (go_at_call 117; refine (xwithin_yes _ _ _ _ (by omega)).mono ?_; rintro e w' ⟨rfl, rfl⟩))
  go_ret
  exact ⟨rfl, rfl⟩

theorem xf_J_s (s : ByteArray) (w : World) (c : UInt8) (hem : s.toList.isEmpty = false) (hs : s.size ≤ 2 ^ 63 - 1) (h0 : 0 < s.size) (hc : s[0] = c) (hk : 245 ≤ c.toNat) (h1 : s.size ≤ 1) : Calls Tryz.prog 82 #[.string s] w fun e w' => e = .returned (.int .i64 0) ∧ w' = w := by
  have e224 : ((c.toNat : Int) == 224) = false := by rw [beq_eq_false_iff_ne]; omega
  have e238 : ((c.toNat : Int) == 238) = false := by rw [beq_eq_false_iff_ne]; omega
  have e239 : ((c.toNat : Int) == 239) = false := by rw [beq_eq_false_iff_ne]; omega
  have e237 : ((c.toNat : Int) == 237) = false := by rw [beq_eq_false_iff_ne]; omega
  have e240 : ((c.toNat : Int) == 240) = false := by rw [beq_eq_false_iff_ne]; omega
  have e244 : ((c.toNat : Int) == 244) = false := by rw [beq_eq_false_iff_ne]; omega
  have h7 : (127 : Int) < c.toNat := by omega
  have hy : (0 : Int) < s.size := by omega
  have hcl := c.toNat_lt
  go_enter Tryz.func82, Tryz.ntmps82
  go_wp2_with (first
    | (go_at_call 117; refine (xwithin_no _ _ _ _ (by omega)).mono ?_; rintro e w' ⟨rfl, rfl⟩)
    | (go_at_call 117; refine (xwithin_yes _ _ _ _ (by omega)).mono ?_; rintro e w' ⟨rfl, rfl⟩))
  go_ret
  exact ⟨rfl, rfl⟩
end Go.Proofs.YtjmpcoedfoaebaaGreatDoor

open Go Go.RowKit
namespace Go.Proofs.YtjmpcoedfoaebaaGreatDoor

theorem fN_A {n b0 b1 b2 b3 : Nat} (h : b0 ≤ 127) : firstN n b0 b1 b2 b3 = 1 := by unfold firstN; rw [if_pos h]
def T1 (n b1 : Nat) : Prop := 1 < n ∧ 128 ≤ b1 ∧ b1 ≤ 191
def T2 (n b2 : Nat) : Prop := 2 < n ∧ 128 ≤ b2 ∧ b2 ≤ 191
def T3 (n b3 : Nat) : Prop := 3 < n ∧ 128 ≤ b3 ∧ b3 ≤ 191
theorem fN_B {n b0 b1 b2 b3 : Nat} (h : 194 ≤ b0 ∧ b0 ≤ 223) : firstN n b0 b1 b2 b3 = if 1 < n ∧ 128 ≤ b1 ∧ b1 ≤ 191 then 2 else 0 := by
  unfold firstN
  rw [if_neg (by omega)]
  by_cases ht : 1 < n ∧ 128 ≤ b1 ∧ b1 ≤ 191
  · rw [if_pos ⟨h, ht⟩, if_pos ht]
  · rw [if_neg (by omega), if_neg ht]
    repeat rw [if_neg (by omega)]
theorem fN_C {n b0 b1 b2 b3 : Nat} (h : b0 = 224) : firstN n b0 b1 b2 b3 = if (160 ≤ b1 ∧ b1 ≤ 191) ∧ (2 < n ∧ 128 ≤ b2 ∧ b2 ≤ 191) then 3 else 0 := by
  unfold firstN
  rw [if_neg (by omega), if_neg (by omega)]
  by_cases ht : (160 ≤ b1 ∧ b1 ≤ 191) ∧ (2 < n ∧ 128 ≤ b2 ∧ b2 ≤ 191)
  · rw [if_pos ⟨h, ht⟩, if_pos ht]
  · rw [if_neg (by omega), if_neg ht]
    repeat rw [if_neg (by omega)]
theorem fN_D {n b0 b1 b2 b3 : Nat} (h : (225 ≤ b0 ∧ b0 ≤ 236) ∨ b0 = 238 ∨ b0 = 239) : firstN n b0 b1 b2 b3 = if (1 < n ∧ 128 ≤ b1 ∧ b1 ≤ 191) ∧ (2 < n ∧ 128 ≤ b2 ∧ b2 ≤ 191) then 3 else 0 := by
  unfold firstN
  rw [if_neg (by omega), if_neg (by omega), if_neg (by omega)]
  by_cases ht : (1 < n ∧ 128 ≤ b1 ∧ b1 ≤ 191) ∧ (2 < n ∧ 128 ≤ b2 ∧ b2 ≤ 191)
  · rw [if_pos ⟨h, ht⟩, if_pos ht]
  · rw [if_neg (by omega), if_neg ht]
    repeat rw [if_neg (by omega)]
theorem fN_E {n b0 b1 b2 b3 : Nat} (h : b0 = 237) : firstN n b0 b1 b2 b3 = if (128 ≤ b1 ∧ b1 ≤ 159) ∧ (2 < n ∧ 128 ≤ b2 ∧ b2 ≤ 191) then 3 else 0 := by
  unfold firstN
  rw [if_neg (by omega), if_neg (by omega), if_neg (by omega), if_neg (by omega)]
  by_cases ht : (128 ≤ b1 ∧ b1 ≤ 159) ∧ (2 < n ∧ 128 ≤ b2 ∧ b2 ≤ 191)
  · rw [if_pos ⟨h, ht⟩, if_pos ht]
  · rw [if_neg (by omega), if_neg ht]
    repeat rw [if_neg (by omega)]
theorem fN_F {n b0 b1 b2 b3 : Nat} (h : b0 = 240) : firstN n b0 b1 b2 b3 = if (144 ≤ b1 ∧ b1 ≤ 191) ∧ (2 < n ∧ 128 ≤ b2 ∧ b2 ≤ 191) ∧ (3 < n ∧ 128 ≤ b3 ∧ b3 ≤ 191) then 4 else 0 := by
  unfold firstN
  rw [if_neg (by omega), if_neg (by omega), if_neg (by omega), if_neg (by omega), if_neg (by omega)]
  by_cases ht : (144 ≤ b1 ∧ b1 ≤ 191) ∧ (2 < n ∧ 128 ≤ b2 ∧ b2 ≤ 191) ∧ (3 < n ∧ 128 ≤ b3 ∧ b3 ≤ 191)
  · rw [if_pos ⟨h, ht⟩, if_pos ht]
  · rw [if_neg (by omega), if_neg ht]
    repeat rw [if_neg (by omega)]
theorem fN_G {n b0 b1 b2 b3 : Nat} (h : 241 ≤ b0 ∧ b0 ≤ 243) : firstN n b0 b1 b2 b3 = if (1 < n ∧ 128 ≤ b1 ∧ b1 ≤ 191) ∧ (2 < n ∧ 128 ≤ b2 ∧ b2 ≤ 191) ∧ (3 < n ∧ 128 ≤ b3 ∧ b3 ≤ 191) then 4 else 0 := by
  unfold firstN
  rw [if_neg (by omega), if_neg (by omega), if_neg (by omega), if_neg (by omega), if_neg (by omega), if_neg (by omega)]
  by_cases ht : (1 < n ∧ 128 ≤ b1 ∧ b1 ≤ 191) ∧ (2 < n ∧ 128 ≤ b2 ∧ b2 ≤ 191) ∧ (3 < n ∧ 128 ≤ b3 ∧ b3 ≤ 191)
  · rw [if_pos ⟨h, ht⟩, if_pos ht]
  · rw [if_neg (by omega), if_neg ht]
    repeat rw [if_neg (by omega)]
theorem fN_H {n b0 b1 b2 b3 : Nat} (h : b0 = 244) : firstN n b0 b1 b2 b3 = if (128 ≤ b1 ∧ b1 ≤ 143) ∧ (2 < n ∧ 128 ≤ b2 ∧ b2 ≤ 191) ∧ (3 < n ∧ 128 ≤ b3 ∧ b3 ≤ 191) then 4 else 0 := by
  unfold firstN
  rw [if_neg (by omega), if_neg (by omega), if_neg (by omega), if_neg (by omega), if_neg (by omega), if_neg (by omega), if_neg (by omega)]
  by_cases ht : (128 ≤ b1 ∧ b1 ≤ 143) ∧ (2 < n ∧ 128 ≤ b2 ∧ b2 ≤ 191) ∧ (3 < n ∧ 128 ≤ b3 ∧ b3 ≤ 191)
  · rw [if_pos ⟨h, ht⟩, if_pos ht]
  · rw [if_neg (by omega), if_neg ht]
theorem fN_I {n b0 b1 b2 b3 : Nat} (h : (128 ≤ b0 ∧ b0 ≤ 193) ∨ 245 ≤ b0) : firstN n b0 b1 b2 b3 = 0 := by
  unfold firstN
  repeat rw [if_neg (by omega)]
theorem ret_if (e : Ending) {p : Prop} [Decidable p] {k : Nat} (h : p) : e = .returned (.int .i64 k) → e = .returned (.int .i64 ((if p then k else 0 : Nat) : Int)) := by rw [if_pos h]; exact id
theorem ret_no (e : Ending) {p : Prop} [Decidable p] {k : Nat} (h : ¬ p) : e = .returned (.int .i64 0) → e = .returned (.int .i64 ((if p then k else 0 : Nat) : Int)) := by rw [if_neg h]; exact id

theorem xfirst_any (s : ByteArray) (w : World) (hs : s.size ≤ maxLen) (h0 : 0 < s.size) :
    Calls Tryz.prog 82 #[.string s] w fun e w' => e = .returned (.int .i64 (firstP s.data.toList)) ∧ w' = w := by
  have hem := isEmpty_has h0
  have T11 : TailX s 1 1 (tailP s 1 1) := fun W => xtail_any s 1 1 W (by omega) (by omega) hs
  have T21 : TailX s 2 1 (tailP s 2 1) := fun W => xtail_any s 2 1 W (by omega) (by omega) hs
  have T12 : TailX s 1 2 (tailP s 1 2) := fun W => xtail_any s 1 2 W (by omega) (by omega) hs
  have T22 : TailX s 2 2 (tailP s 2 2) := fun W => xtail_any s 2 2 W (by omega) (by omega) hs
  have T13 : TailX s 1 3 (tailP s 1 3) := fun W => xtail_any s 1 3 W (by omega) (by omega) hs
  have hs' := hs
  unfold maxLen at hs'
  have hF := firstP_peek h0
  rw [hF]
  have p0 : peekB s 0 = s[0] := peekB_in h0
  obtain ⟨c, hc⟩ : ∃ c, s[0] = c := ⟨_, rfl⟩
  rw [p0, hc]
  have hcl := c.toNat_lt
  by_cases h1 : 1 < s.size
  · obtain ⟨x, hx⟩ : ∃ x, s[1] = x := ⟨_, rfl⟩
    have p1 : peekB s 1 = x := (peekB_in h1).trans hx
    rw [p1]
    have e11 := tail1 s 1
    have e21 := tail1 s 2
    have e12 := tail2 s 1
    have e22 := tail2 s 2
    have e13 := tail3 s 1
    rw [p1] at e11 e12 e13
    simp only [Nat.reduceAdd] at e12 e22 e13
    rcases (by omega : c.toNat ≤ 127 ∨ (194 ≤ c.toNat ∧ c.toNat ≤ 223) ∨ c.toNat = 224 ∨ (225 ≤ c.toNat ∧ c.toNat ≤ 236) ∨ c.toNat = 238 ∨ c.toNat = 239 ∨ c.toNat = 237 ∨ c.toNat = 240 ∨ (241 ≤ c.toNat ∧ c.toNat ≤ 243) ∨ c.toNat = 244 ∨ (128 ≤ c.toNat ∧ c.toNat ≤ 193) ∨ 245 ≤ c.toNat) with h | h | h | h | h | h | h | h | h | h | h | h
    · rw [fN_A h]; exact xf_A_l s w c x hem hs' h0 hc h h1 hx
    · rw [fN_B h]
      by_cases ht : 1 < s.size ∧ 128 ≤ x.toNat ∧ x.toNat ≤ 191
      · rw [if_pos ht]; rw [e11, decide_eq_true ht] at T11; exact xf_B_t s w c x hem hs' h0 hc h h1 hx T11
      · rw [if_neg ht]; rw [e11, decide_eq_false ht] at T11; exact xf_B_f s w c x hem hs' h0 hc h h1 hx T11
    · rw [fN_C h]
      by_cases hw : 160 ≤ x.toNat ∧ x.toNat ≤ 191
      · by_cases ht : 2 < s.size ∧ 128 ≤ (peekB s 2).toNat ∧ (peekB s 2).toNat ≤ 191
        · rw [if_pos ⟨hw, ht⟩]; rw [e21, decide_eq_true ht] at T21; exact xf_C_t s w c x hem hs' h0 hc h h1 hx hw T21
        · rw [if_neg (fun z => ht z.2)]; rw [e21, decide_eq_false ht] at T21; exact xf_C_f s w c x hem hs' h0 hc h h1 hx hw T21
      · rw [if_neg (fun z => hw z.1)]; exact xf_C_n s w c x hem hs' h0 hc h h1 hx hw
    · rw [fN_D (.inl h)]
      by_cases ht : (1 < s.size ∧ 128 ≤ x.toNat ∧ x.toNat ≤ 191) ∧ (2 < s.size ∧ 128 ≤ (peekB s 2).toNat ∧ (peekB s 2).toNat ≤ 191)
      · rw [if_pos ht]; rw [e12, decide_eq_true ht] at T12; exact xf_D_t s w c x hem hs' h0 hc h h1 hx T12
      · rw [if_neg ht]; rw [e12, decide_eq_false ht] at T12; exact xf_D_f s w c x hem hs' h0 hc h h1 hx T12
    · rw [fN_D (.inr (.inl h))]
      by_cases ht : (1 < s.size ∧ 128 ≤ x.toNat ∧ x.toNat ≤ 191) ∧ (2 < s.size ∧ 128 ≤ (peekB s 2).toNat ∧ (peekB s 2).toNat ≤ 191)
      · rw [if_pos ht]; rw [e12, decide_eq_true ht] at T12; exact xf_D2_t s w c x hem hs' h0 hc h h1 hx T12
      · rw [if_neg ht]; rw [e12, decide_eq_false ht] at T12; exact xf_D2_f s w c x hem hs' h0 hc h h1 hx T12
    · rw [fN_D (.inr (.inr h))]
      by_cases ht : (1 < s.size ∧ 128 ≤ x.toNat ∧ x.toNat ≤ 191) ∧ (2 < s.size ∧ 128 ≤ (peekB s 2).toNat ∧ (peekB s 2).toNat ≤ 191)
      · rw [if_pos ht]; rw [e12, decide_eq_true ht] at T12; exact xf_D3_t s w c x hem hs' h0 hc h h1 hx T12
      · rw [if_neg ht]; rw [e12, decide_eq_false ht] at T12; exact xf_D3_f s w c x hem hs' h0 hc h h1 hx T12
    · rw [fN_E h]
      by_cases hw : 128 ≤ x.toNat ∧ x.toNat ≤ 159
      · by_cases ht : 2 < s.size ∧ 128 ≤ (peekB s 2).toNat ∧ (peekB s 2).toNat ≤ 191
        · rw [if_pos ⟨hw, ht⟩]; rw [e21, decide_eq_true ht] at T21; exact xf_E_t s w c x hem hs' h0 hc h h1 hx hw T21
        · rw [if_neg (fun z => ht z.2)]; rw [e21, decide_eq_false ht] at T21; exact xf_E_f s w c x hem hs' h0 hc h h1 hx hw T21
      · rw [if_neg (fun z => hw z.1)]; exact xf_E_n s w c x hem hs' h0 hc h h1 hx hw
    · rw [fN_F h]
      by_cases hw : 144 ≤ x.toNat ∧ x.toNat ≤ 191
      · by_cases ht : (2 < s.size ∧ 128 ≤ (peekB s 2).toNat ∧ (peekB s 2).toNat ≤ 191) ∧ (3 < s.size ∧ 128 ≤ (peekB s 3).toNat ∧ (peekB s 3).toNat ≤ 191)
        · rw [if_pos ⟨hw, ht⟩]; rw [e22, decide_eq_true ht] at T22; exact xf_F_t s w c x hem hs' h0 hc h h1 hx hw T22
        · rw [if_neg (fun z => ht z.2)]; rw [e22, decide_eq_false ht] at T22; exact xf_F_f s w c x hem hs' h0 hc h h1 hx hw T22
      · rw [if_neg (fun z => hw z.1)]; exact xf_F_n s w c x hem hs' h0 hc h h1 hx hw
    · rw [fN_G h]
      by_cases ht : (1 < s.size ∧ 128 ≤ x.toNat ∧ x.toNat ≤ 191) ∧ (2 < s.size ∧ 128 ≤ (peekB s 2).toNat ∧ (peekB s 2).toNat ≤ 191) ∧ (3 < s.size ∧ 128 ≤ (peekB s 3).toNat ∧ (peekB s 3).toNat ≤ 191)
      · rw [if_pos ht]; rw [e13, decide_eq_true ht] at T13; exact xf_G_t s w c x hem hs' h0 hc h h1 hx T13
      · rw [if_neg ht]; rw [e13, decide_eq_false ht] at T13; exact xf_G_f s w c x hem hs' h0 hc h h1 hx T13
    · rw [fN_H h]
      by_cases hw : 128 ≤ x.toNat ∧ x.toNat ≤ 143
      · by_cases ht : (2 < s.size ∧ 128 ≤ (peekB s 2).toNat ∧ (peekB s 2).toNat ≤ 191) ∧ (3 < s.size ∧ 128 ≤ (peekB s 3).toNat ∧ (peekB s 3).toNat ≤ 191)
        · rw [if_pos ⟨hw, ht⟩]; rw [e22, decide_eq_true ht] at T22; exact xf_H_t s w c x hem hs' h0 hc h h1 hx hw T22
        · rw [if_neg (fun z => ht z.2)]; rw [e22, decide_eq_false ht] at T22; exact xf_H_f s w c x hem hs' h0 hc h h1 hx hw T22
      · rw [if_neg (fun z => hw z.1)]; exact xf_H_n s w c x hem hs' h0 hc h h1 hx hw
    · rw [fN_I (.inl h)]; exact xf_I_l s w c x hem hs' h0 hc h h1 hx
    · rw [fN_I (.inr h)]; exact xf_J_l s w c x hem hs' h0 hc h h1 hx
  · have h1' : s.size ≤ 1 := by omega
    have p1 : peekB s 1 = 0 := peekB_out h1'
    rw [p1]
    have e11 : tailP s 1 1 = false := by rw [tail1]; exact decide_eq_false (by omega)
    have e12 : tailP s 1 2 = false := by rw [tail2]; exact decide_eq_false (by omega)
    have e13 : tailP s 1 3 = false := by rw [tail3]; exact decide_eq_false (by omega)
    rw [e11] at T11
    rw [e12] at T12
    rw [e13] at T13
    rcases (by omega : c.toNat ≤ 127 ∨ (194 ≤ c.toNat ∧ c.toNat ≤ 223) ∨ c.toNat = 224 ∨ (225 ≤ c.toNat ∧ c.toNat ≤ 236) ∨ c.toNat = 238 ∨ c.toNat = 239 ∨ c.toNat = 237 ∨ c.toNat = 240 ∨ (241 ≤ c.toNat ∧ c.toNat ≤ 243) ∨ c.toNat = 244 ∨ (128 ≤ c.toNat ∧ c.toNat ≤ 193) ∨ 245 ≤ c.toNat) with h | h | h | h | h | h | h | h | h | h | h | h
    · rw [fN_A h]; exact xf_A_s s w c hem hs' h0 hc h h1'
    · rw [fN_B h, if_neg (by omega)]; exact xf_B_s s w c hem hs' h0 hc h h1' T11
    · rw [fN_C h, if_neg (by omega)]; exact xf_C_s s w c hem hs' h0 hc h h1'
    · rw [fN_D (.inl h), if_neg (by omega)]; exact xf_D_s s w c hem hs' h0 hc h h1' T12
    · rw [fN_D (.inr (.inl h)), if_neg (by omega)]; exact xf_D2_s s w c hem hs' h0 hc h h1' T12
    · rw [fN_D (.inr (.inr h)), if_neg (by omega)]; exact xf_D3_s s w c hem hs' h0 hc h h1' T12
    · rw [fN_E h, if_neg (by omega)]; exact xf_E_s s w c hem hs' h0 hc h h1'
    · rw [fN_F h, if_neg (by omega)]; exact xf_F_s s w c hem hs' h0 hc h h1'
    · rw [fN_G h, if_neg (by omega)]; exact xf_G_s s w c hem hs' h0 hc h h1' T13
    · rw [fN_H h, if_neg (by omega)]; exact xf_H_s s w c hem hs' h0 hc h h1'
    · rw [fN_I (.inl h)]; exact xf_I_s s w c hem hs' h0 hc h h1'
    · rw [fN_I (.inr h)]; exact xf_J_s s w c hem hs' h0 hc h h1'

/-! ### bare, digit. -/
theorem xbare_any (c : UInt8) (w : World) : Calls Tryz.prog 83 #[.int .u8 c.toNat] w fun e w' => e = .returned (.bool (bareB c)) ∧ w = w' := by
  have H : Hid (bareB c = (c.toNat == 0 || c.toNat == 40 || c.toNat == 41 || c.toNat == 42 || c.toNat == 92)) := Lib.hid rfl
  go_enter Tryz.func83, Tryz.ntmps83
  go_wp2
  all_goals go_ret
  all_goals refine ⟨ret_bool ?_, rfl⟩
  all_goals rw [H.out, Bool.eq_iff_iff]
  all_goals simp
  all_goals omega
def hexX (c : UInt8) : Int := match hexV c with | some n => n | none => -1
theorem xdigit_any (c : UInt8) (w : World) : Calls Tryz.prog 126 #[.int .u8 c.toNat, .bool true] w fun e w' => e = .returned (.int .i64 (hexX c)) ∧ w = w' := by
  have hcl := c.toNat_lt
  rcases (by omega : (48 ≤ c.toNat ∧ c.toNat ≤ 57) ∨ (97 ≤ c.toNat ∧ c.toNat ≤ 102) ∨ (65 ≤ c.toNat ∧ c.toNat ≤ 70) ∨ (¬ (48 ≤ c.toNat ∧ c.toNat ≤ 57) ∧ ¬ (97 ≤ c.toNat ∧ c.toNat ≤ 102) ∧ ¬ (65 ≤ c.toNat ∧ c.toNat ≤ 70))) with h | h | h | h
  · have HX : Hid (hexX c = (c.toNat : Int) - 48) := Lib.hid (by unfold hexX hexV; rw [if_pos h]; show ((c.toNat - 48 : Nat) : Int) = _; omega)
    rw [HX.out]
    go_enter Tryz.func126, Tryz.ntmps126
    go_wp2_with (first
      | (go_at_call 117; refine (xwithin_no _ _ _ _ (by omega)).mono ?_; rintro e w' ⟨rfl, rfl⟩)
      | (go_at_call 117; refine (xwithin_yes _ _ _ _ (by omega)).mono ?_; rintro e w' ⟨rfl, rfl⟩))
    go_ret
    exact ⟨rfl, rfl⟩
  · have HX : Hid (hexX c = (c.toNat : Int) - 97 + 10) := Lib.hid (by unfold hexX hexV; rw [if_neg (by omega), if_pos h]; show ((c.toNat - 87 : Nat) : Int) = _; omega)
    rw [HX.out]
    go_enter Tryz.func126, Tryz.ntmps126
    go_wp2_with (first
      | (go_at_call 117; refine (xwithin_no _ _ _ _ (by omega)).mono ?_; rintro e w' ⟨rfl, rfl⟩)
      | (go_at_call 117; refine (xwithin_yes _ _ _ _ (by omega)).mono ?_; rintro e w' ⟨rfl, rfl⟩))
    go_ret
    exact ⟨rfl, rfl⟩
  · have HX : Hid (hexX c = (c.toNat : Int) - 65 + 10) := Lib.hid (by unfold hexX hexV; rw [if_neg (by omega), if_neg (by omega), if_pos h]; show ((c.toNat - 55 : Nat) : Int) = _; omega)
    rw [HX.out]
    go_enter Tryz.func126, Tryz.ntmps126
    go_wp2_with (first
      | (go_at_call 117; refine (xwithin_no _ _ _ _ (by omega)).mono ?_; rintro e w' ⟨rfl, rfl⟩)
      | (go_at_call 117; refine (xwithin_yes _ _ _ _ (by omega)).mono ?_; rintro e w' ⟨rfl, rfl⟩))
    go_ret
    exact ⟨rfl, rfl⟩
  · have HX : Hid (hexX c = -1) := Lib.hid (by unfold hexX hexV; rw [if_neg h.1, if_neg h.2.1, if_neg h.2.2])
    rw [HX.out]
    go_enter Tryz.func126, Tryz.ntmps126
    go_wp2_with (first
      | (go_at_call 117; refine (xwithin_no _ _ _ _ (by omega)).mono ?_; rintro e w' ⟨rfl, rfl⟩)
      | (go_at_call 117; refine (xwithin_yes _ _ _ _ (by omega)).mono ?_; rintro e w' ⟨rfl, rfl⟩))
    go_ret
    exact ⟨rfl, rfl⟩
end Go.Proofs.YtjmpcoedfoaebaaGreatDoor

open Go Go.RowKit
namespace Go.Proofs.YtjmpcoedfoaebaaGreatDoor

def PieceX (w : World) (r : Except Int (List UInt8 × Nat)) (e : Ending) (w' : World) : Prop :=
  Keep [] w w' ∧ match r with
  | .ok t => e = .returned (.tuple #[.string ⟨t.1.toArray⟩, .int .i64 t.2, .int .i64 0])
  | .error c => e = .returned (.tuple #[.string ⟨#[]⟩, .int .i64 0, .int .i64 c])
theorem PieceX.mkOk {w w' : World} {t : List UInt8} {n : Nat} (h : Keep [] w w') : PieceX w (.ok (t, n)) (.returned (.tuple #[.string ⟨t.toArray⟩, .int .i64 n, .int .i64 0])) w' := ⟨h, rfl⟩
theorem PieceX.mkErr {w w' : World} {c : Int} (h : Keep [] w w') : PieceX w (.error c) (.returned (.tuple #[.string ⟨#[]⟩, .int .i64 0, .int .i64 c])) w' := ⟨h, rfl⟩

set_option maxHeartbeats 1000000 in
set_option maxRecDepth 100000 in
theorem xpiece_any (s : ByteArray) (w : World) (hs : s.size ≤ maxLen) (h0 : 0 < s.size) :
    Calls Tryz.prog 106 #[.string s] w (PieceX w (pieceP s.data.toList)) := by
  have hs' := hs
  unfold maxLen at hs'
  obtain ⟨c, hc⟩ : ∃ c, s[0] = c := ⟨_, rfl⟩
  obtain ⟨t, hl⟩ : ∃ t, s.data.toList = c :: t := ⟨_, by have := drop_at s 0 h0; rw [List.drop_zero, hc] at this; exact this⟩
  have HF := Lib.hid (fun W => xfirst_any s W hs h0)
  rw [hl]
  by_cases h92 : c.toNat = 92
  · have h92' : ((c.toNat : Int) == 92) = true := by rw [beq_iff_eq]; omega
    have hpe : pieceP (c :: t) = match pairV t with | some v => .ok ([v], 3) | none => .error 11 := by unfold pieceP; simp only []; rw [if_pos h92]; cases pairV t <;> rfl
    have hts : t.length + 1 = s.size := by have h : s.data.toList.length = s.size := rfl; rw [hl] at h; exact h
    by_cases h3 : s.size < 3
    · have hp : pieceP (c :: t) = .error 11 := by
        rw [hpe]
        match t, hts with
        | [], _ => rfl
        | [_], _ => rfl
        | _ :: _ :: _, h => simp at h; omega
      rw [hp]
      clear hp hpe h92 hl hts
      go_enter Tryz.func106, Tryz.ntmps106
      go_wp2
      go_ret3
      exact PieceX.mkErr (Keep.refl _ _)
    · obtain ⟨x, hx⟩ : ∃ x, s[1] = x := ⟨_, rfl⟩
      obtain ⟨y, hy⟩ : ∃ y, s[2] = y := ⟨_, rfl⟩
      have ht : ∃ r, t = x :: y :: r := by
        have h1 := drop_at s 1 (by omega)
        have h2 := drop_at s 2 (by omega)
        have h0' := congrArg (List.drop 1) hl
        rw [h1, h2, hx, hy] at h0'
        exact ⟨_, h0'.symm⟩
      obtain ⟨r, rfl⟩ := ht
      have DX := fun W => xdigit_any x W
      have DY := fun W => xdigit_any y W
      have hpv : pairV (x :: y :: r) = match hexV x, hexV y with | some a, some b => some (UInt8.ofNat (16 * a + b)) | _, _ => none := rfl
      rw [hpe, hpv]
      have hlen3 : (2 : Int) < s.size := by omega
      have hlen1 : (1 : Int) < s.size := by omega
      unfold hexX at DX DY
      clear hpe hpv h92 hl
      cases hhx : hexV x with
      | none =>
        rw [hhx] at DX
        have DX := Lib.hid DX
        have hb := Lib.hid (show ∃ q : Int, ∀ W, Calls Tryz.prog 126 #[.int .u8 y.toNat, .bool true] W fun e w' => e = .returned (.int .i64 q) ∧ W = w' from ⟨_, DY⟩)
        clear DY
        obtain ⟨q, hq⟩ := hb.out
        have DY := Lib.hid hq
        clear hq hb hhx
        go_enter Tryz.func106, Tryz.ntmps106
        go_wp2_with (first
          | (go_at_call 126; with_reducible refine (DX.out _).mono ?_; rintro e w' ⟨rfl, rfl⟩)
          | (go_at_call 126; with_reducible refine (DY.out _).mono ?_; rintro e w' ⟨rfl, rfl⟩))
        go_ret3
        exact PieceX.mkErr (Keep.refl _ _)
      | some a =>
        rw [hhx] at DX
        have ha := (hexV_lt hhx).1
        have DX := Lib.hid DX
        clear hhx
        cases hhy : hexV y with
        | none =>
          rw [hhy] at DY
          have DY := Lib.hid DY
          clear hhy
          go_enter Tryz.func106, Tryz.ntmps106
          go_wp2_with (first
            | (go_at_call 126; with_reducible refine (DX.out _).mono ?_; rintro e w' ⟨rfl, rfl⟩)
            | (go_at_call 126; with_reducible refine (DY.out _).mono ?_; rintro e w' ⟨rfl, rfl⟩))
          go_ret3
          exact PieceX.mkErr (Keep.refl _ _)
        | some b =>
          rw [hhy] at DY
          have hb := (hexV_lt hhy).1
          have DY := Lib.hid DY
          have hv : ((UInt8.ofNat (16 * a + b)).toNat : Int) = 16 * (a : Int) + (b : Int) := by
            have h : (UInt8.ofNat (16 * a + b)).toNat = (16 * a + b) % 256 := UInt8.toNat_ofNat'
            rw [h]
            omega
          show Calls _ _ _ _ (PieceX w (.ok ([UInt8.ofNat (16 * a + b)], 3)))
          generalize UInt8.ofNat (16 * a + b) = v at *
          have hcb : (convert 49 9 (.slice (some ⟨w.heap.size, 0, none⟩) 1 1)).run Tryz.prog (w.alloc (.cells #[.int .u8 (16 * (a : Int) + (b : Int))] 5)) = .ok (.string ⟨[v].toArray⟩) (w.alloc (.cells #[.int .u8 (16 * (a : Int) + (b : Int))] 5)) := run_convert_bytes_back (P := Tryz.prog) (w.alloc (.cells #[.int .u8 (16 * (a : Int) + (b : Int))] 5)) 49 9 5 ⟨w.heap.size, 0, none⟩ 1 [v] Tryz.underlying49 Tryz.underlying5 Tryz.underlying9 (fun j hj => by
            obtain rfl : j = 0 := by simpa using hj
            rw [← hv]
            show (w.alloc (.cells #[.int .u8 (v.toNat : Int)] 5)).cell? ⟨w.heap.size, 0, none⟩ = _
            rw [cell_of (alloc_at w _)]
            rfl)
          clear hhy hv
          go_enter Tryz.func106, Tryz.ntmps106
          go_wp2_with (first
            | (go_at_call 126; with_reducible refine (DX.out _).mono ?_; rintro e w' ⟨rfl, rfl⟩)
            | (go_at_call 126; with_reducible refine (DY.out _).mono ?_; rintro e w' ⟨rfl, rfl⟩))
          go_ret3
          exact PieceX.mkOk ((Keep.refl [] w).alloc _)
  · have hn92 : ((c.toNat : Int) == 92) = false := by rw [beq_eq_false_iff_ne]; omega
    have HB := fun W => xbare_any c W
    cases hb : bareB c
    · rw [hb] at HB
      have HB := Lib.hid HB
      rw [hl] at HF
      by_cases hf : firstP (c :: t) = 0
      · have hp : pieceP (c :: t) = .error 10 := by unfold pieceP; simp only []; rw [if_neg h92, if_neg (by rw [hb]; simp), if_pos hf]
        rw [hp]
        rw [hf] at HF
        clear hp hf hb h92 hl
        go_enter Tryz.func106, Tryz.ntmps106
        go_wp2_with (first
          | (go_at_call 83; refine (HB.out _).mono ?_; rintro e w' ⟨rfl, rfl⟩)
          | (go_at_call 82; refine (HF.out _).mono ?_; rintro e w' ⟨rfl, rfl⟩))
        go_ret3
        exact PieceX.mkErr (Keep.refl _ _)
      · have hp : pieceP (c :: t) = .ok ((c :: t).take (firstP (c :: t)), firstP (c :: t)) := by unfold pieceP; simp only []; rw [if_neg h92, if_neg (by rw [hb]; simp), if_neg hf]
        rw [hp]
        obtain ⟨e1, e2, e3, e4, e5⟩ := firstP_pos (l := c :: t) (by simp) hf
        have hlen : (c :: t).length = s.size := by rw [← hl]; rfl
        have hx : s.extract 0 (firstP (c :: t)) = ⟨((c :: t).take (firstP (c :: t))).toArray⟩ := by
          rw [← hl]
          apply ByteArray.ext
          apply Array.toList_inj.1
          simp [ByteArray.data_extract]
        generalize firstP (c :: t) = n at *
        have HX := Lib.hid hx
        have hne : ((n : Int) == 0) = false := by rw [beq_eq_false_iff_ne]; omega
        have hns : n ≤ s.size := by omega
        clear hp hf hb h92 hl hx e1 e2 e5 hlen e4
        go_enter Tryz.func106, Tryz.ntmps106
        go_wp2_with (first
          | (go_at_call 83; refine (HB.out _).mono ?_; rintro e w' ⟨rfl, rfl⟩)
          | (go_at_call 82; refine (HF.out _).mono ?_; rintro e w' ⟨rfl, rfl⟩))
        go_ret3
        rw [HX.out]
        exact PieceX.mkOk (Keep.refl _ _)
    · rw [hb] at HB
      have HB := Lib.hid HB
      have hp : pieceP (c :: t) = .error 12 := by unfold pieceP; simp only []; rw [if_neg h92, if_pos hb]
      rw [hp]
      clear hp hb h92 hl
      go_enter Tryz.func106, Tryz.ntmps106
      go_wp2_with (first
        | (go_at_call 83; refine (HB.out _).mono ?_; rintro e w' ⟨rfl, rfl⟩))
      go_ret3
      exact PieceX.mkErr (Keep.refl _ _)
end Go.Proofs.YtjmpcoedfoaebaaGreatDoor
