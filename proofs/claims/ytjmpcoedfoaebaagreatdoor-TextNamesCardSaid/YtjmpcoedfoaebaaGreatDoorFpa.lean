/- filter's bytes and words: letter, digit, wordy, all. -/
import Derived.Test.YtjmpcoedfoaebaaGreatDoorTold
import Derived.Test.YtjmpcoedfoaebaaGreatDoorShelf
import Derived.Deep.LoopGhost
open Go Go.RowKit
namespace Go.Proofs.YtjmpcoedfoaebaaGreatDoor

theorem fletter_any (c : UInt8) (w : World) : Calls Tryz.prog 99 #[.int .u8 c.toNat] w fun e w' => e = .returned (.bool (letB c)) ∧ w = w' := by
  have hb := c.toNat_lt
  have key : ∀ b : Bool, letB c = b → Calls Tryz.prog 99 #[.int .u8 c.toNat] w fun e w' => e = .returned (.bool b) ∧ w = w' := by
    intro b h
    unfold letB at h
    by_cases h1 : 97 ≤ c.toNat
    · by_cases h2 : c.toNat ≤ 122
      · have hx : b = true := by rw [← h]; simp [h1, h2]
        subst hx
        clear h
        have d1 : decide ((97 : Int) ≤ (c.toNat : Int)) = true := by simp; omega
        have d2 : decide ((c.toNat : Int) ≤ 122) = true := by simp; omega
        go_enter Tryz.func99, Tryz.ntmps99
        go_wp2_with fail
        go_ret
        exact ⟨rfl, rfl⟩
      · have hx : b = false := by rw [← h]; simp; omega
        subst hx
        clear h
        have d1 : decide ((97 : Int) ≤ (c.toNat : Int)) = true := by simp; omega
        have d2 : decide ((c.toNat : Int) ≤ 122) = false := by simp; omega
        have d3 : decide ((65 : Int) ≤ (c.toNat : Int)) = true := by simp; omega
        have d4 : decide ((c.toNat : Int) ≤ 90) = false := by simp; omega
        go_enter Tryz.func99, Tryz.ntmps99
        go_wp2_with fail
        go_ret
        exact ⟨rfl, rfl⟩
    · by_cases h3 : 65 ≤ c.toNat
      · by_cases h4 : c.toNat ≤ 90
        · have hx : b = true := by rw [← h]; simp [h3, h4]
          subst hx
          clear h
          have d1 : decide ((97 : Int) ≤ (c.toNat : Int)) = false := by simp; omega
          have d3 : decide ((65 : Int) ≤ (c.toNat : Int)) = true := by simp; omega
          have d4 : decide ((c.toNat : Int) ≤ 90) = true := by simp; omega
          go_enter Tryz.func99, Tryz.ntmps99
          go_wp2_with fail
          go_ret
          exact ⟨rfl, rfl⟩
        · have hx : b = false := by rw [← h]; simp; omega
          subst hx
          clear h
          have d1 : decide ((97 : Int) ≤ (c.toNat : Int)) = false := by simp; omega
          have d3 : decide ((65 : Int) ≤ (c.toNat : Int)) = true := by simp; omega
          have d4 : decide ((c.toNat : Int) ≤ 90) = false := by simp; omega
          go_enter Tryz.func99, Tryz.ntmps99
          go_wp2_with fail
          go_ret
          exact ⟨rfl, rfl⟩
      · have hx : b = false := by rw [← h]; simp; omega
        subst hx
        clear h
        have d1 : decide ((97 : Int) ≤ (c.toNat : Int)) = false := by simp; omega
        have d3 : decide ((65 : Int) ≤ (c.toNat : Int)) = false := by simp; omega
        go_enter Tryz.func99, Tryz.ntmps99
        go_wp2_with fail
        go_ret
        exact ⟨rfl, rfl⟩
  exact key _ rfl

theorem fdigit_any (c : UInt8) (w : World) : Calls Tryz.prog 100 #[.int .u8 c.toNat] w fun e w' => e = .returned (.bool (digB c)) ∧ w = w' := by
  have hb := c.toNat_lt
  have key : ∀ b : Bool, digB c = b → Calls Tryz.prog 100 #[.int .u8 c.toNat] w fun e w' => e = .returned (.bool b) ∧ w = w' := by
    intro b h
    unfold digB at h
    by_cases h1 : 48 ≤ c.toNat
    · by_cases h2 : c.toNat ≤ 57
      · have hx : b = true := by rw [← h]; simp [h1, h2]
        subst hx
        clear h
        have d1 : decide ((48 : Int) ≤ (c.toNat : Int)) = true := by simp; omega
        have d2 : decide ((c.toNat : Int) ≤ 57) = true := by simp; omega
        go_enter Tryz.func100, Tryz.ntmps100
        go_wp2_with fail
        go_ret
        exact ⟨rfl, rfl⟩
      · have hx : b = false := by rw [← h]; simp; omega
        subst hx
        clear h
        have d1 : decide ((48 : Int) ≤ (c.toNat : Int)) = true := by simp; omega
        have d2 : decide ((c.toNat : Int) ≤ 57) = false := by simp; omega
        go_enter Tryz.func100, Tryz.ntmps100
        go_wp2_with fail
        go_ret
        exact ⟨rfl, rfl⟩
    · have hx : b = false := by rw [← h]; simp; omega
      subst hx
      clear h
      have d1 : decide ((48 : Int) ≤ (c.toNat : Int)) = false := by simp; omega
      go_enter Tryz.func100, Tryz.ntmps100
      go_wp2_with fail
      go_ret
      exact ⟨rfl, rfl⟩
  exact key _ rfl

theorem fwordy_any (c : UInt8) (w : World) : Calls Tryz.prog 98 #[.int .u8 c.toNat] w fun e w' => e = .returned (.bool (innB c)) ∧ w = w' := by
  have hL := fletter_any c
  have hD := fdigit_any c
  have key : ∀ b : Bool, innB c = b → Calls Tryz.prog 98 #[.int .u8 c.toNat] w fun e w' => e = .returned (.bool b) ∧ w = w' := by
    intro b h
    unfold innB at h
    cases hl : letB c with
    | true =>
      rw [hl] at hL h
      have hx : b = true := by rw [← h]; simp
      subst hx
      have HL := Lib.hid hL
      clear hL hD hl h
      go_enter Tryz.func98, Tryz.ntmps98
      go_wp2_with (go_at_call 99; refine (HL.out _).mono ?_; rintro e w' ⟨rfl, rfl⟩)
      go_ret
      exact ⟨rfl, rfl⟩
    | false =>
      rw [hl] at hL h
      have HL := Lib.hid hL
      cases hd : digB c with
      | true =>
        rw [hd] at hD h
        have hx : b = true := by rw [← h]; simp
        subst hx
        have HD := Lib.hid hD
        clear hL hD hl h hd
        go_enter Tryz.func98, Tryz.ntmps98
        go_wp2_with (first | (go_at_call 99; refine (HL.out _).mono ?_; rintro e w' ⟨rfl, rfl⟩) | (go_at_call 100; refine (HD.out _).mono ?_; rintro e w' ⟨rfl, rfl⟩))
        go_ret
        exact ⟨rfl, rfl⟩
      | false =>
        rw [hd] at hD h
        have HD := Lib.hid hD
        have hb : ((c.toNat : Int) == 45) = b := by rw [← h, Bool.eq_iff_iff]; simp; omega
        clear hL hD hl h hd
        go_enter Tryz.func98, Tryz.ntmps98
        go_wp2_with (first | (go_at_call 99; refine (HL.out _).mono ?_; rintro e w' ⟨rfl, rfl⟩) | (go_at_call 100; refine (HD.out _).mono ?_; rintro e w' ⟨rfl, rfl⟩))
        go_ret
        exact ⟨rfl, rfl⟩
  exact key _ rfl

/-- all: every byte is of the sort, and there is one. -/
def allQ (f : UInt8 → Bool) (s : ByteArray) : Bool := s.data.toList.all f && !s.toList.isEmpty
theorem take_snoc' (s : ByteArray) (k : Nat) (h : k < s.size) : s.data.toList.take (k + 1) = s.data.toList.take k ++ [s[k]] := by
  rw [List.take_succ_eq_append_getElem (by simpa using h)]; rfl
set_option maxHeartbeats 1000000 in
set_option maxRecDepth 100000 in
theorem all_any (K : Nat) (f : UInt8 → Bool) (hK : ∀ (v : Value) (w : World), (callFunc K #[v]).run Tryz.prog w = .ok (.enter K #[v]) w) (hf : ∀ (c : UInt8) (w : World), Calls Tryz.prog K #[.int .u8 c.toNat] w fun e w' => e = .returned (.bool (f c)) ∧ w = w') (s : ByteArray) (w : World) (hs : s.size ≤ maxLen) :
    Calls Tryz.prog 97 #[.string s, .func (.func K) #[] #[]] w fun e w' => e = .returned (.bool (allQ f s)) ∧ w = w' := by
  have HF := Lib.hid hf
  unfold maxLen at hs
  clear hf
  go_enter Tryz.func97, Tryz.ntmps97
  go_wp2
  go_loop [8] (fun i => ∃ k : Nat, k ≤ s.size ∧ i = .int .i64 k ∧ Hid ((s.data.toList.take k).all f = true)) (fun i => s.size - (intOf i).toNat)
  case atStart => exact ⟨0, Nat.zero_le _, rfl, Lib.hid rfl⟩
  case round =>
    obtain ⟨k, hk, rfl, HA⟩ := hrel
    by_cases hlt : k < s.size
    · have HT := Lib.hid (take_snoc' s k hlt)
      cases hc : f s[k] with
      | true =>
        have hq := HF.out s[k]
        rw [hc] at hq
        have HQ := Lib.hid hq
        have HC := Lib.hid hc
        clear hq hc
        go_wp2_with (refine (HQ.out _).mono ?_; rintro e w' ⟨rfl, rfl⟩)
        go_round
        case rel => exact ⟨k + 1, by omega, by go_num, Lib.hid (by rw [HT.out, List.all_append, HA.out]; simp [HC.out])⟩
        case measure => simp [intOf]; omega
      | false =>
        have hq := HF.out s[k]
        rw [hc] at hq
        have HQ := Lib.hid hq
        have HX : Hid (allQ f s = false) := Lib.hid (by
          unfold allQ
          have h2 : s.data.toList.all f = false := by
            rw [List.all_eq_false]
            exact ⟨s[k], by rw [ByteArray.getElem_eq_getElem_data]; simp, by simp [hc]⟩
          rw [h2]; rfl)
        clear hq hc
        go_wp2_with (refine (HQ.out _).mono ?_; rintro e w' ⟨rfl, rfl⟩)
        go_ret
        exact ⟨ret_bool HX.out.symm, rfl⟩
    · have he : k = s.size := by omega
      have HX : Hid (s.data.toList.all f = true) := Lib.hid (by have := HA.out; rwa [List.take_of_length_le (by simp; omega)] at this)
      clear he
      go_wp2
      go_ret
      exact ⟨ret_bool (by unfold allQ; rw [HX.out]; simp), rfl⟩
theorem all_wordy (s : ByteArray) (w : World) (hs : s.size ≤ maxLen) : Calls Tryz.prog 97 #[.string s, .func (.func 98) #[] #[]] w fun e w' => e = .returned (.bool (allQ innB s)) ∧ w = w' :=
  all_any _ innB (fun v w => by kernel_rfl) fwordy_any s w hs
theorem all_digit (s : ByteArray) (w : World) (hs : s.size ≤ maxLen) : Calls Tryz.prog 97 #[.string s, .func (.func 100) #[] #[]] w fun e w' => e = .returned (.bool (allQ digB s)) ∧ w = w' :=
  all_any _ digB (fun v w => by kernel_rfl) fdigit_any s w hs
end Go.Proofs.YtjmpcoedfoaebaaGreatDoor
