/- filter's bytes and words: letter, digit, wordy, all. filter's word: is a text a type's word? filter's described: has a text a description's form? filter's long: is one of a part's texts above the bound? -/
import Derived.Test.YtjmpcoedfoaebaaGreatDoorTold
import Derived.Test.YtjmpcoedfoaebaaGreatDoorShelf
import Derived.Deep.LoopGhost
import Derived.Deep.DeepCutAuto
import Derived.Lib.SplitLaws
import Derived.Test.YtjmpcoedfoaebaaGreatDoorFltx
open Go Go.RowKit
namespace Go.Proofs.YtjmpcoedfoaebaaGreatDoor

theorem fletter_any (c : UInt8) (w : World) : Calls Tryz.prog 99 #[.int .u8 c.toNat] w fun e w' => e = .returned (.bool (letB c)) ∧ w = w' := by
  have hb := c.toNat_lt
  have key : ∀ b : Bool, letB c = b → Calls Tryz.prog 99 #[.int .u8 c.toNat] w fun e w' => e = .returned (.bool b) ∧ w = w' := by
    intro b h
    unfold letB at h
    by_cases h1 : 97 ≤ c.toNat
    · by_cases h2 : c.toNat ≤ 122
      · have hx : b = true := by rw [← h]; simp [h1, h2]
        subst hx
        clear h
        have d1 : decide ((97 : Int) ≤ (c.toNat : Int)) = true := by simp; omega
        have d2 : decide ((c.toNat : Int) ≤ 122) = true := by simp; omega
        go_enter Tryz.func99, Tryz.ntmps99
        go_wp2_with fail
        go_ret
        exact ⟨rfl, rfl⟩
      · have hx : b = false := by rw [← h]; simp; omega
        subst hx
        clear h
        have d1 : decide ((97 : Int) ≤ (c.toNat : Int)) = true := by simp; omega
        have d2 : decide ((c.toNat : Int) ≤ 122) = false := by simp; omega
        have d3 : decide ((65 : Int) ≤ (c.toNat : Int)) = true := by simp; omega
        have d4 : decide ((c.toNat : Int) ≤ 90) = false := by simp; omega
        go_enter Tryz.func99, Tryz.ntmps99
        go_wp2_with fail
        go_ret
        exact ⟨rfl, rfl⟩
    · by_cases h3 : 65 ≤ c.toNat
      · by_cases h4 : c.toNat ≤ 90
        · have hx : b = true := by rw [← h]; simp [h3, h4]
          subst hx
          clear h
          have d1 : decide ((97 : Int) ≤ (c.toNat : Int)) = false := by simp; omega
          have d3 : decide ((65 : Int) ≤ (c.toNat : Int)) = true := by simp; omega
          have d4 : decide ((c.toNat : Int) ≤ 90) = true := by simp; omega
          go_enter Tryz.func99, Tryz.ntmps99
          go_wp2_with fail
          go_ret
          exact ⟨rfl, rfl⟩
        · have hx : b = false := by rw [← h]; simp; omega
          subst hx
          clear h
          have d1 : decide ((97 : Int) ≤ (c.toNat : Int)) = false := by simp; omega
          have d3 : decide ((65 : Int) ≤ (c.toNat : Int)) = true := by simp; omega
          have d4 : decide ((c.toNat : Int) ≤ 90) = false := by simp; omega
          go_enter Tryz.func99, Tryz.ntmps99
          go_wp2_with fail
          go_ret
          exact ⟨rfl, rfl⟩
      · have hx : b = false := by rw [← h]; simp; omega
        subst hx
        clear h
        have d1 : decide ((97 : Int) ≤ (c.toNat : Int)) = false := by simp; omega
        have d3 : decide ((65 : Int) ≤ (c.toNat : Int)) = false := by simp; omega
        go_enter Tryz.func99, Tryz.ntmps99
        go_wp2_with fail
        go_ret
        exact ⟨rfl, rfl⟩
  exact key _ rfl

theorem fdigit_any (c : UInt8) (w : World) : Calls Tryz.prog 100 #[.int .u8 c.toNat] w fun e w' => e = .returned (.bool (digB c)) ∧ w = w' := by
  have hb := c.toNat_lt
  have key : ∀ b : Bool, digB c = b → Calls Tryz.prog 100 #[.int .u8 c.toNat] w fun e w' => e = .returned (.bool b) ∧ w = w' := by
    intro b h
    unfold digB at h
    by_cases h1 : 48 ≤ c.toNat
    · by_cases h2 : c.toNat ≤ 57
      · have hx : b = true := by rw [← h]; simp [h1, h2]
        subst hx
        clear h
        have d1 : decide ((48 : Int) ≤ (c.toNat : Int)) = true := by simp; omega
        have d2 : decide ((c.toNat : Int) ≤ 57) = true := by simp; omega
        go_enter Tryz.func100, Tryz.ntmps100
        go_wp2_with fail
        go_ret
        exact ⟨rfl, rfl⟩
      · have hx : b = false := by rw [← h]; simp; omega
        subst hx
        clear h
        have d1 : decide ((48 : Int) ≤ (c.toNat : Int)) = true := by simp; omega
        have d2 : decide ((c.toNat : Int) ≤ 57) = false := by simp; omega
        go_enter Tryz.func100, Tryz.ntmps100
        go_wp2_with fail
        go_ret
        exact ⟨rfl, rfl⟩
    · have hx : b = false := by rw [← h]; simp; omega
      subst hx
      clear h
      have d1 : decide ((48 : Int) ≤ (c.toNat : Int)) = false := by simp; omega
      go_enter Tryz.func100, Tryz.ntmps100
      go_wp2_with fail
      go_ret
      exact ⟨rfl, rfl⟩
  exact key _ rfl

theorem fwordy_any (c : UInt8) (w : World) : Calls Tryz.prog 98 #[.int .u8 c.toNat] w fun e w' => e = .returned (.bool (innB c)) ∧ w = w' := by
  have hL := fletter_any c
  have hD := fdigit_any c
  have key : ∀ b : Bool, innB c = b → Calls Tryz.prog 98 #[.int .u8 c.toNat] w fun e w' => e = .returned (.bool b) ∧ w = w' := by
    intro b h
    unfold innB at h
    cases hl : letB c with
    | true =>
      rw [hl] at hL h
      have hx : b = true := by rw [← h]; simp
      subst hx
      have HL := Lib.hid hL
      clear hL hD hl h
      go_enter Tryz.func98, Tryz.ntmps98
      go_wp2_with (go_at_call 99; refine (HL.out _).mono ?_; rintro e w' ⟨rfl, rfl⟩)
      go_ret
      exact ⟨rfl, rfl⟩
    | false =>
      rw [hl] at hL h
      have HL := Lib.hid hL
      cases hd : digB c with
      | true =>
        rw [hd] at hD h
        have hx : b = true := by rw [← h]; simp
        subst hx
        have HD := Lib.hid hD
        clear hL hD hl h hd
        go_enter Tryz.func98, Tryz.ntmps98
        go_wp2_with (first | (go_at_call 99; refine (HL.out _).mono ?_; rintro e w' ⟨rfl, rfl⟩) | (go_at_call 100; refine (HD.out _).mono ?_; rintro e w' ⟨rfl, rfl⟩))
        go_ret
        exact ⟨rfl, rfl⟩
      | false =>
        rw [hd] at hD h
        have HD := Lib.hid hD
        have hb : ((c.toNat : Int) == 45) = b := by rw [← h, Bool.eq_iff_iff]; simp; omega
        clear hL hD hl h hd
        go_enter Tryz.func98, Tryz.ntmps98
        go_wp2_with (first | (go_at_call 99; refine (HL.out _).mono ?_; rintro e w' ⟨rfl, rfl⟩) | (go_at_call 100; refine (HD.out _).mono ?_; rintro e w' ⟨rfl, rfl⟩))
        go_ret
        exact ⟨rfl, rfl⟩
  exact key _ rfl

/-- all: every byte is of the sort, and there is one. -/
def allQ (f : UInt8 → Bool) (s : ByteArray) : Bool := s.data.toList.all f && !s.toList.isEmpty
theorem take_snoc' (s : ByteArray) (k : Nat) (h : k < s.size) : s.data.toList.take (k + 1) = s.data.toList.take k ++ [s[k]] := by
  rw [List.take_succ_eq_append_getElem (by simpa using h)]; rfl
set_option maxHeartbeats 1000000 in
set_option maxRecDepth 100000 in
theorem all_any (K : Nat) (f : UInt8 → Bool) (hK : ∀ (v : Value) (w : World), (callFunc K #[v]).run Tryz.prog w = .ok (.enter K #[v]) w) (hf : ∀ (c : UInt8) (w : World), Calls Tryz.prog K #[.int .u8 c.toNat] w fun e w' => e = .returned (.bool (f c)) ∧ w = w') (s : ByteArray) (w : World) (hs : s.size ≤ maxLen) :
    Calls Tryz.prog 97 #[.string s, .func (.func K) #[] #[]] w fun e w' => e = .returned (.bool (allQ f s)) ∧ w = w' := by
  have HF := Lib.hid hf
  unfold maxLen at hs
  clear hf
  go_enter Tryz.func97, Tryz.ntmps97
  go_wp2
  go_loop [8] (fun i => ∃ k : Nat, k ≤ s.size ∧ i = .int .i64 k ∧ Hid ((s.data.toList.take k).all f = true)) (fun i => s.size - (intOf i).toNat)
  case atStart => exact ⟨0, Nat.zero_le _, rfl, Lib.hid rfl⟩
  case round =>
    obtain ⟨k, hk, rfl, HA⟩ := hrel
    by_cases hlt : k < s.size
    · have HT := Lib.hid (take_snoc' s k hlt)
      cases hc : f s[k] with
      | true =>
        have hq := HF.out s[k]
        rw [hc] at hq
        have HQ := Lib.hid hq
        have HC := Lib.hid hc
        clear hq hc
        go_wp2_with (refine (HQ.out _).mono ?_; rintro e w' ⟨rfl, rfl⟩)
        go_round
        case rel => exact ⟨k + 1, by omega, by go_num, Lib.hid (by rw [HT.out, List.all_append, HA.out]; simp [HC.out])⟩
        case measure => simp [intOf]; omega
      | false =>
        have hq := HF.out s[k]
        rw [hc] at hq
        have HQ := Lib.hid hq
        have HX : Hid (allQ f s = false) := Lib.hid (by
          unfold allQ
          have h2 : s.data.toList.all f = false := by
            rw [List.all_eq_false]
            exact ⟨s[k], by rw [ByteArray.getElem_eq_getElem_data]; simp, by simp [hc]⟩
          rw [h2]; rfl)
        clear hq hc
        go_wp2_with (refine (HQ.out _).mono ?_; rintro e w' ⟨rfl, rfl⟩)
        go_ret
        exact ⟨ret_bool HX.out.symm, rfl⟩
    · have he : k = s.size := by omega
      have HX : Hid (s.data.toList.all f = true) := Lib.hid (by have := HA.out; rwa [List.take_of_length_le (by simp; omega)] at this)
      clear he
      go_wp2
      go_ret
      exact ⟨ret_bool (by unfold allQ; rw [HX.out]; simp), rfl⟩
theorem all_wordy (s : ByteArray) (w : World) (hs : s.size ≤ maxLen) : Calls Tryz.prog 97 #[.string s, .func (.func 98) #[] #[]] w fun e w' => e = .returned (.bool (allQ innB s)) ∧ w = w' :=
  all_any _ innB (fun v w => by kernel_rfl) fwordy_any s w hs
theorem all_digit (s : ByteArray) (w : World) (hs : s.size ≤ maxLen) : Calls Tryz.prog 97 #[.string s, .func (.func 100) #[] #[]] w fun e w' => e = .returned (.bool (allQ digB s)) ∧ w = w' :=
  all_any _ digB (fun v w => by kernel_rfl) fdigit_any s w hs
end Go.Proofs.YtjmpcoedfoaebaaGreatDoor

open Go Go.RowKit
namespace Go.Proofs.YtjmpcoedfoaebaaGreatDoor

/-- The rows between a sign. -/
def rowsOf (s sep : ByteArray) : List ByteArray := Lib.splitB sep 0 (Lib.countB s sep) s
theorem rowsOf_length (s sep : ByteArray) (h : 1 ≤ sep.size) : (rowsOf s sep).length = Lib.countB s sep + 1 := Lib.splitB_all sep h 0 _ s rfl
theorem splitB_le (sep : ByteArray) : ∀ (k : Nat) (s : ByteArray), ∀ r ∈ Lib.splitB sep 0 k s, r.size ≤ s.size
  | 0, s, r, h => by rw [Lib.splitB_zero] at h; rw [List.mem_singleton.1 h]; exact Nat.le_refl _
  | k + 1, s, r, h => by
    unfold Lib.splitB at h
    split at h
    · rw [List.mem_singleton.1 h]; exact Nat.le_refl _
    · rcases List.mem_cons.1 h with rfl | h
      · rw [ByteArray.size_extract]; omega
      · have := splitB_le sep k _ r h
        rw [ByteArray.size_extract] at this
        omega
theorem rowsOf_le (s sep : ByteArray) : ∀ r ∈ rowsOf s sep, r.size ≤ s.size := splitB_le sep _ s
theorem rows_cell (w : World) (rows : List ByteArray) (t : TypeId) (k : Nat) (r : ByteArray) (h : rows[k]? = some r) : (w.alloc (.cells (rows.map Value.string).toArray t)).cell? ⟨w.heap.size, k, none⟩ = some (.string r) := by
  rw [cell_of (alloc_at w _)]
  simp [h]

/-- A number's row: digits, no leading naught. -/
def numQ (r : ByteArray) : Bool := allQ digB r && !((peekB r 0 == 48) && decide (1 < r.size))
def dotT : ByteArray := ⟨#[46]⟩
def semT : ByteArray := ⟨#[59]⟩
/-- Is a text a type's word? -/
def wordQ (s : ByteArray) : Bool := if letB (peekB s 0) = true then allQ innB s else (rowsOf s dotT).all numQ && decide (1 < (rowsOf s dotT).length)
theorem size_none {s : ByteArray} (h : s.size = 0) : s = ⟨#[]⟩ := by
  cases s with | mk d => cases d with | mk l => cases l with
    | nil => rfl
    | cons a l => cases h
theorem isEmpty_yes {s : ByteArray} (h : s.size = 0) : s.toList.isEmpty = true := by
  rw [size_none h]; first | rfl | decide | simp
theorem all_snoc {α : Type} (f : α → Bool) (l : List α) (k : Nat) (a : α) (h : l[k]? = some a) : (l.take (k + 1)).all f = ((l.take k).all f && f a) := by
  obtain ⟨hk, rfl⟩ := List.getElem?_eq_some_iff.1 h
  rw [List.take_succ_eq_append_getElem hk, List.all_append]
  simp

set_option maxHeartbeats 2000000 in
set_option maxRecDepth 100000 in
theorem fword_any (B : Nat) (s : ByteArray) (w : World) (hs : s.size < 4294967281) (hE : Env B w) : Calls Tryz.prog 67 #[.string s] w (RetB w (wordQ s)) := by
  have hsm : s.size ≤ maxLen := by unfold maxLen; omega
  obtain ⟨m, hm⟩ := hE.maxLen
  have hRL := rowsOf_length s dotT (by decide)
  have hSP := Tryz.strings_Split s dotT m w hs hm (by decide)
  rw [← hRL] at hSP
  have HSP := Lib.hid hSP
  have hRS := rowsOf_le s dotT
  have HRS := Lib.hid hRS
  obtain ⟨lb, hlb⟩ : ∃ lb, letB (peekB s 0) = lb := ⟨_, rfl⟩
  have HLB := Lib.hid hlb
  have HAW := Lib.hid (all_wordy s w hsm)
  have HLT := Lib.hid (fun c => fletter_any c w)
  obtain ⟨q, hq⟩ : ∃ q, wordQ s = q := ⟨_, rfl⟩
  rw [hq]
  have HQ := Lib.hid hq
  have HRL := Lib.hid hRL
  have hnb : (rowsOf s dotT).length ≤ 4294967282 := by
    have := Lib.countB_le dotT (by decide) s.size s (Nat.le_refl _)
    omega
  clear hm hE hRS hlb hq hRL hSP
  go_enter Tryz.func67, Tryz.ntmps67
  go_upto_region 1 with fail
  go_cut [12] (fun s12 wx => s12 = .bool lb ∧ wx = w)
  case first =>
    by_cases h0 : 0 < s.size
    · have hne : s.toList.isEmpty = false := isEmpty_no (fun h => by rw [h] at h0; exact absurd h0 (by decide))
      have hL := HLT.out s[0]
      rw [show letB s[0] = lb by rw [← peekB_in h0]; exact HLB.out] at hL
      have HL := Lib.hid hL
      clear hL
      go_wp2_with (go_at_call 99; refine HL.out.mono ?_; rintro e w' ⟨rfl, rfl⟩)
      go_meet
      exact ⟨rfl, rfl⟩
    · have hne : s.toList.isEmpty = true := isEmpty_yes (by omega)
      have HX : Hid (lb = false) := Lib.hid (by rw [← HLB.out, peekB_out (by omega)]; rfl)
      clear h0
      go_wp2_with fail
      go_meet
      exact ⟨by rw [HX.out], rfl⟩
  case rest =>
    obtain ⟨rfl, rfl⟩ := hcut
    cases lb with
    | true =>
      have HX : Hid (q = allQ innB s) := Lib.hid (by rw [← HQ.out]; unfold wordQ; rw [if_pos HLB.out])
      go_wp2_with (go_at_call 97; refine HAW.out.mono ?_; rintro e w' ⟨rfl, rfl⟩)
      go_ret
      exact ⟨ret_bool HX.out.symm, Keep.refl _ _⟩
    | false =>
      have HX : Hid (q = ((rowsOf s dotT).all numQ && decide (1 < (rowsOf s dotT).length))) := Lib.hid (by rw [← HQ.out]; unfold wordQ; rw [if_neg (by rw [HLB.out]; simp)])
      obtain ⟨rows, hrows⟩ : ∃ rows, rowsOf s dotT = rows := ⟨_, rfl⟩
      have hSP := HSP.out
      rw [show Lib.splitB dotT 0 (Lib.countB s dotT) s = rows from hrows, hrows] at hSP
      have hRS := HRS.out
      have hX := HX.out
      rw [hrows] at hRS hX hnb
      have HX2 := Lib.hid hX
      have HRS2 := Lib.hid hRS
      have HSP2 := Lib.hid hSP
      clear hrows hSP hRS hX HSP HRS HX HRL HQ HLB HLT HAW
      go_wp2_with (go_at_call 96; refine HSP2.out.mono ?_; rintro e w' ⟨rfl, rfl⟩)
      obtain ⟨W, hW⟩ : ∃ W, W = wc.alloc (.cells (rows.map Value.string).toArray 9) := ⟨_, rfl⟩
      have HK : Hid (Keep [] wc W) := Lib.hid (by rw [hW]; exact (Keep.refl [] wc).alloc _)
      have HCE : Hid (∀ k r, rows[k]? = some r → W.cell? ⟨wc.heap.size, k, none⟩ = some (.string r)) := Lib.hid (by rw [hW]; exact rows_cell wc rows 9)
      rw [← hW]
      clear hW
      go_loop [19] (fun i => ∃ k : Nat, k ≤ rows.length ∧ i = .int .i64 k ∧ Hid ((rows.take k).all numQ = true)) (fun i => rows.length - (intOf i).toNat)
      case atStart => exact ⟨0, Nat.zero_le _, rfl, Lib.hid rfl⟩
      case round =>
        obtain ⟨k, hk, rfl, HA⟩ := hrel
        by_cases hlt : k < rows.length
        · obtain ⟨r, hr⟩ : ∃ r, rows[k]? = some r := ⟨_, List.getElem?_eq_getElem hlt⟩
          have hc := HCE.out k r hr
          have hrs := HRS2.out r (List.mem_of_getElem? hr)
          have hrm : r.size ≤ maxLen := by unfold maxLen; omega
          have HSN := Lib.hid (all_snoc numQ rows k r hr)
          have HD := Lib.hid (all_digit r W hrm)
          clear hr
          have hrm' := hrm
          unfold maxLen at hrm'
          cases hd : allQ digB r with
          | false =>
            have hD := HD.out
            rw [hd] at hD
            have HD' := Lib.hid hD
            have HN : Hid (rows.all numQ = false) := Lib.hid (by
              cases ha : rows.all numQ with
              | false => rfl
              | true =>
                have h1 : numQ r = false := by unfold numQ; rw [hd]; rfl
                have h2 : (rows.take (k + 1)).all numQ = true := List.all_eq_true.2 fun x hx => List.all_eq_true.1 ha x (List.mem_of_mem_take hx)
                rw [HSN.out, h1] at h2
                simp at h2)
            clear hd hD HD
            go_wp2_with (go_at_call 97; refine HD'.out.mono ?_; rintro e w' ⟨rfl, rfl⟩)
            go_ret
            exact ⟨ret_bool (by rw [HX2.out, HN.out]; rfl), HK.out⟩
          | true =>
            have hD := HD.out
            rw [hd] at hD
            have HD' := Lib.hid hD
            have h0 : 0 < r.size := by
              rcases Nat.eq_zero_or_pos r.size with h | h
              · unfold allQ at hd; rw [isEmpty_yes h] at hd; simp at hd
              · exact h
            obtain ⟨b1, hb1, HB1⟩ : ∃ b1 : Bool, (((r[0]).toNat : Int) == 48) = b1 ∧ Hid ((peekB r 0 == 48) = b1) := by
              refine ⟨_, rfl, Lib.hid ?_⟩
              rw [peekB_in h0, Bool.eq_iff_iff, beq_iff_eq, beq_iff_eq]
              constructor
              · intro h; rw [h]; rfl
              · intro h; exact UInt8.toNat_inj.1 (by show _ = 48; omega)
            obtain ⟨b2, hb2, HB2⟩ : ∃ b2 : Bool, decide ((1 : Int) < (r.size : Int)) = b2 ∧ Hid (decide (1 < r.size) = b2) := ⟨_, rfl, Lib.hid (by rw [Bool.eq_iff_iff, decide_eq_true_iff, decide_eq_true_iff]; omega)⟩
            have HN : Hid (numQ r = !(b1 && b2)) := Lib.hid (by unfold numQ; rw [hd, HB1.out, HB2.out]; rfl)
            clear hd hD HD
            cases b1 with
            | true =>
              cases b2 with
              | true =>
                have HN2 : Hid (rows.all numQ = false) := Lib.hid (by
                  cases ha : rows.all numQ with
                  | false => rfl
                  | true =>
                    have h2 : (rows.take (k + 1)).all numQ = true := List.all_eq_true.2 fun x hx => List.all_eq_true.1 ha x (List.mem_of_mem_take hx)
                    rw [HSN.out, HN.out] at h2
                    simp at h2)
                go_wp2_with (go_at_call 97; refine HD'.out.mono ?_; rintro e w' ⟨rfl, rfl⟩)
                go_ret
                exact ⟨ret_bool (by rw [HX2.out, HN2.out]; rfl), HK.out⟩
              | false =>
                go_wp2_with (go_at_call 97; refine HD'.out.mono ?_; rintro e w' ⟨rfl, rfl⟩)
                go_round
                case rel => exact ⟨k + 1, by omega, by go_num, Lib.hid (by rw [HSN.out, HA.out, HN.out]; rfl)⟩
                case measure => simp [intOf]; omega
            | false =>
              go_wp2_with (go_at_call 97; refine HD'.out.mono ?_; rintro e w' ⟨rfl, rfl⟩)
              go_round
              case rel => exact ⟨k + 1, by omega, by go_num, Lib.hid (by rw [HSN.out, HA.out, HN.out]; rfl)⟩
              case measure => simp [intOf]; omega
        · have HAL : Hid (rows.all numQ = true) := Lib.hid (by have := HA.out; rwa [List.take_of_length_le (by omega)] at this)
          go_wp2_with fail
          go_ret
          exact ⟨ret_bool (by rw [HX2.out, HAL.out, Bool.true_and, Bool.eq_iff_iff, decide_eq_true_iff, decide_eq_true_iff]; omega), HK.out⟩
end Go.Proofs.YtjmpcoedfoaebaaGreatDoor

open Go Go.RowKit
namespace Go.Proofs.YtjmpcoedfoaebaaGreatDoor

/-- Has a text a description's form? -/
def descQ (s : ByteArray) : Bool := match rowsOf s semT with
  | [] => false
  | r0 :: rs => rs.all (allQ innB) && wordQ r0

set_option maxHeartbeats 2000000 in
set_option maxRecDepth 100000 in
theorem described_any (B : Nat) (s : ByteArray) (w : World) (hs : s.size < 4294967281) (hE : Env B w) : Calls Tryz.prog 66 #[.string s] w (RetB w (descQ s)) := by
  obtain ⟨m, hm⟩ := hE.maxLen
  have hRL := rowsOf_length s semT (by decide)
  have hSP := Tryz.strings_Split s semT m w hs hm (by decide)
  rw [← hRL] at hSP
  have hRS := rowsOf_le s semT
  have hnb : (rowsOf s semT).length ≤ 4294967282 := by
    have := Lib.countB_le semT (by decide) s.size s (Nat.le_refl _)
    omega
  have HE := Lib.hid hE
  obtain ⟨rows, hrows⟩ : ∃ rows, rowsOf s semT = rows := ⟨_, rfl⟩
  obtain ⟨q, hq⟩ : ∃ q, descQ s = q := ⟨_, rfl⟩
  rw [hq]
  unfold descQ at hq
  rw [show Lib.splitB semT 0 (Lib.countB s semT) s = rows from hrows, hrows] at hSP
  rw [hrows] at hq hRS hRL hnb
  cases rows with
  | nil => simp at hRL
  | cons r0 rs =>
    have hq' : (rs.all (allQ innB) && wordQ r0) = q := hq
    have HQ := Lib.hid hq'
    have hr0 := hRS r0 (by simp)
    have HRS := Lib.hid (fun r h => hRS r (List.mem_cons_of_mem _ h))
    rw [List.length_cons] at hSP hnb
    have HSP := Lib.hid hSP
    clear hm hE hrows hq hq' hRL hRS hSP
    cases rs with
    | nil =>
      have hW1 : ∃ W, W = w.alloc (.cells (List.map Value.string [r0]).toArray 9) := ⟨_, rfl⟩
      obtain ⟨W, hW⟩ := hW1
      have hSP := HSP.out
      rw [← hW] at hSP
      have HSP2 := Lib.hid hSP
      clear hSP
      have HK : Hid (Keep [] w W) := Lib.hid (by rw [hW]; exact (Keep.refl [] w).alloc _)
      have hc0 : W.cell? ⟨w.heap.size, 0, none⟩ = some (.string r0) := by rw [hW]; exact rows_cell w [r0] 9 0 r0 rfl
      have HWD := Lib.hid (fword_any B r0 W (by omega) (HE.out.keep0 HK.out))
      have HQ2 : Hid (wordQ r0 = q) := Lib.hid (by have := HQ.out; simpa using this)
      clear hW
      go_enter Tryz.func66, Tryz.ntmps66
      go_wp2_with (go_at_call 96; refine HSP2.out.mono ?_; rintro e w' ⟨rfl, he⟩; obtain rfl : W = w' := he.symm; clear he)
      refine wp_loop_rounds 1 ?_
      rw [rounds_succ]
      go_wp2_with (go_at_call 67; refine HWD.out.mono ?_; rintro e w' ⟨rfl, hK⟩)
      go_ret
      exact ⟨ret_bool HQ2.out, HK.out.trans hK⟩
    | cons r1 rs =>
      obtain ⟨l, hl⟩ : ∃ l, r1 :: rs = l := ⟨_, rfl⟩
      have hl1 : 1 ≤ l.length := by rw [← hl]; simp
      have hl3 : l ≠ [] := by rw [← hl]; simp
      rw [hl] at HQ HRS HSP hnb
      clear hl
      have hW1 : ∃ W, W = w.alloc (.cells (List.map Value.string (r0 :: l)).toArray 9) := ⟨_, rfl⟩
      obtain ⟨W, hW⟩ := hW1
      have hSP := HSP.out
      rw [← hW] at hSP
      have HSP2 := Lib.hid hSP
      clear hSP
      have HK : Hid (Keep [] w W) := Lib.hid (by rw [hW]; exact (Keep.refl [] w).alloc _)
      have hc0 : W.cell? ⟨w.heap.size, 0, none⟩ = some (.string r0) := by rw [hW]; exact rows_cell w (r0 :: l) 9 0 r0 rfl
      have HCE : Hid (∀ k r, l[k]? = some r → W.cell? ⟨w.heap.size, 1 + k, none⟩ = some (.string r)) := Lib.hid (by
        rw [hW]
        intro k r h
        exact rows_cell w (r0 :: l) 9 (1 + k) r (by rw [Nat.add_comm, List.getElem?_cons_succ]; exact h))
      have HWD := Lib.hid (fword_any B r0 W (by omega) (HE.out.keep0 HK.out))
      clear hW
      go_enter Tryz.func66, Tryz.ntmps66
      go_wp2_with (go_at_call 96; refine HSP2.out.mono ?_; rintro e w' ⟨rfl, he⟩; obtain rfl : W = w' := he.symm; clear he)
      go_loop [11] (fun i => ∃ k : Nat, k ≤ l.length ∧ i = .int .i64 k ∧ Hid ((l.take k).all (allQ innB) = true)) (fun i => l.length - (intOf i).toNat)
      case atStart => exact ⟨0, Nat.zero_le _, rfl, Lib.hid rfl⟩
      case round =>
        obtain ⟨k, hk, rfl, HA⟩ := hrel
        by_cases hlt : k < l.length
        · obtain ⟨r, hr⟩ : ∃ r, l[k]? = some r := ⟨_, List.getElem?_eq_getElem hlt⟩
          have hc := HCE.out k r hr
          have hrs := HRS.out r (List.mem_of_getElem? hr)
          have hrm : r.size ≤ maxLen := by unfold maxLen; omega
          have HSN := Lib.hid (all_snoc (allQ innB) l k r hr)
          have hD := all_wordy r W hrm
          clear hr
          cases hd : allQ innB r with
          | false =>
            rw [hd] at hD
            have HD := Lib.hid hD
            have HN : Hid (l.all (allQ innB) = false) := Lib.hid (by
              cases ha : l.all (allQ innB) with
              | false => rfl
              | true =>
                have h2 : (l.take (k + 1)).all (allQ innB) = true := List.all_eq_true.2 fun x hx => List.all_eq_true.1 ha x (List.mem_of_mem_take hx)
                rw [HSN.out, hd] at h2
                simp at h2)
            clear hd hD
            go_wp2_with (go_at_call 97; refine HD.out.mono ?_; rintro e w' ⟨rfl, rfl⟩)
            go_ret
            exact ⟨ret_bool (by rw [← HQ.out, HN.out]; rfl), HK.out⟩
          | true =>
            rw [hd] at hD
            have HD := Lib.hid hD
            have HDD := Lib.hid hd
            clear hd hD
            go_wp2_with (go_at_call 97; refine HD.out.mono ?_; rintro e w' ⟨rfl, rfl⟩)
            go_round
            case rel => exact ⟨k + 1, by omega, by go_num, Lib.hid (by rw [HSN.out, HA.out, HDD.out]; rfl)⟩
            case measure => simp [intOf]; omega
        · have HAL : Hid (l.all (allQ innB) = true) := Lib.hid (by have := HA.out; rwa [List.take_of_length_le (by omega)] at this)
          go_wp2_with (go_at_call 67; refine HWD.out.mono ?_; rintro e w' ⟨rfl, hK⟩)
          go_ret
          exact ⟨ret_bool (by rw [← HQ.out, HAL.out, Bool.true_and]), HK.out.trans hK⟩
end Go.Proofs.YtjmpcoedfoaebaaGreatDoor

open Go Go.RowKit
namespace Go.Proofs.YtjmpcoedfoaebaaGreatDoor

/-- Texts that a slice reads as, below a block. -/
def Txt (w : World) (H : Nat) (a : Option Addr) (ms : List ByteArray) : Prop :=
  ms = [] ∨ ∃ mb mo, a = some ⟨mb, mo, none⟩ ∧ mb < H ∧ ∀ k r, ms[k]? = some r → w.cell? ⟨mb, mo + k, none⟩ = some (.string r)
theorem Txt.keep {S : List Nat} {w w' : World} {H : Nat} {a : Option Addr} {ms : List ByteArray} (h : Txt w H a ms) (k : Keep S w w') (hH : H ≤ w.heap.size) (hS : ∀ x ∈ S, H ≤ x) : Txt w' H a ms := by
  rcases h with h | ⟨mb, mo, h1, h2, h3⟩
  · exact .inl h
  · exact .inr ⟨mb, mo, h1, h2, fun j r hr => (k.cell ⟨mb, mo + j, none⟩ (Nat.lt_of_lt_of_le h2 hH) (fun hm => by have := hS mb hm; omega)).trans (h3 j r hr)⟩
/-- A filter's value: its fields, the two lists as slices. -/
def aggOf (it : Itm) (a1 : Option Addr) (n1 c1 : Nat) (a2 : Option Addr) (c2 : Nat) : Value :=
  .agg #[.int .i8 it.kind, .slice a1 n1 c1, .string it.desc, .string it.value, .string it.start, .slice a2 it.mids.length c2, .string it.fin, .string it.rule, .bool it.dn]
def longN (it : Itm) : Nat := max (max (max (max it.desc.size it.value.size) it.start.size) it.fin.size) it.rule.size
def longM : Nat → List ByteArray → Nat
  | n, [] => n
  | n, m :: ms => longM (max n m.size) ms
def longB (it : Itm) : Bool := decide (65536 < longM (longN it) it.mids)

theorem max_lt (x y : Nat) : (if (x : Int) < (y : Int) then (y : Int) else (x : Int)) = ((max x y : Nat) : Int) := by
  split <;> omega
theorem max2_run (a b : Nat) : Builtin.max2 (.int .i64 a) (.int .i64 b) = pure (.int .i64 ((max a b : Nat) : Int)) := by
  simp only [Builtin.max2, gt_iff_lt, max_lt]
theorem run_max5 (ts : Array TypeId) (t : TypeId) (a b c d e : Nat) (w : World) :
    (Builtin.max_ ts t #[.int .i64 a, .int .i64 b, .int .i64 c, .int .i64 d, .int .i64 e]).run Tryz.prog w = .ok (.int .i64 ((max (max (max (max a b) c) d) e : Nat) : Int)) w := by
  simp only [Builtin.max_, List.foldlM_cons, List.foldlM_nil, Sem.run_pure, pure_bind, max2_run]
theorem longM_ge : ∀ (ms : List ByteArray) (n : Nat), n ≤ longM n ms
  | [], _ => Nat.le_refl _
  | m :: ms, n => Nat.le_trans (Nat.le_max_left n m.size) (longM_ge ms (max n m.size))

set_option maxHeartbeats 2000000 in
set_option maxRecDepth 100000 in
theorem long_any (it : Itm) (a1 : Option Addr) (n1 c1 : Nat) (a2 : Option Addr) (c2 : Nat) (w : World) (H : Nat) (hH : H ≤ w.heap.size) (hT : Txt w H a2 it.mids) (hl : it.mids.length ≤ 9223372036854775807) :
    Calls Tryz.prog 39 #[.agg #[.int .i8 it.kind, .slice a1 n1 c1, .string it.desc, .string it.value, .string it.start, .slice a2 it.mids.length c2, .string it.fin, .string it.rule, .bool it.dn]] w (RetB w (longB it)) := by
  have h5 : ∀ W : World, (Builtin.max_ #[3, 3, 3, 3, 3] 3 #[.int .i64 it.desc.size, .int .i64 it.value.size, .int .i64 it.start.size, .int .i64 it.fin.size, .int .i64 it.rule.size]).run Tryz.prog W = .ok (.int .i64 (longN it : Int)) W := fun W => run_max5 _ _ _ _ _ _ _ W
  obtain ⟨N, hN⟩ : ∃ N, longN it = N := ⟨_, rfl⟩
  obtain ⟨M, hM⟩ : ∃ M, longM N it.mids = M := ⟨_, rfl⟩
  have HB : Hid (longB it = decide (65536 < M)) := Lib.hid (by unfold longB; rw [hN, hM])
  have hNM : N ≤ M := by rw [← hM]; exact longM_ge _ _
  rw [hN] at h5
  have HM := Lib.hid hM
  have HT := Lib.hid hT
  clear hT hN hM
  go_enter Tryz.func39, Tryz.ntmps39
  go_wp2_with fail
  clear h5
  obtain ⟨W, hW⟩ : ∃ W, W = w.alloc (.cells #[.int .i8 it.kind, .slice a1 n1 c1, .string it.desc, .string it.value, .string it.start, .slice a2 it.mids.length c2, .string it.fin, .string it.rule, .bool it.dn] 26) := ⟨_, rfl⟩
  have HK : Hid (Keep [] w W) := Lib.hid (by rw [hW]; exact (Keep.refl [] w).alloc _)
  have HTW := Lib.hid (HT.out.keep HK.out hH (by simp))
  rw [← hW]
  clear hW
  go_loop [3, 25] (fun n i => ∃ k N' : Nat, k ≤ it.mids.length ∧ N' ≤ M ∧ n = .int .i64 N' ∧ i = .int .i64 k ∧ Hid (longM N' (it.mids.drop k) = M)) (fun _ i => it.mids.length - (intOf i).toNat)
  case atStart => exact ⟨0, N, Nat.zero_le _, hNM, rfl, rfl, HM⟩
  case round =>
    obtain ⟨k, N', hk, hN', rfl, rfl, HL⟩ := hrel
    by_cases hlt : k < it.mids.length
    · obtain ⟨r, hr⟩ : ∃ r, it.mids[k]? = some r := ⟨_, List.getElem?_eq_getElem hlt⟩
      rcases HTW.out with h | ⟨mb, mo, rfl, hmb, hc⟩
      · rw [h] at hlt; exact absurd hlt (by simp)
      · have hcr := hc k r hr
        have HS : Hid (longM (max N' r.size) (it.mids.drop (k + 1)) = M) := Lib.hid (by
          have := HL.out
          rw [List.drop_eq_getElem_cons hlt, show it.mids[k] = r from Option.some.inj ((List.getElem?_eq_getElem hlt).symm.trans hr)] at this
          exact this)
        have hm2 : max N' r.size ≤ M := by rw [← HS.out]; exact longM_ge _ _
        have hmx : ∀ V : World, (Builtin.max_ #[3, 3] 3 #[.int .i64 N', .int .i64 r.size]).run Tryz.prog V = .ok (.int .i64 ((max N' r.size : Nat) : Int)) V := fun V => by
          simp only [Builtin.max_, List.foldlM_cons, List.foldlM_nil, Sem.run_pure, pure_bind, max2_run]
        obtain ⟨X, hX⟩ : ∃ X, max N' r.size = X := ⟨_, rfl⟩
        rw [hX] at hm2 hmx HS
        clear hc hr hX
        go_wp2_with fail
        go_round
        case rel => exact ⟨k + 1, X, by omega, hm2, rfl, by go_num, HS⟩
        case measure => simp [intOf]; omega
    · have HX : Hid (N' = M) := Lib.hid (by have := HL.out; rwa [List.drop_of_length_le (by omega)] at this)
      go_wp2_with fail
      go_ret
      exact ⟨ret_bool (by rw [HB.out, ← HX.out, Bool.eq_iff_iff, decide_eq_true_iff, decide_eq_true_iff]; omega), HK.out⟩
end Go.Proofs.YtjmpcoedfoaebaaGreatDoor
