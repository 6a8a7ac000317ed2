/- filter's word: is a text a type's word? -/
import Derived.Test.YtjmpcoedfoaebaaGreatDoorFpa
import Derived.Deep.DeepCutAuto
import Derived.Lib.SplitLaws
open Go Go.RowKit
namespace Go.Proofs.YtjmpcoedfoaebaaGreatDoor

/-- The rows between a sign. -/
def rowsOf (s sep : ByteArray) : List ByteArray := Lib.splitB sep 0 (Lib.countB s sep) s
theorem rowsOf_length (s sep : ByteArray) (h : 1 ≤ sep.size) : (rowsOf s sep).length = Lib.countB s sep + 1 := Lib.splitB_all sep h 0 _ s rfl
theorem splitB_le (sep : ByteArray) : ∀ (k : Nat) (s : ByteArray), ∀ r ∈ Lib.splitB sep 0 k s, r.size ≤ s.size
  | 0, s, r, h => by rw [Lib.splitB_zero] at h; rw [List.mem_singleton.1 h]; exact Nat.le_refl _
  | k + 1, s, r, h => by
    unfold Lib.splitB at h
    split at h
    · rw [List.mem_singleton.1 h]; exact Nat.le_refl _
    · rcases List.mem_cons.1 h with rfl | h
      · rw [ByteArray.size_extract]; omega
      · have := splitB_le sep k _ r h
        rw [ByteArray.size_extract] at this
        omega
theorem rowsOf_le (s sep : ByteArray) : ∀ r ∈ rowsOf s sep, r.size ≤ s.size := splitB_le sep _ s
theorem rows_cell (w : World) (rows : List ByteArray) (t : TypeId) (k : Nat) (r : ByteArray) (h : rows[k]? = some r) : (w.alloc (.cells (rows.map Value.string).toArray t)).cell? ⟨w.heap.size, k, none⟩ = some (.string r) := by
  rw [cell_of (alloc_at w _)]
  simp [h]

/-- A number's row: digits, no leading naught. -/
def numQ (r : ByteArray) : Bool := allQ digB r && !((peekB r 0 == 48) && decide (1 < r.size))
def dotT : ByteArray := ⟨#[46]⟩
def semT : ByteArray := ⟨#[59]⟩
/-- Is a text a type's word? -/
def wordQ (s : ByteArray) : Bool := if letB (peekB s 0) = true then allQ innB s else (rowsOf s dotT).all numQ && decide (1 < (rowsOf s dotT).length)
theorem size_none {s : ByteArray} (h : s.size = 0) : s = ⟨#[]⟩ := by
  cases s with | mk d => cases d with | mk l => cases l with
    | nil => rfl
    | cons a l => cases h
theorem isEmpty_yes {s : ByteArray} (h : s.size = 0) : s.toList.isEmpty = true := by
  rw [size_none h]; first | rfl | decide | simp
theorem all_snoc {α : Type} (f : α → Bool) (l : List α) (k : Nat) (a : α) (h : l[k]? = some a) : (l.take (k + 1)).all f = ((l.take k).all f && f a) := by
  obtain ⟨hk, rfl⟩ := List.getElem?_eq_some_iff.1 h
  rw [List.take_succ_eq_append_getElem hk, List.all_append]
  simp

set_option maxHeartbeats 2000000 in
set_option maxRecDepth 100000 in
theorem fword_any (B : Nat) (s : ByteArray) (w : World) (hs : s.size < 4294967281) (hE : Env B w) : Calls Tryz.prog 67 #[.string s] w (RetB w (wordQ s)) := by
  have hsm : s.size ≤ maxLen := by unfold maxLen; omega
  obtain ⟨m, hm⟩ := hE.maxLen
  have hRL := rowsOf_length s dotT (by decide)
  have hSP := Tryz.strings_Split s dotT m w hs hm (by decide)
  rw [← hRL] at hSP
  have HSP := Lib.hid hSP
  have hRS := rowsOf_le s dotT
  have HRS := Lib.hid hRS
  obtain ⟨lb, hlb⟩ : ∃ lb, letB (peekB s 0) = lb := ⟨_, rfl⟩
  have HLB := Lib.hid hlb
  have HAW := Lib.hid (all_wordy s w hsm)
  have HLT := Lib.hid (fun c => fletter_any c w)
  obtain ⟨q, hq⟩ : ∃ q, wordQ s = q := ⟨_, rfl⟩
  rw [hq]
  have HQ := Lib.hid hq
  have HRL := Lib.hid hRL
  have hnb : (rowsOf s dotT).length ≤ 4294967282 := by
    have := Lib.countB_le dotT (by decide) s.size s (Nat.le_refl _)
    omega
  clear hm hE hRS hlb hq hRL hSP
  go_enter Tryz.func67, Tryz.ntmps67
  go_upto_region 1 with fail
  go_cut [12] (fun s12 wx => s12 = .bool lb ∧ wx = w)
  case first =>
    by_cases h0 : 0 < s.size
    · have hne : s.toList.isEmpty = false := isEmpty_no (fun h => by rw [h] at h0; exact absurd h0 (by decide))
      have hL := HLT.out s[0]
      rw [show letB s[0] = lb by rw [← peekB_in h0]; exact HLB.out] at hL
      have HL := Lib.hid hL
      clear hL
      go_wp2_with (go_at_call 99; refine HL.out.mono ?_; rintro e w' ⟨rfl, rfl⟩)
      go_meet
      exact ⟨rfl, rfl⟩
    · have hne : s.toList.isEmpty = true := isEmpty_yes (by omega)
      have HX : Hid (lb = false) := Lib.hid (by rw [← HLB.out, peekB_out (by omega)]; rfl)
      clear h0
      go_wp2_with fail
      go_meet
      exact ⟨by rw [HX.out], rfl⟩
  case rest =>
    obtain ⟨rfl, rfl⟩ := hcut
    cases lb with
    | true =>
      have HX : Hid (q = allQ innB s) := Lib.hid (by rw [← HQ.out]; unfold wordQ; rw [if_pos HLB.out])
      go_wp2_with (go_at_call 97; refine HAW.out.mono ?_; rintro e w' ⟨rfl, rfl⟩)
      go_ret
      exact ⟨ret_bool HX.out.symm, Keep.refl _ _⟩
    | false =>
      have HX : Hid (q = ((rowsOf s dotT).all numQ && decide (1 < (rowsOf s dotT).length))) := Lib.hid (by rw [← HQ.out]; unfold wordQ; rw [if_neg (by rw [HLB.out]; simp)])
      obtain ⟨rows, hrows⟩ : ∃ rows, rowsOf s dotT = rows := ⟨_, rfl⟩
      have hSP := HSP.out
      rw [show Lib.splitB dotT 0 (Lib.countB s dotT) s = rows from hrows, hrows] at hSP
      have hRS := HRS.out
      have hX := HX.out
      rw [hrows] at hRS hX hnb
      have HX2 := Lib.hid hX
      have HRS2 := Lib.hid hRS
      have HSP2 := Lib.hid hSP
      clear hrows hSP hRS hX HSP HRS HX HRL HQ HLB HLT HAW
      go_wp2_with (go_at_call 96; refine HSP2.out.mono ?_; rintro e w' ⟨rfl, rfl⟩)
      obtain ⟨W, hW⟩ : ∃ W, W = wc.alloc (.cells (rows.map Value.string).toArray 9) := ⟨_, rfl⟩
      have HK : Hid (Keep [] wc W) := Lib.hid (by rw [hW]; exact (Keep.refl [] wc).alloc _)
      have HCE : Hid (∀ k r, rows[k]? = some r → W.cell? ⟨wc.heap.size, k, none⟩ = some (.string r)) := Lib.hid (by rw [hW]; exact rows_cell wc rows 9)
      rw [← hW]
      clear hW
      go_loop [19] (fun i => ∃ k : Nat, k ≤ rows.length ∧ i = .int .i64 k ∧ Hid ((rows.take k).all numQ = true)) (fun i => rows.length - (intOf i).toNat)
      case atStart => exact ⟨0, Nat.zero_le _, rfl, Lib.hid rfl⟩
      case round =>
        obtain ⟨k, hk, rfl, HA⟩ := hrel
        by_cases hlt : k < rows.length
        · obtain ⟨r, hr⟩ : ∃ r, rows[k]? = some r := ⟨_, List.getElem?_eq_getElem hlt⟩
          have hc := HCE.out k r hr
          have hrs := HRS2.out r (List.mem_of_getElem? hr)
          have hrm : r.size ≤ maxLen := by unfold maxLen; omega
          have HSN := Lib.hid (all_snoc numQ rows k r hr)
          have HD := Lib.hid (all_digit r W hrm)
          clear hr
          have hrm' := hrm
          unfold maxLen at hrm'
          cases hd : allQ digB r with
          | false =>
            have hD := HD.out
            rw [hd] at hD
            have HD' := Lib.hid hD
            have HN : Hid (rows.all numQ = false) := Lib.hid (by
              cases ha : rows.all numQ with
              | false => rfl
              | true =>
                have h1 : numQ r = false := by unfold numQ; rw [hd]; rfl
                have h2 : (rows.take (k + 1)).all numQ = true := List.all_eq_true.2 fun x hx => List.all_eq_true.1 ha x (List.mem_of_mem_take hx)
                rw [HSN.out, h1] at h2
                simp at h2)
            clear hd hD HD
            go_wp2_with (go_at_call 97; refine HD'.out.mono ?_; rintro e w' ⟨rfl, rfl⟩)
            go_ret
            exact ⟨ret_bool (by rw [HX2.out, HN.out]; rfl), HK.out⟩
          | true =>
            have hD := HD.out
            rw [hd] at hD
            have HD' := Lib.hid hD
            have h0 : 0 < r.size := by
              rcases Nat.eq_zero_or_pos r.size with h | h
              · unfold allQ at hd; rw [isEmpty_yes h] at hd; simp at hd
              · exact h
            obtain ⟨b1, hb1, HB1⟩ : ∃ b1 : Bool, (((r[0]).toNat : Int) == 48) = b1 ∧ Hid ((peekB r 0 == 48) = b1) := by
              refine ⟨_, rfl, Lib.hid ?_⟩
              rw [peekB_in h0, Bool.eq_iff_iff, beq_iff_eq, beq_iff_eq]
              constructor
              · intro h; rw [h]; rfl
              · intro h; exact UInt8.toNat_inj.1 (by show _ = 48; omega)
            obtain ⟨b2, hb2, HB2⟩ : ∃ b2 : Bool, decide ((1 : Int) < (r.size : Int)) = b2 ∧ Hid (decide (1 < r.size) = b2) := ⟨_, rfl, Lib.hid (by rw [Bool.eq_iff_iff, decide_eq_true_iff, decide_eq_true_iff]; omega)⟩
            have HN : Hid (numQ r = !(b1 && b2)) := Lib.hid (by unfold numQ; rw [hd, HB1.out, HB2.out]; rfl)
            clear hd hD HD
            cases b1 with
            | true =>
              cases b2 with
              | true =>
                have HN2 : Hid (rows.all numQ = false) := Lib.hid (by
                  cases ha : rows.all numQ with
                  | false => rfl
                  | true =>
                    have h2 : (rows.take (k + 1)).all numQ = true := List.all_eq_true.2 fun x hx => List.all_eq_true.1 ha x (List.mem_of_mem_take hx)
                    rw [HSN.out, HN.out] at h2
                    simp at h2)
                go_wp2_with (go_at_call 97; refine HD'.out.mono ?_; rintro e w' ⟨rfl, rfl⟩)
                go_ret
                exact ⟨ret_bool (by rw [HX2.out, HN2.out]; rfl), HK.out⟩
              | false =>
                go_wp2_with (go_at_call 97; refine HD'.out.mono ?_; rintro e w' ⟨rfl, rfl⟩)
                go_round
                case rel => exact ⟨k + 1, by omega, by go_num, Lib.hid (by rw [HSN.out, HA.out, HN.out]; rfl)⟩
                case measure => simp [intOf]; omega
            | false =>
              go_wp2_with (go_at_call 97; refine HD'.out.mono ?_; rintro e w' ⟨rfl, rfl⟩)
              go_round
              case rel => exact ⟨k + 1, by omega, by go_num, Lib.hid (by rw [HSN.out, HA.out, HN.out]; rfl)⟩
              case measure => simp [intOf]; omega
        · have HAL : Hid (rows.all numQ = true) := Lib.hid (by have := HA.out; rwa [List.take_of_length_le (by omega)] at this)
          go_wp2_with fail
          go_ret
          exact ⟨ret_bool (by rw [HX2.out, HAL.out, Bool.true_and, Bool.eq_iff_iff, decide_eq_true_iff, decide_eq_true_iff]; omega), HK.out⟩
end Go.Proofs.YtjmpcoedfoaebaaGreatDoor
