/- filter's described: has a text a description's form? -/
import Derived.Test.YtjmpcoedfoaebaaGreatDoorFpb
open Go Go.RowKit
namespace Go.Proofs.YtjmpcoedfoaebaaGreatDoor

/-- Has a text a description's form? -/
def descQ (s : ByteArray) : Bool := match rowsOf s semT with
  | [] => false
  | r0 :: rs => rs.all (allQ innB) && wordQ r0

set_option maxHeartbeats 2000000 in
set_option maxRecDepth 100000 in
theorem described_any (B : Nat) (s : ByteArray) (w : World) (hs : s.size < 4294967281) (hE : Env B w) : Calls Tryz.prog 66 #[.string s] w (RetB w (descQ s)) := by
  obtain ⟨m, hm⟩ := hE.maxLen
  have hRL := rowsOf_length s semT (by decide)
  have hSP := Tryz.strings_Split s semT m w hs hm (by decide)
  rw [← hRL] at hSP
  have hRS := rowsOf_le s semT
  have hnb : (rowsOf s semT).length ≤ 4294967282 := by
    have := Lib.countB_le semT (by decide) s.size s (Nat.le_refl _)
    omega
  have HE := Lib.hid hE
  obtain ⟨rows, hrows⟩ : ∃ rows, rowsOf s semT = rows := ⟨_, rfl⟩
  obtain ⟨q, hq⟩ : ∃ q, descQ s = q := ⟨_, rfl⟩
  rw [hq]
  unfold descQ at hq
  rw [show Lib.splitB semT 0 (Lib.countB s semT) s = rows from hrows, hrows] at hSP
  rw [hrows] at hq hRS hRL hnb
  cases rows with
  | nil => simp at hRL
  | cons r0 rs =>
    have hq' : (rs.all (allQ innB) && wordQ r0) = q := hq
    have HQ := Lib.hid hq'
    have hr0 := hRS r0 (by simp)
    have HRS := Lib.hid (fun r h => hRS r (List.mem_cons_of_mem _ h))
    rw [List.length_cons] at hSP hnb
    have HSP := Lib.hid hSP
    clear hm hE hrows hq hq' hRL hRS hSP
    cases rs with
    | nil =>
      have hW1 : ∃ W, W = w.alloc (.cells (List.map Value.string [r0]).toArray 9) := ⟨_, rfl⟩
      obtain ⟨W, hW⟩ := hW1
      have hSP := HSP.out
      rw [← hW] at hSP
      have HSP2 := Lib.hid hSP
      clear hSP
      have HK : Hid (Keep [] w W) := Lib.hid (by rw [hW]; exact (Keep.refl [] w).alloc _)
      have hc0 : W.cell? ⟨w.heap.size, 0, none⟩ = some (.string r0) := by rw [hW]; exact rows_cell w [r0] 9 0 r0 rfl
      have HWD := Lib.hid (fword_any B r0 W (by omega) (HE.out.keep0 HK.out))
      have HQ2 : Hid (wordQ r0 = q) := Lib.hid (by have := HQ.out; simpa using this)
      clear hW
      go_enter Tryz.func66, Tryz.ntmps66
      go_wp2_with (go_at_call 96; refine HSP2.out.mono ?_; rintro e w' ⟨rfl, he⟩; obtain rfl : W = w' := he.symm; clear he)
      refine wp_loop_rounds 1 ?_
      rw [rounds_succ]
      go_wp2_with (go_at_call 67; refine HWD.out.mono ?_; rintro e w' ⟨rfl, hK⟩)
      go_ret
      exact ⟨ret_bool HQ2.out, HK.out.trans hK⟩
    | cons r1 rs =>
      obtain ⟨l, hl⟩ : ∃ l, r1 :: rs = l := ⟨_, rfl⟩
      have hl1 : 1 ≤ l.length := by rw [← hl]; simp
      have hl3 : l ≠ [] := by rw [← hl]; simp
      rw [hl] at HQ HRS HSP hnb
      clear hl
      have hW1 : ∃ W, W = w.alloc (.cells (List.map Value.string (r0 :: l)).toArray 9) := ⟨_, rfl⟩
      obtain ⟨W, hW⟩ := hW1
      have hSP := HSP.out
      rw [← hW] at hSP
      have HSP2 := Lib.hid hSP
      clear hSP
      have HK : Hid (Keep [] w W) := Lib.hid (by rw [hW]; exact (Keep.refl [] w).alloc _)
      have hc0 : W.cell? ⟨w.heap.size, 0, none⟩ = some (.string r0) := by rw [hW]; exact rows_cell w (r0 :: l) 9 0 r0 rfl
      have HCE : Hid (∀ k r, l[k]? = some r → W.cell? ⟨w.heap.size, 1 + k, none⟩ = some (.string r)) := Lib.hid (by
        rw [hW]
        intro k r h
        exact rows_cell w (r0 :: l) 9 (1 + k) r (by rw [Nat.add_comm, List.getElem?_cons_succ]; exact h))
      have HWD := Lib.hid (fword_any B r0 W (by omega) (HE.out.keep0 HK.out))
      clear hW
      go_enter Tryz.func66, Tryz.ntmps66
      go_wp2_with (go_at_call 96; refine HSP2.out.mono ?_; rintro e w' ⟨rfl, he⟩; obtain rfl : W = w' := he.symm; clear he)
      go_loop [11] (fun i => ∃ k : Nat, k ≤ l.length ∧ i = .int .i64 k ∧ Hid ((l.take k).all (allQ innB) = true)) (fun i => l.length - (intOf i).toNat)
      case atStart => exact ⟨0, Nat.zero_le _, rfl, Lib.hid rfl⟩
      case round =>
        obtain ⟨k, hk, rfl, HA⟩ := hrel
        by_cases hlt : k < l.length
        · obtain ⟨r, hr⟩ : ∃ r, l[k]? = some r := ⟨_, List.getElem?_eq_getElem hlt⟩
          have hc := HCE.out k r hr
          have hrs := HRS.out r (List.mem_of_getElem? hr)
          have hrm : r.size ≤ maxLen := by unfold maxLen; omega
          have HSN := Lib.hid (all_snoc (allQ innB) l k r hr)
          have hD := all_wordy r W hrm
          clear hr
          cases hd : allQ innB r with
          | false =>
            rw [hd] at hD
            have HD := Lib.hid hD
            have HN : Hid (l.all (allQ innB) = false) := Lib.hid (by
              cases ha : l.all (allQ innB) with
              | false => rfl
              | true =>
                have h2 : (l.take (k + 1)).all (allQ innB) = true := List.all_eq_true.2 fun x hx => List.all_eq_true.1 ha x (List.mem_of_mem_take hx)
                rw [HSN.out, hd] at h2
                simp at h2)
            clear hd hD
            go_wp2_with (go_at_call 97; refine HD.out.mono ?_; rintro e w' ⟨rfl, rfl⟩)
            go_ret
            exact ⟨ret_bool (by rw [← HQ.out, HN.out]; rfl), HK.out⟩
          | true =>
            rw [hd] at hD
            have HD := Lib.hid hD
            have HDD := Lib.hid hd
            clear hd hD
            go_wp2_with (go_at_call 97; refine HD.out.mono ?_; rintro e w' ⟨rfl, rfl⟩)
            go_round
            case rel => exact ⟨k + 1, by omega, by go_num, Lib.hid (by rw [HSN.out, HA.out, HDD.out]; rfl)⟩
            case measure => simp [intOf]; omega
        · have HAL : Hid (l.all (allQ innB) = true) := Lib.hid (by have := HA.out; rwa [List.take_of_length_le (by omega)] at this)
          go_wp2_with (go_at_call 67; refine HWD.out.mono ?_; rintro e w' ⟨rfl, hK⟩)
          go_ret
          exact ⟨ret_bool (by rw [← HQ.out, HAL.out, Bool.true_and]), HK.out.trans hK⟩
end Go.Proofs.YtjmpcoedfoaebaaGreatDoor
