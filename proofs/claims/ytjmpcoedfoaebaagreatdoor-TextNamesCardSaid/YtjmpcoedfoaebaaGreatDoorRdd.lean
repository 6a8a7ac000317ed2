/- The program's reader: since, desc. -/
import Derived.Test.YtjmpcoedfoaebaaGreatDoorRdc
open Go Go.RowKit
namespace Go.Proofs.YtjmpcoedfoaebaaGreatDoor

set_option maxHeartbeats 1000000 in
theorem since_any (b i j p : Nat) (s : ByteArray) (w : World) (hs : s.size ≤ maxLen) (hi : i ≤ j) (hj : j ≤ s.size) (hR : Rd w b s j p) :
    Calls Tryz.prog 63 #[.pointer (some ⟨b, 0, none⟩), .int .i64 i] w (Gave b s p w (textOf s i (sinceP i j))) := by
  have h0 := hR.c0
  have h1 := hR.c1
  have HR := Lib.hid hR
  clear hR
  have hs' := hs
  unfold maxLen at hs
  by_cases hlt : 65536 < j - i
  · have hv : textOf s i (sinceP i j) = .error (3, i) := by unfold sinceP; rw [if_pos hlt]; rfl
    rw [hv]
    clear hv
    have hlt' : (65536 : Int) < (j : Int) - i := by omega
    go_enter Tryz.func63, Tryz.ntmps63
    go_wp2_with (go_at_call 48; refine (fault_any b j p i 3 s _ hs' (by exact HR.out)).mono ?_; rintro e w' ⟨v, rfl, hE, hK⟩)
    go_ret2
    exact Gave.mkErr hE (by (repeat first | exact Keep.refl _ _ | refine Keep.drewN ?_ _ | refine Keep.drew ?_ | refine Keep.setCell ?_ _ _ (.inl (by simp)) | refine Keep.alloc ?_ _ | refine Keep.trans ?_ (by assumption) | refine Keep.trans0 ?_ (by assumption) | refine Keep.transTo ?_ (by assumption) (fun x hx => .inr (by simp at hx; omega))))
  · have hv : textOf s i (sinceP i j) = .ok (s.extract i j, j) := by unfold sinceP; rw [if_neg hlt]; rfl
    rw [hv]
    clear hv
    have hlt' : (j : Int) - i ≤ 65536 := by omega
    go_enter Tryz.func63, Tryz.ntmps63
    go_wp2
    go_quiet (fail)
    go_wp2
    go_ret2
    exact Gave.mkOk (HR.out.drewN _) (by (repeat first | exact Keep.refl _ _ | refine Keep.drewN ?_ _ | refine Keep.drew ?_ | refine Keep.setCell ?_ _ _ (.inl (by simp)) | refine Keep.alloc ?_ _ | refine Keep.trans ?_ (by assumption) | refine Keep.trans0 ?_ (by assumption) | refine Keep.transTo ?_ (by assumption) (fun x hx => .inr (by simp at hx; omega))))

def OptRel (i b : Nat) (s : ByteArray) (p : Nat) (w : World) (R : Except (Int × Nat) Nat) (k : Nat) (wr : World) : Prop :=
  ∃ j, j ≤ s.size ∧ s.size < j + k ∧ Rd wr b s j p ∧ Keep [b] w wr ∧ optsP k s j = R ∧ i ≤ j
theorem isEmpty_no {s : ByteArray} (h : ¬ s = ⟨#[]⟩) : s.toList.isEmpty = false := by
  rw [ByteArray.toList_eq]
  cases hs : s.data.toList with
  | nil => exact absurd (ByteArray.ext (Array.toList_inj.1 (hs.trans rfl))) h
  | cons _ _ => rfl

theorem extract_empty {s : ByteArray} {i j : Nat} (h1 : i ≤ j) (h2 : j ≤ s.size) : (s.extract i j = ⟨#[]⟩) ↔ j = i := by
  constructor
  · intro h
    have : (s.extract i j).size = 0 := by rw [h]; rfl
    simp at this
    omega
  · rintro rfl
    apply ByteArray.ext
    simp

set_option maxHeartbeats 2000000 in
theorem desc_any (b i p : Nat) (s : ByteArray) (w : World) (hs : s.size ≤ maxLen) (hi : i ≤ s.size) (hR : Rd w b s i p) :
    Calls Tryz.prog 36 #[.pointer (some ⟨b, 0, none⟩)] w (Gave b s p w (textOf s i (descP s i))) := by
  have h1 := hR.c1
  have HR := Lib.hid hR
  clear hR
  have HW := Lib.hid (fun W h => word_any b i p s W hs hi h)
  cases hw : wordP s i with
  | error f =>
    have hv : textOf s i (descP s i) = .error f := by unfold descP; rw [hw]; rfl
    rw [hv]
    rw [hw] at HW
    clear hv hw
    go_enter Tryz.func36, Tryz.ntmps36
    go_wp2_with (first
      | (go_at_call 60; refine (HW.out _ (by exact HR.out)).mono ?_; intro e w' hw; obtain ⟨fb, rfl, hE, hK⟩ := Went.err hw; clear hw))
    go_ret2
    exact Gave.mkErr hE (by (repeat first | exact Keep.refl _ _ | refine Keep.drewN ?_ _ | refine Keep.drew ?_ | refine Keep.setCell ?_ _ _ (.inl (by simp)) | refine Keep.alloc ?_ _ | refine Keep.trans ?_ (by assumption) | refine Keep.trans0 ?_ (by assumption) | refine Keep.transTo ?_ (by assumption) (fun x hx => .inr (by simp at hx; omega))))
  | ok j =>
    have hij := wordP_ok hw
    generalize hT : optsP (s.size + 1) s j = R
    have hv : descP s i = sinceOf i R := by unfold descP; rw [hw]; dsimp only; rw [hT]
    rw [hv]
    rw [hw] at HW
    have HT := Lib.hid hT
    clear hv hw hT
    go_enter Tryz.func36, Tryz.ntmps36
    go_wp2_with (first
      | (go_at_call 60; refine (HW.out _ (by exact HR.out)).mono ?_; intro e w' hw; obtain ⟨rfl, hR', hK⟩ := Went.ok hw; clear hw))
    have HR' := Lib.hid hR'
    clear hR'
    go_loopg [] (s.size + 1) (fun k wr => OptRel i b s p w R k wr)
    case atStart => exact ⟨j, hij.2, by omega, HR'.out, by (repeat first | exact Keep.refl _ _ | refine Keep.drewN ?_ _ | refine Keep.drew ?_ | refine Keep.setCell ?_ _ _ (.inl (by simp)) | refine Keep.alloc ?_ _ | refine Keep.trans ?_ (by assumption) | refine Keep.trans0 ?_ (by assumption) | refine Keep.transTo ?_ (by assumption) (fun x hx => .inr (by simp at hx; omega))), HT.out, by omega⟩
    case round =>
      obtain ⟨q, hq, hk, hRq, hKq, hst, hiq⟩ := hrel
      have HRq := Lib.hid hRq
      have HKq := Lib.hid hKq
      have h1 := hRq.c1
      have h2 := hRq.free 1
      clear hRq hKq HR' hK
      have HPq := Lib.hid (fun w h => peek_any b q p s w h)
      obtain ⟨k', rfl⟩ : ∃ k', gk = k' + 1 := ⟨gk - 1, by omega⟩
      unfold optsP at hst
      have hs' := hs
      unfold maxLen at hs
      by_cases h4 : peekB s q = 59
      · have hlt : q < s.size := peekB_lt (by rw [h4]; decide)
        rw [if_pos h4] at hst
        have hpk : (((peekB s q).toNat : Int) == 59) = true := by rw [h4]; rfl
        clear h4
        have hr := runP_le s innB (q + 1) (by omega)
        by_cases he : runP s innB (q + 1) = q + 1
        · rw [if_pos he] at hst
          subst hst
          have hem : s.extract (q + 1) (runP s innB (q + 1)) = ⟨#[]⟩ := (extract_empty hr.1 hr.2).2 he
          go_wp2_with (first
            | (go_at_call 47; refine (HPq.out _ (by exact HRq.out)).mono ?_; rintro e w' ⟨rfl, n, rfl⟩)
            | (go_at_call 61; refine (run_inn b (q + 1) p s _ hs' hlt (by exact (HRq.out.drewN _).setAt _)).mono ?_; rintro e w' ⟨rfl, hR1, hK1⟩)
            | (go_at_call 29; refine (stuck_any b _ p s _ hs' (by assumption)).mono ?_; rintro e w' ⟨v, rfl, hE, hK2⟩))
          go_ret2
          have hKq := HKq.out
          rw [he] at hE
          exact Gave.mkErr hE (by (repeat first | exact Keep.refl _ _ | refine Keep.drewN ?_ _ | refine Keep.drew ?_ | refine Keep.setCell ?_ _ _ (.inl (by simp)) | refine Keep.alloc ?_ _ | refine Keep.trans ?_ (by assumption) | refine Keep.trans0 ?_ (by assumption) | refine Keep.transTo ?_ (by assumption) (fun x hx => .inr (by simp at hx; omega))))
        · rw [if_neg he] at hst
          have HT := Lib.hid hst
          clear hst
          have hem := isEmpty_no (fun h => he ((extract_empty hr.1 hr.2).1 h))
          clear he
          go_wp2_with (first
            | (go_at_call 47; refine (HPq.out _ (by exact HRq.out)).mono ?_; rintro e w' ⟨rfl, n, rfl⟩)
            | (go_at_call 61; refine (run_inn b (q + 1) p s _ hs' hlt (by exact (HRq.out.drewN _).setAt _)).mono ?_; rintro e w' ⟨rfl, hR1, hK1⟩))
          go_roundg k'
          case measure => omega
          case rel =>
            have hKq := HKq.out
            exact ⟨_, hr.2, by omega, hR1, by (repeat first | exact Keep.refl _ _ | refine Keep.drewN ?_ _ | refine Keep.drew ?_ | refine Keep.setCell ?_ _ _ (.inl (by simp)) | refine Keep.alloc ?_ _ | refine Keep.trans ?_ (by assumption) | refine Keep.trans0 ?_ (by assumption) | refine Keep.transTo ?_ (by assumption) (fun x hx => .inr (by simp at hx; omega))), HT.out, by omega⟩
      · rw [if_neg h4] at hst
        subst hst
        have hpk : (((peekB s q).toNat : Int) == 59) = false := by
          rw [beq_eq_false_iff_ne]; intro h; exact h4 (UInt8.toNat_inj.1 (by show _ = 59; omega))
        clear h4
        have HS := Lib.hid (fun W h => since_any b i q p s W hs' (by omega) hq h)
        have hv : textOf s i (sinceOf i (.ok q)) = textOf s i (sinceP i q) := rfl
        have HS := HS.out
        rcases hT : sinceP i q with f | e
        · rw [hT] at hv HS
          have HV := Lib.hid hv
          have HS' := Lib.hid HS
          clear hT hv HS
          go_wp2_with (first
            | (go_at_call 47; refine (HPq.out _ (by exact HRq.out)).mono ?_; rintro e w' ⟨rfl, n, rfl⟩)
            | (go_at_call 63; refine (HS'.out _ (by exact HRq.out)).mono ?_; intro e w' hw; obtain ⟨fb, rfl, hE, hK⟩ := Gave.err hw; clear hw))
          go_ret2
          have hKq := HKq.out
          rw [HV.out]
          exact Gave.mkErr hE (by (repeat first | exact Keep.refl _ _ | refine Keep.drewN ?_ _ | refine Keep.drew ?_ | refine Keep.setCell ?_ _ _ (.inl (by simp)) | refine Keep.alloc ?_ _ | refine Keep.trans ?_ (by assumption) | refine Keep.trans0 ?_ (by assumption) | refine Keep.transTo ?_ (by assumption) (fun x hx => .inr (by simp at hx; omega))))
        · rw [hT] at hv HS
          have HV := Lib.hid hv
          have HS' := Lib.hid HS
          clear hT hv HS
          go_wp2_with (first
            | (go_at_call 47; refine (HPq.out _ (by exact HRq.out)).mono ?_; rintro e w' ⟨rfl, n, rfl⟩)
            | (go_at_call 63; refine (HS'.out _ (by exact HRq.out)).mono ?_; intro e w' hw; obtain ⟨rfl, hR3, hK⟩ := Gave.ok hw; clear hw))
          go_ret2
          have hKq := HKq.out
          rw [HV.out]
          exact Gave.mkOk hR3 (by (repeat first | exact Keep.refl _ _ | refine Keep.drewN ?_ _ | refine Keep.drew ?_ | refine Keep.setCell ?_ _ _ (.inl (by simp)) | refine Keep.alloc ?_ _ | refine Keep.trans ?_ (by assumption) | refine Keep.trans0 ?_ (by assumption) | refine Keep.transTo ?_ (by assumption) (fun x hx => .inr (by simp at hx; omega))))
end Go.Proofs.YtjmpcoedfoaebaaGreatDoor
