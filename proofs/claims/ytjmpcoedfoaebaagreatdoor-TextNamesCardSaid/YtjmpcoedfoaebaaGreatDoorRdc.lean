/- The program's reader: number, word, since, desc. -/
import Derived.Test.YtjmpcoedfoaebaaGreatDoorRdb
open Go Go.RowKit
namespace Go.Proofs.YtjmpcoedfoaebaaGreatDoor

set_option maxHeartbeats 1000000 in
theorem number_any (b i p : Nat) (s : ByteArray) (w : World) (hs : s.size ≤ maxLen) (hi : i ≤ s.size) (hR : Rd w b s i p) :
    Calls Tryz.prog 91 #[.pointer (some ⟨b, 0, none⟩)] w (Went b s p w (numP s i)) := by
  have HR := Lib.hid hR
  clear hR
  have hpk := fun w h => peek_any b i p s w h
  have HP := Lib.hid hpk
  clear hpk
  cases hd : digB (peekB s i)
  · have hv : numP s i = .error (stuckF s i) := by unfold numP; rw [hd]; rfl
    rw [hv]
    clear hv
    have hg := dig_any (peekB s i)
    rw [hd] at hg
    have HG := Lib.hid hg
    clear hg hd
    go_enter Tryz.func91, Tryz.ntmps91
    go_wp2_with (first
      | (go_at_call 47; refine (HP.out _ (by exact HR.out)).mono ?_; rintro e w' ⟨rfl, n, rfl⟩)
      | (go_at_call 92; refine (HG.out _).mono ?_; rintro e w' ⟨rfl, rfl⟩)
      | (go_at_call 29; refine (stuck_any b i p s _ hs (by exact HR.out)).mono ?_; rintro e w' ⟨v, rfl, hE, hK⟩))
    go_ret
    exact Went.mkErr hE (((Keep.refl _ _).drewN _).trans0 hK)
  · have hg := dig_any (peekB s i)
    rw [hd] at hg
    have HG := Lib.hid hg
    clear hg
    have hlt : i < s.size := peekB_lt (fun e => by rw [e] at hd; simp [digB] at hd)
    by_cases hz : peekB s i = 48
    · have hv : numP s i = .ok (i + 1) := by unfold numP; rw [hd, if_pos rfl, if_pos hz]
      rw [hv]
      have hq : ((peekB s i).toNat : Int) = 48 := by rw [hz]; rfl
      have hq' : (((peekB s i).toNat : Int) == 48) = true := by rw [hq]; rfl
      clear hv hz hd hq
      have h1 := HR.out.c1
      have h2 := HR.out.free 1
      unfold maxLen at hs
      go_enter Tryz.func91, Tryz.ntmps91
      go_wp2_with (first
        | (go_at_call 47; refine (HP.out _ (by exact HR.out)).mono ?_; rintro e w' ⟨rfl, n, rfl⟩)
        | (go_at_call 92; refine (HG.out _).mono ?_; rintro e w' ⟨rfl, rfl⟩))
      go_ret
      exact Went.mkOk ((HR.out.drewN _).setAt _) (by (repeat first | exact Keep.refl _ _ | refine Keep.drewN ?_ _ | refine Keep.drew ?_ | refine Keep.setCell ?_ _ _ (.inl (by simp)) | refine Keep.alloc ?_ _ | refine Keep.trans ?_ (by assumption) | refine Keep.trans0 ?_ (by assumption) | refine Keep.transTo ?_ (by assumption) (fun x hx => .inr (by simp at hx; omega))))
    · have hv : numP s i = .ok (runP s digB i) := by unfold numP; rw [hd, if_pos rfl, if_neg hz]
      rw [hv]
      have hq' : (((peekB s i).toNat : Int) == 48) = false := by
        rw [beq_eq_false_iff_ne]; intro h; exact hz (UInt8.toNat_inj.1 (by show _ = 48; omega))
      clear hv hz hd
      go_enter Tryz.func91, Tryz.ntmps91
      go_wp2_with (first
        | (go_at_call 47; refine (HP.out _ (by exact HR.out)).mono ?_; rintro e w' ⟨rfl, n, rfl⟩)
        | (go_at_call 92; refine (HG.out _).mono ?_; rintro e w' ⟨rfl, rfl⟩)
        | (go_at_call 61; refine (run_dig b i p s _ hs hi (by exact HR.out)).mono ?_; rintro e w' ⟨rfl, hR', hK⟩))
      go_ret
      exact Went.mkOk hR' (by (repeat first | exact Keep.refl _ _ | refine Keep.drewN ?_ _ | refine Keep.drew ?_ | refine Keep.setCell ?_ _ _ (.inl (by simp)) | refine Keep.alloc ?_ _ | refine Keep.trans ?_ (by assumption) | refine Keep.trans0 ?_ (by assumption) | refine Keep.transTo ?_ (by assumption) (fun x hx => .inr (by simp at hx; omega))))

/-- One round of a word's dots. -/
def DotRel (b : Nat) (s : ByteArray) (p : Nat) (w : World) (R : Except (Int × Nat) Nat) (k : Nat) (first : Value) (wr : World) : Prop :=
  ∃ j, j ≤ s.size ∧ s.size < j + k ∧ Rd wr b s j p ∧ Keep [b] w wr ∧ ((first = .bool true ∧ dotsP k s j = R) ∨ (first = .bool false ∧ nextP k s j = R))

set_option maxHeartbeats 2000000 in
theorem word_any (b i p : Nat) (s : ByteArray) (w : World) (hs : s.size ≤ maxLen) (hi : i ≤ s.size) (hR : Rd w b s i p) :
    Calls Tryz.prog 60 #[.pointer (some ⟨b, 0, none⟩)] w (Went b s p w (wordP s i)) := by
  have HR := Lib.hid hR
  clear hR
  have hpk := fun w h => peek_any b i p s w h
  have HP := Lib.hid hpk
  clear hpk
  have HL := Lib.hid (let_any (peekB s i))
  cases hd : letB (peekB s i)
  · rw [hd] at HL
    have hv : wordP s i = match numP s i with | .error f => .error f | .ok j => dotsP (s.size + 1) s j := by unfold wordP; rw [hd]; rfl
    rw [hv]
    clear hv hd
    have HN := Lib.hid (fun W h => number_any b i p s W hs hi h)
    cases hn : numP s i with
    | error f =>
      rw [hn] at HN
      clear hn
      dsimp only
      go_enter Tryz.func60, Tryz.ntmps60
      go_wp2_with (first
        | (go_at_call 47; refine (HP.out _ (by exact HR.out)).mono ?_; rintro e w' ⟨rfl, n, rfl⟩)
        | (go_at_call 90; refine (HL.out _).mono ?_; rintro e w' ⟨rfl, rfl⟩)
        | (go_at_call 91; refine (HN.out _ (by exact HR.out)).mono ?_; intro e w' hw; obtain ⟨fb, rfl, hE, hK⟩ := Went.err hw; clear hw))
      go_ret
      exact Went.mkErr hE (by (repeat first | exact Keep.refl _ _ | refine Keep.drewN ?_ _ | refine Keep.drew ?_ | refine Keep.setCell ?_ _ _ (.inl (by simp)) | refine Keep.alloc ?_ _ | refine Keep.trans ?_ (by assumption) | refine Keep.trans0 ?_ (by assumption) | refine Keep.transTo ?_ (by assumption) (fun x hx => .inr (by simp at hx; omega))))
    | ok j =>
      have hj := (numP_ok hn).2
      rw [hn] at HN
      clear hn
      dsimp only
      generalize hT : dotsP (s.size + 1) s j = R
      have HT := Lib.hid hT
      clear hT
      go_enter Tryz.func60, Tryz.ntmps60
      go_wp2_with (first
        | (go_at_call 47; refine (HP.out _ (by exact HR.out)).mono ?_; rintro e w' ⟨rfl, n, rfl⟩)
        | (go_at_call 90; refine (HL.out _).mono ?_; rintro e w' ⟨rfl, rfl⟩)
        | (go_at_call 91; refine (HN.out _ (by exact HR.out)).mono ?_; intro e w' hw; obtain ⟨rfl, hR', hK⟩ := Went.ok hw; clear hw))
      have HR' := Lib.hid hR'
      clear hR'
      go_loopg [4] (s.size + 1) (fun k first wr => DotRel b s p w R k first wr)
      case atStart => exact ⟨j, hj, by omega, HR'.out, by (repeat first | exact Keep.refl _ _ | refine Keep.drewN ?_ _ | refine Keep.drew ?_ | refine Keep.setCell ?_ _ _ (.inl (by simp)) | refine Keep.alloc ?_ _ | refine Keep.trans ?_ (by assumption) | refine Keep.trans0 ?_ (by assumption) | refine Keep.transTo ?_ (by assumption) (fun x hx => .inr (by simp at hx; omega))), .inl ⟨rfl, HT.out⟩⟩
      case round =>
        obtain ⟨q, hq, hk, hRq, hKq, hst⟩ := hrel
        have HRq := Lib.hid hRq
        have HKq := Lib.hid hKq
        clear hRq hKq HR' hK
        have hpq := fun w h => peek_any b q p s w h
        have HPq := Lib.hid hpq
        clear hpq
        have hor : (dotsP gk s q = R ∧ (u4 = .bool true ∨ (u4 = .bool false ∧ peekB s q = 46))) ∨ (u4 = .bool false ∧ peekB s q ≠ 46 ∧ R = .ok q) := by
          rcases hst with ⟨rfl, h⟩ | ⟨rfl, h⟩
          · exact .inl ⟨h, .inl rfl⟩
          · by_cases h4 : peekB s q = 46
            · exact .inl ⟨by rw [← h]; unfold nextP; rw [if_pos h4], .inr ⟨rfl, h4⟩⟩
            · exact .inr ⟨rfl, h4, by rw [← h]; unfold nextP; rw [if_neg h4]⟩
        clear hst
        rcases hor with ⟨h, hu⟩ | ⟨rfl, h4, rfl⟩
        · obtain ⟨k', rfl⟩ : ∃ k', gk = k' + 1 := ⟨gk - 1, by omega⟩
          rw [dotsP_succ] at h
          have hu' : (u4 = .bool true) ∨ (u4 = .bool false ∧ (((peekB s q).toNat : Int) == 46) = true) := hu.imp id fun h => ⟨h.1, by rw [h.2]; rfl⟩
          clear hu
          cases ht : takeP s q 46 with
          | error f =>
            rw [ht] at h
            subst h
            have HTk := Lib.hid (fun W h => take_any b q p 46 s W hs h)
            rw [ht] at HTk
            clear ht
            rcases hu' with rfl | ⟨rfl, hpk⟩
            all_goals
              go_wp2_with (first
                | (go_at_call 47; refine (HPq.out _ (by exact HRq.out)).mono ?_; rintro e w' ⟨rfl, n, rfl⟩)
                | (go_at_call 46; refine (HTk.out _ (by exact HRq.out)).mono ?_; intro e w' hw; obtain ⟨fb, rfl, hE, hK⟩ := Went.err hw; clear hw))
              go_ret
              have hKq := HKq.out
              exact Went.mkErr hE (by (repeat first | exact Keep.refl _ _ | refine Keep.drewN ?_ _ | refine Keep.drew ?_ | refine Keep.setCell ?_ _ _ (.inl (by simp)) | refine Keep.alloc ?_ _ | refine Keep.trans ?_ (by assumption) | refine Keep.trans0 ?_ (by assumption) | refine Keep.transTo ?_ (by assumption) (fun x hx => .inr (by simp at hx; omega))))
          | ok q1 =>
            rw [ht] at h
            dsimp only at h
            obtain ⟨rfl, hlt⟩ := takeP_ok ht
            have HTk := Lib.hid (fun W h => take_any b q p 46 s W hs h)
            rw [ht] at HTk
            clear ht
            have HN2 := Lib.hid (fun W h => number_any b (q + 1) p s W hs hlt h)
            cases hn : numP s (q + 1) with
            | error f =>
              rw [hn] at h HN2
              subst h
              clear hn
              rcases hu' with rfl | ⟨rfl, hpk⟩
              all_goals
                go_wp2_with (first
                  | (go_at_call 47; refine (HPq.out _ (by exact HRq.out)).mono ?_; rintro e w' ⟨rfl, n, rfl⟩)
                  | (go_at_call 46; refine (HTk.out _ (by exact HRq.out)).mono ?_; intro e w' hw; obtain ⟨rfl, hR1, hK1⟩ := Went.ok hw; clear hw)
                  | (go_at_call 91; refine (HN2.out _ (by assumption)).mono ?_; intro e w' hw; obtain ⟨fb, rfl, hE, hK⟩ := Went.err hw; clear hw))
                go_ret
                have hKq := HKq.out
                exact Went.mkErr hE (by (repeat first | exact Keep.refl _ _ | refine Keep.drewN ?_ _ | refine Keep.drew ?_ | refine Keep.setCell ?_ _ _ (.inl (by simp)) | refine Keep.alloc ?_ _ | refine Keep.trans ?_ (by assumption) | refine Keep.trans0 ?_ (by assumption) | refine Keep.transTo ?_ (by assumption) (fun x hx => .inr (by simp at hx; omega))))
            | ok q2 =>
              have hq2 := numP_ok hn
              rw [hn] at h HN2
              have H := Lib.hid h
              clear hn h
              rcases hu' with rfl | ⟨rfl, hpk⟩
              all_goals
                go_wp2_with (first
                  | (go_at_call 47; refine (HPq.out _ (by exact HRq.out)).mono ?_; rintro e w' ⟨rfl, n, rfl⟩)
                  | (go_at_call 46; refine (HTk.out _ (by exact HRq.out)).mono ?_; intro e w' hw; obtain ⟨rfl, hR1, hK1⟩ := Went.ok hw; clear hw)
                  | (go_at_call 91; refine (HN2.out _ (by assumption)).mono ?_; intro e w' hw; obtain ⟨rfl, hR2, hK2⟩ := Went.ok hw; clear hw))
                go_roundg k'
                case measure => omega
                case rel =>
                  have hKq := HKq.out
                  exact ⟨q2, hq2.2, by omega, hR2, by (repeat first | exact Keep.refl _ _ | refine Keep.drewN ?_ _ | refine Keep.drew ?_ | refine Keep.setCell ?_ _ _ (.inl (by simp)) | refine Keep.alloc ?_ _ | refine Keep.trans ?_ (by assumption) | refine Keep.trans0 ?_ (by assumption) | refine Keep.transTo ?_ (by assumption) (fun x hx => .inr (by simp at hx; omega))), .inr ⟨rfl, H.out⟩⟩
        · have hpk : (((peekB s q).toNat : Int) == 46) = false := by
            rw [beq_eq_false_iff_ne]; intro h; exact h4 (UInt8.toNat_inj.1 (by show _ = 46; omega))
          clear h4
          go_wp2_with (first
            | (go_at_call 47; refine (HPq.out _ (by exact HRq.out)).mono ?_; rintro e w' ⟨rfl, n, rfl⟩))
          go_ret
          have hKq := HKq.out
          exact Went.mkOk (HRq.out.drewN _) (by (repeat first | exact Keep.refl _ _ | refine Keep.drewN ?_ _ | refine Keep.drew ?_ | refine Keep.setCell ?_ _ _ (.inl (by simp)) | refine Keep.alloc ?_ _ | refine Keep.trans ?_ (by assumption) | refine Keep.trans0 ?_ (by assumption) | refine Keep.transTo ?_ (by assumption) (fun x hx => .inr (by simp at hx; omega))))
  · have hv : wordP s i = .ok (runP s innB i) := by unfold wordP; rw [if_pos hd]
    rw [hv]
    rw [hd] at HL
    clear hv hd
    go_enter Tryz.func60, Tryz.ntmps60
    go_wp2_with (first
      | (go_at_call 47; refine (HP.out _ (by exact HR.out)).mono ?_; rintro e w' ⟨rfl, n, rfl⟩)
      | (go_at_call 90; refine (HL.out _).mono ?_; rintro e w' ⟨rfl, rfl⟩)
      | (go_at_call 61; refine (run_inn b i p s _ hs hi (by exact HR.out)).mono ?_; rintro e w' ⟨rfl, hR', hK⟩))
    go_ret
    exact Went.mkOk hR' (by (repeat first | exact Keep.refl _ _ | refine Keep.drewN ?_ _ | refine Keep.drew ?_ | refine Keep.setCell ?_ _ _ (.inl (by simp)) | refine Keep.alloc ?_ _ | refine Keep.trans ?_ (by assumption) | refine Keep.trans0 ?_ (by assumption) | refine Keep.transTo ?_ (by assumption) (fun x hx => .inr (by simp at hx; omega))))
end Go.Proofs.YtjmpcoedfoaebaaGreatDoor
