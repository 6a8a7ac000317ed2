/- An item, plain; the walk of compared. The program's reader: item. -/
import Derived.Test.YtjmpcoedfoaebaaGreatDoorRulx
open Go Go.RowKit
namespace Go.Proofs.YtjmpcoedfoaebaaGreatDoor

/-- The kind of an item of two signs. -/
def comparedP (c : UInt8) : Option Int := if c = 126 then some 8 else if c = 62 then some 5 else if c = 60 then some 6 else none
def cmpItm (k : Int) (d : ByteArray) : Except (Int × Nat) (ByteArray × Nat) → Except (Int × Nat) (Itm × Nat)
  | .error f => .error f
  | .ok (v, q) => .ok (⟨k, d, v, noText, [], noText, noText, false⟩, q)
/-- Two signs: the first is at i. -/
def twoP (s : ByteArray) (i : Nat) (d : ByteArray) (k : Int) : Except (Int × Nat) (Itm × Nat) :=
  match takeP s (i + 1) 61 with
  | .error f => .error f
  | .ok j => cmpItm k d (valueP false s j)
/-- Behind the description. -/
def itemD (s : ByteArray) (i : Nat) (d : ByteArray) : Except (Int × Nat) (Itm × Nat) :=
  if peekB s i = 58 then ruleP s (i + 1) d else if peekB s i = 61 then piecesP s (i + 1) d else
    match comparedP (peekB s i) with
    | some k => twoP s i d k
    | none => .error (stuckF s i)
/-- An item. -/
def itemP (s : ByteArray) (i : Nat) : Except (Int × Nat) (Itm × Nat) :=
  if peekB s i = 58 then itemD s i noText else
    match descP s i with
    | .error f => .error f
    | .ok j => itemD s j (s.extract i j)
theorem FB.mono {w : World} {N M fb : Nat} {it : Itm} (h : FB w N fb it) (hm : M ≤ N) : FB w M fb it := by
  obtain ⟨mv, h1, h2⟩ := h
  refine ⟨mv, h1, h2.1, ?_⟩
  rcases h2.2 with hn | ⟨g, cap, cur, e, hb, rest⟩
  · exact .inl hn
  · exact .inr ⟨g, cap, cur, e, by omega, rest⟩

set_option maxRecDepth 100000 in
theorem compared_any (c : UInt8) (w : World) :
    Calls Tryz.prog 73 #[.int .u8 c.toNat] w fun e w' => e = .returned (.tuple #[.int .i8 ((comparedP c).getD 0), .bool (comparedP c).isSome]) ∧ w' = w := by
  have hn : ∀ k : UInt8, c ≠ k → ((c.toNat : Int) == k.toNat) = false := fun k h => by
    rw [beq_eq_false_iff_ne]; intro e; exact h (UInt8.toNat_inj.1 (by omega))
  by_cases h1 : c = 126
  · subst h1
    clear hn
    go_enter Tryz.func73, Tryz.ntmps73
    go_wp2_with fail
    go_ret2
    exact ⟨rfl, rfl⟩
  · have b1 : ((c.toNat : Int) == 126) = false := hn 126 h1
    by_cases h2 : c = 62
    · subst h2
      clear hn h1 b1
      go_enter Tryz.func73, Tryz.ntmps73
      go_wp2_with fail
      go_ret2
      exact ⟨rfl, rfl⟩
    · have b2 : ((c.toNat : Int) == 62) = false := hn 62 h2
      by_cases h3 : c = 60
      · subst h3
        clear hn h1 h2 b1 b2
        go_enter Tryz.func73, Tryz.ntmps73
        go_wp2_with fail
        go_ret2
        exact ⟨rfl, rfl⟩
      · have b3 : ((c.toNat : Int) == 60) = false := hn 60 h3
        have hc : comparedP c = none := by unfold comparedP; rw [if_neg h1, if_neg h2, if_neg h3]
        have HC := Lib.hid hc
        clear hn h1 h2 h3 hc
        go_enter Tryz.func73, Tryz.ntmps73
        go_wp2_with fail
        go_ret2
        exact ⟨by rw [HC.out]; rfl, rfl⟩
end Go.Proofs.YtjmpcoedfoaebaaGreatDoor

open Go Go.RowKit
namespace Go.Proofs.YtjmpcoedfoaebaaGreatDoor

theorem Filled.up {N M b fb p : Nat} {s : ByteArray} {w W w' : World} {r : Except (Int × Nat) (Itm × Nat)} {e : Ending} (h : Filled N b fb s p W r e w') (hm : M ≤ N) (k : Keep [b, fb] w W) : Filled M b fb s p w r e w' := by
  cases r with
  | error f => obtain ⟨v, h1, h2, h3, h4⟩ := h; exact ⟨v, h1, h2, k.trans h3, h4⟩
  | ok t => obtain ⟨h1, h2, h3, h4⟩ := h; exact ⟨h1, h2, h3.mono hm, k.trans h4⟩
theorem Filled.ret {N b fb p : Nat} {s : ByteArray} {W w' : World} {r : Except (Int × Nat) (Itm × Nat)} {e : Ending} (h : Filled N b fb s p W r e w') : ∃ v, e = .returned v := by
  cases r with
  | error f => obtain ⟨v, h1, _⟩ := h; exact ⟨v, h1⟩
  | ok t => exact ⟨_, h.1⟩

set_option maxHeartbeats 4000000 in
set_option maxRecDepth 1000000 in
theorem item_any (B b fb i p : Nat) (s : ByteArray) (w : World) (hs : s.size ≤ 1048576) (hi : i ≤ s.size) (hbf : b ≠ fb) (hR : Rd w b s i p) (hE : Env B w) (hBb : B ≤ b) (hBf : B ≤ fb)
    (hF : w.heap[fb]? = some (.cells #[.int .i8 0, .slice none 0 0, .string ⟨#[]⟩, .string ⟨#[]⟩, .string ⟨#[]⟩, .slice none 0 0, .string ⟨#[]⟩, .string ⟨#[]⟩, .bool false] 26 (0, 0))) :
    Calls Tryz.prog 50 #[.pointer (some ⟨b, 0, none⟩), .pointer (some ⟨fb, 0, none⟩)] w (Filled w.heap.size b fb s p w (itemP s i)) := by
  have hblt := hR.lt
  have hflt := lt_of_block hF
  have HE := Lib.hid hE
  have HR := Lib.hid hR
  have HF := Lib.hid hF
  have hsm : s.size ≤ maxLen := by unfold maxLen; omega
  clear hR hE hF
  have hnf : fb ∉ [b] := by simp; omega
  have HPA : ∀ j W, Rd W b s j p → Calls Tryz.prog 47 #[.pointer (some ⟨b, 0, none⟩)] W fun e w' => e = .returned (.int .u8 (peekB s j).toNat) ∧ ∃ n, w' = W.drewN n := fun j W h => peek_any b j p s W h
  have HP := Lib.hid HPA
  clear HPA
  go_enter Tryz.func50, Tryz.ntmps50
  go_upto_if 10 with (go_at_call 47; refine (HP.out i _ (by exact HR.out)).mono ?_; rintro ev w' ⟨rfl, n, rfl⟩)
  go_cut [4] (fun s4 wx => s4 = .nilIface ∧ ∃ d j, j ≤ s.size ∧ d.size ≤ 65536 ∧ Hid (itemP s i = itemD s j d) ∧ Hid (Rd wx b s j p) ∧ Hid (Keep [b, fb] w wx) ∧ Hid (wx.heap[fb]? = some (.cells #[.int .i8 0, .slice none 0 0, .string d, .string ⟨#[]⟩, .string ⟨#[]⟩, .slice none 0 0, .string ⟨#[]⟩, .string ⟨#[]⟩, .bool false] 26 (0, 0))))
  case first =>
    cases h58 : decide (peekB s i = 58) with
    | true =>
      have hpk : (((peekB s i).toNat : Int) != 58) = false := by rw [of_decide_eq_true h58]; rfl
      have HX : Hid (itemP s i = itemD s i noText) := Lib.hid (by unfold itemP; rw [if_pos (of_decide_eq_true h58)])
      clear h58
      go_wp2_with fail
      go_meet
      exact ⟨rfl, noText, i, hi, Nat.zero_le _, HX, Lib.hid HR.out, Lib.hid ((Keep.refl [b, fb] w).drewN _), Lib.hid HF.out⟩
    | false =>
      have hpk : (((peekB s i).toNat : Int) != 58) = true := by
        rw [bne_iff_ne]; intro h; exact of_decide_eq_false h58 (UInt8.toNat_inj.1 (by show _ = 58; omega))
      have HN : Hid (¬ peekB s i = 58) := Lib.hid (of_decide_eq_false h58)
      clear h58
      have HFn : Hid ((w.drewN n).heap[fb]? = some (.cells #[.int .i8 0, .slice none 0 0, .string ⟨#[]⟩, .string ⟨#[]⟩, .string ⟨#[]⟩, .slice none 0 0, .string ⟨#[]⟩, .string ⟨#[]⟩, .bool false] 26 (0, 0))) := Lib.hid HF.out
      have hD := desc_any b i p s (w.drewN n) hsm hi HR.out
      cases hd : descP s i with
      | error f =>
        rw [hd] at hD
        have HX : Hid (itemP s i = .error f) := Lib.hid (by unfold itemP; rw [if_neg HN.out, hd])
        have HD := Lib.hid hD
        clear hD hd
        go_wp2_with (go_at_call 36; refine HD.out.mono ?_; intro ev w2 hw; obtain ⟨qe, rfl, hEr, hK⟩ := Gave.err hw; clear hw; obtain ⟨x0, x1, x2, x3, x4, x5, x6, x7, x8, xf⟩ := nine (hK.heap HFn.out hnf); have HE3 := Lib.hid hEr; have HK3 := Lib.hid hK; clear hEr hK)
        go_ret
        rw [HX.out]
        refine Filled.mkErr ?_ ((((Keep.refl [b, fb] w).drewN n).trans (HK3.out.mono (S' := [b, fb]) (by simp))).setCell _ _ (.inl (by simp))) (Shp.mk (setCell_at (HK3.out.heap HFn.out hnf) 2 (.string ⟨#[]⟩)))
        obtain ⟨q', hq', hq2⟩ := HE3.out
        cases hq'
        refine ⟨qe, rfl, (setCell_ne _ ?_).trans hq2⟩
        rintro rfl
        have h := HK3.out.heap HFn.out hnf
        rw [hq2] at h
        cases h
      | ok j =>
        rw [hd] at hD
        have hle := descP_ok hd
        have hds : j - i ≤ 65536 := by
          unfold descP at hd
          cases h1 : wordP s i with
          | error f => rw [h1] at hd; cases hd
          | ok j1 =>
            rw [h1] at hd
            dsimp only at hd
            cases h2 : optsP (s.size + 1) s j1 with
            | error f => rw [h2] at hd; cases hd
            | ok k =>
              rw [h2] at hd
              dsimp only [sinceOf, sinceP] at hd
              split at hd <;> cases hd
              omega
        have hxs : (s.extract i j).size ≤ 65536 := by rw [ByteArray.size_extract]; omega
        have HX : Hid (itemP s i = itemD s j (s.extract i j)) := Lib.hid (by unfold itemP; rw [if_neg HN.out, hd])
        have HD := Lib.hid hD
        clear hD hd
        go_wp2_with (go_at_call 36; refine HD.out.mono ?_; intro ev w2 hw; obtain ⟨rfl, hR2, hK⟩ := Gave.ok hw; clear hw; obtain ⟨x0, x1, x2, x3, x4, x5, x6, x7, x8, xf⟩ := nine (hK.heap HFn.out hnf); have HR3 := Lib.hid hR2; have HK3 := Lib.hid hK; clear hR2 hK)
        go_meet
        exact ⟨rfl, _, j, hle.2, hxs, HX, Lib.hid ((setCell_ne _ hbf).trans HR3.out), Lib.hid ((((Keep.refl [b, fb] w).drewN n).trans (HK3.out.mono (S' := [b, fb]) (by simp))).setCell _ _ (.inl (by simp))), Lib.hid (setCell_at (HK3.out.heap HFn.out hnf) 2 _)⟩
  case rest =>
    obtain ⟨rfl, d, j, hj, hds, HX, HR2, HK2, HB2⟩ := hcut
    have hCM := fun W => compared_any (peekB s j) W
    have HCM := Lib.hid hCM
    clear hCM HF HR
    have hqi : j < s.size → IntKind.i64.wrap ((j : Int) + 1) = (j : Int) + 1 := fun h => by
      have := wrap_small (j + 1) (by omega) (by omega)
      push_cast at this ⊢
      exact this
    have HRn : Hid (∀ n1, Rd ((wc.drewN n1).setCell ⟨b, 1, none⟩ (.int .i64 ((j : Int) + 1))) b s (j + 1) p) := Lib.hid fun n1 => setCell_at (w := wc.drewN n1) HR2.out 1 _
    have HKn : Hid (∀ n1, Keep [b, fb] w ((wc.drewN n1).setCell ⟨b, 1, none⟩ (.int .i64 ((j : Int) + 1)))) := Lib.hid fun n1 => (HK2.out.drewN n1).setCell _ _ (.inl (by simp))
    have HEn : Hid (∀ n1, Env B ((wc.drewN n1).setCell ⟨b, 1, none⟩ (.int .i64 ((j : Int) + 1)))) := Lib.hid fun n1 => HE.out.keep (HKn.out n1) (by simp; omega)
    have HBn : Hid (∀ n1, ((wc.drewN n1).setCell ⟨b, 1, none⟩ (.int .i64 ((j : Int) + 1))).heap[fb]? = some (.cells #[.int .i8 0, .slice none 0 0, .string d, .string ⟨#[]⟩, .string ⟨#[]⟩, .slice none 0 0, .string ⟨#[]⟩, .string ⟨#[]⟩, .bool false] 26 (0, 0))) :=
      Lib.hid fun n1 => (setCell_ne _ (Ne.symm hbf)).trans HB2.out
    have r1 := HR2.out.c1
    have rf := HR2.out.free 1
    by_cases h58 : peekB s j = 58
    · have hjs : j < s.size := peekB_lt (by rw [h58]; decide)
      have hq := hqi hjs
      have HX2 : Hid (itemP s i = ruleP s (j + 1) d) := Lib.hid (by rw [HX.out]; unfold itemD; rw [if_pos h58])
      have hpk : (((peekB s j).toNat : Int) == 58) = true := by rw [h58]; rfl
      clear hqi HX h58
      go_wp2_with (first
        | (go_at_call 47; refine (HP.out j _ (by exact HR2.out)).mono ?_; rintro ev w' ⟨rfl, n1, rfl⟩)
        | (go_at_call 73; refine (HCM.out _).mono ?_; rintro ev w' ⟨rfl, rfl⟩)
        | (go_at_call 74; refine (rule_any B b fb (j + 1) p s d _ hs (by omega) hds hbf (HRn.out _) (HEn.out _) hBb hBf (HBn.out _)).mono ?_; intro ev w3 hw; obtain ⟨v, rfl⟩ := hw.ret; have HW := Lib.hid hw; clear hw))
      go_ret
      rw [HX2.out]
      exact HW.out.up (HKn.out _).size (HKn.out _)
    · have hpk : (((peekB s j).toNat : Int) == 58) = false := by
        rw [beq_eq_false_iff_ne]; intro h; exact h58 (UInt8.toNat_inj.1 (by show _ = 58; omega))
      by_cases h61 : peekB s j = 61
      · have hjs : j < s.size := peekB_lt (by rw [h61]; decide)
        have hq := hqi hjs
        have HX2 : Hid (itemP s i = piecesP s (j + 1) d) := Lib.hid (by rw [HX.out]; unfold itemD; rw [if_neg h58, if_pos h61])
        have hpk2 : (((peekB s j).toNat : Int) == 61) = true := by rw [h61]; rfl
        clear hqi HX h58 h61
        go_wp2_with (first
          | (go_at_call 47; refine (HP.out j _ (by exact HR2.out)).mono ?_; rintro ev w' ⟨rfl, n1, rfl⟩)
          | (go_at_call 73; refine (HCM.out _).mono ?_; rintro ev w' ⟨rfl, rfl⟩)
          | (go_at_call 75; refine (pieces_any B b fb (j + 1) p s d _ hs (by omega) hbf (HRn.out _) (HEn.out _) hBb hBf (HBn.out _)).mono ?_; intro ev w3 hw; obtain ⟨v, rfl⟩ := hw.ret; have HW := Lib.hid hw; clear hw))
        go_ret
        rw [HX2.out]
        exact HW.out.up (HKn.out _).size (HKn.out _)
      · have hpk2 : (((peekB s j).toNat : Int) == 61) = false := by
          rw [beq_eq_false_iff_ne]; intro h; exact h61 (UInt8.toNat_inj.1 (by show _ = 61; omega))
        cases hc : comparedP (peekB s j) with
        | none =>
          have hCM := HCM.out
          rw [hc] at hCM
          have HCM' := Lib.hid hCM
          have HX2 : Hid (itemP s i = .error (stuckF s j)) := Lib.hid (by rw [HX.out]; unfold itemD; rw [if_neg h58, if_neg h61, hc])
          clear hqi HX h58 h61 hc hCM HCM
          go_wp2_with (first
            | (go_at_call 47; refine (HP.out j _ (by exact HR2.out)).mono ?_; rintro ev w' ⟨rfl, n1, rfl⟩)
            | (go_at_call 73; refine (HCM'.out _).mono ?_; rintro ev w' ⟨rfl, rfl⟩)
            | (go_at_call 29; refine (stuck_any b j p s _ hsm (by exact HR2.out)).mono ?_; rintro ev w3 ⟨v, rfl, hE3, hK3⟩))
          go_ret
          rw [HX2.out]
          exact Filled.mkErr hE3 ((HK2.out.drewN _).trans0 hK3) (Shp.mk (hK3.heap HB2.out (by simp)))
        | some k =>
          have hjs : j < s.size := by
            rcases Nat.lt_or_ge j s.size with h | h
            · exact h
            · rw [peekB_out h] at hc; cases hc
          have hq := hqi hjs
          have hCM := HCM.out
          rw [hc] at hCM
          have HCM' := Lib.hid hCM
          have HX2 : Hid (itemP s i = twoP s j d k) := Lib.hid (by rw [HX.out]; unfold itemD; rw [if_neg h58, if_neg h61, hc])
          have HRm : Hid (∀ n1, Rd (((wc.drewN n1).setCell ⟨b, 1, none⟩ (.int .i64 ((j : Int) + 1))).setCell ⟨fb, 0, none⟩ (.int .i8 k)) b s (j + 1) p) := Lib.hid fun n1 => (setCell_ne _ hbf).trans (HRn.out n1)
          have HKm : Hid (∀ n1, Keep [b, fb] w (((wc.drewN n1).setCell ⟨b, 1, none⟩ (.int .i64 ((j : Int) + 1))).setCell ⟨fb, 0, none⟩ (.int .i8 k))) := Lib.hid fun n1 => (HKn.out n1).setCell _ _ (.inl (by simp))
          have HBm : Hid (∀ n1, (((wc.drewN n1).setCell ⟨b, 1, none⟩ (.int .i64 ((j : Int) + 1))).setCell ⟨fb, 0, none⟩ (.int .i8 k)).heap[fb]? = some (.cells #[.int .i8 k, .slice none 0 0, .string d, .string ⟨#[]⟩, .string ⟨#[]⟩, .slice none 0 0, .string ⟨#[]⟩, .string ⟨#[]⟩, .bool false] 26 (0, 0))) := Lib.hid fun n1 => setCell_at (HBn.out n1) 0 _
          have HT := Lib.hid (fun W h => take_any b (j + 1) p 61 s W hsm h)
          clear hqi HX h58 h61 hc hCM HCM
          cases ht : takeP s (j + 1) 61 with
          | error f =>
            have hT := HT.out
            rw [ht] at hT
            have HT' := Lib.hid hT
            have HX3 : Hid (twoP s j d k = .error f) := Lib.hid (by unfold twoP; rw [ht])
            clear hT HT ht
            go_wp2_with (first
            | (go_at_call 47; refine (HP.out j _ (by exact HR2.out)).mono ?_; rintro ev w' ⟨rfl, n1, rfl⟩; obtain ⟨y0, y1, y2, y3, y4, y5, y6, y7, y8, yf⟩ := nine (HBn.out n1))
            | (go_at_call 73; refine (HCM'.out _).mono ?_; rintro ev w' ⟨rfl, rfl⟩)
            | (go_at_call 46; refine (HT'.out _ (by exact HRm.out _)).mono ?_; intro ev w5 hw; obtain ⟨qe, rfl, hE5, hK5⟩ := Went.err hw; clear hw))
            go_ret
            rw [HX2.out, HX3.out]
            exact Filled.mkErr hE5 ((HKm.out _).trans (hK5.mono (S' := [b, fb]) (by simp))) (Shp.mk (hK5.heap (HBm.out _) hnf))
          | ok q =>
            have hT := HT.out
            have hqs := takeP_ok ht
            rw [ht] at hT
            have HT' := Lib.hid hT
            have HX3 : Hid (twoP s j d k = cmpItm k d (valueP false s q)) := Lib.hid (by unfold twoP; rw [ht])
            have HVA := Lib.hid (fun (W : World) (h2 : Rd W b s q p) (h3 : Env B W) => value_any B b q p false s W hs (by omega) h2 h3)
            clear hT HT ht
            cases hv : valueP false s q with
            | error f =>
              have hVQ := HVA.out
              rw [hv] at hVQ
              have HVQ := Lib.hid hVQ
              have HX4 : Hid (cmpItm k d (valueP false s q) = .error f) := Lib.hid (by rw [hv]; rfl)
              clear hv hVQ HVA hqs
              go_wp2_with (first
              | (go_at_call 47; refine (HP.out j _ (by exact HR2.out)).mono ?_; rintro ev w' ⟨rfl, n1, rfl⟩; obtain ⟨y0, y1, y2, y3, y4, y5, y6, y7, y8, yf⟩ := nine (HBn.out n1))
              | (go_at_call 73; refine (HCM'.out _).mono ?_; rintro ev w' ⟨rfl, rfl⟩)
              | (go_at_call 46; refine (HT'.out _ (by exact HRm.out _)).mono ?_; intro ev w5 hw; obtain ⟨rfl, hR5, hK5⟩ := Went.ok hw; clear hw; have HR5 := Lib.hid hR5; have HK5 := Lib.hid ((HKm.out _).trans (hK5.mono (S' := [b, fb]) (by simp))); have HB5 := Lib.hid (hK5.heap (HBm.out _) hnf); clear hR5 hK5)
                | (go_at_call 76; refine (HVQ.out _ HR5.out (HE.out.keep HK5.out (by simp; omega))).mono ?_; intro ev w2 hw; obtain ⟨qe, rfl, hEr, hK⟩ := Gave.err hw; clear hw; obtain ⟨x0, x1, x2, x3, x4, x5, x6, x7, x8, xf⟩ := nine (hK.heap HB5.out hnf); have HE3 := Lib.hid hEr; have HK3 := Lib.hid hK; clear hEr hK))
              go_ret
              rw [HX2.out, HX3.out, HX4.out]
              refine Filled.mkErr ?_ ((HK5.out.trans (HK3.out.mono (S' := [b, fb]) (by simp))).setCell _ _ (.inl (by simp))) (Shp.mk (setCell_at (HK3.out.heap HB5.out hnf) 3 (.string ⟨#[]⟩)))
              obtain ⟨q', hq', hq2⟩ := HE3.out
              cases hq'
              refine ⟨qe, rfl, (setCell_ne _ ?_).trans hq2⟩
              rintro rfl
              have h := HK3.out.heap HB5.out hnf
              rw [hq2] at h
              cases h
            | ok t =>
              obtain ⟨tv, tq⟩ := t
              have hVQ := HVA.out
              rw [hv] at hVQ
              have HVQ := Lib.hid hVQ
              have HX4 : Hid (cmpItm k d (valueP false s q) = .ok (⟨k, d, tv, noText, [], noText, noText, false⟩, tq)) := Lib.hid (by rw [hv]; rfl)
              clear hv hVQ HVA hqs
              go_wp2_with (first
              | (go_at_call 47; refine (HP.out j _ (by exact HR2.out)).mono ?_; rintro ev w' ⟨rfl, n1, rfl⟩; obtain ⟨y0, y1, y2, y3, y4, y5, y6, y7, y8, yf⟩ := nine (HBn.out n1))
              | (go_at_call 73; refine (HCM'.out _).mono ?_; rintro ev w' ⟨rfl, rfl⟩)
              | (go_at_call 46; refine (HT'.out _ (by exact HRm.out _)).mono ?_; intro ev w5 hw; obtain ⟨rfl, hR5, hK5⟩ := Went.ok hw; clear hw; have HR5 := Lib.hid hR5; have HK5 := Lib.hid ((HKm.out _).trans (hK5.mono (S' := [b, fb]) (by simp))); have HB5 := Lib.hid (hK5.heap (HBm.out _) hnf); clear hR5 hK5)
                | (go_at_call 76; refine (HVQ.out _ HR5.out (HE.out.keep HK5.out (by simp; omega))).mono ?_; intro ev w2 hw; obtain ⟨rfl, hR3, hK⟩ := Gave.ok hw; clear hw; obtain ⟨x0, x1, x2, x3, x4, x5, x6, x7, x8, xf⟩ := nine (hK.heap HB5.out hnf); have HR3 := Lib.hid hR3; have HK3 := Lib.hid hK; clear hR3 hK))
              go_ret
              rw [HX2.out, HX3.out, HX4.out]
              refine Filled.mkOk (i := tq) ?_ ⟨_, setCell_at (HK3.out.heap HB5.out hnf) 3 _, World.ownsRow_nil _ _ _ _⟩ ?_
              · exact (setCell_ne _ hbf).trans HR3.out
              · exact (HK5.out.trans (HK3.out.mono (S' := [b, fb]) (by simp))).setCell _ _ (.inl (by simp))
end Go.Proofs.YtjmpcoedfoaebaaGreatDoor
