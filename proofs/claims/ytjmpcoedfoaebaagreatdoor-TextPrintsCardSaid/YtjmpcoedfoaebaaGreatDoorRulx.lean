/- An extensible rule, plain: what it is, how far it goes. No program here. The program's reader: rule. -/
import Derived.Test.YtjmpcoedfoaebaaGreatDoorItm
import Derived.Test.YtjmpcoedfoaebaaGreatDoorPcs
import Derived.Test.YtjmpcoedfoaebaaGreatDoorShelf
open Go Go.RowKit
namespace Go.Proofs.YtjmpcoedfoaebaaGreatDoor

/-- Inner bytes of a word, dots among them. -/
def wrdB (c : UInt8) : Bool := innB c || c.toNat == 46
theorem wrdB_ascii {c : UInt8} (h : wrdB c = true) : c.toNat < 128 := by
  unfold wrdB innB digB letB at h
  simp only [Bool.or_eq_true, Bool.and_eq_true, decide_eq_true_eq, beq_iff_eq] at h
  omega
/-- Every byte from i up to j is one of these. -/
def AllW (s : ByteArray) (i j : Nat) : Prop := ∀ k, i ≤ k → k < j → wrdB (peekB s k) = true
theorem AllW.trans {s : ByteArray} {i j k : Nat} (h : AllW s i j) (g : AllW s j k) : AllW s i k := fun n h1 h2 => by
  rcases Nat.lt_or_ge n j with h3 | h3
  · exact h n h1 h3
  · exact g n h3 h2
theorem AllW.one {s : ByteArray} {i : Nat} (h : wrdB (peekB s i) = true) : AllW s i (i + 1) := fun n h1 h2 => by rw [show n = i by omega]; exact h
theorem allW_run {s : ByteArray} {f : UInt8 → Bool} (hf : ∀ c, f c = true → wrdB c = true) (h0 : f 0 = false) : ∀ (m i : Nat), s.size ≤ i + m → AllW s i (runP s f i)
  | 0, i, h => by rw [runP_end (by omega)]; intro k h1 h2; omega
  | m + 1, i, h => by
    rw [runP_peek h0]
    by_cases hc : f (peekB s i) = true
    · rw [if_pos hc]
      exact (AllW.one (hf _ hc)).trans (allW_run hf h0 m (i + 1) (by omega))
    · rw [if_neg hc]; intro k h1 h2; omega
theorem inn_wrd (c : UInt8) (h : innB c = true) : wrdB c = true := by unfold wrdB; rw [h]; rfl
theorem dig_wrd (c : UInt8) (h : digB c = true) : wrdB c = true := inn_wrd c (by unfold innB; rw [h]; rfl)
theorem numP_all {s : ByteArray} {i j : Nat} (h : numP s i = .ok j) : AllW s i j := by
  unfold numP at h
  by_cases hd : digB (peekB s i) = true
  · rw [if_pos hd] at h
    split at h <;> cases h
    · exact AllW.one (dig_wrd _ hd)
    · exact allW_run dig_wrd (by decide) s.size i (by omega)
  · rw [if_neg hd] at h; cases h
theorem takeP_peek {s : ByteArray} {i j : Nat} {c : UInt8} (h : takeP s i c = .ok j) : peekB s i = c := by
  unfold takeP at h
  split at h
  · rename_i h1; exact h1.2
  · cases h
theorem dotsP_all {s : ByteArray} : ∀ {k i j : Nat}, dotsP k s i = .ok j → AllW s i j
  | 0, _, _, h => by cases h
  | k + 1, i, j, h => by
    rw [dotsP_succ] at h
    cases h1 : takeP s i 46 with
    | error f => rw [h1] at h; cases h
    | ok i1 =>
      rw [h1] at h
      have hp := takeP_peek h1
      obtain ⟨rfl, hlt⟩ := takeP_ok h1
      dsimp only at h
      cases h2 : numP s (i + 1) with
      | error f => rw [h2] at h; cases h
      | ok i2 =>
        rw [h2] at h
        have a1 : AllW s i (i + 1) := AllW.one (by rw [hp]; decide)
        have a2 := a1.trans (numP_all h2)
        dsimp only [nextP] at h
        split at h
        · exact a2.trans (dotsP_all h)
        · cases h; exact a2
theorem wordP_all {s : ByteArray} {i j : Nat} (h : wordP s i = .ok j) : AllW s i j := by
  unfold wordP at h
  by_cases hl : letB (peekB s i) = true
  · rw [if_pos hl] at h
    cases h
    exact allW_run inn_wrd (by decide) s.size i (by omega)
  · rw [if_neg hl] at h
    cases h2 : numP s i with
    | error f => rw [h2] at h; cases h
    | ok i2 => rw [h2] at h; exact (numP_all h2).trans (dotsP_all h)
/-- A word's bytes are below 128. -/
theorem word_ascii {s : ByteArray} {i j : Nat} (h : wordP s i = .ok j) : ∀ (k : Nat) (b : UInt8), (s.extract i j).data.toList[k]? = some b → b.toNat < 128 := by
  intro k b hb
  have hw := wordP_ok h
  have ha := wordP_all h
  have hk : k < j - i := by
    have := (List.getElem?_eq_some_iff.1 hb).1
    simp at this
    omega
  have hx : b = peekB s (i + k) := by
    rw [peekB_in (by omega : i + k < s.size)]
    have e := (List.getElem?_eq_some_iff.1 hb).2
    rw [← e]
    simp [ByteArray.getElem_eq_getElem_data]
  rw [hx]
  exact wrdB_ascii (ha (i + k) (by omega) (by omega))

/-- Is this word dn, whatever the letters' case? -/
def dnB (t : ByteArray) : Bool := Lib.equalFold t.data.toList [100, 110]
/-- What stands between the description and the sign: the rule, dn or not. -/
def rulesP : Nat → ByteArray → ByteArray → Nat → ByteArray → Bool → Except (Int × Nat) (ByteArray × Bool × Nat)
  | 0, _, _, j, _, _ => .error (0, j)
  | k + 1, s, d, j, ru, dn =>
    if peekB s j ≠ 61 ∨ (d = noText ∧ ru = noText) then
      if ru ≠ noText then .error (stuckF s j) else
        match wordP s j with
        | .error f => .error f
        | .ok e => match sinceP j e with
          | .error f => .error f
          | .ok e => if dnB (s.extract j e) = true ∧ dn = true then .error (50, j) else
              match takeP s e 58 with
              | .error f => .error f
              | .ok q => if dnB (s.extract j e) = true then rulesP k s d q ru true else rulesP k s d q (s.extract j e) dn
    else .ok (ru, dn, j)
/-- .. and the value behind the sign. -/
def valItm (d ru : ByteArray) (dn : Bool) : Except (Int × Nat) (ByteArray × Nat) → Except (Int × Nat) (Itm × Nat)
  | .error f => .error f
  | .ok (v, q) => .ok (⟨9, d, v, noText, [], noText, ru, dn⟩, q)
def ruleEnd (s d : ByteArray) : Except (Int × Nat) (ByteArray × Bool × Nat) → Except (Int × Nat) (Itm × Nat)
  | .error f => .error f
  | .ok (ru, dn, j) => valItm d ru dn (valueP false s (j + 1))
/-- An extensible item behind the description and the first sign. -/
def ruleP (s : ByteArray) (i : Nat) (d : ByteArray) : Except (Int × Nat) (Itm × Nat) := ruleEnd s d (rulesP (s.size + 1) s d i noText false)
end Go.Proofs.YtjmpcoedfoaebaaGreatDoor

open Go Go.RowKit
namespace Go.Proofs.YtjmpcoedfoaebaaGreatDoor

def RuRel (b fb : Nat) (s : ByteArray) (p : Nat) (d : ByteArray) (w : World) (R : Except (Int × Nat) (ByteArray × Bool × Nat)) (k : Nat) (wr : World) : Prop :=
  ∃ j ru dn, j ≤ s.size ∧ s.size < j + k ∧ ru.size ≤ 65536 ∧ Rd wr b s j p ∧ wr.heap[fb]? = some (.cells #[.int .i8 9, .slice none 0 0, .string d, .string ⟨#[]⟩, .string ⟨#[]⟩, .slice none 0 0, .string ⟨#[]⟩, .string ru, .bool dn] 26 (0, 0)) ∧
    Keep [b, fb] w wr ∧ rulesP k s d j ru dn = R
theorem empty_iff {s : ByteArray} : s.toList.isEmpty = true ↔ s = noText := by
  constructor
  · intro h
    cases hd : decide (s = noText) with
    | true => exact of_decide_eq_true hd
    | false => rw [isEmpty_no (of_decide_eq_false hd)] at h; cases h
  · intro h
    rw [h]; first | rfl | decide | simp [noText]
theorem empty_add {s t : ByteArray} : (s ++ t).toList.isEmpty = true ↔ s = noText ∧ t = noText := by
  rw [empty_iff]
  constructor
  · intro h
    have h2 := congrArg ByteArray.size h
    rw [ByteArray.size_append] at h2
    have h3 : s.size + t.size = 0 := h2
    exact ⟨size_zero (by omega), size_zero (by omega)⟩
  · rintro ⟨rfl, rfl⟩
    exact size_zero (by rw [ByteArray.size_append]; rfl)

set_option maxHeartbeats 4000000 in
set_option maxRecDepth 1000000 in
theorem rule_any (B b fb i p : Nat) (s d : ByteArray) (w : World) (hs : s.size ≤ 1048576) (hi : i ≤ s.size) (hd : d.size ≤ 65536) (hbf : b ≠ fb) (hR : Rd w b s i p) (hE : Env B w) (hBb : B ≤ b) (hBf : B ≤ fb)
    (hF : w.heap[fb]? = some (.cells #[.int .i8 0, .slice none 0 0, .string d, .string ⟨#[]⟩, .string ⟨#[]⟩, .slice none 0 0, .string ⟨#[]⟩, .string ⟨#[]⟩, .bool false] 26 (0, 0))) :
    Calls Tryz.prog 74 #[.pointer (some ⟨b, 0, none⟩), .pointer (some ⟨fb, 0, none⟩)] w (Filled w.heap.size b fb s p w (ruleP s i d)) := by
  have hblt := hR.lt
  have hflt := lt_of_block hF
  have HE := Lib.hid hE
  have HR := Lib.hid hR
  have HF := Lib.hid hF
  have hsm : s.size ≤ maxLen := by unfold maxLen; omega
  unfold ruleP
  obtain ⟨k0, k1, k2, k3, k4, k5, k6, k7, k8, kf⟩ := nine hF
  clear hR hE hF
  have hnf : fb ∉ [b] := by simp; omega
  have HVA := Lib.hid (fun (q : Nat) (W : World) (h1 : q ≤ s.size) (h2 : Rd W b s q p) (h3 : Env B W) => value_any B b q p false s W hs h1 h2 h3)
  have HPA : ∀ j W, Rd W b s j p → Calls Tryz.prog 47 #[.pointer (some ⟨b, 0, none⟩)] W fun e w' => e = .returned (.int .u8 (peekB s j).toNat) ∧ ∃ n, w' = W.drewN n := fun j W h => peek_any b j p s W h
  have HP := Lib.hid HPA
  clear HPA
  generalize hRR : rulesP (s.size + 1) s d i noText false = R
  have HRR := Lib.hid hRR
  clear hRR
  go_enter Tryz.func74, Tryz.ntmps74
  go_wp2_with fail
  clear k0 k1 k2 k3 k4 k5 k6 k7 k8 kf
  go_loopg [] (s.size + 1) (fun k wr => RuRel b fb s p d w R k wr)
  case atStart =>
    refine ⟨i, noText, false, hi, by omega, Nat.zero_le _, ?_, ?_, ?_, HRR.out⟩
    · exact (setCell_ne _ hbf).trans HR.out
    · exact setCell_at HF.out 0 (.int .i8 9)
    · exact (Keep.refl [b, fb] w).setCell _ _ (.inl (by simp))
  case round =>
    obtain ⟨q, ru, dn, hq, hk, hrs, hRq, hBq, hKq, hst⟩ := hrel
    have HRq := Lib.hid hRq
    have HBq := Lib.hid hBq
    have HKq := Lib.hid hKq
    obtain ⟨k0, k1, k2, k3, k4, k5, k6, k7, k8, kf⟩ := nine hBq
    clear hRq hBq hKq HF HR
    obtain ⟨k', rfl⟩ : ∃ k', gk = k' + 1 := ⟨gk - 1, by omega⟩
    have hPQ : ∀ n, Calls Tryz.prog 47 #[.pointer (some ⟨b, 0, none⟩)] (wr.drewN n) fun e w' => e = .returned (.int .u8 (peekB s q).toNat) ∧ ∃ m, w' = (wr.drewN n).drewN m := fun n => HP.out q _ (HRq.out.drewN _)
    have HPQ := Lib.hid hPQ
    clear hPQ
    obtain ⟨tb, HTB⟩ : ∃ tb : Bool, Hid (tb = true ↔ (peekB s q ≠ 61 ∨ (d = noText ∧ ru = noText))) := ⟨decide (peekB s q ≠ 61 ∨ (d = noText ∧ ru = noText)), Lib.hid decide_eq_true_iff⟩
    have hfs : (d ++ ru).size ≤ 131072 := by rw [ByteArray.size_append]; omega
    have HST := Lib.hid hst
    clear hst
    go_upto_region 2 with fail
    go_cut [25] (fun s25 wx => s25 = .bool tb ∧ ∃ n1, wx = wr.drewN n1)
    case first =>
      cases h61 : decide (peekB s q = 61) with
      | false =>
        have hpk : (((peekB s q).toNat : Int) != 61) = true := by
          rw [bne_iff_ne]; intro h; exact of_decide_eq_false h61 (UInt8.toNat_inj.1 (by show _ = 61; omega))
        have hcc : tb = true := HTB.out.2 (.inl (of_decide_eq_false h61))
        have HCC := Lib.hid hcc
        clear h61 hcc
        go_quiet ((exact Calls.quiet_of (HPQ.out _)))
        go_wp2_with fail
        go_meet
        exact ⟨by rw [HCC.out], _, rfl⟩
      | true =>
        have hpk : (((peekB s q).toNat : Int) != 61) = false := by rw [of_decide_eq_true h61]; rfl
        obtain ⟨eb, heb⟩ : ∃ eb : Bool, (d ++ ru).toList.isEmpty = eb := ⟨_, rfl⟩
        have hcc : tb = eb := by
          rw [Bool.eq_iff_iff, HTB.out, ← heb, empty_add]
          constructor
          · rintro (h | h)
            · exact absurd (of_decide_eq_true h61) h
            · exact h
          · exact .inr
        have HCC := Lib.hid hcc
        clear h61 hcc
        go_quiet ((exact Calls.quiet_of (HPQ.out _)))
        go_wp2_with fail
        go_meet
        exact ⟨by rw [HCC.out], _, rfl⟩
    case rest =>
      obtain ⟨rfl, n1, rfl⟩ := hcut
      cases tb with
      | false =>
        have hn : ¬ (peekB s q ≠ 61 ∨ (d = noText ∧ ru = noText)) := fun h => by have := HTB.out.2 h; cases this
        have h61 : peekB s q = 61 := Classical.byContradiction fun h => hn (.inl h)
        have hqs : q < s.size := peekB_lt (by rw [h61]; decide)
        have hst := HST.out
        rw [rulesP, if_neg hn] at hst
        subst hst
        have hqi : IntKind.i64.wrap ((q : Int) + 1) = (q : Int) + 1 := by
          have := wrap_small (q + 1) (by omega) (by omega)
          push_cast at this ⊢
          exact this
        have r1 := HRq.out.c1
        have rf := HRq.out.free 1
        have hR2 : Rd ((wr.drewN n1).setCell ⟨b, 1, none⟩ (.int .i64 ((q : Int) + 1))) b s (q + 1) p := setCell_at (w := wr.drewN n1) HRq.out 1 _
        have hK2 : Keep [b, fb] w ((wr.drewN n1).setCell ⟨b, 1, none⟩ (.int .i64 ((q : Int) + 1))) := (HKq.out.drewN n1).setCell _ _ (.inl (by simp))
        have hE2 : Env B ((wr.drewN n1).setCell ⟨b, 1, none⟩ (.int .i64 ((q : Int) + 1))) := HE.out.keep hK2 (by simp; omega)
        have hB2 : ((wr.drewN n1).setCell ⟨b, 1, none⟩ (.int .i64 ((q : Int) + 1))).heap[fb]? = some (.cells #[.int .i8 9, .slice none 0 0, .string d, .string ⟨#[]⟩, .string ⟨#[]⟩, .slice none 0 0, .string ⟨#[]⟩, .string ru, .bool dn] 26 (0, 0)) :=
          (setCell_ne _ (Ne.symm hbf)).trans HBq.out
        have hVQ := HVA.out (q + 1) _ (by omega) hR2 hE2
        have HB2 := Lib.hid hB2
        have HK2 := Lib.hid hK2
        clear hn h61 hR2 hE2 hB2 hK2
        cases hv : valueP false s (q + 1) with
        | error f =>
          rw [hv] at hVQ
          have HVQ := Lib.hid hVQ
          have HX : Hid (ruleEnd s d (.ok (ru, dn, q)) = .error f) := Lib.hid (by unfold ruleEnd; dsimp only; rw [hv]; rfl)
          clear hv hVQ
          go_wp2_with (go_at_call 76; refine HVQ.out.mono ?_; intro ev w2 hw; obtain ⟨qe, rfl, hEr, hK⟩ := Gave.err hw; clear hw; obtain ⟨x0, x1, x2, x3, x4, x5, x6, x7, x8, xf⟩ := nine (hK.heap HB2.out hnf); have HE3 := Lib.hid hEr; have HK3 := Lib.hid hK; clear hEr hK)
          go_ret
          rw [HX.out]
          refine Filled.mkErr ?_ ((HK2.out.trans (HK3.out.mono (S' := [b, fb]) (by simp))).setCell _ _ (.inl (by simp))) (Shp.mk (setCell_at (HK3.out.heap HB2.out hnf) 3 (.string ⟨#[]⟩)))
          obtain ⟨q', hq', hq2⟩ := HE3.out
          cases hq'
          refine ⟨qe, rfl, (setCell_ne _ ?_).trans hq2⟩
          rintro rfl
          have h := HK3.out.heap HB2.out hnf
          rw [hq2] at h
          cases h
        | ok t =>
          obtain ⟨tv, tq⟩ := t
          rw [hv] at hVQ
          have HVQ := Lib.hid hVQ
          have HX : Hid (ruleEnd s d (.ok (ru, dn, q)) = .ok (⟨9, d, tv, noText, [], noText, ru, dn⟩, tq)) := Lib.hid (by unfold ruleEnd; dsimp only; rw [hv]; rfl)
          clear hv hVQ
          go_wp2_with (go_at_call 76; refine HVQ.out.mono ?_; intro ev w2 hw; obtain ⟨rfl, hR3, hK⟩ := Gave.ok hw; clear hw; obtain ⟨x0, x1, x2, x3, x4, x5, x6, x7, x8, xf⟩ := nine (hK.heap HB2.out hnf); have HR3 := Lib.hid hR3; have HK3 := Lib.hid hK; clear hR3 hK)
          go_ret
          rw [HX.out]
          refine Filled.mkOk (i := tq) ?_ ⟨_, setCell_at (HK3.out.heap HB2.out hnf) 3 _, World.ownsRow_nil _ _ _ _⟩ ?_
          · exact (setCell_ne _ hbf).trans HR3.out
          · exact (HK2.out.trans (HK3.out.mono (S' := [b, fb]) (by simp))).setCell _ _ (.inl (by simp))
      | true =>
        have hcc := HTB.out.1 rfl
        have hst := HST.out
        rw [rulesP, if_pos hcc] at hst
        clear hcc
        have r1 := HRq.out.c1
        have hRn : Rd (wr.drewN n1) b s q p := HRq.out
        have hKn : Keep [b, fb] w (wr.drewN n1) := HKq.out.drewN n1
        have hBn : (wr.drewN n1).heap[fb]? = some (.cells #[.int .i8 9, .slice none 0 0, .string d, .string ⟨#[]⟩, .string ⟨#[]⟩, .slice none 0 0, .string ⟨#[]⟩, .string ru, .bool dn] 26 (0, 0)) := HBq.out
        have HRn := Lib.hid hRn
        have HKn := Lib.hid hKn
        have HBn := Lib.hid hBn
        clear hRn hKn hBn
        obtain ⟨er, her⟩ : ∃ er : Bool, ru.toList.isEmpty = er := ⟨_, rfl⟩
        cases er with
        | false =>
          have hru : ru ≠ noText := fun h => by rw [empty_iff.2 h] at her; cases her
          rw [if_pos hru] at hst
          clear hru
          subst hst
          go_wp2_with (go_at_call 29; refine (stuck_any b q p s _ hsm HRn.out).mono ?_; rintro ev w2 ⟨v, rfl, hE2, hK2⟩)
          go_ret
          exact Filled.mkErr hE2 (HKn.out.trans0 hK2) (Shp.mk (hK2.heap HBn.out (by simp)))
        | true =>
          have hru : ¬ ru ≠ noText := fun h => h (empty_iff.1 her)
          rw [if_neg hru] at hst
          clear hru
          have hW := word_any b q p s (wr.drewN n1) hsm hq HRn.out
          cases hw : wordP s q with
          | error f =>
            rw [hw] at hW hst
            have HW := Lib.hid hW
            clear hw hW
            subst hst
            go_wp2_with (go_at_call 60; refine HW.out.mono ?_; intro ev w2 hw; obtain ⟨qe, rfl, hE2, hK2⟩ := Went.err hw; clear hw)
            go_ret
            exact Filled.mkErr hE2 (HKn.out.trans (hK2.mono (S' := [b, fb]) (by simp))) (Shp.mk (hK2.heap HBn.out hnf))
          | ok e =>
            have hij := wordP_ok hw
            have HAS := Lib.hid (word_ascii hw)
            rw [hw] at hW hst
            have HW := Lib.hid hW
            clear hw hW
            have HS := Lib.hid (fun W h => since_any b q e p s W hsm (by omega) hij.2 h)
            dsimp only at hst
            cases h2 : sinceP q e with
            | error f =>
              have hS := HS.out
              rw [h2] at hS hst
              have HS' := Lib.hid hS
              clear hS h2 HS
              subst hst
              go_wp2_with (first
                | (go_at_call 60; refine HW.out.mono ?_; intro ev w2 hw; obtain ⟨rfl, hR2, hK2⟩ := Went.ok hw; clear hw)
                | (go_at_call 63; refine (HS'.out _ (by exact hR2)).mono ?_; intro ev w3 hw; obtain ⟨qe, rfl, hE3, hK3⟩ := Gave.err hw; clear hw))
              go_ret
              exact Filled.mkErr hE3 ((HKn.out.trans (hK2.mono (S' := [b, fb]) (by simp))).trans (hK3.mono (S' := [b, fb]) (by simp))) (Shp.mk (hK3.heap (hK2.heap HBn.out hnf) hnf))
            | ok e2 =>
              have he : e2 = e ∧ e - q ≤ 65536 := by
                unfold sinceP at h2
                split at h2 <;> cases h2
                exact ⟨rfl, by omega⟩
              obtain ⟨rfl, heq⟩ := he
              have hS := HS.out
              rw [h2] at hS hst
              have HS' := Lib.hid hS
              clear hS h2 HS
              dsimp only at hst
              have hTs : (s.extract q e2).size ≤ 65536 := by rw [ByteArray.size_extract]; omega
              have hEF : ∀ W, Calls Tryz.prog 108 #[.string (s.extract q e2), .string ⟨#[100, 110]⟩] W fun e w' => e = .returned (.bool (dnB (s.extract q e2))) ∧ w' = W := fun W =>
                Tryz.strings_EqualFold (s.extract q e2) ⟨#[100, 110]⟩ W (by omega) HAS.out (by
                  intro j b hb
                  have hb' : [(100 : UInt8), 110][j]? = some b := hb
                  match j with
                  | 0 => cases hb'; decide
                  | 1 => cases hb'; decide
                  | j + 2 => cases hb')
              clear HAS
              cases hdn : dnB (s.extract q e2) with
              | true =>
                rw [hdn] at hst hEF
                have HEF := Lib.hid hEF
                clear hEF hdn
                cases dn with
                | true =>
                  rw [if_pos ⟨rfl, rfl⟩] at hst
                  subst hst
                  go_wp2_with (first
                    | (go_at_call 60; refine HW.out.mono ?_; intro ev w2 hw; obtain ⟨rfl, hR2, hK2⟩ := Went.ok hw; clear hw)
                    | (go_at_call 63; refine (HS'.out _ (by exact hR2)).mono ?_; intro ev w3 hw; obtain ⟨rfl, hR3, hK3⟩ := Gave.ok hw; clear hw; obtain ⟨x0, x1, x2, x3, x4, x5, x6, x7, x8, xf⟩ := nine (hK3.heap (hK2.heap HBn.out hnf) hnf))
                    | (go_at_call 108; refine (HEF.out _).mono ?_; rintro ev w4 ⟨rfl, rfl⟩)
                    | (go_at_call 48; refine (fault_any b e2 p q 50 s _ hsm (by exact hR3)).mono ?_; rintro ev w5 ⟨v, rfl, hE5, hK5⟩))
                  go_ret
                  exact Filled.mkErr hE5 (((HKn.out.trans (hK2.mono (S' := [b, fb]) (by simp))).trans (hK3.mono (S' := [b, fb]) (by simp))).trans0 hK5) (Shp.mk (hK5.heap (hK3.heap (hK2.heap HBn.out hnf) hnf) (by simp)))
                | false =>
                  rw [if_neg (by decide)] at hst
                  have HT := Lib.hid (fun W h => take_any b e2 p 58 s W hsm h)
                  have hBX : ∀ W : World, W.heap[fb]? = some (.cells #[.int .i8 9, .slice none 0 0, .string d, .string ⟨#[]⟩, .string ⟨#[]⟩, .slice none 0 0, .string ⟨#[]⟩, .string ru, .bool false] 26 (0, 0)) → (W.setCell ⟨fb, 8, none⟩ (.bool true)).heap[fb]? = some (.cells #[.int .i8 9, .slice none 0 0, .string d, .string ⟨#[]⟩, .string ⟨#[]⟩, .slice none 0 0, .string ⟨#[]⟩, .string ru, .bool true] 26 (0, 0)) := fun W h => setCell_at h 8 (.bool true)
                  have HBX := Lib.hid hBX
                  clear hBX
                  cases ht : takeP s e2 58 with
                  | error f =>
                    have hT := HT.out
                    rw [ht] at hT hst
                    have HT' := Lib.hid hT
                    clear hT ht HT
                    subst hst
                    go_wp2_with (first
                      | (go_at_call 60; refine HW.out.mono ?_; intro ev w2 hw; obtain ⟨rfl, hR2, hK2⟩ := Went.ok hw; clear hw)
                      | (go_at_call 63; refine (HS'.out _ (by exact hR2)).mono ?_; intro ev w3 hw; obtain ⟨rfl, hR3, hK3⟩ := Gave.ok hw; clear hw; obtain ⟨x0, x1, x2, x3, x4, x5, x6, x7, x8, xf⟩ := nine (hK3.heap (hK2.heap HBn.out hnf) hnf); have HR3 := Lib.hid hR3; have HK3 := Lib.hid hK3; clear hR3 hK3)
                      | (go_at_call 108; refine (HEF.out _).mono ?_; rintro ev w4 ⟨rfl, rfl⟩)
                      | (go_at_call 46; refine (HT'.out _ (by exact (setCell_ne _ hbf).trans HR3.out)).mono ?_; intro ev w5 hw; obtain ⟨qe, rfl, hE5, hK5⟩ := Went.err hw; clear hw))
                    go_ret
                    exact Filled.mkErr hE5 ((((HKn.out.trans (hK2.mono (S' := [b, fb]) (by simp))).trans (HK3.out.mono (S' := [b, fb]) (by simp))).setCell _ _ (.inl (by simp))).trans (hK5.mono (S' := [b, fb]) (by simp))) (Shp.mk (hK5.heap (HBX.out _ (HK3.out.heap (hK2.heap HBn.out hnf) hnf)) hnf))
                  | ok q2 =>
                    have hT := HT.out
                    have hq2 := takeP_ok ht
                    rw [ht] at hT hst
                    have HT' := Lib.hid hT
                    have HST2 := Lib.hid hst
                    clear hT ht HT hst
                    obtain ⟨hq2a, hq2b⟩ := hq2
                    have hq2c : q2 ≤ s.size := by omega
                    have hq2d : s.size < q2 + k' := by omega
                    clear hq2a
                    go_wp2_with (first
                      | (go_at_call 60; refine HW.out.mono ?_; intro ev w2 hw; obtain ⟨rfl, hR2, hK2⟩ := Went.ok hw; clear hw)
                      | (go_at_call 63; refine (HS'.out _ (by exact hR2)).mono ?_; intro ev w3 hw; obtain ⟨rfl, hR3, hK3⟩ := Gave.ok hw; clear hw; obtain ⟨x0, x1, x2, x3, x4, x5, x6, x7, x8, xf⟩ := nine (hK3.heap (hK2.heap HBn.out hnf) hnf); have HR3 := Lib.hid hR3; have HK3 := Lib.hid hK3; clear hR3 hK3)
                      | (go_at_call 108; refine (HEF.out _).mono ?_; rintro ev w4 ⟨rfl, rfl⟩)
                      | (go_at_call 46; refine (HT'.out _ (by exact (setCell_ne _ hbf).trans HR3.out)).mono ?_; intro ev w5 hw; obtain ⟨rfl, hR5, hK5⟩ := Went.ok hw; clear hw))
                    go_roundg k'
                    case measure => omega
                    case rel =>
                      refine ⟨q2, ru, true, hq2c, hq2d, by first | omega | assumption, hR5, hK5.heap (HBX.out _ (HK3.out.heap (hK2.heap HBn.out hnf) hnf)) hnf, (((HKn.out.trans (hK2.mono (S' := [b, fb]) (by simp))).trans (HK3.out.mono (S' := [b, fb]) (by simp))).setCell _ _ (.inl (by simp))).trans (hK5.mono (S' := [b, fb]) (by simp)), ?_⟩
                      exact (if_pos trivial).symm.trans HST2.out
              | false =>
                rw [hdn] at hst hEF
                have HEF := Lib.hid hEF
                clear hEF hdn
                rw [if_neg (fun h => by cases h.1)] at hst
                have HT := Lib.hid (fun W h => take_any b e2 p 58 s W hsm h)
                have hBX : ∀ W : World, W.heap[fb]? = some (.cells #[.int .i8 9, .slice none 0 0, .string d, .string ⟨#[]⟩, .string ⟨#[]⟩, .slice none 0 0, .string ⟨#[]⟩, .string ru, .bool dn] 26 (0, 0)) → (W.setCell ⟨fb, 7, none⟩ (.string (s.extract q e2))).heap[fb]? = some (.cells #[.int .i8 9, .slice none 0 0, .string d, .string ⟨#[]⟩, .string ⟨#[]⟩, .slice none 0 0, .string ⟨#[]⟩, .string (s.extract q e2), .bool dn] 26 (0, 0)) := fun W h => setCell_at h 7 (.string (s.extract q e2))
                have HBX := Lib.hid hBX
                clear hBX
                cases ht : takeP s e2 58 with
                | error f =>
                  have hT := HT.out
                  rw [ht] at hT hst
                  have HT' := Lib.hid hT
                  clear hT ht HT
                  subst hst
                  go_wp2_with (first
                    | (go_at_call 60; refine HW.out.mono ?_; intro ev w2 hw; obtain ⟨rfl, hR2, hK2⟩ := Went.ok hw; clear hw)
                    | (go_at_call 63; refine (HS'.out _ (by exact hR2)).mono ?_; intro ev w3 hw; obtain ⟨rfl, hR3, hK3⟩ := Gave.ok hw; clear hw; obtain ⟨x0, x1, x2, x3, x4, x5, x6, x7, x8, xf⟩ := nine (hK3.heap (hK2.heap HBn.out hnf) hnf); have HR3 := Lib.hid hR3; have HK3 := Lib.hid hK3; clear hR3 hK3)
                    | (go_at_call 108; refine (HEF.out _).mono ?_; rintro ev w4 ⟨rfl, rfl⟩)
                    | (go_at_call 46; refine (HT'.out _ (by exact (setCell_ne _ hbf).trans HR3.out)).mono ?_; intro ev w5 hw; obtain ⟨qe, rfl, hE5, hK5⟩ := Went.err hw; clear hw))
                  go_ret
                  exact Filled.mkErr hE5 ((((HKn.out.trans (hK2.mono (S' := [b, fb]) (by simp))).trans (HK3.out.mono (S' := [b, fb]) (by simp))).setCell _ _ (.inl (by simp))).trans (hK5.mono (S' := [b, fb]) (by simp))) (Shp.mk (hK5.heap (HBX.out _ (HK3.out.heap (hK2.heap HBn.out hnf) hnf)) hnf))
                | ok q2 =>
                  have hT := HT.out
                  have hq2 := takeP_ok ht
                  rw [ht] at hT hst
                  have HT' := Lib.hid hT
                  have HST2 := Lib.hid hst
                  clear hT ht HT hst
                  obtain ⟨hq2a, hq2b⟩ := hq2
                  have hq2c : q2 ≤ s.size := by omega
                  have hq2d : s.size < q2 + k' := by omega
                  clear hq2a
                  go_wp2_with (first
                    | (go_at_call 60; refine HW.out.mono ?_; intro ev w2 hw; obtain ⟨rfl, hR2, hK2⟩ := Went.ok hw; clear hw)
                    | (go_at_call 63; refine (HS'.out _ (by exact hR2)).mono ?_; intro ev w3 hw; obtain ⟨rfl, hR3, hK3⟩ := Gave.ok hw; clear hw; obtain ⟨x0, x1, x2, x3, x4, x5, x6, x7, x8, xf⟩ := nine (hK3.heap (hK2.heap HBn.out hnf) hnf); have HR3 := Lib.hid hR3; have HK3 := Lib.hid hK3; clear hR3 hK3)
                    | (go_at_call 108; refine (HEF.out _).mono ?_; rintro ev w4 ⟨rfl, rfl⟩)
                    | (go_at_call 46; refine (HT'.out _ (by exact (setCell_ne _ hbf).trans HR3.out)).mono ?_; intro ev w5 hw; obtain ⟨rfl, hR5, hK5⟩ := Went.ok hw; clear hw))
                  go_roundg k'
                  case measure => omega
                  case rel =>
                    refine ⟨q2, (s.extract q e2), dn, hq2c, hq2d, by first | omega | assumption, hR5, hK5.heap (HBX.out _ (HK3.out.heap (hK2.heap HBn.out hnf) hnf)) hnf, (((HKn.out.trans (hK2.mono (S' := [b, fb]) (by simp))).trans (HK3.out.mono (S' := [b, fb]) (by simp))).setCell _ _ (.inl (by simp))).trans (hK5.mono (S' := [b, fb]) (by simp)), ?_⟩
                    exact (if_neg (by decide)).symm.trans HST2.out
end Go.Proofs.YtjmpcoedfoaebaaGreatDoor
