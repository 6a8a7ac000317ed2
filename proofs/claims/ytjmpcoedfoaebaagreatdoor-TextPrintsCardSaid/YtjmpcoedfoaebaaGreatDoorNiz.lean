/- The reference's tests of a text: letters, digits, words, descriptions. The reference's words and descriptions. The reference's descriptions. The reference's Small: a text's letters small. -/
import Derived.Test.YtjmpcoedfoaebaaGreatDoorSrx
import Derived.Test.YtjmpcoedfoaebaaGreatDoorTxx
import Derived.Test.YtjmpcoedfoaebaaGreatDoorCta
import Derived.Test.YtjmpcoedfoaebaaGreatDoorByt
import Derived.Laws.OwnMore
open Go Go.RowKit
namespace Go.Proofs.YtjmpcoedfoaebaaGreatDoor

theorem ydig_any (c : UInt8) (w : World) : Calls Tryz.prog 136 #[.int .u8 c.toNat] w fun e w' => e = .returned (.bool (digB c)) ∧ w = w' := by
  go_enter Tryz.func136, Tryz.ntmps136
  go_wp2
  all_goals go_ret
  · exact ⟨ret_bool (xdig_hi (by assumption)), rfl⟩
  · exact ⟨ret_bool (xdig_lo (by assumption)), rfl⟩
theorem ylet_any (c : UInt8) (w : World) : Calls Tryz.prog 135 #[.int .u8 c.toNat] w fun e w' => e = .returned (.bool (letB c)) ∧ w = w' := by
  have H : Hid (letB c = (decide (97 ≤ c.toNat) && decide (c.toNat ≤ 122) || decide (65 ≤ c.toNat) && decide (c.toNat ≤ 90))) := Lib.hid rfl
  go_enter Tryz.func135, Tryz.ntmps135
  go_wp2
  all_goals go_ret
  all_goals refine ⟨ret_bool ?_, rfl⟩
  all_goals rw [H.out, Bool.eq_iff_iff]
  all_goals simp
  all_goals omega
theorem drop_all {s : ByteArray} {f : UInt8 → Bool} {k : Nat} (h : k < s.size) : (s.data.toList.drop k).all f = (f s[k] && (s.data.toList.drop (k + 1)).all f) := by
  rw [drop_at s k h, List.all_cons]
theorem drop_done {s : ByteArray} {f : UInt8 → Bool} {k : Nat} (h : s.size ≤ k) : (s.data.toList.drop k).all f = true := by
  rw [List.drop_of_length_le (by simpa using h)]; rfl
theorem size_pos (s : ByteArray) : decide (0 < s.size) = !s.data.toList.isEmpty := by
  have h : s.data.toList.length = s.size := by simp
  cases hl : s.data.toList with
  | nil => rw [hl] at h; simp at h; simp [← h]
  | cons a l => rw [hl] at h; simp at h; simp; omega

set_option maxRecDepth 100000 in
theorem ydigits_any (s : ByteArray) (w : World) (hs : s.size ≤ maxLen) : Calls Tryz.prog 137 #[.string s] w (RetB w (s.data.toList.all digB && !s.data.toList.isEmpty)) := by
  unfold maxLen at hs
  obtain ⟨R, hR⟩ : ∃ R, s.data.toList.all digB = R := ⟨_, rfl⟩
  rw [hR]
  have HR := Lib.hid hR
  have HE := Lib.hid (size_pos s)
  clear hR
  go_enter Tryz.func137, Tryz.ntmps137
  go_wp2_with fail
  go_loopg [3] (s.size) (fun g i wr => ∃ k : Nat, k ≤ s.size ∧ s.size ≤ g + k ∧ i = .int .i64 k ∧ Hid ((s.data.toList.drop k).all digB = R) ∧ Hid (Keep [] w wr))
  case atStart => exact ⟨0, Nat.zero_le _, by omega, rfl, HR, Lib.hid (Keep.refl _ _)⟩
  case round =>
    obtain ⟨k, hk, hg, rfl, HT, HK⟩ := hrel
    by_cases hlt : k < s.size
    · have h1 := HT.out
      rw [drop_all hlt] at h1
      have hD := fun W => ydig_any s[k] W
      cases hc : digB s[k] with
      | false =>
        rw [hc] at hD h1
        have hR2 : R = false := by rw [← h1]; rfl
        have HD := Lib.hid hD
        have HR2 := Lib.hid hR2
        clear hD h1 hc hR2
        go_wp2_with (go_at_call 136; refine (HD.out _).mono ?_; rintro e w1 ⟨rfl, rfl⟩)
        go_ret
        exact ⟨by rw [HR2.out]; rfl, HK.out⟩
      | true =>
        rw [hc, Bool.true_and] at h1
        rw [hc] at hD
        have HD := Lib.hid hD
        have HT2 := Lib.hid h1
        clear hD h1 hc
        go_wp2_with (go_at_call 136; refine (HD.out _).mono ?_; rintro e w1 ⟨rfl, rfl⟩)
        go_roundg (s.size - (k + 1))
        case measure => omega
        case rel => exact ⟨k + 1, by omega, by omega, by go_num, HT2, HK⟩
    · have hR2 : R = true := by rw [← HT.out, drop_done (by omega)]
      have HR2 := Lib.hid hR2
      clear hR2
      go_wp2_with fail
      go_ret
      exact ⟨by rw [HR2.out, Bool.true_and, ← HE.out]; rfl, HK.out⟩

set_option maxHeartbeats 2000000 in
set_option maxRecDepth 100000 in
theorem yoption_any (s : ByteArray) (w : World) (hs : s.size ≤ maxLen) : Calls Tryz.prog 134 #[.string s] w (RetB w (s.data.toList.all innB && !s.data.toList.isEmpty)) := by
  unfold maxLen at hs
  obtain ⟨R, hR⟩ : ∃ R, s.data.toList.all innB = R := ⟨_, rfl⟩
  rw [hR]
  have HR := Lib.hid hR
  have HE := Lib.hid (size_pos s)
  clear hR
  go_enter Tryz.func134, Tryz.ntmps134
  go_wp2_with fail
  go_loopg [3] (s.size) (fun g i wr => ∃ k : Nat, k ≤ s.size ∧ s.size ≤ g + k ∧ i = .int .i64 k ∧ Hid ((s.data.toList.drop k).all innB = R) ∧ Hid (Keep [] w wr))
  case atStart => exact ⟨0, Nat.zero_le _, by omega, rfl, HR, Lib.hid (Keep.refl _ _)⟩
  case round =>
    obtain ⟨k, hk, hg, rfl, HT, HK⟩ := hrel
    by_cases hlt : k < s.size
    · obtain ⟨c, hc⟩ : ∃ c, s[k] = c := ⟨_, rfl⟩
      have HT1 : Hid ((innB c && (s.data.toList.drop (k + 1)).all innB) = R) := Lib.hid (by rw [← hc, ← drop_all hlt]; exact HT.out)
      have HI : Hid (innB c = (decide (48 ≤ c.toNat) && decide (c.toNat ≤ 57) || (decide (97 ≤ c.toNat) && decide (c.toNat ≤ 122) || decide (65 ≤ c.toNat) && decide (c.toNat ≤ 90)) || c.toNat == 45)) := Lib.hid rfl
      go_wp2_with fail
      all_goals first
        | (go_roundg (s.size - (k + 1))
           case measure => omega
           case rel =>
             have hi : innB c = true := by rw [HI.out]; clear HI HT1 HT HR HE; simp at *; omega
             exact ⟨k + 1, by omega, by omega, by go_num, Lib.hid (by have h := HT1.out; rw [hi, Bool.true_and] at h; exact h), HK⟩)
        | (go_ret
           have hi : innB c = false := by rw [HI.out]; clear HI HT1 HT HR HE; simp at *; omega
           exact ⟨by rw [← HT1.out, hi]; rfl, HK.out⟩)
    · have hR2 : R = true := by rw [← HT.out, drop_done (by omega)]
      have HR2 := Lib.hid hR2
      clear hR2
      go_wp2_with fail
      go_ret
      exact ⟨by rw [HR2.out, Bool.true_and, ← HE.out]; rfl, HK.out⟩
end Go.Proofs.YtjmpcoedfoaebaaGreatDoor

open Go Go.RowKit
namespace Go.Proofs.YtjmpcoedfoaebaaGreatDoor

/-- A text is cut at a sign: what is left from a place on; no such sign since. -/
structure CutSt (c : UInt8) (l : List UInt8) (f k : Nat) (rest : List (List UInt8)) : Prop where
  le : f ≤ k
  inn : k ≤ l.length → rest = splC c (l.drop f) ∧ c ∉ (l.drop f).take (k - f)
  out : l.length < k → rest = []
theorem CutSt.start (c : UInt8) (l : List UInt8) : CutSt c l 0 0 (splC c l) := ⟨Nat.le_refl _, fun _ => ⟨rfl, by simp⟩, fun h => by omega⟩
theorem CutSt.on {c : UInt8} {l : List UInt8} {f k : Nat} {rest : List (List UInt8)} (h : CutSt c l f k rest) (hk : k < l.length) (hc : l[k] ≠ c) : CutSt c l f (k + 1) rest := by
  obtain ⟨h1, h2⟩ := h.inn (Nat.le_of_lt hk)
  have hle := h.le
  refine ⟨by omega, fun _ => ⟨h1, ?_⟩, fun h => by omega⟩
  rw [show k + 1 - f = (k - f) + 1 by omega, List.take_add_one, List.mem_append, not_or]
  refine ⟨h2, ?_⟩
  rw [List.getElem?_drop, show f + (k - f) = k by omega, List.getElem?_eq_getElem hk]
  simp
  exact fun e => hc e.symm
theorem CutSt.row {c : UInt8} {l : List UInt8} {f k : Nat} {rest : List (List UInt8)} (h : CutSt c l f k rest) (hk : k ≤ l.length) (hc : ∀ hk : k < l.length, l[k] = c) : ∃ rest', rest = (l.drop f).take (k - f) :: rest' ∧ CutSt c l (k + 1) (k + 1) rest' := by
  obtain ⟨h1, h2⟩ := h.inn hk
  have hle := h.le
  rcases Nat.lt_or_ge k l.length with hlt | hge
  · refine ⟨splC c (l.drop (k + 1)), ?_, ⟨Nat.le_refl _, fun _ => ⟨rfl, by simp⟩, fun h => by omega⟩⟩
    have e : l.drop f = (l.drop f).take (k - f) ++ c :: l.drop (k + 1) := by
      have e1 : (l.drop f).drop (k - f) = c :: l.drop (k + 1) := by
        rw [List.drop_drop, show f + (k - f) = k by omega, List.drop_eq_getElem_cons hlt, hc hlt]
      rw [← e1, List.take_append_drop]
    rw [h1]
    conv => lhs; rw [e]
    rw [splC_app _ h2]
  · refine ⟨[], ?_, ⟨Nat.le_refl _, fun h => by omega, fun _ => rfl⟩⟩
    have e : (l.drop f).take (k - f) = l.drop f := List.take_of_length_le (by rw [List.length_drop]; omega)
    rw [e] at h2 ⊢
    rw [h1, splC_plain h2]
set_option maxHeartbeats 4000000 in
set_option maxRecDepth 100000 in
theorem yword_any (s : ByteArray) (w : World) (hs2 : s.size ≤ 4611686018427387904) : Calls Tryz.prog 115 #[.string s] w (RetB w (wordL s.data.toList)) := by
  obtain ⟨R, hR⟩ : ∃ R, wordL s.data.toList = R := ⟨_, rfl⟩
  rw [hR]
  have hl : s.data.toList.length = s.size := by simp
  have HL := Lib.hid hl
  rcases Nat.eq_zero_or_pos s.size with h0 | h0
  · have hs0 : s = ⟨#[]⟩ := ByteArray.ext (Array.eq_empty_of_size_eq_zero h0)
    have hf : R = false := by rw [← hR, hs0]; rfl
    subst hs0
    clear hR
    have HF := Lib.hid hf
    clear hf hl HL
    go_enter Tryz.func115, Tryz.ntmps115
    go_wp2_with fail
    go_ret
    exact ⟨by rw [HF.out]; rfl, Keep.refl _ _⟩
  · have h0i : (0 : Int) < (s.size : Int) := by omega
    have hn0 : ((s.size : Int) == 0) = false := by rw [beq_eq_false_iff_ne]; omega
    have hhd : s.data.toList.headD 0 = s[0] := by rw [← peek_head, peekB_in h0]
    have hLt := fun W => ylet_any s[0] W
    unfold wordL at hR
    rw [hhd] at hR
    clear hl
    cases hlb : letB s[0] with
    | true =>
      rw [hlb, if_pos rfl] at hR
      rw [hlb] at hLt
      have HLT := Lib.hid hLt
      have hne : s.data.toList.isEmpty = false := by
        cases h : s.data.toList with
        | nil => rw [h] at HL; have := HL.out; simp at this; omega
        | cons a t => rfl
      rw [hne] at hR
      have HR : Hid (s.data.toList.all innB = R) := Lib.hid (by rw [← hR]; simp)
      clear hLt hR hne hhd hlb
      go_enter Tryz.func115, Tryz.ntmps115
      go_wp2_with (go_at_call 135; refine (HLT.out _).mono ?_; rintro e w1 ⟨rfl, rfl⟩)
      go_loopg [3] (s.size) (fun g i wr => ∃ k : Nat, k ≤ s.size ∧ s.size ≤ g + k ∧ i = .int .i64 k ∧ Hid ((s.data.toList.drop k).all innB = R) ∧ Hid (Keep [] w wr))
      case atStart => exact ⟨0, Nat.zero_le _, by omega, rfl, HR, Lib.hid (Keep.refl _ _)⟩
      case round =>
        obtain ⟨k, hk, hg, rfl, HT, HK⟩ := hrel
        by_cases hlt : k < s.size
        · obtain ⟨c, hc⟩ : ∃ c, s[k] = c := ⟨_, rfl⟩
          have HT1 : Hid ((innB c && (s.data.toList.drop (k + 1)).all innB) = R) := Lib.hid (by rw [← hc, ← drop_all hlt]; exact HT.out)
          have HI : Hid (innB c = (digB c || letB c || decide (c.toNat = 45))) := Lib.hid (by unfold innB; congr 1)
          cases hd : digB c <;> cases hl : letB c <;> cases h45 : decide (c.toNat = 45)
          all_goals
            have hi := HI.out
            rw [hd, hl, h45] at hi
            have H45 := Lib.hid h45
            first
              | (have e45 : ((c.toNat : Int) != 45) = true := by rw [bne_iff_ne]; intro h; have := of_decide_eq_false H45.out; omega)
              | (have e45 : ((c.toNat : Int) != 45) = false := by rw [bne_eq_false_iff_eq]; have := of_decide_eq_true H45.out; omega)
            have d := ydig_any c
            have l := ylet_any c
            rw [hd] at d
            rw [hl] at l
            have HI2 := Lib.hid hi
            have D := Lib.hid d
            have L := Lib.hid l
            clear hd hl d l hi h45 HI
            go_wp2_with (first | (go_at_call 136; refine (D.out _).mono ?_; rintro e w' ⟨rfl, rfl⟩) | (go_at_call 135; refine (L.out _).mono ?_; rintro e w' ⟨rfl, rfl⟩))
            first
              | (go_roundg (s.size - (k + 1))
                 case measure => omega
                 case rel => exact ⟨k + 1, by omega, by omega, by go_num, Lib.hid (by have h := HT1.out; rw [HI2.out] at h; exact h), HK⟩)
              | (go_ret
                 exact ⟨by rw [← HT1.out, HI2.out]; rfl, HK.out⟩)
        · have hR2 : R = true := by rw [← HT.out, drop_done (by omega)]
          have HR2 := Lib.hid hR2
          clear hR2
          go_wp2_with fail
          go_ret
          exact ⟨by rw [HR2.out]; rfl, HK.out⟩
    | false =>
      rw [hlb, if_neg (by decide)] at hR
      rw [hlb] at hLt
      have HLT := Lib.hid hLt
      have HR : Hid (((splC 46 s.data.toList).all numL && decide (1 < 0 + (splC 46 s.data.toList).length)) = R) := Lib.hid (by rw [Nat.zero_add]; exact hR)
      clear hLt hR hhd hlb
      go_enter Tryz.func115, Tryz.ntmps115
      go_wp2_with (go_at_call 135; refine (HLT.out _).mono ?_; rintro e w1 ⟨rfl, rfl⟩)
      go_loopg [6, 5, 4] (s.size + 1) (fun g i f n wr => ∃ k fr m : Nat, ∃ rest : List (List UInt8), k ≤ s.size + 1 ∧ s.size + 1 ≤ g + k ∧ i = .int .i64 k ∧ f = .int .i64 fr ∧ n = .int .i64 m ∧ fr ≤ k ∧ m ≤ k ∧ Hid ((rest.all numL && decide (1 < m + rest.length)) = R) ∧ Hid (CutSt 46 s.data.toList fr k rest) ∧ Hid (Keep [] w wr))
      case atStart => exact ⟨0, 0, 0, splC 46 s.data.toList, Nat.zero_le _, by omega, rfl, rfl, rfl, Nat.le_refl _, Nat.le_refl _, HR, Lib.hid (CutSt.start _ _), Lib.hid (Keep.refl _ _)⟩
      case round =>
        obtain ⟨k, fr, m, rest, hk, hg, rfl, rfl, rfl, hfk, hmk, HT, HC, HK⟩ := hrel
        by_cases hle : k ≤ s.size
        · by_cases hgo : ∃ h : k < s.size, s[k] ≠ 46
          · obtain ⟨hlt, hne⟩ := hgo
            have hnb : ((s[k].toNat : Int) != 46) = true := by
              rw [bne_iff_ne]; intro h; exact hne (UInt8.toNat_inj.1 (by show _ = 46; omega))
            have HC2 : Hid (CutSt 46 s.data.toList fr (k + 1) rest) := Lib.hid (HC.out.on (by rw [HL.out]; exact hlt) (fun e => hne (by rw [← e]; rfl)))
            clear hne
            go_wp2_with fail
            go_roundg (s.size + 1 - (k + 1))
            case measure => omega
            case rel => exact ⟨k + 1, fr, m, rest, by omega, by omega, by go_num, rfl, rfl, by omega, by omega, HT, HC2, HK⟩
          · have hstop : ∀ h : k < s.size, s[k] = 46 := fun h => Decidable.byContradiction fun e => hgo ⟨h, e⟩
            obtain ⟨rest', hrest, hcs⟩ := HC.out.row (by rw [HL.out]; exact hle) (fun h => by have := hstop (by rw [← HL.out]; exact h); rw [← this]; rfl)
            obtain ⟨X, hX⟩ : ∃ X, s.extract fr k = X := ⟨_, rfl⟩
            have hXl : X.data.toList = (s.data.toList.drop fr).take (k - fr) := by rw [← hX, ext_list]
            have hXs : X.size = k - fr := by rw [← hX, ByteArray.size_extract]; omega
            rw [← hXl] at hrest
            have hT := HT.out
            rw [hrest, List.all_cons, List.length_cons] at hT
            have HCS := Lib.hid hcs
            have HX := Lib.hid hX
            have hfi : (fr : Int) ≤ (k : Int) := by omega
            have hki : (k : Int) ≤ (s.size : Int) := by omega
            have hDg := fun W => ydigits_any X W (by unfold maxLen; omega)
            obtain ⟨dg, hdg⟩ : ∃ dg, (X.data.toList.all digB && !X.data.toList.isEmpty) = dg := ⟨_, rfl⟩
            rw [hdg] at hDg
            have hnl : numL X.data.toList = (dg && !((X.data.toList.headD 0 == 48) && decide (1 < X.data.toList.length))) := by unfold numL; rw [hdg]
            have hxl : X.data.toList.length = X.size := by simp
            have HDG := Lib.hid hDg
            rw [hxl] at hnl
            have HT2 := Lib.hid hT
            have HXS := Lib.hid hXs
            have hmx : (m : Int) ≤ 4611686018427387905 := by omega
            clear hDg hT hrest hcs HT HC hXl hXs
            cases dg with
            | false =>
              have hR0 : R = false := by rw [← HT2.out, hnl]; rfl
              have HR0 := Lib.hid hR0
              clear hR0 hnl HT2 hdg hxl
              rcases Nat.lt_or_ge k s.size with hlt | hge
              · have h46 : ((s[k].toNat : Int) != 46) = false := by rw [hstop hlt]; rfl
                clear hstop hgo
                go_wp2_with (go_at_call 137; refine (HDG.out _).mono ?_; rintro e w1 ⟨rfl, hK1⟩; have HK1 := Lib.hid hK1; clear hK1)
                go_ret
                exact ⟨by rw [HR0.out]; rfl, HK.out.trans HK1.out⟩
              · clear hstop hgo
                go_wp2_with (go_at_call 137; refine (HDG.out _).mono ?_; rintro e w1 ⟨rfl, hK1⟩; have HK1 := Lib.hid hK1; clear hK1)
                go_ret
                exact ⟨by rw [HR0.out]; rfl, HK.out.trans HK1.out⟩
            | true =>
              have hx0 : 0 < X.size := by
                rcases Nat.eq_zero_or_pos X.size with h | h
                · have : X = ⟨#[]⟩ := ByteArray.ext (Array.eq_empty_of_size_eq_zero h)
                  rw [this] at hdg; cases hdg
                · exact h
              have hhd : X.data.toList.headD 0 = X[0] := by rw [← peek_head, peekB_in hx0]
              rw [hhd, Bool.true_and] at hnl
              have hxi : (0 : Int) < (X.size : Int) := by omega
              cases h48 : decide (X[0] = 48) <;> cases h1 : decide (1 < X.size)
              all_goals
                have hb : (X[0] == 48) = decide (X[0] = 48) := by rw [Bool.eq_iff_iff]; simp
                rw [hb, h48, h1] at hnl
                have hT3 := HT2.out
                rw [hnl] at hT3
                have HT3 := Lib.hid hT3
                have H48 := Lib.hid h48
                have H1 := Lib.hid h1
                first
                  | (have e48 : ((X[0].toNat : Int) == 48) = true := by rw [of_decide_eq_true H48.out]; rfl)
                  | (have e48 : ((X[0].toNat : Int) == 48) = false := by rw [beq_eq_false_iff_ne]; intro h; exact of_decide_eq_false H48.out (UInt8.toNat_inj.1 (by show _ = 48; omega)))
                first
                  | (have e1 : (1 : Int) < (X.size : Int) := by have := of_decide_eq_true H1.out; omega)
                  | (have e1 : ¬ ((1 : Int) < (X.size : Int)) := by have := of_decide_eq_false H1.out; omega)
                clear hb hnl hT3 h48 h1 H48 H1 HT2 hdg hxl hhd hgo
                rcases Nat.lt_or_ge k s.size with hlt | hge
                · have h46 : ((s[k].toNat : Int) != 46) = false := by rw [hstop hlt]; rfl
                  clear hstop
                  go_wp2_with (go_at_call 137; refine (HDG.out _).mono ?_; rintro e w1 ⟨rfl, hK1⟩; have HK1 := Lib.hid hK1; clear hK1)
                  first
                    | (go_roundg (s.size + 1 - (k + 1))
                       case measure => omega
                       case rel => exact ⟨k + 1, k + 1, m + 1, rest', by omega, by omega, by go_num, by go_num, by go_num, Nat.le_refl _, by omega, Lib.hid (by have h := HT3.out; simp only [Bool.false_and, Bool.and_false, Bool.not_false, Bool.true_and] at h; rw [← h, show m + 1 + rest'.length = m + (rest'.length + 1) by omega]), HCS, Lib.hid (HK.out.trans HK1.out)⟩)
                    | (go_ret
                       exact ⟨by rw [← HT3.out]; rfl, HK.out.trans HK1.out⟩)
                · clear hstop
                  go_wp2_with (go_at_call 137; refine (HDG.out _).mono ?_; rintro e w1 ⟨rfl, hK1⟩; have HK1 := Lib.hid hK1; clear hK1)
                  first
                    | (go_roundg (s.size + 1 - (k + 1))
                       case measure => omega
                       case rel => exact ⟨k + 1, k + 1, m + 1, rest', by omega, by omega, by go_num, by go_num, by go_num, Nat.le_refl _, by omega, Lib.hid (by have h := HT3.out; simp only [Bool.false_and, Bool.and_false, Bool.not_false, Bool.true_and] at h; rw [← h, show m + 1 + rest'.length = m + (rest'.length + 1) by omega]), HCS, Lib.hid (HK.out.trans HK1.out)⟩)
                    | (go_ret
                       exact ⟨by rw [← HT3.out]; rfl, HK.out.trans HK1.out⟩)
        · have hk2 : k = s.size + 1 := by omega
          have hr0 : rest = [] := HC.out.out (by rw [HL.out]; omega)
          have hRm : R = decide (1 < m) := by rw [← HT.out, hr0]; rfl
          have HRM := Lib.hid hRm
          clear hk2 hr0 hRm HT HC
          go_wp2_with fail
          go_ret
          exact ⟨by rw [HRM.out]; first | rfl | (simp; omega), HK.out⟩
end Go.Proofs.YtjmpcoedfoaebaaGreatDoor

open Go Go.RowKit
namespace Go.Proofs.YtjmpcoedfoaebaaGreatDoor

def descR (f : Nat) (rest : List (List UInt8)) : Bool := if f = 0 then (match rest with | [] => false | r0 :: rs => rs.all (fun r => r.all innB && !r.isEmpty) && wordL r0) else rest.all (fun r => r.all innB && !r.isEmpty)
theorem descR_start (l : List UInt8) : descR 0 (splC 59 l) = descL l := by
  unfold descR descL
  rw [if_pos rfl]
  cases splC 59 l <;> rfl

set_option maxHeartbeats 4000000 in
set_option maxRecDepth 100000 in
theorem ydesc_any (s : ByteArray) (w : World) (hs : s.size ≤ 4611686018427387904) : Calls Tryz.prog 114 #[.string s] w (RetB w (descL s.data.toList)) := by
  obtain ⟨R, hR⟩ : ∃ R, descL s.data.toList = R := ⟨_, rfl⟩
  rw [hR]
  have HL : Hid (s.data.toList.length = s.size) := Lib.hid (by simp)
  have HR : Hid (descR 0 (splC 59 s.data.toList) = R) := Lib.hid (by rw [descR_start]; exact hR)
  clear hR
  go_enter Tryz.func114, Tryz.ntmps114
  go_wp2_with fail
  go_loopg [4, 3] (s.size + 1) (fun g i f wr => ∃ k fr : Nat, ∃ rest : List (List UInt8), k ≤ s.size + 1 ∧ s.size + 1 ≤ g + k ∧ i = .int .i64 k ∧ f = .int .i64 fr ∧ fr ≤ k ∧ Hid (descR fr rest = R) ∧ Hid (CutSt 59 s.data.toList fr k rest) ∧ Hid (s.size < k → 0 < fr) ∧ Hid (Keep [] w wr))
  case atStart => exact ⟨0, 0, splC 59 s.data.toList, Nat.zero_le _, by omega, rfl, rfl, Nat.le_refl _, HR, Lib.hid (CutSt.start _ _), Lib.hid (fun h => by omega), Lib.hid (Keep.refl _ _)⟩
  case round =>
    obtain ⟨k, fr, rest, hk, hg, rfl, rfl, hfk, HT, HC, HP, HK⟩ := hrel
    by_cases hle : k ≤ s.size
    · by_cases hgo : ∃ h : k < s.size, s[k] ≠ 59
      · obtain ⟨hlt, hne⟩ := hgo
        have hnb : ((s[k].toNat : Int) != 59) = true := by
          rw [bne_iff_ne]; intro h; exact hne (UInt8.toNat_inj.1 (by show _ = 59; omega))
        have HC2 : Hid (CutSt 59 s.data.toList fr (k + 1) rest) := Lib.hid (HC.out.on (by rw [HL.out]; exact hlt) (fun e => hne (by rw [← e]; rfl)))
        clear hne
        go_wp2_with fail
        go_roundg (s.size + 1 - (k + 1))
        case measure => omega
        case rel => exact ⟨k + 1, fr, rest, by omega, by omega, by go_num, rfl, by omega, HT, HC2, Lib.hid (fun h => by omega), HK⟩
      · have hstop : ∀ h : k < s.size, s[k] = 59 := fun h => Decidable.byContradiction fun e => hgo ⟨h, e⟩
        obtain ⟨rest', hrest, hcs⟩ := HC.out.row (by rw [HL.out]; exact hle) (fun h => by have := hstop (by rw [← HL.out]; exact h); rw [← this]; rfl)
        obtain ⟨X, hX⟩ : ∃ X, s.extract fr k = X := ⟨_, rfl⟩
        have hXl : X.data.toList = (s.data.toList.drop fr).take (k - fr) := by rw [← hX, ext_list]
        have hXs : X.size = k - fr := by rw [← hX, ByteArray.size_extract]; omega
        rw [← hXl] at hrest
        have hT := HT.out
        rw [hrest] at hT
        have HCS := Lib.hid hcs
        have hfi : (fr : Int) ≤ (k : Int) := by omega
        have hki : (k : Int) ≤ (s.size : Int) := by omega
        have hki2 : (k : Int) ≤ 4611686018427387904 := by omega
        have hWd := fun W => yword_any X W (by omega)
        have hOp := fun W => yoption_any X W (by unfold maxLen; omega)
        obtain ⟨wd, hwd⟩ : ∃ wd, wordL X.data.toList = wd := ⟨_, rfl⟩
        obtain ⟨od, hod⟩ : ∃ od, (X.data.toList.all innB && !X.data.toList.isEmpty) = od := ⟨_, rfl⟩
        rw [hwd] at hWd
        rw [hod] at hOp
        have hQ : (if fr = 0 then (rest'.all (fun r => r.all innB && !r.isEmpty) && wd) else (od && rest'.all (fun r => r.all innB && !r.isEmpty))) = R := by
          rw [← hT]
          unfold descR
          by_cases h0 : fr = 0
          · rw [if_pos h0, if_pos h0, ← hwd]
          · rw [if_neg h0, if_neg h0, List.all_cons, hod]
        have HWD := Lib.hid hWd
        have HOP := Lib.hid hOp
        clear hWd hOp hT hrest hcs HT HC hXl hXs hwd hod HP hgo
        by_cases h0 : fr = 0
        · have e0 : ((fr : Int) == 0) = true := by rw [beq_iff_eq]; omega
          have e1 : ¬ ((0 : Int) < (fr : Int)) := by omega
          rw [if_pos h0] at hQ
          have HQ := Lib.hid hQ
          clear hQ h0
          cases wd with
          | false =>
            rcases Nat.lt_or_ge k s.size with hlt | hge
            · have h46 : ((s[k].toNat : Int) != 59) = false := by rw [hstop hlt]; rfl
              clear hstop
              go_wp2_with (go_at_call 115; refine (HWD.out _).mono ?_; rintro e w1 ⟨rfl, hK1⟩; have HK1 := Lib.hid hK1; clear hK1)
              go_ret
              exact ⟨by rw [← HQ.out, Bool.and_false]; rfl, HK.out.trans HK1.out⟩
            · clear hstop
              go_wp2_with (go_at_call 115; refine (HWD.out _).mono ?_; rintro e w1 ⟨rfl, hK1⟩; have HK1 := Lib.hid hK1; clear hK1)
              go_ret
              exact ⟨by rw [← HQ.out, Bool.and_false]; rfl, HK.out.trans HK1.out⟩
          | true =>
            have HQ2 : Hid (descR (k + 1) rest' = R) := Lib.hid (by unfold descR; rw [if_neg (by omega), ← HQ.out, Bool.and_true])
            rcases Nat.lt_or_ge k s.size with hlt | hge
            · have h46 : ((s[k].toNat : Int) != 59) = false := by rw [hstop hlt]; rfl
              clear hstop
              go_wp2_with (go_at_call 115; refine (HWD.out _).mono ?_; rintro e w1 ⟨rfl, hK1⟩; have HK1 := Lib.hid hK1; clear hK1)
              go_roundg (s.size + 1 - (k + 1))
              case measure => omega
              case rel => exact ⟨k + 1, k + 1, rest', by omega, by omega, by go_num, by go_num, Nat.le_refl _, HQ2, HCS, Lib.hid (fun _ => Nat.succ_pos _), Lib.hid (HK.out.trans HK1.out)⟩
            · clear hstop
              go_wp2_with (go_at_call 115; refine (HWD.out _).mono ?_; rintro e w1 ⟨rfl, hK1⟩; have HK1 := Lib.hid hK1; clear hK1)
              go_roundg (s.size + 1 - (k + 1))
              case measure => omega
              case rel => exact ⟨k + 1, k + 1, rest', by omega, by omega, by go_num, by go_num, Nat.le_refl _, HQ2, HCS, Lib.hid (fun _ => Nat.succ_pos _), Lib.hid (HK.out.trans HK1.out)⟩
        · have e0 : ((fr : Int) == 0) = false := by rw [beq_eq_false_iff_ne]; omega
          have e1 : (0 : Int) < (fr : Int) := by omega
          rw [if_neg h0] at hQ
          have HQ := Lib.hid hQ
          clear hQ h0
          cases od with
          | false =>
            rcases Nat.lt_or_ge k s.size with hlt | hge
            · have h46 : ((s[k].toNat : Int) != 59) = false := by rw [hstop hlt]; rfl
              clear hstop
              go_wp2_with (go_at_call 134; refine (HOP.out _).mono ?_; rintro e w1 ⟨rfl, hK1⟩; have HK1 := Lib.hid hK1; clear hK1)
              go_ret
              exact ⟨by rw [← HQ.out, Bool.false_and]; rfl, HK.out.trans HK1.out⟩
            · clear hstop
              go_wp2_with (go_at_call 134; refine (HOP.out _).mono ?_; rintro e w1 ⟨rfl, hK1⟩; have HK1 := Lib.hid hK1; clear hK1)
              go_ret
              exact ⟨by rw [← HQ.out, Bool.false_and]; rfl, HK.out.trans HK1.out⟩
          | true =>
            have HQ2 : Hid (descR (k + 1) rest' = R) := Lib.hid (by unfold descR; rw [if_neg (by omega), ← HQ.out, Bool.true_and])
            rcases Nat.lt_or_ge k s.size with hlt | hge
            · have h46 : ((s[k].toNat : Int) != 59) = false := by rw [hstop hlt]; rfl
              clear hstop
              go_wp2_with (go_at_call 134; refine (HOP.out _).mono ?_; rintro e w1 ⟨rfl, hK1⟩; have HK1 := Lib.hid hK1; clear hK1)
              go_roundg (s.size + 1 - (k + 1))
              case measure => omega
              case rel => exact ⟨k + 1, k + 1, rest', by omega, by omega, by go_num, by go_num, Nat.le_refl _, HQ2, HCS, Lib.hid (fun _ => Nat.succ_pos _), Lib.hid (HK.out.trans HK1.out)⟩
            · clear hstop
              go_wp2_with (go_at_call 134; refine (HOP.out _).mono ?_; rintro e w1 ⟨rfl, hK1⟩; have HK1 := Lib.hid hK1; clear hK1)
              go_roundg (s.size + 1 - (k + 1))
              case measure => omega
              case rel => exact ⟨k + 1, k + 1, rest', by omega, by omega, by go_num, by go_num, Nat.le_refl _, HQ2, HCS, Lib.hid (fun _ => Nat.succ_pos _), Lib.hid (HK.out.trans HK1.out)⟩
    · have hr0 : rest = [] := HC.out.out (by rw [HL.out]; omega)
      have hfp := HP.out (by omega)
      have hRt : R = true := by
        rw [← HT.out, hr0]
        unfold descR
        rw [if_neg (by omega)]
        rfl
      have HRT := Lib.hid hRt
      clear hr0 hfp hRt HT HC HP
      go_wp2_with fail
      go_ret
      exact ⟨by rw [HRT.out]; rfl, HK.out⟩
end Go.Proofs.YtjmpcoedfoaebaaGreatDoor

open Go Go.RowKit
namespace Go.Proofs.YtjmpcoedfoaebaaGreatDoor

theorem lower_val (c : UInt8) : ((Lib.lowerB c).toNat : Int) = if 65 ≤ c.toNat ∧ c.toNat ≤ 90 then (c.toNat : Int) + 32 else c.toNat := by
  have h : ∀ n : Fin 256, ((Lib.lowerB (UInt8.ofNat n.val)).toNat : Int) = if 65 ≤ (UInt8.ofNat n.val).toNat ∧ (UInt8.ofNat n.val).toNat ≤ 90 then ((UInt8.ofNat n.val).toNat : Int) + 32 else (UInt8.ofNat n.val).toNat := by decide +kernel
  have := h ⟨c.toNat, c.toNat_lt⟩
  simpa using this
set_option maxRecDepth 100000 in
theorem ysmallB_any (c : UInt8) (w : World) : Calls Tryz.prog 138 #[.int .u8 c.toNat] w fun e w' => e = .returned (.int .u8 (Lib.lowerB c).toNat) ∧ w = w' := by
  have HV := Lib.hid (lower_val c)
  have hc : (c.toNat : Int) ≤ 255 := by have := c.toNat_lt; omega
  obtain ⟨n, hn⟩ : ∃ n : Int, (c.toNat : Int) = n := ⟨_, rfl⟩
  have HN := Lib.hid hn
  rw [hn] at hc ⊢
  have hn0 : 0 ≤ n := by omega
  clear hn
  by_cases h1 : 65 ≤ n
  · by_cases h2 : n ≤ 90
    · go_enter Tryz.func138, Tryz.ntmps138
      go_wp2_with fail
      go_ret
      refine ⟨?_, rfl⟩
      rw [HV.out, if_pos (by have := HN.out; omega), HN.out]
      rw [show n + 32 = n + 97 - 65 by omega]
      rfl
    · go_enter Tryz.func138, Tryz.ntmps138
      go_wp2_with fail
      go_ret
      refine ⟨?_, rfl⟩
      rw [HV.out, if_neg (by have := HN.out; omega), HN.out]
      rfl
  · go_enter Tryz.func138, Tryz.ntmps138
    go_wp2_with fail
    go_ret
    refine ⟨?_, rfl⟩
    rw [HV.out, if_neg (by have := HN.out; omega), HN.out]
    rfl

/-- A cell of a row of one's own may be written. -/
theorem own_cell1 {w : World} {N g n cap : Nat} {T : TypeId} {xs : List Value} (h : w.ownsRow N T 1 (.slice (some ⟨g, 0, none⟩) n cap) n xs) {k : Nat} (hk : k < n) : (∃ u, w.cell? ⟨g, k, none⟩ = some u) ∧ ∀ j, w.frozen? ⟨g, j, none⟩ = false := by
  rcases h.2 with ⟨h', _⟩ | ⟨g', cap', cur, h', _, hg, hnc, _, hcs, _⟩
  · cases h'
  · cases h'
    exact ⟨⟨_, (cell_of hg k).trans (Array.getElem?_eq_getElem (by omega))⟩, fun j => free_of hg j⟩
theorem low_next {l : List UInt8} {xs : List Value} {k : Nat} (h : xs.take k = Lib.byteCells ((Lib.toLowerA l).take k)) (hk : k < l.length) (hx : xs.length = l.length) : (xs.set k (.int .u8 ((Lib.lowerB l[k]).toNat : Int))).take (k + 1) = Lib.byteCells ((Lib.toLowerA l).take (k + 1)) := by
  rw [List.take_add_one, List.take_set, List.set_eq_of_length_le (by rw [List.length_take]; omega), h, List.take_add_one, Lib.byteCells_append]
  congr 1
  rw [List.getElem?_set_self (by omega)]
  unfold Lib.toLowerA
  rw [List.getElem?_map, List.getElem?_eq_getElem hk]
  rfl

set_option maxHeartbeats 4000000 in
set_option maxRecDepth 100000 in
theorem ysmall_any (s : ByteArray) (w : World) (hs : s.size ≤ 140737488351232) : Calls Tryz.prog 116 #[.string s] w fun e w' => e = .returned (.string ⟨(Lib.toLowerA s.data.toList).toArray⟩) ∧ Keep [] w w' := by
  obtain ⟨i0, hi0, hz0, hz1, hz2⟩ := info_partsV Tryz.infoU8
  obtain ⟨wm, hrm, hom, hgm⟩ := run_make_full (P := Tryz.prog) w w.heap.size 49 5 i0 (.int .u8 0) 1 Tryz.underlying49 hi0 hz0 hz1 .i64 .i64 s.size (by rw [hz2]; omega) (by unfold maxLen; omega) (Nat.le_refl _)
  have HL : Hid (s.data.toList.length = s.size) := Lib.hid (by simp)
  have HOM := Lib.hid hom
  have HGM : Hid (Keep [] w wm) := Lib.hid ((Keep.refl [] w).grown hgm (fun k hk => by cases hk))
  clear hom hgm
  go_enter Tryz.func116, Tryz.ntmps116
  go_wp2_with fail
  go_loopg [4] (s.size) (fun g i wr => ∃ k : Nat, ∃ xs : List Value, k ≤ s.size ∧ s.size ≤ g + k ∧ i = .int .i64 k ∧ Hid (wr.ownsRow w.heap.size 5 1 (.slice (some ⟨w.heap.size, 0, none⟩) s.size s.size) s.size xs ∧ xs.take k = Lib.byteCells ((Lib.toLowerA s.data.toList).take k)) ∧ Hid (Keep [] w wr))
  case atStart => exact ⟨0, _, Nat.zero_le _, by omega, rfl, Lib.hid ⟨HOM.out, by simp [Lib.byteCells]⟩, HGM⟩
  case round =>
    obtain ⟨k, xs, hk, hg, rfl, HO, HK⟩ := hrel
    by_cases hlt : k < s.size
    · obtain ⟨⟨u, hu⟩, hf⟩ := own_cell1 HO.out.1 hlt
      have hS := fun W => ysmallB_any s[k] W
      obtain ⟨c, hc⟩ : ∃ c, Lib.lowerB s[k] = c := ⟨_, rfl⟩
      have HN : Hid ((xs.set k (.int .u8 (c.toNat : Int))).take (k + 1) = Lib.byteCells ((Lib.toLowerA s.data.toList).take (k + 1))) := Lib.hid (by
        have hx : xs.length = s.data.toList.length := by have := HO.out.1.1; rw [HL.out]; omega
        have h := low_next HO.out.2 (show k < s.data.toList.length by rw [HL.out]; exact hlt) hx
        rw [show s.data.toList[k]'(by rw [HL.out]; exact hlt) = s[k] from rfl, hc] at h
        exact h)
      rw [hc] at hS
      have HS := Lib.hid hS
      clear hS hc
      go_wp2_with (go_at_call 138; refine (HS.out _).mono ?_; rintro e w1 ⟨rfl, rfl⟩)
      go_roundg (s.size - (k + 1))
      case measure => omega
      case rel => exact ⟨k + 1, xs.set k (.int .u8 (c.toNat : Int)), by omega, by omega, by go_num, Lib.hid ⟨(HO.out.1.stored k _).1, HN.out⟩, Lib.hid (HK.out.setCell _ _ (.inr (Nat.le_refl _)))⟩
    · have hcv := conv_owns (Lib.toLowerA s.data.toList) (by
        have h := HO.out.1
        have h2 := HO.out.2
        rw [List.take_of_length_le (by have := h.1; omega), List.take_of_length_le (by unfold Lib.toLowerA; rw [List.length_map, HL.out]; omega)] at h2
        rw [h2] at h
        exact h)
      go_wp2_with fail
      go_ret
      exact ⟨rfl, HK.out⟩
end Go.Proofs.YtjmpcoedfoaebaaGreatDoor
