/- filter.right: at an extensible rule. Printed by genright.py. filter.right: at pieces. Printed by genright.py. -/
import Derived.Test.YtjmpcoedfoaebaaGreatDoorFpa
open Go Go.RowKit
namespace Go.Proofs.YtjmpcoedfoaebaaGreatDoor

set_option maxHeartbeats 4000000 in
set_option maxRecDepth 100000 in
theorem right_k9 : RightK 9 := by
  intro B H it a1 n1 c1 a2 c2 w hk hH hT hml hnl hlg hE
  clear hH hT hml hnl
  obtain ⟨z2, z3, z4, z6, z7, _⟩ := long_nog hlg
  have HE := Lib.hid hE
  have HX : Hid (rightB it n1 = (decide (n1 = 0) && !piecesB it && (someB it.desc || someB it.rule) && (!someB it.desc || descQ it.desc) && (!someB it.rule || (wordQ it.rule && decide (Lib.toLowerD it.rule.data.toList ≠ [100, 110]))))) := Lib.hid (by unfold rightB; simp [hk])
  obtain ⟨pb, hpb⟩ : ∃ pb, piecesB it = pb := ⟨_, rfl⟩
  obtain ⟨rb, hrb⟩ : ∃ rb, ruledB it = rb := ⟨_, rfl⟩
  have HP := Lib.hid hpb
  have HRB := Lib.hid hrb
  rw [hk]
  clear hE hk hpb hrb hlg
  go_enter Tryz.func40, Tryz.ntmps40
  go_upto_region 2 with fail
  obtain ⟨W, hW⟩ : ∃ W, W = w.alloc (.cells #[.int .i8 9, .slice a1 n1 c1, .string it.desc, .string it.value, .string it.start, .slice a2 it.mids.length c2, .string it.fin, .string it.rule, .bool it.dn] 26) := ⟨_, rfl⟩
  have hb : Hid (W.heap[w.heap.size]? = some (.cells #[.int .i8 9, .slice a1 n1 c1, .string it.desc, .string it.value, .string it.start, .slice a2 it.mids.length c2, .string it.fin, .string it.rule, .bool it.dn] 26 (0, 0))) := Lib.hid (by rw [hW]; exact alloc_at _ _)
  have HK : Hid (Keep [] w W) := Lib.hid (by rw [hW]; exact (Keep.refl [] w).alloc _)
  rw [← hW]
  clear hW
  obtain ⟨x0, x1, x2, x3, x4, x5, x6, x7, x8, xf⟩ := nine hb.out
  clear xf
  go_cut [4] (fun s4 wx => s4 = .bool pb ∧ wx = W)
  case first =>
    go_wp2_with fail
    all_goals
      go_meet
      exact ⟨by rw [← HP.out]; unfold piecesB someB; simp [*], rfl⟩
  case rest =>
    obtain ⟨rfl, rfl⟩ := hcut
    go_upto_region 3 with fail
    go_cut [5] (fun s5 wx => s5 = .bool rb ∧ wx = wc)
    case first =>
      go_wp2_with fail
      all_goals
        go_meet
        exact ⟨by rw [← HRB.out]; unfold ruledB someB; simp [*], rfl⟩
    case rest =>
      obtain ⟨rfl, he⟩ := hcut
      obtain rfl := he
      have HD := Lib.hid (fun V => described_any B it.desc V (by omega))
      rw [HP.out] at HX
      cases hn : decide (n1 = 0) with
      | false =>
        have hn0 : ((n1 : Int) == 0) = false := by rw [beq_eq_false_iff_ne]; have := of_decide_eq_false hn; omega
        rw [hn] at HX
        clear hn
        go_wp2_with fail
        go_ret
        exact ⟨ret_bool (by rw [HX.out]; rfl), HK.out⟩
      | true =>
        have hn0 : ((n1 : Int) == 0) = true := by rw [beq_iff_eq]; have := of_decide_eq_true hn; omega
        rw [hn] at HX
        clear hn
        cases pb with
        | true =>
          go_wp2_with fail
          go_ret
          exact ⟨ret_bool (by rw [HX.out]; rfl), HK.out⟩
        | false =>
          obtain ⟨db, hdb, HDB⟩ : ∃ db : Bool, it.desc.toList.isEmpty = db ∧ Hid (someB it.desc = !db) := ⟨_, rfl, Lib.hid rfl⟩
          obtain ⟨eb, heb, HEB⟩ : ∃ eb : Bool, it.rule.toList.isEmpty = eb ∧ Hid (someB it.rule = !eb) := ⟨_, rfl, Lib.hid rfl⟩
          obtain ⟨T, hT⟩ : ∃ T : ByteArray, (⟨(Lib.toLowerD it.rule.data.toList).toArray⟩ : ByteArray) = T := ⟨_, rfl⟩
          obtain ⟨nb, hnb, HNB⟩ : ∃ nb : Bool, (T.toList == [100, 110]) = nb ∧ Hid (decide (Lib.toLowerD it.rule.data.toList ≠ [100, 110]) = !nb) := by
            refine ⟨_, rfl, Lib.hid ?_⟩
            rw [← hT, ByteArray.toList_eq]
            by_cases h : Lib.toLowerD it.rule.data.toList = [100, 110]
            · rw [h]; decide
            · rw [decide_eq_true h]
              have : ((⟨(Lib.toLowerD it.rule.data.toList).toArray⟩ : ByteArray).data.toList == [100, 110]) = false := by
                rw [beq_eq_false_iff_ne]
                intro e
                exact h e
              rw [this]
              rfl
          have HTL : Hid (∀ V, Env B V → Calls Tryz.prog 68 #[.string it.rule] V fun e w' => e = .returned (.string T) ∧ Below V.heap.size V w') := Lib.hid fun V hV => by
            have h := Tryz.strings_ToLower_any it.rule V (by omega) hV.caseVar hV.tabs
            rw [hT] at h
            exact h
          obtain ⟨dq, hdq⟩ : ∃ dq, descQ it.desc = dq := ⟨_, rfl⟩
          obtain ⟨wq, hwq⟩ : ∃ wq, wordQ it.rule = wq := ⟨_, rfl⟩
          rw [HDB.out, HEB.out, HNB.out, hdq, hwq] at HX
          have hD := HD.out
          rw [hdq] at hD
          have HD := Lib.hid hD
          have hWD := fun V => fword_any B it.rule V (by omega)
          rw [hwq] at hWD
          have HWD := Lib.hid hWD
          clear hT hdq hwq hD hWD
          cases db with
          | true =>
            cases eb with
            | true =>
              go_wp2_with fail
              go_ret
              exact ⟨ret_bool (by rw [HX.out]; rfl), HK.out⟩
            | false =>
              cases wq with
              | false =>
                go_wp2_with (first | (go_at_call 67; refine (HWD.out _ (HE.out.keep0 HK.out)).mono ?_; rintro e W6 ⟨rfl, hK6⟩; have HK6 := Lib.hid (HK.out.trans hK6); clear hK6))
                go_ret
                exact ⟨ret_bool (by rw [HX.out]; rfl), HK6.out⟩
              | true =>
                go_wp2_with (first | (go_at_call 67; refine (HWD.out _ (HE.out.keep0 HK.out)).mono ?_; rintro e W6 ⟨rfl, hK6⟩; have HK6 := Lib.hid (HK.out.trans hK6); have hb6 := hK6.heap hb.out (by simp); obtain ⟨z0, z1, z2, z3, z4, z5, z6, z7, z8, zf⟩ := nine hb6; clear zf hb6; clear hK6) | (go_at_call 68; refine (HTL.out _ (HE.out.keep0 HK6.out)).mono ?_; rintro e W7 ⟨rfl, hK7⟩; have HK7 := Lib.hid (HK6.out.trans (Keep.of_below hK7)); clear hK7))
                go_ret
                exact ⟨ret_bool (by rw [HX.out]; cases nb <;> rfl), HK7.out⟩
          | false =>
            cases dq with
            | false =>
              go_wp2_with (first | (go_at_call 66; refine (HD.out _ (HE.out.keep0 HK.out)).mono ?_; rintro e W5 ⟨rfl, hK5⟩; have HK5 := Lib.hid (HK.out.trans hK5); have hb5 := hK5.heap hb.out (by simp); clear hK5; obtain ⟨y0, y1, y2, y3, y4, y5, y6, y7, y8, yf⟩ := nine hb5; clear yf hb5))
              go_ret
              exact ⟨ret_bool (by rw [HX.out]; rfl), HK5.out⟩
            | true =>
              cases eb with
              | true =>
                go_wp2_with (first | (go_at_call 66; refine (HD.out _ (HE.out.keep0 HK.out)).mono ?_; rintro e W5 ⟨rfl, hK5⟩; have HK5 := Lib.hid (HK.out.trans hK5); have hb5 := hK5.heap hb.out (by simp); clear hK5; obtain ⟨y0, y1, y2, y3, y4, y5, y6, y7, y8, yf⟩ := nine hb5; clear yf hb5))
                go_ret
                exact ⟨ret_bool (by rw [HX.out]; rfl), HK5.out⟩
              | false =>
                cases wq with
                | false =>
                  go_wp2_with (first | (go_at_call 66; refine (HD.out _ (HE.out.keep0 HK.out)).mono ?_; rintro e W5 ⟨rfl, hK5⟩; have HK5 := Lib.hid (HK.out.trans hK5); have hb5 := hK5.heap hb.out (by simp); clear hK5; obtain ⟨y0, y1, y2, y3, y4, y5, y6, y7, y8, yf⟩ := nine hb5; have HB5 := Lib.hid hb5; clear yf hb5) | (go_at_call 67; refine (HWD.out _ (HE.out.keep0 HK5.out)).mono ?_; rintro e W6 ⟨rfl, hK6⟩; have HK6 := Lib.hid (HK5.out.trans hK6); clear hK6))
                  go_ret
                  exact ⟨ret_bool (by rw [HX.out]; rfl), HK6.out⟩
                | true =>
                  go_wp2_with (first | (go_at_call 66; refine (HD.out _ (HE.out.keep0 HK.out)).mono ?_; rintro e W5 ⟨rfl, hK5⟩; have HK5 := Lib.hid (HK.out.trans hK5); have hb5 := hK5.heap hb.out (by simp); clear hK5; obtain ⟨y0, y1, y2, y3, y4, y5, y6, y7, y8, yf⟩ := nine hb5; have HB5 := Lib.hid hb5; clear yf hb5) | (go_at_call 67; refine (HWD.out _ (HE.out.keep0 HK5.out)).mono ?_; rintro e W6 ⟨rfl, hK6⟩; have HK6 := Lib.hid (HK5.out.trans hK6); have hb6 := hK6.heap HB5.out (by simp); obtain ⟨z0, z1, z2, z3, z4, z5, z6, z7, z8, zf⟩ := nine hb6; clear zf hb6; clear hK6) | (go_at_call 68; refine (HTL.out _ (HE.out.keep0 HK6.out)).mono ?_; rintro e W7 ⟨rfl, hK7⟩; have HK7 := Lib.hid (HK6.out.trans (Keep.of_below hK7)); clear hK7))
                  go_ret
                  exact ⟨ret_bool (by rw [HX.out]; cases nb <;> rfl), HK7.out⟩
end Go.Proofs.YtjmpcoedfoaebaaGreatDoor

open Go Go.RowKit
namespace Go.Proofs.YtjmpcoedfoaebaaGreatDoor

set_option maxHeartbeats 4000000 in
set_option maxRecDepth 100000 in
theorem right_k4 : RightK 4 := by
  intro B H it a1 n1 c1 a2 c2 w hk hH hT hml hnl hlg hE
  have HTT := Lib.hid hT
  clear hT hnl
  obtain ⟨z2, z3, z4, z6, z7, _⟩ := long_nog hlg
  have HE := Lib.hid hE
  have HX : Hid (rightB it n1 = (it.mids.all someB && decide (n1 = 0) && piecesB it && !ruledB it && !someB it.value && descQ it.desc)) := Lib.hid (by unfold rightB; simp [hk])
  obtain ⟨pb, hpb⟩ : ∃ pb, piecesB it = pb := ⟨_, rfl⟩
  obtain ⟨rb, hrb⟩ : ∃ rb, ruledB it = rb := ⟨_, rfl⟩
  have HP := Lib.hid hpb
  have HRB := Lib.hid hrb
  rw [hk]
  clear hE hk hpb hrb hlg
  go_enter Tryz.func40, Tryz.ntmps40
  go_upto_region 2 with fail
  obtain ⟨W, hW⟩ : ∃ W, W = w.alloc (.cells #[.int .i8 4, .slice a1 n1 c1, .string it.desc, .string it.value, .string it.start, .slice a2 it.mids.length c2, .string it.fin, .string it.rule, .bool it.dn] 26) := ⟨_, rfl⟩
  have hb : Hid (W.heap[w.heap.size]? = some (.cells #[.int .i8 4, .slice a1 n1 c1, .string it.desc, .string it.value, .string it.start, .slice a2 it.mids.length c2, .string it.fin, .string it.rule, .bool it.dn] 26 (0, 0))) := Lib.hid (by rw [hW]; exact alloc_at _ _)
  have HK : Hid (Keep [] w W) := Lib.hid (by rw [hW]; exact (Keep.refl [] w).alloc _)
  rw [← hW]
  clear hW
  obtain ⟨x0, x1, x2, x3, x4, x5, x6, x7, x8, xf⟩ := nine hb.out
  clear xf
  go_cut [4] (fun s4 wx => s4 = .bool pb ∧ wx = W)
  case first =>
    go_wp2_with fail
    all_goals
      go_meet
      exact ⟨by rw [← HP.out]; unfold piecesB someB; simp [*], rfl⟩
  case rest =>
    obtain ⟨rfl, rfl⟩ := hcut
    go_upto_region 3 with fail
    go_cut [5] (fun s5 wx => s5 = .bool rb ∧ wx = wc)
    case first =>
      go_wp2_with fail
      all_goals
        go_meet
        exact ⟨by rw [← HRB.out]; unfold ruledB someB; simp [*], rfl⟩
    case rest =>
      obtain ⟨rfl, he⟩ := hcut
      obtain rfl := he
      have HD := Lib.hid (fun V => described_any B it.desc V (by omega))
      rw [HP.out, HRB.out] at HX
      go_upto_region 13 with fail
      go_loop [116] (fun i => ∃ k : Nat, k ≤ it.mids.length ∧ i = .int .i64 k ∧ Hid ((it.mids.take k).all someB = true)) (fun i => it.mids.length - (intOf i).toNat)
      case atStart => exact ⟨0, Nat.zero_le _, rfl, Lib.hid rfl⟩
      case round =>
        obtain ⟨k, hk, rfl, HA⟩ := hrel
        by_cases hlt : k < it.mids.length
        · obtain ⟨r, hr⟩ : ∃ r, it.mids[k]? = some r := ⟨_, List.getElem?_eq_getElem hlt⟩
          rcases HTT.out with h | ⟨mb, mo, rfl, hmb, hcell⟩
          · rw [h] at hlt; exact absurd hlt (by simp)
          · have hc := (HK.out.cell ⟨mb, mo + k, none⟩ (by show mb < _; omega) (by simp)).trans (hcell k r hr)
            have HSN := Lib.hid (all_snoc someB it.mids k r hr)
            obtain ⟨eb, heb, HEB⟩ : ∃ eb : Bool, r.toList.isEmpty = eb ∧ Hid (someB r = !eb) := ⟨_, rfl, Lib.hid rfl⟩
            clear hcell hr
            cases eb with
            | true =>
              have HN : Hid (it.mids.all someB = false) := Lib.hid (by
                cases ha : it.mids.all someB with
                | false => rfl
                | true =>
                  have h2 : (it.mids.take (k + 1)).all someB = true := List.all_eq_true.2 fun x hx => List.all_eq_true.1 ha x (List.mem_of_mem_take hx)
                  rw [HSN.out, HEB.out] at h2
                  simp at h2)
              go_wp2_with fail
              go_ret
              exact ⟨ret_bool (by rw [HX.out, HN.out]; rfl), HK.out⟩
            | false =>
              go_wp2_with fail
              go_round
              case rel => exact ⟨k + 1, by omega, by go_num, Lib.hid (by rw [HSN.out, HA.out, HEB.out]; rfl)⟩
              case measure => simp [intOf]; omega
        · have HAL : Hid (it.mids.all someB = true) := Lib.hid (by have := HA.out; rwa [List.take_of_length_le (by omega)] at this)
          rw [HAL.out] at HX
          clear HA
          cases hn : decide (n1 = 0) with
          | false =>
            have hn0 : ((n1 : Int) == 0) = false := by rw [beq_eq_false_iff_ne]; have := of_decide_eq_false hn; omega
            rw [hn] at HX
            clear hn
            go_wp2_with fail
            go_ret
            exact ⟨ret_bool (by rw [HX.out]; rfl), HK.out⟩
          | true =>
            have hn0 : ((n1 : Int) == 0) = true := by rw [beq_iff_eq]; have := of_decide_eq_true hn; omega
            rw [hn] at HX
            clear hn
            cases pb with
            | false =>
              go_wp2_with fail
              go_ret
              exact ⟨ret_bool (by rw [HX.out]; rfl), HK.out⟩
            | true =>
              cases rb with
              | true =>
                go_wp2_with fail
                go_ret
                exact ⟨ret_bool (by rw [HX.out]; rfl), HK.out⟩
              | false =>
                obtain ⟨vb, hvb, HVB⟩ : ∃ vb : Bool, it.value.toList.isEmpty = vb ∧ Hid (someB it.value = !vb) := ⟨_, rfl, Lib.hid rfl⟩
                rw [HVB.out] at HX
                cases vb with
                | false =>
                  go_wp2_with fail
                  go_ret
                  exact ⟨ret_bool (by rw [HX.out]; rfl), HK.out⟩
                | true =>
                  go_wp2_with (go_at_call 66; refine (HD.out _ (HE.out.keep0 HK.out)).mono ?_; rintro e w' ⟨rfl, hK⟩)
                  go_ret
                  exact ⟨ret_bool (by rw [HX.out]; rfl), HK.out.trans hK⟩
end Go.Proofs.YtjmpcoedfoaebaaGreatDoor
