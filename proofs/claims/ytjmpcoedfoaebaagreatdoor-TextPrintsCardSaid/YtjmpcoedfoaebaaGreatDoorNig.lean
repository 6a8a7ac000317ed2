/- The reference's fields: a part, its kids left aside. Kinds 4, 9, and none of them. -/
import Derived.Test.YtjmpcoedfoaebaaGreatDoorNif
import Derived.Test.YtjmpcoedfoaebaaGreatDoorAgl
import Derived.Deep.DeepCutAuto
open Go Go.RowKit
namespace Go.Proofs.YtjmpcoedfoaebaaGreatDoor


set_option maxHeartbeats 4000000 in
set_option maxRecDepth 100000 in
theorem field_k4 : FieldK 4 := by
  intro H it a1 n1 c1 a2 c2 w hk hH hT hml hz1 hz2
  unfold topLen at hz1 hz2
  have HT := Lib.hid hT
  clear hT hz2
  have HX : Hid (rightB it n1 = (it.mids.all someB && (decide (n1 = 0) && piecesB it && !ruledB it && !someB it.value && descQ it.desc))) := Lib.hid (by
    unfold rightB
    rw [if_neg (by omega), if_neg (by omega), if_pos hk]
    simp only [Bool.and_assoc])
  obtain ⟨pb, hpb⟩ : ∃ pb, piecesB it = pb := ⟨_, rfl⟩
  obtain ⟨rb, hrb⟩ : ∃ rb, ruledB it = rb := ⟨_, rfl⟩
  have HP := Lib.hid hpb
  have HRB := Lib.hid hrb
  rw [hk]
  clear hk hpb hrb
  go_enter Tryz.func81, Tryz.ntmps81
  go_upto_region 1 with fail
  obtain ⟨W, hW⟩ : ∃ W, W = w.alloc (.cells #[.int .i8 4, .slice a1 n1 c1, .string it.desc, .string it.value, .string it.start, .slice a2 it.mids.length c2, .string it.fin, .string it.rule, .bool it.dn] 26) := ⟨_, rfl⟩
  have hb : Hid (W.heap[w.heap.size]? = some (.cells #[.int .i8 4, .slice a1 n1 c1, .string it.desc, .string it.value, .string it.start, .slice a2 it.mids.length c2, .string it.fin, .string it.rule, .bool it.dn] 26 (0, 0))) := Lib.hid (by rw [hW]; exact alloc_at _ _)
  have HK : Hid (Keep [] w W) := Lib.hid (by rw [hW]; exact (Keep.refl [] w).alloc _)
  rw [← hW]
  clear hW
  obtain ⟨x0, x1, x2, x3, x4, x5, x6, x7, x8, xf⟩ := nine hb.out
  clear xf
  go_cut [3] (fun s4 wx => s4 = .bool pb ∧ wx = W)
  case first =>
    obtain ⟨mb, hmb⟩ : ∃ mb, decide (0 < it.mids.length) = mb := ⟨_, rfl⟩
    have HMB := Lib.hid hmb
    cases mb with
    | true =>
      have hm1 : (0 : Int) < (it.mids.length : Int) := by have := of_decide_eq_true hmb; omega
      have hm2 : 0 < it.mids.length := of_decide_eq_true hmb
      clear hmb
      go_wp2_with fail
      all_goals
        go_meet
        exact ⟨by rw [← HP.out]; unfold piecesB someB; rw [HMB.out]; simp [*], rfl⟩
    | false =>
      have hm1 : ¬ ((0 : Int) < (it.mids.length : Int)) := by have := of_decide_eq_false hmb; omega
      have hm2 : ¬ (0 < it.mids.length) := of_decide_eq_false hmb
      clear hmb
      go_wp2_with fail
      all_goals
        go_meet
        exact ⟨by rw [← HP.out]; unfold piecesB someB; rw [HMB.out]; simp [*], rfl⟩
  case rest =>
    obtain ⟨rfl, rfl⟩ := hcut
    go_upto_region 2 with fail
    go_cut [4] (fun s5 wx => s5 = .bool rb ∧ wx = wc)
    case first =>
      go_wp2_with fail
      all_goals
        go_meet
        exact ⟨by rw [← HRB.out]; unfold ruledB someB; simp [*], rfl⟩
    case rest =>
      obtain ⟨rfl, he⟩ := hcut
      obtain rfl := he
      rw [HP.out, HRB.out] at HX
      obtain ⟨db, hdb⟩ : ∃ db, descL it.desc.data.toList = db := ⟨_, rfl⟩
      have hD := fun V => ydesc_any it.desc V (by omega)
      rw [hdb] at hD
      rw [descQ_list, hdb] at HX
      have HD := Lib.hid hD
      clear hD hdb
      obtain ⟨M, hM⟩ : ∃ M, it.mids.all someB = M := ⟨_, rfl⟩
      rw [hM] at HX
      have HM := Lib.hid hM
      clear hM x1 x2 x3 x4 x5 x6 x7 x8
      have HWK : Hid (Keep [] wc wc) := Lib.hid (Keep.refl _ _)
      go_wp2_with fail
      clear x0
      go_loopg [5] (it.mids.length) (fun g i wr => ∃ k : Nat, k ≤ it.mids.length ∧ it.mids.length ≤ g + k ∧ i = .int .i64 k ∧ Hid ((it.mids.drop k).all someB = M) ∧ Hid (Keep [] wc wr))
      case atStart => exact ⟨0, Nat.zero_le _, by omega, rfl, HM, HWK⟩
      case round =>
        obtain ⟨k, hk, hg, rfl, HS, HKr⟩ := hrel
        obtain ⟨x0, x1, x2, x3, x4, x5, x6, x7, x8, xf⟩ := nine (HKr.out.heap hb.out (by simp))
        clear xf
        by_cases hlt : k < it.mids.length
        · obtain ⟨r, hr⟩ : ∃ r, it.mids[k]? = some r := ⟨_, List.getElem?_eq_getElem hlt⟩
          obtain ⟨mb, mo, rfl, hmb, hc⟩ := (HT.out.keep0 (HK.out.trans HKr.out) hH).at hr
          have HS2 : Hid ((someB r && (it.mids.drop (k + 1)).all someB) = M) := Lib.hid (by
            rw [← HS.out, List.drop_eq_getElem_cons hlt, List.all_cons, (List.getElem?_eq_some_iff.1 hr).2])
          clear hr
          cases hre : r.toList.isEmpty with
          | true =>
            have HMF : Hid (M = false) := Lib.hid (by rw [← HS2.out, some_emp hre]; rfl)
            clear HS2
            go_wp2_with fail
            go_ret
            exact ⟨ret_bool (by rw [HX.out, HMF.out]; rfl), HK.out.trans HKr.out⟩
          | false =>
            have HS3 : Hid ((it.mids.drop (k + 1)).all someB = M) := Lib.hid (by rw [← HS2.out, some_emp hre]; rfl)
            clear HS2
            go_wp2_with fail
            go_roundg (it.mids.length - (k + 1))
            case measure => omega
            case rel => exact ⟨k + 1, by omega, by omega, by go_num, HS3, HKr⟩
        have HMT : Hid (M = true) := Lib.hid (by rw [← HS.out, List.drop_of_length_le (by omega)]; rfl)
        rw [HMT.out] at HX
        clear HMT HS HM HT
        cases hn : decide (n1 = 0) with
        | false =>
          have hnf : ((n1 : Int) == 0) = false := by rw [beq_eq_false_iff_ne]; have := of_decide_eq_false hn; omega
          rw [hn] at HX
          clear hn
          go_wp2_with fail
          go_ret
          exact ⟨ret_bool (by rw [HX.out]; simp), HK.out.trans HKr.out⟩
        | true =>
          have hnf : ((n1 : Int) == 0) = true := by rw [beq_iff_eq]; have := of_decide_eq_true hn; omega
          rw [hn] at HX
          clear hn
          cases db with
          | false =>
            go_wp2_with (go_at_call 114; refine (HD.out _).mono ?_; rintro e w2 ⟨rfl, hK2⟩; have HK2 := Lib.hid hK2; obtain ⟨z0, z1, z2, z3, z4, z5, z6, z7, z8, zf⟩ := nine (hK2.heap (HKr.out.heap hb.out (by simp)) (by simp)); clear hK2 zf)
            go_ret
            exact ⟨ret_bool (by rw [HX.out]; simp), (HK.out.trans HKr.out).trans HK2.out⟩
          | true =>
            cases hvE : it.value.toList.isEmpty with
            | false =>
              rw [some_emp hvE] at HX
              go_wp2_with (go_at_call 114; refine (HD.out _).mono ?_; rintro e w2 ⟨rfl, hK2⟩; have HK2 := Lib.hid hK2; obtain ⟨z0, z1, z2, z3, z4, z5, z6, z7, z8, zf⟩ := nine (hK2.heap (HKr.out.heap hb.out (by simp)) (by simp)); clear hK2 zf)
              go_ret
              exact ⟨ret_bool (by rw [HX.out]; simp), (HK.out.trans HKr.out).trans HK2.out⟩
            | true =>
              rw [some_emp hvE] at HX
              cases pb with
              | false =>
                go_wp2_with (go_at_call 114; refine (HD.out _).mono ?_; rintro e w2 ⟨rfl, hK2⟩; have HK2 := Lib.hid hK2; obtain ⟨z0, z1, z2, z3, z4, z5, z6, z7, z8, zf⟩ := nine (hK2.heap (HKr.out.heap hb.out (by simp)) (by simp)); clear hK2 zf)
                go_ret
                exact ⟨ret_bool (by rw [HX.out]; simp), (HK.out.trans HKr.out).trans HK2.out⟩
              | true =>
                cases rb with
                | true =>
                  go_wp2_with (go_at_call 114; refine (HD.out _).mono ?_; rintro e w2 ⟨rfl, hK2⟩; have HK2 := Lib.hid hK2; obtain ⟨z0, z1, z2, z3, z4, z5, z6, z7, z8, zf⟩ := nine (hK2.heap (HKr.out.heap hb.out (by simp)) (by simp)); clear hK2 zf)
                  go_ret
                  exact ⟨ret_bool (by rw [HX.out]; simp), (HK.out.trans HKr.out).trans HK2.out⟩
                | false =>
                  go_wp2_with (go_at_call 114; refine (HD.out _).mono ?_; rintro e w2 ⟨rfl, hK2⟩; have HK2 := Lib.hid hK2; obtain ⟨z0, z1, z2, z3, z4, z5, z6, z7, z8, zf⟩ := nine (hK2.heap (HKr.out.heap hb.out (by simp)) (by simp)); clear hK2 zf)
                  go_ret
                  exact ⟨ret_bool (by rw [HX.out]; simp), (HK.out.trans HKr.out).trans HK2.out⟩

set_option maxHeartbeats 4000000 in
set_option maxRecDepth 100000 in
theorem field_k9 : FieldK 9 := by
  intro H it a1 n1 c1 a2 c2 w hk hH hT hml hz1 hz2
  unfold topLen at hz1 hz2
  clear hH hT hml
  have HX : Hid (rightB it n1 = (decide (n1 = 0) && !piecesB it && (someB it.desc || someB it.rule) && (!someB it.desc || descQ it.desc) && (!someB it.rule || (wordQ it.rule && decide (Lib.toLowerD it.rule.data.toList ≠ [100, 110]))))) := Lib.hid (by
    unfold rightB
    rw [if_neg (by omega), if_pos hk])
  obtain ⟨pb, hpb⟩ : ∃ pb, piecesB it = pb := ⟨_, rfl⟩
  obtain ⟨rb, hrb⟩ : ∃ rb, ruledB it = rb := ⟨_, rfl⟩
  have HP := Lib.hid hpb
  have HRB := Lib.hid hrb
  rw [hk]
  clear hk hpb hrb
  go_enter Tryz.func81, Tryz.ntmps81
  go_upto_region 1 with fail
  obtain ⟨W, hW⟩ : ∃ W, W = w.alloc (.cells #[.int .i8 9, .slice a1 n1 c1, .string it.desc, .string it.value, .string it.start, .slice a2 it.mids.length c2, .string it.fin, .string it.rule, .bool it.dn] 26) := ⟨_, rfl⟩
  have hb : Hid (W.heap[w.heap.size]? = some (.cells #[.int .i8 9, .slice a1 n1 c1, .string it.desc, .string it.value, .string it.start, .slice a2 it.mids.length c2, .string it.fin, .string it.rule, .bool it.dn] 26 (0, 0))) := Lib.hid (by rw [hW]; exact alloc_at _ _)
  have HK : Hid (Keep [] w W) := Lib.hid (by rw [hW]; exact (Keep.refl [] w).alloc _)
  rw [← hW]
  clear hW
  obtain ⟨x0, x1, x2, x3, x4, x5, x6, x7, x8, xf⟩ := nine hb.out
  clear xf
  go_cut [3] (fun s4 wx => s4 = .bool pb ∧ wx = W)
  case first =>
    obtain ⟨mb, hmb⟩ : ∃ mb, decide (0 < it.mids.length) = mb := ⟨_, rfl⟩
    have HMB := Lib.hid hmb
    cases mb with
    | true =>
      have hm1 : (0 : Int) < (it.mids.length : Int) := by have := of_decide_eq_true hmb; omega
      have hm2 : 0 < it.mids.length := of_decide_eq_true hmb
      clear hmb
      go_wp2_with fail
      all_goals
        go_meet
        exact ⟨by rw [← HP.out]; unfold piecesB someB; rw [HMB.out]; simp [*], rfl⟩
    | false =>
      have hm1 : ¬ ((0 : Int) < (it.mids.length : Int)) := by have := of_decide_eq_false hmb; omega
      have hm2 : ¬ (0 < it.mids.length) := of_decide_eq_false hmb
      clear hmb
      go_wp2_with fail
      all_goals
        go_meet
        exact ⟨by rw [← HP.out]; unfold piecesB someB; rw [HMB.out]; simp [*], rfl⟩
  case rest =>
    obtain ⟨rfl, rfl⟩ := hcut
    go_upto_region 2 with fail
    go_cut [4] (fun s5 wx => s5 = .bool rb ∧ wx = wc)
    case first =>
      go_wp2_with fail
      all_goals
        go_meet
        exact ⟨by rw [← HRB.out]; unfold ruledB someB; simp [*], rfl⟩
    case rest =>
      obtain ⟨rfl, he⟩ := hcut
      obtain rfl := he
      obtain ⟨db, hdb, HDB⟩ : ∃ db : Bool, it.desc.toList.isEmpty = db ∧ Hid (someB it.desc = !db) := ⟨_, rfl, Lib.hid rfl⟩
      obtain ⟨eb, heb, HEB⟩ : ∃ eb : Bool, it.rule.toList.isEmpty = eb ∧ Hid (someB it.rule = !eb) := ⟨_, rfl, Lib.hid rfl⟩
      obtain ⟨T, hT⟩ : ∃ T : ByteArray, (⟨(Lib.toLowerA it.rule.data.toList).toArray⟩ : ByteArray) = T := ⟨_, rfl⟩
      obtain ⟨wq, hwq⟩ : ∃ wq, wordL it.rule.data.toList = wq := ⟨_, rfl⟩
      obtain ⟨dq, hdq⟩ : ∃ dq, descL it.desc.data.toList = dq := ⟨_, rfl⟩
      have HTA : Hid (wq = true → Lib.toLowerD it.rule.data.toList = T.data.toList) := Lib.hid (fun h => by
        rw [Lib.toLowerD_ascii _ (word_asciiL (hwq.trans h)), ← hT])
      obtain ⟨nb, hnb⟩ : ∃ nb : Bool, (T.toList == [100, 110]) = nb := ⟨_, rfl⟩
      have HNB : Hid (wq = true → decide (Lib.toLowerD it.rule.data.toList ≠ [100, 110]) = !nb) := Lib.hid (fun h => by
        rw [HTA.out h, ← hnb, ByteArray.toList_eq]
        by_cases h2 : T.data.toList = [100, 110]
        · rw [h2]; decide
        · rw [decide_eq_true h2, beq_eq_false_iff_ne.2 h2]; rfl)
      have hWD := fun V => yword_any it.rule V (by omega)
      have hDD := fun V => ydesc_any it.desc V (by omega)
      have hSM := fun V => ysmall_any it.rule V (by omega)
      rw [hwq] at hWD
      rw [hdq] at hDD
      rw [hT] at hSM
      have HWD := Lib.hid hWD
      have HDD := Lib.hid hDD
      have HSM := Lib.hid hSM
      rw [HP.out, wordQ_list, hwq, descQ_list, hdq] at HX
      clear hT hwq hdq hWD hDD hSM HTA HRB
      obtain ⟨wb, hwb⟩ : ∃ wb, (!someB it.rule || (wq && decide (Lib.toLowerD it.rule.data.toList ≠ [100, 110]))) = wb := ⟨_, rfl⟩
      obtain ⟨xb, hxb⟩ : ∃ xb, (!someB it.desc || dq) = xb := ⟨_, rfl⟩
      rw [hwb, hxb] at HX
      rw [HEB.out] at hwb
      rw [HDB.out] at hxb
      have HWB := Lib.hid hwb
      have HXB := Lib.hid hxb
      clear hwb hxb
      have HWK : Hid (Keep [] wc wc) := Lib.hid (Keep.refl _ _)
      rename World => V0
      go_upto_region 24 with fail
      go_cut [6] (fun s6 wx => s6 = .bool wb ∧ Hid (Keep [] V0 wx))
      case first =>
        cases eb with
        | true =>
          go_wp2_with fail
          go_meet
          exact ⟨by rw [← HWB.out]; rfl, HWK⟩
        | false =>
          cases wq with
          | false =>
            go_wp2_with (go_at_call 115; refine (HWD.out _).mono ?_; rintro e W6 ⟨rfl, hK6⟩; have HK6 := Lib.hid hK6; clear hK6)
            go_meet
            exact ⟨by rw [← HWB.out]; rfl, HK6⟩
          | true =>
            have HN2 := Lib.hid (HNB.out rfl)
            go_wp2_with (first
              | (go_at_call 115; refine (HWD.out _).mono ?_; rintro e W6 ⟨rfl, hK6⟩; have HK6 := Lib.hid hK6; obtain ⟨z0, z1, z2, z3, z4, z5, z6, z7, z8, zf⟩ := nine (hK6.heap hb.out (by simp)); clear hK6 zf)
              | (go_at_call 116; refine (HSM.out _).mono ?_; rintro e W7 ⟨rfl, hK7⟩; have HK7 := Lib.hid (HK6.out.trans hK7); clear hK7))
            go_meet
            exact ⟨by rw [← HWB.out, HN2.out]; cases nb <;> rfl, HK7⟩
      case rest =>
        obtain ⟨rfl, HKa⟩ := hcut
        clear x0 x1 x2 x3 x4 x5 x6 x7 x8
        obtain ⟨x0, x1, x2, x3, x4, x5, x6, x7, x8, xf⟩ := nine (HKa.out.heap hb.out (by simp))
        clear xf
        go_upto_region 25 with fail
        go_cut [7] (fun s7 wx => s7 = .bool xb ∧ Hid (Keep [] V0 wx))
        case first =>
          cases db with
          | true =>
            go_wp2_with fail
            go_meet
            exact ⟨by rw [← HXB.out]; rfl, HKa⟩
          | false =>
            go_wp2_with (go_at_call 114; refine (HDD.out _).mono ?_; rintro e W6 ⟨rfl, hK6⟩; have HK6 := Lib.hid (HKa.out.trans hK6); clear hK6)
            go_meet
            exact ⟨by rw [← HXB.out]; rfl, HK6⟩
        case rest =>
          obtain ⟨rfl, HKb⟩ := hcut
          clear x0 x1 x2 x3 x4 x5 x6 x7 x8 HKa
          obtain ⟨x0, x1, x2, x3, x4, x5, x6, x7, x8, xf⟩ := nine (HKb.out.heap hb.out (by simp))
          clear xf
          have HKc := Lib.hid (HK.out.trans HKb.out)
          obtain ⟨cb, hcb, HCB⟩ : ∃ cb : Bool, (it.desc ++ it.rule).toList.isEmpty = cb ∧ Hid ((someB it.desc || someB it.rule) = !cb) := ⟨_, rfl, Lib.hid (by
            unfold someB
            rw [ByteArray.toList_eq, ByteArray.toList_eq, ByteArray.toList_eq, ByteArray.data_append, Array.toList_append]
            cases it.desc.data.toList <;> cases it.rule.data.toList <;> rfl)⟩
          rw [HCB.out] at HX
          have hsz : (it.desc.size : Int) + (it.rule.size : Int) ≤ 281474976702464 := by omega
          have hsz2 : it.desc.size + it.rule.size ≤ 281474976702464 := by omega
          cases hn : decide (n1 = 0) with
          | false =>
            have hnf : ((n1 : Int) == 0) = false := by rw [beq_eq_false_iff_ne]; have := of_decide_eq_false hn; omega
            rw [hn] at HX
            clear hn
            go_wp2_with fail
            go_ret
            exact ⟨ret_bool (by rw [HX.out]; simp), HKc.out⟩
          | true =>
            have hnf : ((n1 : Int) == 0) = true := by rw [beq_iff_eq]; have := of_decide_eq_true hn; omega
            rw [hn] at HX
            clear hn
            cases xb <;> cases wb <;> cases pb
            all_goals
              go_wp2_with fail
              go_ret
              exact ⟨ret_bool (by rw [HX.out]; simp), HKc.out⟩

set_option maxHeartbeats 4000000 in
set_option maxRecDepth 100000 in
theorem field_other (it : Itm) (a1 : Option Addr) (n1 c1 : Nat) (a2 : Option Addr) (c2 : Nat) (w : World) (hk : it.kind < 0 ∨ 9 < it.kind) :
    Calls Tryz.prog 81 #[.agg #[.int .i8 it.kind, .slice a1 n1 c1, .string it.desc, .string it.value, .string it.start, .slice a2 it.mids.length c2, .string it.fin, .string it.rule, .bool it.dn]] w (RetB w (rightB it n1)) := by
  have HX : Hid (rightB it n1 = false) := Lib.hid (by
    unfold rightB
    rw [if_neg (by omega), if_neg (by omega), if_neg (by omega), if_neg (by omega), if_neg (by omega)])
  have k0 : (it.kind == 0) = false := by rw [beq_eq_false_iff_ne]; omega
  have k1 : (it.kind == 1) = false := by rw [beq_eq_false_iff_ne]; omega
  have k2 : (it.kind == 2) = false := by rw [beq_eq_false_iff_ne]; omega
  have k3 : (it.kind == 3) = false := by rw [beq_eq_false_iff_ne]; omega
  have k4 : (it.kind == 4) = false := by rw [beq_eq_false_iff_ne]; omega
  have k5 : (it.kind == 5) = false := by rw [beq_eq_false_iff_ne]; omega
  have k6 : (it.kind == 6) = false := by rw [beq_eq_false_iff_ne]; omega
  have k7 : (it.kind == 7) = false := by rw [beq_eq_false_iff_ne]; omega
  have k8 : (it.kind == 8) = false := by rw [beq_eq_false_iff_ne]; omega
  have k9 : (it.kind == 9) = false := by rw [beq_eq_false_iff_ne]; omega
  obtain ⟨pb, hpb⟩ : ∃ pb, piecesB it = pb := ⟨_, rfl⟩
  obtain ⟨rb, hrb⟩ : ∃ rb, ruledB it = rb := ⟨_, rfl⟩
  have HP := Lib.hid hpb
  have HRB := Lib.hid hrb
  clear hk hpb hrb
  go_enter Tryz.func81, Tryz.ntmps81
  go_upto_region 1 with fail
  obtain ⟨W, hW⟩ : ∃ W, W = w.alloc (.cells #[.int .i8 it.kind, .slice a1 n1 c1, .string it.desc, .string it.value, .string it.start, .slice a2 it.mids.length c2, .string it.fin, .string it.rule, .bool it.dn] 26) := ⟨_, rfl⟩
  have hb : Hid (W.heap[w.heap.size]? = some (.cells #[.int .i8 it.kind, .slice a1 n1 c1, .string it.desc, .string it.value, .string it.start, .slice a2 it.mids.length c2, .string it.fin, .string it.rule, .bool it.dn] 26 (0, 0))) := Lib.hid (by rw [hW]; exact alloc_at _ _)
  have HK : Hid (Keep [] w W) := Lib.hid (by rw [hW]; exact (Keep.refl [] w).alloc _)
  rw [← hW]
  clear hW
  obtain ⟨x0, x1, x2, x3, x4, x5, x6, x7, x8, xf⟩ := nine hb.out
  clear xf
  go_cut [3] (fun s4 wx => s4 = .bool pb ∧ wx = W)
  case first =>
    obtain ⟨mb, hmb⟩ : ∃ mb, decide (0 < it.mids.length) = mb := ⟨_, rfl⟩
    have HMB := Lib.hid hmb
    cases mb with
    | true =>
      have hm1 : (0 : Int) < (it.mids.length : Int) := by have := of_decide_eq_true hmb; omega
      have hm2 : 0 < it.mids.length := of_decide_eq_true hmb
      clear hmb
      go_wp2_with fail
      all_goals
        go_meet
        exact ⟨by rw [← HP.out]; unfold piecesB someB; rw [HMB.out]; simp [*], rfl⟩
    | false =>
      have hm1 : ¬ ((0 : Int) < (it.mids.length : Int)) := by have := of_decide_eq_false hmb; omega
      have hm2 : ¬ (0 < it.mids.length) := of_decide_eq_false hmb
      clear hmb
      go_wp2_with fail
      all_goals
        go_meet
        exact ⟨by rw [← HP.out]; unfold piecesB someB; rw [HMB.out]; simp [*], rfl⟩
  case rest =>
    obtain ⟨rfl, rfl⟩ := hcut
    go_upto_region 2 with fail
    go_cut [4] (fun s5 wx => s5 = .bool rb ∧ wx = wc)
    case first =>
      go_wp2_with fail
      all_goals
        go_meet
        exact ⟨by rw [← HRB.out]; unfold ruledB someB; simp [*], rfl⟩
    case rest =>
      obtain ⟨rfl, he⟩ := hcut
      obtain rfl := he
      go_wp2_with fail
      go_ret
      exact ⟨ret_bool (by rw [HX.out]), HK.out⟩

theorem yfields_any (H : Nat) (it : Itm) (a1 : Option Addr) (n1 c1 : Nat) (a2 : Option Addr) (c2 : Nat) (w : World) (hH : H ≤ w.heap.size) (hT : Txt w H a2 it.mids) (hml : it.mids.length ≤ 9223372036854775807) (hd : it.desc.size ≤ topLen) (hr : it.rule.size ≤ topLen) :
    Calls Tryz.prog 81 #[.agg #[.int .i8 it.kind, .slice a1 n1 c1, .string it.desc, .string it.value, .string it.start, .slice a2 it.mids.length c2, .string it.fin, .string it.rule, .bool it.dn]] w (RetB w (rightB it n1)) := by
  by_cases hk : it.kind < 0 ∨ 9 < it.kind
  · exact field_other it a1 n1 c1 a2 c2 w hk
  · rcases (show it.kind = 0 ∨ it.kind = 1 ∨ it.kind = 2 ∨ it.kind = 3 ∨ it.kind = 4 ∨ it.kind = 5 ∨ it.kind = 6 ∨ it.kind = 7 ∨ it.kind = 8 ∨ it.kind = 9 by omega) with h | h | h | h | h | h | h | h | h | h
    · exact field_k0 H it a1 n1 c1 a2 c2 w h hH hT hml hd hr
    · exact field_k1 H it a1 n1 c1 a2 c2 w h hH hT hml hd hr
    · exact field_k2 H it a1 n1 c1 a2 c2 w h hH hT hml hd hr
    · exact field_k3 H it a1 n1 c1 a2 c2 w h hH hT hml hd hr
    · exact field_k4 H it a1 n1 c1 a2 c2 w h hH hT hml hd hr
    · exact field_k5 H it a1 n1 c1 a2 c2 w h hH hT hml hd hr
    · exact field_k6 H it a1 n1 c1 a2 c2 w h hH hT hml hd hr
    · exact field_k7 H it a1 n1 c1 a2 c2 w h hH hT hml hd hr
    · exact field_k8 H it a1 n1 c1 a2 c2 w h hH hT hml hd hr
    · exact field_k9 H it a1 n1 c1 a2 c2 w h hH hT hml hd hr
end Go.Proofs.YtjmpcoedfoaebaaGreatDoor
