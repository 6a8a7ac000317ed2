/- The reference's fields: a part, its kids left aside. Printed by genfields.py. -/
import Derived.Test.YtjmpcoedfoaebaaGreatDoorNiz
import Derived.Test.YtjmpcoedfoaebaaGreatDoorAgl
import Derived.Deep.DeepCutAuto
open Go Go.RowKit
namespace Go.Proofs.YtjmpcoedfoaebaaGreatDoor

def FieldK (k : Int) : Prop := ∀ (H : Nat) (it : Itm) (a1 : Option Addr) (n1 c1 : Nat) (a2 : Option Addr) (c2 : Nat) (w : World), it.kind = k → H ≤ w.heap.size → Txt w H a2 it.mids → it.mids.length ≤ 9223372036854775807 → it.desc.size ≤ topLen → it.rule.size ≤ topLen →
  Calls Tryz.prog 81 #[.agg #[.int .i8 it.kind, .slice a1 n1 c1, .string it.desc, .string it.value, .string it.start, .slice a2 it.mids.length c2, .string it.fin, .string it.rule, .bool it.dn]] w (RetB w (rightB it n1))
theorem some_emp {s : ByteArray} {b : Bool} (h : s.toList.isEmpty = b) : someB s = !b := by unfold someB; rw [h]

set_option maxHeartbeats 4000000 in
set_option maxRecDepth 100000 in
theorem field_k0 : FieldK 0 := by
  intro H it a1 n1 c1 a2 c2 w hk hH hT hml hz1 hz2
  unfold topLen at hz1 hz2
  clear hH hT hml hz1 hz2
  have HX : Hid (rightB it n1 = (decide (0 < n1) && !someB it.desc && !someB it.value && !piecesB it && !ruledB it)) := Lib.hid (by unfold rightB; simp [hk])
  obtain ⟨pb, hpb⟩ : ∃ pb, piecesB it = pb := ⟨_, rfl⟩
  obtain ⟨rb, hrb⟩ : ∃ rb, ruledB it = rb := ⟨_, rfl⟩
  have HP := Lib.hid hpb
  have HRB := Lib.hid hrb
  rw [hk]
  clear hk hpb hrb
  go_enter Tryz.func81, Tryz.ntmps81
  go_upto_region 1 with fail
  obtain ⟨W, hW⟩ : ∃ W, W = w.alloc (.cells #[.int .i8 0, .slice a1 n1 c1, .string it.desc, .string it.value, .string it.start, .slice a2 it.mids.length c2, .string it.fin, .string it.rule, .bool it.dn] 26) := ⟨_, rfl⟩
  have hb : Hid (W.heap[w.heap.size]? = some (.cells #[.int .i8 0, .slice a1 n1 c1, .string it.desc, .string it.value, .string it.start, .slice a2 it.mids.length c2, .string it.fin, .string it.rule, .bool it.dn] 26 (0, 0))) := Lib.hid (by rw [hW]; exact alloc_at _ _)
  have HK : Hid (Keep [] w W) := Lib.hid (by rw [hW]; exact (Keep.refl [] w).alloc _)
  rw [← hW]
  clear hW
  obtain ⟨x0, x1, x2, x3, x4, x5, x6, x7, x8, xf⟩ := nine hb.out
  clear xf
  go_cut [3] (fun s4 wx => s4 = .bool pb ∧ wx = W)
  case first =>
    obtain ⟨mb, hmb⟩ : ∃ mb, decide (0 < it.mids.length) = mb := ⟨_, rfl⟩
    have HMB := Lib.hid hmb
    cases mb with
    | true =>
      have hm1 : (0 : Int) < (it.mids.length : Int) := by have := of_decide_eq_true hmb; omega
      have hm2 : 0 < it.mids.length := of_decide_eq_true hmb
      clear hmb
      go_wp2_with fail
      all_goals
        go_meet
        exact ⟨by rw [← HP.out]; unfold piecesB someB; rw [HMB.out]; simp [*], rfl⟩
    | false =>
      have hm1 : ¬ ((0 : Int) < (it.mids.length : Int)) := by have := of_decide_eq_false hmb; omega
      have hm2 : ¬ (0 < it.mids.length) := of_decide_eq_false hmb
      clear hmb
      go_wp2_with fail
      all_goals
        go_meet
        exact ⟨by rw [← HP.out]; unfold piecesB someB; rw [HMB.out]; simp [*], rfl⟩
  case rest =>
    obtain ⟨rfl, rfl⟩ := hcut
    go_upto_region 2 with fail
    go_cut [4] (fun s5 wx => s5 = .bool rb ∧ wx = wc)
    case first =>
      go_wp2_with fail
      all_goals
        go_meet
        exact ⟨by rw [← HRB.out]; unfold ruledB someB; simp [*], rfl⟩
    case rest =>
      obtain ⟨rfl, he⟩ := hcut
      obtain rfl := he
      rw [HP.out, HRB.out] at HX
      cases hn : decide (0 < n1) with
      | false =>
        have hnf : ¬ ((0 : Int) < (n1 : Int)) := by have := of_decide_eq_false hn; omega
        rw [hn] at HX
        clear hn
        go_wp2_with fail
        go_ret
        exact ⟨ret_bool (by rw [HX.out]; simp), HK.out⟩
      | true =>
        have hnf : (0 : Int) < (n1 : Int) := by have := of_decide_eq_true hn; omega
        rw [hn] at HX
        clear hn
        cases hdE : it.desc.toList.isEmpty with
        | false =>
          rw [some_emp hdE] at HX
          go_wp2_with fail
          go_ret
          exact ⟨ret_bool (by rw [HX.out]; simp), HK.out⟩
        | true =>
          rw [some_emp hdE] at HX
          cases hvE : it.value.toList.isEmpty with
          | false =>
            rw [some_emp hvE] at HX
            go_wp2_with fail
            go_ret
            exact ⟨ret_bool (by rw [HX.out]; simp), HK.out⟩
          | true =>
            rw [some_emp hvE] at HX
            cases pb with
            | true =>
              go_wp2_with fail
              go_ret
              exact ⟨ret_bool (by rw [HX.out]; simp), HK.out⟩
            | false =>
              cases rb with
              | true =>
                go_wp2_with fail
                go_ret
                exact ⟨ret_bool (by rw [HX.out]; simp), HK.out⟩
              | false =>
                go_wp2_with fail
                go_ret
                exact ⟨ret_bool (by rw [HX.out]; simp), HK.out⟩

set_option maxHeartbeats 4000000 in
set_option maxRecDepth 100000 in
theorem field_k1 : FieldK 1 := by
  intro H it a1 n1 c1 a2 c2 w hk hH hT hml hz1 hz2
  unfold topLen at hz1 hz2
  clear hH hT hml hz1 hz2
  have HX : Hid (rightB it n1 = (decide (0 < n1) && !someB it.desc && !someB it.value && !piecesB it && !ruledB it)) := Lib.hid (by unfold rightB; simp [hk])
  obtain ⟨pb, hpb⟩ : ∃ pb, piecesB it = pb := ⟨_, rfl⟩
  obtain ⟨rb, hrb⟩ : ∃ rb, ruledB it = rb := ⟨_, rfl⟩
  have HP := Lib.hid hpb
  have HRB := Lib.hid hrb
  rw [hk]
  clear hk hpb hrb
  go_enter Tryz.func81, Tryz.ntmps81
  go_upto_region 1 with fail
  obtain ⟨W, hW⟩ : ∃ W, W = w.alloc (.cells #[.int .i8 1, .slice a1 n1 c1, .string it.desc, .string it.value, .string it.start, .slice a2 it.mids.length c2, .string it.fin, .string it.rule, .bool it.dn] 26) := ⟨_, rfl⟩
  have hb : Hid (W.heap[w.heap.size]? = some (.cells #[.int .i8 1, .slice a1 n1 c1, .string it.desc, .string it.value, .string it.start, .slice a2 it.mids.length c2, .string it.fin, .string it.rule, .bool it.dn] 26 (0, 0))) := Lib.hid (by rw [hW]; exact alloc_at _ _)
  have HK : Hid (Keep [] w W) := Lib.hid (by rw [hW]; exact (Keep.refl [] w).alloc _)
  rw [← hW]
  clear hW
  obtain ⟨x0, x1, x2, x3, x4, x5, x6, x7, x8, xf⟩ := nine hb.out
  clear xf
  go_cut [3] (fun s4 wx => s4 = .bool pb ∧ wx = W)
  case first =>
    obtain ⟨mb, hmb⟩ : ∃ mb, decide (0 < it.mids.length) = mb := ⟨_, rfl⟩
    have HMB := Lib.hid hmb
    cases mb with
    | true =>
      have hm1 : (0 : Int) < (it.mids.length : Int) := by have := of_decide_eq_true hmb; omega
      have hm2 : 0 < it.mids.length := of_decide_eq_true hmb
      clear hmb
      go_wp2_with fail
      all_goals
        go_meet
        exact ⟨by rw [← HP.out]; unfold piecesB someB; rw [HMB.out]; simp [*], rfl⟩
    | false =>
      have hm1 : ¬ ((0 : Int) < (it.mids.length : Int)) := by have := of_decide_eq_false hmb; omega
      have hm2 : ¬ (0 < it.mids.length) := of_decide_eq_false hmb
      clear hmb
      go_wp2_with fail
      all_goals
        go_meet
        exact ⟨by rw [← HP.out]; unfold piecesB someB; rw [HMB.out]; simp [*], rfl⟩
  case rest =>
    obtain ⟨rfl, rfl⟩ := hcut
    go_upto_region 2 with fail
    go_cut [4] (fun s5 wx => s5 = .bool rb ∧ wx = wc)
    case first =>
      go_wp2_with fail
      all_goals
        go_meet
        exact ⟨by rw [← HRB.out]; unfold ruledB someB; simp [*], rfl⟩
    case rest =>
      obtain ⟨rfl, he⟩ := hcut
      obtain rfl := he
      rw [HP.out, HRB.out] at HX
      cases hn : decide (0 < n1) with
      | false =>
        have hnf : ¬ ((0 : Int) < (n1 : Int)) := by have := of_decide_eq_false hn; omega
        rw [hn] at HX
        clear hn
        go_wp2_with fail
        go_ret
        exact ⟨ret_bool (by rw [HX.out]; simp), HK.out⟩
      | true =>
        have hnf : (0 : Int) < (n1 : Int) := by have := of_decide_eq_true hn; omega
        rw [hn] at HX
        clear hn
        cases hdE : it.desc.toList.isEmpty with
        | false =>
          rw [some_emp hdE] at HX
          go_wp2_with fail
          go_ret
          exact ⟨ret_bool (by rw [HX.out]; simp), HK.out⟩
        | true =>
          rw [some_emp hdE] at HX
          cases hvE : it.value.toList.isEmpty with
          | false =>
            rw [some_emp hvE] at HX
            go_wp2_with fail
            go_ret
            exact ⟨ret_bool (by rw [HX.out]; simp), HK.out⟩
          | true =>
            rw [some_emp hvE] at HX
            cases pb with
            | true =>
              go_wp2_with fail
              go_ret
              exact ⟨ret_bool (by rw [HX.out]; simp), HK.out⟩
            | false =>
              cases rb with
              | true =>
                go_wp2_with fail
                go_ret
                exact ⟨ret_bool (by rw [HX.out]; simp), HK.out⟩
              | false =>
                go_wp2_with fail
                go_ret
                exact ⟨ret_bool (by rw [HX.out]; simp), HK.out⟩

set_option maxHeartbeats 4000000 in
set_option maxRecDepth 100000 in
theorem field_k2 : FieldK 2 := by
  intro H it a1 n1 c1 a2 c2 w hk hH hT hml hz1 hz2
  unfold topLen at hz1 hz2
  clear hH hT hml hz1 hz2
  have HX : Hid (rightB it n1 = (decide (n1 = 1) && !someB it.desc && !someB it.value && !piecesB it && !ruledB it)) := Lib.hid (by
    unfold rightB
    rw [if_pos (by omega), hk]
    cases h : decide (n1 = 1)
    · simp
    · rw [show decide (0 < n1) = true from decide_eq_true (by have := of_decide_eq_true h; omega)]; simp)
  obtain ⟨pb, hpb⟩ : ∃ pb, piecesB it = pb := ⟨_, rfl⟩
  obtain ⟨rb, hrb⟩ : ∃ rb, ruledB it = rb := ⟨_, rfl⟩
  have HP := Lib.hid hpb
  have HRB := Lib.hid hrb
  rw [hk]
  clear hk hpb hrb
  go_enter Tryz.func81, Tryz.ntmps81
  go_upto_region 1 with fail
  obtain ⟨W, hW⟩ : ∃ W, W = w.alloc (.cells #[.int .i8 2, .slice a1 n1 c1, .string it.desc, .string it.value, .string it.start, .slice a2 it.mids.length c2, .string it.fin, .string it.rule, .bool it.dn] 26) := ⟨_, rfl⟩
  have hb : Hid (W.heap[w.heap.size]? = some (.cells #[.int .i8 2, .slice a1 n1 c1, .string it.desc, .string it.value, .string it.start, .slice a2 it.mids.length c2, .string it.fin, .string it.rule, .bool it.dn] 26 (0, 0))) := Lib.hid (by rw [hW]; exact alloc_at _ _)
  have HK : Hid (Keep [] w W) := Lib.hid (by rw [hW]; exact (Keep.refl [] w).alloc _)
  rw [← hW]
  clear hW
  obtain ⟨x0, x1, x2, x3, x4, x5, x6, x7, x8, xf⟩ := nine hb.out
  clear xf
  go_cut [3] (fun s4 wx => s4 = .bool pb ∧ wx = W)
  case first =>
    obtain ⟨mb, hmb⟩ : ∃ mb, decide (0 < it.mids.length) = mb := ⟨_, rfl⟩
    have HMB := Lib.hid hmb
    cases mb with
    | true =>
      have hm1 : (0 : Int) < (it.mids.length : Int) := by have := of_decide_eq_true hmb; omega
      have hm2 : 0 < it.mids.length := of_decide_eq_true hmb
      clear hmb
      go_wp2_with fail
      all_goals
        go_meet
        exact ⟨by rw [← HP.out]; unfold piecesB someB; rw [HMB.out]; simp [*], rfl⟩
    | false =>
      have hm1 : ¬ ((0 : Int) < (it.mids.length : Int)) := by have := of_decide_eq_false hmb; omega
      have hm2 : ¬ (0 < it.mids.length) := of_decide_eq_false hmb
      clear hmb
      go_wp2_with fail
      all_goals
        go_meet
        exact ⟨by rw [← HP.out]; unfold piecesB someB; rw [HMB.out]; simp [*], rfl⟩
  case rest =>
    obtain ⟨rfl, rfl⟩ := hcut
    go_upto_region 2 with fail
    go_cut [4] (fun s5 wx => s5 = .bool rb ∧ wx = wc)
    case first =>
      go_wp2_with fail
      all_goals
        go_meet
        exact ⟨by rw [← HRB.out]; unfold ruledB someB; simp [*], rfl⟩
    case rest =>
      obtain ⟨rfl, he⟩ := hcut
      obtain rfl := he
      rw [HP.out, HRB.out] at HX
      cases hn : decide (n1 = 1) with
      | false =>
        have hnf : ((n1 : Int) == 1) = false := by rw [beq_eq_false_iff_ne]; have := of_decide_eq_false hn; omega
        rw [hn] at HX
        clear hn
        go_wp2_with fail
        go_ret
        exact ⟨ret_bool (by rw [HX.out]; simp), HK.out⟩
      | true =>
        have hnf : ((n1 : Int) == 1) = true := by rw [beq_iff_eq]; have := of_decide_eq_true hn; omega
        rw [hn] at HX
        clear hn
        cases hdE : it.desc.toList.isEmpty with
        | false =>
          rw [some_emp hdE] at HX
          go_wp2_with fail
          go_ret
          exact ⟨ret_bool (by rw [HX.out]; simp), HK.out⟩
        | true =>
          rw [some_emp hdE] at HX
          cases hvE : it.value.toList.isEmpty with
          | false =>
            rw [some_emp hvE] at HX
            go_wp2_with fail
            go_ret
            exact ⟨ret_bool (by rw [HX.out]; simp), HK.out⟩
          | true =>
            rw [some_emp hvE] at HX
            cases pb with
            | true =>
              go_wp2_with fail
              go_ret
              exact ⟨ret_bool (by rw [HX.out]; simp), HK.out⟩
            | false =>
              cases rb with
              | true =>
                go_wp2_with fail
                go_ret
                exact ⟨ret_bool (by rw [HX.out]; simp), HK.out⟩
              | false =>
                go_wp2_with fail
                go_ret
                exact ⟨ret_bool (by rw [HX.out]; simp), HK.out⟩

set_option maxHeartbeats 4000000 in
set_option maxRecDepth 100000 in
theorem field_k3 : FieldK 3 := by
  intro H it a1 n1 c1 a2 c2 w hk hH hT hml hz1 hz2
  unfold topLen at hz1 hz2
  clear hH hT hml hz2
  have HX : Hid (rightB it n1 = (decide (n1 = 0) && !piecesB it && !ruledB it && descQ it.desc)) := Lib.hid (by unfold rightB; simp [hk])
  obtain ⟨pb, hpb⟩ : ∃ pb, piecesB it = pb := ⟨_, rfl⟩
  obtain ⟨rb, hrb⟩ : ∃ rb, ruledB it = rb := ⟨_, rfl⟩
  have HP := Lib.hid hpb
  have HRB := Lib.hid hrb
  rw [hk]
  clear hk hpb hrb
  go_enter Tryz.func81, Tryz.ntmps81
  go_upto_region 1 with fail
  obtain ⟨W, hW⟩ : ∃ W, W = w.alloc (.cells #[.int .i8 3, .slice a1 n1 c1, .string it.desc, .string it.value, .string it.start, .slice a2 it.mids.length c2, .string it.fin, .string it.rule, .bool it.dn] 26) := ⟨_, rfl⟩
  have hb : Hid (W.heap[w.heap.size]? = some (.cells #[.int .i8 3, .slice a1 n1 c1, .string it.desc, .string it.value, .string it.start, .slice a2 it.mids.length c2, .string it.fin, .string it.rule, .bool it.dn] 26 (0, 0))) := Lib.hid (by rw [hW]; exact alloc_at _ _)
  have HK : Hid (Keep [] w W) := Lib.hid (by rw [hW]; exact (Keep.refl [] w).alloc _)
  rw [← hW]
  clear hW
  obtain ⟨x0, x1, x2, x3, x4, x5, x6, x7, x8, xf⟩ := nine hb.out
  clear xf
  go_cut [3] (fun s4 wx => s4 = .bool pb ∧ wx = W)
  case first =>
    obtain ⟨mb, hmb⟩ : ∃ mb, decide (0 < it.mids.length) = mb := ⟨_, rfl⟩
    have HMB := Lib.hid hmb
    cases mb with
    | true =>
      have hm1 : (0 : Int) < (it.mids.length : Int) := by have := of_decide_eq_true hmb; omega
      have hm2 : 0 < it.mids.length := of_decide_eq_true hmb
      clear hmb
      go_wp2_with fail
      all_goals
        go_meet
        exact ⟨by rw [← HP.out]; unfold piecesB someB; rw [HMB.out]; simp [*], rfl⟩
    | false =>
      have hm1 : ¬ ((0 : Int) < (it.mids.length : Int)) := by have := of_decide_eq_false hmb; omega
      have hm2 : ¬ (0 < it.mids.length) := of_decide_eq_false hmb
      clear hmb
      go_wp2_with fail
      all_goals
        go_meet
        exact ⟨by rw [← HP.out]; unfold piecesB someB; rw [HMB.out]; simp [*], rfl⟩
  case rest =>
    obtain ⟨rfl, rfl⟩ := hcut
    go_upto_region 2 with fail
    go_cut [4] (fun s5 wx => s5 = .bool rb ∧ wx = wc)
    case first =>
      go_wp2_with fail
      all_goals
        go_meet
        exact ⟨by rw [← HRB.out]; unfold ruledB someB; simp [*], rfl⟩
    case rest =>
      obtain ⟨rfl, he⟩ := hcut
      obtain rfl := he
      rw [HP.out, HRB.out] at HX
      obtain ⟨db, hdb⟩ : ∃ db, descL it.desc.data.toList = db := ⟨_, rfl⟩
      have hD := fun V => ydesc_any it.desc V (by omega)
      rw [hdb] at hD
      rw [descQ_list, hdb] at HX
      have HD := Lib.hid hD
      clear hD hdb
      cases hn : decide (n1 = 0) with
      | false =>
        have hnf : ((n1 : Int) == 0) = false := by rw [beq_eq_false_iff_ne]; have := of_decide_eq_false hn; omega
        rw [hn] at HX
        clear hn
        go_wp2_with fail
        go_ret
        exact ⟨ret_bool (by rw [HX.out]; simp), HK.out⟩
      | true =>
        have hnf : ((n1 : Int) == 0) = true := by rw [beq_iff_eq]; have := of_decide_eq_true hn; omega
        rw [hn] at HX
        clear hn
        cases db with
        | false =>
          go_wp2_with (go_at_call 114; refine (HD.out _).mono ?_; rintro e w2 ⟨rfl, hK2⟩; have HK2 := Lib.hid hK2; clear hK2)
          go_ret
          exact ⟨ret_bool (by rw [HX.out]; simp), HK.out.trans HK2.out⟩
        | true =>
          cases pb with
          | true =>
            go_wp2_with (go_at_call 114; refine (HD.out _).mono ?_; rintro e w2 ⟨rfl, hK2⟩; have HK2 := Lib.hid hK2; clear hK2)
            go_ret
            exact ⟨ret_bool (by rw [HX.out]; simp), HK.out.trans HK2.out⟩
          | false =>
            cases rb with
            | true =>
              go_wp2_with (go_at_call 114; refine (HD.out _).mono ?_; rintro e w2 ⟨rfl, hK2⟩; have HK2 := Lib.hid hK2; clear hK2)
              go_ret
              exact ⟨ret_bool (by rw [HX.out]; simp), HK.out.trans HK2.out⟩
            | false =>
              go_wp2_with (go_at_call 114; refine (HD.out _).mono ?_; rintro e w2 ⟨rfl, hK2⟩; have HK2 := Lib.hid hK2; clear hK2)
              go_ret
              exact ⟨ret_bool (by rw [HX.out]; simp), HK.out.trans HK2.out⟩

set_option maxHeartbeats 4000000 in
set_option maxRecDepth 100000 in
theorem field_k5 : FieldK 5 := by
  intro H it a1 n1 c1 a2 c2 w hk hH hT hml hz1 hz2
  unfold topLen at hz1 hz2
  clear hH hT hml hz2
  have HX : Hid (rightB it n1 = (decide (n1 = 0) && !piecesB it && !ruledB it && descQ it.desc)) := Lib.hid (by unfold rightB; simp [hk])
  obtain ⟨pb, hpb⟩ : ∃ pb, piecesB it = pb := ⟨_, rfl⟩
  obtain ⟨rb, hrb⟩ : ∃ rb, ruledB it = rb := ⟨_, rfl⟩
  have HP := Lib.hid hpb
  have HRB := Lib.hid hrb
  rw [hk]
  clear hk hpb hrb
  go_enter Tryz.func81, Tryz.ntmps81
  go_upto_region 1 with fail
  obtain ⟨W, hW⟩ : ∃ W, W = w.alloc (.cells #[.int .i8 5, .slice a1 n1 c1, .string it.desc, .string it.value, .string it.start, .slice a2 it.mids.length c2, .string it.fin, .string it.rule, .bool it.dn] 26) := ⟨_, rfl⟩
  have hb : Hid (W.heap[w.heap.size]? = some (.cells #[.int .i8 5, .slice a1 n1 c1, .string it.desc, .string it.value, .string it.start, .slice a2 it.mids.length c2, .string it.fin, .string it.rule, .bool it.dn] 26 (0, 0))) := Lib.hid (by rw [hW]; exact alloc_at _ _)
  have HK : Hid (Keep [] w W) := Lib.hid (by rw [hW]; exact (Keep.refl [] w).alloc _)
  rw [← hW]
  clear hW
  obtain ⟨x0, x1, x2, x3, x4, x5, x6, x7, x8, xf⟩ := nine hb.out
  clear xf
  go_cut [3] (fun s4 wx => s4 = .bool pb ∧ wx = W)
  case first =>
    obtain ⟨mb, hmb⟩ : ∃ mb, decide (0 < it.mids.length) = mb := ⟨_, rfl⟩
    have HMB := Lib.hid hmb
    cases mb with
    | true =>
      have hm1 : (0 : Int) < (it.mids.length : Int) := by have := of_decide_eq_true hmb; omega
      have hm2 : 0 < it.mids.length := of_decide_eq_true hmb
      clear hmb
      go_wp2_with fail
      all_goals
        go_meet
        exact ⟨by rw [← HP.out]; unfold piecesB someB; rw [HMB.out]; simp [*], rfl⟩
    | false =>
      have hm1 : ¬ ((0 : Int) < (it.mids.length : Int)) := by have := of_decide_eq_false hmb; omega
      have hm2 : ¬ (0 < it.mids.length) := of_decide_eq_false hmb
      clear hmb
      go_wp2_with fail
      all_goals
        go_meet
        exact ⟨by rw [← HP.out]; unfold piecesB someB; rw [HMB.out]; simp [*], rfl⟩
  case rest =>
    obtain ⟨rfl, rfl⟩ := hcut
    go_upto_region 2 with fail
    go_cut [4] (fun s5 wx => s5 = .bool rb ∧ wx = wc)
    case first =>
      go_wp2_with fail
      all_goals
        go_meet
        exact ⟨by rw [← HRB.out]; unfold ruledB someB; simp [*], rfl⟩
    case rest =>
      obtain ⟨rfl, he⟩ := hcut
      obtain rfl := he
      rw [HP.out, HRB.out] at HX
      obtain ⟨db, hdb⟩ : ∃ db, descL it.desc.data.toList = db := ⟨_, rfl⟩
      have hD := fun V => ydesc_any it.desc V (by omega)
      rw [hdb] at hD
      rw [descQ_list, hdb] at HX
      have HD := Lib.hid hD
      clear hD hdb
      cases hn : decide (n1 = 0) with
      | false =>
        have hnf : ((n1 : Int) == 0) = false := by rw [beq_eq_false_iff_ne]; have := of_decide_eq_false hn; omega
        rw [hn] at HX
        clear hn
        go_wp2_with fail
        go_ret
        exact ⟨ret_bool (by rw [HX.out]; simp), HK.out⟩
      | true =>
        have hnf : ((n1 : Int) == 0) = true := by rw [beq_iff_eq]; have := of_decide_eq_true hn; omega
        rw [hn] at HX
        clear hn
        cases db with
        | false =>
          go_wp2_with (go_at_call 114; refine (HD.out _).mono ?_; rintro e w2 ⟨rfl, hK2⟩; have HK2 := Lib.hid hK2; clear hK2)
          go_ret
          exact ⟨ret_bool (by rw [HX.out]; simp), HK.out.trans HK2.out⟩
        | true =>
          cases pb with
          | true =>
            go_wp2_with (go_at_call 114; refine (HD.out _).mono ?_; rintro e w2 ⟨rfl, hK2⟩; have HK2 := Lib.hid hK2; clear hK2)
            go_ret
            exact ⟨ret_bool (by rw [HX.out]; simp), HK.out.trans HK2.out⟩
          | false =>
            cases rb with
            | true =>
              go_wp2_with (go_at_call 114; refine (HD.out _).mono ?_; rintro e w2 ⟨rfl, hK2⟩; have HK2 := Lib.hid hK2; clear hK2)
              go_ret
              exact ⟨ret_bool (by rw [HX.out]; simp), HK.out.trans HK2.out⟩
            | false =>
              go_wp2_with (go_at_call 114; refine (HD.out _).mono ?_; rintro e w2 ⟨rfl, hK2⟩; have HK2 := Lib.hid hK2; clear hK2)
              go_ret
              exact ⟨ret_bool (by rw [HX.out]; simp), HK.out.trans HK2.out⟩

set_option maxHeartbeats 4000000 in
set_option maxRecDepth 100000 in
theorem field_k6 : FieldK 6 := by
  intro H it a1 n1 c1 a2 c2 w hk hH hT hml hz1 hz2
  unfold topLen at hz1 hz2
  clear hH hT hml hz2
  have HX : Hid (rightB it n1 = (decide (n1 = 0) && !piecesB it && !ruledB it && descQ it.desc)) := Lib.hid (by unfold rightB; simp [hk])
  obtain ⟨pb, hpb⟩ : ∃ pb, piecesB it = pb := ⟨_, rfl⟩
  obtain ⟨rb, hrb⟩ : ∃ rb, ruledB it = rb := ⟨_, rfl⟩
  have HP := Lib.hid hpb
  have HRB := Lib.hid hrb
  rw [hk]
  clear hk hpb hrb
  go_enter Tryz.func81, Tryz.ntmps81
  go_upto_region 1 with fail
  obtain ⟨W, hW⟩ : ∃ W, W = w.alloc (.cells #[.int .i8 6, .slice a1 n1 c1, .string it.desc, .string it.value, .string it.start, .slice a2 it.mids.length c2, .string it.fin, .string it.rule, .bool it.dn] 26) := ⟨_, rfl⟩
  have hb : Hid (W.heap[w.heap.size]? = some (.cells #[.int .i8 6, .slice a1 n1 c1, .string it.desc, .string it.value, .string it.start, .slice a2 it.mids.length c2, .string it.fin, .string it.rule, .bool it.dn] 26 (0, 0))) := Lib.hid (by rw [hW]; exact alloc_at _ _)
  have HK : Hid (Keep [] w W) := Lib.hid (by rw [hW]; exact (Keep.refl [] w).alloc _)
  rw [← hW]
  clear hW
  obtain ⟨x0, x1, x2, x3, x4, x5, x6, x7, x8, xf⟩ := nine hb.out
  clear xf
  go_cut [3] (fun s4 wx => s4 = .bool pb ∧ wx = W)
  case first =>
    obtain ⟨mb, hmb⟩ : ∃ mb, decide (0 < it.mids.length) = mb := ⟨_, rfl⟩
    have HMB := Lib.hid hmb
    cases mb with
    | true =>
      have hm1 : (0 : Int) < (it.mids.length : Int) := by have := of_decide_eq_true hmb; omega
      have hm2 : 0 < it.mids.length := of_decide_eq_true hmb
      clear hmb
      go_wp2_with fail
      all_goals
        go_meet
        exact ⟨by rw [← HP.out]; unfold piecesB someB; rw [HMB.out]; simp [*], rfl⟩
    | false =>
      have hm1 : ¬ ((0 : Int) < (it.mids.length : Int)) := by have := of_decide_eq_false hmb; omega
      have hm2 : ¬ (0 < it.mids.length) := of_decide_eq_false hmb
      clear hmb
      go_wp2_with fail
      all_goals
        go_meet
        exact ⟨by rw [← HP.out]; unfold piecesB someB; rw [HMB.out]; simp [*], rfl⟩
  case rest =>
    obtain ⟨rfl, rfl⟩ := hcut
    go_upto_region 2 with fail
    go_cut [4] (fun s5 wx => s5 = .bool rb ∧ wx = wc)
    case first =>
      go_wp2_with fail
      all_goals
        go_meet
        exact ⟨by rw [← HRB.out]; unfold ruledB someB; simp [*], rfl⟩
    case rest =>
      obtain ⟨rfl, he⟩ := hcut
      obtain rfl := he
      rw [HP.out, HRB.out] at HX
      obtain ⟨db, hdb⟩ : ∃ db, descL it.desc.data.toList = db := ⟨_, rfl⟩
      have hD := fun V => ydesc_any it.desc V (by omega)
      rw [hdb] at hD
      rw [descQ_list, hdb] at HX
      have HD := Lib.hid hD
      clear hD hdb
      cases hn : decide (n1 = 0) with
      | false =>
        have hnf : ((n1 : Int) == 0) = false := by rw [beq_eq_false_iff_ne]; have := of_decide_eq_false hn; omega
        rw [hn] at HX
        clear hn
        go_wp2_with fail
        go_ret
        exact ⟨ret_bool (by rw [HX.out]; simp), HK.out⟩
      | true =>
        have hnf : ((n1 : Int) == 0) = true := by rw [beq_iff_eq]; have := of_decide_eq_true hn; omega
        rw [hn] at HX
        clear hn
        cases db with
        | false =>
          go_wp2_with (go_at_call 114; refine (HD.out _).mono ?_; rintro e w2 ⟨rfl, hK2⟩; have HK2 := Lib.hid hK2; clear hK2)
          go_ret
          exact ⟨ret_bool (by rw [HX.out]; simp), HK.out.trans HK2.out⟩
        | true =>
          cases pb with
          | true =>
            go_wp2_with (go_at_call 114; refine (HD.out _).mono ?_; rintro e w2 ⟨rfl, hK2⟩; have HK2 := Lib.hid hK2; clear hK2)
            go_ret
            exact ⟨ret_bool (by rw [HX.out]; simp), HK.out.trans HK2.out⟩
          | false =>
            cases rb with
            | true =>
              go_wp2_with (go_at_call 114; refine (HD.out _).mono ?_; rintro e w2 ⟨rfl, hK2⟩; have HK2 := Lib.hid hK2; clear hK2)
              go_ret
              exact ⟨ret_bool (by rw [HX.out]; simp), HK.out.trans HK2.out⟩
            | false =>
              go_wp2_with (go_at_call 114; refine (HD.out _).mono ?_; rintro e w2 ⟨rfl, hK2⟩; have HK2 := Lib.hid hK2; clear hK2)
              go_ret
              exact ⟨ret_bool (by rw [HX.out]; simp), HK.out.trans HK2.out⟩

set_option maxHeartbeats 4000000 in
set_option maxRecDepth 100000 in
theorem field_k8 : FieldK 8 := by
  intro H it a1 n1 c1 a2 c2 w hk hH hT hml hz1 hz2
  unfold topLen at hz1 hz2
  clear hH hT hml hz2
  have HX : Hid (rightB it n1 = (decide (n1 = 0) && !piecesB it && !ruledB it && descQ it.desc)) := Lib.hid (by unfold rightB; simp [hk])
  obtain ⟨pb, hpb⟩ : ∃ pb, piecesB it = pb := ⟨_, rfl⟩
  obtain ⟨rb, hrb⟩ : ∃ rb, ruledB it = rb := ⟨_, rfl⟩
  have HP := Lib.hid hpb
  have HRB := Lib.hid hrb
  rw [hk]
  clear hk hpb hrb
  go_enter Tryz.func81, Tryz.ntmps81
  go_upto_region 1 with fail
  obtain ⟨W, hW⟩ : ∃ W, W = w.alloc (.cells #[.int .i8 8, .slice a1 n1 c1, .string it.desc, .string it.value, .string it.start, .slice a2 it.mids.length c2, .string it.fin, .string it.rule, .bool it.dn] 26) := ⟨_, rfl⟩
  have hb : Hid (W.heap[w.heap.size]? = some (.cells #[.int .i8 8, .slice a1 n1 c1, .string it.desc, .string it.value, .string it.start, .slice a2 it.mids.length c2, .string it.fin, .string it.rule, .bool it.dn] 26 (0, 0))) := Lib.hid (by rw [hW]; exact alloc_at _ _)
  have HK : Hid (Keep [] w W) := Lib.hid (by rw [hW]; exact (Keep.refl [] w).alloc _)
  rw [← hW]
  clear hW
  obtain ⟨x0, x1, x2, x3, x4, x5, x6, x7, x8, xf⟩ := nine hb.out
  clear xf
  go_cut [3] (fun s4 wx => s4 = .bool pb ∧ wx = W)
  case first =>
    obtain ⟨mb, hmb⟩ : ∃ mb, decide (0 < it.mids.length) = mb := ⟨_, rfl⟩
    have HMB := Lib.hid hmb
    cases mb with
    | true =>
      have hm1 : (0 : Int) < (it.mids.length : Int) := by have := of_decide_eq_true hmb; omega
      have hm2 : 0 < it.mids.length := of_decide_eq_true hmb
      clear hmb
      go_wp2_with fail
      all_goals
        go_meet
        exact ⟨by rw [← HP.out]; unfold piecesB someB; rw [HMB.out]; simp [*], rfl⟩
    | false =>
      have hm1 : ¬ ((0 : Int) < (it.mids.length : Int)) := by have := of_decide_eq_false hmb; omega
      have hm2 : ¬ (0 < it.mids.length) := of_decide_eq_false hmb
      clear hmb
      go_wp2_with fail
      all_goals
        go_meet
        exact ⟨by rw [← HP.out]; unfold piecesB someB; rw [HMB.out]; simp [*], rfl⟩
  case rest =>
    obtain ⟨rfl, rfl⟩ := hcut
    go_upto_region 2 with fail
    go_cut [4] (fun s5 wx => s5 = .bool rb ∧ wx = wc)
    case first =>
      go_wp2_with fail
      all_goals
        go_meet
        exact ⟨by rw [← HRB.out]; unfold ruledB someB; simp [*], rfl⟩
    case rest =>
      obtain ⟨rfl, he⟩ := hcut
      obtain rfl := he
      rw [HP.out, HRB.out] at HX
      obtain ⟨db, hdb⟩ : ∃ db, descL it.desc.data.toList = db := ⟨_, rfl⟩
      have hD := fun V => ydesc_any it.desc V (by omega)
      rw [hdb] at hD
      rw [descQ_list, hdb] at HX
      have HD := Lib.hid hD
      clear hD hdb
      cases hn : decide (n1 = 0) with
      | false =>
        have hnf : ((n1 : Int) == 0) = false := by rw [beq_eq_false_iff_ne]; have := of_decide_eq_false hn; omega
        rw [hn] at HX
        clear hn
        go_wp2_with fail
        go_ret
        exact ⟨ret_bool (by rw [HX.out]; simp), HK.out⟩
      | true =>
        have hnf : ((n1 : Int) == 0) = true := by rw [beq_iff_eq]; have := of_decide_eq_true hn; omega
        rw [hn] at HX
        clear hn
        cases db with
        | false =>
          go_wp2_with (go_at_call 114; refine (HD.out _).mono ?_; rintro e w2 ⟨rfl, hK2⟩; have HK2 := Lib.hid hK2; clear hK2)
          go_ret
          exact ⟨ret_bool (by rw [HX.out]; simp), HK.out.trans HK2.out⟩
        | true =>
          cases pb with
          | true =>
            go_wp2_with (go_at_call 114; refine (HD.out _).mono ?_; rintro e w2 ⟨rfl, hK2⟩; have HK2 := Lib.hid hK2; clear hK2)
            go_ret
            exact ⟨ret_bool (by rw [HX.out]; simp), HK.out.trans HK2.out⟩
          | false =>
            cases rb with
            | true =>
              go_wp2_with (go_at_call 114; refine (HD.out _).mono ?_; rintro e w2 ⟨rfl, hK2⟩; have HK2 := Lib.hid hK2; clear hK2)
              go_ret
              exact ⟨ret_bool (by rw [HX.out]; simp), HK.out.trans HK2.out⟩
            | false =>
              go_wp2_with (go_at_call 114; refine (HD.out _).mono ?_; rintro e w2 ⟨rfl, hK2⟩; have HK2 := Lib.hid hK2; clear hK2)
              go_ret
              exact ⟨ret_bool (by rw [HX.out]; simp), HK.out.trans HK2.out⟩

set_option maxHeartbeats 4000000 in
set_option maxRecDepth 100000 in
theorem field_k7 : FieldK 7 := by
  intro H it a1 n1 c1 a2 c2 w hk hH hT hml hz1 hz2
  unfold topLen at hz1 hz2
  clear hH hT hml hz2
  have HX : Hid (rightB it n1 = (decide (n1 = 0) && !piecesB it && !ruledB it && !someB it.value && descQ it.desc)) := Lib.hid (by unfold rightB; simp [hk])
  obtain ⟨pb, hpb⟩ : ∃ pb, piecesB it = pb := ⟨_, rfl⟩
  obtain ⟨rb, hrb⟩ : ∃ rb, ruledB it = rb := ⟨_, rfl⟩
  have HP := Lib.hid hpb
  have HRB := Lib.hid hrb
  rw [hk]
  clear hk hpb hrb
  go_enter Tryz.func81, Tryz.ntmps81
  go_upto_region 1 with fail
  obtain ⟨W, hW⟩ : ∃ W, W = w.alloc (.cells #[.int .i8 7, .slice a1 n1 c1, .string it.desc, .string it.value, .string it.start, .slice a2 it.mids.length c2, .string it.fin, .string it.rule, .bool it.dn] 26) := ⟨_, rfl⟩
  have hb : Hid (W.heap[w.heap.size]? = some (.cells #[.int .i8 7, .slice a1 n1 c1, .string it.desc, .string it.value, .string it.start, .slice a2 it.mids.length c2, .string it.fin, .string it.rule, .bool it.dn] 26 (0, 0))) := Lib.hid (by rw [hW]; exact alloc_at _ _)
  have HK : Hid (Keep [] w W) := Lib.hid (by rw [hW]; exact (Keep.refl [] w).alloc _)
  rw [← hW]
  clear hW
  obtain ⟨x0, x1, x2, x3, x4, x5, x6, x7, x8, xf⟩ := nine hb.out
  clear xf
  go_cut [3] (fun s4 wx => s4 = .bool pb ∧ wx = W)
  case first =>
    obtain ⟨mb, hmb⟩ : ∃ mb, decide (0 < it.mids.length) = mb := ⟨_, rfl⟩
    have HMB := Lib.hid hmb
    cases mb with
    | true =>
      have hm1 : (0 : Int) < (it.mids.length : Int) := by have := of_decide_eq_true hmb; omega
      have hm2 : 0 < it.mids.length := of_decide_eq_true hmb
      clear hmb
      go_wp2_with fail
      all_goals
        go_meet
        exact ⟨by rw [← HP.out]; unfold piecesB someB; rw [HMB.out]; simp [*], rfl⟩
    | false =>
      have hm1 : ¬ ((0 : Int) < (it.mids.length : Int)) := by have := of_decide_eq_false hmb; omega
      have hm2 : ¬ (0 < it.mids.length) := of_decide_eq_false hmb
      clear hmb
      go_wp2_with fail
      all_goals
        go_meet
        exact ⟨by rw [← HP.out]; unfold piecesB someB; rw [HMB.out]; simp [*], rfl⟩
  case rest =>
    obtain ⟨rfl, rfl⟩ := hcut
    go_upto_region 2 with fail
    go_cut [4] (fun s5 wx => s5 = .bool rb ∧ wx = wc)
    case first =>
      go_wp2_with fail
      all_goals
        go_meet
        exact ⟨by rw [← HRB.out]; unfold ruledB someB; simp [*], rfl⟩
    case rest =>
      obtain ⟨rfl, he⟩ := hcut
      obtain rfl := he
      rw [HP.out, HRB.out] at HX
      obtain ⟨db, hdb⟩ : ∃ db, descL it.desc.data.toList = db := ⟨_, rfl⟩
      have hD := fun V => ydesc_any it.desc V (by omega)
      rw [hdb] at hD
      rw [descQ_list, hdb] at HX
      have HD := Lib.hid hD
      clear hD hdb
      cases hn : decide (n1 = 0) with
      | false =>
        have hnf : ((n1 : Int) == 0) = false := by rw [beq_eq_false_iff_ne]; have := of_decide_eq_false hn; omega
        rw [hn] at HX
        clear hn
        go_wp2_with fail
        go_ret
        exact ⟨ret_bool (by rw [HX.out]; simp), HK.out⟩
      | true =>
        have hnf : ((n1 : Int) == 0) = true := by rw [beq_iff_eq]; have := of_decide_eq_true hn; omega
        rw [hn] at HX
        clear hn
        cases db with
        | false =>
          go_wp2_with (go_at_call 114; refine (HD.out _).mono ?_; rintro e w2 ⟨rfl, hK2⟩; have HK2 := Lib.hid hK2; obtain ⟨z0, z1, z2, z3, z4, z5, z6, z7, z8, zf⟩ := nine (hK2.heap hb.out (by simp)); clear hK2 zf)
          go_ret
          exact ⟨ret_bool (by rw [HX.out]; simp), HK.out.trans HK2.out⟩
        | true =>
          cases hvE : it.value.toList.isEmpty with
          | false =>
            rw [some_emp hvE] at HX
            go_wp2_with (go_at_call 114; refine (HD.out _).mono ?_; rintro e w2 ⟨rfl, hK2⟩; have HK2 := Lib.hid hK2; obtain ⟨z0, z1, z2, z3, z4, z5, z6, z7, z8, zf⟩ := nine (hK2.heap hb.out (by simp)); clear hK2 zf)
            go_ret
            exact ⟨ret_bool (by rw [HX.out]; simp), HK.out.trans HK2.out⟩
          | true =>
            rw [some_emp hvE] at HX
            cases pb with
            | true =>
              go_wp2_with (go_at_call 114; refine (HD.out _).mono ?_; rintro e w2 ⟨rfl, hK2⟩; have HK2 := Lib.hid hK2; obtain ⟨z0, z1, z2, z3, z4, z5, z6, z7, z8, zf⟩ := nine (hK2.heap hb.out (by simp)); clear hK2 zf)
              go_ret
              exact ⟨ret_bool (by rw [HX.out]; simp), HK.out.trans HK2.out⟩
            | false =>
              cases rb with
              | true =>
                go_wp2_with (go_at_call 114; refine (HD.out _).mono ?_; rintro e w2 ⟨rfl, hK2⟩; have HK2 := Lib.hid hK2; obtain ⟨z0, z1, z2, z3, z4, z5, z6, z7, z8, zf⟩ := nine (hK2.heap hb.out (by simp)); clear hK2 zf)
                go_ret
                exact ⟨ret_bool (by rw [HX.out]; simp), HK.out.trans HK2.out⟩
              | false =>
                go_wp2_with (go_at_call 114; refine (HD.out _).mono ?_; rintro e w2 ⟨rfl, hK2⟩; have HK2 := Lib.hid hK2; obtain ⟨z0, z1, z2, z3, z4, z5, z6, z7, z8, zf⟩ := nine (hK2.heap hb.out (by simp)); clear hK2 zf)
                go_ret
                exact ⟨ret_bool (by rw [HX.out]; simp), HK.out.trans HK2.out⟩
end Go.Proofs.YtjmpcoedfoaebaaGreatDoor
