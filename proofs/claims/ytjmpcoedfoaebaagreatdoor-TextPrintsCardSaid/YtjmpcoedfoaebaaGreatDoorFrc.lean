/- filter.right: at the kinds of many kids. Printed by genright.py. -/
import Derived.Test.YtjmpcoedfoaebaaGreatDoorFpa
open Go Go.RowKit
namespace Go.Proofs.YtjmpcoedfoaebaaGreatDoor

set_option maxHeartbeats 4000000 in
set_option maxRecDepth 100000 in
theorem right_k0 : RightK 0 := by
  intro B H it a1 n1 c1 a2 c2 w hk hH hT hml hnl hlg hE
  clear hH hT hml hnl
  obtain ⟨z2, z3, z4, z6, z7, _⟩ := long_nog hlg
  have HE := Lib.hid hE
  have HX : Hid (rightB it n1 = (decide (0 < n1) && (decide (n1 = 1) || true) && !someB it.desc && !someB it.value && !piecesB it && !ruledB it)) := Lib.hid (by unfold rightB; simp [hk])
  obtain ⟨pb, hpb⟩ : ∃ pb, piecesB it = pb := ⟨_, rfl⟩
  obtain ⟨rb, hrb⟩ : ∃ rb, ruledB it = rb := ⟨_, rfl⟩
  have HP := Lib.hid hpb
  have HRB := Lib.hid hrb
  rw [hk]
  clear hE hk hpb hrb hlg
  go_enter Tryz.func40, Tryz.ntmps40
  go_upto_region 2 with fail
  obtain ⟨W, hW⟩ : ∃ W, W = w.alloc (.cells #[.int .i8 0, .slice a1 n1 c1, .string it.desc, .string it.value, .string it.start, .slice a2 it.mids.length c2, .string it.fin, .string it.rule, .bool it.dn] 26) := ⟨_, rfl⟩
  have hb : Hid (W.heap[w.heap.size]? = some (.cells #[.int .i8 0, .slice a1 n1 c1, .string it.desc, .string it.value, .string it.start, .slice a2 it.mids.length c2, .string it.fin, .string it.rule, .bool it.dn] 26 (0, 0))) := Lib.hid (by rw [hW]; exact alloc_at _ _)
  have HK : Hid (Keep [] w W) := Lib.hid (by rw [hW]; exact (Keep.refl [] w).alloc _)
  rw [← hW]
  clear hW
  obtain ⟨x0, x1, x2, x3, x4, x5, x6, x7, x8, xf⟩ := nine hb.out
  clear xf
  go_cut [4] (fun s4 wx => s4 = .bool pb ∧ wx = W)
  case first =>
    go_wp2_with fail
    all_goals
      go_meet
      exact ⟨by rw [← HP.out]; unfold piecesB someB; simp [*], rfl⟩
  case rest =>
    obtain ⟨rfl, rfl⟩ := hcut
    go_upto_region 3 with fail
    go_cut [5] (fun s5 wx => s5 = .bool rb ∧ wx = wc)
    case first =>
      go_wp2_with fail
      all_goals
        go_meet
        exact ⟨by rw [← HRB.out]; unfold ruledB someB; simp [*], rfl⟩
    case rest =>
      obtain ⟨rfl, he⟩ := hcut
      obtain rfl := he
      have HD := Lib.hid (fun V => described_any B it.desc V (by omega))
      rw [HP.out, HRB.out] at HX
      cases pb <;> cases rb
      all_goals
        go_wp2_with fail
        all_goals
          go_ret
          exact ⟨ret_bool (by rw [HX.out]; unfold someB; simp [*] <;> omega), HK.out⟩
set_option maxHeartbeats 4000000 in
set_option maxRecDepth 100000 in
theorem right_k1 : RightK 1 := by
  intro B H it a1 n1 c1 a2 c2 w hk hH hT hml hnl hlg hE
  clear hH hT hml hnl
  obtain ⟨z2, z3, z4, z6, z7, _⟩ := long_nog hlg
  have HE := Lib.hid hE
  have HX : Hid (rightB it n1 = (decide (0 < n1) && (decide (n1 = 1) || true) && !someB it.desc && !someB it.value && !piecesB it && !ruledB it)) := Lib.hid (by unfold rightB; simp [hk])
  obtain ⟨pb, hpb⟩ : ∃ pb, piecesB it = pb := ⟨_, rfl⟩
  obtain ⟨rb, hrb⟩ : ∃ rb, ruledB it = rb := ⟨_, rfl⟩
  have HP := Lib.hid hpb
  have HRB := Lib.hid hrb
  rw [hk]
  clear hE hk hpb hrb hlg
  go_enter Tryz.func40, Tryz.ntmps40
  go_upto_region 2 with fail
  obtain ⟨W, hW⟩ : ∃ W, W = w.alloc (.cells #[.int .i8 1, .slice a1 n1 c1, .string it.desc, .string it.value, .string it.start, .slice a2 it.mids.length c2, .string it.fin, .string it.rule, .bool it.dn] 26) := ⟨_, rfl⟩
  have hb : Hid (W.heap[w.heap.size]? = some (.cells #[.int .i8 1, .slice a1 n1 c1, .string it.desc, .string it.value, .string it.start, .slice a2 it.mids.length c2, .string it.fin, .string it.rule, .bool it.dn] 26 (0, 0))) := Lib.hid (by rw [hW]; exact alloc_at _ _)
  have HK : Hid (Keep [] w W) := Lib.hid (by rw [hW]; exact (Keep.refl [] w).alloc _)
  rw [← hW]
  clear hW
  obtain ⟨x0, x1, x2, x3, x4, x5, x6, x7, x8, xf⟩ := nine hb.out
  clear xf
  go_cut [4] (fun s4 wx => s4 = .bool pb ∧ wx = W)
  case first =>
    go_wp2_with fail
    all_goals
      go_meet
      exact ⟨by rw [← HP.out]; unfold piecesB someB; simp [*], rfl⟩
  case rest =>
    obtain ⟨rfl, rfl⟩ := hcut
    go_upto_region 3 with fail
    go_cut [5] (fun s5 wx => s5 = .bool rb ∧ wx = wc)
    case first =>
      go_wp2_with fail
      all_goals
        go_meet
        exact ⟨by rw [← HRB.out]; unfold ruledB someB; simp [*], rfl⟩
    case rest =>
      obtain ⟨rfl, he⟩ := hcut
      obtain rfl := he
      have HD := Lib.hid (fun V => described_any B it.desc V (by omega))
      rw [HP.out, HRB.out] at HX
      cases pb <;> cases rb
      all_goals
        go_wp2_with fail
        all_goals
          go_ret
          exact ⟨ret_bool (by rw [HX.out]; unfold someB; simp [*] <;> omega), HK.out⟩
set_option maxHeartbeats 4000000 in
set_option maxRecDepth 100000 in
theorem right_k2 : RightK 2 := by
  intro B H it a1 n1 c1 a2 c2 w hk hH hT hml hnl hlg hE
  clear hH hT hml hnl
  obtain ⟨z2, z3, z4, z6, z7, _⟩ := long_nog hlg
  have HE := Lib.hid hE
  have HX : Hid (rightB it n1 = (decide (0 < n1) && (decide (n1 = 1) || false) && !someB it.desc && !someB it.value && !piecesB it && !ruledB it)) := Lib.hid (by unfold rightB; simp [hk])
  obtain ⟨pb, hpb⟩ : ∃ pb, piecesB it = pb := ⟨_, rfl⟩
  obtain ⟨rb, hrb⟩ : ∃ rb, ruledB it = rb := ⟨_, rfl⟩
  have HP := Lib.hid hpb
  have HRB := Lib.hid hrb
  rw [hk]
  clear hE hk hpb hrb hlg
  go_enter Tryz.func40, Tryz.ntmps40
  go_upto_region 2 with fail
  obtain ⟨W, hW⟩ : ∃ W, W = w.alloc (.cells #[.int .i8 2, .slice a1 n1 c1, .string it.desc, .string it.value, .string it.start, .slice a2 it.mids.length c2, .string it.fin, .string it.rule, .bool it.dn] 26) := ⟨_, rfl⟩
  have hb : Hid (W.heap[w.heap.size]? = some (.cells #[.int .i8 2, .slice a1 n1 c1, .string it.desc, .string it.value, .string it.start, .slice a2 it.mids.length c2, .string it.fin, .string it.rule, .bool it.dn] 26 (0, 0))) := Lib.hid (by rw [hW]; exact alloc_at _ _)
  have HK : Hid (Keep [] w W) := Lib.hid (by rw [hW]; exact (Keep.refl [] w).alloc _)
  rw [← hW]
  clear hW
  obtain ⟨x0, x1, x2, x3, x4, x5, x6, x7, x8, xf⟩ := nine hb.out
  clear xf
  go_cut [4] (fun s4 wx => s4 = .bool pb ∧ wx = W)
  case first =>
    go_wp2_with fail
    all_goals
      go_meet
      exact ⟨by rw [← HP.out]; unfold piecesB someB; simp [*], rfl⟩
  case rest =>
    obtain ⟨rfl, rfl⟩ := hcut
    go_upto_region 3 with fail
    go_cut [5] (fun s5 wx => s5 = .bool rb ∧ wx = wc)
    case first =>
      go_wp2_with fail
      all_goals
        go_meet
        exact ⟨by rw [← HRB.out]; unfold ruledB someB; simp [*], rfl⟩
    case rest =>
      obtain ⟨rfl, he⟩ := hcut
      obtain rfl := he
      have HD := Lib.hid (fun V => described_any B it.desc V (by omega))
      rw [HP.out, HRB.out] at HX
      cases pb <;> cases rb
      all_goals
        go_wp2_with fail
        all_goals
          go_ret
          exact ⟨ret_bool (by rw [HX.out]; unfold someB; simp [*] <;> omega), HK.out⟩
end Go.Proofs.YtjmpcoedfoaebaaGreatDoor
