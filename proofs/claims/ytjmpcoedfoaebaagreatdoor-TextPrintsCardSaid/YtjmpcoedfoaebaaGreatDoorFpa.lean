/- filter's right: may a part be? filter.right: at the kinds of one sign. Printed by genright.py. -/
import Derived.Test.YtjmpcoedfoaebaaGreatDoorFpx
open Go Go.RowKit
namespace Go.Proofs.YtjmpcoedfoaebaaGreatDoor

def someB (s : ByteArray) : Bool := !s.toList.isEmpty
def piecesB (it : Itm) : Bool := someB it.start || someB it.fin || decide (0 < it.mids.length)
def ruledB (it : Itm) : Bool := someB it.rule || it.dn
/-- May a part with so many kids be? -/
def rightB (it : Itm) (nk : Nat) : Bool :=
  if it.kind = 0 ∨ it.kind = 1 ∨ it.kind = 2 then decide (0 < nk) && (decide (nk = 1) || decide (it.kind ≠ 2)) && !someB it.desc && !someB it.value && !piecesB it && !ruledB it
  else if it.kind = 9 then decide (nk = 0) && !piecesB it && (someB it.desc || someB it.rule) && (!someB it.desc || descQ it.desc) && (!someB it.rule || (wordQ it.rule && decide (Lib.toLowerD it.rule.data.toList ≠ [100, 110])))
  else if it.kind = 4 then it.mids.all someB && decide (nk = 0) && piecesB it && !ruledB it && !someB it.value && descQ it.desc
  else if it.kind = 7 then decide (nk = 0) && !piecesB it && !ruledB it && !someB it.value && descQ it.desc
  else if it.kind = 3 ∨ it.kind = 5 ∨ it.kind = 6 ∨ it.kind = 8 then decide (nk = 0) && !piecesB it && !ruledB it && descQ it.desc
  else false

set_option maxHeartbeats 2000000 in
set_option maxRecDepth 100000 in
theorem right_eq (B : Nat) (it : Itm) (a1 : Option Addr) (n1 c1 : Nat) (a2 : Option Addr) (c2 : Nat) (w : World) (hk : it.kind = 3) (hd : it.desc.size < 4294967281) (hE : Env B w) :
    Calls Tryz.prog 40 #[.agg #[.int .i8 it.kind, .slice a1 n1 c1, .string it.desc, .string it.value, .string it.start, .slice a2 it.mids.length c2, .string it.fin, .string it.rule, .bool it.dn]] w (RetB w (rightB it n1)) := by
  have HE := Lib.hid hE
  have HX : Hid (rightB it n1 = (decide (n1 = 0) && !piecesB it && !ruledB it && descQ it.desc)) := Lib.hid (by unfold rightB; simp [hk])
  obtain ⟨pb, hpb⟩ : ∃ pb, piecesB it = pb := ⟨_, rfl⟩
  obtain ⟨rb, hrb⟩ : ∃ rb, ruledB it = rb := ⟨_, rfl⟩
  have HP := Lib.hid hpb
  have HRB := Lib.hid hrb
  rw [hk]
  clear hE hk hpb hrb
  go_enter Tryz.func40, Tryz.ntmps40
  go_upto_region 2 with fail
  obtain ⟨W, hW⟩ : ∃ W, W = w.alloc (.cells #[.int .i8 3, .slice a1 n1 c1, .string it.desc, .string it.value, .string it.start, .slice a2 it.mids.length c2, .string it.fin, .string it.rule, .bool it.dn] 26) := ⟨_, rfl⟩
  have hb : Hid (W.heap[w.heap.size]? = some (.cells #[.int .i8 3, .slice a1 n1 c1, .string it.desc, .string it.value, .string it.start, .slice a2 it.mids.length c2, .string it.fin, .string it.rule, .bool it.dn] 26 (0, 0))) := Lib.hid (by rw [hW]; exact alloc_at _ _)
  have HK : Hid (Keep [] w W) := Lib.hid (by rw [hW]; exact (Keep.refl [] w).alloc _)
  rw [← hW]
  clear hW
  obtain ⟨x0, x1, x2, x3, x4, x5, x6, x7, x8, xf⟩ := nine hb.out
  clear xf
  go_cut [4] (fun s4 wx => s4 = .bool pb ∧ wx = W)
  case first =>
    go_wp2_with fail
    all_goals
      go_meet
      exact ⟨by rw [← HP.out]; unfold piecesB someB; simp [*], rfl⟩
  case rest =>
    obtain ⟨rfl, rfl⟩ := hcut
    go_upto_region 3 with fail
    go_cut [5] (fun s5 wx => s5 = .bool rb ∧ wx = wc)
    case first =>
      go_wp2_with fail
      all_goals
        go_meet
        exact ⟨by rw [← HRB.out]; unfold ruledB someB; simp [*], rfl⟩
    case rest =>
      obtain ⟨rfl, he⟩ := hcut
      obtain rfl := he
      have HD := Lib.hid (described_any B it.desc wc hd (HE.out.keep0 HK.out))
      rw [HP.out, HRB.out] at HX
      cases hn : decide (n1 = 0) with
      | false =>
        have hn0 : ((n1 : Int) == 0) = false := by rw [beq_eq_false_iff_ne]; have := of_decide_eq_false hn; omega
        rw [hn] at HX
        clear hn
        go_wp2_with fail
        go_ret
        exact ⟨ret_bool (by rw [HX.out]; rfl), HK.out⟩
      | true =>
        have hn0 : ((n1 : Int) == 0) = true := by rw [beq_iff_eq]; have := of_decide_eq_true hn; omega
        rw [hn] at HX
        clear hn
        cases pb with
        | true =>
          go_wp2_with fail
          go_ret
          exact ⟨ret_bool (by rw [HX.out]; rfl), HK.out⟩
        | false =>
          cases rb with
          | true =>
            go_wp2_with fail
            go_ret
            exact ⟨ret_bool (by rw [HX.out]; rfl), HK.out⟩
          | false =>
            go_wp2_with (go_at_call 66; refine HD.out.mono ?_; rintro e w' ⟨rfl, hK⟩)
            go_ret
            exact ⟨ret_bool (by rw [HX.out]; rfl), HK.out.trans hK⟩
end Go.Proofs.YtjmpcoedfoaebaaGreatDoor

open Go Go.RowKit
namespace Go.Proofs.YtjmpcoedfoaebaaGreatDoor

theorem longM_leg : ∀ (ms : List ByteArray) (n : Nat), ∀ m ∈ ms, m.size ≤ longM n ms
  | m :: ms, n, x, h => by
    rcases List.mem_cons.1 h with rfl | h
    · exact Nat.le_trans (Nat.le_max_right n x.size) (longM_ge ms (max n x.size))
    · exact longM_leg ms (max n m.size) x h
theorem long_nog {it : Itm} (h : longB it = false) : it.desc.size ≤ 65536 ∧ it.value.size ≤ 65536 ∧ it.start.size ≤ 65536 ∧ it.fin.size ≤ 65536 ∧ it.rule.size ≤ 65536 ∧ ∀ m ∈ it.mids, m.size ≤ 65536 := by
  have h1 : longM (longN it) it.mids ≤ 65536 := by
    have := of_decide_eq_false h; omega
  have h2 := longM_ge it.mids (longN it)
  have h3 : longN it ≤ 65536 := Nat.le_trans h2 h1
  unfold longN at h3
  exact ⟨by omega, by omega, by omega, by omega, by omega, fun m hm => Nat.le_trans (longM_leg it.mids (longN it) m hm) h1⟩
/-- What right answers at a kind. -/
def RightK (k : Int) : Prop := ∀ (B H : Nat) (it : Itm) (a1 : Option Addr) (n1 c1 : Nat) (a2 : Option Addr) (c2 : Nat) (w : World), it.kind = k → H ≤ w.heap.size → Txt w H a2 it.mids → it.mids.length ≤ 9223372036854775807 → n1 ≤ 9223372036854775807 → longB it = false → Env B w →
    Calls Tryz.prog 40 #[.agg #[.int .i8 it.kind, .slice a1 n1 c1, .string it.desc, .string it.value, .string it.start, .slice a2 it.mids.length c2, .string it.fin, .string it.rule, .bool it.dn]] w (RetB w (rightB it n1))

set_option maxHeartbeats 4000000 in
set_option maxRecDepth 100000 in
theorem right_k3 : RightK 3 := by
  intro B H it a1 n1 c1 a2 c2 w hk hH hT hml hnl hlg hE
  clear hH hT hml hnl
  obtain ⟨z2, z3, z4, z6, z7, _⟩ := long_nog hlg
  have HE := Lib.hid hE
  have HX : Hid (rightB it n1 = (decide (n1 = 0) && !piecesB it && !ruledB it && descQ it.desc)) := Lib.hid (by unfold rightB; simp [hk])
  obtain ⟨pb, hpb⟩ : ∃ pb, piecesB it = pb := ⟨_, rfl⟩
  obtain ⟨rb, hrb⟩ : ∃ rb, ruledB it = rb := ⟨_, rfl⟩
  have HP := Lib.hid hpb
  have HRB := Lib.hid hrb
  rw [hk]
  clear hE hk hpb hrb hlg
  go_enter Tryz.func40, Tryz.ntmps40
  go_upto_region 2 with fail
  obtain ⟨W, hW⟩ : ∃ W, W = w.alloc (.cells #[.int .i8 3, .slice a1 n1 c1, .string it.desc, .string it.value, .string it.start, .slice a2 it.mids.length c2, .string it.fin, .string it.rule, .bool it.dn] 26) := ⟨_, rfl⟩
  have hb : Hid (W.heap[w.heap.size]? = some (.cells #[.int .i8 3, .slice a1 n1 c1, .string it.desc, .string it.value, .string it.start, .slice a2 it.mids.length c2, .string it.fin, .string it.rule, .bool it.dn] 26 (0, 0))) := Lib.hid (by rw [hW]; exact alloc_at _ _)
  have HK : Hid (Keep [] w W) := Lib.hid (by rw [hW]; exact (Keep.refl [] w).alloc _)
  rw [← hW]
  clear hW
  obtain ⟨x0, x1, x2, x3, x4, x5, x6, x7, x8, xf⟩ := nine hb.out
  clear xf
  go_cut [4] (fun s4 wx => s4 = .bool pb ∧ wx = W)
  case first =>
    go_wp2_with fail
    all_goals
      go_meet
      exact ⟨by rw [← HP.out]; unfold piecesB someB; simp [*], rfl⟩
  case rest =>
    obtain ⟨rfl, rfl⟩ := hcut
    go_upto_region 3 with fail
    go_cut [5] (fun s5 wx => s5 = .bool rb ∧ wx = wc)
    case first =>
      go_wp2_with fail
      all_goals
        go_meet
        exact ⟨by rw [← HRB.out]; unfold ruledB someB; simp [*], rfl⟩
    case rest =>
      obtain ⟨rfl, he⟩ := hcut
      obtain rfl := he
      have HD := Lib.hid (fun V => described_any B it.desc V (by omega))
      rw [HP.out, HRB.out] at HX
      cases hn : decide (n1 = 0) with
      | false =>
        have hn0 : ((n1 : Int) == 0) = false := by rw [beq_eq_false_iff_ne]; have := of_decide_eq_false hn; omega
        rw [hn] at HX
        clear hn
        go_wp2_with fail
        go_ret
        exact ⟨ret_bool (by rw [HX.out]; rfl), HK.out⟩
      | true =>
        have hn0 : ((n1 : Int) == 0) = true := by rw [beq_iff_eq]; have := of_decide_eq_true hn; omega
        rw [hn] at HX
        clear hn
        cases pb with
        | true =>
          go_wp2_with fail
          go_ret
          exact ⟨ret_bool (by rw [HX.out]; rfl), HK.out⟩
        | false =>
          cases rb with
          | true =>
            go_wp2_with fail
            go_ret
            exact ⟨ret_bool (by rw [HX.out]; rfl), HK.out⟩
          | false =>
            go_wp2_with (go_at_call 66; refine (HD.out _ (HE.out.keep0 HK.out)).mono ?_; rintro e w' ⟨rfl, hK⟩)
            go_ret
            exact ⟨ret_bool (by rw [HX.out]; rfl), HK.out.trans hK⟩
set_option maxHeartbeats 4000000 in
set_option maxRecDepth 100000 in
theorem right_k5 : RightK 5 := by
  intro B H it a1 n1 c1 a2 c2 w hk hH hT hml hnl hlg hE
  clear hH hT hml hnl
  obtain ⟨z2, z3, z4, z6, z7, _⟩ := long_nog hlg
  have HE := Lib.hid hE
  have HX : Hid (rightB it n1 = (decide (n1 = 0) && !piecesB it && !ruledB it && descQ it.desc)) := Lib.hid (by unfold rightB; simp [hk])
  obtain ⟨pb, hpb⟩ : ∃ pb, piecesB it = pb := ⟨_, rfl⟩
  obtain ⟨rb, hrb⟩ : ∃ rb, ruledB it = rb := ⟨_, rfl⟩
  have HP := Lib.hid hpb
  have HRB := Lib.hid hrb
  rw [hk]
  clear hE hk hpb hrb hlg
  go_enter Tryz.func40, Tryz.ntmps40
  go_upto_region 2 with fail
  obtain ⟨W, hW⟩ : ∃ W, W = w.alloc (.cells #[.int .i8 5, .slice a1 n1 c1, .string it.desc, .string it.value, .string it.start, .slice a2 it.mids.length c2, .string it.fin, .string it.rule, .bool it.dn] 26) := ⟨_, rfl⟩
  have hb : Hid (W.heap[w.heap.size]? = some (.cells #[.int .i8 5, .slice a1 n1 c1, .string it.desc, .string it.value, .string it.start, .slice a2 it.mids.length c2, .string it.fin, .string it.rule, .bool it.dn] 26 (0, 0))) := Lib.hid (by rw [hW]; exact alloc_at _ _)
  have HK : Hid (Keep [] w W) := Lib.hid (by rw [hW]; exact (Keep.refl [] w).alloc _)
  rw [← hW]
  clear hW
  obtain ⟨x0, x1, x2, x3, x4, x5, x6, x7, x8, xf⟩ := nine hb.out
  clear xf
  go_cut [4] (fun s4 wx => s4 = .bool pb ∧ wx = W)
  case first =>
    go_wp2_with fail
    all_goals
      go_meet
      exact ⟨by rw [← HP.out]; unfold piecesB someB; simp [*], rfl⟩
  case rest =>
    obtain ⟨rfl, rfl⟩ := hcut
    go_upto_region 3 with fail
    go_cut [5] (fun s5 wx => s5 = .bool rb ∧ wx = wc)
    case first =>
      go_wp2_with fail
      all_goals
        go_meet
        exact ⟨by rw [← HRB.out]; unfold ruledB someB; simp [*], rfl⟩
    case rest =>
      obtain ⟨rfl, he⟩ := hcut
      obtain rfl := he
      have HD := Lib.hid (fun V => described_any B it.desc V (by omega))
      rw [HP.out, HRB.out] at HX
      cases hn : decide (n1 = 0) with
      | false =>
        have hn0 : ((n1 : Int) == 0) = false := by rw [beq_eq_false_iff_ne]; have := of_decide_eq_false hn; omega
        rw [hn] at HX
        clear hn
        go_wp2_with fail
        go_ret
        exact ⟨ret_bool (by rw [HX.out]; rfl), HK.out⟩
      | true =>
        have hn0 : ((n1 : Int) == 0) = true := by rw [beq_iff_eq]; have := of_decide_eq_true hn; omega
        rw [hn] at HX
        clear hn
        cases pb with
        | true =>
          go_wp2_with fail
          go_ret
          exact ⟨ret_bool (by rw [HX.out]; rfl), HK.out⟩
        | false =>
          cases rb with
          | true =>
            go_wp2_with fail
            go_ret
            exact ⟨ret_bool (by rw [HX.out]; rfl), HK.out⟩
          | false =>
            go_wp2_with (go_at_call 66; refine (HD.out _ (HE.out.keep0 HK.out)).mono ?_; rintro e w' ⟨rfl, hK⟩)
            go_ret
            exact ⟨ret_bool (by rw [HX.out]; rfl), HK.out.trans hK⟩
end Go.Proofs.YtjmpcoedfoaebaaGreatDoor
