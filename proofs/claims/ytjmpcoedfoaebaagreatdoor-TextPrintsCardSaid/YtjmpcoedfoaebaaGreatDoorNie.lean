/- The reference's long. -/
import Derived.Test.YtjmpcoedfoaebaaGreatDoorNiz
import Derived.Test.YtjmpcoedfoaebaaGreatDoorSam
open Go Go.RowKit
namespace Go.Proofs.YtjmpcoedfoaebaaGreatDoor

theorem longM_iff : ∀ (ms : List ByteArray) (n : Nat), 65536 < longM n ms ↔ 65536 < n ∨ ∃ m ∈ ms, 65536 < m.size
  | [], n => by simp [longM]
  | m :: ms, n => by
    rw [longM, longM_iff ms]
    have h : 65536 < max n m.size ↔ 65536 < n ∨ 65536 < m.size := by omega
    simp only [List.mem_cons, exists_eq_or_imp, h, or_assoc]
theorem longB_is (it : Itm) : longB it = (it.mids.any (fun m => decide (65536 < m.size)) || decide (65536 < longN it)) := by
  unfold longB
  rw [Bool.eq_iff_iff]
  simp only [decide_eq_true_eq, longM_iff, Bool.or_eq_true, List.any_eq_true]
  exact or_comm

set_option maxHeartbeats 4000000 in
set_option maxRecDepth 100000 in
theorem ylong_any (H : Nat) (it : Itm) (a1 : Option Addr) (n1 c1 : Nat) (a2 : Option Addr) (c2 : Nat) (w : World) (hH : H ≤ w.heap.size) (hT : Txt w H a2 it.mids) (hml : it.mids.length ≤ 9223372036854775807) :
    Calls Tryz.prog 80 #[.agg #[.int .i8 it.kind, .slice a1 n1 c1, .string it.desc, .string it.value, .string it.start, .slice a2 it.mids.length c2, .string it.fin, .string it.rule, .bool it.dn]] w (RetB w (longB it)) := by
  obtain ⟨R, hR⟩ : ∃ R, longB it = R := ⟨_, rfl⟩
  rw [hR]
  have HR : Hid ((it.mids.any (fun m => decide (65536 < m.size)) || decide (65536 < longN it)) = R) := Lib.hid (by rw [← longB_is]; exact hR)
  have HT := Lib.hid hT
  have HLN : Hid (longN it = max (max (max (max it.desc.size it.value.size) it.start.size) it.fin.size) it.rule.size) := Lib.hid rfl
  clear hR hT
  have HB1 : Hid ((w.alloc (.cells #[.int .i8 it.kind, .slice a1 n1 c1, .string it.desc, .string it.value, .string it.start, .slice a2 it.mids.length c2, .string it.fin, .string it.rule, .bool it.dn] 26)).heap[w.heap.size]? = some (.cells #[.int .i8 it.kind, .slice a1 n1 c1, .string it.desc, .string it.value, .string it.start, .slice a2 it.mids.length c2, .string it.fin, .string it.rule, .bool it.dn] 26 (0, 0))) := Lib.hid (alloc_at w _)
  have HKW : Hid (Keep [] w (w.alloc (.cells #[.int .i8 it.kind, .slice a1 n1 c1, .string it.desc, .string it.value, .string it.start, .slice a2 it.mids.length c2, .string it.fin, .string it.rule, .bool it.dn] 26))) := Lib.hid ((Keep.refl [] w).alloc _)
  obtain ⟨W1, hW1⟩ : ∃ W1, W1 = w.alloc (.cells #[.int .i8 it.kind, .slice a1 n1 c1, .string it.desc, .string it.value, .string it.start, .slice a2 it.mids.length c2, .string it.fin, .string it.rule, .bool it.dn] 26) := ⟨_, rfl⟩
  have HB1' : Hid (W1.heap[w.heap.size]? = some (.cells #[.int .i8 it.kind, .slice a1 n1 c1, .string it.desc, .string it.value, .string it.start, .slice a2 it.mids.length c2, .string it.fin, .string it.rule, .bool it.dn] 26 (0, 0))) := Lib.hid (by rw [hW1]; exact HB1.out)
  have HK1 : Hid (Keep [] w W1) := Lib.hid (by rw [hW1]; exact HKW.out)
  have HW1 := Lib.hid hW1
  clear hW1
  go_enter Tryz.func80, Tryz.ntmps80
  go_wp2_with fail
  rw [← HW1.out]
  clear HB1 HKW HW1
  go_loopg [3] (it.mids.length) (fun g i wr => ∃ k : Nat, k ≤ it.mids.length ∧ it.mids.length ≤ g + k ∧ i = .int .i64 k ∧ Hid (((it.mids.drop k).any (fun m => decide (65536 < m.size)) || decide (65536 < longN it)) = R) ∧ Hid (Keep [] W1 wr))
  case atStart => exact ⟨0, Nat.zero_le _, by omega, rfl, HR, Lib.hid (Keep.refl _ _)⟩
  case round =>
    obtain ⟨k, hk, hg, rfl, HS, HK⟩ := hrel
    obtain ⟨x0, x1, x2, x3, x4, x5, x6, x7, x8, xf⟩ := nine (HK.out.heap HB1'.out (by simp))
    clear xf
    by_cases hlt : k < it.mids.length
    · obtain ⟨r, hr⟩ : ∃ r, it.mids[k]? = some r := ⟨_, List.getElem?_eq_getElem hlt⟩
      obtain ⟨mb, mo, rfl, hmb, hc⟩ := (HT.out.keep0 (HK1.out.trans HK.out) hH).at hr
      have HS2 : Hid ((decide (65536 < r.size) || ((it.mids.drop (k + 1)).any (fun m => decide (65536 < m.size)) || decide (65536 < longN it))) = R) := Lib.hid (by
        rw [← HS.out, List.drop_eq_getElem_cons hlt, List.any_cons, Bool.or_assoc, (List.getElem?_eq_some_iff.1 hr).2])
      clear hr
      cases hb : decide (65536 < r.size) with
      | true =>
        have hb1 : (65536 : Int) < (r.size : Int) := by have := of_decide_eq_true hb; omega
        have HR1 : Hid (R = true) := Lib.hid (by rw [← HS2.out, hb]; rfl)
        clear hb HS2
        go_wp2_with fail
        go_ret
        exact ⟨by rw [HR1.out]; rfl, HK1.out.trans HK.out⟩
      | false =>
        have hb1 : (r.size : Int) ≤ 65536 := by have := of_decide_eq_false hb; omega
        have HS3 : Hid (((it.mids.drop (k + 1)).any (fun m => decide (65536 < m.size)) || decide (65536 < longN it)) = R) := Lib.hid (by rw [← HS2.out, hb]; rfl)
        clear hb HS2
        go_wp2_with fail
        go_roundg (it.mids.length - (k + 1))
        case measure => omega
        case rel => exact ⟨k + 1, by omega, by omega, by go_num, HS3, HK⟩
    · have HR1 : Hid (R = decide (65536 < longN it)) := Lib.hid (by rw [← HS.out, List.drop_of_length_le (by omega)]; rfl)
      clear HS
      go_wp2_with fail
      all_goals go_ret
      all_goals refine ⟨ret_bool ?_, HK1.out.trans HK.out⟩
      all_goals rw [HR1.out, HLN.out, Bool.eq_iff_iff]
      all_goals simp
      all_goals omega
end Go.Proofs.YtjmpcoedfoaebaaGreatDoor
