/- filter.right at no kind at all. filter.right at every kind; filter.Check without a premise. -/
import Derived.Test.YtjmpcoedfoaebaaGreatDoorFpa
import Derived.Test.YtjmpcoedfoaebaaGreatDoorFrb
import Derived.Test.YtjmpcoedfoaebaaGreatDoorFrc
import Derived.Test.YtjmpcoedfoaebaaGreatDoorFrde
import Derived.Test.YtjmpcoedfoaebaaGreatDoorFpu
open Go Go.RowKit
namespace Go.Proofs.YtjmpcoedfoaebaaGreatDoor

set_option maxHeartbeats 4000000 in
set_option maxRecDepth 100000 in
theorem right_else (it : Itm) (a1 : Option Addr) (n1 c1 : Nat) (a2 : Option Addr) (c2 : Nat) (w : World) (h : it.kind < 0 ∨ 9 < it.kind) :
    Calls Tryz.prog 40 #[.agg #[.int .i8 it.kind, .slice a1 n1 c1, .string it.desc, .string it.value, .string it.start, .slice a2 it.mids.length c2, .string it.fin, .string it.rule, .bool it.dn]] w (RetB w (rightB it n1)) := by
  have HX : Hid (rightB it n1 = false) := Lib.hid (by
    unfold rightB
    rw [if_neg (show ¬ (it.kind = 0 ∨ it.kind = 1 ∨ it.kind = 2) by omega), if_neg (show ¬ it.kind = 9 by omega), if_neg (show ¬ it.kind = 4 by omega), if_neg (show ¬ it.kind = 7 by omega), if_neg (show ¬ (it.kind = 3 ∨ it.kind = 5 ∨ it.kind = 6 ∨ it.kind = 8) by omega)])
  have q0 : (it.kind == 0) = false := by rw [beq_eq_false_iff_ne]; omega
  have q1 : (it.kind == 1) = false := by rw [beq_eq_false_iff_ne]; omega
  have q2 : (it.kind == 2) = false := by rw [beq_eq_false_iff_ne]; omega
  have q3 : (it.kind == 3) = false := by rw [beq_eq_false_iff_ne]; omega
  have q4 : (it.kind == 4) = false := by rw [beq_eq_false_iff_ne]; omega
  have q5 : (it.kind == 5) = false := by rw [beq_eq_false_iff_ne]; omega
  have q6 : (it.kind == 6) = false := by rw [beq_eq_false_iff_ne]; omega
  have q7 : (it.kind == 7) = false := by rw [beq_eq_false_iff_ne]; omega
  have q8 : (it.kind == 8) = false := by rw [beq_eq_false_iff_ne]; omega
  have q9 : (it.kind == 9) = false := by rw [beq_eq_false_iff_ne]; omega
  clear h
  go_enter Tryz.func40, Tryz.ntmps40
  go_wp2_with fail
  all_goals
    go_ret
    exact ⟨ret_bool (by rw [HX.out]), (Keep.refl [] w).alloc _⟩
end Go.Proofs.YtjmpcoedfoaebaaGreatDoor

open Go Go.RowKit
namespace Go.Proofs.YtjmpcoedfoaebaaGreatDoor

theorem right_ok : RightOk := by
  intro B H it a1 n1 c1 a2 c2 w hH hT hml hnl hlg hE
  by_cases h : it.kind < 0 ∨ 9 < it.kind
  · exact right_else it a1 n1 c1 a2 c2 w h
  · have hc : it.kind = 0 ∨ it.kind = 1 ∨ it.kind = 2 ∨ it.kind = 3 ∨ it.kind = 4 ∨ it.kind = 5 ∨ it.kind = 6 ∨ it.kind = 7 ∨ it.kind = 8 ∨ it.kind = 9 := by omega
    rcases hc with hk | hk | hk | hk | hk | hk | hk | hk | hk | hk
    · exact right_k0 B H it a1 n1 c1 a2 c2 w hk hH hT hml hnl hlg hE
    · exact right_k1 B H it a1 n1 c1 a2 c2 w hk hH hT hml hnl hlg hE
    · exact right_k2 B H it a1 n1 c1 a2 c2 w hk hH hT hml hnl hlg hE
    · exact right_k3 B H it a1 n1 c1 a2 c2 w hk hH hT hml hnl hlg hE
    · exact right_k4 B H it a1 n1 c1 a2 c2 w hk hH hT hml hnl hlg hE
    · exact right_k5 B H it a1 n1 c1 a2 c2 w hk hH hT hml hnl hlg hE
    · exact right_k6 B H it a1 n1 c1 a2 c2 w hk hH hT hml hnl hlg hE
    · exact right_k7 B H it a1 n1 c1 a2 c2 w hk hH hT hml hnl hlg hE
    · exact right_k8 B H it a1 n1 c1 a2 c2 w hk hH hT hml hnl hlg hE
    · exact right_k9 B H it a1 n1 c1 a2 c2 w hk hH hT hml hnl hlg hE
theorem check_calls (B H : Nat) (g : Flt) (vs : List Value) (w : World) (hF : FltD w H g vs) (hE : Env B w) (hH : H ≤ w.heap.size) : Calls Tryz.prog 24 #[.agg vs.toArray] w (ChR w (checkR g)) := check_any right_ok B H g vs w hF hE hH
end Go.Proofs.YtjmpcoedfoaebaaGreatDoor
