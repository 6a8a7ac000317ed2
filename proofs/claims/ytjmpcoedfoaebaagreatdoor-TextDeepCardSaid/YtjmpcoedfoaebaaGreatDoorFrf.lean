/- filter.right at no kind at all. -/
import Derived.Test.YtjmpcoedfoaebaaGreatDoorFra
open Go Go.RowKit
namespace Go.Proofs.YtjmpcoedfoaebaaGreatDoor

set_option maxHeartbeats 4000000 in
set_option maxRecDepth 100000 in
theorem right_else (it : Itm) (a1 : Option Addr) (n1 c1 : Nat) (a2 : Option Addr) (c2 : Nat) (w : World) (h : it.kind < 0 ∨ 9 < it.kind) :
    Calls Tryz.prog 40 #[.agg #[.int .i8 it.kind, .slice a1 n1 c1, .string it.desc, .string it.value, .string it.start, .slice a2 it.mids.length c2, .string it.fin, .string it.rule, .bool it.dn]] w (RetB w (rightB it n1)) := by
  have HX : Hid (rightB it n1 = false) := Lib.hid (by
    unfold rightB
    rw [if_neg (show ¬ (it.kind = 0 ∨ it.kind = 1 ∨ it.kind = 2) by omega), if_neg (show ¬ it.kind = 9 by omega), if_neg (show ¬ it.kind = 4 by omega), if_neg (show ¬ it.kind = 7 by omega), if_neg (show ¬ (it.kind = 3 ∨ it.kind = 5 ∨ it.kind = 6 ∨ it.kind = 8) by omega)])
  have q0 : (it.kind == 0) = false := by rw [beq_eq_false_iff_ne]; omega
  have q1 : (it.kind == 1) = false := by rw [beq_eq_false_iff_ne]; omega
  have q2 : (it.kind == 2) = false := by rw [beq_eq_false_iff_ne]; omega
  have q3 : (it.kind == 3) = false := by rw [beq_eq_false_iff_ne]; omega
  have q4 : (it.kind == 4) = false := by rw [beq_eq_false_iff_ne]; omega
  have q5 : (it.kind == 5) = false := by rw [beq_eq_false_iff_ne]; omega
  have q6 : (it.kind == 6) = false := by rw [beq_eq_false_iff_ne]; omega
  have q7 : (it.kind == 7) = false := by rw [beq_eq_false_iff_ne]; omega
  have q8 : (it.kind == 8) = false := by rw [beq_eq_false_iff_ne]; omega
  have q9 : (it.kind == 9) = false := by rw [beq_eq_false_iff_ne]; omega
  clear h
  go_enter Tryz.func40, Tryz.ntmps40
  go_wp2_with fail
  all_goals
    go_ret
    exact ⟨ret_bool (by rw [HX.out]), (Keep.refl [] w).alloc _⟩
end Go.Proofs.YtjmpcoedfoaebaaGreatDoor
