/- octet: kind. -/
import Derived.Test.YtjmpcoedfoaebaaGreatDoorOcta
open Go Go.RowKit
namespace Go.Proofs.YtjmpcoedfoaebaaGreatDoor

def Kinded (k : Int) (w : World) (e : Ending) (w' : World) : Prop := e = .returned (.int .i64 k) ∧ w = w'

theorem ext_data (s : ByteArray) (i : Nat) : (s.extract i s.size).data.toList = s.data.toList.drop i := by
  simp [ByteArray.data_extract]
  exact List.take_of_length_le (by simp)

set_option maxHeartbeats 1000000 in
theorem kind_alone (s : ByteArray) (i : Nat) (w : World) (hi : i < s.size) (hp : Lib.hasPrefix (s.data.toList.drop i) [239, 191, 189] = false) :
    Calls Tryz.prog 85 #[.string s, .int .i64 i, .int .i32 65533] w (Kinded 0 w) := by
  have h := fun W => Tryz.strings_HasPrefix (s.extract i s.size) ⟨#[239, 191, 189]⟩ W
  rw [ext_data] at h
  simp only [] at h
  rw [hp] at h
  have H := Lib.hid h
  clear h hp
  have hi' : (i : Int) < s.size := by omega
  go_enter Tryz.func85, Tryz.ntmps85
  go_wp2_with (go_at_call 111; refine (H.out _).mono ?_; rintro e w' ⟨rfl, rfl⟩)
  go_ret
  exact ⟨rfl, rfl⟩
set_option maxRecDepth 100000 in
set_option maxHeartbeats 1000000 in
theorem kind_repl (s : ByteArray) (i : Nat) (w : World) (hi : i < s.size) (hp : Lib.hasPrefix (s.data.toList.drop i) [239, 191, 189] = true) :
    Calls Tryz.prog 85 #[.string s, .int .i64 i, .int .i32 65533] w (Kinded 2 w) := by
  have h := fun W => Tryz.strings_HasPrefix (s.extract i s.size) ⟨#[239, 191, 189]⟩ W
  rw [ext_data] at h
  simp only [] at h
  rw [hp] at h
  have H := Lib.hid h
  clear h hp
  have hi' : (i : Int) < s.size := by omega
  have i0 : ∀ W, (Instr.index 150 (.agg #[.int .i32 0, .int .i32 40, .int .i32 41, .int .i32 42, .int .i32 92]) (.int .i64 0)).run Tryz.prog W = .ok (.int .i32 0) W := fun _ => by kernel_rfl
  have i1 : ∀ W, (Instr.index 150 (.agg #[.int .i32 0, .int .i32 40, .int .i32 41, .int .i32 42, .int .i32 92]) (.int .i64 1)).run Tryz.prog W = .ok (.int .i32 40) W := fun _ => by kernel_rfl
  have i2 : ∀ W, (Instr.index 150 (.agg #[.int .i32 0, .int .i32 40, .int .i32 41, .int .i32 42, .int .i32 92]) (.int .i64 2)).run Tryz.prog W = .ok (.int .i32 41) W := fun _ => by kernel_rfl
  have i3 : ∀ W, (Instr.index 150 (.agg #[.int .i32 0, .int .i32 40, .int .i32 41, .int .i32 42, .int .i32 92]) (.int .i64 3)).run Tryz.prog W = .ok (.int .i32 42) W := fun _ => by kernel_rfl
  have i4 : ∀ W, (Instr.index 150 (.agg #[.int .i32 0, .int .i32 40, .int .i32 41, .int .i32 42, .int .i32 92]) (.int .i64 4)).run Tryz.prog W = .ok (.int .i32 92) W := fun _ => by kernel_rfl
  go_enter Tryz.func85, Tryz.ntmps85
  go_wp2_with (go_at_call 111; refine (H.out _).mono ?_; rintro e w' ⟨rfl, rfl⟩)
  refine wp_loop_rounds 6 ?_
  rw [rounds_succ]
  go_wp2
  rw [rounds_succ]
  go_wp2
  rw [rounds_succ]
  go_wp2
  rw [rounds_succ]
  go_wp2
  rw [rounds_succ]
  go_wp2
  rw [rounds_succ]
  go_wp2
  go_ret
  exact ⟨rfl, rfl⟩
set_option maxRecDepth 100000 in
set_option maxHeartbeats 1000000 in
theorem kind_fine (s : ByteArray) (i : Nat) (d : Nat) (w : World) (hd : d ≠ 65533) (h0 : d ≠ 0) (h1 : d ≠ 40) (h2 : d ≠ 41) (h3 : d ≠ 42) (h4 : d ≠ 92) :
    Calls Tryz.prog 85 #[.string s, .int .i64 i, .int .i32 d] w (Kinded 2 w) := by
  have i0 : ∀ W, (Instr.index 150 (.agg #[.int .i32 0, .int .i32 40, .int .i32 41, .int .i32 42, .int .i32 92]) (.int .i64 0)).run Tryz.prog W = .ok (.int .i32 0) W := fun _ => by kernel_rfl
  have i1 : ∀ W, (Instr.index 150 (.agg #[.int .i32 0, .int .i32 40, .int .i32 41, .int .i32 42, .int .i32 92]) (.int .i64 1)).run Tryz.prog W = .ok (.int .i32 40) W := fun _ => by kernel_rfl
  have i2 : ∀ W, (Instr.index 150 (.agg #[.int .i32 0, .int .i32 40, .int .i32 41, .int .i32 42, .int .i32 92]) (.int .i64 2)).run Tryz.prog W = .ok (.int .i32 41) W := fun _ => by kernel_rfl
  have i3 : ∀ W, (Instr.index 150 (.agg #[.int .i32 0, .int .i32 40, .int .i32 41, .int .i32 42, .int .i32 92]) (.int .i64 3)).run Tryz.prog W = .ok (.int .i32 42) W := fun _ => by kernel_rfl
  have i4 : ∀ W, (Instr.index 150 (.agg #[.int .i32 0, .int .i32 40, .int .i32 41, .int .i32 42, .int .i32 92]) (.int .i64 4)).run Tryz.prog W = .ok (.int .i32 92) W := fun _ => by kernel_rfl
  have gd : ((d : Int) == 65533) = false := by rw [beq_eq_false_iff_ne]; omega
  have g0 : ((d : Int) == 0) = false := by rw [beq_eq_false_iff_ne]; omega
  have g1 : ((d : Int) == 40) = false := by rw [beq_eq_false_iff_ne]; omega
  have g2 : ((d : Int) == 41) = false := by rw [beq_eq_false_iff_ne]; omega
  have g3 : ((d : Int) == 42) = false := by rw [beq_eq_false_iff_ne]; omega
  have g4 : ((d : Int) == 92) = false := by rw [beq_eq_false_iff_ne]; omega
  clear hd h0 h1 h2 h3 h4
  go_enter Tryz.func85, Tryz.ntmps85
  go_wp2
  refine wp_loop_rounds 6 ?_
  rw [rounds_succ]
  go_wp2
  rw [rounds_succ]
  go_wp2
  rw [rounds_succ]
  go_wp2
  rw [rounds_succ]
  go_wp2
  rw [rounds_succ]
  go_wp2
  rw [rounds_succ]
  go_wp2
  go_ret
  exact ⟨rfl, rfl⟩
set_option maxRecDepth 100000 in
set_option maxHeartbeats 1000000 in
theorem kind_s0 (s : ByteArray) (i : Nat) (w : World) : Calls Tryz.prog 85 #[.string s, .int .i64 i, .int .i32 0] w (Kinded 1 w) := by
  have i0 : ∀ W, (Instr.index 150 (.agg #[.int .i32 0, .int .i32 40, .int .i32 41, .int .i32 42, .int .i32 92]) (.int .i64 0)).run Tryz.prog W = .ok (.int .i32 0) W := fun _ => by kernel_rfl
  have i1 : ∀ W, (Instr.index 150 (.agg #[.int .i32 0, .int .i32 40, .int .i32 41, .int .i32 42, .int .i32 92]) (.int .i64 1)).run Tryz.prog W = .ok (.int .i32 40) W := fun _ => by kernel_rfl
  have i2 : ∀ W, (Instr.index 150 (.agg #[.int .i32 0, .int .i32 40, .int .i32 41, .int .i32 42, .int .i32 92]) (.int .i64 2)).run Tryz.prog W = .ok (.int .i32 41) W := fun _ => by kernel_rfl
  have i3 : ∀ W, (Instr.index 150 (.agg #[.int .i32 0, .int .i32 40, .int .i32 41, .int .i32 42, .int .i32 92]) (.int .i64 3)).run Tryz.prog W = .ok (.int .i32 42) W := fun _ => by kernel_rfl
  have i4 : ∀ W, (Instr.index 150 (.agg #[.int .i32 0, .int .i32 40, .int .i32 41, .int .i32 42, .int .i32 92]) (.int .i64 4)).run Tryz.prog W = .ok (.int .i32 92) W := fun _ => by kernel_rfl
  go_enter Tryz.func85, Tryz.ntmps85
  go_wp2
  refine wp_loop_rounds 1 ?_
  rw [rounds_succ]
  go_wp2
  go_ret
  exact ⟨rfl, rfl⟩
set_option maxRecDepth 100000 in
set_option maxHeartbeats 1000000 in
theorem kind_s40 (s : ByteArray) (i : Nat) (w : World) : Calls Tryz.prog 85 #[.string s, .int .i64 i, .int .i32 40] w (Kinded 1 w) := by
  have i0 : ∀ W, (Instr.index 150 (.agg #[.int .i32 0, .int .i32 40, .int .i32 41, .int .i32 42, .int .i32 92]) (.int .i64 0)).run Tryz.prog W = .ok (.int .i32 0) W := fun _ => by kernel_rfl
  have i1 : ∀ W, (Instr.index 150 (.agg #[.int .i32 0, .int .i32 40, .int .i32 41, .int .i32 42, .int .i32 92]) (.int .i64 1)).run Tryz.prog W = .ok (.int .i32 40) W := fun _ => by kernel_rfl
  have i2 : ∀ W, (Instr.index 150 (.agg #[.int .i32 0, .int .i32 40, .int .i32 41, .int .i32 42, .int .i32 92]) (.int .i64 2)).run Tryz.prog W = .ok (.int .i32 41) W := fun _ => by kernel_rfl
  have i3 : ∀ W, (Instr.index 150 (.agg #[.int .i32 0, .int .i32 40, .int .i32 41, .int .i32 42, .int .i32 92]) (.int .i64 3)).run Tryz.prog W = .ok (.int .i32 42) W := fun _ => by kernel_rfl
  have i4 : ∀ W, (Instr.index 150 (.agg #[.int .i32 0, .int .i32 40, .int .i32 41, .int .i32 42, .int .i32 92]) (.int .i64 4)).run Tryz.prog W = .ok (.int .i32 92) W := fun _ => by kernel_rfl
  go_enter Tryz.func85, Tryz.ntmps85
  go_wp2
  refine wp_loop_rounds 2 ?_
  rw [rounds_succ]
  go_wp2
  rw [rounds_succ]
  go_wp2
  go_ret
  exact ⟨rfl, rfl⟩
set_option maxRecDepth 100000 in
set_option maxHeartbeats 1000000 in
theorem kind_s41 (s : ByteArray) (i : Nat) (w : World) : Calls Tryz.prog 85 #[.string s, .int .i64 i, .int .i32 41] w (Kinded 1 w) := by
  have i0 : ∀ W, (Instr.index 150 (.agg #[.int .i32 0, .int .i32 40, .int .i32 41, .int .i32 42, .int .i32 92]) (.int .i64 0)).run Tryz.prog W = .ok (.int .i32 0) W := fun _ => by kernel_rfl
  have i1 : ∀ W, (Instr.index 150 (.agg #[.int .i32 0, .int .i32 40, .int .i32 41, .int .i32 42, .int .i32 92]) (.int .i64 1)).run Tryz.prog W = .ok (.int .i32 40) W := fun _ => by kernel_rfl
  have i2 : ∀ W, (Instr.index 150 (.agg #[.int .i32 0, .int .i32 40, .int .i32 41, .int .i32 42, .int .i32 92]) (.int .i64 2)).run Tryz.prog W = .ok (.int .i32 41) W := fun _ => by kernel_rfl
  have i3 : ∀ W, (Instr.index 150 (.agg #[.int .i32 0, .int .i32 40, .int .i32 41, .int .i32 42, .int .i32 92]) (.int .i64 3)).run Tryz.prog W = .ok (.int .i32 42) W := fun _ => by kernel_rfl
  have i4 : ∀ W, (Instr.index 150 (.agg #[.int .i32 0, .int .i32 40, .int .i32 41, .int .i32 42, .int .i32 92]) (.int .i64 4)).run Tryz.prog W = .ok (.int .i32 92) W := fun _ => by kernel_rfl
  go_enter Tryz.func85, Tryz.ntmps85
  go_wp2
  refine wp_loop_rounds 3 ?_
  rw [rounds_succ]
  go_wp2
  rw [rounds_succ]
  go_wp2
  rw [rounds_succ]
  go_wp2
  go_ret
  exact ⟨rfl, rfl⟩
set_option maxRecDepth 100000 in
set_option maxHeartbeats 1000000 in
theorem kind_s42 (s : ByteArray) (i : Nat) (w : World) : Calls Tryz.prog 85 #[.string s, .int .i64 i, .int .i32 42] w (Kinded 1 w) := by
  have i0 : ∀ W, (Instr.index 150 (.agg #[.int .i32 0, .int .i32 40, .int .i32 41, .int .i32 42, .int .i32 92]) (.int .i64 0)).run Tryz.prog W = .ok (.int .i32 0) W := fun _ => by kernel_rfl
  have i1 : ∀ W, (Instr.index 150 (.agg #[.int .i32 0, .int .i32 40, .int .i32 41, .int .i32 42, .int .i32 92]) (.int .i64 1)).run Tryz.prog W = .ok (.int .i32 40) W := fun _ => by kernel_rfl
  have i2 : ∀ W, (Instr.index 150 (.agg #[.int .i32 0, .int .i32 40, .int .i32 41, .int .i32 42, .int .i32 92]) (.int .i64 2)).run Tryz.prog W = .ok (.int .i32 41) W := fun _ => by kernel_rfl
  have i3 : ∀ W, (Instr.index 150 (.agg #[.int .i32 0, .int .i32 40, .int .i32 41, .int .i32 42, .int .i32 92]) (.int .i64 3)).run Tryz.prog W = .ok (.int .i32 42) W := fun _ => by kernel_rfl
  have i4 : ∀ W, (Instr.index 150 (.agg #[.int .i32 0, .int .i32 40, .int .i32 41, .int .i32 42, .int .i32 92]) (.int .i64 4)).run Tryz.prog W = .ok (.int .i32 92) W := fun _ => by kernel_rfl
  go_enter Tryz.func85, Tryz.ntmps85
  go_wp2
  refine wp_loop_rounds 4 ?_
  rw [rounds_succ]
  go_wp2
  rw [rounds_succ]
  go_wp2
  rw [rounds_succ]
  go_wp2
  rw [rounds_succ]
  go_wp2
  go_ret
  exact ⟨rfl, rfl⟩
set_option maxRecDepth 100000 in
set_option maxHeartbeats 1000000 in
theorem kind_s92 (s : ByteArray) (i : Nat) (w : World) : Calls Tryz.prog 85 #[.string s, .int .i64 i, .int .i32 92] w (Kinded 1 w) := by
  have i0 : ∀ W, (Instr.index 150 (.agg #[.int .i32 0, .int .i32 40, .int .i32 41, .int .i32 42, .int .i32 92]) (.int .i64 0)).run Tryz.prog W = .ok (.int .i32 0) W := fun _ => by kernel_rfl
  have i1 : ∀ W, (Instr.index 150 (.agg #[.int .i32 0, .int .i32 40, .int .i32 41, .int .i32 42, .int .i32 92]) (.int .i64 1)).run Tryz.prog W = .ok (.int .i32 40) W := fun _ => by kernel_rfl
  have i2 : ∀ W, (Instr.index 150 (.agg #[.int .i32 0, .int .i32 40, .int .i32 41, .int .i32 42, .int .i32 92]) (.int .i64 2)).run Tryz.prog W = .ok (.int .i32 41) W := fun _ => by kernel_rfl
  have i3 : ∀ W, (Instr.index 150 (.agg #[.int .i32 0, .int .i32 40, .int .i32 41, .int .i32 42, .int .i32 92]) (.int .i64 3)).run Tryz.prog W = .ok (.int .i32 42) W := fun _ => by kernel_rfl
  have i4 : ∀ W, (Instr.index 150 (.agg #[.int .i32 0, .int .i32 40, .int .i32 41, .int .i32 42, .int .i32 92]) (.int .i64 4)).run Tryz.prog W = .ok (.int .i32 92) W := fun _ => by kernel_rfl
  go_enter Tryz.func85, Tryz.ntmps85
  go_wp2
  refine wp_loop_rounds 5 ?_
  rw [rounds_succ]
  go_wp2
  rw [rounds_succ]
  go_wp2
  rw [rounds_succ]
  go_wp2
  rw [rounds_succ]
  go_wp2
  rw [rounds_succ]
  go_wp2
  go_ret
  exact ⟨rfl, rfl⟩

/-- What the character at a place is. -/
def kindP (l : List UInt8) : Int := if firstP l = 0 then 0 else if bareB (l.getD 0 0) = true then 1 else 2
end Go.Proofs.YtjmpcoedfoaebaaGreatDoor
