/- The program's reader: peek, fault, stuck, take. Contracts at a reader's block that is known whole. -/
import Derived.Test.YtjmpcoedfoaebaaGreatDoorPlain
import Derived.WalkSpells
open Go Go.RowKit
namespace Go.Proofs.YtjmpcoedfoaebaaGreatDoor

set_option maxHeartbeats 400000 in
theorem peek_any (b i p : Nat) (s : ByteArray) (w : World) (hR : Rd w b s i p) :
    Calls Tryz.prog 47 #[.pointer (some ⟨b, 0, none⟩)] w fun e w' => e = .returned (.int .u8 (peekB s i).toNat) ∧ ∃ n, w' = w.drewN n := by
  have h0 := hR.c0
  have h1 := hR.c1
  clear hR
  by_cases hi : i < s.size
  · have hv : (peekB s i) = s[i] := by unfold peekB; rw [dif_pos hi]
    have HV := Lib.hid hv
    clear hv
    go_enter Tryz.func47, Tryz.ntmps47
    go_wp2
    go_quiet (fail)
    go_wp2
    go_quiet (fail)
    go_wp2
    go_ret
    exact ⟨by rw [HV.out]; rfl, _, World.drewN_drewN _ _ _⟩
  · have hv : (peekB s i) = 0 := by unfold peekB; rw [dif_neg hi]
    have HV := Lib.hid hv
    clear hv
    have hi' : s.size ≤ i := by omega
    go_enter Tryz.func47, Tryz.ntmps47
    go_wp2
    go_quiet (fail)
    go_wp2
    go_ret
    exact ⟨by rw [HV.out]; rfl, _, rfl⟩

set_option maxHeartbeats 400000 in
theorem fault_any (b i p : Nat) (q : Nat) (c : Int) (s : ByteArray) (w : World) (hs : s.size ≤ maxLen) (hR : Rd w b s i p) :
    Calls Tryz.prog 48 #[.pointer (some ⟨b, 0, none⟩), .int .i64 c, .int .i64 q] w fun e w' => ∃ v, e = .returned v ∧ ErrAt w' v s (c, q) ∧ Keep [] w w' := by
  have h0 := hR.c0
  have hlt := hR.lt
  clear hR
  unfold maxLen at hs
  by_cases hi : q < s.size
  · have hv : wordAt s q = s.extract q (q + 1) := by unfold wordAt; rw [if_pos hi]
    have HV := Lib.hid hv
    clear hv
    go_enter Tryz.func48, Tryz.ntmps48
    go_wp2
    go_ret
    refine ⟨_, rfl, ⟨_, rfl, ?_⟩, ?_⟩
    · show _ = some (Obj.cells #[_, _, .string (wordAt s q)] _ _)
      rw [HV.out]
      exact alloc_at _ _
    · exact (Keep.refl _ _).alloc _
  · have hv : wordAt s q = ⟨#[]⟩ := by unfold wordAt; rw [if_neg hi]
    have HV := Lib.hid hv
    clear hv
    go_enter Tryz.func48, Tryz.ntmps48
    go_wp2
    go_ret
    refine ⟨_, rfl, ⟨_, rfl, ?_⟩, ?_⟩
    · show _ = some (Obj.cells #[_, _, .string (wordAt s q)] _ _)
      rw [HV.out]
      exact alloc_at _ _
    · exact (Keep.refl _ _).alloc _

set_option maxHeartbeats 400000 in
theorem stuck_any (b i p : Nat) (s : ByteArray) (w : World) (hs : s.size ≤ maxLen) (hR : Rd w b s i p) :
    Calls Tryz.prog 29 #[.pointer (some ⟨b, 0, none⟩)] w fun e w' => ∃ v, e = .returned v ∧ ErrAt w' v s (stuckF s i) ∧ Keep [] w w' := by
  have h0 := hR.c0
  have h1 := hR.c1
  have hR' := Lib.hid hR
  clear hR
  have hs' := hs
  unfold maxLen at hs
  by_cases hlt : s.size ≤ i
  · have hv : stuckF s i = (5, i) := by unfold stuckF; rw [if_pos hlt]
    rw [hv]
    go_enter Tryz.func29, Tryz.ntmps29
    go_wp2
    go_quiet (fail)
    go_wp2_with (go_at_call 48; refine (fault_any b i p i 5 s _ hs' (hR'.out.drewN _)).mono ?_; rintro e w' ⟨v, rfl, hE, hK⟩)
    go_ret
    exact ⟨_, rfl, hE, ((Keep.refl _ _).drewN _).trans hK⟩
  · have hv : stuckF s i = (50, i) := by unfold stuckF; rw [if_neg hlt]
    have hlt' : i < s.size := by omega
    rw [hv]
    go_enter Tryz.func29, Tryz.ntmps29
    go_wp2
    go_quiet (fail)
    go_wp2_with (go_at_call 48; refine (fault_any b i p i 50 s _ hs' (hR'.out.drewN _)).mono ?_; rintro e w' ⟨v, rfl, hE, hK⟩)
    go_ret
    exact ⟨_, rfl, hE, ((Keep.refl _ _).drewN _).trans hK⟩

set_option maxHeartbeats 400000 in
theorem take_any (b i p : Nat) (c : UInt8) (s : ByteArray) (w : World) (hs : s.size ≤ maxLen) (hR : Rd w b s i p) :
    Calls Tryz.prog 46 #[.pointer (some ⟨b, 0, none⟩), .int .u8 c.toNat] w (Went b s p w (takeP s i c)) := by
  have h0 := hR.c0
  have h1 := hR.c1
  have h2 := hR.free 1
  have hR' := Lib.hid hR
  clear hR
  have hs' := hs
  unfold maxLen at hs
  by_cases hlt : i < s.size
  · have hp : peekB s i = s[i] := by unfold peekB; rw [dif_pos hlt]
    by_cases hc : s[i] = c
    · have hv : takeP s i c = .ok (i + 1) := by unfold takeP; rw [if_pos ⟨hlt, hp.trans hc⟩]
      rw [hv]
      clear hv hp
      have hc' : ((s[i].toNat : Int) != c.toNat) = false := by rw [hc]; simp
      clear hc
      go_enter Tryz.func46, Tryz.ntmps46
      go_wp2
      go_quiet (fail)
      go_wp2
      go_ret
      exact Went.mkOk (hR'.out.setAt _) (((Keep.refl _ _).drewN _).setCell _ _ (.inl (by simp)))
    · have hv : takeP s i c = .error (stuckF s i) := by unfold takeP; rw [if_neg (fun h => hc (hp.symm.trans h.2))]
      rw [hv]
      clear hv hp
      have hc' : ((s[i].toNat : Int) != c.toNat) = true := by
        rw [bne_iff_ne]
        intro h
        exact hc (UInt8.toNat_inj.1 (by omega))
      clear hc
      go_enter Tryz.func46, Tryz.ntmps46
      go_wp2
      go_quiet (fail)
      go_wp2_with (go_at_call 29; refine (stuck_any b i p s _ hs' (hR'.out.drewN _)).mono ?_; rintro e w' ⟨v, rfl, hE, hK⟩)
      go_ret
      exact Went.mkErr hE (((Keep.refl _ _).drewN _).trans0 hK)
  · have hv : takeP s i c = .error (stuckF s i) := by unfold takeP; rw [if_neg (fun h => hlt h.1)]
    rw [hv]
    clear hv
    have hlt' : s.size ≤ i := by omega
    go_enter Tryz.func46, Tryz.ntmps46
    go_wp2
    go_quiet (fail)
    go_wp2_with (go_at_call 29; refine (stuck_any b i p s _ hs' (hR'.out.drewN _)).mono ?_; rintro e w' ⟨v, rfl, hE, hK⟩)
    go_ret
    exact Went.mkErr hE (((Keep.refl _ _).drewN _).trans0 hK)

/-! ### The kinds of a byte. -/
theorem dig_lo {c : UInt8} (h : (c.toNat : Int) < 48) : false = digB c := by unfold digB; rw [decide_eq_false (by omega)]; rfl
theorem dig_hi {c : UInt8} (h : 48 ≤ (c.toNat : Int)) : decide ((c.toNat : Int) ≤ 57) = digB c := by
  unfold digB
  rw [decide_eq_true (by omega : 48 ≤ c.toNat)]
  simp
  omega
theorem dig_any (c : UInt8) (w : World) : Calls Tryz.prog 92 #[.int .u8 c.toNat] w fun e w' => e = .returned (.bool (digB c)) ∧ w = w' := by
  go_enter Tryz.func92, Tryz.ntmps92
  go_wp2
  all_goals go_ret
  · exact ⟨ret_bool (dig_hi (by assumption)), rfl⟩
  · exact ⟨ret_bool (dig_lo (by assumption)), rfl⟩
theorem let_cases (c : UInt8) : (bits BinOp.or IntKind.u8 (c.toNat : Int) 32 < 97 → false = letB c) ∧ (97 ≤ bits BinOp.or IntKind.u8 (c.toNat : Int) 32 → decide (bits BinOp.or IntKind.u8 (c.toNat : Int) 32 ≤ 122) = letB c) :=
  byte_all (p := fun n => (bits BinOp.or IntKind.u8 (n : Int) 32 < 97 → false = ((decide (97 ≤ n) && decide (n ≤ 122)) || (decide (65 ≤ n) && decide (n ≤ 90)))) ∧ (97 ≤ bits BinOp.or IntKind.u8 (n : Int) 32 → decide (bits BinOp.or IntKind.u8 (n : Int) 32 ≤ 122) = ((decide (97 ≤ n) && decide (n ≤ 122)) || (decide (65 ≤ n) && decide (n ≤ 90))))) (by decide +kernel) c
theorem let_any (c : UInt8) (w : World) : Calls Tryz.prog 90 #[.int .u8 c.toNat] w fun e w' => e = .returned (.bool (letB c)) ∧ w = w' := by
  have H := Lib.hid (let_cases c)
  go_enter Tryz.func90, Tryz.ntmps90
  go_wp2
  all_goals go_ret
  · exact ⟨ret_bool (H.out.2 (by assumption)), rfl⟩
  · exact ⟨ret_bool (H.out.1 (by assumption)), rfl⟩
theorem inn_any (c : UInt8) (w : World) : Calls Tryz.prog 62 #[.int .u8 c.toNat] w fun e w' => e = .returned (.bool (innB c)) ∧ w = w' := by
  have HI : Hid (innB c = (digB c || letB c || c.toNat == 45)) := Lib.hid rfl
  cases hd : digB c <;> cases hl : letB c
  all_goals
    have d := dig_any c
    have l := let_any c
    rw [hd] at d HI
    rw [hl] at l HI
    have D := Lib.hid d
    have L := Lib.hid l
    clear hd hl d l
    go_enter Tryz.func62, Tryz.ntmps62
    go_wp2_with (first | (go_at_call 92; refine (D.out _).mono ?_; rintro e w' ⟨rfl, rfl⟩) | (go_at_call 90; refine (L.out _).mono ?_; rintro e w' ⟨rfl, rfl⟩))
    go_ret
    refine ⟨ret_bool ?_, rfl⟩
    rw [HI.out]
    first | rfl | (rw [Bool.eq_iff_iff]; simp; omega)
end Go.Proofs.YtjmpcoedfoaebaaGreatDoor
