/- The program's reader: peek, fault, stuck, take. Contracts at a reader's block that is known whole. The program's reader: run, number, word, since, desc. The program's reader: number, word, since, desc. The program's reader: since, desc. -/
import Derived.Test.YtjmpcoedfoaebaaGreatDoorPlain
import Derived.WalkSpells
import Derived.Deep.LoopGhost
open Go Go.RowKit
namespace Go.Proofs.YtjmpcoedfoaebaaGreatDoor

set_option maxHeartbeats 400000 in
theorem peek_any (b i p : Nat) (s : ByteArray) (w : World) (hR : Rd w b s i p) :
    Calls Tryz.prog 47 #[.pointer (some ⟨b, 0, none⟩)] w fun e w' => e = .returned (.int .u8 (peekB s i).toNat) ∧ ∃ n, w' = w.drewN n := by
  have h0 := hR.c0
  have h1 := hR.c1
  clear hR
  by_cases hi : i < s.size
  · have hv : (peekB s i) = s[i] := by unfold peekB; rw [dif_pos hi]
    have HV := Lib.hid hv
    clear hv
    go_enter Tryz.func47, Tryz.ntmps47
    go_wp2
    go_quiet (fail)
    go_wp2
    go_quiet (fail)
    go_wp2
    go_ret
    exact ⟨by rw [HV.out]; rfl, _, World.drewN_drewN _ _ _⟩
  · have hv : (peekB s i) = 0 := by unfold peekB; rw [dif_neg hi]
    have HV := Lib.hid hv
    clear hv
    have hi' : s.size ≤ i := by omega
    go_enter Tryz.func47, Tryz.ntmps47
    go_wp2
    go_quiet (fail)
    go_wp2
    go_ret
    exact ⟨by rw [HV.out]; rfl, _, rfl⟩

set_option maxHeartbeats 400000 in
theorem fault_any (b i p : Nat) (q : Nat) (c : Int) (s : ByteArray) (w : World) (hs : s.size ≤ maxLen) (hR : Rd w b s i p) :
    Calls Tryz.prog 48 #[.pointer (some ⟨b, 0, none⟩), .int .i64 c, .int .i64 q] w fun e w' => ∃ v, e = .returned v ∧ ErrAt w' v s (c, q) ∧ Keep [] w w' := by
  have h0 := hR.c0
  have hlt := hR.lt
  clear hR
  unfold maxLen at hs
  by_cases hi : q < s.size
  · have hv : wordAt s q = s.extract q (q + 1) := by unfold wordAt; rw [if_pos hi]
    have HV := Lib.hid hv
    clear hv
    go_enter Tryz.func48, Tryz.ntmps48
    go_wp2
    go_ret
    refine ⟨_, rfl, ⟨_, rfl, ?_⟩, ?_⟩
    · show _ = some (Obj.cells #[_, _, .string (wordAt s q)] _ _)
      rw [HV.out]
      exact alloc_at _ _
    · exact (Keep.refl _ _).alloc _
  · have hv : wordAt s q = ⟨#[]⟩ := by unfold wordAt; rw [if_neg hi]
    have HV := Lib.hid hv
    clear hv
    go_enter Tryz.func48, Tryz.ntmps48
    go_wp2
    go_ret
    refine ⟨_, rfl, ⟨_, rfl, ?_⟩, ?_⟩
    · show _ = some (Obj.cells #[_, _, .string (wordAt s q)] _ _)
      rw [HV.out]
      exact alloc_at _ _
    · exact (Keep.refl _ _).alloc _

set_option maxHeartbeats 400000 in
theorem stuck_any (b i p : Nat) (s : ByteArray) (w : World) (hs : s.size ≤ maxLen) (hR : Rd w b s i p) :
    Calls Tryz.prog 29 #[.pointer (some ⟨b, 0, none⟩)] w fun e w' => ∃ v, e = .returned v ∧ ErrAt w' v s (stuckF s i) ∧ Keep [] w w' := by
  have h0 := hR.c0
  have h1 := hR.c1
  have hR' := Lib.hid hR
  clear hR
  have hs' := hs
  unfold maxLen at hs
  by_cases hlt : s.size ≤ i
  · have hv : stuckF s i = (5, i) := by unfold stuckF; rw [if_pos hlt]
    rw [hv]
    go_enter Tryz.func29, Tryz.ntmps29
    go_wp2
    go_quiet (fail)
    go_wp2_with (go_at_call 48; refine (fault_any b i p i 5 s _ hs' (hR'.out.drewN _)).mono ?_; rintro e w' ⟨v, rfl, hE, hK⟩)
    go_ret
    exact ⟨_, rfl, hE, ((Keep.refl _ _).drewN _).trans hK⟩
  · have hv : stuckF s i = (50, i) := by unfold stuckF; rw [if_neg hlt]
    have hlt' : i < s.size := by omega
    rw [hv]
    go_enter Tryz.func29, Tryz.ntmps29
    go_wp2
    go_quiet (fail)
    go_wp2_with (go_at_call 48; refine (fault_any b i p i 50 s _ hs' (hR'.out.drewN _)).mono ?_; rintro e w' ⟨v, rfl, hE, hK⟩)
    go_ret
    exact ⟨_, rfl, hE, ((Keep.refl _ _).drewN _).trans hK⟩

set_option maxHeartbeats 400000 in
theorem take_any (b i p : Nat) (c : UInt8) (s : ByteArray) (w : World) (hs : s.size ≤ maxLen) (hR : Rd w b s i p) :
    Calls Tryz.prog 46 #[.pointer (some ⟨b, 0, none⟩), .int .u8 c.toNat] w (Went b s p w (takeP s i c)) := by
  have h0 := hR.c0
  have h1 := hR.c1
  have h2 := hR.free 1
  have hR' := Lib.hid hR
  clear hR
  have hs' := hs
  unfold maxLen at hs
  by_cases hlt : i < s.size
  · have hp : peekB s i = s[i] := by unfold peekB; rw [dif_pos hlt]
    by_cases hc : s[i] = c
    · have hv : takeP s i c = .ok (i + 1) := by unfold takeP; rw [if_pos ⟨hlt, hp.trans hc⟩]
      rw [hv]
      clear hv hp
      have hc' : ((s[i].toNat : Int) != c.toNat) = false := by rw [hc]; simp
      clear hc
      go_enter Tryz.func46, Tryz.ntmps46
      go_wp2
      go_quiet (fail)
      go_wp2
      go_ret
      exact Went.mkOk (hR'.out.setAt _) (((Keep.refl _ _).drewN _).setCell _ _ (.inl (by simp)))
    · have hv : takeP s i c = .error (stuckF s i) := by unfold takeP; rw [if_neg (fun h => hc (hp.symm.trans h.2))]
      rw [hv]
      clear hv hp
      have hc' : ((s[i].toNat : Int) != c.toNat) = true := by
        rw [bne_iff_ne]
        intro h
        exact hc (UInt8.toNat_inj.1 (by omega))
      clear hc
      go_enter Tryz.func46, Tryz.ntmps46
      go_wp2
      go_quiet (fail)
      go_wp2_with (go_at_call 29; refine (stuck_any b i p s _ hs' (hR'.out.drewN _)).mono ?_; rintro e w' ⟨v, rfl, hE, hK⟩)
      go_ret
      exact Went.mkErr hE (((Keep.refl _ _).drewN _).trans0 hK)
  · have hv : takeP s i c = .error (stuckF s i) := by unfold takeP; rw [if_neg (fun h => hlt h.1)]
    rw [hv]
    clear hv
    have hlt' : s.size ≤ i := by omega
    go_enter Tryz.func46, Tryz.ntmps46
    go_wp2
    go_quiet (fail)
    go_wp2_with (go_at_call 29; refine (stuck_any b i p s _ hs' (hR'.out.drewN _)).mono ?_; rintro e w' ⟨v, rfl, hE, hK⟩)
    go_ret
    exact Went.mkErr hE (((Keep.refl _ _).drewN _).trans0 hK)

/-! ### The kinds of a byte. -/
theorem dig_lo {c : UInt8} (h : (c.toNat : Int) < 48) : false = digB c := by unfold digB; rw [decide_eq_false (by omega)]; rfl
theorem dig_hi {c : UInt8} (h : 48 ≤ (c.toNat : Int)) : decide ((c.toNat : Int) ≤ 57) = digB c := by
  unfold digB
  rw [decide_eq_true (by omega : 48 ≤ c.toNat)]
  simp
  omega
theorem dig_any (c : UInt8) (w : World) : Calls Tryz.prog 92 #[.int .u8 c.toNat] w fun e w' => e = .returned (.bool (digB c)) ∧ w = w' := by
  go_enter Tryz.func92, Tryz.ntmps92
  go_wp2
  all_goals go_ret
  · exact ⟨ret_bool (dig_hi (by assumption)), rfl⟩
  · exact ⟨ret_bool (dig_lo (by assumption)), rfl⟩
theorem let_cases (c : UInt8) : (bits BinOp.or IntKind.u8 (c.toNat : Int) 32 < 97 → false = letB c) ∧ (97 ≤ bits BinOp.or IntKind.u8 (c.toNat : Int) 32 → decide (bits BinOp.or IntKind.u8 (c.toNat : Int) 32 ≤ 122) = letB c) :=
  byte_all (p := fun n => (bits BinOp.or IntKind.u8 (n : Int) 32 < 97 → false = ((decide (97 ≤ n) && decide (n ≤ 122)) || (decide (65 ≤ n) && decide (n ≤ 90)))) ∧ (97 ≤ bits BinOp.or IntKind.u8 (n : Int) 32 → decide (bits BinOp.or IntKind.u8 (n : Int) 32 ≤ 122) = ((decide (97 ≤ n) && decide (n ≤ 122)) || (decide (65 ≤ n) && decide (n ≤ 90))))) (by decide +kernel) c
theorem let_any (c : UInt8) (w : World) : Calls Tryz.prog 90 #[.int .u8 c.toNat] w fun e w' => e = .returned (.bool (letB c)) ∧ w = w' := by
  have H := Lib.hid (let_cases c)
  go_enter Tryz.func90, Tryz.ntmps90
  go_wp2
  all_goals go_ret
  · exact ⟨ret_bool (H.out.2 (by assumption)), rfl⟩
  · exact ⟨ret_bool (H.out.1 (by assumption)), rfl⟩
theorem inn_any (c : UInt8) (w : World) : Calls Tryz.prog 62 #[.int .u8 c.toNat] w fun e w' => e = .returned (.bool (innB c)) ∧ w = w' := by
  have HI : Hid (innB c = (digB c || letB c || c.toNat == 45)) := Lib.hid rfl
  cases hd : digB c <;> cases hl : letB c
  all_goals
    have d := dig_any c
    have l := let_any c
    rw [hd] at d HI
    rw [hl] at l HI
    have D := Lib.hid d
    have L := Lib.hid l
    clear hd hl d l
    go_enter Tryz.func62, Tryz.ntmps62
    go_wp2_with (first | (go_at_call 92; refine (D.out _).mono ?_; rintro e w' ⟨rfl, rfl⟩) | (go_at_call 90; refine (L.out _).mono ?_; rintro e w' ⟨rfl, rfl⟩))
    go_ret
    refine ⟨ret_bool ?_, rfl⟩
    rw [HI.out]
    first | rfl | (rw [Bool.eq_iff_iff]; simp; omega)
end Go.Proofs.YtjmpcoedfoaebaaGreatDoor

open Go Go.RowKit
namespace Go.Proofs.YtjmpcoedfoaebaaGreatDoor

def Ran (b : Nat) (s : ByteArray) (f : UInt8 → Bool) (i p : Nat) (w : World) (e : Ending) (w' : World) : Prop :=
  e = .returned (.string (s.extract i (runP s f i))) ∧ Rd w' b s (runP s f i) p ∧ Keep [b] w w'
def RunRel (b : Nat) (s : ByteArray) (f : UInt8 → Bool) (i p : Nat) (w : World) (k : Nat) (wr : World) : Prop :=
  ∃ j, i ≤ j ∧ j ≤ s.size ∧ k = s.size - j ∧ runP s f j = runP s f i ∧ Rd wr b s j p ∧ Keep [b] w wr

set_option maxHeartbeats 1000000 in
theorem run_any (K : Nat) (f : UInt8 → Bool) (hrun : ∀ (args : Array Value) (w : World), (callFunc K args).run Tryz.prog w = .ok (.enter K args) w) (hf : ∀ (c : UInt8) (w : World), Calls Tryz.prog K #[.int .u8 c.toNat] w fun e w' => e = .returned (.bool (f c)) ∧ w = w')
    (b i p : Nat) (s : ByteArray) (w : World) (hs : s.size ≤ maxLen) (hi : i ≤ s.size) (hR : Rd w b s i p) :
    Calls Tryz.prog 61 #[.pointer (some ⟨b, 0, none⟩), .func (.func K) #[] #[]] w (Ran b s f i p w) := by
  have HF := Lib.hid hf
  have h1 := hR.c1
  have HR := Lib.hid hR
  clear hR hf
  have hs' := hs
  unfold maxLen at hs
  have hle := runP_le s f i hi
  go_enter Tryz.func61, Tryz.ntmps61
  go_wp2
  clear h1
  go_loopg [] (s.size - i) (fun k wr => RunRel b s f i p w k wr)
  case atStart => exact ⟨i, Nat.le_refl _, hi, rfl, rfl, HR.out, Keep.refl _ _⟩
  case round =>
    obtain ⟨j, hij, hj, hk, he, hR, hK⟩ := hrel
    have h0 := hR.c0
    have h1 := hR.c1
    have h2 := hR.free 1
    have HR := Lib.hid hR
    have HE := Lib.hid he
    have HK := Lib.hid hK
    have HKK := Lib.hid hk
    clear hR he hK hk
    by_cases hlt : j < s.size
    · have hd : decide (j < s.size) = true := by simpa using hlt
      cases hc : f s[j]
      · have HC := Lib.hid hc
        have hq := HF.out s[j]
        rw [hc] at hq
        have HQ : Hid (∀ W, Calls Tryz.prog K #[.int .u8 s[j].toNat] W fun e w' => e = .returned (.bool false) ∧ w' = W) := fun W => (hq W).mono fun _ _ h => ⟨h.1, h.2.symm⟩
        clear hc hq
        go_wp2
        go_quiet ((exact Calls.quiet_of_same (HQ.out _)))
        go_wp2
        go_quiet (fail)
        go_wp2
        go_ret
        have e : runP s f i = j := HE.out.symm.trans (runP_no hlt HC.out)
        exact ⟨by rw [e]; rfl, by rw [e]; exact HR.out, (HK.out.drewN _).drewN _⟩
      · have HC := Lib.hid hc
        have hq := HF.out s[j]
        rw [hc] at hq
        have HQ : Hid (∀ W, Calls Tryz.prog K #[.int .u8 s[j].toNat] W fun e w' => e = .returned (.bool true) ∧ w' = W) := fun W => (hq W).mono fun _ _ h => ⟨h.1, h.2.symm⟩
        clear hc hq
        go_wp2
        go_quiet ((exact Calls.quiet_of_same (HQ.out _)))
        go_wp2
        go_roundg (s.size - (j + 1))
        case measure => have := HKK.out; omega
        case rel => exact ⟨j + 1, by omega, by omega, rfl, (runP_yes hlt HC.out).symm.trans HE.out, (HR.out.drewN _).setAt _, (HK.out.drewN _).setCell _ _ (.inl (by simp))⟩
    · have hd : decide (j < s.size) = false := by simpa using hlt
      go_wp2
      go_quiet (fail)
      go_wp2
      go_quiet (fail)
      go_wp2
      go_ret
      have e : runP s f i = j := HE.out.symm.trans (runP_end (by omega))
      exact ⟨by rw [e]; rfl, by rw [e]; exact HR.out, (HK.out.drewN _).drewN _⟩

theorem run_dig (b i p : Nat) (s : ByteArray) (w : World) (hs : s.size ≤ maxLen) (hi : i ≤ s.size) (hR : Rd w b s i p) :
    Calls Tryz.prog 61 #[.pointer (some ⟨b, 0, none⟩), .func (.func 92) #[] #[]] w (Ran b s digB i p w) :=
  run_any _ digB (fun _ _ => by kernel_rfl) dig_any b i p s w hs hi hR
theorem run_inn (b i p : Nat) (s : ByteArray) (w : World) (hs : s.size ≤ maxLen) (hi : i ≤ s.size) (hR : Rd w b s i p) :
    Calls Tryz.prog 61 #[.pointer (some ⟨b, 0, none⟩), .func (.func 62) #[] #[]] w (Ran b s innB i p w) :=
  run_any _ innB (fun _ _ => by kernel_rfl) inn_any b i p s w hs hi hR
end Go.Proofs.YtjmpcoedfoaebaaGreatDoor

open Go Go.RowKit
namespace Go.Proofs.YtjmpcoedfoaebaaGreatDoor

set_option maxHeartbeats 1000000 in
theorem number_any (b i p : Nat) (s : ByteArray) (w : World) (hs : s.size ≤ maxLen) (hi : i ≤ s.size) (hR : Rd w b s i p) :
    Calls Tryz.prog 91 #[.pointer (some ⟨b, 0, none⟩)] w (Went b s p w (numP s i)) := by
  have HR := Lib.hid hR
  clear hR
  have hpk := fun w h => peek_any b i p s w h
  have HP := Lib.hid hpk
  clear hpk
  cases hd : digB (peekB s i)
  · have hv : numP s i = .error (stuckF s i) := by unfold numP; rw [hd]; rfl
    rw [hv]
    clear hv
    have hg := dig_any (peekB s i)
    rw [hd] at hg
    have HG := Lib.hid hg
    clear hg hd
    go_enter Tryz.func91, Tryz.ntmps91
    go_wp2_with (first
      | (go_at_call 47; refine (HP.out _ (by exact HR.out)).mono ?_; rintro e w' ⟨rfl, n, rfl⟩)
      | (go_at_call 92; refine (HG.out _).mono ?_; rintro e w' ⟨rfl, rfl⟩)
      | (go_at_call 29; refine (stuck_any b i p s _ hs (by exact HR.out)).mono ?_; rintro e w' ⟨v, rfl, hE, hK⟩))
    go_ret
    exact Went.mkErr hE (((Keep.refl _ _).drewN _).trans0 hK)
  · have hg := dig_any (peekB s i)
    rw [hd] at hg
    have HG := Lib.hid hg
    clear hg
    have hlt : i < s.size := peekB_lt (fun e => by rw [e] at hd; simp [digB] at hd)
    by_cases hz : peekB s i = 48
    · have hv : numP s i = .ok (i + 1) := by unfold numP; rw [hd, if_pos rfl, if_pos hz]
      rw [hv]
      have hq : ((peekB s i).toNat : Int) = 48 := by rw [hz]; rfl
      have hq' : (((peekB s i).toNat : Int) == 48) = true := by rw [hq]; rfl
      clear hv hz hd hq
      have h1 := HR.out.c1
      have h2 := HR.out.free 1
      unfold maxLen at hs
      go_enter Tryz.func91, Tryz.ntmps91
      go_wp2_with (first
        | (go_at_call 47; refine (HP.out _ (by exact HR.out)).mono ?_; rintro e w' ⟨rfl, n, rfl⟩)
        | (go_at_call 92; refine (HG.out _).mono ?_; rintro e w' ⟨rfl, rfl⟩))
      go_ret
      exact Went.mkOk ((HR.out.drewN _).setAt _) (by (repeat first | exact Keep.refl _ _ | refine Keep.drewN ?_ _ | refine Keep.drew ?_ | refine Keep.setCell ?_ _ _ (.inl (by simp)) | refine Keep.alloc ?_ _ | refine Keep.trans ?_ (by assumption) | refine Keep.trans0 ?_ (by assumption) | refine Keep.transTo ?_ (by assumption) (fun x hx => .inr (by simp at hx; omega))))
    · have hv : numP s i = .ok (runP s digB i) := by unfold numP; rw [hd, if_pos rfl, if_neg hz]
      rw [hv]
      have hq' : (((peekB s i).toNat : Int) == 48) = false := by
        rw [beq_eq_false_iff_ne]; intro h; exact hz (UInt8.toNat_inj.1 (by show _ = 48; omega))
      clear hv hz hd
      go_enter Tryz.func91, Tryz.ntmps91
      go_wp2_with (first
        | (go_at_call 47; refine (HP.out _ (by exact HR.out)).mono ?_; rintro e w' ⟨rfl, n, rfl⟩)
        | (go_at_call 92; refine (HG.out _).mono ?_; rintro e w' ⟨rfl, rfl⟩)
        | (go_at_call 61; refine (run_dig b i p s _ hs hi (by exact HR.out)).mono ?_; rintro e w' ⟨rfl, hR', hK⟩))
      go_ret
      exact Went.mkOk hR' (by (repeat first | exact Keep.refl _ _ | refine Keep.drewN ?_ _ | refine Keep.drew ?_ | refine Keep.setCell ?_ _ _ (.inl (by simp)) | refine Keep.alloc ?_ _ | refine Keep.trans ?_ (by assumption) | refine Keep.trans0 ?_ (by assumption) | refine Keep.transTo ?_ (by assumption) (fun x hx => .inr (by simp at hx; omega))))

/-- One round of a word's dots. -/
def DotRel (b : Nat) (s : ByteArray) (p : Nat) (w : World) (R : Except (Int × Nat) Nat) (k : Nat) (first : Value) (wr : World) : Prop :=
  ∃ j, j ≤ s.size ∧ s.size < j + k ∧ Rd wr b s j p ∧ Keep [b] w wr ∧ ((first = .bool true ∧ dotsP k s j = R) ∨ (first = .bool false ∧ nextP k s j = R))

set_option maxHeartbeats 2000000 in
theorem word_any (b i p : Nat) (s : ByteArray) (w : World) (hs : s.size ≤ maxLen) (hi : i ≤ s.size) (hR : Rd w b s i p) :
    Calls Tryz.prog 60 #[.pointer (some ⟨b, 0, none⟩)] w (Went b s p w (wordP s i)) := by
  have HR := Lib.hid hR
  clear hR
  have hpk := fun w h => peek_any b i p s w h
  have HP := Lib.hid hpk
  clear hpk
  have HL := Lib.hid (let_any (peekB s i))
  cases hd : letB (peekB s i)
  · rw [hd] at HL
    have hv : wordP s i = match numP s i with | .error f => .error f | .ok j => dotsP (s.size + 1) s j := by unfold wordP; rw [hd]; rfl
    rw [hv]
    clear hv hd
    have HN := Lib.hid (fun W h => number_any b i p s W hs hi h)
    cases hn : numP s i with
    | error f =>
      rw [hn] at HN
      clear hn
      dsimp only
      go_enter Tryz.func60, Tryz.ntmps60
      go_wp2_with (first
        | (go_at_call 47; refine (HP.out _ (by exact HR.out)).mono ?_; rintro e w' ⟨rfl, n, rfl⟩)
        | (go_at_call 90; refine (HL.out _).mono ?_; rintro e w' ⟨rfl, rfl⟩)
        | (go_at_call 91; refine (HN.out _ (by exact HR.out)).mono ?_; intro e w' hw; obtain ⟨fb, rfl, hE, hK⟩ := Went.err hw; clear hw))
      go_ret
      exact Went.mkErr hE (by (repeat first | exact Keep.refl _ _ | refine Keep.drewN ?_ _ | refine Keep.drew ?_ | refine Keep.setCell ?_ _ _ (.inl (by simp)) | refine Keep.alloc ?_ _ | refine Keep.trans ?_ (by assumption) | refine Keep.trans0 ?_ (by assumption) | refine Keep.transTo ?_ (by assumption) (fun x hx => .inr (by simp at hx; omega))))
    | ok j =>
      have hj := (numP_ok hn).2
      rw [hn] at HN
      clear hn
      dsimp only
      generalize hT : dotsP (s.size + 1) s j = R
      have HT := Lib.hid hT
      clear hT
      go_enter Tryz.func60, Tryz.ntmps60
      go_wp2_with (first
        | (go_at_call 47; refine (HP.out _ (by exact HR.out)).mono ?_; rintro e w' ⟨rfl, n, rfl⟩)
        | (go_at_call 90; refine (HL.out _).mono ?_; rintro e w' ⟨rfl, rfl⟩)
        | (go_at_call 91; refine (HN.out _ (by exact HR.out)).mono ?_; intro e w' hw; obtain ⟨rfl, hR', hK⟩ := Went.ok hw; clear hw))
      have HR' := Lib.hid hR'
      clear hR'
      go_loopg [4] (s.size + 1) (fun k first wr => DotRel b s p w R k first wr)
      case atStart => exact ⟨j, hj, by omega, HR'.out, by (repeat first | exact Keep.refl _ _ | refine Keep.drewN ?_ _ | refine Keep.drew ?_ | refine Keep.setCell ?_ _ _ (.inl (by simp)) | refine Keep.alloc ?_ _ | refine Keep.trans ?_ (by assumption) | refine Keep.trans0 ?_ (by assumption) | refine Keep.transTo ?_ (by assumption) (fun x hx => .inr (by simp at hx; omega))), .inl ⟨rfl, HT.out⟩⟩
      case round =>
        obtain ⟨q, hq, hk, hRq, hKq, hst⟩ := hrel
        have HRq := Lib.hid hRq
        have HKq := Lib.hid hKq
        clear hRq hKq HR' hK
        have hpq := fun w h => peek_any b q p s w h
        have HPq := Lib.hid hpq
        clear hpq
        have hor : (dotsP gk s q = R ∧ (u4 = .bool true ∨ (u4 = .bool false ∧ peekB s q = 46))) ∨ (u4 = .bool false ∧ peekB s q ≠ 46 ∧ R = .ok q) := by
          rcases hst with ⟨rfl, h⟩ | ⟨rfl, h⟩
          · exact .inl ⟨h, .inl rfl⟩
          · by_cases h4 : peekB s q = 46
            · exact .inl ⟨by rw [← h]; unfold nextP; rw [if_pos h4], .inr ⟨rfl, h4⟩⟩
            · exact .inr ⟨rfl, h4, by rw [← h]; unfold nextP; rw [if_neg h4]⟩
        clear hst
        rcases hor with ⟨h, hu⟩ | ⟨rfl, h4, rfl⟩
        · obtain ⟨k', rfl⟩ : ∃ k', gk = k' + 1 := ⟨gk - 1, by omega⟩
          rw [dotsP_succ] at h
          have hu' : (u4 = .bool true) ∨ (u4 = .bool false ∧ (((peekB s q).toNat : Int) == 46) = true) := hu.imp id fun h => ⟨h.1, by rw [h.2]; rfl⟩
          clear hu
          cases ht : takeP s q 46 with
          | error f =>
            rw [ht] at h
            subst h
            have HTk := Lib.hid (fun W h => take_any b q p 46 s W hs h)
            rw [ht] at HTk
            clear ht
            rcases hu' with rfl | ⟨rfl, hpk⟩
            all_goals
              go_wp2_with (first
                | (go_at_call 47; refine (HPq.out _ (by exact HRq.out)).mono ?_; rintro e w' ⟨rfl, n, rfl⟩)
                | (go_at_call 46; refine (HTk.out _ (by exact HRq.out)).mono ?_; intro e w' hw; obtain ⟨fb, rfl, hE, hK⟩ := Went.err hw; clear hw))
              go_ret
              have hKq := HKq.out
              exact Went.mkErr hE (by (repeat first | exact Keep.refl _ _ | refine Keep.drewN ?_ _ | refine Keep.drew ?_ | refine Keep.setCell ?_ _ _ (.inl (by simp)) | refine Keep.alloc ?_ _ | refine Keep.trans ?_ (by assumption) | refine Keep.trans0 ?_ (by assumption) | refine Keep.transTo ?_ (by assumption) (fun x hx => .inr (by simp at hx; omega))))
          | ok q1 =>
            rw [ht] at h
            dsimp only at h
            obtain ⟨rfl, hlt⟩ := takeP_ok ht
            have HTk := Lib.hid (fun W h => take_any b q p 46 s W hs h)
            rw [ht] at HTk
            clear ht
            have HN2 := Lib.hid (fun W h => number_any b (q + 1) p s W hs hlt h)
            cases hn : numP s (q + 1) with
            | error f =>
              rw [hn] at h HN2
              subst h
              clear hn
              rcases hu' with rfl | ⟨rfl, hpk⟩
              all_goals
                go_wp2_with (first
                  | (go_at_call 47; refine (HPq.out _ (by exact HRq.out)).mono ?_; rintro e w' ⟨rfl, n, rfl⟩)
                  | (go_at_call 46; refine (HTk.out _ (by exact HRq.out)).mono ?_; intro e w' hw; obtain ⟨rfl, hR1, hK1⟩ := Went.ok hw; clear hw)
                  | (go_at_call 91; refine (HN2.out _ (by assumption)).mono ?_; intro e w' hw; obtain ⟨fb, rfl, hE, hK⟩ := Went.err hw; clear hw))
                go_ret
                have hKq := HKq.out
                exact Went.mkErr hE (by (repeat first | exact Keep.refl _ _ | refine Keep.drewN ?_ _ | refine Keep.drew ?_ | refine Keep.setCell ?_ _ _ (.inl (by simp)) | refine Keep.alloc ?_ _ | refine Keep.trans ?_ (by assumption) | refine Keep.trans0 ?_ (by assumption) | refine Keep.transTo ?_ (by assumption) (fun x hx => .inr (by simp at hx; omega))))
            | ok q2 =>
              have hq2 := numP_ok hn
              rw [hn] at h HN2
              have H := Lib.hid h
              clear hn h
              rcases hu' with rfl | ⟨rfl, hpk⟩
              all_goals
                go_wp2_with (first
                  | (go_at_call 47; refine (HPq.out _ (by exact HRq.out)).mono ?_; rintro e w' ⟨rfl, n, rfl⟩)
                  | (go_at_call 46; refine (HTk.out _ (by exact HRq.out)).mono ?_; intro e w' hw; obtain ⟨rfl, hR1, hK1⟩ := Went.ok hw; clear hw)
                  | (go_at_call 91; refine (HN2.out _ (by assumption)).mono ?_; intro e w' hw; obtain ⟨rfl, hR2, hK2⟩ := Went.ok hw; clear hw))
                go_roundg k'
                case measure => omega
                case rel =>
                  have hKq := HKq.out
                  exact ⟨q2, hq2.2, by omega, hR2, by (repeat first | exact Keep.refl _ _ | refine Keep.drewN ?_ _ | refine Keep.drew ?_ | refine Keep.setCell ?_ _ _ (.inl (by simp)) | refine Keep.alloc ?_ _ | refine Keep.trans ?_ (by assumption) | refine Keep.trans0 ?_ (by assumption) | refine Keep.transTo ?_ (by assumption) (fun x hx => .inr (by simp at hx; omega))), .inr ⟨rfl, H.out⟩⟩
        · have hpk : (((peekB s q).toNat : Int) == 46) = false := by
            rw [beq_eq_false_iff_ne]; intro h; exact h4 (UInt8.toNat_inj.1 (by show _ = 46; omega))
          clear h4
          go_wp2_with (first
            | (go_at_call 47; refine (HPq.out _ (by exact HRq.out)).mono ?_; rintro e w' ⟨rfl, n, rfl⟩))
          go_ret
          have hKq := HKq.out
          exact Went.mkOk (HRq.out.drewN _) (by (repeat first | exact Keep.refl _ _ | refine Keep.drewN ?_ _ | refine Keep.drew ?_ | refine Keep.setCell ?_ _ _ (.inl (by simp)) | refine Keep.alloc ?_ _ | refine Keep.trans ?_ (by assumption) | refine Keep.trans0 ?_ (by assumption) | refine Keep.transTo ?_ (by assumption) (fun x hx => .inr (by simp at hx; omega))))
  · have hv : wordP s i = .ok (runP s innB i) := by unfold wordP; rw [if_pos hd]
    rw [hv]
    rw [hd] at HL
    clear hv hd
    go_enter Tryz.func60, Tryz.ntmps60
    go_wp2_with (first
      | (go_at_call 47; refine (HP.out _ (by exact HR.out)).mono ?_; rintro e w' ⟨rfl, n, rfl⟩)
      | (go_at_call 90; refine (HL.out _).mono ?_; rintro e w' ⟨rfl, rfl⟩)
      | (go_at_call 61; refine (run_inn b i p s _ hs hi (by exact HR.out)).mono ?_; rintro e w' ⟨rfl, hR', hK⟩))
    go_ret
    exact Went.mkOk hR' (by (repeat first | exact Keep.refl _ _ | refine Keep.drewN ?_ _ | refine Keep.drew ?_ | refine Keep.setCell ?_ _ _ (.inl (by simp)) | refine Keep.alloc ?_ _ | refine Keep.trans ?_ (by assumption) | refine Keep.trans0 ?_ (by assumption) | refine Keep.transTo ?_ (by assumption) (fun x hx => .inr (by simp at hx; omega))))
end Go.Proofs.YtjmpcoedfoaebaaGreatDoor

open Go Go.RowKit
namespace Go.Proofs.YtjmpcoedfoaebaaGreatDoor

set_option maxHeartbeats 1000000 in
theorem since_any (b i j p : Nat) (s : ByteArray) (w : World) (hs : s.size ≤ maxLen) (hi : i ≤ j) (hj : j ≤ s.size) (hR : Rd w b s j p) :
    Calls Tryz.prog 63 #[.pointer (some ⟨b, 0, none⟩), .int .i64 i] w (Gave b s p w (textOf s i (sinceP i j))) := by
  have h0 := hR.c0
  have h1 := hR.c1
  have HR := Lib.hid hR
  clear hR
  have hs' := hs
  unfold maxLen at hs
  by_cases hlt : 65536 < j - i
  · have hv : textOf s i (sinceP i j) = .error (3, i) := by unfold sinceP; rw [if_pos hlt]; rfl
    rw [hv]
    clear hv
    have hlt' : (65536 : Int) < (j : Int) - i := by omega
    go_enter Tryz.func63, Tryz.ntmps63
    go_wp2_with (go_at_call 48; refine (fault_any b j p i 3 s _ hs' (by exact HR.out)).mono ?_; rintro e w' ⟨v, rfl, hE, hK⟩)
    go_ret2
    exact Gave.mkErr hE (by (repeat first | exact Keep.refl _ _ | refine Keep.drewN ?_ _ | refine Keep.drew ?_ | refine Keep.setCell ?_ _ _ (.inl (by simp)) | refine Keep.alloc ?_ _ | refine Keep.trans ?_ (by assumption) | refine Keep.trans0 ?_ (by assumption) | refine Keep.transTo ?_ (by assumption) (fun x hx => .inr (by simp at hx; omega))))
  · have hv : textOf s i (sinceP i j) = .ok (s.extract i j, j) := by unfold sinceP; rw [if_neg hlt]; rfl
    rw [hv]
    clear hv
    have hlt' : (j : Int) - i ≤ 65536 := by omega
    go_enter Tryz.func63, Tryz.ntmps63
    go_wp2
    go_quiet (fail)
    go_wp2
    go_ret2
    exact Gave.mkOk (HR.out.drewN _) (by (repeat first | exact Keep.refl _ _ | refine Keep.drewN ?_ _ | refine Keep.drew ?_ | refine Keep.setCell ?_ _ _ (.inl (by simp)) | refine Keep.alloc ?_ _ | refine Keep.trans ?_ (by assumption) | refine Keep.trans0 ?_ (by assumption) | refine Keep.transTo ?_ (by assumption) (fun x hx => .inr (by simp at hx; omega))))

def OptRel (i b : Nat) (s : ByteArray) (p : Nat) (w : World) (R : Except (Int × Nat) Nat) (k : Nat) (wr : World) : Prop :=
  ∃ j, j ≤ s.size ∧ s.size < j + k ∧ Rd wr b s j p ∧ Keep [b] w wr ∧ optsP k s j = R ∧ i ≤ j
theorem isEmpty_no {s : ByteArray} (h : ¬ s = ⟨#[]⟩) : s.toList.isEmpty = false := by
  rw [ByteArray.toList_eq]
  cases hs : s.data.toList with
  | nil => exact absurd (ByteArray.ext (Array.toList_inj.1 (hs.trans rfl))) h
  | cons _ _ => rfl

theorem extract_empty {s : ByteArray} {i j : Nat} (h1 : i ≤ j) (h2 : j ≤ s.size) : (s.extract i j = ⟨#[]⟩) ↔ j = i := by
  constructor
  · intro h
    have : (s.extract i j).size = 0 := by rw [h]; rfl
    simp at this
    omega
  · rintro rfl
    apply ByteArray.ext
    simp

set_option maxHeartbeats 2000000 in
theorem desc_any (b i p : Nat) (s : ByteArray) (w : World) (hs : s.size ≤ maxLen) (hi : i ≤ s.size) (hR : Rd w b s i p) :
    Calls Tryz.prog 36 #[.pointer (some ⟨b, 0, none⟩)] w (Gave b s p w (textOf s i (descP s i))) := by
  have h1 := hR.c1
  have HR := Lib.hid hR
  clear hR
  have HW := Lib.hid (fun W h => word_any b i p s W hs hi h)
  cases hw : wordP s i with
  | error f =>
    have hv : textOf s i (descP s i) = .error f := by unfold descP; rw [hw]; rfl
    rw [hv]
    rw [hw] at HW
    clear hv hw
    go_enter Tryz.func36, Tryz.ntmps36
    go_wp2_with (first
      | (go_at_call 60; refine (HW.out _ (by exact HR.out)).mono ?_; intro e w' hw; obtain ⟨fb, rfl, hE, hK⟩ := Went.err hw; clear hw))
    go_ret2
    exact Gave.mkErr hE (by (repeat first | exact Keep.refl _ _ | refine Keep.drewN ?_ _ | refine Keep.drew ?_ | refine Keep.setCell ?_ _ _ (.inl (by simp)) | refine Keep.alloc ?_ _ | refine Keep.trans ?_ (by assumption) | refine Keep.trans0 ?_ (by assumption) | refine Keep.transTo ?_ (by assumption) (fun x hx => .inr (by simp at hx; omega))))
  | ok j =>
    have hij := wordP_ok hw
    generalize hT : optsP (s.size + 1) s j = R
    have hv : descP s i = sinceOf i R := by unfold descP; rw [hw]; dsimp only; rw [hT]
    rw [hv]
    rw [hw] at HW
    have HT := Lib.hid hT
    clear hv hw hT
    go_enter Tryz.func36, Tryz.ntmps36
    go_wp2_with (first
      | (go_at_call 60; refine (HW.out _ (by exact HR.out)).mono ?_; intro e w' hw; obtain ⟨rfl, hR', hK⟩ := Went.ok hw; clear hw))
    have HR' := Lib.hid hR'
    clear hR'
    go_loopg [] (s.size + 1) (fun k wr => OptRel i b s p w R k wr)
    case atStart => exact ⟨j, hij.2, by omega, HR'.out, by (repeat first | exact Keep.refl _ _ | refine Keep.drewN ?_ _ | refine Keep.drew ?_ | refine Keep.setCell ?_ _ _ (.inl (by simp)) | refine Keep.alloc ?_ _ | refine Keep.trans ?_ (by assumption) | refine Keep.trans0 ?_ (by assumption) | refine Keep.transTo ?_ (by assumption) (fun x hx => .inr (by simp at hx; omega))), HT.out, by omega⟩
    case round =>
      obtain ⟨q, hq, hk, hRq, hKq, hst, hiq⟩ := hrel
      have HRq := Lib.hid hRq
      have HKq := Lib.hid hKq
      have h1 := hRq.c1
      have h2 := hRq.free 1
      clear hRq hKq HR' hK
      have HPq := Lib.hid (fun w h => peek_any b q p s w h)
      obtain ⟨k', rfl⟩ : ∃ k', gk = k' + 1 := ⟨gk - 1, by omega⟩
      unfold optsP at hst
      have hs' := hs
      unfold maxLen at hs
      by_cases h4 : peekB s q = 59
      · have hlt : q < s.size := peekB_lt (by rw [h4]; decide)
        rw [if_pos h4] at hst
        have hpk : (((peekB s q).toNat : Int) == 59) = true := by rw [h4]; rfl
        clear h4
        have hr := runP_le s innB (q + 1) (by omega)
        by_cases he : runP s innB (q + 1) = q + 1
        · rw [if_pos he] at hst
          subst hst
          have hem : s.extract (q + 1) (runP s innB (q + 1)) = ⟨#[]⟩ := (extract_empty hr.1 hr.2).2 he
          go_wp2_with (first
            | (go_at_call 47; refine (HPq.out _ (by exact HRq.out)).mono ?_; rintro e w' ⟨rfl, n, rfl⟩)
            | (go_at_call 61; refine (run_inn b (q + 1) p s _ hs' hlt (by exact (HRq.out.drewN _).setAt _)).mono ?_; rintro e w' ⟨rfl, hR1, hK1⟩)
            | (go_at_call 29; refine (stuck_any b _ p s _ hs' (by assumption)).mono ?_; rintro e w' ⟨v, rfl, hE, hK2⟩))
          go_ret2
          have hKq := HKq.out
          rw [he] at hE
          exact Gave.mkErr hE (by (repeat first | exact Keep.refl _ _ | refine Keep.drewN ?_ _ | refine Keep.drew ?_ | refine Keep.setCell ?_ _ _ (.inl (by simp)) | refine Keep.alloc ?_ _ | refine Keep.trans ?_ (by assumption) | refine Keep.trans0 ?_ (by assumption) | refine Keep.transTo ?_ (by assumption) (fun x hx => .inr (by simp at hx; omega))))
        · rw [if_neg he] at hst
          have HT := Lib.hid hst
          clear hst
          have hem := isEmpty_no (fun h => he ((extract_empty hr.1 hr.2).1 h))
          clear he
          go_wp2_with (first
            | (go_at_call 47; refine (HPq.out _ (by exact HRq.out)).mono ?_; rintro e w' ⟨rfl, n, rfl⟩)
            | (go_at_call 61; refine (run_inn b (q + 1) p s _ hs' hlt (by exact (HRq.out.drewN _).setAt _)).mono ?_; rintro e w' ⟨rfl, hR1, hK1⟩))
          go_roundg k'
          case measure => omega
          case rel =>
            have hKq := HKq.out
            exact ⟨_, hr.2, by omega, hR1, by (repeat first | exact Keep.refl _ _ | refine Keep.drewN ?_ _ | refine Keep.drew ?_ | refine Keep.setCell ?_ _ _ (.inl (by simp)) | refine Keep.alloc ?_ _ | refine Keep.trans ?_ (by assumption) | refine Keep.trans0 ?_ (by assumption) | refine Keep.transTo ?_ (by assumption) (fun x hx => .inr (by simp at hx; omega))), HT.out, by omega⟩
      · rw [if_neg h4] at hst
        subst hst
        have hpk : (((peekB s q).toNat : Int) == 59) = false := by
          rw [beq_eq_false_iff_ne]; intro h; exact h4 (UInt8.toNat_inj.1 (by show _ = 59; omega))
        clear h4
        have HS := Lib.hid (fun W h => since_any b i q p s W hs' (by omega) hq h)
        have hv : textOf s i (sinceOf i (.ok q)) = textOf s i (sinceP i q) := rfl
        have HS := HS.out
        rcases hT : sinceP i q with f | e
        · rw [hT] at hv HS
          have HV := Lib.hid hv
          have HS' := Lib.hid HS
          clear hT hv HS
          go_wp2_with (first
            | (go_at_call 47; refine (HPq.out _ (by exact HRq.out)).mono ?_; rintro e w' ⟨rfl, n, rfl⟩)
            | (go_at_call 63; refine (HS'.out _ (by exact HRq.out)).mono ?_; intro e w' hw; obtain ⟨fb, rfl, hE, hK⟩ := Gave.err hw; clear hw))
          go_ret2
          have hKq := HKq.out
          rw [HV.out]
          exact Gave.mkErr hE (by (repeat first | exact Keep.refl _ _ | refine Keep.drewN ?_ _ | refine Keep.drew ?_ | refine Keep.setCell ?_ _ _ (.inl (by simp)) | refine Keep.alloc ?_ _ | refine Keep.trans ?_ (by assumption) | refine Keep.trans0 ?_ (by assumption) | refine Keep.transTo ?_ (by assumption) (fun x hx => .inr (by simp at hx; omega))))
        · rw [hT] at hv HS
          have HV := Lib.hid hv
          have HS' := Lib.hid HS
          clear hT hv HS
          go_wp2_with (first
            | (go_at_call 47; refine (HPq.out _ (by exact HRq.out)).mono ?_; rintro e w' ⟨rfl, n, rfl⟩)
            | (go_at_call 63; refine (HS'.out _ (by exact HRq.out)).mono ?_; intro e w' hw; obtain ⟨rfl, hR3, hK⟩ := Gave.ok hw; clear hw))
          go_ret2
          have hKq := HKq.out
          rw [HV.out]
          exact Gave.mkOk hR3 (by (repeat first | exact Keep.refl _ _ | refine Keep.drewN ?_ _ | refine Keep.drew ?_ | refine Keep.setCell ?_ _ _ (.inl (by simp)) | refine Keep.alloc ?_ _ | refine Keep.trans ?_ (by assumption) | refine Keep.trans0 ?_ (by assumption) | refine Keep.transTo ?_ (by assumption) (fun x hx => .inr (by simp at hx; omega))))
end Go.Proofs.YtjmpcoedfoaebaaGreatDoor
