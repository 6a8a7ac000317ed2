/- The reference's reader of texts: fails, stuck, next, takes; its kinds of a byte. The reference's reader of texts: number. The reference's reader of texts: word, desc. The reference's reader of texts: desc. The reference's Desc. -/
import Derived.Test.YtjmpcoedfoaebaaGreatDoorPlain
import Derived.WalkSpells
import Derived.Deep.LoopGhost
open Go Go.RowKit
namespace Go.Proofs.YtjmpcoedfoaebaaGreatDoor

/-- The reference's reader, its fault's cells whatever they are. -/
def RxC (w : World) (b : Nat) (s : ByteArray) (i parts : Nat) (c : Int) (p : Nat) (t : ByteArray) : Prop :=
  w.heap[b]? = some (.cells #[.string s, .int .i64 i, .int .i64 parts, .int .i64 c, .int .i64 p, .string t] 52 (0, 0))
/-- .. without a fault. -/
def Rx (w : World) (b : Nat) (s : ByteArray) (i parts : Nat) : Prop := RxC w b s i parts 0 0 ⟨#[]⟩
/-- .. with one. -/
def RxF (w : World) (b : Nat) (s : ByteArray) (f : Int × Nat) : Prop := ∃ i parts, RxC w b s i parts f.1 f.2 (wordAt s f.2)

theorem RxC.cells {w : World} {b : Nat} {s t : ByteArray} {i n p : Nat} {c : Int} (h : RxC w b s i n c p t) :
    w.cell? ⟨b, 0, none⟩ = some (.string s) ∧ w.cell? ⟨b, 1, none⟩ = some (.int .i64 i) ∧ w.cell? ⟨b, 2, none⟩ = some (.int .i64 n) ∧
    w.cell? ⟨b, 3, none⟩ = some (.int .i64 c) ∧ w.cell? ⟨b, 4, none⟩ = some (.int .i64 p) ∧ w.cell? ⟨b, 5, none⟩ = some (.string t) := by
  refine ⟨?_, ?_, ?_, ?_, ?_, ?_⟩ <;> (rw [cell_of h]; rfl)
theorem Rx.c0 {w : World} {b : Nat} {s : ByteArray} {i p : Nat} (h : Rx w b s i p) : w.cell? ⟨b, 0, none⟩ = some (.string s) := (RxC.cells h).1
theorem Rx.c1 {w : World} {b : Nat} {s : ByteArray} {i p : Nat} (h : Rx w b s i p) : w.cell? ⟨b, 1, none⟩ = some (.int .i64 i) := (RxC.cells h).2.1
theorem Rx.c2 {w : World} {b : Nat} {s : ByteArray} {i p : Nat} (h : Rx w b s i p) : w.cell? ⟨b, 2, none⟩ = some (.int .i64 p) := (RxC.cells h).2.2.1
theorem Rx.c3 {w : World} {b : Nat} {s : ByteArray} {i p : Nat} (h : Rx w b s i p) : w.cell? ⟨b, 3, none⟩ = some (.int .i64 0) := (RxC.cells h).2.2.2.1
theorem Rx.free {w : World} {b : Nat} {s : ByteArray} {i p : Nat} (h : Rx w b s i p) (j : Nat) : w.frozen? ⟨b, j, none⟩ = false := free_of h j
theorem Rx.lt {w : World} {b : Nat} {s : ByteArray} {i p : Nat} (h : Rx w b s i p) : b < w.heap.size := lt_of_block h
theorem Rx.drewN {w : World} {b : Nat} {s : ByteArray} {i p : Nat} (h : Rx w b s i p) (n : Nat) : Rx (w.drewN n) b s i p := h
theorem Rx.keep {S : List Nat} {w w' : World} {b : Nat} {s : ByteArray} {i p : Nat} (h : Rx w b s i p) (k : Keep S w w') (hn : b ∉ S) : Rx w' b s i p := k.heap h hn
theorem Rx.keep0 {w w' : World} {b : Nat} {s : ByteArray} {i p : Nat} (h : Rx w b s i p) (k : Keep [] w w') : Rx w' b s i p := h.keep k (by simp)
theorem Rx.setAt {w : World} {b : Nat} {s : ByteArray} {i p : Nat} (h : Rx w b s i p) (j : Nat) : Rx (w.setCell ⟨b, 1, none⟩ (.int .i64 j)) b s j p := setCell_at h 1 _
theorem Rx.setParts {w : World} {b : Nat} {s : ByteArray} {i p : Nat} (h : Rx w b s i p) (j : Nat) : Rx (w.setCell ⟨b, 2, none⟩ (.int .i64 j)) b s i j := setCell_at h 2 _
theorem RxF.keep0 {w w' : World} {b : Nat} {s : ByteArray} {f : Int × Nat} (h : RxF w b s f) (k : Keep [] w w') : RxF w' b s f := by
  obtain ⟨i, n, h⟩ := h
  exact ⟨i, n, k.heap h (by simp)⟩

/-- What a call of the reference's reader that answers whether it went has done. -/
def WentX (b : Nat) (s : ByteArray) (parts : Nat) (w : World) (r : Except (Int × Nat) Nat) (e : Ending) (w' : World) : Prop :=
  match r with
  | .ok i => e = .returned (.bool true) ∧ Rx w' b s i parts ∧ Keep [b] w w'
  | .error f => e = .returned (.bool false) ∧ RxF w' b s f ∧ Keep [b] w w'
theorem WentX.ok {b : Nat} {s : ByteArray} {p i : Nat} {w w' : World} {e : Ending} (h : WentX b s p w (.ok i) e w') : e = .returned (.bool true) ∧ Rx w' b s i p ∧ Keep [b] w w' := h
theorem WentX.err {b : Nat} {s : ByteArray} {p : Nat} {f : Int × Nat} {w w' : World} {e : Ending} (h : WentX b s p w (.error f) e w') : e = .returned (.bool false) ∧ RxF w' b s f ∧ Keep [b] w w' := h
theorem WentX.mkOk {b : Nat} {s : ByteArray} {p i : Nat} {w w' : World} (h : Rx w' b s i p) (k : Keep [b] w w') : WentX b s p w (.ok i) (.returned (.bool true)) w' := ⟨rfl, h, k⟩
theorem WentX.mkErr {b : Nat} {s : ByteArray} {p : Nat} {f : Int × Nat} {w w' : World} (h : RxF w' b s f) (k : Keep [b] w w') : WentX b s p w (.error f) (.returned (.bool false)) w' := ⟨rfl, h, k⟩
/-- .. that answers a text and whether it went. -/
def GaveX (b : Nat) (s : ByteArray) (parts : Nat) (w : World) (r : Except (Int × Nat) (ByteArray × Nat)) (e : Ending) (w' : World) : Prop :=
  match r with
  | .ok t => e = .returned (.tuple #[.string t.1, .bool true]) ∧ Rx w' b s t.2 parts ∧ Keep [b] w w'
  | .error f => e = .returned (.tuple #[.string ⟨#[]⟩, .bool false]) ∧ RxF w' b s f ∧ Keep [b] w w'
theorem GaveX.ok {b : Nat} {s t : ByteArray} {p i : Nat} {w w' : World} {e : Ending} (h : GaveX b s p w (.ok (t, i)) e w') : e = .returned (.tuple #[.string t, .bool true]) ∧ Rx w' b s i p ∧ Keep [b] w w' := h
theorem GaveX.err {b : Nat} {s : ByteArray} {p : Nat} {f : Int × Nat} {w w' : World} {e : Ending} (h : GaveX b s p w (.error f) e w') : e = .returned (.tuple #[.string ⟨#[]⟩, .bool false]) ∧ RxF w' b s f ∧ Keep [b] w w' := h
theorem GaveX.mkOk {b : Nat} {s t : ByteArray} {p i : Nat} {w w' : World} (h : Rx w' b s i p) (k : Keep [b] w w') : GaveX b s p w (.ok (t, i)) (.returned (.tuple #[.string t, .bool true])) w' := ⟨rfl, h, k⟩
theorem GaveX.mkErr {b : Nat} {s : ByteArray} {p : Nat} {f : Int × Nat} {w w' : World} (h : RxF w' b s f) (k : Keep [b] w w') : GaveX b s p w (.error f) (.returned (.tuple #[.string ⟨#[]⟩, .bool false])) w' := ⟨rfl, h, k⟩

theorem rx_fault {w : World} {b : Nat} {s : ByteArray} {i n : Nat} (h : Rx w b s i n) (c : Int) (q : Nat) (t : ByteArray) :
    RxC (((w.setCell ⟨b, 3, none⟩ (.int .i64 c)).setCell ⟨b, 4, none⟩ (.int .i64 q)).setCell ⟨b, 5, none⟩ (.string t)) b s i n c q t :=
  setCell_at (setCell_at (setCell_at h 3 _) 4 _) 5 _

set_option maxHeartbeats 1000000 in
theorem xfails_any (b i p : Nat) (q : Nat) (c : Int) (s : ByteArray) (w : World) (hs : s.size ≤ maxLen) (hR : Rx w b s i p) :
    Calls Tryz.prog 42 #[.pointer (some ⟨b, 0, none⟩), .int .i64 c, .int .i64 q] w fun e w' => e = .returned (.bool false) ∧ RxF w' b s (c, q) ∧ Keep [b] w w' := by
  have h0 := hR.c0
  obtain ⟨_, _, _, h3, h4, h5⟩ := RxC.cells hR
  have f3 := hR.free 3
  have f4 := hR.free 4
  have f5 := hR.free 5
  have HR := Lib.hid hR
  clear hR
  unfold maxLen at hs
  by_cases hi : q < s.size
  · have hv : wordAt s q = s.extract q (q + 1) := by unfold wordAt; rw [if_pos hi]
    have HV := Lib.hid hv
    clear hv
    go_enter Tryz.func42, Tryz.ntmps42
    go_wp2
    go_ret
    refine ⟨rfl, ⟨i, p, ?_⟩, by (repeat first | exact Keep.refl _ _ | refine Keep.drewN ?_ _ | refine Keep.drew ?_ | refine Keep.setCell ?_ _ _ (.inl (by simp)) | refine Keep.alloc ?_ _ | refine Keep.trans ?_ (by assumption) | refine Keep.trans0 ?_ (by assumption) | refine Keep.transTo ?_ (by assumption) (fun x hx => .inr (by simp at hx; omega)))⟩
    show RxC _ b s i p c q (wordAt s q)
    rw [HV.out]
    exact setCell_at (rx_fault HR.out c q ⟨#[]⟩) 5 _
  · have hv : wordAt s q = ⟨#[]⟩ := by unfold wordAt; rw [if_neg hi]
    have HV := Lib.hid hv
    clear hv
    go_enter Tryz.func42, Tryz.ntmps42
    go_wp2
    go_ret
    refine ⟨rfl, ⟨i, p, ?_⟩, by (repeat first | exact Keep.refl _ _ | refine Keep.drewN ?_ _ | refine Keep.drew ?_ | refine Keep.setCell ?_ _ _ (.inl (by simp)) | refine Keep.alloc ?_ _ | refine Keep.trans ?_ (by assumption) | refine Keep.trans0 ?_ (by assumption) | refine Keep.transTo ?_ (by assumption) (fun x hx => .inr (by simp at hx; omega)))⟩
    show RxC _ b s i p c q (wordAt s q)
    rw [HV.out]
    exact rx_fault HR.out c q ⟨#[]⟩

set_option maxHeartbeats 400000 in
theorem xstuck_any (b i p : Nat) (s : ByteArray) (w : World) (hs : s.size ≤ maxLen) (hR : Rx w b s i p) :
    Calls Tryz.prog 27 #[.pointer (some ⟨b, 0, none⟩)] w fun e w' => e = .returned (.bool false) ∧ RxF w' b s (stuckF s i) ∧ Keep [b] w w' := by
  have h0 := hR.c0
  have h1 := hR.c1
  have hR' := Lib.hid hR
  clear hR
  have hs' := hs
  unfold maxLen at hs
  by_cases hlt : s.size ≤ i
  · have hv : stuckF s i = (5, i) := by unfold stuckF; rw [if_pos hlt]
    rw [hv]
    go_enter Tryz.func27, Tryz.ntmps27
    go_wp2
    go_quiet (fail)
    go_wp2_with (go_at_call 42; refine (xfails_any b i p i 5 s _ hs' (hR'.out.drewN _)).mono ?_; rintro e w' ⟨rfl, hE, hK⟩)
    go_ret
    exact ⟨rfl, hE, by (repeat first | exact Keep.refl _ _ | refine Keep.drewN ?_ _ | refine Keep.drew ?_ | refine Keep.setCell ?_ _ _ (.inl (by simp)) | refine Keep.alloc ?_ _ | refine Keep.trans ?_ (by assumption) | refine Keep.trans0 ?_ (by assumption) | refine Keep.transTo ?_ (by assumption) (fun x hx => .inr (by simp at hx; omega)))⟩
  · have hv : stuckF s i = (50, i) := by unfold stuckF; rw [if_neg hlt]
    have hlt' : i < s.size := by omega
    rw [hv]
    go_enter Tryz.func27, Tryz.ntmps27
    go_wp2
    go_quiet (fail)
    go_wp2_with (go_at_call 42; refine (xfails_any b i p i 50 s _ hs' (hR'.out.drewN _)).mono ?_; rintro e w' ⟨rfl, hE, hK⟩)
    go_ret
    exact ⟨rfl, hE, by (repeat first | exact Keep.refl _ _ | refine Keep.drewN ?_ _ | refine Keep.drew ?_ | refine Keep.setCell ?_ _ _ (.inl (by simp)) | refine Keep.alloc ?_ _ | refine Keep.trans ?_ (by assumption) | refine Keep.trans0 ?_ (by assumption) | refine Keep.transTo ?_ (by assumption) (fun x hx => .inr (by simp at hx; omega)))⟩

/-- Does that byte stand next? -/
def nextB (s : ByteArray) (i : Nat) (c : UInt8) : Bool := decide (i < s.size ∧ peekB s i = c)
set_option maxHeartbeats 400000 in
theorem xnext_any (b i p : Nat) (c : UInt8) (s : ByteArray) (w : World) (hR : Rx w b s i p) :
    Calls Tryz.prog 41 #[.pointer (some ⟨b, 0, none⟩), .int .u8 c.toNat] w fun e w' => e = .returned (.bool (nextB s i c)) ∧ ∃ n, w' = w.drewN n := by
  have h0 := hR.c0
  have h1 := hR.c1
  clear hR
  by_cases hi : i < s.size
  · have hv : nextB s i c = ((s[i].toNat : Int) == c.toNat) := by
      unfold nextB
      rw [peekB_in hi, Bool.eq_iff_iff]
      simp [hi, ← UInt8.toNat_inj]
      omega
    have HV := Lib.hid hv
    clear hv
    go_enter Tryz.func41, Tryz.ntmps41
    go_wp2
    go_quiet (fail)
    go_wp2
    go_ret
    exact ⟨by rw [HV.out]; rfl, _, rfl⟩
  · have hv : nextB s i c = false := by unfold nextB; simp [hi]
    have HV := Lib.hid hv
    clear hv
    have hi' : s.size ≤ i := by omega
    go_enter Tryz.func41, Tryz.ntmps41
    go_wp2
    go_quiet (fail)
    go_wp2
    go_ret
    exact ⟨by rw [HV.out]; rfl, _, rfl⟩
theorem next_take (s : ByteArray) (i : Nat) (c : UInt8) : takeP s i c = if nextB s i c = true then .ok (i + 1) else .error (stuckF s i) := by
  unfold takeP nextB
  simp

set_option maxHeartbeats 400000 in
theorem xtakes_any (b i p : Nat) (c : UInt8) (s : ByteArray) (w : World) (hs : s.size ≤ maxLen) (hR : Rx w b s i p) :
    Calls Tryz.prog 45 #[.pointer (some ⟨b, 0, none⟩), .int .u8 c.toNat] w (WentX b s p w (takeP s i c)) := by
  rw [next_take]
  have HN := Lib.hid (fun W h => xnext_any b i p c s W h)
  have h1 := hR.c1
  have f1 := hR.free 1
  have HR := Lib.hid hR
  clear hR
  have hlt : nextB s i c = true → i < s.size := fun h => by unfold nextB at h; simp at h; exact h.1
  have hs' := hs
  unfold maxLen at hs
  cases hn : nextB s i c
  · rw [hn] at HN
    clear hn hlt
    rw [if_neg (by simp)]
    go_enter Tryz.func45, Tryz.ntmps45
    go_wp2_with (first
      | (go_at_call 41; refine (HN.out _ (by exact HR.out)).mono ?_; rintro e w' ⟨rfl, n, rfl⟩)
      | (go_at_call 27; refine (xstuck_any b i p s _ hs' (by exact HR.out)).mono ?_; rintro e w' ⟨rfl, hE, hK⟩))
    go_ret
    exact WentX.mkErr hE (by (repeat first | exact Keep.refl _ _ | refine Keep.drewN ?_ _ | refine Keep.drew ?_ | refine Keep.setCell ?_ _ _ (.inl (by simp)) | refine Keep.alloc ?_ _ | refine Keep.trans ?_ (by assumption) | refine Keep.trans0 ?_ (by assumption) | refine Keep.transTo ?_ (by assumption) (fun x hx => .inr (by simp at hx; omega))))
  · have hi := hlt hn
    rw [hn] at HN
    clear hn hlt
    rw [if_pos rfl]
    go_enter Tryz.func45, Tryz.ntmps45
    go_wp2_with (first
      | (go_at_call 41; refine (HN.out _ (by exact HR.out)).mono ?_; rintro e w' ⟨rfl, n, rfl⟩))
    go_ret
    exact WentX.mkOk ((HR.out.drewN _).setAt _) (by (repeat first | exact Keep.refl _ _ | refine Keep.drewN ?_ _ | refine Keep.drew ?_ | refine Keep.setCell ?_ _ _ (.inl (by simp)) | refine Keep.alloc ?_ _ | refine Keep.trans ?_ (by assumption) | refine Keep.trans0 ?_ (by assumption) | refine Keep.transTo ?_ (by assumption) (fun x hx => .inr (by simp at hx; omega))))

/-! ### The kinds of a byte. -/
theorem xdig_lo {c : UInt8} (h : (c.toNat : Int) < 48) : false = digB c := by unfold digB; rw [decide_eq_false (by omega)]; rfl
theorem xdig_hi {c : UInt8} (h : 48 ≤ (c.toNat : Int)) : decide ((c.toNat : Int) ≤ 57) = digB c := by
  unfold digB
  rw [decide_eq_true (by omega : 48 ≤ c.toNat)]
  simp
  omega
theorem xdig_any (c : UInt8) (w : World) : Calls Tryz.prog 95 #[.int .u8 c.toNat] w fun e w' => e = .returned (.bool (digB c)) ∧ w = w' := by
  go_enter Tryz.func95, Tryz.ntmps95
  go_wp2
  all_goals go_ret
  · exact ⟨ret_bool (xdig_hi (by assumption)), rfl⟩
  · exact ⟨ret_bool (xdig_lo (by assumption)), rfl⟩
theorem xlet_any (c : UInt8) (w : World) : Calls Tryz.prog 93 #[.int .u8 c.toNat] w fun e w' => e = .returned (.bool (letB c)) ∧ w = w' := by
  have H : Hid (letB c = (decide (97 ≤ c.toNat) && decide (c.toNat ≤ 122) || decide (65 ≤ c.toNat) && decide (c.toNat ≤ 90))) := Lib.hid rfl
  go_enter Tryz.func93, Tryz.ntmps93
  go_wp2
  all_goals go_ret
  all_goals refine ⟨ret_bool ?_, rfl⟩
  all_goals rw [H.out, Bool.eq_iff_iff]
  all_goals simp
  all_goals omega
theorem xinn_any (c : UInt8) (w : World) : Calls Tryz.prog 65 #[.int .u8 c.toNat] w fun e w' => e = .returned (.bool (innB c)) ∧ w = w' := by
  have HI : Hid (innB c = (digB c || letB c || c.toNat == 45)) := Lib.hid rfl
  cases hd : digB c <;> cases hl : letB c
  all_goals
    have d := xdig_any c
    have l := xlet_any c
    rw [hd] at d HI
    rw [hl] at l HI
    have D := Lib.hid d
    have L := Lib.hid l
    clear hd hl d l
    go_enter Tryz.func65, Tryz.ntmps65
    go_wp2_with (first | (go_at_call 95; refine (D.out _).mono ?_; rintro e w' ⟨rfl, rfl⟩) | (go_at_call 93; refine (L.out _).mono ?_; rintro e w' ⟨rfl, rfl⟩))
    go_ret
    refine ⟨ret_bool ?_, rfl⟩
    rw [HI.out]
    first | rfl | (rw [Bool.eq_iff_iff]; simp; omega)
end Go.Proofs.YtjmpcoedfoaebaaGreatDoor

open Go Go.RowKit
namespace Go.Proofs.YtjmpcoedfoaebaaGreatDoor

def NumSt (s : ByteArray) (i j : Nat) : Prop := j = i ∨ (j = i + 1 ∧ digB (peekB s i) = true ∧ peekB s i = 48) ∨ (i < j ∧ digB (peekB s i) = true ∧ peekB s i ≠ 48 ∧ runP s digB j = runP s digB i)
def NumRel (b : Nat) (s : ByteArray) (i p : Nat) (w : World) (k : Nat) (wr : World) : Prop :=
  ∃ j, i ≤ j ∧ j ≤ s.size ∧ k = s.size - j ∧ NumSt s i j ∧ Rx wr b s j p ∧ Keep [b] w wr
theorem num_none {s : ByteArray} {i : Nat} (h : digB (peekB s i) = false) : numP s i = .error (stuckF s i) := by unfold numP; rw [if_neg (by simp [h])]
theorem num_end {s : ByteArray} {i j : Nat} (h : NumSt s i j) (hij : j ≠ i) (hj : runP s digB j = j ∨ (j = i + 1 ∧ peekB s i = 48)) : numP s i = .ok j := by
  unfold numP
  rcases h with h | ⟨rfl, h1, h2⟩ | ⟨h0, h1, h2, h3⟩
  · exact absurd h hij
  · rw [if_pos h1, if_pos h2]
  · rw [if_pos h1, if_neg h2]
    rcases hj with hj | ⟨_, hj⟩
    · rw [← h3, hj]
    · exact absurd hj h2
theorem num_on {s : ByteArray} {i j : Nat} (h : NumSt s i j) (hj : j < s.size) (hd : digB s[j] = true) (hn : ¬ (j = i + 1 ∧ peekB s i = 48)) : NumSt s i (j + 1) := by
  rcases h with rfl | ⟨rfl, h1, h2⟩ | ⟨h0, h1, h2, h3⟩
  · have hp : peekB s j = s[j] := peekB_in hj
    by_cases hz : peekB s j = 48
    · exact .inr (.inl ⟨rfl, by rw [hp]; exact hd, hz⟩)
    · exact .inr (.inr ⟨by omega, by rw [hp]; exact hd, hz, (runP_yes hj hd).symm⟩)
  · exact absurd ⟨rfl, h2⟩ hn
  · exact .inr (.inr ⟨by omega, h1, h2, (runP_yes hj hd).symm.trans h3⟩)

set_option maxHeartbeats 2000000 in
theorem xnumber_any (b i p : Nat) (s : ByteArray) (w : World) (hs : s.size ≤ maxLen) (hi : i ≤ s.size) (hR : Rx w b s i p) :
    Calls Tryz.prog 94 #[.pointer (some ⟨b, 0, none⟩)] w (WentX b s p w (numP s i)) := by
  have h1 := hR.c1
  have HR := Lib.hid hR
  clear hR
  have hs' := hs
  unfold maxLen at hs
  generalize hv : numP s i = R
  have HV := Lib.hid hv
  clear hv
  go_enter Tryz.func94, Tryz.ntmps94
  go_wp2
  clear h1
  go_loopg [] (s.size - i) (fun k wr => NumRel b s i p w k wr)
  case atStart => exact ⟨i, Nat.le_refl _, hi, rfl, .inl rfl, HR.out, Keep.refl _ _⟩
  case round =>
    obtain ⟨j, hij, hj, hk, hst, hR, hK⟩ := hrel
    have h0 := hR.c0
    have h1 := hR.c1
    have h2 := hR.free 1
    have HJ := Lib.hid hR
    have HK := Lib.hid hK
    have HKK := Lib.hid hk
    have HS := Lib.hid hst
    clear hR hK hk hst
    by_cases hlt : j < s.size
    · have hd : decide (j < s.size) = true := by simpa using hlt
      go_wp2
      go_quiet (fail)
      go_wp2
      obtain ⟨W2, hW2⟩ : ∃ W2, W2 = wr.drewN nq := ⟨_, rfl⟩
      have HJ2 : Hid (Rx W2 b s j p) := Lib.hid (by rw [hW2]; exact HJ.out.drewN _)
      have HK2 : Hid (Keep [b] w W2) := Lib.hid (by rw [hW2]; exact HK.out.drewN _)
      rw [← hW2]
      clear hW2 h0 h1 h2 HJ HK
      have h0 := HJ2.out.c0
      have h1 := HJ2.out.c1
      have h2 := HJ2.out.free 1
      have hq := fun W => xdig_any s[j] W
      cases hc : digB s[j]
      · have HC := Lib.hid hc
        rw [hc] at hq
        have HQ : Hid (∀ W, Calls Tryz.prog 95 #[.int .u8 s[j].toNat] W fun e w' => e = .returned (.bool false) ∧ w' = W) := Lib.hid fun W => (hq W).mono fun _ _ h => ⟨h.1, h.2.symm⟩
        clear hq
        clear hc
        by_cases he : j = i
        · subst he
          have hnn : numP s j = .error (stuckF s j) := num_none (by rw [peekB_in hlt]; exact HC.out)
          obtain rfl : Except.error (stuckF s j) = R := hnn.symm.trans HV.out
          clear hnn
          go_quiet ((exact Calls.quiet_of_same (HQ.out _)))
          go_wp2_with (first
            | (go_at_call 27; refine (xstuck_any b _ p s _ hs' (by exact HJ2.out)).mono ?_; rintro e w' ⟨rfl, hE, hK2⟩))
          go_ret
          have hKo := HK2.out
          exact WentX.mkErr hE (by (repeat first | exact Keep.refl _ _ | refine Keep.drewN ?_ _ | refine Keep.drew ?_ | refine Keep.setCell ?_ _ _ (.inl (by simp)) | refine Keep.alloc ?_ _ | refine Keep.trans ?_ (by assumption) | refine Keep.trans0 ?_ (by assumption) | refine Keep.transTo ?_ (by assumption) (fun x hx => .inr (by simp at hx; omega))))
        · have hnn : numP s i = .ok j := num_end HS.out he (.inl (runP_no hlt HC.out))
          obtain rfl : Except.ok j = R := hnn.symm.trans HV.out
          clear hnn
          have hne : ((j : Int) == (i : Int)) = false := by rw [beq_eq_false_iff_ne]; omega
          clear he
          go_quiet ((exact Calls.quiet_of_same (HQ.out _)))
          go_wp2
          go_ret
          have hKo := HK2.out
          exact WentX.mkOk HJ2.out (by (repeat first | exact Keep.refl _ _ | refine Keep.drewN ?_ _ | refine Keep.drew ?_ | refine Keep.setCell ?_ _ _ (.inl (by simp)) | refine Keep.alloc ?_ _ | refine Keep.trans ?_ (by assumption) | refine Keep.trans0 ?_ (by assumption) | refine Keep.transTo ?_ (by assumption) (fun x hx => .inr (by simp at hx; omega))))
      · have HC := Lib.hid hc
        rw [hc] at hq
        have HQ : Hid (∀ W, Calls Tryz.prog 95 #[.int .u8 s[j].toNat] W fun e w' => e = .returned (.bool true) ∧ w' = W) := Lib.hid fun W => (hq W).mono fun _ _ h => ⟨h.1, h.2.symm⟩
        clear hq
        clear hc
        have hne : ¬ j = i → ((j : Int) == (i : Int)) = false := fun h => by rw [beq_eq_false_iff_ne]; omega
        by_cases hone : j = i + 1
        · have hi2 : i < s.size := by omega
          have hone' : ((j : Int) == (i : Int) + 1) = true := by rw [beq_iff_eq]; omega
          by_cases hz : s[i] = 48
          · have hnn : numP s i = .ok j := num_end HS.out (by omega) (.inr ⟨hone, by rw [peekB_in hi2]; exact hz⟩)
            obtain rfl : Except.ok j = R := hnn.symm.trans HV.out
            have hz' : ((s[i].toNat : Int) == 48) = true := by rw [hz]; rfl
            have hne' := hne (by omega)
            clear hnn hz hone hne
            go_quiet ((exact Calls.quiet_of_same (HQ.out _)))
            go_wp2
            go_ret
            have hKo := HK2.out
            exact WentX.mkOk (HJ2.out.drewN _) (by (repeat first | exact Keep.refl _ _ | refine Keep.drewN ?_ _ | refine Keep.drew ?_ | refine Keep.setCell ?_ _ _ (.inl (by simp)) | refine Keep.alloc ?_ _ | refine Keep.trans ?_ (by assumption) | refine Keep.trans0 ?_ (by assumption) | refine Keep.transTo ?_ (by assumption) (fun x hx => .inr (by simp at hx; omega))))
          · have hz' : ((s[i].toNat : Int) == 48) = false := by rw [beq_eq_false_iff_ne]; intro h; exact hz (UInt8.toNat_inj.1 (by show _ = 48; omega))
            have HN : Hid (¬ (j = i + 1 ∧ peekB s i = 48)) := Lib.hid (by rw [peekB_in hi2]; exact fun h => hz h.2)
            have hkk := HKK.out
            clear hz hone hne HV
            go_quiet ((exact Calls.quiet_of_same (HQ.out _)))
            go_wp2
            go_roundg (s.size - (j + 1))
            case measure => omega
            case rel =>
              have hKo := HK2.out
              exact ⟨j + 1, by omega, by omega, rfl, num_on HS.out hlt HC.out HN.out, HJ2.out.setAt _, by (repeat first | exact Keep.refl _ _ | refine Keep.drewN ?_ _ | refine Keep.drew ?_ | refine Keep.setCell ?_ _ _ (.inl (by simp)) | refine Keep.alloc ?_ _ | refine Keep.trans ?_ (by assumption) | refine Keep.trans0 ?_ (by assumption) | refine Keep.transTo ?_ (by assumption) (fun x hx => .inr (by simp at hx; omega)))⟩
        · have hone' : ((j : Int) == (i : Int) + 1) = false := by rw [beq_eq_false_iff_ne]; omega
          have HN : Hid (¬ (j = i + 1 ∧ peekB s i = 48)) := Lib.hid (fun h => hone h.1)
          have hkk := HKK.out
          clear hone hne HV
          go_quiet ((exact Calls.quiet_of_same (HQ.out _)))
          go_wp2
          go_roundg (s.size - (j + 1))
          case measure => omega
          case rel =>
            have hKo := HK2.out
            exact ⟨j + 1, by omega, by omega, rfl, num_on HS.out hlt HC.out HN.out, HJ2.out.setAt _, by (repeat first | exact Keep.refl _ _ | refine Keep.drewN ?_ _ | refine Keep.drew ?_ | refine Keep.setCell ?_ _ _ (.inl (by simp)) | refine Keep.alloc ?_ _ | refine Keep.trans ?_ (by assumption) | refine Keep.trans0 ?_ (by assumption) | refine Keep.transTo ?_ (by assumption) (fun x hx => .inr (by simp at hx; omega)))⟩
    · have hd : decide (j < s.size) = false := by simpa using hlt
      by_cases he : j = i
      · subst he
        have hnn : numP s j = .error (stuckF s j) := num_none (by rw [peekB_out (by omega)]; rfl)
        obtain rfl : Except.error (stuckF s j) = R := hnn.symm.trans HV.out
        clear hnn
        go_wp2
        go_quiet (fail)
        go_wp2_with (first
          | (go_at_call 27; refine (xstuck_any b _ p s _ hs' (by exact HJ.out)).mono ?_; rintro e w' ⟨rfl, hE, hK2⟩))
        go_ret
        have hKo := HK.out
        exact WentX.mkErr hE (by (repeat first | exact Keep.refl _ _ | refine Keep.drewN ?_ _ | refine Keep.drew ?_ | refine Keep.setCell ?_ _ _ (.inl (by simp)) | refine Keep.alloc ?_ _ | refine Keep.trans ?_ (by assumption) | refine Keep.trans0 ?_ (by assumption) | refine Keep.transTo ?_ (by assumption) (fun x hx => .inr (by simp at hx; omega))))
      · have hnn : numP s i = .ok j := num_end HS.out he (.inl (runP_end (by omega)))
        obtain rfl : Except.ok j = R := hnn.symm.trans HV.out
        clear hnn
        have hne : ((j : Int) == (i : Int)) = false := by rw [beq_eq_false_iff_ne]; omega
        clear he
        go_wp2
        go_quiet (fail)
        go_wp2
        go_ret
        have hKo := HK.out
        exact WentX.mkOk HJ.out (by (repeat first | exact Keep.refl _ _ | refine Keep.drewN ?_ _ | refine Keep.drew ?_ | refine Keep.setCell ?_ _ _ (.inl (by simp)) | refine Keep.alloc ?_ _ | refine Keep.trans ?_ (by assumption) | refine Keep.trans0 ?_ (by assumption) | refine Keep.transTo ?_ (by assumption) (fun x hx => .inr (by simp at hx; omega))))
end Go.Proofs.YtjmpcoedfoaebaaGreatDoor

open Go Go.RowKit
namespace Go.Proofs.YtjmpcoedfoaebaaGreatDoor

def WLetRel (b : Nat) (s : ByteArray) (p T : Nat) (w : World) (k : Nat) (first : Value) (wr : World) : Prop :=
  ∃ j, j ≤ s.size ∧ s.size + 1 < j + k ∧ Rx wr b s j p ∧ Keep [b] w wr ∧ ((first = .bool true ∧ j < s.size ∧ innB (peekB s j) = true ∧ runP s innB j = T) ∨ (first = .bool false ∧ j = T))
/-- Behind a dot: a number, and more if a dot stands next. -/
def afterP (k : Nat) (s : ByteArray) (j : Nat) : Except (Int × Nat) Nat := match numP s j with | .error f => .error f | .ok q => nextP k s q
theorem dots_err {k : Nat} {s : ByteArray} {i : Nat} {f : Int × Nat} (h : takeP s i 46 = .error f) : dotsP (k + 1) s i = .error f := by rw [dotsP_succ, h]
theorem dots_ok {k : Nat} {s : ByteArray} {i j : Nat} (h : takeP s i 46 = .ok j) : dotsP (k + 1) s i = afterP k s j := by rw [dotsP_succ, h]; rfl
theorem next_end {k : Nat} {s : ByteArray} {q : Nat} (h : nextB s q 46 = false) : nextP k s q = .ok q := by
  unfold nextP
  rw [if_neg]
  intro hp
  have hq : q < s.size := peekB_lt (by rw [hp]; decide)
  unfold nextB at h
  simp [hq, hp] at h
theorem next_on {k : Nat} {s : ByteArray} {q : Nat} (h : nextB s q 46 = true) : q < s.size ∧ nextP (k + 1) s q = afterP k s (q + 1) := by
  have h' := h
  unfold nextB at h'
  simp at h'
  refine ⟨h'.1, ?_⟩
  unfold nextP
  rw [if_pos h'.2]
  exact dots_ok (by rw [next_take, if_pos h])
def WDotRel (b : Nat) (s : ByteArray) (p : Nat) (w : World) (R : Except (Int × Nat) Nat) (k : Nat) (first : Value) (wr : World) : Prop :=
  ∃ j, j ≤ s.size ∧ s.size < j + k ∧ Rx wr b s j p ∧ Keep [b] w wr ∧ first = .bool true ∧ afterP k s j = R

set_option maxHeartbeats 2000000 in
theorem xword_any (b i p : Nat) (s : ByteArray) (w : World) (hs : s.size ≤ maxLen) (hi : i ≤ s.size) (hR : Rx w b s i p) :
    Calls Tryz.prog 64 #[.pointer (some ⟨b, 0, none⟩)] w (WentX b s p w (wordP s i)) := by
  have h0 := hR.c0
  have h1 := hR.c1
  have HR := Lib.hid hR
  clear hR
  have hs' := hs
  unfold maxLen at hs
  by_cases hlt : i < s.size
  · have hd : ¬ s.size ≤ i := by omega
    have hl := fun W => xlet_any s[i] W
    have hpk : peekB s i = s[i] := peekB_in hlt
    cases hc : letB s[i]
    · rw [hc] at hl
      have hv : wordP s i = match numP s i with | .error f => .error f | .ok j => dotsP (s.size + 1) s j := by unfold wordP; rw [if_neg (by rw [hpk, hc]; simp)]; rfl
      rw [hv]
      have HQ : Hid (∀ W, Calls Tryz.prog 93 #[.int .u8 s[i].toNat] W fun e w' => e = .returned (.bool false) ∧ w' = W) := Lib.hid fun W => (hl W).mono fun _ _ h => ⟨h.1, h.2.symm⟩
      clear hl hpk hc hv
      generalize hT : (match numP s i with | .error f => .error f | .ok j => dotsP (s.size + 1) s j : Except (Int × Nat) Nat) = R
      have HT := Lib.hid hT
      clear hT
      go_enter Tryz.func64, Tryz.ntmps64
      go_wp2
      go_quiet (fail)
      go_wp2
      obtain ⟨W2, hW2⟩ : ∃ W2, W2 = w.drewN nq := ⟨_, rfl⟩
      have HJ2 : Hid (Rx W2 b s i p) := Lib.hid (by rw [hW2]; exact HR.out.drewN _)
      have HK2 : Hid (Keep [b] w W2) := Lib.hid (by rw [hW2]; exact (Keep.refl _ _).drewN _)
      rw [← hW2]
      clear hW2 h0 h1 HR
      have h0 := HJ2.out.c0
      have h1 := HJ2.out.c1
      go_quiet ((exact Calls.quiet_of_same (HQ.out _)))
      have HN := Lib.hid (fun W h => xnumber_any b i p s W hs' hi h)
      have hTT := HT.out
      clear HT
      cases hn : numP s i with
      | error f =>
        rw [hn] at HN hTT
        clear hn
        obtain rfl : Except.error f = R := hTT
        go_wp2_with (first
          | (go_at_call 94; refine (HN.out _ (by exact HJ2.out)).mono ?_; intro e w' hw; obtain ⟨rfl, hE, hK⟩ := WentX.err hw; clear hw))
        go_ret
        have hKo := HK2.out
        exact WentX.mkErr hE (by (repeat first | exact Keep.refl _ _ | refine Keep.drewN ?_ _ | refine Keep.drew ?_ | refine Keep.setCell ?_ _ _ (.inl (by simp)) | refine Keep.alloc ?_ _ | refine Keep.trans ?_ (by assumption) | refine Keep.trans0 ?_ (by assumption) | refine Keep.transTo ?_ (by assumption) (fun x hx => .inr (by simp at hx; omega))))
      | ok j =>
        have hj := (numP_ok hn).2
        rw [hn] at HN hTT
        clear hn
        have HTk := Lib.hid (fun W h => xtakes_any b j p 46 s W hs' h)
        cases ht : takeP s j 46 with
        | error f =>
          rw [ht] at HTk
          obtain rfl : Except.error f = R := (dots_err ht).symm.trans hTT
          clear ht
          go_wp2_with (first
            | (go_at_call 94; refine (HN.out _ (by exact HJ2.out)).mono ?_; intro e w' hw; obtain ⟨rfl, hR1, hK1⟩ := WentX.ok hw; clear hw)
            | (go_at_call 45; refine (HTk.out _ (by exact hR1)).mono ?_; intro e w' hw; obtain ⟨rfl, hE, hK2⟩ := WentX.err hw; clear hw))
          refine wp_loop_rounds 1 ?_
          rw [rounds_succ]
          go_wp2
          go_ret
          have hKo := HK2.out
          exact WentX.mkErr hE (by (repeat first | exact Keep.refl _ _ | refine Keep.drewN ?_ _ | refine Keep.drew ?_ | refine Keep.setCell ?_ _ _ (.inl (by simp)) | refine Keep.alloc ?_ _ | refine Keep.trans ?_ (by assumption) | refine Keep.trans0 ?_ (by assumption) | refine Keep.transTo ?_ (by assumption) (fun x hx => .inr (by simp at hx; omega))))
        | ok j1 =>
          rw [ht] at HTk
          have HTT : Hid (afterP s.size s j1 = R) := Lib.hid ((dots_ok ht).symm.trans hTT)
          have hj1 := takeP_ok ht
          clear hTT ht
          go_wp2_with (first
            | (go_at_call 94; refine (HN.out _ (by exact HJ2.out)).mono ?_; intro e w' hw; obtain ⟨rfl, hR1, hK1⟩ := WentX.ok hw; clear hw)
            | (go_at_call 45; refine (HTk.out _ (by exact hR1)).mono ?_; intro e w' hw; obtain ⟨rfl, hR2, hK2⟩ := WentX.ok hw; clear hw))
          have HR2 := Lib.hid hR2
          have HK3 : Hid (Keep [b] w w') := Lib.hid (((HK2.out.drewN _).trans hK1).trans hK2)
          clear hR1 hR2 hK1 hK2 HK2 HJ2 h0 h1
          go_loopg [6] (s.size) (fun k first wr => WDotRel b s p w R k first wr)
          case atStart => exact ⟨j1, by omega, by omega, HR2.out, HK3.out, rfl, HTT.out⟩
          case round =>
            obtain ⟨q, hq, hk, hRq, hKq, rfl, hA⟩ := hrel
            have HRq := Lib.hid hRq
            have HKq := Lib.hid hKq
            clear hRq hKq
            have HN := Lib.hid (fun W h => xnumber_any b q p s W hs' hq h)
            unfold afterP at hA
            cases hn : numP s q with
            | error f =>
              rw [hn] at HN hA
              clear hn
              obtain rfl : Except.error f = R := hA
              go_wp2_with (first
                | (go_at_call 94; refine (HN.out _ (by exact HRq.out)).mono ?_; intro e w' hw; obtain ⟨rfl, hE, hK⟩ := WentX.err hw; clear hw))
              go_ret
              have hKo := HKq.out
              exact WentX.mkErr hE (by (repeat first | exact Keep.refl _ _ | refine Keep.drewN ?_ _ | refine Keep.drew ?_ | refine Keep.setCell ?_ _ _ (.inl (by simp)) | refine Keep.alloc ?_ _ | refine Keep.trans ?_ (by assumption) | refine Keep.trans0 ?_ (by assumption) | refine Keep.transTo ?_ (by assumption) (fun x hx => .inr (by simp at hx; omega))))
            | ok z =>
              have hz := numP_ok hn
              rw [hn] at HN hA
              clear hn
              dsimp only at hA
              have HX := Lib.hid (fun W h => xnext_any b z p 46 s W h)
              cases hx : nextB s z 46
              · rw [hx] at HX
                rw [next_end hx] at hA
                subst hA
                clear hx
                go_wp2_with (first
                  | (go_at_call 94; refine (HN.out _ (by exact HRq.out)).mono ?_; intro e w' hw; obtain ⟨rfl, hRz, hKz⟩ := WentX.ok hw; clear hw)
                  | (go_at_call 41; refine (HX.out _ (by exact hRz)).mono ?_; rintro e w' ⟨rfl, n, rfl⟩))
                go_ret
                have hKo := HKq.out
                exact WentX.mkOk (hRz.drewN _) (by (repeat first | exact Keep.refl _ _ | refine Keep.drewN ?_ _ | refine Keep.drew ?_ | refine Keep.setCell ?_ _ _ (.inl (by simp)) | refine Keep.alloc ?_ _ | refine Keep.trans ?_ (by assumption) | refine Keep.trans0 ?_ (by assumption) | refine Keep.transTo ?_ (by assumption) (fun x hx => .inr (by simp at hx; omega))))
              · rw [hx] at HX
                have hzs : z < s.size := by unfold nextB at hx; simp at hx; exact hx.1
                obtain ⟨k', rfl⟩ : ∃ k', gk = k' + 1 := ⟨gk - 1, by omega⟩
                rw [(next_on hx).2] at hA
                have HA := Lib.hid hA
                clear hx hA
                go_wp2_with (first
                  | (go_at_call 94; refine (HN.out _ (by exact HRq.out)).mono ?_; intro e w' hw; obtain ⟨rfl, hRz, hKz⟩ := WentX.ok hw; clear hw)
                  | (go_at_call 41; refine (HX.out _ (by exact hRz)).mono ?_; rintro e w' ⟨rfl, n, rfl⟩; have h1 := hRz.c1; have h2 := hRz.free 1))
                go_roundg k'
                case measure => omega
                case rel =>
                  have hKo := HKq.out
                  exact ⟨z + 1, by omega, by omega, (hRz.drewN _).setAt _, by (repeat first | exact Keep.refl _ _ | refine Keep.drewN ?_ _ | refine Keep.drew ?_ | refine Keep.setCell ?_ _ _ (.inl (by simp)) | refine Keep.alloc ?_ _ | refine Keep.trans ?_ (by assumption) | refine Keep.trans0 ?_ (by assumption) | refine Keep.transTo ?_ (by assumption) (fun x hx => .inr (by simp at hx; omega))), rfl, HA.out⟩
    · rw [hc] at hl
      have hv : wordP s i = .ok (runP s innB i) := by unfold wordP; rw [if_pos (by rw [hpk]; exact hc)]
      rw [hv]
      have hin : innB (peekB s i) = true := by rw [hpk]; simp [innB, hc]
      have HIN := Lib.hid hin
      have HQ : Hid (∀ W, Calls Tryz.prog 93 #[.int .u8 s[i].toNat] W fun e w' => e = .returned (.bool true) ∧ w' = W) := Lib.hid fun W => (hl W).mono fun _ _ h => ⟨h.1, h.2.symm⟩
      clear hl hpk hc hv hin
      go_enter Tryz.func64, Tryz.ntmps64
      go_wp2
      go_quiet (fail)
      go_wp2
      obtain ⟨W2, hW2⟩ : ∃ W2, W2 = w.drewN nq := ⟨_, rfl⟩
      have HJ2 : Hid (Rx W2 b s i p) := Lib.hid (by rw [hW2]; exact HR.out.drewN _)
      have HK2 : Hid (Keep [b] w W2) := Lib.hid (by rw [hW2]; exact (Keep.refl _ _).drewN _)
      rw [← hW2]
      clear hW2 h0 h1 HR
      have h0 := HJ2.out.c0
      have h1 := HJ2.out.c1
      go_quiet ((exact Calls.quiet_of_same (HQ.out _)))
      go_wp2
      go_loopg [4] (s.size + 2) (fun k first wr => WLetRel b s p (runP s innB i) w k first wr)
      case atStart => exact ⟨i, hi, by omega, HJ2.out.drewN _, HK2.out.drewN _, .inl ⟨rfl, hlt, HIN.out, rfl⟩⟩
      case round =>
        obtain ⟨j, hj, hk, hRj, hKj, hst⟩ := hrel
        have HRj := Lib.hid hRj
        have HKj := Lib.hid hKj
        clear hRj hKj HJ2 HK2 h0 h1 HQ hd
        have h1 := HRj.out.c1
        have h2 := HRj.out.free 1
        rcases hst with ⟨rfl, hjl, hin, hT⟩ | ⟨rfl, hT⟩
        · have HT : Hid (runP s innB (j + 1) = runP s innB i) := Lib.hid ((runP_yes hjl (by rw [← peekB_in hjl]; exact hin)).symm.trans hT)
          clear hT hin
          go_wp2
          obtain ⟨W3, hW3⟩ : ∃ W3, W3 = wr.setCell ⟨b, 1, none⟩ (.int .i64 ((j : Int) + 1)) := ⟨_, rfl⟩
          obtain ⟨j2, hj2⟩ : ∃ j2, j2 = j + 1 := ⟨_, rfl⟩
          have HR3 : Hid (Rx W3 b s j2 p) := Lib.hid (by rw [hW3, hj2]; exact HRj.out.setAt _)
          have HK3 : Hid (Keep [b] w W3) := Lib.hid (by rw [hW3]; exact HKj.out.setCell _ _ (.inl (by simp)))
          rw [← hj2] at HT
          rw [← hW3]
          have hj2s : j < j2 ∧ j2 ≤ j + 1 := by omega
          clear hW3 h1 h2 HRj HKj hj2
          have h0 := HR3.out.c0
          have h1 := HR3.out.c1
          by_cases hl2 : j2 < s.size
          · have hd : decide (j2 < s.size) = true := by simpa using hl2
            have hq := fun W => xinn_any s[j2] W
            cases hc : innB s[j2]
            · rw [hc] at hq
              have HQ : Hid (∀ W, Calls Tryz.prog 65 #[.int .u8 s[j2].toNat] W fun e w' => e = .returned (.bool false) ∧ w' = W) := Lib.hid fun W => (hq W).mono fun _ _ h => ⟨h.1, h.2.symm⟩
              have hTT := HT.out
              rw [runP_no hl2 hc] at hTT
              have HTT := Lib.hid hTT
              clear hq hc hTT HT
              go_quiet ((exact Calls.quiet_of_same (HQ.out _)))
              go_wp2
              go_roundg (s.size + 1 - j)
              case measure => omega
              case rel => exact ⟨j2, by omega, by omega, HR3.out.drewN _, HK3.out.drewN _, .inr ⟨rfl, HTT.out⟩⟩
            · rw [hc] at hq
              have HQ : Hid (∀ W, Calls Tryz.prog 65 #[.int .u8 s[j2].toNat] W fun e w' => e = .returned (.bool true) ∧ w' = W) := Lib.hid fun W => (hq W).mono fun _ _ h => ⟨h.1, h.2.symm⟩
              have HC := Lib.hid hc
              clear hq hc
              go_quiet ((exact Calls.quiet_of_same (HQ.out _)))
              go_wp2
              go_roundg (s.size + 1 - j)
              case measure => omega
              case rel => exact ⟨j2, by omega, by omega, HR3.out.drewN _, HK3.out.drewN _, .inl ⟨rfl, hl2, by rw [peekB_in hl2]; exact HC.out, HT.out⟩⟩
          · have hd : s.size ≤ j2 := by omega
            have hTT := HT.out
            rw [runP_end (by omega)] at hTT
            have HTT := Lib.hid hTT
            clear hTT HT
            go_quiet (fail)
            go_wp2
            go_roundg (s.size + 1 - j)
            case measure => omega
            case rel => exact ⟨j2, by omega, by omega, HR3.out.drewN _, HK3.out.drewN _, .inr ⟨rfl, HTT.out⟩⟩
        · go_wp2
          go_ret
          rw [← hT]
          exact WentX.mkOk HRj.out HKj.out
  · have hd : s.size ≤ i := by omega
    have hv : wordP s i = .error (stuckF s i) := by
      have hp : peekB s i = 0 := peekB_out hd
      unfold wordP
      rw [hp, if_neg (by decide)]
      rw [num_none (by rw [hp]; rfl)]
    rw [hv]
    clear hv
    go_enter Tryz.func64, Tryz.ntmps64
    go_wp2
    go_quiet (fail)
    go_wp2_with (first
      | (go_at_call 27; refine (xstuck_any b _ p s _ hs' (by exact HR.out)).mono ?_; rintro e w' ⟨rfl, hE, hK2⟩))
    go_ret
    exact WentX.mkErr hE (by (repeat first | exact Keep.refl _ _ | refine Keep.drewN ?_ _ | refine Keep.drew ?_ | refine Keep.setCell ?_ _ _ (.inl (by simp)) | refine Keep.alloc ?_ _ | refine Keep.trans ?_ (by assumption) | refine Keep.trans0 ?_ (by assumption) | refine Keep.transTo ?_ (by assumption) (fun x hx => .inr (by simp at hx; omega))))
end Go.Proofs.YtjmpcoedfoaebaaGreatDoor

open Go Go.RowKit
namespace Go.Proofs.YtjmpcoedfoaebaaGreatDoor

def WOptRel (i b : Nat) (s : ByteArray) (p : Nat) (w : World) (R : Except (Int × Nat) Nat) (k : Nat) (ok : Value) (wr : World) : Prop :=
  Keep [b] w wr ∧ ((ok = .bool true ∧ ∃ j, j ≤ s.size ∧ s.size < j + k ∧ Rx wr b s j p ∧ optsP k s j = R ∧ i ≤ j) ∨ (ok = .bool false ∧ ∃ f, R = .error f ∧ RxF wr b s f))
def WInnRel (b : Nat) (s : ByteArray) (p T : Nat) (w : World) (k : Nat) (wr : World) : Prop :=
  ∃ j, j ≤ s.size ∧ k = s.size - j ∧ Rx wr b s j p ∧ Keep [b] w wr ∧ runP s innB j = T

set_option maxHeartbeats 2000000 in
theorem xdesc_any (b i p : Nat) (s : ByteArray) (w : World) (hs : s.size ≤ maxLen) (hi : i ≤ s.size) (hR : Rx w b s i p) :
    Calls Tryz.prog 37 #[.pointer (some ⟨b, 0, none⟩)] w (GaveX b s p w (textOf s i (descP s i))) := by
  have h1 := hR.c1
  have HR := Lib.hid hR
  clear hR
  have hs' := hs
  unfold maxLen at hs
  have HW := Lib.hid (fun W h => xword_any b i p s W hs' hi h)
  cases hw : wordP s i with
  | error f =>
    have hv : textOf s i (descP s i) = .error f := by unfold descP; rw [hw]; rfl
    rw [hv]
    rw [hw] at HW
    clear hv hw
    go_enter Tryz.func37, Tryz.ntmps37
    go_wp2_with (first
      | (go_at_call 64; refine (HW.out _ (by exact HR.out)).mono ?_; intro e w' hw; obtain ⟨rfl, hE, hK⟩ := WentX.err hw; clear hw))
    refine wp_loop_rounds 1 ?_
    rw [rounds_succ]
    go_wp2
    go_ret2
    exact GaveX.mkErr hE (by (repeat first | exact Keep.refl _ _ | refine Keep.drewN ?_ _ | refine Keep.drew ?_ | refine Keep.setCell ?_ _ _ (.inl (by simp)) | refine Keep.alloc ?_ _ | refine Keep.trans ?_ (by assumption) | refine Keep.trans0 ?_ (by assumption) | refine Keep.transTo ?_ (by assumption) (fun x hx => .inr (by simp at hx; omega))))
  | ok j =>
    have hij := wordP_ok hw
    generalize hT : optsP (s.size + 1) s j = R
    have hv : descP s i = sinceOf i R := by unfold descP; rw [hw]; dsimp only; rw [hT]
    rw [hv]
    rw [hw] at HW
    have HT := Lib.hid hT
    clear hv hw hT
    go_enter Tryz.func37, Tryz.ntmps37
    go_wp2_with (first
      | (go_at_call 64; refine (HW.out _ (by exact HR.out)).mono ?_; intro e w' hw; obtain ⟨rfl, hR', hK⟩ := WentX.ok hw; clear hw))
    have HK1 : Hid (Keep [b] w w') := Lib.hid (by (repeat first | exact Keep.refl _ _ | refine Keep.drewN ?_ _ | refine Keep.drew ?_ | refine Keep.setCell ?_ _ _ (.inl (by simp)) | refine Keep.alloc ?_ _ | refine Keep.trans ?_ (by assumption) | refine Keep.trans0 ?_ (by assumption) | refine Keep.transTo ?_ (by assumption) (fun x hx => .inr (by simp at hx; omega))))
    have HR1 := Lib.hid hR'
    clear hR' hK h1 HR
    go_loopg [5] (s.size + 1) (fun k ok wr => WOptRel i b s p w R k ok wr)
    case atStart => exact ⟨HK1.out, .inl ⟨rfl, j, hij.2, by omega, HR1.out, HT.out, by omega⟩⟩
    case round =>
      obtain ⟨hKq, hst⟩ := hrel
      have HKq := Lib.hid hKq
      clear hKq HK1 HR1
      rcases hst with ⟨rfl, q, hq, hk, hRq, hopt, hiq⟩ | ⟨rfl, f, rfl, hE⟩
      · have HRq := Lib.hid hRq
        have h1 := hRq.c1
        have h2 := hRq.free 1
        clear hRq
        obtain ⟨k', rfl⟩ : ∃ k', gk = k' + 1 := ⟨gk - 1, by omega⟩
        unfold optsP at hopt
        have HX := Lib.hid (fun W h => xnext_any b q p 59 s W h)
        cases hx : nextB s q 59
        · rw [hx] at HX
          have hne : ¬ peekB s q = 59 := fun hp => by
            have hlt : q < s.size := peekB_lt (by rw [hp]; decide)
            unfold nextB at hx
            simp [hlt, hp] at hx
          rw [if_neg hne] at hopt
          clear hne hx
          subst hopt
          have h0 := HRq.out.c0
          by_cases hlong : 65536 < q - i
          · have hv : textOf s i (sinceOf i (.ok q)) = .error (3, i) := by show textOf s i (sinceP i q) = _; unfold sinceP; rw [if_pos hlong]; rfl
            have HV := Lib.hid hv
            clear hv
            have hl : (65536 : Int) < (q : Int) - i := by omega
            go_wp2_with (first
              | (go_at_call 41; refine (HX.out _ (by exact HRq.out)).mono ?_; rintro e w' ⟨rfl, n, rfl⟩)
              | (go_at_call 42; refine (xfails_any b q p i 3 s _ hs' (by exact HRq.out)).mono ?_; rintro e w' ⟨rfl, hE, hK⟩))
            go_ret2
            have hKo := HKq.out
            rw [HV.out]
            exact GaveX.mkErr hE (by (repeat first | exact Keep.refl _ _ | refine Keep.drewN ?_ _ | refine Keep.drew ?_ | refine Keep.setCell ?_ _ _ (.inl (by simp)) | refine Keep.alloc ?_ _ | refine Keep.trans ?_ (by assumption) | refine Keep.trans0 ?_ (by assumption) | refine Keep.transTo ?_ (by assumption) (fun x hx => .inr (by simp at hx; omega))))
          · have hv : textOf s i (sinceOf i (.ok q)) = .ok (s.extract i q, q) := by show textOf s i (sinceP i q) = _; unfold sinceP; rw [if_neg hlong]; rfl
            have HV := Lib.hid hv
            clear hv
            have hl : (q : Int) - i ≤ 65536 := by omega
            go_wp2_with (first
              | (go_at_call 41; refine (HX.out _ (by exact HRq.out)).mono ?_; rintro e w' ⟨rfl, n, rfl⟩))
            go_quiet (fail)
            go_wp2
            go_ret2
            have hKo := HKq.out
            rw [HV.out]
            exact GaveX.mkOk (by exact (HRq.out.drewN _).drewN _) (by (repeat first | exact Keep.refl _ _ | refine Keep.drewN ?_ _ | refine Keep.drew ?_ | refine Keep.setCell ?_ _ _ (.inl (by simp)) | refine Keep.alloc ?_ _ | refine Keep.trans ?_ (by assumption) | refine Keep.trans0 ?_ (by assumption) | refine Keep.transTo ?_ (by assumption) (fun x hx => .inr (by simp at hx; omega))))
        · rw [hx] at HX
          have hq59 : q < s.size ∧ peekB s q = 59 := by unfold nextB at hx; simpa using hx
          obtain ⟨hqs, h59⟩ := hq59
          rw [if_pos h59] at hopt
          have hr := runP_le s innB (q + 1) hqs
          have HO := Lib.hid hopt
          clear hx h59 hopt
          go_wp2_with (first
            | (go_at_call 41; refine (HX.out _ (by exact HRq.out)).mono ?_; rintro e w' ⟨rfl, n, rfl⟩))
          have HR3 : Hid (Rx ((wr.drewN n).setCell ⟨b, 1, none⟩ (.int .i64 ((q : Int) + 1))) b s (q + 1) p) := Lib.hid ((HRq.out.drewN _).setAt _)
          have HK3 : Hid (Keep [b] w ((wr.drewN n).setCell ⟨b, 1, none⟩ (.int .i64 ((q : Int) + 1)))) := Lib.hid ((HKq.out.drewN _).setCell _ _ (.inl (by simp)))
          clear HRq HKq h1 h2
          go_loopg [] (s.size - (q + 1)) (fun k wr => WInnRel b s p (runP s innB (q + 1)) w k wr)
          case atStart => exact ⟨q + 1, hqs, rfl, HR3.out, HK3.out, rfl⟩
          case round =>
            obtain ⟨z, hz, hkz, hRz, hKz, hTz⟩ := hrel
            have HRz := Lib.hid hRz
            have HKz := Lib.hid hKz
            have HTz := Lib.hid hTz
            have h0 := hRz.c0
            have h1 := hRz.c1
            have h2 := hRz.free 1
            clear hRz hKz hTz HR3 HK3 HX
            go_wp2
            by_cases hlt : z < s.size
            · have hd : decide (z < s.size) = true := by simpa using hlt
              have hq := fun W => xinn_any s[z] W
              cases hc : innB s[z]
              · rw [hc] at hq
                have HQ : Hid (∀ W, Calls Tryz.prog 65 #[.int .u8 s[z].toNat] W fun e w' => e = .returned (.bool false) ∧ w' = W) := Lib.hid fun W => (hq W).mono fun _ _ h => ⟨h.1, h.2.symm⟩
                have hTT := HTz.out
                rw [runP_no hlt hc] at hTT
                have HO2 : Hid ((if z = q + 1 then Except.error (stuckF s (q + 1)) else optsP k' s z) = R) := Lib.hid (by rw [hTT]; exact HO.out)
                have hzq : q + 1 ≤ z := by omega
                clear hq hc hTT HTz HO
                by_cases he : z = q + 1
                · have he' : ((z : Int) == (q : Int) + 1) = true := by rw [beq_iff_eq]; omega
                  have hRR := HO2.out
                  rw [if_pos he] at hRR
                  have HF : Hid (R = .error (stuckF s z)) := Lib.hid (by rw [he]; exact hRR.symm)
                  clear he hRR HO2
                  go_quiet ((exact Calls.quiet_of_same (HQ.out _)))
                  go_wp2_with (first
                    | (go_at_call 27; refine (xstuck_any b z p s _ hs' (by exact HRz.out)).mono ?_; rintro e w' ⟨rfl, hE, hK⟩))
                  go_roundg k'
                  case measure => omega
                  case rel =>
                    have hKo := HKz.out
                    exact ⟨by (repeat first | exact Keep.refl _ _ | refine Keep.drewN ?_ _ | refine Keep.drew ?_ | refine Keep.setCell ?_ _ _ (.inl (by simp)) | refine Keep.alloc ?_ _ | refine Keep.trans ?_ (by assumption) | refine Keep.trans0 ?_ (by assumption) | refine Keep.transTo ?_ (by assumption) (fun x hx => .inr (by simp at hx; omega))), .inr ⟨rfl, _, HF.out, hE⟩⟩
                · have he' : ((z : Int) == (q : Int) + 1) = false := by rw [beq_eq_false_iff_ne]; omega
                  have hRR := HO2.out
                  rw [if_neg he] at hRR
                  have HF := Lib.hid hRR
                  have hzz : i ≤ z ∧ s.size < z + k' := by omega
                  clear he hRR HO2
                  go_quiet ((exact Calls.quiet_of_same (HQ.out _)))
                  go_wp2
                  go_roundg k'
                  case measure => omega
                  case rel =>
                    have hKo := HKz.out
                    exact ⟨by (repeat first | exact Keep.refl _ _ | refine Keep.drewN ?_ _ | refine Keep.drew ?_ | refine Keep.setCell ?_ _ _ (.inl (by simp)) | refine Keep.alloc ?_ _ | refine Keep.trans ?_ (by assumption) | refine Keep.trans0 ?_ (by assumption) | refine Keep.transTo ?_ (by assumption) (fun x hx => .inr (by simp at hx; omega))), .inl ⟨rfl, z, hz, hzz.2, HRz.out.drewN _, HF.out, hzz.1⟩⟩
              · rw [hc] at hq
                have HQ : Hid (∀ W, Calls Tryz.prog 65 #[.int .u8 s[z].toNat] W fun e w' => e = .returned (.bool true) ∧ w' = W) := Lib.hid fun W => (hq W).mono fun _ _ h => ⟨h.1, h.2.symm⟩
                have HTT : Hid (runP s innB (z + 1) = runP s innB (q + 1)) := Lib.hid ((runP_yes hlt hc).symm.trans HTz.out)
                clear hq hc
                go_quiet ((exact Calls.quiet_of_same (HQ.out _)))
                go_wp2
                go_roundg (s.size - (z + 1))
                case measure => omega
                case rel =>
                  have hKo := HKz.out
                  exact ⟨z + 1, hlt, rfl, (HRz.out.drewN _).setAt _, by (repeat first | exact Keep.refl _ _ | refine Keep.drewN ?_ _ | refine Keep.drew ?_ | refine Keep.setCell ?_ _ _ (.inl (by simp)) | refine Keep.alloc ?_ _ | refine Keep.trans ?_ (by assumption) | refine Keep.trans0 ?_ (by assumption) | refine Keep.transTo ?_ (by assumption) (fun x hx => .inr (by simp at hx; omega))), HTT.out⟩
            · have hd : s.size ≤ z := by omega
              have hTT := HTz.out
              rw [runP_end hd] at hTT
              have HO2 : Hid ((if z = q + 1 then Except.error (stuckF s (q + 1)) else optsP k' s z) = R) := Lib.hid (by rw [hTT]; exact HO.out)
              have hzq : q + 1 ≤ z := by omega
              clear hTT HTz HO
              by_cases he : z = q + 1
              · have he' : ((z : Int) == (q : Int) + 1) = true := by rw [beq_iff_eq]; omega
                have hRR := HO2.out
                rw [if_pos he] at hRR
                have HF : Hid (R = .error (stuckF s z)) := Lib.hid (by rw [he]; exact hRR.symm)
                clear he hRR HO2
                go_quiet (fail)
                go_wp2_with (first
                  | (go_at_call 27; refine (xstuck_any b z p s _ hs' (by exact HRz.out)).mono ?_; rintro e w' ⟨rfl, hE, hK⟩))
                go_roundg k'
                case measure => omega
                case rel =>
                  have hKo := HKz.out
                  exact ⟨by (repeat first | exact Keep.refl _ _ | refine Keep.drewN ?_ _ | refine Keep.drew ?_ | refine Keep.setCell ?_ _ _ (.inl (by simp)) | refine Keep.alloc ?_ _ | refine Keep.trans ?_ (by assumption) | refine Keep.trans0 ?_ (by assumption) | refine Keep.transTo ?_ (by assumption) (fun x hx => .inr (by simp at hx; omega))), .inr ⟨rfl, _, HF.out, hE⟩⟩
              · have he' : ((z : Int) == (q : Int) + 1) = false := by rw [beq_eq_false_iff_ne]; omega
                have hRR := HO2.out
                rw [if_neg he] at hRR
                have HF := Lib.hid hRR
                have hzz : i ≤ z ∧ s.size < z + k' := by omega
                clear he hRR HO2
                go_quiet (fail)
                go_wp2
                go_roundg k'
                case measure => omega
                case rel =>
                  have hKo := HKz.out
                  exact ⟨by (repeat first | exact Keep.refl _ _ | refine Keep.drewN ?_ _ | refine Keep.drew ?_ | refine Keep.setCell ?_ _ _ (.inl (by simp)) | refine Keep.alloc ?_ _ | refine Keep.trans ?_ (by assumption) | refine Keep.trans0 ?_ (by assumption) | refine Keep.transTo ?_ (by assumption) (fun x hx => .inr (by simp at hx; omega))), .inl ⟨rfl, z, hz, hzz.2, HRz.out.drewN _, HF.out, hzz.1⟩⟩
      · go_wp2
        go_ret2
        exact GaveX.mkErr hE HKq.out
end Go.Proofs.YtjmpcoedfoaebaaGreatDoor

open Go Go.RowKit
namespace Go.Proofs.YtjmpcoedfoaebaaGreatDoor

/-- Is a text a description? (as descB) -/
def descX (s : ByteArray) : Bool := match descP s 0 with
  | .ok j => decide (j = s.size)
  | .error _ => false
theorem xnew (s : ByteArray) (w : World) : Rx (w.alloc (.cells #[.string s, .int .i64 0, .int .i64 0, .int .i64 0, .int .i64 0, .string ⟨#[]⟩] 52)) w.heap.size s 0 0 := alloc_at w _

set_option maxHeartbeats 1000000 in
theorem xDesc_any (s : ByteArray) (w : World) (hs : s.size ≤ maxLen) : Calls Tryz.prog 23 #[.string s] w fun e w' => e = .returned (.bool (descX s)) ∧ Keep [] w w' := by
  have hD := xdesc_any w.heap.size 0 0 s _ hs (Nat.zero_le _) (xnew s w)
  have HK1 : Hid (Keep [] w (w.alloc (.cells #[.string s, .int .i64 0, .int .i64 0, .int .i64 0, .int .i64 0, .string ⟨#[]⟩] 52))) := Lib.hid ((Keep.refl [] w).alloc _)
  have hs' := hs
  unfold maxLen at hs'
  cases hd : descP s 0 with
  | error f =>
    have hv : descX s = false := by unfold descX; rw [hd]
    have HV := Lib.hid hv
    rw [hd] at hD
    have HD := Lib.hid hD
    clear hD hd hv
    go_enter Tryz.func23, Tryz.ntmps23
    go_wp2_with (first
      | (go_at_call 37; refine HD.out.mono ?_; intro e w' hw; obtain ⟨rfl, hE, hK⟩ := GaveX.err hw; clear hw))
    go_ret
    rw [HV.out]
    exact ⟨rfl, HK1.out.transTo hK (by simp)⟩
  | ok j =>
    have hv : descX s = decide (j = s.size) := by unfold descX; rw [hd]
    have HV := Lib.hid hv
    rw [hd] at hD
    have HD := Lib.hid hD
    have hj := descP_ok hd
    clear hD hd hv
    obtain ⟨eb, heb, HEB⟩ : ∃ eb : Bool, ((j : Int) == (s.size : Int)) = eb ∧ Hid (decide (j = s.size) = eb) := by
      by_cases h : j = s.size
      · exact ⟨true, by rw [h]; simp, Lib.hid (by simp [h])⟩
      · exact ⟨false, by rw [beq_eq_false_iff_ne]; omega, Lib.hid (by simp [h])⟩
    go_enter Tryz.func23, Tryz.ntmps23
    go_wp2_with (first
      | (go_at_call 37; refine HD.out.mono ?_; intro e w' hw; obtain ⟨rfl, hR, hK⟩ := GaveX.ok hw; clear hw; have hc1 := hR.c1))
    go_ret
    rw [HV.out, HEB.out]
    exact ⟨rfl, HK1.out.transTo hK (by simp)⟩
end Go.Proofs.YtjmpcoedfoaebaaGreatDoor
