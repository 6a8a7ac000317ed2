/- The reference's written, at And, Or and Not; at every filter that Check takes; its Print. -/
import Derived.Test.YtjmpcoedfoaebaaGreatDoorNix
import Derived.Test.YtjmpcoedfoaebaaGreatDoorNih
open Go Go.RowKit
namespace Go.Proofs.YtjmpcoedfoaebaaGreatDoor

theorem idx_0 (V : World) : (Instr.index 9 (.string ⟨#[38, 124, 33]⟩) (.int .i8 0)).run Tryz.prog V = .ok (.int .u8 38) V := by kernel_rfl
theorem idx_1 (V : World) : (Instr.index 9 (.string ⟨#[38, 124, 33]⟩) (.int .i8 1)).run Tryz.prog V = .ok (.int .u8 124) V := by kernel_rfl
theorem idx_2 (V : World) : (Instr.index 9 (.string ⟨#[38, 124, 33]⟩) (.int .i8 2)).run Tryz.prog V = .ok (.int .u8 33) V := by kernel_rfl

set_option maxHeartbeats 4000000 in
set_option maxRecDepth 100000 in
theorem wt_kids0 (N H : Nat) (v : Value) (l : List UInt8) (it : Itm) (kids : List Flt) (a1 : Option Addr) (c1 : Nat) (a2 : Option Addr) (n2 c2 : Nat) (cs : Nat → List Value) (w : World) (hN : N ≤ w.heap.size) (hHN : H ≤ N) (hHw : H ≤ w.heap.size) (hO : OwnB w N v l)
    (M : Nat) (hM : 1048576 ≤ M) (hM2 : M ≤ 1100000) (hl : l.length + 2 ≤ M) (hk : it.kind = 0) (hkl : kids.length ≤ 9223372036854775807)
    (hkk : kids = [] ∨ ∃ kb ko, a1 = some ⟨kb, ko, none⟩ ∧ kb < H ∧ ∀ i, i < kids.length → ∀ j u, (cs i)[j]? = some u → w.cell? ⟨kb, ko + i * 9 + j, none⟩ = some u)
    (hkid : ∀ i (h : i < kids.length), FltD w H kids[i] (cs i))
    (ih : ∀ i (h : i < kids.length) (vs : List Value) (v : Value) (l : List UInt8) (w : World), N ≤ w.heap.size → FltD w H kids[i] vs → OwnB w N v l → l.length ≤ M → Calls Tryz.prog 34 #[v, .agg vs.toArray] w (WtR N v (l ++ printL kids[i]) w)) :
    Calls Tryz.prog 34 #[v, .agg #[.int .i8 it.kind, .slice a1 kids.length c1, .string it.desc, .string it.value, .string it.start, .slice a2 n2 c2, .string it.fin, .string it.rule, .bool it.dn]] w (WtR N v (l ++ 40 :: (bodyL it (printK kids) ++ [41])) w) := by
  obtain ⟨R, hR⟩ : ∃ R, l ++ 40 :: (bodyL it (printK kids) ++ [41]) = R := ⟨_, rfl⟩
  obtain ⟨L0, hL0⟩ : ∃ L0, l ++ [40] ++ [38] = L0 := ⟨_, rfl⟩
  have HR : Hid (L0 ++ printK kids ++ [41] = R) := Lib.hid (by
    rw [← hR, ← hL0]
    unfold bodyL
    rw [if_pos (by omega), hk]
    simp [List.append_assoc, manyS])
  rw [hR, hk]
  have HDC : Hid (decide ((R.length : Int) ≤ 1048576) = decide (R.length ≤ 1048576)) := Lib.hid (by rw [decide_eq_decide]; omega)
  have HL0 := Lib.hid hL0
  have hL0s : L0.length ≤ M := by
    rw [← hL0]
    simp only [List.length_append, List.length_cons, List.length_nil]
    omega
  have HVO : Hid (∀ x ∈ v.ownBlock.toList, H ≤ x) := Lib.hid (fun x hx => Nat.le_trans hHN (own_ge hO (by simpa using hx)))
  have HKK := Lib.hid (fun (W : World) (S : List Nat) (k : Keep S w W) (hS : ∀ x ∈ S, H ≤ x) (i : Nat) (hi : i < kids.length) => FltD.kidS k hHw hS hkk hkid hi)
  have HIH := Lib.hid ih
  have hix := idx_0
  have HS0 := Lib.hid (st_start hO hN #[.int .i8 0, .slice a1 kids.length c1, .string it.desc, .string it.value, .string it.start, .slice a2 n2 c2, .string it.fin, .string it.rule, .bool it.dn] 26)
  obtain ⟨W0, hW0⟩ : ∃ W0, W0 = w.alloc (.cells #[.int .i8 0, .slice a1 kids.length c1, .string it.desc, .string it.value, .string it.start, .slice a2 n2 c2, .string it.fin, .string it.rule, .bool it.dn] 26) := ⟨_, rfl⟩
  rw [← hW0] at HS0
  clear hR hL0 hk hO hkk hkid ih
  go_enter Tryz.func34, Tryz.ntmps34
  go_upto_region 1 with fail
  rw [← hW0]
  clear hW0
  go_upto_region 2 with (at_builtin; refine st_one HS0.out 40 (.int .u8 40) (.tmp 14) (.tmp 15) (by rfl) (by rfl) (by rfl) (by rfl) (by rfl) (by omega) ?_; intro v1 w1 hS; have HS1 := Lib.hid hS; clear hS)
  obtain ⟨x0, x1, x2, x3, x4, x5, x6, x7, x8, xf⟩ := nine HS1.out.box
  go_upto_region 12 with (at_builtin; refine st_one HS1.out 38 (.int .u8 38) (.tmp 38) (.tmp 42) (by rfl) (by rfl) (by rfl) (by rfl) (by rfl) (by rw [List.length_append]; show _ + 1 + 1 ≤ _; omega) ?_; intro v2 w2 hS; rw [HL0.out] at hS; have HS2 : Hid (StB N w.heap.size _ v w (L0 ++ printK (kids.take 0)) v2 w2) := Lib.hid (by rw [List.take_zero]; show StB _ _ _ _ _ (L0 ++ []) _ _; rw [List.append_nil]; exact hS); clear hS)
  have HB0 : Hid ((L0 ++ printK (kids.take 0)).length ≤ M) := Lib.hid (by rw [List.take_zero]; show (L0 ++ []).length ≤ _; rw [List.append_nil]; omega)
  clear x0 x1 x2 x3 x4 x5 x6 x7 x8 xf hix HS0 HS1
  go_wp2_with fail
  go_loopg [0, 6] (kids.length) (fun g u i wr => ∃ k : Nat, k ≤ kids.length ∧ kids.length ≤ g + k ∧ i = .int .i64 k ∧ Hid ((L0 ++ printK (kids.take k)).length ≤ M) ∧ Hid (StB N w.heap.size (.cells #[.int .i8 0, .slice a1 kids.length c1, .string it.desc, .string it.value, .string it.start, .slice a2 n2 c2, .string it.fin, .string it.rule, .bool it.dn] 26 (0, 0)) v w (L0 ++ printK (kids.take k)) u wr))
  case atStart => exact ⟨0, Nat.zero_le _, by omega, rfl, HB0, HS2⟩
  case round =>
    clear HB0 HS2
    obtain ⟨k, hk, hg, rfl, HB, HS⟩ := hrel
    obtain ⟨Lk, hLk⟩ : ∃ Lk, L0 ++ printK (kids.take k) = Lk := ⟨_, rfl⟩
    rw [hLk] at HB HS
    have hLb := HB.out
    have HLK := Lib.hid hLk
    clear hLk
    have x1 := cell_of HS.out.box 1
    rcases (show k < kids.length ∨ kids.length ≤ k by omega) with hlt | hge
    · have hki : (k : Int) < (kids.length : Int) := by omega
      obtain ⟨kb, ko, p1, q1, p2, q2, ha1, hF1, hc1⟩ := HKK.out wr _ HS.out.lies.1 HVO.out k hlt
      subst ha1
      have hIH := HIH.out k hlt
      obtain ⟨kid, hkid⟩ : ∃ kid, kids[k] = kid := ⟨_, rfl⟩
      have HPK : Hid (Lk ++ printL kid = L0 ++ printK (kids.take (k + 1))) := Lib.hid (by rw [← hkid, printK_take kids k hlt, ← HLK.out, List.append_assoc])
      rw [hkid] at hIH hF1 hc1
      obtain ⟨f0, f1, f2, f3, f4, f5, f6, f7, f8⟩ := nine_row hc1
      obtain ⟨X, hX⟩ : ∃ X, Lk ++ printL kid = X := ⟨_, rfl⟩
      have hC := hIH _ u0 Lk wr (by have := HS.out.lt; have := HS.out.low; omega) hF1 HS.out.own hLb
      rw [hX] at hC HPK
      have HXR : Hid (X.length ≤ R.length) := Lib.hid (by
        rw [HPK.out, ← HR.out, List.length_append, List.length_append, List.length_append]
        have := printK_le kids (k + 1)
        omega)
      unfold WtR nineOf at hC
      clear hX hIH hF1 hc1 hkid
      cases hd : decide (X.length ≤ 1048576)
      · rw [hd] at hC
        have HC := Lib.hid hC
        have HRL : Hid (decide (R.length ≤ 1048576) = false ∧ ¬ R.length ≤ 1048576) := Lib.hid (by have := of_decide_eq_false hd; have := HXR.out; exact ⟨by rw [decide_eq_false_iff_not]; omega, by omega⟩)
        clear hC hd
        go_wp2_with (go_at_call 34; refine HC.out.mono ?_; rintro e w6 ⟨v6, rfl, hL6, _⟩; have HL6 := Lib.hid hL6; clear hL6)
        go_ret2
        exact ⟨_, by rw [HRL.out.1]; rfl, HS.out.lies.trans HL6.out, fun h => absurd h HRL.out.2⟩
      · rw [hd] at hC
        have HC := Lib.hid hC
        have HXL : Hid (X.length ≤ 1048576) := Lib.hid (of_decide_eq_true hd)
        clear hC hd
        go_wp2_with (go_at_call 34; refine HC.out.mono ?_; rintro e w6 ⟨v6, rfl, hL6, hO6⟩; have HS6 := Lib.hid (HS.out.next hL6 (hO6 HXL.out)); clear hL6 hO6)
        go_roundg (kids.length - (k + 1))
        case measure => omega
        case rel => exact ⟨k + 1, by omega, by omega, by go_num, Lib.hid (by rw [← HPK.out]; have := HXL.out; omega), Lib.hid (by rw [← HPK.out]; exact HS6.out)⟩
    · have hki : ¬ (k : Int) < (kids.length : Int) := by omega
      have HRE : Hid (Lk ++ [41] = R) := Lib.hid (by
        rw [← HR.out, ← HLK.out, List.take_of_length_le hge])
      go_wp2_with (at_builtin; refine st_one HS.out 41 (.int .u8 41) (.tmp 112) (.tmp 113) (by rfl) (by rfl) (by rfl) (by rfl) (by rfl) (by omega) ?_; intro v5 w5 hS; rw [HRE.out] at hS; obtain ⟨ad5, cap5, hv5⟩ := hS.own.form; subst hv5; have HS5 := Lib.hid hS; clear hS)
      go_ret2
      exact ⟨_, by rw [← HDC.out]; rfl, HS5.out.lies, fun _ => HS5.out.own⟩

set_option maxHeartbeats 4000000 in
set_option maxRecDepth 100000 in
theorem wt_kids1 (N H : Nat) (v : Value) (l : List UInt8) (it : Itm) (kids : List Flt) (a1 : Option Addr) (c1 : Nat) (a2 : Option Addr) (n2 c2 : Nat) (cs : Nat → List Value) (w : World) (hN : N ≤ w.heap.size) (hHN : H ≤ N) (hHw : H ≤ w.heap.size) (hO : OwnB w N v l)
    (M : Nat) (hM : 1048576 ≤ M) (hM2 : M ≤ 1100000) (hl : l.length + 2 ≤ M) (hk : it.kind = 1) (hkl : kids.length ≤ 9223372036854775807)
    (hkk : kids = [] ∨ ∃ kb ko, a1 = some ⟨kb, ko, none⟩ ∧ kb < H ∧ ∀ i, i < kids.length → ∀ j u, (cs i)[j]? = some u → w.cell? ⟨kb, ko + i * 9 + j, none⟩ = some u)
    (hkid : ∀ i (h : i < kids.length), FltD w H kids[i] (cs i))
    (ih : ∀ i (h : i < kids.length) (vs : List Value) (v : Value) (l : List UInt8) (w : World), N ≤ w.heap.size → FltD w H kids[i] vs → OwnB w N v l → l.length ≤ M → Calls Tryz.prog 34 #[v, .agg vs.toArray] w (WtR N v (l ++ printL kids[i]) w)) :
    Calls Tryz.prog 34 #[v, .agg #[.int .i8 it.kind, .slice a1 kids.length c1, .string it.desc, .string it.value, .string it.start, .slice a2 n2 c2, .string it.fin, .string it.rule, .bool it.dn]] w (WtR N v (l ++ 40 :: (bodyL it (printK kids) ++ [41])) w) := by
  obtain ⟨R, hR⟩ : ∃ R, l ++ 40 :: (bodyL it (printK kids) ++ [41]) = R := ⟨_, rfl⟩
  obtain ⟨L0, hL0⟩ : ∃ L0, l ++ [40] ++ [124] = L0 := ⟨_, rfl⟩
  have HR : Hid (L0 ++ printK kids ++ [41] = R) := Lib.hid (by
    rw [← hR, ← hL0]
    unfold bodyL
    rw [if_pos (by omega), hk]
    simp [List.append_assoc, manyS])
  rw [hR, hk]
  have HDC : Hid (decide ((R.length : Int) ≤ 1048576) = decide (R.length ≤ 1048576)) := Lib.hid (by rw [decide_eq_decide]; omega)
  have HL0 := Lib.hid hL0
  have hL0s : L0.length ≤ M := by
    rw [← hL0]
    simp only [List.length_append, List.length_cons, List.length_nil]
    omega
  have HVO : Hid (∀ x ∈ v.ownBlock.toList, H ≤ x) := Lib.hid (fun x hx => Nat.le_trans hHN (own_ge hO (by simpa using hx)))
  have HKK := Lib.hid (fun (W : World) (S : List Nat) (k : Keep S w W) (hS : ∀ x ∈ S, H ≤ x) (i : Nat) (hi : i < kids.length) => FltD.kidS k hHw hS hkk hkid hi)
  have HIH := Lib.hid ih
  have hix := idx_1
  have HS0 := Lib.hid (st_start hO hN #[.int .i8 1, .slice a1 kids.length c1, .string it.desc, .string it.value, .string it.start, .slice a2 n2 c2, .string it.fin, .string it.rule, .bool it.dn] 26)
  obtain ⟨W0, hW0⟩ : ∃ W0, W0 = w.alloc (.cells #[.int .i8 1, .slice a1 kids.length c1, .string it.desc, .string it.value, .string it.start, .slice a2 n2 c2, .string it.fin, .string it.rule, .bool it.dn] 26) := ⟨_, rfl⟩
  rw [← hW0] at HS0
  clear hR hL0 hk hO hkk hkid ih
  go_enter Tryz.func34, Tryz.ntmps34
  go_upto_region 1 with fail
  rw [← hW0]
  clear hW0
  go_upto_region 2 with (at_builtin; refine st_one HS0.out 40 (.int .u8 40) (.tmp 14) (.tmp 15) (by rfl) (by rfl) (by rfl) (by rfl) (by rfl) (by omega) ?_; intro v1 w1 hS; have HS1 := Lib.hid hS; clear hS)
  obtain ⟨x0, x1, x2, x3, x4, x5, x6, x7, x8, xf⟩ := nine HS1.out.box
  go_upto_region 12 with (at_builtin; refine st_one HS1.out 124 (.int .u8 124) (.tmp 38) (.tmp 42) (by rfl) (by rfl) (by rfl) (by rfl) (by rfl) (by rw [List.length_append]; show _ + 1 + 1 ≤ _; omega) ?_; intro v2 w2 hS; rw [HL0.out] at hS; have HS2 : Hid (StB N w.heap.size _ v w (L0 ++ printK (kids.take 0)) v2 w2) := Lib.hid (by rw [List.take_zero]; show StB _ _ _ _ _ (L0 ++ []) _ _; rw [List.append_nil]; exact hS); clear hS)
  have HB0 : Hid ((L0 ++ printK (kids.take 0)).length ≤ M) := Lib.hid (by rw [List.take_zero]; show (L0 ++ []).length ≤ _; rw [List.append_nil]; omega)
  clear x0 x1 x2 x3 x4 x5 x6 x7 x8 xf hix HS0 HS1
  go_wp2_with fail
  go_loopg [0, 6] (kids.length) (fun g u i wr => ∃ k : Nat, k ≤ kids.length ∧ kids.length ≤ g + k ∧ i = .int .i64 k ∧ Hid ((L0 ++ printK (kids.take k)).length ≤ M) ∧ Hid (StB N w.heap.size (.cells #[.int .i8 1, .slice a1 kids.length c1, .string it.desc, .string it.value, .string it.start, .slice a2 n2 c2, .string it.fin, .string it.rule, .bool it.dn] 26 (0, 0)) v w (L0 ++ printK (kids.take k)) u wr))
  case atStart => exact ⟨0, Nat.zero_le _, by omega, rfl, HB0, HS2⟩
  case round =>
    clear HB0 HS2
    obtain ⟨k, hk, hg, rfl, HB, HS⟩ := hrel
    obtain ⟨Lk, hLk⟩ : ∃ Lk, L0 ++ printK (kids.take k) = Lk := ⟨_, rfl⟩
    rw [hLk] at HB HS
    have hLb := HB.out
    have HLK := Lib.hid hLk
    clear hLk
    have x1 := cell_of HS.out.box 1
    rcases (show k < kids.length ∨ kids.length ≤ k by omega) with hlt | hge
    · have hki : (k : Int) < (kids.length : Int) := by omega
      obtain ⟨kb, ko, p1, q1, p2, q2, ha1, hF1, hc1⟩ := HKK.out wr _ HS.out.lies.1 HVO.out k hlt
      subst ha1
      have hIH := HIH.out k hlt
      obtain ⟨kid, hkid⟩ : ∃ kid, kids[k] = kid := ⟨_, rfl⟩
      have HPK : Hid (Lk ++ printL kid = L0 ++ printK (kids.take (k + 1))) := Lib.hid (by rw [← hkid, printK_take kids k hlt, ← HLK.out, List.append_assoc])
      rw [hkid] at hIH hF1 hc1
      obtain ⟨f0, f1, f2, f3, f4, f5, f6, f7, f8⟩ := nine_row hc1
      obtain ⟨X, hX⟩ : ∃ X, Lk ++ printL kid = X := ⟨_, rfl⟩
      have hC := hIH _ u0 Lk wr (by have := HS.out.lt; have := HS.out.low; omega) hF1 HS.out.own hLb
      rw [hX] at hC HPK
      have HXR : Hid (X.length ≤ R.length) := Lib.hid (by
        rw [HPK.out, ← HR.out, List.length_append, List.length_append, List.length_append]
        have := printK_le kids (k + 1)
        omega)
      unfold WtR nineOf at hC
      clear hX hIH hF1 hc1 hkid
      cases hd : decide (X.length ≤ 1048576)
      · rw [hd] at hC
        have HC := Lib.hid hC
        have HRL : Hid (decide (R.length ≤ 1048576) = false ∧ ¬ R.length ≤ 1048576) := Lib.hid (by have := of_decide_eq_false hd; have := HXR.out; exact ⟨by rw [decide_eq_false_iff_not]; omega, by omega⟩)
        clear hC hd
        go_wp2_with (go_at_call 34; refine HC.out.mono ?_; rintro e w6 ⟨v6, rfl, hL6, _⟩; have HL6 := Lib.hid hL6; clear hL6)
        go_ret2
        exact ⟨_, by rw [HRL.out.1]; rfl, HS.out.lies.trans HL6.out, fun h => absurd h HRL.out.2⟩
      · rw [hd] at hC
        have HC := Lib.hid hC
        have HXL : Hid (X.length ≤ 1048576) := Lib.hid (of_decide_eq_true hd)
        clear hC hd
        go_wp2_with (go_at_call 34; refine HC.out.mono ?_; rintro e w6 ⟨v6, rfl, hL6, hO6⟩; have HS6 := Lib.hid (HS.out.next hL6 (hO6 HXL.out)); clear hL6 hO6)
        go_roundg (kids.length - (k + 1))
        case measure => omega
        case rel => exact ⟨k + 1, by omega, by omega, by go_num, Lib.hid (by rw [← HPK.out]; have := HXL.out; omega), Lib.hid (by rw [← HPK.out]; exact HS6.out)⟩
    · have hki : ¬ (k : Int) < (kids.length : Int) := by omega
      have HRE : Hid (Lk ++ [41] = R) := Lib.hid (by
        rw [← HR.out, ← HLK.out, List.take_of_length_le hge])
      go_wp2_with (at_builtin; refine st_one HS.out 41 (.int .u8 41) (.tmp 112) (.tmp 113) (by rfl) (by rfl) (by rfl) (by rfl) (by rfl) (by omega) ?_; intro v5 w5 hS; rw [HRE.out] at hS; obtain ⟨ad5, cap5, hv5⟩ := hS.own.form; subst hv5; have HS5 := Lib.hid hS; clear hS)
      go_ret2
      exact ⟨_, by rw [← HDC.out]; rfl, HS5.out.lies, fun _ => HS5.out.own⟩

set_option maxHeartbeats 4000000 in
set_option maxRecDepth 100000 in
theorem wt_kids2 (N H : Nat) (v : Value) (l : List UInt8) (it : Itm) (kids : List Flt) (a1 : Option Addr) (c1 : Nat) (a2 : Option Addr) (n2 c2 : Nat) (cs : Nat → List Value) (w : World) (hN : N ≤ w.heap.size) (hHN : H ≤ N) (hHw : H ≤ w.heap.size) (hO : OwnB w N v l)
    (M : Nat) (hM : 1048576 ≤ M) (hM2 : M ≤ 1100000) (hl : l.length + 2 ≤ M) (hk : it.kind = 2) (hkl : kids.length ≤ 9223372036854775807)
    (hkk : kids = [] ∨ ∃ kb ko, a1 = some ⟨kb, ko, none⟩ ∧ kb < H ∧ ∀ i, i < kids.length → ∀ j u, (cs i)[j]? = some u → w.cell? ⟨kb, ko + i * 9 + j, none⟩ = some u)
    (hkid : ∀ i (h : i < kids.length), FltD w H kids[i] (cs i))
    (ih : ∀ i (h : i < kids.length) (vs : List Value) (v : Value) (l : List UInt8) (w : World), N ≤ w.heap.size → FltD w H kids[i] vs → OwnB w N v l → l.length ≤ M → Calls Tryz.prog 34 #[v, .agg vs.toArray] w (WtR N v (l ++ printL kids[i]) w)) :
    Calls Tryz.prog 34 #[v, .agg #[.int .i8 it.kind, .slice a1 kids.length c1, .string it.desc, .string it.value, .string it.start, .slice a2 n2 c2, .string it.fin, .string it.rule, .bool it.dn]] w (WtR N v (l ++ 40 :: (bodyL it (printK kids) ++ [41])) w) := by
  obtain ⟨R, hR⟩ : ∃ R, l ++ 40 :: (bodyL it (printK kids) ++ [41]) = R := ⟨_, rfl⟩
  obtain ⟨L0, hL0⟩ : ∃ L0, l ++ [40] ++ [33] = L0 := ⟨_, rfl⟩
  have HR : Hid (L0 ++ printK kids ++ [41] = R) := Lib.hid (by
    rw [← hR, ← hL0]
    unfold bodyL
    rw [if_pos (by omega), hk]
    simp [List.append_assoc, manyS])
  rw [hR, hk]
  have HDC : Hid (decide ((R.length : Int) ≤ 1048576) = decide (R.length ≤ 1048576)) := Lib.hid (by rw [decide_eq_decide]; omega)
  have HL0 := Lib.hid hL0
  have hL0s : L0.length ≤ M := by
    rw [← hL0]
    simp only [List.length_append, List.length_cons, List.length_nil]
    omega
  have HVO : Hid (∀ x ∈ v.ownBlock.toList, H ≤ x) := Lib.hid (fun x hx => Nat.le_trans hHN (own_ge hO (by simpa using hx)))
  have HKK := Lib.hid (fun (W : World) (S : List Nat) (k : Keep S w W) (hS : ∀ x ∈ S, H ≤ x) (i : Nat) (hi : i < kids.length) => FltD.kidS k hHw hS hkk hkid hi)
  have HIH := Lib.hid ih
  have hix := idx_2
  have HS0 := Lib.hid (st_start hO hN #[.int .i8 2, .slice a1 kids.length c1, .string it.desc, .string it.value, .string it.start, .slice a2 n2 c2, .string it.fin, .string it.rule, .bool it.dn] 26)
  obtain ⟨W0, hW0⟩ : ∃ W0, W0 = w.alloc (.cells #[.int .i8 2, .slice a1 kids.length c1, .string it.desc, .string it.value, .string it.start, .slice a2 n2 c2, .string it.fin, .string it.rule, .bool it.dn] 26) := ⟨_, rfl⟩
  rw [← hW0] at HS0
  clear hR hL0 hk hO hkk hkid ih
  go_enter Tryz.func34, Tryz.ntmps34
  go_upto_region 1 with fail
  rw [← hW0]
  clear hW0
  go_upto_region 2 with (at_builtin; refine st_one HS0.out 40 (.int .u8 40) (.tmp 14) (.tmp 15) (by rfl) (by rfl) (by rfl) (by rfl) (by rfl) (by omega) ?_; intro v1 w1 hS; have HS1 := Lib.hid hS; clear hS)
  obtain ⟨x0, x1, x2, x3, x4, x5, x6, x7, x8, xf⟩ := nine HS1.out.box
  go_upto_region 12 with (at_builtin; refine st_one HS1.out 33 (.int .u8 33) (.tmp 38) (.tmp 42) (by rfl) (by rfl) (by rfl) (by rfl) (by rfl) (by rw [List.length_append]; show _ + 1 + 1 ≤ _; omega) ?_; intro v2 w2 hS; rw [HL0.out] at hS; have HS2 : Hid (StB N w.heap.size _ v w (L0 ++ printK (kids.take 0)) v2 w2) := Lib.hid (by rw [List.take_zero]; show StB _ _ _ _ _ (L0 ++ []) _ _; rw [List.append_nil]; exact hS); clear hS)
  have HB0 : Hid ((L0 ++ printK (kids.take 0)).length ≤ M) := Lib.hid (by rw [List.take_zero]; show (L0 ++ []).length ≤ _; rw [List.append_nil]; omega)
  clear x0 x1 x2 x3 x4 x5 x6 x7 x8 xf hix HS0 HS1
  go_wp2_with fail
  go_loopg [0, 6] (kids.length) (fun g u i wr => ∃ k : Nat, k ≤ kids.length ∧ kids.length ≤ g + k ∧ i = .int .i64 k ∧ Hid ((L0 ++ printK (kids.take k)).length ≤ M) ∧ Hid (StB N w.heap.size (.cells #[.int .i8 2, .slice a1 kids.length c1, .string it.desc, .string it.value, .string it.start, .slice a2 n2 c2, .string it.fin, .string it.rule, .bool it.dn] 26 (0, 0)) v w (L0 ++ printK (kids.take k)) u wr))
  case atStart => exact ⟨0, Nat.zero_le _, by omega, rfl, HB0, HS2⟩
  case round =>
    clear HB0 HS2
    obtain ⟨k, hk, hg, rfl, HB, HS⟩ := hrel
    obtain ⟨Lk, hLk⟩ : ∃ Lk, L0 ++ printK (kids.take k) = Lk := ⟨_, rfl⟩
    rw [hLk] at HB HS
    have hLb := HB.out
    have HLK := Lib.hid hLk
    clear hLk
    have x1 := cell_of HS.out.box 1
    rcases (show k < kids.length ∨ kids.length ≤ k by omega) with hlt | hge
    · have hki : (k : Int) < (kids.length : Int) := by omega
      obtain ⟨kb, ko, p1, q1, p2, q2, ha1, hF1, hc1⟩ := HKK.out wr _ HS.out.lies.1 HVO.out k hlt
      subst ha1
      have hIH := HIH.out k hlt
      obtain ⟨kid, hkid⟩ : ∃ kid, kids[k] = kid := ⟨_, rfl⟩
      have HPK : Hid (Lk ++ printL kid = L0 ++ printK (kids.take (k + 1))) := Lib.hid (by rw [← hkid, printK_take kids k hlt, ← HLK.out, List.append_assoc])
      rw [hkid] at hIH hF1 hc1
      obtain ⟨f0, f1, f2, f3, f4, f5, f6, f7, f8⟩ := nine_row hc1
      obtain ⟨X, hX⟩ : ∃ X, Lk ++ printL kid = X := ⟨_, rfl⟩
      have hC := hIH _ u0 Lk wr (by have := HS.out.lt; have := HS.out.low; omega) hF1 HS.out.own hLb
      rw [hX] at hC HPK
      have HXR : Hid (X.length ≤ R.length) := Lib.hid (by
        rw [HPK.out, ← HR.out, List.length_append, List.length_append, List.length_append]
        have := printK_le kids (k + 1)
        omega)
      unfold WtR nineOf at hC
      clear hX hIH hF1 hc1 hkid
      cases hd : decide (X.length ≤ 1048576)
      · rw [hd] at hC
        have HC := Lib.hid hC
        have HRL : Hid (decide (R.length ≤ 1048576) = false ∧ ¬ R.length ≤ 1048576) := Lib.hid (by have := of_decide_eq_false hd; have := HXR.out; exact ⟨by rw [decide_eq_false_iff_not]; omega, by omega⟩)
        clear hC hd
        go_wp2_with (go_at_call 34; refine HC.out.mono ?_; rintro e w6 ⟨v6, rfl, hL6, _⟩; have HL6 := Lib.hid hL6; clear hL6)
        go_ret2
        exact ⟨_, by rw [HRL.out.1]; rfl, HS.out.lies.trans HL6.out, fun h => absurd h HRL.out.2⟩
      · rw [hd] at hC
        have HC := Lib.hid hC
        have HXL : Hid (X.length ≤ 1048576) := Lib.hid (of_decide_eq_true hd)
        clear hC hd
        go_wp2_with (go_at_call 34; refine HC.out.mono ?_; rintro e w6 ⟨v6, rfl, hL6, hO6⟩; have HS6 := Lib.hid (HS.out.next hL6 (hO6 HXL.out)); clear hL6 hO6)
        go_roundg (kids.length - (k + 1))
        case measure => omega
        case rel => exact ⟨k + 1, by omega, by omega, by go_num, Lib.hid (by rw [← HPK.out]; have := HXL.out; omega), Lib.hid (by rw [← HPK.out]; exact HS6.out)⟩
    · have hki : ¬ (k : Int) < (kids.length : Int) := by omega
      have HRE : Hid (Lk ++ [41] = R) := Lib.hid (by
        rw [← HR.out, ← HLK.out, List.take_of_length_le hge])
      go_wp2_with (at_builtin; refine st_one HS.out 41 (.int .u8 41) (.tmp 112) (.tmp 113) (by rfl) (by rfl) (by rfl) (by rfl) (by rfl) (by omega) ?_; intro v5 w5 hS; rw [HRE.out] at hS; obtain ⟨ad5, cap5, hv5⟩ := hS.own.form; subst hv5; have HS5 := Lib.hid hS; clear hS)
      go_ret2
      exact ⟨_, by rw [← HDC.out]; rfl, HS5.out.lies, fun _ => HS5.out.own⟩

/-- A comparison has neither a rule nor the dn mark. -/
theorem right_bare {it : Itm} {n : Nat} (h : rightB it n = true) (h3 : 2 < it.kind) (h4 : it.kind ≠ 4) (h9' : it.kind ≤ 9) (h9 : it.kind ≠ 9) : it.dn = false ∧ someB it.rule = false := by
  have hr : ruledB it = false := by
    unfold rightB at h
    rw [if_neg (by omega), if_neg h9, if_neg h4] at h
    split at h
    · simp only [Bool.and_eq_true, Bool.not_eq_true'] at h; simp_all
    · split at h
      · simp only [Bool.and_eq_true, Bool.not_eq_true'] at h; simp_all
      · cases h
  unfold ruledB at hr
  simp only [Bool.or_eq_false_iff] at hr
  exact ⟨hr.2, hr.1⟩

theorem wt_all (N H : Nat) (hHN : H ≤ N) : ∀ (rem : Nat) (g : Flt) (n d : Nat) (vs : List Value) (v : Value) (l : List UInt8) (w : World), rem ≤ 64 → (checkP rem g n d).1 = 0 → N ≤ w.heap.size → FltD w H g vs → OwnB w N v l → l.length + 2 * rem ≤ 1048704 →
    Calls Tryz.prog 34 #[v, .agg vs.toArray] w (WtR N v (l ++ printL g) w) := by
  intro rem
  induction rem with
  | zero => intro g n d vs v l w _ h; exact absurd (show (91 : Int) = 0 from h) (by decide)
  | succ rem ih =>
    intro g n d vs v l w hrem h hN hF hO hl
    obtain ⟨h1, h2, h3, h4⟩ := checkP_zero h
    cases hF with
    | mk it kids a1 c1 a2 c2 cs hm hml hkl hk hkid =>
      obtain ⟨⟨kn, hkn, hk9⟩, hkk⟩ := right_kind h2
      have hkn' : it.kind = kn := hkn
      have h1' : longB it = false := h1
      by_cases hk2 : kn ≤ 2
      · rw [printL]
        rw [h4] at h
        have hih : ∀ i (h : i < kids.length) (vs : List Value) (v : Value) (l : List UInt8) (w : World), N ≤ w.heap.size → FltD w H kids[i] vs → OwnB w N v l → l.length ≤ 1048704 - 2 * rem → Calls Tryz.prog 34 #[v, .agg vs.toArray] w (WtR N v (l ++ printL kids[i]) w) := by
          intro i hi vs v l w e1 e2 e3 e4
          obtain ⟨n', d', hz⟩ := checkL_zero kids _ _ h i hi
          exact ih kids[i] n' d' vs v l w (by omega) hz e1 e2 e3 (by omega)
        rcases (show kn = 0 ∨ kn = 1 ∨ kn = 2 by omega) with rfl | rfl | rfl
        · exact wt_kids0 N H v l it kids a1 c1 a2 _ c2 cs w hN hHN (by omega) hO (1048704 - 2 * rem) (by omega) (by omega) (by omega) hkn' hkl hk hkid hih
        · exact wt_kids1 N H v l it kids a1 c1 a2 _ c2 cs w hN hHN (by omega) hO (1048704 - 2 * rem) (by omega) (by omega) (by omega) hkn' hkl hk hkid hih
        · exact wt_kids2 N H v l it kids a1 c1 a2 _ c2 cs w hN hHN (by omega) hO (1048704 - 2 * rem) (by omega) (by omega) (by omega) hkn' hkl hk hkid hih
      · have hk0 : kids = [] := by
          rcases hkk with h | h | h | h
          · have : it.kind = 0 := h; omega
          · have : it.kind = 1 := h; omega
          · have : it.kind = 2 := h; omega
          · exact List.length_eq_zero_iff.1 h
        subst hk0
        rw [printL, printK]
        by_cases h4' : kn = 4
        · subst h4'
          exact wt_part N H v l it a1 _ c1 a2 c2 w hN hHN hO (by omega) hkn' h1' hm hml
        · exact wt_item N v l it a1 _ c1 a2 _ c2 w hN hO (by omega) (by omega) (fun h9 => right_bare (show rightB it 0 = true from h2) (by omega) (by omega) (by omega) h9) h1'

set_option maxHeartbeats 2000000 in
set_option maxRecDepth 100000 in
/-- The reference's Print, at every filter. -/
theorem yprint_any (H : Nat) (g : Flt) (vs : List Value) (w : World) (hF : FltD w H g vs) (hH : H ≤ w.heap.size) : Calls Tryz.prog 18 #[.agg vs.toArray] w (PriR w (printR g)) := by
  obtain ⟨a1, c1, a2, c2, hvs⟩ := hF.nine
  obtain ⟨R, hR⟩ : ∃ R, printR g = R := ⟨_, rfl⟩
  rw [hR]
  subst hvs
  have hW0 := fun W (k : Keep [] w W) => ycheck_any H g a1 c1 a2 c2 W (Nat.le_trans hH k.size) (hF.keep k hH (by simp))
  have hW1 := fun (hz : (checkP 64 g 0 0).1 = 0) W (k : Keep [] w W) => wt_all W.heap.size H (Nat.le_trans hH k.size) 64 g 0 0 _ (.slice none 0 0) [] W (Nat.le_refl _) hz (Nat.le_refl _) (hF.keep k hH (by simp)) (OwnB.nil _ _) (by simp)
  have hcr : (checkR g).1 = (checkP 64 g 0 0).1 := by unfold checkR; split <;> rfl
  obtain ⟨r, hr⟩ : ∃ r, checkR g = r := ⟨_, rfl⟩
  obtain ⟨rc, rn, rd⟩ := r
  rw [hr] at hcr
  have hcr' : (checkP 64 g 0 0).1 = rc := hcr.symm
  rw [hcr'] at hW1
  have HR : Hid (R = if rc ≠ 0 then ((⟨#[]⟩ : ByteArray), rc) else if (printL g).length ≤ 1048576 then (⟨(printL g).toArray⟩, 0) else (⟨#[]⟩, 3)) := Lib.hid (by rw [← hR, printR, hr])
  rw [hr] at hW0
  obtain ⟨T, hT⟩ : ∃ T, printL g = T := ⟨_, rfl⟩
  rw [hT] at HR
  simp only [List.nil_append] at hW1
  rw [hT] at hW1
  have HW0 := Lib.hid hW0
  have HW1 := Lib.hid hW1
  clear hR hW0 hW1 hcr hcr' hr hT hF
  unfold nineOf at HW0 HW1 ⊢
  obtain ⟨W, hW⟩ : ∃ W, W = w.alloc (.cells #[.int .i8 g.it.kind, .slice a1 g.kids.length c1, .string g.it.desc, .string g.it.value, .string g.it.start, .slice a2 g.it.mids.length c2, .string g.it.fin, .string g.it.rule, .bool g.it.dn] 26) := ⟨_, rfl⟩
  have HB0 : Hid (W.heap[w.heap.size]? = some (.cells #[.int .i8 g.it.kind, .slice a1 g.kids.length c1, .string g.it.desc, .string g.it.value, .string g.it.start, .slice a2 g.it.mids.length c2, .string g.it.fin, .string g.it.rule, .bool g.it.dn] 26 (0, 0))) := Lib.hid (by rw [hW]; exact alloc_at _ _)
  have HK : Hid (Keep [] w W) := Lib.hid (by rw [hW]; exact (Keep.refl [] w).alloc _)
  have HW := Lib.hid hW
  clear hW
  go_enter Tryz.func18, Tryz.ntmps18
  go_upto_region 1 with fail
  rw [← HW.out]
  obtain ⟨x0, x1, x2, x3, x4, x5, x6, x7, x8, xf⟩ := nine HB0.out
  go_upto_region 2 with (go_at_call 33; refine (HW0.out _ HK.out).mono ?_; rintro e w5 ⟨rfl, hK⟩; obtain ⟨y0, y1, y2, y3, y4, y5, y6, y7, y8, yf⟩ := nine (hK.heap HB0.out (by simp)); have HK5 := Lib.hid (HK.out.trans hK); clear hK)
  clear x0 x1 x2 x3 x4 x5 x6 x7 x8 xf
  cases hz : decide (rc = 0) with
  | false =>
    have hzb : (rc != 0) = true := by rw [bne_iff_ne]; exact of_decide_eq_false hz
    have HX : Hid (R = (⟨#[]⟩, rc)) := Lib.hid (by rw [HR.out, if_pos (of_decide_eq_false hz)])
    clear hz
    go_wp2_with fail
    go_ret2
    exact ⟨by rw [HX.out]; rfl, HK5.out⟩
  | true =>
    have hzb : (rc != 0) = false := by rw [of_decide_eq_true hz]; rfl
    have HC := Lib.hid (HW1.out (of_decide_eq_true hz))
    have HX : Hid (R = if T.length ≤ 1048576 then (⟨T.toArray⟩, 0) else (⟨#[]⟩, 3)) := Lib.hid (by rw [HR.out, if_neg (fun h => h (of_decide_eq_true hz))])
    clear hz HW1 HW0 HR
    have hWt := HC.out _ HK5.out
    unfold WtR at hWt
    cases hd : decide (T.length ≤ 1048576)
    · rw [hd] at hWt
      have HWT := Lib.hid hWt
      have HX2 : Hid (R = (⟨#[]⟩, 3)) := Lib.hid (by rw [HX.out, if_neg (of_decide_eq_false hd)])
      clear hd hWt
      go_wp2_with (go_at_call 34; refine HWT.out.mono ?_; rintro e w6 ⟨v6, rfl, hL6, _⟩; have HK6 := Lib.hid hL6.1; clear hL6)
      go_ret2
      exact ⟨by rw [HX2.out]; rfl, HK5.out.trans HK6.out⟩
    · rw [hd] at hWt
      have HWT := Lib.hid hWt
      have HX2 : Hid (R = (⟨T.toArray⟩, 0)) := Lib.hid (by rw [HX.out, if_pos (of_decide_eq_true hd)])
      have HD := Lib.hid (of_decide_eq_true hd)
      clear hd hWt
      go_wp2_with (go_at_call 34; refine HWT.out.mono ?_; rintro e w6 ⟨v6, rfl, hL6, hO6⟩; have hcv := conv_owns T (hO6 HD.out); have HK6 := Lib.hid hL6.1; clear hL6 hO6)
      go_ret2
      exact ⟨by rw [HX2.out]; rfl, HK5.out.trans HK6.out⟩
end Go.Proofs.YtjmpcoedfoaebaaGreatDoor
