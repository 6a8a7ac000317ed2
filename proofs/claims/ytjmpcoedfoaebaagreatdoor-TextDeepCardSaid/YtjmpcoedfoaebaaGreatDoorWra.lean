/- The program's writer of filters: a part with pieces. -/
import Derived.Test.YtjmpcoedfoaebaaGreatDoorPri
import Derived.Test.YtjmpcoedfoaebaaGreatDoorSam
open Go Go.RowKit
namespace Go.Proofs.YtjmpcoedfoaebaaGreatDoor

theorem WKeep.toKeep {xb N : Nat} {v v' : Value} {w w' : World} (h : WKeep xb v v' w w') (hN : xb < N) (hvo : ∀ k, v.ownBlock = some k → N ≤ k) : ∃ S, Keep S w w' ∧ ∀ x ∈ S, xb ≤ x := by
  obtain ⟨S, h1, h2⟩ : ∃ S : List Nat, (∀ k, v.ownBlock = some k → k ∈ S) ∧ ∀ k ∈ S, v.ownBlock = some k := by
    cases hk : v.ownBlock with
    | none => exact ⟨[], (fun k h => by cases h), (fun k h => by cases h)⟩
    | some k => exact ⟨[k], (fun x h => by cases h; simp), (fun x h => by simp at h; rw [h])⟩
  refine ⟨xb :: S, ⟨h.os, h.tape, h.output, h.size, fun k hk hn => h.block k hk (fun e => hn (by simp [e])) fun e => hn (by simp [h1 k e])⟩, fun x hx => ?_⟩
  rcases List.mem_cons.1 hx with rfl | hx
  · exact Nat.le_refl _
  · have := hvo x (h2 x hx); omega
theorem StW.toKeep {w wr : World} {N xb b0 : Nat} {c : Obj} {v : Value} {l : List UInt8} (h : StW w N xb b0 c v l wr) (hN : xb < N) (hvo : ∀ k, v.ownBlock = some k → N ≤ k) : ∃ S, Keep S w wr ∧ ∀ x ∈ S, xb ≤ x := by
  obtain ⟨v', _, h2, _⟩ := h
  exact h2.toKeep hN hvo
theorem StW.txt {w wr : World} {N xb b0 H : Nat} {c : Obj} {v : Value} {l : List UInt8} {a : Option Addr} {ms : List ByteArray} (h : StW w N xb b0 c v l wr) (hN : xb < N) (hvo : ∀ k, v.ownBlock = some k → N ≤ k) (hT : Txt w H a ms) (hH : H ≤ xb) (hxl : xb < w.heap.size) : Txt wr H a ms := by
  obtain ⟨S, h1, h2⟩ := h.toKeep hN hvo
  exact hT.keep h1 (by omega) fun x hx => by have := h2 x hx; omega
theorem midsL_take : ∀ (ms : List ByteArray) (k : Nat) (m : ByteArray), ms[k]? = some m → midsL (ms.take (k + 1)) = midsL (ms.take k) ++ (txL (escB m) ++ [42])
  | [], _, _, h => by simp at h
  | x :: ms, 0, m, h => by
    simp at h; subst h; simp [midsL]
  | x :: ms, k + 1, m, h => by
    have := midsL_take ms k m (by simpa using h)
    simp only [List.take_succ_cons, midsL, this]
    simp [List.append_assoc]
theorem midsL_le : ∀ (ms : List ByteArray) (k : Nat), (midsL (ms.take k)).length ≤ (midsL ms).length
  | [], _ => by simp
  | x :: ms, 0 => by simp [midsL]
  | x :: ms, k + 1 => by
    have := midsL_le ms k
    simp only [List.take_succ_cons, midsL, List.length_append, List.length_cons]
    omega

set_option maxHeartbeats 4000000 in
set_option maxRecDepth 1000000 in
theorem wf_part (N xb H : Nat) (it : Itm) (a1 : Option Addr) (n1 c1 : Nat) (a2 : Option Addr) (c2 : Nat) (v : Value) (l0 : List UInt8) (w : World) (hN : xb < N) (hNw : N ≤ w.heap.size) (hH : H ≤ xb) (hW : WrAt w N xb v l0) (hl0 : l0.length ≤ 2000000)
    (hk : it.kind = 4) (hlg : longB it = false) (hT : Txt w H a2 it.mids) (hml : it.mids.length ≤ 9223372036854775807) :
    Calls Tryz.prog 35 #[.pointer (some ⟨xb, 0, none⟩), .agg #[.int .i8 it.kind, .slice a1 n1 c1, .string it.desc, .string it.value, .string it.start, .slice a2 it.mids.length c2, .string it.fin, .string it.rule, .bool it.dn]] w (PrW N xb v (l0 ++ 40 :: (bodyL it [] ++ [41])) w) := by
  obtain ⟨z2, z3, z4, z6, z7, zm⟩ := long_no hlg
  have ze := escB_size it.start
  have zf := escB_size it.fin
  obtain ⟨R, hR⟩ : ∃ R, l0 ++ 40 :: (bodyL it [] ++ [41]) = R := ⟨_, rfl⟩
  have HR : Hid (l0 ++ 40 :: ((txL it.desc ++ 61 :: (txL (escB it.start) ++ 42 :: (midsL it.mids ++ txL (escB it.fin)))) ++ [41]) = R) := Lib.hid (by
    rw [← hR]; unfold bodyL; rw [if_neg (by omega), if_pos hk])
  rw [hR, hk]
  have HZM := Lib.hid zm
  have hvo : ∀ k, v.ownBlock = some k → N ≤ k := fun k e => (hW.2.lt k e).1
  have hvl : ∀ k, v.ownBlock = some k → k < w.heap.size := fun k e => (hW.2.lt k e).2
  have hxl : xb < w.heap.size := lt_of_block hW.1
  have HT := Lib.hid (fun (W : World) (l : List UInt8) (c : Obj) (h : StW w N xb w.heap.size c v l W) => h.txt hN hvo hT hH hxl)
  obtain ⟨C, hC⟩ : ∃ C, C = Obj.cells #[.int .i8 4, .slice a1 n1 c1, .string it.desc, .string it.value, .string it.start, .slice a2 it.mids.length c2, .string it.fin, .string it.rule, .bool it.dn] 26 (0, 0) := ⟨_, rfl⟩
  have HC := Lib.hid hC
  have hS0 : StW w N xb w.heap.size C v l0 (w.alloc C) := ⟨v, hW.keep0 ((Keep.refl [] w).alloc _), WKeep.of0 ((Keep.refl [] w).alloc _), alloc_at w C, fun e => by have := hvl _ e; omega⟩
  have hbx : w.heap.size ≠ xb := by omega
  obtain ⟨W0, hW0⟩ : ∃ W0, W0 = w.alloc C := ⟨_, rfl⟩
  rw [← hW0] at hS0
  have HW0 : Hid (W0 = w.alloc (Obj.cells #[.int .i8 4, .slice a1 n1 c1, .string it.desc, .string it.value, .string it.start, .slice a2 it.mids.length c2, .string it.fin, .string it.rule, .bool it.dn] 26 (0, 0))) := Lib.hid (by rw [hW0, hC])
  have HS0 := Lib.hid hS0
  have HA1 := Lib.hid (add_one hS0 hN hNw hbx ⟨#[40]⟩ (by show _ + 1 ≤ _; omega))
  clear hR hW hvo hvl hC hW0 hS0 zm hT hk hlg
  go_enter Tryz.func35, Tryz.ntmps35
  go_upto_region 1 with fail
  rw [← HW0.out]
  go_upto_region 2 with (go_at_call 58; refine HA1.out.mono ?_; rintro e W1 ⟨rfl, hS1⟩; have HS1 := Lib.hid hS1; clear hS1)
  have HN9 : Hid (∀ (W : World) (l : List UInt8), StW w N xb w.heap.size C v l W → W.heap[w.heap.size]? = some (.cells #[.int .i8 4, .slice a1 n1 c1, .string it.desc, .string it.value, .string it.start, .slice a2 it.mids.length c2, .string it.fin, .string it.rule, .bool it.dn] 26 (0, 0))) := Lib.hid fun W l h => h.box.trans (by rw [HC.out])
  obtain ⟨L1, hL1⟩ : ∃ L1, l0 ++ txL ⟨#[40]⟩ = L1 := ⟨_, rfl⟩
  have hl1 : L1.length ≤ 2000001 := by rw [← hL1, List.length_append]; show _ + 1 ≤ _; omega
  rw [hL1] at HS1
  have HL1 := Lib.hid hL1
  clear hL1 HA1 HS0 HW0
  obtain ⟨x0, x1, x2, x3, x4, x5, x6, x7, x8, xf⟩ := nine (HN9.out _ _ HS1.out)
  clear xf
  go_upto_region 20 with fail
  have hb0w : w.heap.size < W1.heap.size := lt_of_block (HN9.out _ _ HS1.out)
  go_region_held3 (fun w' => w'.cell? ⟨w.heap.size, 2, none⟩ = some (.string it.desc) ∧ w'.cell? ⟨w.heap.size, 4, none⟩ = some (.string it.start)) (go_keep) (first | (go_at_call 59; refine (escape_any it.start _ (by omega)).mono ?_; rintro e W5 ⟨rfl, hb⟩; have HK5 := Lib.hid (Keep.of_below hb); have q2 := (HK5.out.cell ⟨w.heap.size, 2, none⟩ (by simpa using hb0w) (by simp)).trans x2; have q4 := (HK5.out.cell ⟨w.heap.size, 4, none⟩ (by simpa using hb0w) (by simp)).trans x4; clear hb) | (go_at_call 58; refine (add_four ((HS1.out.keep0 ((Keep.refl [] W1).drewN 1)).keep0 HK5.out) hN hNw hbx it.desc ⟨#[61]⟩ (escB it.start) ⟨#[42]⟩ (by show _ + (_ + (1 + (_ + 1))) ≤ _; omega)).mono ?_; rintro e W6 ⟨rfl, hS6⟩; have HS6 := Lib.hid hS6; have p2 : W6.cell? ⟨w.heap.size, 2, none⟩ = some (.string it.desc) := cell_of (HN9.out _ _ HS6.out) 2; have p4 : W6.cell? ⟨w.heap.size, 4, none⟩ = some (.string it.start) := cell_of (HN9.out _ _ HS6.out) 4; clear hS6))
  obtain ⟨L2, hL2⟩ : ∃ L2, L1 ++ (txL it.desc ++ (txL ⟨#[61]⟩ ++ (txL (escB it.start) ++ txL ⟨#[42]⟩))) = L2 := ⟨_, rfl⟩
  have hl2 : L2.length ≤ 2300000 := by
    have h1 : (txL it.desc).length = it.desc.size := by simp [txL]
    have h2 : (txL (escB it.start)).length = (escB it.start).size := by simp [txL]
    have h3 : (txL ⟨#[61]⟩).length = 1 := rfl
    have h4 : (txL ⟨#[42]⟩).length = 1 := rfl
    rw [← hL2, List.length_append, List.length_append, List.length_append, List.length_append, h1, h2, h3, h4]
    omega
  rw [hL2] at HS6
  have HL2 : Hid (R = L2 ++ (midsL it.mids ++ (txL (escB it.fin) ++ txL ⟨#[41]⟩))) := Lib.hid (by
    have e1 : txL ⟨#[40]⟩ = [40] := rfl
    have e2 : txL ⟨#[41]⟩ = [41] := rfl
    have e3 : txL ⟨#[61]⟩ = [61] := rfl
    have e4 : txL ⟨#[42]⟩ = [42] := rfl
    rw [← HR.out, ← hL2, ← HL1.out, e1, e2, e3, e4]
    simp [List.append_assoc])
  clear hL2 HS1 HL1 HR x0 x1 x2 x3 x4 x5 x6 x7 x8 q2 q4 p2 p4 HK5 hb0w
  obtain ⟨x0, x1, x2, x3, x4, x5, x6, x7, x8, xf⟩ := nine (HN9.out _ _ HS6.out)
  clear xf
  go_wp2_with fail
  clear x0 x1 x2 x3 x4 x5 x6 x7 x8
  go_loopg [80] (it.mids.length) (fun g i wr => ∃ k : Nat, k ≤ it.mids.length ∧ it.mids.length ≤ g + k ∧ i = .int .i64 k ∧ Hid ((L2 ++ midsL (it.mids.take k)).length ≤ 2300000) ∧ Hid (StW w N xb w.heap.size C v (L2 ++ midsL (it.mids.take k)) wr))
  case atStart => exact ⟨0, Nat.zero_le _, by omega, rfl, Lib.hid (by simpa [midsL] using hl2), Lib.hid (by simpa [midsL] using HS6.out)⟩
  case round =>
    obtain ⟨k, hk, hg, rfl, HLK, HS⟩ := hrel
    by_cases hlt : k < it.mids.length
    · obtain ⟨m, hm⟩ : ∃ m, it.mids[k]? = some m := ⟨_, List.getElem?_eq_getElem hlt⟩
      obtain ⟨mb, mo, rfl, hmb, hcell⟩ := (HT.out _ _ _ HS.out).at hm
      have hmz := HZM.out m (List.mem_of_getElem? hm)
      have hem := escB_size m
      obtain ⟨X, hX⟩ : ∃ X, (L2 ++ midsL (it.mids.take k)) ++ (txL (escB m) ++ txL ⟨#[42]⟩) = X := ⟨_, rfl⟩
      have hXm : X = L2 ++ midsL (it.mids.take (k + 1)) := by rw [← hX, midsL_take _ _ _ hm, List.append_assoc]; rfl
      have hXR : X.length ≤ R.length := by
        rw [hXm, HL2.out, List.length_append, List.length_append, List.length_append]
        have := midsL_le it.mids (k + 1)
        omega
      have hLK := HLK.out
      have hAd := fun (W5 : World) (hk : Keep [] wr W5) => add_two (HS.out.keep0 hk) hN hNw hbx (escB m) ⟨#[42]⟩ (by show _ + (_ + 1) ≤ _; omega)
      rw [hX] at hAd
      have HXM := Lib.hid hXm
      have HXR := Lib.hid hXR
      clear hm hX hXm hXR hLK
      unfold AddS at hAd
      cases hd : decide (X.length ≤ 1048576)
      · rw [hd] at hAd
        have HAd := Lib.hid hAd
        have HRL : Hid (decide (R.length ≤ 1048576) = false) := Lib.hid (by have := of_decide_eq_false hd; have := HXR.out; rw [decide_eq_false_iff_not]; omega)
        clear hAd hd
        go_wp2_with (first
          | (go_at_call 59; refine (escape_any m _ (by omega)).mono ?_; rintro e W5 ⟨rfl, hb⟩; have HK5 := Lib.hid (Keep.of_below hb); clear hb)
          | (go_at_call 58; refine (HAd.out _ HK5.out).mono ?_; rintro e W6 ⟨rfl, hS7⟩; have HS7 := Lib.hid hS7; clear hS7))
        go_ret
        obtain ⟨v7, k1, k2, _, _⟩ := HS7.out
        exact ⟨ret_bool (by rw [HRL.out]), v7, _, k1, k2, fun h => by have := of_decide_eq_false HRL.out; omega⟩
      · rw [hd] at hAd
        have HAd := Lib.hid hAd
        have HXL : Hid (X.length ≤ 1048576) := Lib.hid (of_decide_eq_true hd)
        clear hAd hd
        go_wp2_with (first
          | (go_at_call 59; refine (escape_any m _ (by omega)).mono ?_; rintro e W5 ⟨rfl, hb⟩; have HK5 := Lib.hid (Keep.of_below hb); clear hb)
          | (go_at_call 58; refine (HAd.out _ HK5.out).mono ?_; rintro e W6 ⟨rfl, hS7⟩; have HS7 := Lib.hid hS7; clear hS7))
        go_roundg (it.mids.length - (k + 1))
        case measure => omega
        case rel => exact ⟨k + 1, by omega, by omega, by go_num, Lib.hid (by rw [← HXM.out]; have := HXL.out; omega), Lib.hid (by rw [← HXM.out]; exact HS7.out)⟩
    · have hke : k = it.mids.length := by omega
      have HS8 : Hid (StW w N xb w.heap.size C v (L2 ++ midsL it.mids) wr) := Lib.hid (by have := HS.out; rw [hke, List.take_length] at this; exact this)
      have hl8 : (L2 ++ midsL it.mids).length ≤ 2300000 := by have := HLK.out; rw [hke, List.take_length] at this; exact this
      clear hke HS HS6
      obtain ⟨L3, hL3⟩ : ∃ L3, L2 ++ midsL it.mids = L3 := ⟨_, rfl⟩
      rw [hL3] at HS8 hl8
      have HRE : Hid (R = L3 ++ txL (escB it.fin) ++ txL ⟨#[41]⟩) := Lib.hid (by rw [HL2.out, ← hL3]; simp [List.append_assoc])
      clear hL3
      have hf1 : (txL (escB it.fin)).length = (escB it.fin).size := by simp [txL]
      have hl9 : (L3 ++ txL (escB it.fin)).length ≤ 2500000 := by rw [List.length_append, hf1]; omega
      have HA1 := Lib.hid (fun (W5 : World) (hk : Keep [] wr W5) => add_one (HS8.out.keep0 hk) hN hNw hbx (escB it.fin) (by omega))
      have HA2 := Lib.hid (fun (W5 : World) (h : StW w N xb w.heap.size C v (L3 ++ txL (escB it.fin)) W5) => add_one h hN hNw hbx ⟨#[41]⟩ (by show _ + 1 ≤ _; omega))
      rw [← HRE.out] at HA2
      obtain ⟨x0, x1, x2, x3, x4, x5, x6, x7, x8, xf⟩ := nine (HN9.out _ _ HS8.out)
      clear xf hf1 hl9
      go_upto_region 28 with (first
        | (go_at_call 59; refine (escape_any it.fin _ (by omega)).mono ?_; rintro e W5 ⟨rfl, hb⟩; have HK5 := Lib.hid (Keep.of_below hb); clear hb)
        | (go_at_call 58; refine (HA1.out _ HK5.out).mono ?_; rintro e W6 ⟨rfl, hS7⟩; have HS7 := Lib.hid hS7; clear hS7))
      go_wp2_with (go_at_call 58; refine (HA2.out _ HS7.out).mono ?_; rintro e W7 ⟨rfl, hS8⟩; have HS9 := Lib.hid hS8; clear hS8)
      go_ret
      obtain ⟨v7, k1, k2, _, _⟩ := HS9.out
      exact ⟨rfl, v7, R, k1, k2, fun _ => rfl⟩
end Go.Proofs.YtjmpcoedfoaebaaGreatDoor
