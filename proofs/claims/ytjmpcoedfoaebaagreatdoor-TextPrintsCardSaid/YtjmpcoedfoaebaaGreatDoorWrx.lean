/- The program's writer of filters: a part with pieces. The program's writer of filters: kids; every filter. text.Print, at every filter. -/
import Derived.Test.YtjmpcoedfoaebaaGreatDoorPri
import Derived.Test.YtjmpcoedfoaebaaGreatDoorSam
import Derived.Test.YtjmpcoedfoaebaaGreatDoorWgt
open Go Go.RowKit
namespace Go.Proofs.YtjmpcoedfoaebaaGreatDoor

theorem WKeep.toKeep {xb N : Nat} {v v' : Value} {w w' : World} (h : WKeep xb v v' w w') (hN : xb < N) (hvo : ∀ k, v.ownBlock = some k → N ≤ k) : ∃ S, Keep S w w' ∧ ∀ x ∈ S, xb ≤ x := by
  obtain ⟨S, h1, h2⟩ : ∃ S : List Nat, (∀ k, v.ownBlock = some k → k ∈ S) ∧ ∀ k ∈ S, v.ownBlock = some k := by
    cases hk : v.ownBlock with
    | none => exact ⟨[], (fun k h => by cases h), (fun k h => by cases h)⟩
    | some k => exact ⟨[k], (fun x h => by cases h; simp), (fun x h => by simp at h; rw [h])⟩
  refine ⟨xb :: S, ⟨h.os, h.tape, h.output, h.size, fun k hk hn => h.block k hk (fun e => hn (by simp [e])) fun e => hn (by simp [h1 k e])⟩, fun x hx => ?_⟩
  rcases List.mem_cons.1 hx with rfl | hx
  · exact Nat.le_refl _
  · have := hvo x (h2 x hx); omega
theorem StW.toKeep {w wr : World} {N xb b0 : Nat} {c : Obj} {v : Value} {l : List UInt8} (h : StW w N xb b0 c v l wr) (hN : xb < N) (hvo : ∀ k, v.ownBlock = some k → N ≤ k) : ∃ S, Keep S w wr ∧ ∀ x ∈ S, xb ≤ x := by
  obtain ⟨v', _, h2, _⟩ := h
  exact h2.toKeep hN hvo
theorem StW.txt {w wr : World} {N xb b0 H : Nat} {c : Obj} {v : Value} {l : List UInt8} {a : Option Addr} {ms : List ByteArray} (h : StW w N xb b0 c v l wr) (hN : xb < N) (hvo : ∀ k, v.ownBlock = some k → N ≤ k) (hT : Txt w H a ms) (hH : H ≤ xb) (hxl : xb < w.heap.size) : Txt wr H a ms := by
  obtain ⟨S, h1, h2⟩ := h.toKeep hN hvo
  exact hT.keep h1 (by omega) fun x hx => by have := h2 x hx; omega
theorem midsL_take : ∀ (ms : List ByteArray) (k : Nat) (m : ByteArray), ms[k]? = some m → midsL (ms.take (k + 1)) = midsL (ms.take k) ++ (txL (escB m) ++ [42])
  | [], _, _, h => by simp at h
  | x :: ms, 0, m, h => by
    simp at h; subst h; simp [midsL]
  | x :: ms, k + 1, m, h => by
    have := midsL_take ms k m (by simpa using h)
    simp only [List.take_succ_cons, midsL, this]
    simp [List.append_assoc]
theorem midsL_le : ∀ (ms : List ByteArray) (k : Nat), (midsL (ms.take k)).length ≤ (midsL ms).length
  | [], _ => by simp
  | x :: ms, 0 => by simp [midsL]
  | x :: ms, k + 1 => by
    have := midsL_le ms k
    simp only [List.take_succ_cons, midsL, List.length_append, List.length_cons]
    omega

set_option maxHeartbeats 4000000 in
set_option maxRecDepth 1000000 in
theorem wf_part (N xb H : Nat) (it : Itm) (a1 : Option Addr) (n1 c1 : Nat) (a2 : Option Addr) (c2 : Nat) (v : Value) (l0 : List UInt8) (w : World) (hN : xb < N) (hNw : N ≤ w.heap.size) (hH : H ≤ xb) (hW : WrAt w N xb v l0) (hl0 : l0.length ≤ 2000000)
    (hk : it.kind = 4) (hlg : longB it = false) (hT : Txt w H a2 it.mids) (hml : it.mids.length ≤ 9223372036854775807) :
    Calls Tryz.prog 35 #[.pointer (some ⟨xb, 0, none⟩), .agg #[.int .i8 it.kind, .slice a1 n1 c1, .string it.desc, .string it.value, .string it.start, .slice a2 it.mids.length c2, .string it.fin, .string it.rule, .bool it.dn]] w (PrW N xb v (l0 ++ 40 :: (bodyL it [] ++ [41])) w) := by
  obtain ⟨z2, z3, z4, z6, z7, zm⟩ := long_no hlg
  have ze := escB_size it.start
  have zf := escB_size it.fin
  obtain ⟨R, hR⟩ : ∃ R, l0 ++ 40 :: (bodyL it [] ++ [41]) = R := ⟨_, rfl⟩
  have HR : Hid (l0 ++ 40 :: ((txL it.desc ++ 61 :: (txL (escB it.start) ++ 42 :: (midsL it.mids ++ txL (escB it.fin)))) ++ [41]) = R) := Lib.hid (by
    rw [← hR]; unfold bodyL; rw [if_neg (by omega), if_pos hk])
  rw [hR, hk]
  have HZM := Lib.hid zm
  have hvo : ∀ k, v.ownBlock = some k → N ≤ k := fun k e => (hW.2.lt k e).1
  have hvl : ∀ k, v.ownBlock = some k → k < w.heap.size := fun k e => (hW.2.lt k e).2
  have hxl : xb < w.heap.size := lt_of_block hW.1
  have HT := Lib.hid (fun (W : World) (l : List UInt8) (c : Obj) (h : StW w N xb w.heap.size c v l W) => h.txt hN hvo hT hH hxl)
  obtain ⟨C, hC⟩ : ∃ C, C = Obj.cells #[.int .i8 4, .slice a1 n1 c1, .string it.desc, .string it.value, .string it.start, .slice a2 it.mids.length c2, .string it.fin, .string it.rule, .bool it.dn] 26 (0, 0) := ⟨_, rfl⟩
  have HC := Lib.hid hC
  have hS0 : StW w N xb w.heap.size C v l0 (w.alloc C) := ⟨v, hW.keep0 ((Keep.refl [] w).alloc _), WKeep.of0 ((Keep.refl [] w).alloc _), alloc_at w C, fun e => by have := hvl _ e; omega⟩
  have hbx : w.heap.size ≠ xb := by omega
  obtain ⟨W0, hW0⟩ : ∃ W0, W0 = w.alloc C := ⟨_, rfl⟩
  rw [← hW0] at hS0
  have HW0 : Hid (W0 = w.alloc (Obj.cells #[.int .i8 4, .slice a1 n1 c1, .string it.desc, .string it.value, .string it.start, .slice a2 it.mids.length c2, .string it.fin, .string it.rule, .bool it.dn] 26 (0, 0))) := Lib.hid (by rw [hW0, hC])
  have HS0 := Lib.hid hS0
  have HA1 := Lib.hid (add_one hS0 hN hNw hbx ⟨#[40]⟩ (by show _ + 1 ≤ _; omega))
  clear hR hW hvo hvl hC hW0 hS0 zm hT hk hlg
  go_enter Tryz.func35, Tryz.ntmps35
  go_upto_region 1 with fail
  rw [← HW0.out]
  go_upto_region 2 with (go_at_call 58; refine HA1.out.mono ?_; rintro e W1 ⟨rfl, hS1⟩; have HS1 := Lib.hid hS1; clear hS1)
  have HN9 : Hid (∀ (W : World) (l : List UInt8), StW w N xb w.heap.size C v l W → W.heap[w.heap.size]? = some (.cells #[.int .i8 4, .slice a1 n1 c1, .string it.desc, .string it.value, .string it.start, .slice a2 it.mids.length c2, .string it.fin, .string it.rule, .bool it.dn] 26 (0, 0))) := Lib.hid fun W l h => h.box.trans (by rw [HC.out])
  obtain ⟨L1, hL1⟩ : ∃ L1, l0 ++ txL ⟨#[40]⟩ = L1 := ⟨_, rfl⟩
  have hl1 : L1.length ≤ 2000001 := by rw [← hL1, List.length_append]; show _ + 1 ≤ _; omega
  rw [hL1] at HS1
  have HL1 := Lib.hid hL1
  clear hL1 HA1 HS0 HW0
  obtain ⟨x0, x1, x2, x3, x4, x5, x6, x7, x8, xf⟩ := nine (HN9.out _ _ HS1.out)
  clear xf
  go_upto_region 20 with fail
  have hb0w : w.heap.size < W1.heap.size := lt_of_block (HN9.out _ _ HS1.out)
  go_region_held3 (fun w' => w'.cell? ⟨w.heap.size, 2, none⟩ = some (.string it.desc) ∧ w'.cell? ⟨w.heap.size, 4, none⟩ = some (.string it.start)) (go_keep) (first | (go_at_call 59; refine (escape_any it.start _ (by omega)).mono ?_; rintro e W5 ⟨rfl, hb⟩; have HK5 := Lib.hid (Keep.of_below hb); have q2 := (HK5.out.cell ⟨w.heap.size, 2, none⟩ (by simpa using hb0w) (by simp)).trans x2; have q4 := (HK5.out.cell ⟨w.heap.size, 4, none⟩ (by simpa using hb0w) (by simp)).trans x4; clear hb) | (go_at_call 58; refine (add_four ((HS1.out.keep0 ((Keep.refl [] W1).drewN 1)).keep0 HK5.out) hN hNw hbx it.desc ⟨#[61]⟩ (escB it.start) ⟨#[42]⟩ (by show _ + (_ + (1 + (_ + 1))) ≤ _; omega)).mono ?_; rintro e W6 ⟨rfl, hS6⟩; have HS6 := Lib.hid hS6; have p2 : W6.cell? ⟨w.heap.size, 2, none⟩ = some (.string it.desc) := cell_of (HN9.out _ _ HS6.out) 2; have p4 : W6.cell? ⟨w.heap.size, 4, none⟩ = some (.string it.start) := cell_of (HN9.out _ _ HS6.out) 4; clear hS6))
  obtain ⟨L2, hL2⟩ : ∃ L2, L1 ++ (txL it.desc ++ (txL ⟨#[61]⟩ ++ (txL (escB it.start) ++ txL ⟨#[42]⟩))) = L2 := ⟨_, rfl⟩
  have hl2 : L2.length ≤ 2300000 := by
    have h1 : (txL it.desc).length = it.desc.size := by simp [txL]
    have h2 : (txL (escB it.start)).length = (escB it.start).size := by simp [txL]
    have h3 : (txL ⟨#[61]⟩).length = 1 := rfl
    have h4 : (txL ⟨#[42]⟩).length = 1 := rfl
    rw [← hL2, List.length_append, List.length_append, List.length_append, List.length_append, h1, h2, h3, h4]
    omega
  rw [hL2] at HS6
  have HL2 : Hid (R = L2 ++ (midsL it.mids ++ (txL (escB it.fin) ++ txL ⟨#[41]⟩))) := Lib.hid (by
    have e1 : txL ⟨#[40]⟩ = [40] := rfl
    have e2 : txL ⟨#[41]⟩ = [41] := rfl
    have e3 : txL ⟨#[61]⟩ = [61] := rfl
    have e4 : txL ⟨#[42]⟩ = [42] := rfl
    rw [← HR.out, ← hL2, ← HL1.out, e1, e2, e3, e4]
    simp [List.append_assoc])
  clear hL2 HS1 HL1 HR x0 x1 x2 x3 x4 x5 x6 x7 x8 q2 q4 p2 p4 HK5 hb0w
  obtain ⟨x0, x1, x2, x3, x4, x5, x6, x7, x8, xf⟩ := nine (HN9.out _ _ HS6.out)
  clear xf
  go_wp2_with fail
  clear x0 x1 x2 x3 x4 x5 x6 x7 x8
  go_loopg [80] (it.mids.length) (fun g i wr => ∃ k : Nat, k ≤ it.mids.length ∧ it.mids.length ≤ g + k ∧ i = .int .i64 k ∧ Hid ((L2 ++ midsL (it.mids.take k)).length ≤ 2300000) ∧ Hid (StW w N xb w.heap.size C v (L2 ++ midsL (it.mids.take k)) wr))
  case atStart => exact ⟨0, Nat.zero_le _, by omega, rfl, Lib.hid (by simpa [midsL] using hl2), Lib.hid (by simpa [midsL] using HS6.out)⟩
  case round =>
    obtain ⟨k, hk, hg, rfl, HLK, HS⟩ := hrel
    by_cases hlt : k < it.mids.length
    · obtain ⟨m, hm⟩ : ∃ m, it.mids[k]? = some m := ⟨_, List.getElem?_eq_getElem hlt⟩
      obtain ⟨mb, mo, rfl, hmb, hcell⟩ := (HT.out _ _ _ HS.out).at hm
      have hmz := HZM.out m (List.mem_of_getElem? hm)
      have hem := escB_size m
      obtain ⟨X, hX⟩ : ∃ X, (L2 ++ midsL (it.mids.take k)) ++ (txL (escB m) ++ txL ⟨#[42]⟩) = X := ⟨_, rfl⟩
      have hXm : X = L2 ++ midsL (it.mids.take (k + 1)) := by rw [← hX, midsL_take _ _ _ hm, List.append_assoc]; rfl
      have hXR : X.length ≤ R.length := by
        rw [hXm, HL2.out, List.length_append, List.length_append, List.length_append]
        have := midsL_le it.mids (k + 1)
        omega
      have hLK := HLK.out
      have hAd := fun (W5 : World) (hk : Keep [] wr W5) => add_two (HS.out.keep0 hk) hN hNw hbx (escB m) ⟨#[42]⟩ (by show _ + (_ + 1) ≤ _; omega)
      rw [hX] at hAd
      have HXM := Lib.hid hXm
      have HXR := Lib.hid hXR
      clear hm hX hXm hXR hLK
      unfold AddS at hAd
      cases hd : decide (X.length ≤ 1048576)
      · rw [hd] at hAd
        have HAd := Lib.hid hAd
        have HRL : Hid (decide (R.length ≤ 1048576) = false) := Lib.hid (by have := of_decide_eq_false hd; have := HXR.out; rw [decide_eq_false_iff_not]; omega)
        clear hAd hd
        go_wp2_with (first
          | (go_at_call 59; refine (escape_any m _ (by omega)).mono ?_; rintro e W5 ⟨rfl, hb⟩; have HK5 := Lib.hid (Keep.of_below hb); clear hb)
          | (go_at_call 58; refine (HAd.out _ HK5.out).mono ?_; rintro e W6 ⟨rfl, hS7⟩; have HS7 := Lib.hid hS7; clear hS7))
        go_ret
        obtain ⟨v7, k1, k2, _, _⟩ := HS7.out
        exact ⟨ret_bool (by rw [HRL.out]), v7, _, k1, k2, fun h => by have := of_decide_eq_false HRL.out; omega⟩
      · rw [hd] at hAd
        have HAd := Lib.hid hAd
        have HXL : Hid (X.length ≤ 1048576) := Lib.hid (of_decide_eq_true hd)
        clear hAd hd
        go_wp2_with (first
          | (go_at_call 59; refine (escape_any m _ (by omega)).mono ?_; rintro e W5 ⟨rfl, hb⟩; have HK5 := Lib.hid (Keep.of_below hb); clear hb)
          | (go_at_call 58; refine (HAd.out _ HK5.out).mono ?_; rintro e W6 ⟨rfl, hS7⟩; have HS7 := Lib.hid hS7; clear hS7))
        go_roundg (it.mids.length - (k + 1))
        case measure => omega
        case rel => exact ⟨k + 1, by omega, by omega, by go_num, Lib.hid (by rw [← HXM.out]; have := HXL.out; omega), Lib.hid (by rw [← HXM.out]; exact HS7.out)⟩
    · have hke : k = it.mids.length := by omega
      have HS8 : Hid (StW w N xb w.heap.size C v (L2 ++ midsL it.mids) wr) := Lib.hid (by have := HS.out; rw [hke, List.take_length] at this; exact this)
      have hl8 : (L2 ++ midsL it.mids).length ≤ 2300000 := by have := HLK.out; rw [hke, List.take_length] at this; exact this
      clear hke HS HS6
      obtain ⟨L3, hL3⟩ : ∃ L3, L2 ++ midsL it.mids = L3 := ⟨_, rfl⟩
      rw [hL3] at HS8 hl8
      have HRE : Hid (R = L3 ++ txL (escB it.fin) ++ txL ⟨#[41]⟩) := Lib.hid (by rw [HL2.out, ← hL3]; simp [List.append_assoc])
      clear hL3
      have hf1 : (txL (escB it.fin)).length = (escB it.fin).size := by simp [txL]
      have hl9 : (L3 ++ txL (escB it.fin)).length ≤ 2500000 := by rw [List.length_append, hf1]; omega
      have HA1 := Lib.hid (fun (W5 : World) (hk : Keep [] wr W5) => add_one (HS8.out.keep0 hk) hN hNw hbx (escB it.fin) (by omega))
      have HA2 := Lib.hid (fun (W5 : World) (h : StW w N xb w.heap.size C v (L3 ++ txL (escB it.fin)) W5) => add_one h hN hNw hbx ⟨#[41]⟩ (by show _ + 1 ≤ _; omega))
      rw [← HRE.out] at HA2
      obtain ⟨x0, x1, x2, x3, x4, x5, x6, x7, x8, xf⟩ := nine (HN9.out _ _ HS8.out)
      clear xf hf1 hl9
      go_upto_region 28 with (first
        | (go_at_call 59; refine (escape_any it.fin _ (by omega)).mono ?_; rintro e W5 ⟨rfl, hb⟩; have HK5 := Lib.hid (Keep.of_below hb); clear hb)
        | (go_at_call 58; refine (HA1.out _ HK5.out).mono ?_; rintro e W6 ⟨rfl, hS7⟩; have HS7 := Lib.hid hS7; clear hS7))
      go_wp2_with (go_at_call 58; refine (HA2.out _ HS7.out).mono ?_; rintro e W7 ⟨rfl, hS8⟩; have HS9 := Lib.hid hS8; clear hS8)
      go_ret
      obtain ⟨v7, k1, k2, _, _⟩ := HS9.out
      exact ⟨rfl, v7, R, k1, k2, fun _ => rfl⟩
end Go.Proofs.YtjmpcoedfoaebaaGreatDoor

open Go Go.RowKit
namespace Go.Proofs.YtjmpcoedfoaebaaGreatDoor

theorem FltD.kidS {w W : World} {H : Nat} {kids : List Flt} {a1 : Option Addr} {cs : Nat → List Value} {S : List Nat} (k : Keep S w W) (hH : H ≤ w.heap.size) (hS : ∀ x ∈ S, H ≤ x)
    (hk : kids = [] ∨ ∃ kb ko, a1 = some ⟨kb, ko, none⟩ ∧ kb < H ∧ ∀ i, i < kids.length → ∀ j u, (cs i)[j]? = some u → w.cell? ⟨kb, ko + i * 9 + j, none⟩ = some u)
    (hkid : ∀ i (h : i < kids.length), FltD w H kids[i] (cs i)) {i : Nat} (hi : i < kids.length) :
    ∃ kb ko b1 e1 b2 e2, a1 = some ⟨kb, ko, none⟩ ∧ FltD W H kids[i] (nineOf (.slice b1 kids[i].kids.length e1) (.slice b2 kids[i].it.mids.length e2) kids[i].it) ∧
      (∀ j u, (nineOf (.slice b1 kids[i].kids.length e1) (.slice b2 kids[i].it.mids.length e2) kids[i].it)[j]? = some u → W.cell? ⟨kb, ko + i * 9 + j, none⟩ = some u) := by
  rcases hk with h | ⟨kb, ko, h1, h2, h3⟩
  · rw [h] at hi; simp at hi
  · have hF := (hkid i hi).keep k hH hS
    obtain ⟨b1, e1, b2, e2, hcs⟩ := hF.nine
    rw [hcs] at hF
    refine ⟨kb, ko, b1, e1, b2, e2, h1, hF, fun j u hu => (k.cell ⟨kb, ko + i * 9 + j, none⟩ (Nat.lt_of_lt_of_le h2 hH) (fun hm => by have : H ≤ kb := hS _ hm; omega)).trans (h3 i hi j u ?_)⟩
    rw [hcs]; exact hu

theorem add_last {wr : World} {N xb : Nat} {v' : Value} {l : List UInt8} (h1 : WrAt wr N xb v' l) (hN : xb < N) (hNw : N ≤ wr.heap.size) (x : ByteArray) (hsz : l.length + x.size ≤ 1099511627776) :
    Calls Tryz.prog 58 #[.pointer (some ⟨xb, 0, none⟩), .slice (some ⟨wr.heap.size, 0, none⟩) 1 1] (wr.alloc (.cells #[.string x] 9)) fun e w' => e = .returned (.bool (decide ((l ++ txL x).length ≤ 1048576))) ∧ ∃ v2, WrAt w' N xb v2 (l ++ txL x) ∧ WKeep xb v' v2 wr w' := by
  have hk : Keep [] wr (wr.alloc (.cells #[.string x] 9)) := (Keep.refl [] wr).alloc _
  have hvl : ∀ k, v'.ownBlock = some k → k < wr.heap.size := fun k hk => (h1.2.lt k hk).2
  have hxl : xb < wr.heap.size := lt_of_block h1.1
  have h := add_any N xb v' l [x] (some ⟨wr.heap.size, 0, none⟩) 1 _ hN (Nat.le_trans hNw hk.size) (h1.keep0 hk) (.inr ⟨wr.heap.size, rfl, by omega, fun e => by have := hvl _ e; omega, by simp, fun k r hr => rows_cell wr [x] 9 k r hr⟩) (by simpa [catL] using hsz) (by simp)
  refine h.mono ?_
  rintro e w' ⟨rfl, v2, g1, g2⟩
  have e1 : catL [x] = txL x := by simp [catL, txL]
  rw [e1] at g1
  exact ⟨by rw [e1], v2, g1, (WKeep.of0 hk).trans g2⟩
theorem printK_take : ∀ (gs : List Flt) (k : Nat) (h : k < gs.length), printK (gs.take (k + 1)) = printK (gs.take k) ++ printL gs[k]
  | [], _, h => by simp at h
  | g :: gs, 0, _ => by simp [printK]
  | g :: gs, k + 1, h => by
    have := printK_take gs k (by simpa using h)
    simp only [List.take_succ_cons, printK, this, List.getElem_cons_succ]
    simp [List.append_assoc]
theorem printK_le : ∀ (gs : List Flt) (k : Nat), (printK (gs.take k)).length ≤ (printK gs).length
  | [], _ => by simp
  | g :: gs, 0 => by simp [printK]
  | g :: gs, k + 1 => by
    have := printK_le gs k
    simp only [List.take_succ_cons, printK, List.length_append]
    omega
theorem manyS_slice (k : Nat) (h2 : k ≤ 2) : txL (ByteArray.extract ⟨#[38, 124, 33]⟩ k (k + 1)) = [manyS k] := by
  rcases (by omega : k = 0 ∨ k = 1 ∨ k = 2) with rfl | rfl | rfl <;> rfl

set_option maxHeartbeats 4000000 in
set_option maxRecDepth 1000000 in
theorem wf_kids (B N xb H : Nat) (it : Itm) (kids : List Flt) (a1 : Option Addr) (c1 : Nat) (a2 : Option Addr) (c2 : Nat) (cs : Nat → List Value) (v : Value) (l0 : List UInt8) (w : World) (hN : xb < N) (hNw : N ≤ w.heap.size) (hB : B ≤ xb) (hH : H ≤ xb) (hE : Env B w) (hW : WrAt w N xb v l0) (M : Nat) (hM : 1048576 ≤ M) (hM2 : M ≤ 1100000) (hl0 : l0.length + 2 ≤ M)
    (kn : Nat) (hk : it.kind = kn) (hk2 : kn ≤ 2) (hkl : kids.length ≤ 9223372036854775807)
    (hkk : kids = [] ∨ ∃ kb ko, a1 = some ⟨kb, ko, none⟩ ∧ kb < H ∧ ∀ i, i < kids.length → ∀ j u, (cs i)[j]? = some u → w.cell? ⟨kb, ko + i * 9 + j, none⟩ = some u)
    (hkid : ∀ i (h : i < kids.length), FltD w H kids[i] (cs i))
    (ih : ∀ i (h : i < kids.length) (vs : List Value) (N xb : Nat) (v : Value) (l0 : List UInt8) (w : World), xb < N → N ≤ w.heap.size → B ≤ xb → H ≤ xb → Env B w → FltD w H kids[i] vs → WrAt w N xb v l0 → l0.length ≤ M →
      Calls Tryz.prog 35 #[.pointer (some ⟨xb, 0, none⟩), .agg vs.toArray] w (PrW N xb v (l0 ++ printL kids[i]) w)) :
    Calls Tryz.prog 35 #[.pointer (some ⟨xb, 0, none⟩), .agg #[.int .i8 it.kind, .slice a1 kids.length c1, .string it.desc, .string it.value, .string it.start, .slice a2 it.mids.length c2, .string it.fin, .string it.rule, .bool it.dn]] w (PrW N xb v (l0 ++ 40 :: (bodyL it (printK kids) ++ [41])) w) := by
  obtain ⟨R, hR⟩ : ∃ R, l0 ++ 40 :: (bodyL it (printK kids) ++ [41]) = R := ⟨_, rfl⟩
  have HR : Hid (l0 ++ 40 :: ((manyS kn :: printK kids) ++ [41]) = R) := Lib.hid (by
    rw [← hR]; unfold bodyL; rw [if_pos (by omega), hk])
  rw [hR, hk]
  have hvo : ∀ k, v.ownBlock = some k → N ≤ k := fun k e => (hW.2.lt k e).1
  have hvl : ∀ k, v.ownBlock = some k → k < w.heap.size := fun k e => (hW.2.lt k e).2
  have HVO := Lib.hid hvo
  have HE := Lib.hid hE
  have HIH := Lib.hid ih
  have hxl : xb < w.heap.size := lt_of_block hW.1
  have HKK := Lib.hid (fun (W : World) (S : List Nat) (k : Keep S w W) (hS : ∀ x ∈ S, xb ≤ x) (i : Nat) (hi : i < kids.length) => FltD.kidS k (by omega) (fun x hx => by have := hS x hx; omega) hkk hkid hi)
  obtain ⟨C, hC⟩ : ∃ C, C = Obj.cells #[.int .i8 kn, .slice a1 kids.length c1, .string it.desc, .string it.value, .string it.start, .slice a2 it.mids.length c2, .string it.fin, .string it.rule, .bool it.dn] 26 (0, 0) := ⟨_, rfl⟩
  have HC := Lib.hid hC
  have hS0 : StW w N xb w.heap.size C v l0 (w.alloc C) := ⟨v, hW.keep0 ((Keep.refl [] w).alloc _), WKeep.of0 ((Keep.refl [] w).alloc _), alloc_at w C, fun e => by have := hvl _ e; omega⟩
  have hbx : w.heap.size ≠ xb := by omega
  obtain ⟨W0, hW0⟩ : ∃ W0, W0 = w.alloc C := ⟨_, rfl⟩
  rw [← hW0] at hS0
  have HW0 : Hid (W0 = w.alloc (Obj.cells #[.int .i8 kn, .slice a1 kids.length c1, .string it.desc, .string it.value, .string it.start, .slice a2 it.mids.length c2, .string it.fin, .string it.rule, .bool it.dn] 26 (0, 0))) := Lib.hid (by rw [hW0, hC])
  have HS0 := Lib.hid hS0
  have HA1 := Lib.hid (add_one hS0 hN hNw hbx ⟨#[40]⟩ (by show _ + 1 ≤ _; omega))
  clear hR hW hE hvo hvl hC hW0 hS0 hk hkk hkid ih
  go_enter Tryz.func35, Tryz.ntmps35
  go_upto_region 1 with fail
  rw [← HW0.out]
  go_upto_region 2 with (go_at_call 58; refine HA1.out.mono ?_; rintro e W1 ⟨rfl, hS1⟩; have HS1 := Lib.hid hS1; clear hS1)
  have HN9 : Hid (∀ (W : World) (l : List UInt8), StW w N xb w.heap.size C v l W → W.heap[w.heap.size]? = some (.cells #[.int .i8 kn, .slice a1 kids.length c1, .string it.desc, .string it.value, .string it.start, .slice a2 it.mids.length c2, .string it.fin, .string it.rule, .bool it.dn] 26 (0, 0))) := Lib.hid fun W l h => h.box.trans (by rw [HC.out])
  obtain ⟨L1, hL1⟩ : ∃ L1, l0 ++ txL ⟨#[40]⟩ = L1 := ⟨_, rfl⟩
  have hl1 : L1.length + 1 ≤ M := by rw [← hL1, List.length_append]; show _ + 1 + 1 ≤ _; omega
  rw [hL1] at HS1
  have HL1 := Lib.hid hL1
  clear hL1 HA1 HS0 HW0
  obtain ⟨x0, x1, x2, x3, x4, x5, x6, x7, x8, xf⟩ := nine (HN9.out _ _ HS1.out)
  clear xf
  obtain ⟨SG, hSG⟩ : ∃ SG, ByteArray.extract ⟨#[38, 124, 33]⟩ kn (kn + 1) = SG := ⟨_, rfl⟩
  have hsg1 : txL SG = [manyS kn] := by rw [← hSG]; exact manyS_slice kn hk2
  have hsg2 : SG.size = 1 := by have := congrArg List.length hsg1; simpa [txL] using this
  obtain ⟨L2, hL2⟩ : ∃ L2, L1 ++ txL SG = L2 := ⟨_, rfl⟩
  have hl2 : L2.length ≤ M := by rw [← hL2, hsg1, List.length_append]; show _ + 1 ≤ _; omega
  have hA2 := add_one HS1.out hN hNw hbx SG (by omega)
  rw [hL2] at hA2
  have HA2 := Lib.hid hA2
  have HSG := Lib.hid hSG
  have HL2 : Hid (R = L2 ++ (printK kids ++ txL ⟨#[41]⟩)) := Lib.hid (by
    have e1 : txL ⟨#[40]⟩ = [40] := rfl
    have e2 : txL ⟨#[41]⟩ = [41] := rfl
    rw [← HR.out, ← hL2, ← HL1.out, e1, e2, hsg1]
    simp [List.append_assoc])
  clear hSG hsg1 hL2 hA2 HR HL1
  go_upto_region 13 with (rw [HSG.out]; go_at_call 58; refine HA2.out.mono ?_; rintro e W2 ⟨rfl, hS2⟩; have HS2 := Lib.hid hS2; clear hS2)
  all_goals
    clear x0 x1 x2 x3 x4 x5 x6 x7 x8
    obtain ⟨x0, x1, x2, x3, x4, x5, x6, x7, x8, xf⟩ := nine (HN9.out _ _ HS2.out)
    clear xf
    go_wp2_with fail
  all_goals
    clear x0 x1 x2 x3 x4 x5 x6 x7 x8 HA2
    go_loopg [58] (kids.length) (fun g i wr => ∃ (k : Nat) (v' : Value), k ≤ kids.length ∧ kids.length ≤ g + k ∧ i = .int .i64 k ∧ Hid ((L2 ++ printK (kids.take k)).length ≤ M) ∧ Hid (WrAt wr N xb v' (L2 ++ printK (kids.take k)) ∧ WKeep xb v v' w wr))
    case atStart =>
      obtain ⟨v', h1, h2, _, _⟩ := HS2.out
      exact ⟨0, v', Nat.zero_le _, by omega, rfl, Lib.hid (by simpa [printK] using hl2), Lib.hid ⟨by simpa [printK] using h1, h2⟩⟩
    case round =>
      obtain ⟨k, v', hk, hg, rfl, HLK, HS⟩ := hrel
      by_cases hlt : k < kids.length
      · obtain ⟨S, hS1, hS2⟩ := HS.out.2.toKeep hN HVO.out
        obtain ⟨kb, ko, p1, q1, p2, q2, rfl, hF1, hc1⟩ := HKK.out wr S hS1 hS2 k hlt
        have HSK := Lib.hid hS1
        have hEr := HE.out.keep hS1 (fun x hx => by have := hS2 x hx; omega)
        have hwr := hS1.size
        have hIH := HIH.out k hlt
        obtain ⟨kid, hkid⟩ : ∃ kid, kids[k] = kid := ⟨_, rfl⟩
        have HPK : Hid (printK (kids.take (k + 1)) = printK (kids.take k) ++ printL kid) := Lib.hid (by rw [← hkid]; exact printK_take kids k hlt)
        rw [hkid] at hIH hF1 hc1
        obtain ⟨f0, f1, f2, f3, f4, f5, f6, f7, f8⟩ := nine_row hc1
        have hK3 : Keep [] wr (wr.alloc (.cells (nineOf (.slice p1 kid.kids.length q1) (.slice p2 kid.it.mids.length q2) kid.it).toArray 26)) := (Keep.refl [] wr).alloc _
        obtain ⟨X, hX⟩ : ∃ X, (L2 ++ printK (kids.take k)) ++ printL kid = X := ⟨_, rfl⟩
        have hC := hIH _ N xb v' (L2 ++ printK (kids.take k)) _ hN (by have := hK3.size; omega) hB hH (hEr.keep0 hK3) (hF1.keep hK3 (by omega) (by simp)) (HS.out.1.keep0 hK3) HLK.out
        rw [hX] at hC
        have hXm : X = L2 ++ printK (kids.take (k + 1)) := by rw [← hX, HPK.out, List.append_assoc]
        have hXR : X.length ≤ R.length := by
          rw [hXm, HL2.out, List.length_append, List.length_append, List.length_append]
          have := printK_le kids (k + 1)
          omega
        have HXM := Lib.hid hXm
        have HXR := Lib.hid hXR
        have HK3 := Lib.hid hK3
        have hk1 : (k : Int) < (kids.length : Int) := by omega
        have hk0 : (0 : Int) ≤ (k : Int) := by omega
        unfold PrW at hC
        clear hX hXm hXR hS1 hS2 hEr hIH hF1 hc1 hkid hK3
        cases hd : decide (X.length ≤ 1048576)
        · rw [hd] at hC
          have HC := Lib.hid hC
          have HRL : Hid (decide (R.length ≤ 1048576) = false) := Lib.hid (by have := of_decide_eq_false hd; have := HXR.out; rw [decide_eq_false_iff_not]; omega)
          clear hC hd
          go_wp2_with (go_at_call 35; refine HC.out.mono ?_; rintro e W6 ⟨rfl, v6, l6, hS7, hS8, _⟩; have HS7 := Lib.hid (And.intro hS7 ((HS.out.2.keep0 HK3.out).trans hS8)); clear hS7 hS8)
          go_ret
          obtain ⟨k1, k2⟩ := HS7.out
          exact ⟨ret_bool (by rw [HRL.out]), v6, _, k1, k2, fun h => by have := of_decide_eq_false HRL.out; omega⟩
        · rw [hd] at hC
          have HC := Lib.hid hC
          have HXL : Hid (X.length ≤ 1048576) := Lib.hid (of_decide_eq_true hd)
          clear hC hd
          go_wp2_with (go_at_call 35; refine HC.out.mono ?_; rintro e W6 ⟨rfl, v6, l6, hS7, hS8, hl6⟩; rw [hl6 HXL.out] at hS7; have HS7 := Lib.hid (And.intro hS7 ((HS.out.2.keep0 HK3.out).trans hS8)); clear hS7 hS8 hl6)
          go_roundg (kids.length - (k + 1))
          case measure => omega
          case rel => exact ⟨k + 1, v6, by omega, by omega, by go_num, Lib.hid (by rw [← HXM.out]; have := HXL.out; omega), Lib.hid (by rw [← HXM.out]; exact HS7.out)⟩
      · have hke : k = kids.length := by omega
        have HRE : Hid (R = (L2 ++ printK kids) ++ txL ⟨#[41]⟩) := Lib.hid (by rw [HL2.out]; simp [List.append_assoc])
        have hS8 := HS.out
        have hl8 := HLK.out
        rw [hke, List.take_length] at hS8 hl8
        have hA3 := add_last hS8.1 hN (Nat.le_trans hNw hS8.2.size) ⟨#[41]⟩ (by show _ + 1 ≤ _; omega)
        rw [← HRE.out] at hA3
        have HA3 := Lib.hid hA3
        have HK8 := Lib.hid hS8.2
        clear hA3 hS8 hke HS
        go_wp2_with (go_at_call 58; refine HA3.out.mono ?_; rintro e W7 ⟨rfl, v7, hS8, hK8⟩; have HS9 := Lib.hid (And.intro hS8 (HK8.out.trans hK8)); clear hS8 hK8)
        go_ret
        obtain ⟨k1, k2⟩ := HS9.out
        exact ⟨rfl, v7, R, k1, k2, fun _ => rfl⟩

theorem checkL_zero {f : Flt → Nat → Nat → Int × Nat × Nat} : ∀ (gs : List Flt) (n d : Nat), (checkL f gs n d).1 = 0 → ∀ i (h : i < gs.length), ∃ n' d', (f gs[i] n' d').1 = 0
  | [], _, _, _, _, h => by simp at h
  | g :: gs, n, d, h, i, hi => by
    rw [checkL] at h
    by_cases hz : (f g n d).1 ≠ 0
    · rw [if_pos hz] at h; exact absurd h hz
    · rw [if_neg hz] at h
      match i with
      | 0 => exact ⟨n, d, by simpa using hz⟩
      | i + 1 => exact checkL_zero gs _ _ h i (by simpa using hi)
/-- What Check has seen at a part that it takes. -/
theorem checkP_zero {rem : Nat} {g : Flt} {n d : Nat} (h : (checkP (rem + 1) g n d).1 = 0) : longB g.it = false ∧ rightB g.it g.kids.length = true ∧ (if g.it.kind = 2 then n else n + 1) ≤ 65536 ∧ checkP (rem + 1) g n d = checkL (checkP rem) g.kids (if g.it.kind = 2 then n else n + 1) (max d (64 - rem)) := by
  rw [checkP] at h
  by_cases h1 : 65536 < (if g.it.kind = 2 then n else n + 1) ∨ longB g.it = true
  · rw [if_pos h1] at h; exact absurd (show (3 : Int) = 0 from h) (by decide)
  · rw [if_neg h1] at h
    by_cases h2 : rightB g.it g.kids.length = false
    · rw [if_pos h2] at h; exact absurd (show (90 : Int) = 0 from h) (by decide)
    · exact ⟨by cases hl : longB g.it <;> simp_all, by simpa using h2, by omega, by rw [checkP, if_neg h1, if_neg h2]⟩
theorem right_kind {it : Itm} {n : Nat} (h : rightB it n = true) : (∃ k : Nat, it.kind = k ∧ k ≤ 9) ∧ (it.kind = 0 ∨ it.kind = 1 ∨ it.kind = 2 ∨ n = 0) := by
  unfold rightB at h
  split at h
  · rename_i h1
    exact ⟨⟨it.kind.toNat, by omega, by omega⟩, by omega⟩
  · split at h
    · refine ⟨⟨9, by omega, by omega⟩, .inr (.inr (.inr ?_))⟩
      simp only [Bool.and_eq_true, decide_eq_true_eq] at h; omega
    · split at h
      · refine ⟨⟨4, by omega, by omega⟩, .inr (.inr (.inr ?_))⟩
        simp only [Bool.and_eq_true, decide_eq_true_eq] at h; omega
      · split at h
        · refine ⟨⟨7, by omega, by omega⟩, .inr (.inr (.inr ?_))⟩
          simp only [Bool.and_eq_true, decide_eq_true_eq] at h; omega
        · split at h
          · rename_i h1
            refine ⟨⟨it.kind.toNat, by omega, by omega⟩, .inr (.inr (.inr ?_))⟩
            simp only [Bool.and_eq_true, decide_eq_true_eq] at h; omega
          · cases h

theorem wf_all (B H : Nat) : ∀ (rem : Nat) (g : Flt) (n d : Nat) (vs : List Value) (N xb : Nat) (v : Value) (l0 : List UInt8) (w : World), rem ≤ 64 → (checkP rem g n d).1 = 0 → xb < N → N ≤ w.heap.size → B ≤ xb → H ≤ xb → Env B w → FltD w H g vs → WrAt w N xb v l0 → l0.length + 2 * rem ≤ 1048704 →
    Calls Tryz.prog 35 #[.pointer (some ⟨xb, 0, none⟩), .agg vs.toArray] w (PrW N xb v (l0 ++ printL g) w) := by
  intro rem
  induction rem with
  | zero => intro g n d vs N xb v l0 w _ h; exact absurd (show (91 : Int) = 0 from h) (by decide)
  | succ rem ih =>
    intro g n d vs N xb v l0 w hrem h hN hNw hB hH hE hF hW hl0
    obtain ⟨h1, h2, h3, h4⟩ := checkP_zero h
    cases hF with
    | mk it kids a1 c1 a2 c2 cs hm hml hkl hk hkid =>
      obtain ⟨⟨kn, hkn, hk9⟩, hkk⟩ := right_kind h2
      have hkn' : it.kind = kn := hkn
      by_cases hk2 : kn ≤ 2
      · rw [printL]
        rw [h4] at h
        refine wf_kids B N xb H it kids a1 c1 a2 c2 cs v l0 w hN hNw hB hH hE hW (1048704 - 2 * rem) (by omega) (by omega) (by omega) kn hkn' hk2 hkl hk hkid ?_
        intro i hi vs N xb v l0 w e1 e2 e3 e4 e5 e6 e7 e8
        obtain ⟨n', d', hz⟩ := checkL_zero kids _ _ h i hi
        exact ih kids[i] n' d' vs N xb v l0 w (by omega) hz e1 e2 e3 e4 e5 e6 e7 (by omega)
      · have hk0 : kids = [] := by
          rcases hkk with h | h | h | h
          · have : it.kind = 0 := h; omega
          · have : it.kind = 1 := h; omega
          · have : it.kind = 2 := h; omega
          · exact List.length_eq_zero_iff.1 h
        subst hk0
        rw [printL, printK]
        by_cases h4' : kn = 4
        · subst h4'
          exact wf_part N xb H it a1 _ c1 a2 c2 v l0 w hN hNw hH hW (by omega) hkn' h1 hm hml
        · exact wf_item B N xb it a1 _ c1 a2 c2 v l0 w hN hNw hB hE hW (by omega) ⟨by omega, by omega, by omega⟩ h1

/-- text.Print, at every filter. -/
theorem print_any (B H : Nat) (g : Flt) (vs : List Value) (w : World) (hF : FltD w H g vs) (hE : Env B w) (hH : H ≤ w.heap.size) : Calls Tryz.prog 20 #[.agg vs.toArray] w (PriR w (printR g)) := by
  refine print_of B H g vs w hF hE hH fun hz N xb v w e1 e2 e3 e4 e5 e6 e7 => ?_
  have hz' : (checkP 64 g 0 0).1 = 0 := by
    unfold checkR at hz
    by_cases h : (checkP 64 g 0 0).1 = 0
    · exact h
    · rw [if_neg h] at hz; exact absurd hz h
  have := wf_all B H 64 g 0 0 vs N xb v [] w (Nat.le_refl _) hz' e1 e2 e3 e4 e5 e6 e7 (by simp)
  rwa [List.nil_append] at this
end Go.Proofs.YtjmpcoedfoaebaaGreatDoor
