/- 'rosterlaw10.TextCut', the walk: for every filter, number and text it answers true. -/
import Derived.Test.YtjmpcoedfoaebaaGreatDoorBks
import Derived.Test.YtjmpcoedfoaebaaGreatDoorCta
import Derived.Deep.DeepCutAuto
import Derived.StillTailTactics
open Go Go.RowKit
namespace Go.Proofs.YtjmpcoedfoaebaaGreatDoor

theorem printR_cases (g : Flt) : (∃ e, e ≠ 0 ∧ printR g = (⟨#[]⟩, e)) ∨ ((checkR g).1 = 0 ∧ (printL g).length ≤ 1048576 ∧ printR g = (⟨(printL g).toArray⟩, 0)) := by
  unfold printR
  by_cases hc : (checkR g).1 ≠ 0
  · rw [if_pos hc]; exact .inl ⟨_, hc, rfl⟩
  · rw [if_neg hc]
    by_cases hl : (printL g).length ≤ 1048576
    · rw [if_pos hl]; exact .inr ⟨by simpa using hc, hl, rfl⟩
    · rw [if_neg hl]; exact .inl ⟨3, by decide, rfl⟩
/-- Where a number cuts a text that is not empty. -/
theorem cut_at (n : Int) {z : Nat} (hz : 0 < z) : ∃ K : Nat, K < z ∧ ((n.tmod z < 0 ∧ (K : Int) = n.tmod z + z) ∨ (0 ≤ n.tmod z ∧ (K : Int) = n.tmod z)) := by
  have h1 := Int.tmod_lt_of_pos n (show (0 : Int) < z by omega)
  have h2 := Int.lt_tmod_of_pos n (show (0 : Int) < z by omega)
  rcases Int.lt_or_le (n.tmod z) 0 with h | h
  · exact ⟨(n.tmod z + z).toNat, by omega, .inl ⟨h, by omega⟩⟩
  · exact ⟨(n.tmod z).toNat, by omega, .inr ⟨h, by omega⟩⟩

set_option maxRecDepth 100000 in
set_option maxHeartbeats 4000000 in
theorem cut_any (B H : Nat) (g : Flt) (a1 : Option Addr) (c1 : Nat) (a2 : Option Addr) (c2 : Nat) (n : Int) (bh : ByteArray) (w : World) (hH : H ≤ w.heap.size) (hF : FltD w H g (nineA g a1 c1 a2 c2)) (hz : SzOk g) (hE : Env B w)
    (hb : bh.size ≤ topLen) :
    Calls Tryz.prog 9 #[.agg (nineA g a1 c1 a2 c2).toArray, .int .i64 n, .string bh] w (RetB w true) := by
  have hkA : Keep [] w (w.alloc (.cells (nineA g a1 c1 a2 c2).toArray 26)) := (Keep.refl [] w).alloc _
  have HE := Lib.hid (hE.keep0 hkA)
  have HB := Lib.hid (BoxD.mk0 hH hF)
  have HW := Lib.hid (fun W (h : Env B W) => wakes_any B W h)
  have HV := Lib.hid (heavy_d HB.out hz)
  have HKA := Lib.hid hkA
  have HE0 := Lib.hid hE
  obtain ⟨hv, hhv⟩ : ∃ hv, decide (leftP g 16777216 < 0) = hv := ⟨_, rfl⟩
  rw [hhv] at HV
  clear hkA hE hF hz hhv hH
  have HPR := Lib.hid (fun W b (h : BoxD W b H g a1 c1 a2 c2) (hE : Env B W) => print_d B h hE)
  unfold PriR at HPR
  have HX := Lib.hid HB.out.X
  obtain ⟨x0, x1, x2, x3, x4, x5, x6, x7, x8, xf⟩ := nine HX.out
  unfold nineA nineOf at HKA HE HB HV HPR x0 x1 x2 x3 x4 x5 x6 x7 x8 xf ⊢
  clear HX
  unfold topLen at hb
  cases hv with
  | true =>
    go_enter Tryz.func9, Tryz.ntmps9
    go_wp2_with (go_at_call 17; refine HV.out.mono ?_; rintro e w1 ⟨rfl, hK1⟩; have HK1 := Lib.hid hK1; clear hK1)
    go_ret
    exact ⟨rfl, HKA.out.trans HK1.out⟩
  | false =>
    go_enter Tryz.func9, Tryz.ntmps9
    go_upto_region 3 with (go_at_call 17; refine HV.out.mono ?_; rintro e w1 ⟨rfl, hK1⟩; have HK1 := Lib.hid hK1; clear hK1)
    have HB1 := Lib.hid (HB.out.keep0 HK1.out)
    have HE1 := Lib.hid (HE.out.keep0 HK1.out)
    have HKB := Lib.hid (HKA.out.trans HK1.out)
    clear x0 x1 x2 x3 x4 x5 x6 x7 x8 xf HB HE HK1 HKA HV
    obtain ⟨x0, x1, x2, x3, x4, x5, x6, x7, x8, xf⟩ := nine HB1.out.X
    have HPR1 := Lib.hid (HPR.out _ _ HB1.out HE1.out)
    rcases printR_cases g with ⟨e0, he0, hpr⟩ | ⟨hz, hl, hpr⟩
    · have hcb : (e0 == 0) = false := by rw [beq_eq_false_iff_ne]; exact he0
      rw [hpr] at HPR1
      dsimp only at HPR1
      clear hpr HPR
      go_wp2_with (first
        | (go_at_call 20; refine HPR1.out.mono ?_; rintro e w2 ⟨rfl, hK2⟩; have HK2 := Lib.hid hK2; clear hK2)
        | (go_at_call 16; refine (HW.out _ (HE1.out.keep0 HK2.out)).mono ?_; rintro e w7 ⟨rfl, hK7⟩; have HK7 := Lib.hid hK7; clear hK7))
      go_ret
      exact ⟨rfl, (HKB.out.trans HK2.out).trans HK7.out⟩
    · have hsz : (⟨(printL g).toArray⟩ : ByteArray).size = (printL g).length := by simp [ByteArray.size]
      have h0 : 0 < (printL g).length := by obtain ⟨r, hr⟩ := printL_head g; rw [hr]; simp
      obtain ⟨K, hKl, hKv⟩ := cut_at n h0
      obtain ⟨f, hcf, hbad⟩ := parse_cut hz hl hKl
      have hbe : ∀ b : ByteArray, 0 < b.size → (printL g).length + b.size ≤ 1048576 → parseP (⟨(printL g).toArray⟩ ++ b) = .error (50, (printL g).length, b.extract 0 1) := fun b h1 h2 => by
        rw [← parse_behind hz h1 h2]
        congr 1
      obtain ⟨c, p⟩ := f
      obtain ⟨T, hT⟩ : ∃ T : ByteArray, (⟨(printL g).toArray⟩ : ByteArray) = T := ⟨_, rfl⟩
      rw [hT] at hpr hcf hsz
      simp only [hT] at hbe
      rw [← hsz] at hl h0 hKl hKv hbe
      dsimp only at hcf
      obtain ⟨wd, hwd⟩ : ∃ wd, wordAt (T.extract 0 K) p = wd := ⟨_, rfl⟩
      rw [hwd] at hcf
      have HPC := Lib.hid (fun W (h : Env B W) => parse_any B (T.extract 0 K) W h)
      rw [hcf] at HPC
      unfold PRet at HPC
      dsimp only at HPC
      have HBE := Lib.hid hbe
      have HBAD := Lib.hid hbad
      have hc0 : c ≠ 0 := gd_parse hcf
      have hTe : T.toList.isEmpty = false := isEmpty_no (fun e => by rw [e] at h0; exact absurd h0 (by decide))
      have hT1 : (T.size : Int) ≤ 1048576 := by omega
      have hT2 : (0 : Int) < (T.size : Int) := by omega
      have hK0 : (0 : Int) ≤ (K : Int) := by omega
      have hK1 : (K : Int) < (T.size : Int) := by omega
      rw [hpr] at HPR1
      dsimp only at HPR1
      clear hpr hbe hcf hwd hz hT hsz hbad HPR
      go_upto_if 35 with (go_at_call 20; refine HPR1.out.mono ?_; rintro e w2 ⟨rfl, hK2⟩; have HK2 := Lib.hid hK2; clear hK2)
      have HE2 := Lib.hid (HE1.out.keep0 HK2.out)
      have HKC := Lib.hid (HKB.out.trans HK2.out)
      clear x0 x1 x2 x3 x4 x5 x6 x7 x8 xf HB1 HE1 HK2 HKB HPR1
      go_cut [9] (fun v wx => v = .int .i64 (K : Int) ∧ Hid (wx = w2))
      case first =>
        rcases hKv with ⟨h1, h2⟩ | ⟨h1, h2⟩
        · go_wp2_with fail
          go_meet
          exact ⟨by rw [h2], Lib.hid rfl⟩
        · go_wp2_with fail
          go_meet
          exact ⟨by rw [h2], Lib.hid rfl⟩
      case rest =>
      obtain ⟨rfl, hwx⟩ := hcut
      obtain rfl := hwx.out
      clear hwx hKv
      go_upto_region 12 with (go_at_call 12; refine (HPC.out _ HE2.out).mono ?_; rintro e w3 ⟨fb, rfl, hF3, hK3⟩; have HF3 := Lib.hid hF3; have HK3 := Lib.hid hK3; clear hF3 hK3)
      obtain ⟨W3, hW3⟩ : ∃ W3, W3 = w3.alloc (.cells #[.int .i8 0, .slice none 0 0, .string ⟨#[]⟩, .string ⟨#[]⟩, .string ⟨#[]⟩, .slice none 0 0, .string ⟨#[]⟩, .string ⟨#[]⟩, .bool false] 26) := ⟨_, rfl⟩
      have hk : Keep [] w3 W3 := by rw [hW3]; exact (Keep.refl [] w3).alloc _
      have HKD := Lib.hid (HKC.out.trans (HK3.out.trans hk))
      have HE3 := Lib.hid (HE2.out.keep0 (HK3.out.trans hk))
      have HFa : Hid (W3.heap[fb]? = some (.cells #[.int .i64 c, .int .i64 p, .string wd] 29 (0, 0))) := Lib.hid (by obtain ⟨fb', he, hF⟩ := HF3.out; cases he; exact hk.heap hF (by simp))
      rw [← hW3]
      clear hW3 hk HF3 HK3 HPC HKC HE2
      have HT := Lib.hid (told_hit B fb c p wd W3 HE3.out hc0 HFa.out)
      go_upto_region 13 with (go_at_call 13; refine HT.out.mono ?_; rintro e w4 ⟨rfl, hK4⟩; have HK4 := Lib.hid hK4; clear hK4)
      obtain ⟨W4, hW4⟩ : ∃ W4, W4 = w4.alloc (.cells #[.int .i64 c, .int .i64 p, .string wd] 29) := ⟨_, rfl⟩
      have hk : Keep [] w4 W4 := by rw [hW4]; exact (Keep.refl [] w4).alloc _
      have HB12 : Hid (W4.heap[w4.heap.size]? = some (.cells #[.int .i64 c, .int .i64 p, .string wd] 29 (0, 0))) := Lib.hid (by rw [hW4]; exact alloc_at _ _)
      have HKE := Lib.hid (HKD.out.trans (HK4.out.trans hk))
      have HE4 := Lib.hid (HE3.out.keep0 (HK4.out.trans hk))
      have hnew : w.heap.size ≤ w4.heap.size := (HKD.out.trans HK4.out).size
      rw [← hW4]
      clear hW4 hk HK4 HT HFa HKD HE3
      obtain ⟨y0, y1, y2, yf⟩ := three HB12.out
      have hpk : ¬ ((K : Int) < (p : Int)) := by have := HBAD.out.1; dsimp only at this; omega
      have hbl0 : (0 : Int) ≤ (bh.size : Int) := by omega
      rcases (show c = 5 ∨ c = 11 ∨ c = 10 ∨ (c = 50 ∧ p < K) from HBAD.out.2) with h' | h' | h' | ⟨h', h2⟩
      case' inr.inr.inr =>
        have h3 : ((p : Int) == (K : Int)) = false := by rw [beq_eq_false_iff_ne]; omega
        have h4 : ¬ ((p : Int) = (K : Int)) := by omega
      all_goals
        subst h'
        clear HBAD hc0
        go_upto_region 17 with fail
        clear hpk
        by_cases hb0 : bh = ⟨#[]⟩
        · subst hb0
          go_wp2_with (go_at_call 16; refine (HW.out _ HE4.out).mono ?_; rintro e w7 ⟨rfl, hK7⟩; have HK7 := Lib.hid hK7; clear hK7)
          go_ret
          exact ⟨rfl, HKE.out.trans HK7.out⟩
        · have hbe : bh.toList.isEmpty = false := isEmpty_no hb0
          have hbs : 0 < bh.size := by
            rcases Nat.eq_zero_or_pos bh.size with h | h
            · exact absurd (ByteArray.ext (Array.eq_empty_of_size_eq_zero h)) hb0
            · exact h
          have hbi : (1 : Int) ≤ (bh.size : Int) := by omega
          have hbj : 1 ≤ bh.size := hbs
          clear hb0
          by_cases hbig : 1048576 < (T.size : Int) + (bh.size : Int)
          · go_wp2_with (go_at_call 16; refine (HW.out _ HE4.out).mono ?_; rintro e w7 ⟨rfl, hK7⟩; have HK7 := Lib.hid hK7; clear hK7)
            go_ret
            exact ⟨rfl, HKE.out.trans HK7.out⟩
          · have hpe := HBE.out bh hbs (by omega)
            have HPE := Lib.hid (parse_any B (T ++ bh) W4 HE4.out)
            rw [hpe] at HPE
            unfold PRet at HPE
            dsimp only at HPE
            clear hpe
            go_upto_region 20 with (go_at_call 12; refine HPE.out.mono ?_; rintro e w5 ⟨fb5, rfl, hF5, hK5⟩; have HF5 := Lib.hid hF5; have HK5 := Lib.hid hK5; clear hF5 hK5)
            have HFb : Hid (w5.heap[fb5]? = some (.cells #[.int .i64 50, .int .i64 T.size, .string (bh.extract 0 1)] 29 (0, 0))) := Lib.hid (by obtain ⟨fb', he, hF⟩ := HF5.out; cases he; exact hF)
            have HB12b := Lib.hid (HK5.out.heap HB12.out (by simp))
            have HE5 := Lib.hid (HE4.out.keep0 HK5.out)
            have HKF := Lib.hid (HKE.out.trans HK5.out)
            have HT2 := Lib.hid (told_hit B fb5 50 T.size (bh.extract 0 1) w5 HE5.out (by decide) HFb.out)
            clear HF5 HFb HB12 HE4 HKE HK5 y0 y1 y2 yf HPE
            go_upto_region 21 with (go_at_call 13; refine HT2.out.mono ?_; rintro e w6 ⟨rfl, hK6⟩; obtain ⟨y0, y1, y2, yf⟩ := three (hK6.heap HB12b.out (by simp)); have HK6 := Lib.hid hK6; clear hK6)
            obtain ⟨W7, hW7⟩ : ∃ W7, W7 = ((w6.setCell ⟨w4.heap.size, 0, none⟩ (.int .i64 50)).setCell ⟨w4.heap.size, 1, none⟩ (.int .i64 T.size)).setCell ⟨w4.heap.size, 2, none⟩ (.string (bh.extract 0 1)) := ⟨_, rfl⟩
            have HK7 : Hid (Keep [] w W7) := Lib.hid (by
              rw [hW7]
              exact (((HKF.out.trans HK6.out).setCell _ _ (.inr hnew)).setCell _ _ (.inr hnew)).setCell _ _ (.inr hnew))
            have HB7 : Hid (W7.heap[w4.heap.size]? = some (.cells #[.int .i64 50, .int .i64 T.size, .string (bh.extract 0 1)] 29 (0, 0))) := Lib.hid (by
              rw [hW7]
              exact setCell_at (setCell_at (setCell_at (HK6.out.heap HB12b.out (by simp)) 0 _) 1 _) 2 _)
            have HE7 := Lib.hid (HE0.out.keep0 HK7.out.drew)
            rw [← hW7]
            clear hW7 HKF HK6 HB12b y0 y1 y2 yf HE5 HT2
            obtain ⟨y0, y1, y2, yf⟩ := three HB7.out
            go_still_tail 11, (by kernel_rfl)
            change wpList _ _ _ _ _ W7.drew
            have HK8 := Lib.hid HK7.out.drew
            obtain ⟨wd7, hwd7⟩ : ∃ wd, wd = W7.drew := ⟨_, rfl⟩
            rw [← hwd7] at HE7 HK8 ⊢
            clear hwd7
            go_wp2_with (go_at_call 16; refine (HW.out _ HE7.out).mono ?_; rintro e w9 ⟨rfl, hK9⟩; have HK9 := Lib.hid hK9; clear hK9)
            go_ret
            exact ⟨rfl, HK8.out.trans HK9.out⟩
end Go.Proofs.YtjmpcoedfoaebaaGreatDoor
