/- 'rosterlaw10.TextBack', the walk: for every filter it answers true. -/
import Derived.Test.YtjmpcoedfoaebaaGreatDoorRds
import Derived.Test.YtjmpcoedfoaebaaGreatDoorAgl
open Go Go.RowKit
namespace Go.Proofs.YtjmpcoedfoaebaaGreatDoor

/-- A filter that is read, in a variable. -/
structure BoxD (W : World) (b H : Nat) (g : Flt) (a1 : Option Addr) (c1 : Nat) (a2 : Option Addr) (c2 : Nat) : Prop where
  X : W.heap[b]? = some (.cells (nineA g a1 c1 a2 c2).toArray 26 (0, 0))
  D : FltD W H g (nineA g a1 c1 a2 c2)
  le : H ≤ W.heap.size
theorem BoxD.keep0 {W W' : World} {b H : Nat} {g : Flt} {a1 : Option Addr} {c1 : Nat} {a2 : Option Addr} {c2 : Nat} (h : BoxD W b H g a1 c1 a2 c2) (k : Keep [] W W') : BoxD W' b H g a1 c1 a2 c2 :=
  ⟨k.heap h.X (by simp), h.D.keep k h.le (by simp), Nat.le_trans h.le k.size⟩
theorem BoxD.mk0 {w : World} {H : Nat} {g : Flt} {a1 : Option Addr} {c1 : Nat} {a2 : Option Addr} {c2 : Nat} (hH : H ≤ w.heap.size) (hF : FltD w H g (nineA g a1 c1 a2 c2)) : BoxD (w.alloc (.cells (nineA g a1 c1 a2 c2).toArray 26)) w.heap.size H g a1 c1 a2 c2 :=
  ⟨alloc_at _ _, hF.keep ((Keep.refl [] w).alloc _) hH (by simp), Nat.le_trans hH ((Keep.refl [] w).alloc _).size⟩
theorem heavy_d {W : World} {b H : Nat} {g : Flt} {a1 : Option Addr} {c1 : Nat} {a2 : Option Addr} {c2 : Nat} (h : BoxD W b H g a1 c1 a2 c2) (hz : SzOk g) : Calls Tryz.prog 17 #[.agg (nineA g a1 c1 a2 c2).toArray] W (RetB W (decide (leftP g 16777216 < 0))) := heavy_any H g a1 c1 a2 c2 W h.le h.D hz
theorem check_d (B : Nat) {W : World} {b H : Nat} {g : Flt} {a1 : Option Addr} {c1 : Nat} {a2 : Option Addr} {c2 : Nat} (h : BoxD W b H g a1 c1 a2 c2) (hE : Env B W) : Calls Tryz.prog 24 #[.agg (nineA g a1 c1 a2 c2).toArray] W (ChR W (checkR g)) := check_calls B H g _ W h.D hE h.le
theorem print_d (B : Nat) {W : World} {b H : Nat} {g : Flt} {a1 : Option Addr} {c1 : Nat} {a2 : Option Addr} {c2 : Nat} (h : BoxD W b H g a1 c1 a2 c2) (hE : Env B W) : Calls Tryz.prog 20 #[.agg (nineA g a1 c1 a2 c2).toArray] W (PriR W (printR g)) := print_any B H g _ W h.D hE h.le
theorem osame_d {W : World} {b H b' lo' hi' : Nat} {g : Flt} {a1 : Option Addr} {c1 : Nat} {a2 : Option Addr} {c2 : Nat} {d1 : Option Addr} {e1 : Nat} {d2 : Option Addr} {e2 : Nat} (h : BoxD W b H g a1 c1 a2 c2) (h' : BoxF W b' lo' hi' g d1 e1 d2 e2) : Calls Tryz.prog 25 #[.agg (nineA g a1 c1 a2 c2).toArray, .agg (nineA g d1 e1 d2 e2).toArray] W (RetB W true) :=
  osame_any H W.heap.size (weight g) g _ _ W (Nat.le_refl _) h.le (Nat.le_refl _) h.D h'.dat

set_option maxRecDepth 100000 in
set_option maxHeartbeats 4000000 in
theorem back_any (B H : Nat) (g : Flt) (a1 : Option Addr) (c1 : Nat) (a2 : Option Addr) (c2 : Nat) (w : World) (hH : H ≤ w.heap.size) (hF : FltD w H g (nineA g a1 c1 a2 c2)) (hz : SzOk g) (hE : Env B w) :
    Calls Tryz.prog 7 #[.agg (nineA g a1 c1 a2 c2).toArray] w (RetB w true) := by
  have hkA : Keep [] w (w.alloc (.cells (nineA g a1 c1 a2 c2).toArray 26)) := (Keep.refl [] w).alloc _
  have HE := Lib.hid (hE.keep0 hkA)
  have HB := Lib.hid (BoxD.mk0 hH hF)
  have HW := Lib.hid (fun W (h : Env B W) => wakes_any B W h)
  have HV := Lib.hid (heavy_d HB.out hz)
  have HKA := Lib.hid hkA
  obtain ⟨hv, hhv⟩ : ∃ hv, decide (leftP g 16777216 < 0) = hv := ⟨_, rfl⟩
  rw [hhv] at HV
  clear hkA hE hF hz hhv hH
  have HPR := Lib.hid (fun W b (h : BoxD W b H g a1 c1 a2 c2) (hE : Env B W) => print_d B h hE)
  have HCK := Lib.hid (fun W b (h : BoxD W b H g a1 c1 a2 c2) (hE : Env B W) => check_d B h hE)
  unfold PriR at HPR
  unfold ChR at HCK
  have HX := Lib.hid HB.out.X
  obtain ⟨x0, x1, x2, x3, x4, x5, x6, x7, x8, xf⟩ := nine HX.out
  unfold nineA nineOf at HKA HE HB HV HPR HCK x0 x1 x2 x3 x4 x5 x6 x7 x8 xf ⊢
  clear HX
  cases hv with
  | true =>
    go_enter Tryz.func7, Tryz.ntmps7
    go_wp2_with (go_at_call 17; refine HV.out.mono ?_; rintro e w1 ⟨rfl, hK1⟩; have HK1 := Lib.hid hK1; clear hK1)
    go_ret
    exact ⟨rfl, HKA.out.trans HK1.out⟩
  | false =>
    go_enter Tryz.func7, Tryz.ntmps7
    go_upto_region 3 with (go_at_call 17; refine HV.out.mono ?_; rintro e w1 ⟨rfl, hK1⟩; have HK1 := Lib.hid hK1; clear hK1)
    have HB1 := Lib.hid (HB.out.keep0 HK1.out)
    have HE1 := Lib.hid (HE.out.keep0 HK1.out)
    have HKB := Lib.hid (HKA.out.trans HK1.out)
    clear x0 x1 x2 x3 x4 x5 x6 x7 x8 xf HB HE HK1 HKA HV
    obtain ⟨x0, x1, x2, x3, x4, x5, x6, x7, x8, xf⟩ := nine HB1.out.X
    obtain ⟨code, n, d, hck⟩ : ∃ code n d, checkR g = (code, n, d) := ⟨_, _, _, rfl⟩
    rw [hck] at HCK
    have HPR1 := Lib.hid (HPR.out _ _ HB1.out HE1.out)
    dsimp only at HCK
    by_cases hc : code = 0
    · subst hc
      have hz : (checkR g).1 = 0 := by rw [hck]
      by_cases hl : (printL g).length ≤ 1048576
      · have hpr : printR g = (⟨(printL g).toArray⟩, 0) := by unfold printR; rw [if_neg (by rw [hz]; decide), if_pos hl]
        have hpp := parse_print hz hl
        have hsz : (⟨(printL g).toArray⟩ : ByteArray).size ≤ 1048576 := by simpa [ByteArray.size] using hl
        obtain ⟨T, hT⟩ : ∃ T : ByteArray, (⟨(printL g).toArray⟩ : ByteArray) = T := ⟨_, rfl⟩
        rw [hT] at hpr hpp hsz
        have HPP := Lib.hid (fun W (h : Env B W) => parse_good B T W g h hpp)
        rw [hpr] at HPR1
        dsimp only at HPR1
        clear hpr hpp hT hl hz hck HPR
        go_upto_region 4 with (go_at_call 20; refine HPR1.out.mono ?_; rintro e w2 ⟨rfl, hK2⟩; have HK2 := Lib.hid hK2; clear hK2)
        have HB2 := Lib.hid (HB1.out.keep0 HK2.out)
        have HE2 := Lib.hid (HE1.out.keep0 HK2.out)
        have HKC := Lib.hid (HKB.out.trans HK2.out)
        clear x0 x1 x2 x3 x4 x5 x6 x7 x8 xf HB1 HE1 HK2 HKB HPR1
        obtain ⟨x0, x1, x2, x3, x4, x5, x6, x7, x8, xf⟩ := nine HB2.out.X
        have HC1 := Lib.hid (HCK.out _ _ HB2.out HE2.out)
        go_upto_region 5 with (go_at_call 24; refine HC1.out.mono ?_; rintro e w3 ⟨rfl, hK3⟩; have HK3 := Lib.hid hK3; clear hK3)
        have HB3 := Lib.hid (HB2.out.keep0 HK3.out)
        have HE3 := Lib.hid (HE2.out.keep0 HK3.out)
        have HKD := Lib.hid (HKC.out.trans HK3.out)
        clear x0 x1 x2 x3 x4 x5 x6 x7 x8 xf HB2 HE2 HK3 HKC HC1 HCK
        go_upto_region 10 with (go_at_call 12; refine (HPP.out _ HE3.out).mono ?_; rintro e w4 ⟨p1, q1, p2, q2, rfl, hG4, hK4⟩; have HG4 := Lib.hid hG4; have HK4 := Lib.hid hK4; clear hG4 hK4)
        obtain ⟨W4, hW4⟩ : ∃ W4, W4 = w4.alloc (.cells (nineA g p1 q1 p2 q2).toArray 26) := ⟨_, rfl⟩
        have hk : Keep [] w4 W4 := by rw [hW4]; exact (Keep.refl [] w4).alloc _
        have HB12 : Hid (BoxF W4 w4.heap.size w3.heap.size w4.heap.size g p1 q1 p2 q2) := Lib.hid ⟨by rw [hW4]; exact alloc_at _ _, HG4.out.keep hk (by simp), HK4.out.size, Nat.le_refl _⟩
        have HB4 := Lib.hid (HB3.out.keep0 (HK4.out.trans hk))
        have HE4 := Lib.hid (HE3.out.keep0 (HK4.out.trans hk))
        have HKE := Lib.hid (HKD.out.trans (HK4.out.trans hk))
        unfold nineA nineOf at hW4
        rw [← hW4]
        clear hW4 hk HG4 HK4 HPP HKD HB3 HE3
        have HS := Lib.hid (osame_d HB4.out HB12.out)
        obtain ⟨x0, x1, x2, x3, x4, x5, x6, x7, x8, xf⟩ := nine HB12.out.X
        obtain ⟨y0, y1, y2, y3, y4, y5, y6, y7, y8, yf⟩ := nine HB4.out.X
        unfold nineA nineOf at HS
        go_wp2_with (first
          | (go_at_call 25; refine HS.out.mono ?_; rintro e w6 ⟨rfl, hK6⟩; have HK6 := Lib.hid hK6; clear hK6)
          | (go_at_call 16; refine (HW.out _ (HE4.out.keep0 HK6.out)).mono ?_; rintro e w7 ⟨rfl, hK7⟩; have HK7 := Lib.hid hK7; clear hK7))
        go_ret
        exact ⟨rfl, (HKE.out.trans HK6.out).trans HK7.out⟩
      · have hpr : printR g = (⟨#[]⟩, 3) := by unfold printR; rw [if_neg (by rw [hz]; decide), if_neg hl]
        rw [hpr] at HPR1
        dsimp only at HPR1
        clear hpr hl hz hck HPR
        go_upto_region 4 with (go_at_call 20; refine HPR1.out.mono ?_; rintro e w2 ⟨rfl, hK2⟩; have HK2 := Lib.hid hK2; clear hK2)
        have HB2 := Lib.hid (HB1.out.keep0 HK2.out)
        have HE2 := Lib.hid (HE1.out.keep0 HK2.out)
        have HKC := Lib.hid (HKB.out.trans HK2.out)
        clear x0 x1 x2 x3 x4 x5 x6 x7 x8 xf HB1 HE1 HK2 HKB HPR1
        obtain ⟨x0, x1, x2, x3, x4, x5, x6, x7, x8, xf⟩ := nine HB2.out.X
        have HC1 := Lib.hid (HCK.out _ _ HB2.out HE2.out)
        go_wp2_with (first
          | (go_at_call 24; refine HC1.out.mono ?_; rintro e w3 ⟨rfl, hK3⟩; have HK3 := Lib.hid hK3; clear hK3)
          | (go_at_call 16; refine (HW.out _ (HE2.out.keep0 HK3.out)).mono ?_; rintro e w7 ⟨rfl, hK7⟩; have HK7 := Lib.hid hK7; clear hK7))
        go_ret
        exact ⟨rfl, (HKC.out.trans HK3.out).trans HK7.out⟩
    · have hpr : printR g = (⟨#[]⟩, code) := by unfold printR; rw [hck, if_pos hc]
      rw [hpr] at HPR1
      dsimp only at HPR1
      have hcb : (code == 0) = false := by rw [beq_eq_false_iff_ne]; exact hc
      clear hpr hck HPR
      go_upto_region 4 with (go_at_call 20; refine HPR1.out.mono ?_; rintro e w2 ⟨rfl, hK2⟩; have HK2 := Lib.hid hK2; clear hK2)
      have HB2 := Lib.hid (HB1.out.keep0 HK2.out)
      have HE2 := Lib.hid (HE1.out.keep0 HK2.out)
      have HKC := Lib.hid (HKB.out.trans HK2.out)
      clear x0 x1 x2 x3 x4 x5 x6 x7 x8 xf HB1 HE1 HK2 HKB HPR1
      obtain ⟨x0, x1, x2, x3, x4, x5, x6, x7, x8, xf⟩ := nine HB2.out.X
      have HC1 := Lib.hid (HCK.out _ _ HB2.out HE2.out)
      go_wp2_with (first
        | (go_at_call 24; refine HC1.out.mono ?_; rintro e w3 ⟨rfl, hK3⟩; have HK3 := Lib.hid hK3; clear hK3)
        | (go_at_call 16; refine (HW.out _ (HE2.out.keep0 HK3.out)).mono ?_; rintro e w7 ⟨rfl, hK7⟩; have HK7 := Lib.hid hK7; clear hK7))
      go_ret
      exact ⟨rfl, (HKC.out.trans HK3.out).trans HK7.out⟩
end Go.Proofs.YtjmpcoedfoaebaaGreatDoor
