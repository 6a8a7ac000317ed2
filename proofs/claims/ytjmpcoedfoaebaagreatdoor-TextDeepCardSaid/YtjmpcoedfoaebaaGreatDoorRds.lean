/- 'rosterlaw10.TextReads', the walk: for every text it answers true. -/
import Derived.Test.YtjmpcoedfoaebaaGreatDoorTpo
import Derived.Test.YtjmpcoedfoaebaaGreatDoorSae
import Derived.Test.YtjmpcoedfoaebaaGreatDoorWrb
import Derived.Test.YtjmpcoedfoaebaaGreatDoorTxx
open Go Go.RowKit
namespace Go.Proofs.YtjmpcoedfoaebaaGreatDoor

/-- The fault of a text: where it lies. -/
theorem parse_fault {s : ByteArray} {f : Int × Nat × ByteArray} (h : parseP s = .error f) : (1048576 < s.size ∧ f = (3, 0, noText)) ∨ (s.size ≤ 1048576 ∧ f.2.1 ≤ s.size ∧ (f.1 = 5 ↔ f.2.1 = s.size) ∧ f.2.2 = wordAt s f.2.1) := by
  unfold parseP at h
  split at h
  · rename_i hs; cases h; exact .inl ⟨hs, rfl⟩
  · rename_i hs
    refine .inr ⟨by omega, ?_⟩
    cases hf : filterP s 64 0 0 with
    | error e =>
      rw [hf] at h; cases h
      have := gd_filter 64 (Nat.zero_le _) (Nat.zero_le _) _ hf
      exact ⟨this.1, this.2.1, rfl⟩
    | ok t =>
      have hl := filterP_ok (Nat.zero_le _) (Nat.zero_le _) (show filterP s 64 0 0 = .ok (t.1, t.2.1, t.2.2) from hf)
      rw [hf] at h
      dsimp only at h
      split at h
      · cases h
        have := gd_stuck (α := Nat) hl.2.1 _ rfl
        exact ⟨this.1, this.2.1, rfl⟩
      · cases h
theorem zero_same (w : World) : Calls Tryz.prog 25 #[.agg #[.int .i8 0, .slice none 0 0, .string ⟨#[]⟩, .string ⟨#[]⟩, .string ⟨#[]⟩, .slice none 0 0, .string ⟨#[]⟩, .string ⟨#[]⟩, .bool false], .agg #[.int .i8 0, .slice none 0 0, .string ⟨#[]⟩, .string ⟨#[]⟩, .string ⟨#[]⟩, .slice none 0 0, .string ⟨#[]⟩, .string ⟨#[]⟩, .bool false]] w (RetB w true) :=
  osame_any w.heap.size w.heap.size (weight zeroFlt) zeroFlt _ _ w (Nat.le_refl _) (Nat.le_refl _) (Nat.le_refl _) ((FltR.zero w 0 0).toD (Nat.zero_le _)) ((FltR.zero w 0 0).toD (Nat.zero_le _))

set_option maxRecDepth 100000 in
set_option maxHeartbeats 4000000 in
theorem reads_err (B : Nat) (s : ByteArray) (w : World) (hE : Env B w) (c : Int) (p : Nat) (wd : ByteArray) (hp : parseP s = .error (c, p, wd)) : Calls Tryz.prog 8 #[.string s] w (RetB w true) := by
  have HE := Lib.hid hE
  have HP : Hid (Calls Tryz.prog 12 #[.string s] w (PRet w (.error (c, p, wd)))) := Lib.hid (by rw [← hp]; exact parse_any B s w hE)
  have hc0 : c ≠ 0 := gd_parse hp
  have HC : Hid ((1048576 < s.size ∧ (c, p, wd) = (3, 0, noText)) ∨ (s.size ≤ 1048576 ∧ p ≤ s.size ∧ (c = 5 ↔ p = s.size) ∧ wd = wordAt s p)) := Lib.hid (parse_fault hp)
  have HW := Lib.hid (fun W (h : Env B W) => wakes_any B W h)
  have HS := Lib.hid zero_same
  clear hE hp
  go_enter Tryz.func8, Tryz.ntmps8
  go_upto_region 2 with (go_at_call 12; refine HP.out.mono ?_; rintro e w1 ⟨fb, rfl, hF1, hK1⟩; have HF1 := Lib.hid hF1; have HK1 := Lib.hid hK1; clear hF1 hK1)
  obtain ⟨W1, hW1⟩ : ∃ W1, W1 = w1.alloc (.cells #[.int .i8 0, .slice none 0 0, .string ⟨#[]⟩, .string ⟨#[]⟩, .string ⟨#[]⟩, .slice none 0 0, .string ⟨#[]⟩, .string ⟨#[]⟩, .bool false] 26) := ⟨_, rfl⟩
  have hk : Keep [] w1 W1 := by rw [hW1]; exact (Keep.refl [] w1).alloc _
  have HB3 : Hid (W1.heap[w1.heap.size]? = some (.cells #[.int .i8 0, .slice none 0 0, .string ⟨#[]⟩, .string ⟨#[]⟩, .string ⟨#[]⟩, .slice none 0 0, .string ⟨#[]⟩, .string ⟨#[]⟩, .bool false] 26 (0, 0))) := Lib.hid (by rw [hW1]; exact alloc_at _ _)
  have HKA := Lib.hid (HK1.out.trans hk)
  have HFa : Hid (W1.heap[fb]? = some (.cells #[.int .i64 c, .int .i64 p, .string wd] 29 (0, 0))) := Lib.hid (by obtain ⟨fb', he, hF⟩ := HF1.out; cases he; exact hk.heap hF (by simp))
  rw [← hW1]
  clear hW1 hk HF1 HK1 HP
  have HT := Lib.hid (told_hit B fb c p wd W1 (HE.out.keep0 HKA.out) hc0 HFa.out)
  go_upto_region 4 with (go_at_call 13; refine HT.out.mono ?_; rintro e w2 ⟨rfl, hK2⟩; have HK2 := Lib.hid hK2; clear hK2)
  obtain ⟨W2, hW2⟩ : ∃ W2, W2 = w2.alloc (.cells #[.int .i64 c, .int .i64 p, .string wd] 29) := ⟨_, rfl⟩
  have hk : Keep [] w2 W2 := by rw [hW2]; exact (Keep.refl [] w2).alloc _
  have HB5 : Hid (W2.heap[w2.heap.size]? = some (.cells #[.int .i64 c, .int .i64 p, .string wd] 29 (0, 0))) := Lib.hid (by rw [hW2]; exact alloc_at _ _)
  have HB3b : Hid (W2.heap[w1.heap.size]? = some (.cells #[.int .i8 0, .slice none 0 0, .string ⟨#[]⟩, .string ⟨#[]⟩, .string ⟨#[]⟩, .slice none 0 0, .string ⟨#[]⟩, .string ⟨#[]⟩, .bool false] 26 (0, 0))) := Lib.hid ((HK2.out.trans hk).heap HB3.out (by simp))
  have HKB := Lib.hid (HKA.out.trans (HK2.out.trans hk))
  rw [← hW2]
  clear hW2 hk HK2 HT HB3 HFa HKA
  obtain ⟨x0, x1, x2, x3, x4, x5, x6, x7, x8, xf⟩ := nine HB3b.out
  have hcb0 : (c == 0) = false := by rw [beq_eq_false_iff_ne]; exact hc0
  rcases HC.out with ⟨hl, he⟩ | ⟨hl, hle, h5, hwd⟩
  · obtain ⟨rfl, rfl, hwd⟩ : c = 3 ∧ p = 0 ∧ wd = ⟨#[]⟩ := by cases he; exact ⟨rfl, rfl, rfl⟩
    subst hwd
    replace HB5 : Hid (W2.heap[w2.heap.size]? = some (.cells #[.int .i64 3, .int .i64 0, .string ⟨#[]⟩] 29 (0, 0))) := HB5
    clear he
    obtain ⟨y0, y1, y2, yf⟩ := three HB5.out
    clear HC
    go_wp2_with (first
      | (go_at_call 25; refine (HS.out _).mono ?_; rintro e w3 ⟨rfl, hK3⟩; have HK3 := Lib.hid hK3; obtain ⟨y0, y1, y2, yf⟩ := three (hK3.heap HB5.out (by simp)); clear hK3)
      | (go_at_call 16; refine (HW.out _ (HE.out.keep0 (HKB.out.trans HK3.out))).mono ?_; rintro e w4 ⟨rfl, hK4⟩; have HK4 := Lib.hid hK4; clear hK4))
    go_ret
    exact ⟨rfl, (HKB.out.trans HK3.out).trans HK4.out⟩
  · rcases Nat.lt_or_ge p s.size with hlt | hge
    · have hc5 : (c == 5) = false := by rw [beq_eq_false_iff_ne]; intro e; have := h5.1 e; omega
      have hps : ((p : Int) == (s.size : Int)) = false := by rw [beq_eq_false_iff_ne]; omega
      have hpd : decide ((p : Int) = (s.size : Int)) = false := by rw [decide_eq_false_iff_not]; omega
      have hwd' : wd = s.extract p (p + 1) := by rw [hwd]; unfold wordAt; rw [if_pos hlt]
      subst hwd'
      clear hwd h5 HC
      obtain ⟨y0, y1, y2, yf⟩ := three HB5.out
      go_wp2_with (first
        | (go_at_call 25; refine (HS.out _).mono ?_; rintro e w3 ⟨rfl, hK3⟩; have HK3 := Lib.hid hK3; obtain ⟨y0, y1, y2, yf⟩ := three (hK3.heap HB5.out (by simp)); clear hK3)
        | (go_at_call 16; refine (HW.out _ (HE.out.keep0 (HKB.out.trans HK3.out))).mono ?_; rintro e w4 ⟨rfl, hK4⟩; have HK4 := Lib.hid hK4; clear hK4))
      go_ret
      exact ⟨rfl, (HKB.out.trans HK3.out).trans HK4.out⟩
    · obtain rfl : p = s.size := Nat.le_antisymm hle hge
      obtain rfl : c = 5 := h5.2 rfl
      have hwd' : wd = ⟨#[]⟩ := by rw [hwd]; unfold wordAt; rw [if_neg (by omega)]
      subst hwd'
      clear hwd h5 HC
      obtain ⟨y0, y1, y2, yf⟩ := three HB5.out
      go_wp2_with (first
        | (go_at_call 25; refine (HS.out _).mono ?_; rintro e w3 ⟨rfl, hK3⟩; have HK3 := Lib.hid hK3; obtain ⟨y0, y1, y2, yf⟩ := three (hK3.heap HB5.out (by simp)); clear hK3)
        | (go_at_call 16; refine (HW.out _ (HE.out.keep0 (HKB.out.trans HK3.out))).mono ?_; rintro e w4 ⟨rfl, hK4⟩; have HK4 := Lib.hid hK4; clear hK4))
      go_ret
      exact ⟨rfl, (HKB.out.trans HK3.out).trans HK4.out⟩

/-- What a call of Parse has done at a text that is read. -/
theorem parse_good (B : Nat) (s : ByteArray) (w : World) (g : Flt) (hE : Env B w) (hp : parseP s = .ok g) : Calls Tryz.prog 12 #[.string s] w (fun e w' => ∃ a1 c1 a2 c2, e = .returned (.tuple #[.agg #[.int .i8 g.it.kind, .slice a1 g.kids.length c1, .string g.it.desc, .string g.it.value, .string g.it.start, .slice a2 g.it.mids.length c2, .string g.it.fin, .string g.it.rule, .bool g.it.dn], .nilIface]) ∧
    FltR w' w.heap.size w'.heap.size g (nineA g a1 c1 a2 c2) ∧ Keep [] w w') := by
  have h := parse_all B s w hE
  rw [hp] at h
  refine h.mono ?_
  rintro e w' ⟨a1, c1, a2, c2, v, rfl, hG, hV, hK⟩
  have hv : v = .nilIface := by
    rcases hV with h | h
    · exact h.1
    · exact absurd rfl h.1
  subst hv
  exact ⟨a1, c1, a2, c2, rfl, hG, hK⟩
theorem BoxF.dat {W : World} {b lo hi : Nat} {g : Flt} {a1 : Option Addr} {c1 : Nat} {a2 : Option Addr} {c2 : Nat} (h : BoxF W b lo hi g a1 c1 a2 c2) : FltD W W.heap.size g (nineA g a1 c1 a2 c2) := h.G.toD (by have := h.lt; have := h.size; omega)
theorem check_box (B : Nat) {W : World} {b lo hi : Nat} {g : Flt} {a1 : Option Addr} {c1 : Nat} {a2 : Option Addr} {c2 : Nat} (h : BoxF W b lo hi g a1 c1 a2 c2) (hE : Env B W) : Calls Tryz.prog 24 #[.agg (nineA g a1 c1 a2 c2).toArray] W (ChR W (checkR g)) := check_calls B W.heap.size g _ W h.dat hE (Nat.le_refl _)
theorem print_box (B : Nat) {W : World} {b lo hi : Nat} {g : Flt} {a1 : Option Addr} {c1 : Nat} {a2 : Option Addr} {c2 : Nat} (h : BoxF W b lo hi g a1 c1 a2 c2) (hE : Env B W) : Calls Tryz.prog 20 #[.agg (nineA g a1 c1 a2 c2).toArray] W (PriR W (printR g)) := print_any B W.heap.size g _ W h.dat hE (Nat.le_refl _)
theorem osame_box {W : World} {b lo hi b' lo' hi' : Nat} {g : Flt} {a1 : Option Addr} {c1 : Nat} {a2 : Option Addr} {c2 : Nat} {d1 : Option Addr} {e1 : Nat} {d2 : Option Addr} {e2 : Nat} (h : BoxF W b lo hi g a1 c1 a2 c2) (h' : BoxF W b' lo' hi' g d1 e1 d2 e2) : Calls Tryz.prog 25 #[.agg (nineA g a1 c1 a2 c2).toArray, .agg (nineA g d1 e1 d2 e2).toArray] W (RetB W true) :=
  osame_any W.heap.size W.heap.size (weight g) g _ _ W (Nat.le_refl _) (Nat.le_refl _) (Nat.le_refl _) h.dat h'.dat

set_option maxRecDepth 100000 in
set_option maxHeartbeats 4000000 in
theorem reads_ok (B : Nat) (s : ByteArray) (w : World) (hE : Env B w) (g : Flt) (hp : parseP s = .ok g) : Calls Tryz.prog 8 #[.string s] w (RetB w true) := by
  have HE := Lib.hid hE
  obtain ⟨hs1, n, d, hck, hn1, hn2, hd1, hd2⟩ := parse_check hp
  have HP := Lib.hid (parse_good B s w g hE hp)
  have HCK := Lib.hid hck
  have HW := Lib.hid (fun W (h : Env B W) => wakes_any B W h)
  have hn1' : (1 : Int) ≤ (n : Int) := by omega
  have hn2' : (n : Int) ≤ 65536 := by omega
  have hd1' : (1 : Int) ≤ (d : Int) := by omega
  have hd2' : (d : Int) ≤ 64 := by omega
  clear hE hp hck hn1 hn2 hd1 hd2
  go_enter Tryz.func8, Tryz.ntmps8
  go_upto_region 2 with (go_at_call 12; refine HP.out.mono ?_; rintro e w1 ⟨a1, c1, a2, c2, rfl, hG1, hK1⟩; have HG1 := Lib.hid hG1; have HK1 := Lib.hid hK1; clear hG1 hK1)
  obtain ⟨W1, hW1⟩ : ∃ W1, W1 = w1.alloc (.cells (nineA g a1 c1 a2 c2).toArray 26) := ⟨_, rfl⟩
  have hk : Keep [] w1 W1 := by rw [hW1]; exact (Keep.refl [] w1).alloc _
  have HB3 : Hid (BoxF W1 w1.heap.size w.heap.size w1.heap.size g a1 c1 a2 c2) := Lib.hid ⟨by rw [hW1]; exact alloc_at _ _, HG1.out.keep hk (by simp), HK1.out.size, Nat.le_refl _⟩
  have HKA := Lib.hid (HK1.out.trans hk)
  unfold nineA nineOf at hW1
  rw [← hW1]
  clear hW1 hk HG1 HK1 HP
  have HC := Lib.hid (check_box B HB3.out (HE.out.keep0 HKA.out))
  unfold ChR at HC
  rw [HCK.out] at HC
  unfold nineA nineOf at HC
  dsimp only at HC
  obtain ⟨x0, x1, x2, x3, x4, x5, x6, x7, x8, xf⟩ := nine HB3.out.X
  go_upto_region 13 with (go_at_call 24; refine HC.out.mono ?_; rintro e w2 ⟨rfl, hK2⟩; have HK2 := Lib.hid hK2; clear hK2)
  have HKB := Lib.hid (HKA.out.trans HK2.out)
  have HB3b := Lib.hid (HB3.out.keep0 HK2.out)
  clear x0 x1 x2 x3 x4 x5 x6 x7 x8 xf HC HK2 HKA HB3
  go_upto_region 15 with fail
  have HPR := Lib.hid (print_box B HB3b.out (HE.out.keep0 HKB.out))
  obtain ⟨x0, x1, x2, x3, x4, x5, x6, x7, x8, xf⟩ := nine HB3b.out.X
  have hz : (checkR g).1 = 0 := by rw [HCK.out]
  unfold PriR nineA nineOf at HPR
  by_cases hl : (printL g).length ≤ 1048576
  · have hpr : printR g = (⟨(printL g).toArray⟩, 0) := by unfold printR; rw [if_neg (by rw [hz]; decide), if_pos hl]
    have hpp := parse_print hz hl
    obtain ⟨T, hT⟩ : ∃ T : ByteArray, (⟨(printL g).toArray⟩ : ByteArray) = T := ⟨_, rfl⟩
    rw [hT] at hpr hpp
    have HPP := Lib.hid (fun W (h : Env B W) => parse_good B T W g h hpp)
    have HPR2 : Hid (∀ W b lo hi p1 q1 p2 q2, BoxF W b lo hi g p1 q1 p2 q2 → Env B W → Calls Tryz.prog 20 #[.agg (nineA g p1 q1 p2 q2).toArray] W (fun e w' => e = .returned (.tuple #[.string T, .int .i64 0]) ∧ Keep [] W w')) := Lib.hid (fun W b lo hi p1 q1 p2 q2 h he => by
      have := print_box B h he
      unfold PriR at this
      rw [hpr] at this
      exact this)
    rw [hpr] at HPR
    dsimp only at HPR
    clear hpr hpp hT hl hz HCK
    go_upto_region 16 with (go_at_call 20; refine HPR.out.mono ?_; rintro e w3 ⟨rfl, hK3⟩; have HK3 := Lib.hid hK3; clear hK3)
    have HKC := Lib.hid (HKB.out.trans HK3.out)
    have HB3c := Lib.hid (HB3b.out.keep0 HK3.out)
    clear x0 x1 x2 x3 x4 x5 x6 x7 x8 xf HPR HK3 HKB HB3b
    go_upto_region 19 with (go_at_call 12; refine (HPP.out _ (HE.out.keep0 HKC.out)).mono ?_; rintro e w4 ⟨p1, q1, p2, q2, rfl, hG4, hK4⟩; have HG4 := Lib.hid hG4; have HK4 := Lib.hid hK4; clear hG4 hK4)
    obtain ⟨W4, hW4⟩ : ∃ W4, W4 = w4.alloc (.cells (nineA g p1 q1 p2 q2).toArray 26) := ⟨_, rfl⟩
    have hk : Keep [] w4 W4 := by rw [hW4]; exact (Keep.refl [] w4).alloc _
    have HB12 : Hid (BoxF W4 w4.heap.size w3.heap.size w4.heap.size g p1 q1 p2 q2) := Lib.hid ⟨by rw [hW4]; exact alloc_at _ _, HG4.out.keep hk (by simp), HK4.out.size, Nat.le_refl _⟩
    have HKD := Lib.hid (HKC.out.trans (HK4.out.trans hk))
    have HB3d := Lib.hid (HB3c.out.keep0 (HK4.out.trans hk))
    unfold nineA nineOf at hW4
    rw [← hW4]
    clear hW4 hk HG4 HK4 HPP HKC HB3c
    have HPS := Lib.hid (HPR2.out _ _ _ _ _ _ _ _ HB12.out (HE.out.keep0 HKD.out))
    unfold nineA nineOf at HPS
    obtain ⟨x0, x1, x2, x3, x4, x5, x6, x7, x8, xf⟩ := nine HB12.out.X
    go_upto_region 20 with (go_at_call 20; refine HPS.out.mono ?_; rintro e w5 ⟨rfl, hK5⟩; have HK5 := Lib.hid hK5; clear hK5)
    have HKE := Lib.hid (HKD.out.trans HK5.out)
    have HB3e := Lib.hid (HB3d.out.keep0 HK5.out)
    have HB12e := Lib.hid (HB12.out.keep0 HK5.out)
    clear x0 x1 x2 x3 x4 x5 x6 x7 x8 xf HPS HK5 HKD HB3d HB12 HPR2
    have HS := Lib.hid (osame_box HB3e.out HB12e.out)
    unfold nineA nineOf at HS
    obtain ⟨x0, x1, x2, x3, x4, x5, x6, x7, x8, xf⟩ := nine HB12e.out.X
    obtain ⟨y0, y1, y2, y3, y4, y5, y6, y7, y8, yf⟩ := nine HB3e.out.X
    go_wp2_with (first
      | (go_at_call 25; refine HS.out.mono ?_; rintro e w6 ⟨rfl, hK6⟩; have HK6 := Lib.hid hK6; clear hK6)
      | (go_at_call 16; refine (HW.out _ (HE.out.keep0 (HKE.out.trans HK6.out))).mono ?_; rintro e w7 ⟨rfl, hK7⟩; have HK7 := Lib.hid hK7; clear hK7))
    go_ret
    exact ⟨rfl, (HKE.out.trans HK6.out).trans HK7.out⟩
  · have hpr : printR g = (⟨#[]⟩, 3) := by unfold printR; rw [if_neg (by rw [hz]; decide), if_neg hl]
    rw [hpr] at HPR
    dsimp only at HPR
    clear hpr hl hz HCK
    go_wp2_with (first
      | (go_at_call 20; refine HPR.out.mono ?_; rintro e w3 ⟨rfl, hK3⟩; have HK3 := Lib.hid hK3; clear hK3)
      | (go_at_call 16; refine (HW.out _ (HE.out.keep0 (HKB.out.trans HK3.out))).mono ?_; rintro e w7 ⟨rfl, hK7⟩; have HK7 := Lib.hid hK7; clear hK7))
    go_ret
    exact ⟨rfl, (HKB.out.trans HK3.out).trans HK7.out⟩

theorem reads_any (B : Nat) (s : ByteArray) (w : World) (hE : Env B w) : Calls Tryz.prog 8 #[.string s] w (RetB w true) := by
  cases hp : parseP s with
  | error f =>
    obtain ⟨c, p, wd⟩ := f
    exact reads_err B s w hE c p wd hp
  | ok g => exact reads_ok B s w hE g hp
end Go.Proofs.YtjmpcoedfoaebaaGreatDoor
