/- 'rosterlaw10.TextDeep', the walk: it answers true. -/
import Derived.Test.YtjmpcoedfoaebaaGreatDoorRds
import Derived.Test.YtjmpcoedfoaebaaGreatDoorDpa
import Derived.Test.YtjmpcoedfoaebaaGreatDoorByt
import Derived.Deep.RegionHeld3
import Derived.Deep.DeepCutAuto
open Go Go.RowKit
namespace Go.Proofs.YtjmpcoedfoaebaaGreatDoor

theorem op_app (k : Nat) : (⟨(opL k).toArray⟩ : ByteArray) ++ ⟨#[40, 33]⟩ = ⟨(opL (k + 1)).toArray⟩ := by
  apply ByteArray.ext; apply Array.ext'; simp [opL]
theorem sh_app (k : Nat) : (⟨(shL k).toArray⟩ : ByteArray) ++ ⟨#[41]⟩ = ⟨(shL (k + 1)).toArray⟩ := by
  apply ByteArray.ext; apply Array.ext'; simp [shL]
theorem three_app (a b c : List UInt8) : (⟨a.toArray⟩ : ByteArray) ++ ⟨b.toArray⟩ ++ ⟨c.toArray⟩ = ⟨(a ++ b ++ c).toArray⟩ := by
  apply ByteArray.ext; apply Array.ext'; simp
theorem two_app (a b : List UInt8) : (⟨a.toArray⟩ : ByteArray) ++ ⟨b.toArray⟩ = ⟨(a ++ b).toArray⟩ := by
  apply ByteArray.ext; apply Array.ext'; simp
theorem mb_next (k : Nat) : Lib.byteCells ([40, 124] ++ manyL k) ++ Lib.strCells ⟨#[40, 97, 61, 98, 41]⟩ = Lib.byteCells ([40, 124] ++ manyL (k + 1)) := by
  have h := Lib.byteCells_append ([40, 124] ++ manyL k) abL
  rw [manyL, ← List.append_assoc, h]
  rfl
theorem mb_len (k : Nat) : ([40, 124] ++ manyL k : List UInt8).length = 2 + 5 * k := by rw [List.length_append, manyL_len]; rfl
theorem four_app (a b c d : List UInt8) : (⟨a.toArray⟩ : ByteArray) ++ ⟨b.toArray⟩ ++ ⟨c.toArray⟩ ++ ⟨d.toArray⟩ = ⟨(a ++ b ++ c ++ d).toArray⟩ := by
  apply ByteArray.ext; apply Array.ext'; simp
/-- The middle of the row. -/
theorem mb_mid (m : Nat) : ((([40, 124] ++ manyL (m + 1) : List UInt8).drop 2).take (5 * m)) = manyL m := by
  show (manyL (m + 1)).take (5 * m) = manyL m
  rw [manyL, List.take_append_of_le_length (by rw [manyL_len]; exact Nat.le_refl _)]
  exact List.take_of_length_le (by rw [manyL_len]; exact Nat.le_refl _)

/-- A filter that is read, in a variable somewhere. -/
structure BoxN (W : World) (b : Nat) (g : Flt) (a1 : Option Addr) (c1 : Nat) (a2 : Option Addr) (c2 : Nat) : Prop where
  X : W.heap[b]? = some (.cells (nineA g a1 c1 a2 c2).toArray 26 (0, 0))
  D : FltD W W.heap.size g (nineA g a1 c1 a2 c2)
theorem check_n (B : Nat) {W : World} {b : Nat} {g : Flt} {a1 : Option Addr} {c1 : Nat} {a2 : Option Addr} {c2 : Nat} (h : BoxN W b g a1 c1 a2 c2) (hE : Env B W) : Calls Tryz.prog 24 #[.agg (nineA g a1 c1 a2 c2).toArray] W (ChR W (checkR g)) := check_calls B W.heap.size g _ W h.D hE (Nat.le_refl _)

theorem fin_a {w : World} {lo : Nat} {g : Flt} {e1 : Option Addr} {f1 : Nat} {e2 : Option Addr} {f2 : Nat} (h : FltR w lo w.heap.size g (nineA g e1 f1 e2 f2)) : BoxN (w.alloc (.cells (nineA g e1 f1 e2 f2).toArray 26)) w.heap.size g e1 f1 e2 f2 :=
  ⟨alloc_at _ _, (h.keep ((Keep.refl [] w).alloc _) (by simp)).toD ((Keep.refl [] w).alloc _).size⟩
theorem fin_b0 {w : World} {b lo : Nat} {g : Flt} {e1 : Option Addr} {f1 : Nat} {e2 : Option Addr} {f2 : Nat} (h : FltR w lo w.heap.size g (nineA g e1 f1 e2 f2)) (hb : b < lo) (hz : w.heap[b]? = some (.cells #[.int .i8 0, .slice none 0 0, .string ⟨#[]⟩, .string ⟨#[]⟩, .string ⟨#[]⟩, .slice none 0 0, .string ⟨#[]⟩, .string ⟨#[]⟩, .bool false] 26 (0, 0))) :
    BoxN (w.setCells b 0 [.int .i8 g.it.kind, .slice e1 g.kids.length f1, .string g.it.desc, .string g.it.value, .string g.it.start, .slice e2 g.it.mids.length f2, .string g.it.fin, .string g.it.rule, .bool g.it.dn]) b g e1 f1 e2 f2 :=
  ⟨nine_block hz _ _ _ _ _ _ _ _ _, (h.keep (setCells_keep (S := [b]) (.inl (by simp)) _ _ _ (Keep.refl [b] w)) (fun x hx => by simp at hx; omega)).toD (setCells_keep (S := [b]) (.inl (by simp)) _ _ _ (Keep.refl [b] w)).size⟩
theorem fin_b {w : World} {b lo : Nat} {g : Flt} {e1 : Option Addr} {f1 : Nat} {e2 : Option Addr} {f2 : Nat} (h : FltR w lo w.heap.size g (nineA g e1 f1 e2 f2)) (hb : b < lo) (hz : w.heap[b]? = some (.cells #[.int .i8 0, .slice none 0 0, .string ⟨#[]⟩, .string ⟨#[]⟩, .string ⟨#[]⟩, .slice none 0 0, .string ⟨#[]⟩, .string ⟨#[]⟩, .bool false] 26 (0, 0))) :
    BoxN (((((((((w.setCell ⟨b, 0, none⟩ (.int .i8 g.it.kind)).setCell ⟨b, 1, none⟩ (.slice e1 g.kids.length f1)).setCell ⟨b, 2, none⟩ (.string g.it.desc)).setCell ⟨b, 3, none⟩ (.string g.it.value)).setCell ⟨b, 4, none⟩ (.string g.it.start)).setCell ⟨b, 5, none⟩ (.slice e2 g.it.mids.length f2)).setCell ⟨b, 6, none⟩ (.string g.it.fin)).setCell ⟨b, 7, none⟩ (.string g.it.rule)).setCell ⟨b, 8, none⟩ (.bool g.it.dn)) b g e1 f1 e2 f2 := fin_b0 h hb hz

set_option maxRecDepth 100000 in
set_option maxHeartbeats 4000000 in
theorem deep_any (B : Nat) (w : World) (hE : Env B w) : Calls Tryz.prog 10 #[] w (RetB w true) := by
  have HE := Lib.hid hE
  have HW := Lib.hid (fun W (h : Env B W) => wakes_any B W h)
  have HP1 := Lib.hid (fun W (h : Env B W) => parse_good B _ W _ h parse_deep63)
  have HP2 : Hid (∀ W, Env B W → Calls Tryz.prog 12 #[.string ⟨(opL 63 ++ [40, 33, 40, 97, 61, 98, 41, 41] ++ shL 63).toArray⟩] W (PRet W (.error (91, 128, ⟨#[40]⟩)))) := Lib.hid (fun W h => by rw [← parse_deep64]; exact parse_any B _ W h)
  unfold PRet at HP2
  dsimp only at HP2
  obtain ⟨f63, hf63⟩ : ∃ g, deepF 63 = g := ⟨_, rfl⟩
  have HC1 := Lib.hid check_dp63
  rw [hf63] at HP1 HC1
  clear hE hf63
  go_enter Tryz.func10, Tryz.ntmps10
  go_wp2_with fail
  go_loopg [3, 1, 2] (63) (fun g i o c wr => ∃ k : Nat, ∃ O S : ByteArray, k ≤ 63 ∧ 63 ≤ g + k ∧ i = .int .i64 k ∧ o = .string O ∧ c = .string S ∧ O.size ≤ 2 * k ∧ S.size ≤ k ∧ Hid (O = ⟨(opL k).toArray⟩ ∧ S = ⟨(shL k).toArray⟩) ∧ Hid (Keep [] w wr))
  case atStart => exact ⟨0, ⟨#[]⟩, ⟨#[]⟩, Nat.zero_le _, by omega, rfl, rfl, rfl, Nat.le_refl _, Nat.le_refl _, Lib.hid ⟨rfl, rfl⟩, Lib.hid (Keep.refl _ _)⟩
  case round =>
  obtain ⟨k, O, S, hk, hg, rfl, rfl, rfl, hOs, hSs, HOS, HK0⟩ := hrel
  by_cases hlt : k < 63
  · go_wp2_with fail
    go_roundg (63 - (k + 1))
    case measure => omega
    case rel => exact ⟨k + 1, O ++ ⟨#[40, 33]⟩, S ++ ⟨#[41]⟩, by omega, by omega, by go_num, rfl, rfl, by rw [ByteArray.size_append]; show O.size + 2 ≤ _; omega, by rw [ByteArray.size_append]; show S.size + 1 ≤ _; omega, Lib.hid ⟨by rw [HOS.out.1, op_app], by rw [HOS.out.2, sh_app]⟩, HK0⟩
  have HO : Hid (O ++ ⟨#[40, 97, 61, 98, 41]⟩ ++ S = ⟨(opL 63 ++ abL ++ shL 63).toArray⟩) := Lib.hid (by
    have h := HOS.out
    rw [show k = 63 by omega] at h
    rw [h.1, h.2]
    exact three_app _ _ _)
  have HO2 : Hid (O ++ ⟨#[40, 33, 40, 97, 61, 98, 41, 41]⟩ ++ S = ⟨(opL 63 ++ [40, 33, 40, 97, 61, 98, 41, 41] ++ shL 63).toArray⟩) := Lib.hid (by
    have h := HOS.out
    rw [show k = 63 by omega] at h
    rw [h.1, h.2]
    exact three_app _ _ _)
  have hO1 : O.size ≤ 126 := by omega
  have hS1 : S.size ≤ 63 := by omega
  have hO2 : (O ++ ⟨#[40, 97, 61, 98, 41]⟩).size = O.size + 5 := ByteArray.size_append
  have hO3 : (O ++ ⟨#[40, 33, 40, 97, 61, 98, 41, 41]⟩).size = O.size + 8 := ByteArray.size_append
  clear HOS hOs hSs
  rw [← HO.out] at HP1
  rw [← HO2.out] at HP2
  clear HO HO2
  have HE0 := Lib.hid (HE.out.keep0 HK0.out)
  go_upto_region 9 with (go_at_call 12; refine (HP1.out _ HE0.out).mono ?_; rintro e w1 ⟨a1, c1, a2, c2, rfl, hG1, hK1⟩; have HG1 := Lib.hid hG1; have HK1 := Lib.hid hK1; clear hG1 hK1)
  obtain ⟨W1, hW1⟩ : ∃ W1, W1 = w1.alloc (.cells (nineA f63 a1 c1 a2 c2).toArray 26) := ⟨_, rfl⟩
  have hk1 : Keep [] w1 W1 := by rw [hW1]; exact (Keep.refl [] w1).alloc _
  have HB3 : Hid (BoxF W1 w1.heap.size wr.heap.size w1.heap.size f63 a1 c1 a2 c2) := Lib.hid ⟨by rw [hW1]; exact alloc_at _ _, HG1.out.keep hk1 (by simp), HK1.out.size, Nat.le_refl _⟩
  have HKA := Lib.hid (HK0.out.trans (HK1.out.trans hk1))
  have HEA := Lib.hid (HE0.out.keep0 (HK1.out.trans hk1))
  unfold nineA nineOf at hW1
  rw [← hW1]
  clear hW1 hk1 HG1 HK1 HP1 HK0 HE0
  have HC := Lib.hid (check_box B HB3.out HEA.out)
  unfold ChR at HC
  rw [HC1.out] at HC
  unfold nineA nineOf at HC
  dsimp only at HC
  obtain ⟨x0, x1, x2, x3, x4, x5, x6, x7, x8, xf⟩ := nine HB3.out.X
  go_upto_region 10 with (go_at_call 24; refine HC.out.mono ?_; rintro e w2 ⟨rfl, hK2⟩; have HK2 := Lib.hid hK2; clear hK2)
  have HKB := Lib.hid (HKA.out.trans HK2.out)
  have HEB := Lib.hid (HEA.out.keep0 HK2.out)
  clear x0 x1 x2 x3 x4 x5 x6 x7 x8 xf HC HK2 HKA HEA HB3 HC1
  go_upto_region 11 with (go_at_call 12; refine (HP2.out _ HEB.out).mono ?_; rintro e w3 ⟨fb, rfl, hF3, hK3⟩; have HF3 := Lib.hid hF3; have HK3 := Lib.hid hK3; clear hF3 hK3)
  obtain ⟨W3, hW3⟩ : ∃ W3, W3 = w3.alloc (.cells #[.int .i8 0, .slice none 0 0, .string ⟨#[]⟩, .string ⟨#[]⟩, .string ⟨#[]⟩, .slice none 0 0, .string ⟨#[]⟩, .string ⟨#[]⟩, .bool false] 26) := ⟨_, rfl⟩
  have hk : Keep [] w3 W3 := by rw [hW3]; exact (Keep.refl [] w3).alloc _
  have HKC := Lib.hid (HKB.out.trans (HK3.out.trans hk))
  have HEC := Lib.hid (HEB.out.keep0 (HK3.out.trans hk))
  have HFa : Hid (W3.heap[fb]? = some (.cells #[.int .i64 91, .int .i64 128, .string ⟨#[40]⟩] 29 (0, 0))) := Lib.hid (by obtain ⟨fb', he, hF⟩ := HF3.out; cases he; exact hk.heap hF (by simp))
  rw [← hW3]
  clear hW3 hk HF3 HK3 HP2 HKB HEB
  have HT := Lib.hid (told_hit B fb 91 128 ⟨#[40]⟩ W3 HEC.out (by decide) HFa.out)
  go_upto_region 12 with (go_at_call 13; refine HT.out.mono ?_; rintro e w4 ⟨rfl, hK4⟩; have HK4 := Lib.hid hK4; clear hK4)
  obtain ⟨W4, hW4⟩ : ∃ W4, W4 = w4.alloc (.cells #[.int .i64 91, .int .i64 128, .string ⟨#[40]⟩] 29) := ⟨_, rfl⟩
  have hk : Keep [] w4 W4 := by rw [hW4]; exact (Keep.refl [] w4).alloc _
  have HB11 : Hid (W4.heap[w4.heap.size]? = some (.cells #[.int .i64 91, .int .i64 128, .string ⟨#[40]⟩] 29 (0, 0))) := Lib.hid (by rw [hW4]; exact alloc_at _ _)
  have HKD := Lib.hid (HKC.out.trans (HK4.out.trans hk))
  have hnew : w.heap.size ≤ w4.heap.size := (HKC.out.trans HK4.out).size
  rw [← hW4]
  clear hW4 hk HK4 HT HFa HKC HEC
  obtain ⟨y0, y1, y2, yf⟩ := three HB11.out
  go_upto_region 15 with fail
  clear y0 y1 y2 yf
  obtain ⟨i0, hi0, hz0, hz1, hz2⟩ := info_partsV Tryz.infoU8
  have hW4s : w.heap.size ≤ W4.heap.size := HKD.out.size
  go_upto_region 16 with (at_builtin; refine Lib.wpList_append_own_string _ rfl (.tmp 80) (.const (.string ⟨#[40, 124]⟩)) 49 9 rfl W4.heap.size 5 i0 Tryz.underlying49 Tryz.underlying9 hi0 hz0 hz1 hz2 (.slice none 0 0) 0 [] (by rfl) (by exact World.ownsRow_nil _ _ _ _) ⟨#[40, 124]⟩ (by rfl) (by decide) (by decide) (by omega) ?_; intro v5 w5 ho5 hg5 _; have HO5 := Lib.hid ho5; have HG5 := Lib.hid hg5; clear ho5 hg5)
  have HKE : Hid (Keep [] w w5) := Lib.hid (HKD.out.grown HG5.out (fun k hk => by cases hk))
  have HKE4 : Hid (Keep [] W4 w5) := Lib.hid ((Keep.refl [] W4).grown HG5.out (fun k hk => by cases hk))
  have HO5' : Hid (w5.ownsRow W4.heap.size 5 1 v5 (2 + 5 * 0) (Lib.byteCells ([40, 124] ++ manyL 0))) := HO5
  clear HO5 HG5
  go_wp2_with fail
  obtain ⟨M, hM1, hM2⟩ : ∃ M : Nat, M ≤ 65535 ∧ 65535 ≤ M := ⟨65535, Nat.le_refl _, Nat.le_refl _⟩
  go_loopg [14, 13] (M) (fun g i bv wr => ∃ k j : Nat, k ≤ M ∧ M ≤ g + k ∧ i = .int .i64 j ∧ Hid (j = k + 1) ∧ Hid (wr.ownsRow W4.heap.size 5 1 bv (2 + 5 * k) (Lib.byteCells ([40, 124] ++ manyL k))) ∧ Hid (Keep [] w wr) ∧ Hid (Keep [] W4 wr))
  case atStart => exact ⟨0, 1, Nat.zero_le _, by omega, rfl, Lib.hid rfl, HO5', HKE, HKE4⟩
  case round =>
  clear HKE HKE4 HO5'
  obtain ⟨k, j, hk, hg, rfl, HJ, HOk, HKk, HK4⟩ := hrel
  have hj1 : (j : Int) ≤ 65536 := by have := HJ.out; omega
  have hW5s : W4.heap.size ≤ wr.heap.size := HK4.out.size
  by_cases hlt : k < M
  · have hj2 : (j : Int) < 65536 := by have := HJ.out; omega
    go_wp2_with (at_builtin; refine Lib.wpList_append_own_string _ rfl (.tmp 86) (.const (.string ⟨#[40, 97, 61, 98, 41]⟩)) 49 9 rfl W4.heap.size 5 i0 Tryz.underlying49 Tryz.underlying9 hi0 hz0 hz1 hz2 _ (2 + 5 * k) (Lib.byteCells ([40, 124] ++ manyL k)) (by rfl) (by exact HOk.out) ⟨#[40, 97, 61, 98, 41]⟩ (by rfl) (by show 2 + 5 * k + 5 ≤ maxLen; unfold maxLen; omega) (by show 2 + 5 * k + 5 ≤ _; omega) (by omega) ?_; intro v6 w6 ho6 hg6 _; have HO6 := Lib.hid ho6; have HG6 := Lib.hid hg6; clear ho6 hg6)
    go_roundg (M - (k + 1))
    case measure => omega
    case rel =>
      have HO7 : Hid (w6.ownsRow W4.heap.size 5 1 v6 (2 + 5 * (k + 1)) (Lib.byteCells ([40, 124] ++ manyL (k + 1)))) := Lib.hid (by
        have h := HO6.out
        rw [mb_next] at h
        exact h)
      exact ⟨k + 1, j + 1, by omega, by omega, by go_num, Lib.hid (by rw [HJ.out]), HO7, Lib.hid (HKk.out.grown HG6.out (fun q hq => .inr (Nat.le_trans hW4s (own_ge HOk.out hq)))), Lib.hid (HK4.out.grown HG6.out (fun q hq => .inr (own_ge HOk.out hq)))⟩
  have hj3 : ¬ ((j : Int) < 65536) := by have := HJ.out; omega
  obtain ⟨L, hL⟩ : ∃ L : Nat, 2 + 5 * k = L := ⟨_, rfl⟩
  have HL := Lib.hid hL
  have HM : Hid (1 + k = 65536) := Lib.hid (by omega)
  obtain ⟨m, hm⟩ : ∃ m, k = m + 1 := ⟨k - 1, by omega⟩
  have HMm := Lib.hid hm
  rw [hL] at HOk
  have hL1 : L ≤ 327677 := by omega
  have hL2 : 327677 ≤ L := by omega
  obtain ⟨gb, cap, rfl, hgb⟩ := own_block HOk.out (by omega)
  obtain ⟨ll, hll⟩ : ∃ l, ([40, 124] ++ manyL k : List UInt8) = l := ⟨_, rfl⟩
  have hlll : ll.length = L := by rw [← hll, mb_len, hL]
  have HLL := Lib.hid hll
  rw [hll] at HOk
  obtain ⟨TT, hTT⟩ : ∃ T : ByteArray, (⟨ll.toArray⟩ : ByteArray) = T := ⟨_, rfl⟩
  have hTs : TT.size = L := by rw [← hTT, ← hlll]; simp [ByteArray.size]
  have HCV : Hid (∀ W : World, W.ownsRow W4.heap.size 5 1 (.slice (some ⟨gb, 0, none⟩) L cap) L (Lib.byteCells ll) → (convert 49 9 (.slice (some ⟨gb, 0, none⟩) L cap)).run Tryz.prog W = .ok (.string TT) W) := Lib.hid (fun W h => by rw [← hTT]; exact conv_owns ll h)
  obtain ⟨fm, hfm⟩ : ∃ g, orF (List.replicate k abF) = g := ⟨_, rfl⟩
  have HC3 : Hid (checkR fm = (0, 65536, 2)) := Lib.hid (by rw [← hfm, check_many (by omega) (by have := HM.out; omega), HM.out])
  have HP3 : Hid (∀ W, Env B W → Calls Tryz.prog 12 #[.string (TT ++ ⟨#[41]⟩)] W (fun e w' => ∃ a1 c1 a2 c2, e = .returned (.tuple #[.agg #[.int .i8 fm.it.kind, .slice a1 fm.kids.length c1, .string fm.it.desc, .string fm.it.value, .string fm.it.start, .slice a2 fm.it.mids.length c2, .string fm.it.fin, .string fm.it.rule, .bool fm.it.dn], .nilIface]) ∧
    FltR w' W.heap.size w'.heap.size fm (nineA fm a1 c1 a2 c2) ∧ Keep [] W w')) := Lib.hid (fun W h => by
      have hp := parse_many (m := k) (by omega) (by have := HM.out; omega)
      rw [← two_app, hll, hTT, hfm] at hp
      exact parse_good B _ W _ h hp)
  have HP4 : Hid (∀ W, Env B W → Calls Tryz.prog 12 #[.string (TT ++ ⟨#[40, 97, 61, 98, 41, 41]⟩)] W (PRet W (.error (3, L, ⟨#[40]⟩)))) := Lib.hid (fun W h => by
      have hp := parse_over HM.out
      rw [← two_app, hll, hTT, hL] at hp
      rw [← hp]; exact parse_any B _ W h)
  unfold PRet at HP4
  dsimp only at HP4
  clear hfm hTT hll hL hm HM HL
  have hcv := HCV.out _ HOk.out
  have HEk := Lib.hid (HE.out.keep0 HKk.out)
  go_upto_region 21 with (go_at_call 12; refine (HP3.out _ HEk.out).mono ?_; rintro e w6 ⟨b1, d1, b2, d2, rfl, hG6, hK6⟩; have HG6 := Lib.hid hG6; have HK6 := Lib.hid hK6; clear hG6 hK6)
  obtain ⟨W6, hW6⟩ : ∃ W6, W6 = w6.alloc (.cells (nineA fm b1 d1 b2 d2).toArray 26) := ⟨_, rfl⟩
  have hk6 : Keep [] w6 W6 := by rw [hW6]; exact (Keep.refl [] w6).alloc _
  have HB15 : Hid (BoxF W6 w6.heap.size wr.heap.size w6.heap.size fm b1 d1 b2 d2) := Lib.hid ⟨by rw [hW6]; exact alloc_at _ _, HG6.out.keep hk6 (by simp), HK6.out.size, Nat.le_refl _⟩
  have HKr6 := Lib.hid (HK6.out.trans hk6)
  have HEA := Lib.hid (HEk.out.keep0 HKr6.out)
  unfold nineA nineOf at hW6
  rw [← hW6]
  clear hW6 hk6 HG6 HK6 HP3 HEk hcv
  have HC := Lib.hid (check_box B HB15.out HEA.out)
  unfold ChR at HC
  rw [HC3.out] at HC
  unfold nineA nineOf at HC
  dsimp only at HC
  obtain ⟨x0, x1, x2, x3, x4, x5, x6, x7, x8, xf⟩ := nine HB15.out.X
  go_upto_region 22 with (go_at_call 24; refine HC.out.mono ?_; rintro e w7 ⟨rfl, hK7⟩; have HK7 := Lib.hid hK7; clear hK7)
  have HKr7 := Lib.hid (HKr6.out.trans HK7.out)
  have HEB := Lib.hid (HEA.out.keep0 HK7.out)
  have HO7 := Lib.hid (own_keepV HOk.out HKr7.out (by simp))
  clear x0 x1 x2 x3 x4 x5 x6 x7 x8 xf HC HK7 HEA HB15 HC3 HKr6
  have hcv := HCV.out _ HO7.out
  go_upto_region 23 with (go_at_call 12; refine (HP4.out _ HEB.out).mono ?_; rintro e w8 ⟨fb8, rfl, hF8, hK8⟩; have HF8 := Lib.hid hF8; have HK8 := Lib.hid hK8; clear hF8 hK8)
  have HKr8 := Lib.hid (HKr7.out.trans HK8.out)
  have HEC := Lib.hid (HEB.out.keep0 HK8.out)
  have HFb : Hid (w8.heap[fb8]? = some (.cells #[.int .i64 3, .int .i64 L, .string ⟨#[40]⟩] 29 (0, 0))) := Lib.hid (by obtain ⟨fb', he, hF⟩ := HF8.out; cases he; exact hF)
  have HT := Lib.hid (told_hit B fb8 3 L ⟨#[40]⟩ w8 HEC.out (by decide) HFb.out)
  clear hcv HF8 HK8 HP4 HKr7 HEB HO7 HFb
  go_upto_region 24 with (go_at_call 13; refine HT.out.mono ?_; rintro e w9 ⟨rfl, hK9⟩; obtain ⟨y0, y1, y2, yf⟩ := three ((HK4.out.trans (HKr8.out.trans hK9)).heap HB11.out (by simp)); have HK9 := Lib.hid hK9; clear hK9)
  have HKr9 := Lib.hid (HKr8.out.trans HK9.out)
  have hw4 : w4.heap.size < W4.heap.size := lt_of_block HB11.out
  have HB11b := Lib.hid ((HK4.out.trans HKr9.out).heap HB11.out (by simp))
  have HO9 := Lib.hid (own_keepV HOk.out HKr9.out (by simp))
  obtain ⟨W9, hW9⟩ : ∃ W9, W9 = ((w9.setCell ⟨w4.heap.size, 0, none⟩ (.int .i64 3)).setCell ⟨w4.heap.size, 1, none⟩ (.int .i64 L)).setCell ⟨w4.heap.size, 2, none⟩ (.string ⟨#[40]⟩) := ⟨_, rfl⟩
  have HKw9 : Hid (Keep [] w W9) := Lib.hid (by
    rw [hW9]
    exact (((HKk.out.trans HKr9.out).setCell _ _ (.inr hnew)).setCell _ _ (.inr hnew)).setCell _ _ (.inr hnew))
  have HB11c : Hid (W9.heap[w4.heap.size]? = some (.cells #[.int .i64 3, .int .i64 L, .string ⟨#[40]⟩] 29 (0, 0))) := Lib.hid (by
    rw [hW9]
    exact setCell_at (setCell_at (setCell_at HB11b.out 0 _) 1 _) 2 _)
  have HO10 : Hid (W9.ownsRow W4.heap.size 5 1 (.slice (some ⟨gb, 0, none⟩) L cap) L (Lib.byteCells ll)) := Lib.hid (by
    rw [hW9]
    exact own_keepV HO9.out ((((Keep.refl [w4.heap.size] w9).setCell _ _ (.inl (by simp))).setCell _ _ (.inl (by simp))).setCell _ _ (.inl (by simp))) (by simp; exact hw4))
  rw [← hW9]
  clear hW9 y0 y1 y2 yf HT HK9 HKr9 HKr8 HB11b HO9 HB11 HOk HKk HK4 HEC HKD HCV hTs
  have hcap : L ≤ cap := by
    rcases HO10.out.2 with ⟨h, _⟩ | ⟨g', c', cur, he, _, _, h1, _⟩
    · cases h
    · cases he; exact h1
  obtain ⟨A1, hA1⟩ : ∃ T : ByteArray, (⟨#[40, 124]⟩ : ByteArray) = T := ⟨_, rfl⟩
  obtain ⟨A2, hA2⟩ : ∃ T : ByteArray, (⟨(manyL m).toArray⟩ : ByteArray) = T := ⟨_, rfl⟩
  have hlm : L = 5 * m + 7 := by rw [← hlll, ← HLL.out, mb_len, HMm.out]; omega
  have hA1s : A1.size = 2 := by rw [← hA1]; rfl
  have hA2s : A2.size = 5 * m := by rw [← hA2, ← manyL_len m]; simp [ByteArray.size]
  have hA2s' : A2.size = 327670 := by omega
  obtain ⟨q, hq5⟩ : ∃ q : Nat, L = q + 5 := ⟨L - 5, by omega⟩
  have hqL : (L : Int) - 5 = (q : Int) := by omega
  have HCS : Hid (∀ W : World, Keep [] W9 W →
      Keep [] W9 W ∧ (convert 49 9 (.slice (some ⟨gb, 0, none⟩) 2 cap)).run Tryz.prog W = .ok (.string A1) W ∧ (convert 49 9 (.slice (some ⟨gb, 2, none⟩) (q - 2) (cap - 2))).run Tryz.prog W = .ok (.string A2) W) := Lib.hid (fun W hkw => by
    have ho := own_keepV HO10.out hkw (by simp)
    refine ⟨hkw, ?_, ?_⟩
    · have h := conv_part (w := W) ll ho 0 2 cap (by omega)
      rw [← hA1]
      have e : (ll.drop 0).take 2 = [40, 124] := by rw [← HLL.out]; rfl
      rw [e] at h
      exact h
    · have h := conv_part (w := W) ll ho 2 (q - 2) (cap - 2) (by omega)
      have e : (ll.drop 2).take (q - 2) = manyL m := by rw [← HLL.out, HMm.out, show q - 2 = 5 * m by omega]; exact mb_mid m
      rw [e, hA2] at h
      exact h)
  obtain ⟨fo, hfo⟩ : ∃ g, orF (deepF 1 :: List.replicate m abF) = g := ⟨_, rfl⟩
  have HC5 : Hid (checkR fo = (0, 65536, 3)) := Lib.hid (by rw [← hfo, check_more (by omega) (by omega), show 2 + m = 65536 by omega])
  have HP5 : Hid (∀ W, Env B W → Calls Tryz.prog 12 #[.string (A1 ++ ⟨#[40, 33, 40, 97, 61, 98, 41, 41]⟩ ++ A2 ++ ⟨#[41]⟩)] W (fun e w' => ∃ a1 c1 a2 c2, e = .returned (.tuple #[.agg #[.int .i8 fo.it.kind, .slice a1 fo.kids.length c1, .string fo.it.desc, .string fo.it.value, .string fo.it.start, .slice a2 fo.it.mids.length c2, .string fo.it.fin, .string fo.it.rule, .bool fo.it.dn], .nilIface]) ∧
    FltR w' W.heap.size w'.heap.size fo (nineA fo a1 c1 a2 c2) ∧ Keep [] W w')) := Lib.hid (fun W h => by
      have hp := parse_more (m := m) (by omega) (by omega)
      rw [← four_app, hA2, hfo] at hp
      rw [← hA1]
      exact parse_good B _ W _ h hp)
  have hs8 : (A1 ++ ⟨#[40, 33, 40, 97, 61, 98, 41, 41]⟩).size = 10 := by rw [ByteArray.size_append, hA1s]; rfl
  have hs9 : (A1 ++ ⟨#[40, 33, 40, 97, 61, 98, 41, 41]⟩ ++ A2).size = 327680 := by rw [ByteArray.size_append, hs8, hA2s']
  clear hA1 hA2 hfo hlm hA2s HLL HMm
  have HEw := Lib.hid (HE.out.keep0 HKw9.out)
  have hc1 : (2 : Int) ≤ (cap : Int) := by omega
  have hc2 : (2 : Int) ≤ (q : Int) := by omega
  have hc3 : (q : Int) ≤ (cap : Int) := by omega
  have hc4 : (q : Int) ≤ 327677 := by omega
  have hc5 : (0 : Int) ≤ (q : Int) := by omega
  have hwq : IntKind.i64.wrap (q : Int) = (q : Int) := wrap_small _ (by omega) (by omega)
  have hmx : max (q : Int) 0 = (q : Int) := by omega
  have hcn : ¬ cap = 2 := by omega
  clear hq5
  have HEa := Lib.hid (HEw.out.keep0 ((Keep.refl [] W9).drew))
  have HEb := Lib.hid (HEw.out.keep0 (((Keep.refl [] W9).alloc (.cells #[.int .i8 0, .slice none 0 0, .string ⟨#[]⟩, .string ⟨#[]⟩, .string ⟨#[]⟩, .slice none 0 0, .string ⟨#[]⟩, .string ⟨#[]⟩, .bool false] 26)).drew))
  have HKa : Hid (∀ w', Keep [] W9.drew w' → Keep [] W9 w') := Lib.hid (fun w' k => ((Keep.refl [] W9).drew).trans k)
  have HKb : Hid (∀ w', Keep [] (W9.alloc (.cells #[.int .i8 0, .slice none 0 0, .string ⟨#[]⟩, .string ⟨#[]⟩, .string ⟨#[]⟩, .slice none 0 0, .string ⟨#[]⟩, .string ⟨#[]⟩, .bool false] 26)).drew w' → Keep [] W9 w') := Lib.hid (fun w' k => (((Keep.refl [] W9).alloc _).drew).trans k)
  have HZ : Hid (∀ w', Keep [] (W9.alloc (.cells #[.int .i8 0, .slice none 0 0, .string ⟨#[]⟩, .string ⟨#[]⟩, .string ⟨#[]⟩, .slice none 0 0, .string ⟨#[]⟩, .string ⟨#[]⟩, .bool false] 26)).drew w' → w'.heap[W9.heap.size]? = some (.cells #[.int .i8 0, .slice none 0 0, .string ⟨#[]⟩, .string ⟨#[]⟩, .string ⟨#[]⟩, .slice none 0 0, .string ⟨#[]⟩, .string ⟨#[]⟩, .bool false] 26 (0, 0))) := Lib.hid (fun w' k => k.heap (show (W9.alloc (.cells #[.int .i8 0, .slice none 0 0, .string ⟨#[]⟩, .string ⟨#[]⟩, .string ⟨#[]⟩, .slice none 0 0, .string ⟨#[]⟩, .string ⟨#[]⟩, .bool false] 26)).heap[W9.heap.size]? = _ from alloc_at W9 _) (by simp))
  have HSa := Lib.hid (HCS.out _ ((Keep.refl [] W9).drew))
  have HSb := Lib.hid (HCS.out _ (((Keep.refl [] W9).alloc (.cells #[.int .i8 0, .slice none 0 0, .string ⟨#[]⟩, .string ⟨#[]⟩, .string ⟨#[]⟩, .slice none 0 0, .string ⟨#[]⟩, .string ⟨#[]⟩, .bool false] 26)).drew))
  have HSs : Hid (∀ (w' : World) (v0 v1 v2 v3 v4 v5 v6 v7 v8 : Value), Keep [] W9 w' → Keep [] W9 (((((((((w'.setCell ⟨W9.heap.size, 0, none⟩ v0).setCell ⟨W9.heap.size, 1, none⟩ v1).setCell ⟨W9.heap.size, 2, none⟩ v2).setCell ⟨W9.heap.size, 3, none⟩ v3).setCell ⟨W9.heap.size, 4, none⟩ v4).setCell ⟨W9.heap.size, 5, none⟩ v5).setCell ⟨W9.heap.size, 6, none⟩ v6).setCell ⟨W9.heap.size, 7, none⟩ v7).setCell ⟨W9.heap.size, 8, none⟩ v8) ∧ (convert 49 9 (.slice (some ⟨gb, 0, none⟩) 2 cap)).run Tryz.prog (((((((((w'.setCell ⟨W9.heap.size, 0, none⟩ v0).setCell ⟨W9.heap.size, 1, none⟩ v1).setCell ⟨W9.heap.size, 2, none⟩ v2).setCell ⟨W9.heap.size, 3, none⟩ v3).setCell ⟨W9.heap.size, 4, none⟩ v4).setCell ⟨W9.heap.size, 5, none⟩ v5).setCell ⟨W9.heap.size, 6, none⟩ v6).setCell ⟨W9.heap.size, 7, none⟩ v7).setCell ⟨W9.heap.size, 8, none⟩ v8) = .ok (.string A1) (((((((((w'.setCell ⟨W9.heap.size, 0, none⟩ v0).setCell ⟨W9.heap.size, 1, none⟩ v1).setCell ⟨W9.heap.size, 2, none⟩ v2).setCell ⟨W9.heap.size, 3, none⟩ v3).setCell ⟨W9.heap.size, 4, none⟩ v4).setCell ⟨W9.heap.size, 5, none⟩ v5).setCell ⟨W9.heap.size, 6, none⟩ v6).setCell ⟨W9.heap.size, 7, none⟩ v7).setCell ⟨W9.heap.size, 8, none⟩ v8) ∧ (convert 49 9 (.slice (some ⟨gb, 2, none⟩) (q - 2) (cap - 2))).run Tryz.prog (((((((((w'.setCell ⟨W9.heap.size, 0, none⟩ v0).setCell ⟨W9.heap.size, 1, none⟩ v1).setCell ⟨W9.heap.size, 2, none⟩ v2).setCell ⟨W9.heap.size, 3, none⟩ v3).setCell ⟨W9.heap.size, 4, none⟩ v4).setCell ⟨W9.heap.size, 5, none⟩ v5).setCell ⟨W9.heap.size, 6, none⟩ v6).setCell ⟨W9.heap.size, 7, none⟩ v7).setCell ⟨W9.heap.size, 8, none⟩ v8) = .ok (.string A2) (((((((((w'.setCell ⟨W9.heap.size, 0, none⟩ v0).setCell ⟨W9.heap.size, 1, none⟩ v1).setCell ⟨W9.heap.size, 2, none⟩ v2).setCell ⟨W9.heap.size, 3, none⟩ v3).setCell ⟨W9.heap.size, 4, none⟩ v4).setCell ⟨W9.heap.size, 5, none⟩ v5).setCell ⟨W9.heap.size, 6, none⟩ v6).setCell ⟨W9.heap.size, 7, none⟩ v7).setCell ⟨W9.heap.size, 8, none⟩ v8)) := Lib.hid (fun w' v0 v1 v2 v3 v4 v5 v6 v7 v8 k => HCS.out _ (((((((((k.setCell _ _ (.inr (Nat.le_refl _))).setCell _ _ (.inr (Nat.le_refl _))).setCell _ _ (.inr (Nat.le_refl _))).setCell _ _ (.inr (Nat.le_refl _))).setCell _ _ (.inr (Nat.le_refl _))).setCell _ _ (.inr (Nat.le_refl _))).setCell _ _ (.inr (Nat.le_refl _))).setCell _ _ (.inr (Nat.le_refl _))).setCell _ _ (.inr (Nat.le_refl _))))
  have HSc : Hid (∀ (w' : World) (o : Obj), Keep [] W9 w' → Keep [] W9 (w'.alloc o) ∧ (convert 49 9 (.slice (some ⟨gb, 0, none⟩) 2 cap)).run Tryz.prog (w'.alloc o) = .ok (.string A1) (w'.alloc o) ∧ (convert 49 9 (.slice (some ⟨gb, 2, none⟩) (q - 2) (cap - 2))).run Tryz.prog (w'.alloc o) = .ok (.string A2) (w'.alloc o)) := Lib.hid (fun w' o k => HCS.out _ (k.alloc o))
  go_cut [16, 17] (fun p er wx => ∃ b e1 f1 e2 f2, p = .pointer (some ⟨b, 0, none⟩) ∧ er = .nilIface ∧ Hid (BoxN wx b fo e1 f1 e2 f2) ∧ Hid (Keep [] W9 wx))
  case first =>
    go_region_held3 (fun w' => Keep [] W9 w' ∧ (convert 49 9 (.slice (some ⟨gb, 0, none⟩) 2 cap)).run Tryz.prog w' = .ok (.string A1) w' ∧ (convert 49 9 (.slice (some ⟨gb, 2, none⟩) (q - 2) (cap - 2))).run Tryz.prog w' = .ok (.string A2) w') (first | with_reducible exact HSs.out _ _ _ _ _ _ _ _ _ _ hK11 | with_reducible exact HSa.out | with_reducible exact HSb.out | with_reducible exact HCS.out _ hK11 | with_reducible exact HSc.out _ _ hK11) (first | (go_at_call 12; refine (HP5.out _ ?_).mono ?_; (first | with_reducible exact HEa.out | with_reducible exact HEb.out); rintro e w10 ⟨e1, f1, e2, f2, rfl, hG10, hK10⟩; (first | (with_reducible have hK11 := HKa.out _ hK10) | (with_reducible have hK11 := HKb.out _ hK10)); (first | ((with_reducible have hz10 := HZ.out _ hK10); obtain ⟨z0, z1, z2, z3, z4, z5, z6, z7, z8, zf⟩ := nine hz10; have HZ10 := Lib.hid hz10; clear hz10) | skip); have HG10 := Lib.hid hG10; have HK10 := Lib.hid hK10; clear hG10 hK10))
    all_goals go_wp2_with fail
    all_goals go_meet
    · exact ⟨_, e1, f1, e2, f2, rfl, rfl, Lib.hid (fin_a HG10.out), Lib.hid (hK11.alloc _)⟩
    · exact ⟨_, e1, f1, e2, f2, rfl, rfl, Lib.hid (fin_b HG10.out (by show W9.heap.size < (W9.heap.push _).size; simp) HZ10.out), Lib.hid (HSs.out _ _ _ _ _ _ _ _ _ _ hK11).1⟩
  case rest =>
  obtain ⟨bb, e1, f1, e2, f2, rfl, rfl, HBN, HKN⟩ := hcut
  clear HEa HEb HKa HKb HZ HSa HSb HSs HSc HCS HP5
  have HEn := Lib.hid (HEw.out.keep0 HKN.out)
  have HKw := Lib.hid (HKw9.out.trans HKN.out)
  have HB11d := Lib.hid (HKN.out.heap HB11c.out (by simp))
  have HC := Lib.hid (check_n B HBN.out HEn.out)
  unfold ChR at HC
  rw [HC5.out] at HC
  unfold nineA nineOf at HC
  dsimp only at HC
  obtain ⟨x0, x1, x2, x3, x4, x5, x6, x7, x8, xf⟩ := nine HBN.out.X
  go_upto_region 26 with (go_at_call 24; refine HC.out.mono ?_; rintro e w12 ⟨rfl, hK12⟩; have HK12 := Lib.hid hK12; clear hK12)
  clear x0 x1 x2 x3 x4 x5 x6 x7 x8 xf
  obtain ⟨y0, y1, y2, yf⟩ := three (HK12.out.heap HB11d.out (by simp))
  go_wp2_with (go_at_call 16; refine (HW.out _ (HEn.out.keep0 HK12.out)).mono ?_; rintro e w13 ⟨rfl, hK13⟩; have HK13 := Lib.hid hK13; clear hK13)
  go_ret
  exact ⟨rfl, (HKw.out.trans HK12.out).trans HK13.out⟩
end Go.Proofs.YtjmpcoedfoaebaaGreatDoor
