/- The laws' few texts, plain. The laws' wakes: what the program says of a few texts. -/
import Derived.Test.YtjmpcoedfoaebaaGreatDoorPri
import Derived.Test.YtjmpcoedfoaebaaGreatDoorPar
import Derived.WalkSpells
open Go Go.RowKit
namespace Go.Proofs.YtjmpcoedfoaebaaGreatDoor

def itA : Itm := ⟨3, ⟨#[99, 110]⟩, ⟨#[97, 42]⟩, noText, [], noText, noText, false⟩
theorem wake_one : parseP ⟨#[40, 99, 110, 61, 97, 92, 50, 97, 41]⟩ = .ok (.mk itA []) := by kernel_rfl
theorem wake_two : parseP ⟨#[40, 97, 61, 98, 40, 99, 41]⟩ = .error (12, 4, ⟨#[40]⟩) := by kernel_rfl
theorem wake_three : printR (.mk itA []) = (⟨#[40, 99, 110, 61, 97, 92, 50, 97, 41]⟩, 0) := by kernel_rfl
theorem wake_four : descB ⟨#[99, 110, 59, 120]⟩ = true := by kernel_rfl
theorem wake_five : descB ⟨#[99, 110, 59]⟩ = false := by kernel_rfl
end Go.Proofs.YtjmpcoedfoaebaaGreatDoor

open Go Go.RowKit
namespace Go.Proofs.YtjmpcoedfoaebaaGreatDoor

def zeroNine : Array Value := #[.int .i8 0, .slice none 0 0, .string ⟨#[]⟩, .string ⟨#[]⟩, .string ⟨#[]⟩, .slice none 0 0, .string ⟨#[]⟩, .string ⟨#[]⟩, .bool false]
theorem wake_p1 (B : Nat) (w : World) (hE : Env B w) : Calls Tryz.prog 12 #[.string ⟨#[40, 99, 110, 61, 97, 92, 50, 97, 41]⟩] w fun e w' => ∃ a1 n1 c1 a2 n2 c2, e = .returned (.tuple #[.agg #[.int .i8 3, .slice a1 n1 c1, .string ⟨#[99, 110]⟩, .string ⟨#[97, 42]⟩, .string ⟨#[]⟩, .slice a2 n2 c2, .string ⟨#[]⟩, .string ⟨#[]⟩, .bool false], .nilIface]) ∧ Keep [] w w' := by
  refine (parse_any B _ w hE).mono ?_
  rw [wake_one]
  rintro e w' ⟨a1, n1, c1, a2, n2, c2, rfl, _, hK⟩
  exact ⟨a1, n1, c1, a2, n2, c2, rfl, hK⟩
theorem wake_p2 (B : Nat) (w : World) (hE : Env B w) : Calls Tryz.prog 12 #[.string ⟨#[40, 97, 61, 98, 40, 99, 41]⟩] w fun e w' => ∃ fb, e = .returned (.tuple #[.agg #[.int .i8 0, .slice none 0 0, .string ⟨#[]⟩, .string ⟨#[]⟩, .string ⟨#[]⟩, .slice none 0 0, .string ⟨#[]⟩, .string ⟨#[]⟩, .bool false], .iface 55 (.pointer (some ⟨fb, 0, none⟩))]) ∧ w'.heap[fb]? = some (.cells #[.int .i64 12, .int .i64 4, .string ⟨#[40]⟩] 29 (0, 0)) ∧ Keep [] w w' := by
  refine (parse_any B _ w hE).mono ?_
  rw [wake_two]
  rintro e w' ⟨fb, rfl, ⟨fb', h1, h2⟩, hK⟩
  cases h1
  exact ⟨fb, rfl, h2, hK⟩
theorem wake_pr (B : Nat) (w : World) (hE : Env B w) : Calls Tryz.prog 20 #[.agg #[.int .i8 3, .slice none 0 0, .string ⟨#[99, 110]⟩, .string ⟨#[97, 42]⟩, .string ⟨#[]⟩, .slice none 0 0, .string ⟨#[]⟩, .string ⟨#[]⟩, .bool false]] w fun e w' => e = .returned (.tuple #[.string ⟨#[40, 99, 110, 61, 97, 92, 50, 97, 41]⟩, .int .i64 0]) ∧ Keep [] w w' := by
  have hF : ∀ W, FltD W 0 (.mk itA []) (nineOf (.slice none 0 0) (.slice none 0 0) itA) := fun W => .mk itA [] none 0 none 0 (fun _ => []) (.inl rfl) (by decide) (by decide) (.inl rfl) (fun i h => by cases h)
  refine (print_of B 0 (.mk itA []) _ w (hF w) hE (Nat.zero_le _) ?_).mono ?_
  · intro _ N xb v W h1 h2 h3 _ h5 _ h7
    exact wf_item B N xb itA none 0 0 none 0 v [] W h1 h2 h3 h5 h7 (Nat.zero_le _) (by decide) (by decide)
  · rw [wake_three]
    rintro e w' ⟨rfl, hK⟩
    exact ⟨rfl, hK⟩

set_option maxHeartbeats 2000000 in
set_option maxRecDepth 100000 in
theorem wakes_any (B : Nat) (w : World) (hE : Env B w) : Calls Tryz.prog 16 #[] w (RetB w true) := by
  have HE := Lib.hid hE
  have H1 := Lib.hid (wake_p1 B w hE)
  clear hE
  go_enter Tryz.func16, Tryz.ntmps16
  go_upto_region 2 with (go_at_call 12; refine H1.out.mono ?_; rintro e w1 ⟨a1, n1, c1, a2, n2, c2, rfl, hK1⟩; have HK1 := Lib.hid hK1; clear hK1)
  obtain ⟨W1, hW1⟩ : ∃ W1, W1 = w1.alloc (.cells #[.int .i8 3, .slice a1 n1 c1, .string ⟨#[99, 110]⟩, .string ⟨#[97, 42]⟩, .string ⟨#[]⟩, .slice a2 n2 c2, .string ⟨#[]⟩, .string ⟨#[]⟩, .bool false] 26) := ⟨_, rfl⟩
  rw [← hW1]
  have HB1 : Hid (W1.heap[w1.heap.size]? = some (.cells #[.int .i8 3, .slice a1 n1 c1, .string ⟨#[99, 110]⟩, .string ⟨#[97, 42]⟩, .string ⟨#[]⟩, .slice a2 n2 c2, .string ⟨#[]⟩, .string ⟨#[]⟩, .bool false] 26 (0, 0))) := Lib.hid (by rw [hW1]; exact alloc_at _ _)
  have HKa : Hid (Keep [] w W1) := Lib.hid (by rw [hW1]; exact HK1.out.alloc _)
  have HEa := Lib.hid (HE.out.keep0 HKa.out)
  have H2 := Lib.hid (wake_p2 B W1 HEa.out)
  clear hW1 HK1 H1
  go_upto_region 3 with (go_at_call 12; refine H2.out.mono ?_; rintro e w2 ⟨fb, rfl, hq, hK2⟩; have HK2 := Lib.hid hK2; have HQ2 := Lib.hid hq; clear hK2 hq)
  obtain ⟨W2, hW2⟩ : ∃ W2, W2 = w2.alloc (.cells #[.int .i8 0, .slice none 0 0, .string ⟨#[]⟩, .string ⟨#[]⟩, .string ⟨#[]⟩, .slice none 0 0, .string ⟨#[]⟩, .string ⟨#[]⟩, .bool false] 26) := ⟨_, rfl⟩
  rw [← hW2]
  have hkb : Keep [] w2 W2 := by rw [hW2]; exact (Keep.refl [] w2).alloc _
  have HB3 : Hid (W2.heap[w2.heap.size]? = some (.cells #[.int .i8 0, .slice none 0 0, .string ⟨#[]⟩, .string ⟨#[]⟩, .string ⟨#[]⟩, .slice none 0 0, .string ⟨#[]⟩, .string ⟨#[]⟩, .bool false] 26 (0, 0))) := Lib.hid (by rw [hW2]; exact alloc_at _ _)
  have HKb := Lib.hid (HK2.out.trans hkb)
  have HQb := Lib.hid (hkb.heap HQ2.out (by simp))
  have H3 := Lib.hid (wake_pr B W2 (HEa.out.keep0 HKb.out))
  clear hW2 hkb HK2 HQ2 H2
  go_upto_region 4 with (go_at_call 20; refine H3.out.mono ?_; rintro e W3 ⟨rfl, hK3⟩; have HK3 := Lib.hid hK3; clear hK3)
  have H4 := Lib.hid (told_hit B fb 12 4 ⟨#[40]⟩ W3 ((HEa.out.keep0 HKb.out).keep0 HK3.out) (by decide) (HK3.out.heap HQb.out (by simp)))
  clear H3
  go_upto_region 5 with (go_at_call 13; refine H4.out.mono ?_; rintro e w4 ⟨rfl, hK4⟩; have HK4 := Lib.hid hK4; clear hK4)
  obtain ⟨W4, hW4⟩ : ∃ W4, W4 = w4.alloc (.cells #[.int .i64 12, .int .i64 4, .string ⟨#[40]⟩] 29) := ⟨_, rfl⟩
  rw [← hW4]
  have hkd : Keep [] w4 W4 := by rw [hW4]; exact (Keep.refl [] w4).alloc _
  have hb4 : W4.heap[w4.heap.size]? = some (.cells #[.int .i64 12, .int .i64 4, .string ⟨#[40]⟩] 29 (0, 0)) := by rw [hW4]; exact alloc_at _ _
  have HKd := Lib.hid ((HK3.out.trans HK4.out).trans hkd)
  obtain ⟨x0, x1, x2, x3, x4, x5, x6, x7, x8, xf⟩ := nine (HKd.out.heap (HKb.out.heap HB1.out (by simp)) (by simp))
  obtain ⟨y0, y1, y2, y3, y4, y5, y6, y7, y8, yf⟩ := nine (HKd.out.heap HB3.out (by simp))
  have z0 := cell_of hb4 0
  have z1 := cell_of hb4 1
  have z2 := cell_of hb4 2
  have HKz := Lib.hid ((HKa.out.trans HKb.out).trans HKd.out)
  have h5 := descB_any B ⟨#[99, 110, 59, 120]⟩ W4 (by decide) (HE.out.keep0 HKz.out)
  rw [wake_four] at h5
  have H5 := Lib.hid h5
  have H6 : Hid (∀ V, Env B V → Calls Tryz.prog 22 #[.string ⟨#[99, 110, 59]⟩] V (RetB V false)) := Lib.hid fun V hV => by
    have h := descB_any B ⟨#[99, 110, 59]⟩ V (by decide) hV
    rw [wake_five] at h
    exact h
  clear xf yf h5 hW4 hkd hb4 H4
  go_wp2_with fail
  refine H5.out.mono ?_
  rintro e V ⟨rfl, hK5⟩
  have HK5 := Lib.hid hK5
  clear hK5
  go_wp2_with fail
  refine (H6.out _ ((HE.out.keep0 HKz.out).keep0 HK5.out)).mono ?_
  rintro e V2 ⟨rfl, hK6⟩
  go_wp2_with fail
  go_ret
  exact ⟨rfl, (HKz.out.trans HK5.out).trans hK6⟩

theorem names_any (B : Nat) (w : World) (hE : Env B w) : Calls Tryz.prog 6 #[] w (RetB w true) := by
  have H := Lib.hid (wakes_any B w hE)
  clear hE
  go_enter Tryz.func6, Tryz.ntmps6
  go_wp2_with (go_at_call 16; refine H.out.mono ?_; rintro e w1 ⟨rfl, hK⟩)
  go_ret
  exact ⟨rfl, hK⟩
end Go.Proofs.YtjmpcoedfoaebaaGreatDoor
