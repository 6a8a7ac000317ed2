/- filter's long: is one of a part's texts above the bound? -/
import Derived.Test.YtjmpcoedfoaebaaGreatDoorFpc
import Derived.Test.YtjmpcoedfoaebaaGreatDoorFlta
open Go Go.RowKit
namespace Go.Proofs.YtjmpcoedfoaebaaGreatDoor

/-- Texts that a slice reads as, below a block. -/
def Txt (w : World) (H : Nat) (a : Option Addr) (ms : List ByteArray) : Prop :=
  ms = [] ∨ ∃ mb mo, a = some ⟨mb, mo, none⟩ ∧ mb < H ∧ ∀ k r, ms[k]? = some r → w.cell? ⟨mb, mo + k, none⟩ = some (.string r)
theorem Txt.keep {S : List Nat} {w w' : World} {H : Nat} {a : Option Addr} {ms : List ByteArray} (h : Txt w H a ms) (k : Keep S w w') (hH : H ≤ w.heap.size) (hS : ∀ x ∈ S, H ≤ x) : Txt w' H a ms := by
  rcases h with h | ⟨mb, mo, h1, h2, h3⟩
  · exact .inl h
  · exact .inr ⟨mb, mo, h1, h2, fun j r hr => (k.cell ⟨mb, mo + j, none⟩ (Nat.lt_of_lt_of_le h2 hH) (fun hm => by have := hS mb hm; omega)).trans (h3 j r hr)⟩
/-- A filter's value: its fields, the two lists as slices. -/
def aggOf (it : Itm) (a1 : Option Addr) (n1 c1 : Nat) (a2 : Option Addr) (c2 : Nat) : Value :=
  .agg #[.int .i8 it.kind, .slice a1 n1 c1, .string it.desc, .string it.value, .string it.start, .slice a2 it.mids.length c2, .string it.fin, .string it.rule, .bool it.dn]
def longN (it : Itm) : Nat := max (max (max (max it.desc.size it.value.size) it.start.size) it.fin.size) it.rule.size
def longM : Nat → List ByteArray → Nat
  | n, [] => n
  | n, m :: ms => longM (max n m.size) ms
def longB (it : Itm) : Bool := decide (65536 < longM (longN it) it.mids)

theorem max_lt (x y : Nat) : (if (x : Int) < (y : Int) then (y : Int) else (x : Int)) = ((max x y : Nat) : Int) := by
  split <;> omega
theorem max2_run (a b : Nat) : Builtin.max2 (.int .i64 a) (.int .i64 b) = pure (.int .i64 ((max a b : Nat) : Int)) := by
  simp only [Builtin.max2, gt_iff_lt, max_lt]
theorem run_max5 (ts : Array TypeId) (t : TypeId) (a b c d e : Nat) (w : World) :
    (Builtin.max_ ts t #[.int .i64 a, .int .i64 b, .int .i64 c, .int .i64 d, .int .i64 e]).run Tryz.prog w = .ok (.int .i64 ((max (max (max (max a b) c) d) e : Nat) : Int)) w := by
  simp only [Builtin.max_, List.foldlM_cons, List.foldlM_nil, Sem.run_pure, pure_bind, max2_run]
theorem longM_ge : ∀ (ms : List ByteArray) (n : Nat), n ≤ longM n ms
  | [], _ => Nat.le_refl _
  | m :: ms, n => Nat.le_trans (Nat.le_max_left n m.size) (longM_ge ms (max n m.size))

set_option maxHeartbeats 2000000 in
set_option maxRecDepth 100000 in
theorem long_any (it : Itm) (a1 : Option Addr) (n1 c1 : Nat) (a2 : Option Addr) (c2 : Nat) (w : World) (H : Nat) (hH : H ≤ w.heap.size) (hT : Txt w H a2 it.mids) (hl : it.mids.length ≤ 9223372036854775807) :
    Calls Tryz.prog 39 #[.agg #[.int .i8 it.kind, .slice a1 n1 c1, .string it.desc, .string it.value, .string it.start, .slice a2 it.mids.length c2, .string it.fin, .string it.rule, .bool it.dn]] w (RetB w (longB it)) := by
  have h5 : ∀ W : World, (Builtin.max_ #[3, 3, 3, 3, 3] 3 #[.int .i64 it.desc.size, .int .i64 it.value.size, .int .i64 it.start.size, .int .i64 it.fin.size, .int .i64 it.rule.size]).run Tryz.prog W = .ok (.int .i64 (longN it : Int)) W := fun W => run_max5 _ _ _ _ _ _ _ W
  obtain ⟨N, hN⟩ : ∃ N, longN it = N := ⟨_, rfl⟩
  obtain ⟨M, hM⟩ : ∃ M, longM N it.mids = M := ⟨_, rfl⟩
  have HB : Hid (longB it = decide (65536 < M)) := Lib.hid (by unfold longB; rw [hN, hM])
  have hNM : N ≤ M := by rw [← hM]; exact longM_ge _ _
  rw [hN] at h5
  have HM := Lib.hid hM
  have HT := Lib.hid hT
  clear hT hN hM
  go_enter Tryz.func39, Tryz.ntmps39
  go_wp2_with fail
  clear h5
  obtain ⟨W, hW⟩ : ∃ W, W = w.alloc (.cells #[.int .i8 it.kind, .slice a1 n1 c1, .string it.desc, .string it.value, .string it.start, .slice a2 it.mids.length c2, .string it.fin, .string it.rule, .bool it.dn] 26) := ⟨_, rfl⟩
  have HK : Hid (Keep [] w W) := Lib.hid (by rw [hW]; exact (Keep.refl [] w).alloc _)
  have HTW := Lib.hid (HT.out.keep HK.out hH (by simp))
  rw [← hW]
  clear hW
  go_loop [3, 25] (fun n i => ∃ k N' : Nat, k ≤ it.mids.length ∧ N' ≤ M ∧ n = .int .i64 N' ∧ i = .int .i64 k ∧ Hid (longM N' (it.mids.drop k) = M)) (fun _ i => it.mids.length - (intOf i).toNat)
  case atStart => exact ⟨0, N, Nat.zero_le _, hNM, rfl, rfl, HM⟩
  case round =>
    obtain ⟨k, N', hk, hN', rfl, rfl, HL⟩ := hrel
    by_cases hlt : k < it.mids.length
    · obtain ⟨r, hr⟩ : ∃ r, it.mids[k]? = some r := ⟨_, List.getElem?_eq_getElem hlt⟩
      rcases HTW.out with h | ⟨mb, mo, rfl, hmb, hc⟩
      · rw [h] at hlt; exact absurd hlt (by simp)
      · have hcr := hc k r hr
        have HS : Hid (longM (max N' r.size) (it.mids.drop (k + 1)) = M) := Lib.hid (by
          have := HL.out
          rw [List.drop_eq_getElem_cons hlt, show it.mids[k] = r from Option.some.inj ((List.getElem?_eq_getElem hlt).symm.trans hr)] at this
          exact this)
        have hm2 : max N' r.size ≤ M := by rw [← HS.out]; exact longM_ge _ _
        have hmx : ∀ V : World, (Builtin.max_ #[3, 3] 3 #[.int .i64 N', .int .i64 r.size]).run Tryz.prog V = .ok (.int .i64 ((max N' r.size : Nat) : Int)) V := fun V => by
          simp only [Builtin.max_, List.foldlM_cons, List.foldlM_nil, Sem.run_pure, pure_bind, max2_run]
        obtain ⟨X, hX⟩ : ∃ X, max N' r.size = X := ⟨_, rfl⟩
        rw [hX] at hm2 hmx HS
        clear hc hr hX
        go_wp2_with fail
        go_round
        case rel => exact ⟨k + 1, X, by omega, hm2, rfl, by go_num, HS⟩
        case measure => simp [intOf]; omega
    · have HX : Hid (N' = M) := Lib.hid (by have := HL.out; rwa [List.drop_of_length_le (by omega)] at this)
      go_wp2_with fail
      go_ret
      exact ⟨ret_bool (by rw [HB.out, ← HX.out, Bool.eq_iff_iff, decide_eq_true_iff, decide_eq_true_iff]; omega), HK.out⟩
end Go.Proofs.YtjmpcoedfoaebaaGreatDoor
