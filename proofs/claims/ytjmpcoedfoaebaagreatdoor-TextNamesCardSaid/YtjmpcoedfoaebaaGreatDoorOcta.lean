/- octet: digits, kind. -/
import Derived.Test.YtjmpcoedfoaebaaGreatDoorOct
import Derived.Test.YtjmpcoedfoaebaaGreatDoorShelf
open Go Go.RowKit
namespace Go.Proofs.YtjmpcoedfoaebaaGreatDoor

/-- The place of a digit among the small ones; -1: it is none. -/
def hexI (c : UInt8) : Int := if 48 ≤ c.toNat ∧ c.toNat ≤ 57 then (c.toNat : Int) - 48 else if 97 ≤ c.toNat ∧ c.toNat ≤ 102 then (c.toNat : Int) - 87 else -1
theorem hexI_eq (c : UInt8) : Lib.indexByte [48, 49, 50, 51, 52, 53, 54, 55, 56, 57, 97, 98, 99, 100, 101, 102] (c.toNat : Int).toNat.toUInt8 = hexI c :=
  byte_all (p := fun n => Lib.indexByte [48, 49, 50, 51, 52, 53, 54, 55, 56, 57, 97, 98, 99, 100, 101, 102] (n : Int).toNat.toUInt8 = if 48 ≤ n ∧ n ≤ 57 then (n : Int) - 48 else if 97 ≤ n ∧ n ≤ 102 then (n : Int) - 87 else -1) (by decide +kernel) c
theorem idx_hex (c : UInt8) (w : World) : Calls Tryz.prog 49 #[.string ⟨#[48, 49, 50, 51, 52, 53, 54, 55, 56, 57, 97, 98, 99, 100, 101, 102]⟩, .int .u8 c.toNat] w fun e w' => e = .returned (.int .i64 (hexI c)) ∧ w' = w := by
  have h := Tryz.strings_IndexByte ⟨#[48, 49, 50, 51, 52, 53, 54, 55, 56, 57, 97, 98, 99, 100, 101, 102]⟩ c.toNat w
  rw [hexI_eq] at h
  exact h

/-- What two digits say: the sum of bits that octet.digits makes. -/
theorem dig_sum (a b : Int) (h1 : 0 ≤ a) (h2 : a ≤ 15) (h3 : 0 ≤ b) (h4 : b ≤ 15) :
    bits BinOp.or IntKind.i64 (a * 16) (bits BinOp.and IntKind.i64 b 15) % 256 = 16 * a + b := by
  obtain ⟨n, rfl⟩ := Int.eq_ofNat_of_zero_le h1
  obtain ⟨m, rfl⟩ := Int.eq_ofNat_of_zero_le h3
  have h : ∀ n m : Fin 16, bits BinOp.or IntKind.i64 ((n.val : Int) * 16) (bits BinOp.and IntKind.i64 (m.val : Int) 15) % 256 = 16 * (n.val : Int) + m.val := by decide +kernel
  exact h ⟨n, by omega⟩ ⟨m, by omega⟩
def twoOk (s : ByteArray) : Bool := decide (2 ≤ s.size) && (decide (0 ≤ hexI (peekB s 0)) && decide (0 ≤ hexI (peekB s 1)))
def Digs (s : ByteArray) (w : World) (e : Ending) (w' : World) : Prop :=
  ∃ v : Int, e = .returned (.tuple #[.int .u8 v, .bool (twoOk s)]) ∧ (twoOk s = true → v = 16 * hexI (peekB s 0) + hexI (peekB s 1)) ∧ ∃ n, w' = w.drewN n
theorem hexI_bd (c : UInt8) : -1 ≤ hexI c ∧ hexI c ≤ 15 := by unfold hexI; repeat' split <;> omega

theorem Digs.mk {s : ByteArray} {w : World} {v : Int} {ok : Bool} {n : Nat} (h1 : ok = twoOk s) (h2 : twoOk s = true → v = 16 * hexI (peekB s 0) + hexI (peekB s 1)) : Digs s w (.returned (.tuple #[.int .u8 v, .bool ok])) (w.drewN n) := ⟨v, by rw [h1], h2, n, rfl⟩
theorem Digs.mk0 {s : ByteArray} {w : World} (h1 : twoOk s = false) : Digs s w (.returned (.tuple #[.int .u8 0, .bool false])) w := by
  refine ⟨0, by rw [h1], fun h => ?_, 0, rfl⟩
  rw [h1] at h
  cases h
theorem digits_any (s : ByteArray) (w : World) : Calls Tryz.prog 133 #[.string s] w (Digs s w) := by
  by_cases h2 : 2 ≤ s.size
  · have p0 : peekB s 0 = s[0] := peekB_in (by omega)
    have p1 : peekB s 1 = s[1] := peekB_in (by omega)
    have hlt : ¬ s.size < 2 := by omega
    have b0 := hexI_bd s[0]
    have b1 := hexI_bd s[1]
    have P0 := Lib.hid p0
    have P1 := Lib.hid p1
    have hx : (0 : Int) < s.size := by omega
    have hy : (1 : Int) < s.size := by omega
    have hx' : 0 < s.size := by omega
    have hy' : 1 < s.size := by omega
    obtain ⟨b0, b0'⟩ := b0
    obtain ⟨b1, b1'⟩ := b1
    clear p0 p1
    go_enter Tryz.func133, Tryz.ntmps133
    go_wp2
    go_quiet ((exact Calls.quiet_of_same (idx_hex _ _)))
    go_wp2
    all_goals go_ret2
    · have h0 : (0 : Int) ≤ hexI s[0] := by assumption
      refine Digs.mk ?_ ?_
      · unfold twoOk
        rw [P0.out, P1.out, decide_eq_true h2, decide_eq_true h0]
        rfl
      · unfold twoOk
        rw [P0.out, P1.out, decide_eq_true h2, decide_eq_true h0]
        intro h
        exact dig_sum _ _ h0 b0' (by simpa using h) b1'
    · have h0 : ¬ (0 : Int) ≤ hexI s[0] := by omega
      refine Digs.mk ?_ ?_
      · unfold twoOk
        rw [P0.out, P1.out, decide_eq_true h2, decide_eq_false h0]
        rfl
      · unfold twoOk
        rw [P0.out, P1.out, decide_eq_true h2, decide_eq_false h0]
        intro h
        cases h
  · have hlt : s.size < 2 := by omega
    go_enter Tryz.func133, Tryz.ntmps133
    go_wp2
    go_ret2
    refine Digs.mk0 ?_
    unfold twoOk
    rw [decide_eq_false h2]
    rfl
end Go.Proofs.YtjmpcoedfoaebaaGreatDoor
