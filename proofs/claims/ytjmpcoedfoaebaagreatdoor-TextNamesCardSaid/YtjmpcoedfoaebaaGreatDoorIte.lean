/- An item, plain; the walk of compared. -/
import Derived.Test.YtjmpcoedfoaebaaGreatDoorRulw
open Go Go.RowKit
namespace Go.Proofs.YtjmpcoedfoaebaaGreatDoor

/-- The kind of an item of two signs. -/
def comparedP (c : UInt8) : Option Int := if c = 126 then some 8 else if c = 62 then some 5 else if c = 60 then some 6 else none
def cmpItm (k : Int) (d : ByteArray) : Except (Int × Nat) (ByteArray × Nat) → Except (Int × Nat) (Itm × Nat)
  | .error f => .error f
  | .ok (v, q) => .ok (⟨k, d, v, noText, [], noText, noText, false⟩, q)
/-- Two signs: the first is at i. -/
def twoP (s : ByteArray) (i : Nat) (d : ByteArray) (k : Int) : Except (Int × Nat) (Itm × Nat) :=
  match takeP s (i + 1) 61 with
  | .error f => .error f
  | .ok j => cmpItm k d (valueP false s j)
/-- Behind the description. -/
def itemD (s : ByteArray) (i : Nat) (d : ByteArray) : Except (Int × Nat) (Itm × Nat) :=
  if peekB s i = 58 then ruleP s (i + 1) d else if peekB s i = 61 then piecesP s (i + 1) d else
    match comparedP (peekB s i) with
    | some k => twoP s i d k
    | none => .error (stuckF s i)
/-- An item. -/
def itemP (s : ByteArray) (i : Nat) : Except (Int × Nat) (Itm × Nat) :=
  if peekB s i = 58 then itemD s i noText else
    match descP s i with
    | .error f => .error f
    | .ok j => itemD s j (s.extract i j)
theorem FB.mono {w : World} {N M fb : Nat} {it : Itm} (h : FB w N fb it) (hm : M ≤ N) : FB w M fb it := by
  obtain ⟨mv, h1, h2⟩ := h
  refine ⟨mv, h1, h2.1, ?_⟩
  rcases h2.2 with hn | ⟨g, cap, cur, e, hb, rest⟩
  · exact .inl hn
  · exact .inr ⟨g, cap, cur, e, by omega, rest⟩

set_option maxRecDepth 100000 in
theorem compared_any (c : UInt8) (w : World) :
    Calls Tryz.prog 73 #[.int .u8 c.toNat] w fun e w' => e = .returned (.tuple #[.int .i8 ((comparedP c).getD 0), .bool (comparedP c).isSome]) ∧ w' = w := by
  have hn : ∀ k : UInt8, c ≠ k → ((c.toNat : Int) == k.toNat) = false := fun k h => by
    rw [beq_eq_false_iff_ne]; intro e; exact h (UInt8.toNat_inj.1 (by omega))
  by_cases h1 : c = 126
  · subst h1
    clear hn
    go_enter Tryz.func73, Tryz.ntmps73
    go_wp2_with fail
    go_ret2
    exact ⟨rfl, rfl⟩
  · have b1 : ((c.toNat : Int) == 126) = false := hn 126 h1
    by_cases h2 : c = 62
    · subst h2
      clear hn h1 b1
      go_enter Tryz.func73, Tryz.ntmps73
      go_wp2_with fail
      go_ret2
      exact ⟨rfl, rfl⟩
    · have b2 : ((c.toNat : Int) == 62) = false := hn 62 h2
      by_cases h3 : c = 60
      · subst h3
        clear hn h1 h2 b1 b2
        go_enter Tryz.func73, Tryz.ntmps73
        go_wp2_with fail
        go_ret2
        exact ⟨rfl, rfl⟩
      · have b3 : ((c.toNat : Int) == 60) = false := hn 60 h3
        have hc : comparedP c = none := by unfold comparedP; rw [if_neg h1, if_neg h2, if_neg h3]
        have HC := Lib.hid hc
        clear hn h1 h2 h3 hc
        go_enter Tryz.func73, Tryz.ntmps73
        go_wp2_with fail
        go_ret2
        exact ⟨by rw [HC.out]; rfl, rfl⟩
end Go.Proofs.YtjmpcoedfoaebaaGreatDoor
