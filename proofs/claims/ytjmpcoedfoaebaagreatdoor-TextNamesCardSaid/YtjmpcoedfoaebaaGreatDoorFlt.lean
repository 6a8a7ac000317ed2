/- A filter, plain: what a text is as a filter, or the fault. No program here. -/
import Derived.Test.YtjmpcoedfoaebaaGreatDoorIte
open Go Go.RowKit
namespace Go.Proofs.YtjmpcoedfoaebaaGreatDoor

/-- A filter: its own fields and its kids. -/
inductive Flt where
  | mk (it : Itm) (kids : List Flt)
def manyP (c : UInt8) : Option Int := if c = 38 then some 0 else if c = 124 then some 1 else if c = 33 then some 2 else none
/-- Where a reading stands: the place and the parts so far. -/
abbrev At := Nat × Nat
/-- The kids of a filter that stand from a place on. -/
def kidsP (f : Nat → Nat → Except (Int × Nat) (Flt × Nat × Nat)) (s : ByteArray) (kind : Int) : Nat → Nat → Nat → List Flt → Except (Int × Nat) (List Flt × Nat × Nat)
  | 0, i, _, _ => .error (0, i)
  | k + 1, i, p, acc => match f i p with
    | .error e => .error e
    | .ok (g, j, q) => if kind = 2 ∨ peekB s j ≠ 40 then .ok (acc ++ [g], j, q) else kidsP f s kind k j q (acc ++ [g])
/-- The closing sign. -/
def closeP (s : ByteArray) : Except (Int × Nat) (Flt × Nat × Nat) → Except (Int × Nat) (Flt × Nat × Nat)
  | .error e => .error e
  | .ok (g, j, q) => match takeP s j 41 with
    | .error e => .error e
    | .ok j => .ok (g, j, q)
def kidsF (kind : Int) : Except (Int × Nat) (List Flt × Nat × Nat) → Except (Int × Nat) (Flt × Nat × Nat)
  | .error e => .error e
  | .ok (l, j, q) => .ok (.mk ⟨kind, noText, noText, noText, [], noText, noText, false⟩ l, j, q)
def itemF (q : Nat) : Except (Int × Nat) (Itm × Nat) → Except (Int × Nat) (Flt × Nat × Nat)
  | .error e => .error e
  | .ok (it, j) => .ok (.mk it [], j, q)
def partsOf (s : ByteArray) (j p : Nat) : Nat := if peekB s j = 33 then p else p + 1
/-- A filter at a place; rem: how many depths are left. -/
def filterP (s : ByteArray) : Nat → Nat → Nat → Except (Int × Nat) (Flt × Nat × Nat)
  | 0, i, _ => match takeP s i 40 with
    | .error e => .error e
    | .ok _ => .error (91, i)
  | rem + 1, i, p => match takeP s i 40 with
    | .error e => .error e
    | .ok j => if 65536 < partsOf s j p then .error (3, i) else
        match manyP (peekB s j) with
        | some k => closeP s (kidsF k (kidsP (filterP s rem) s k (s.size + 1) (j + 1) (partsOf s j p) []))
        | none => closeP s (itemF (partsOf s j p) (itemP s j))
end Go.Proofs.YtjmpcoedfoaebaaGreatDoor
