/- filter.Check, plain; a filter that is read. -/
import Derived.Test.YtjmpcoedfoaebaaGreatDoorFpe
open Go Go.RowKit
namespace Go.Proofs.YtjmpcoedfoaebaaGreatDoor

/-- A filter that is read, its blocks below H. -/
inductive FltD (w : World) (H : Nat) : Flt → List Value → Prop where
  | mk (it : Itm) (kids : List Flt) (a1 : Option Addr) (c1 : Nat) (a2 : Option Addr) (c2 : Nat) (cs : Nat → List Value)
      (hm : Txt w H a2 it.mids) (hml : it.mids.length ≤ 9223372036854775807) (hkl : kids.length ≤ 9223372036854775807)
      (hk : kids = [] ∨ ∃ kb ko, a1 = some ⟨kb, ko, none⟩ ∧ kb < H ∧ ∀ i, i < kids.length → ∀ j u, (cs i)[j]? = some u → w.cell? ⟨kb, ko + i * 9 + j, none⟩ = some u)
      (hkid : ∀ i (h : i < kids.length), FltD w H kids[i] (cs i)) :
      FltD w H (.mk it kids) (nineOf (.slice a1 kids.length c1) (.slice a2 it.mids.length c2) it)
theorem FltD.keep {S : List Nat} {w w' : World} {H : Nat} (k : Keep S w w') (hH : H ≤ w.heap.size) (hS : ∀ x ∈ S, H ≤ x) {g : Flt} {vs : List Value} (h : FltD w H g vs) : FltD w' H g vs := by
  induction h with
  | mk it kids a1 c1 a2 c2 cs hm hml hkl hk hkid ih =>
    refine .mk it kids a1 c1 a2 c2 cs (hm.keep k hH hS) hml hkl ?_ ih
    rcases hk with h | ⟨kb, ko, h1, h2, h3⟩
    · exact .inl h
    · exact .inr ⟨kb, ko, h1, h2, fun i hi j u hu => (k.cell ⟨kb, ko + i * 9 + j, none⟩ (Nat.lt_of_lt_of_le h2 hH) (fun hm => by have := hS kb hm; omega)).trans (h3 i hi j u hu)⟩
theorem FltD.nine {w : World} {H : Nat} {g : Flt} {vs : List Value} (h : FltD w H g vs) : ∃ a1 c1 a2 c2, vs = nineOf (.slice a1 g.kids.length c1) (.slice a2 g.it.mids.length c2) g.it := by
  cases h; exact ⟨_, _, _, _, rfl⟩

/-- Parts behind one another: the first fault, the counts. -/
def checkL (f : Flt → Nat → Nat → Int × Nat × Nat) : List Flt → Nat → Nat → Int × Nat × Nat
  | [], n, d => (0, n, d)
  | g :: gs, n, d => if (f g n d).1 ≠ 0 then f g n d else checkL f gs (f g n d).2.1 (f g n d).2.2
/-- A part at a depth: the fault or 0; how many parts; how deep. -/
def checkP : Nat → Flt → Nat → Nat → Int × Nat × Nat
  | 0, _, n, d => (91, n, d)
  | rem + 1, g, n, d =>
    if 65536 < (if g.it.kind = 2 then n else n + 1) ∨ longB g.it = true then (3, if g.it.kind = 2 then n else n + 1, max d (64 - rem)) else
    if rightB g.it g.kids.length = false then (90, if g.it.kind = 2 then n else n + 1, max d (64 - rem)) else
    checkL (checkP rem) g.kids (if g.it.kind = 2 then n else n + 1) (max d (64 - rem))
end Go.Proofs.YtjmpcoedfoaebaaGreatDoor
