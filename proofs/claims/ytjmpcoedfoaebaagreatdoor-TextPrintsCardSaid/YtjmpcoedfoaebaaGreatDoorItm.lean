/- An item, plain: what stands behind a description; its variable in memory. -/
import Derived.Test.YtjmpcoedfoaebaaGreatDoorValw
import Derived.StillTailTactics
open Go Go.RowKit
namespace Go.Proofs.YtjmpcoedfoaebaaGreatDoor

/-- A filter without kids. -/
structure Itm where
  kind : Int
  desc : ByteArray
  value : ByteArray
  start : ByteArray
  mids : List ByteArray
  fin : ByteArray
  rule : ByteArray
  dn : Bool
def noText : ByteArray := ⟨#[]⟩
/-- The values between stars, and the last one. -/
def partsP : Nat → ByteArray → Nat → List ByteArray → ByteArray → Except (Int × Nat) (List ByteArray × ByteArray × Nat)
  | 0, _, j, _, _ => .error (0, j)
  | k + 1, s, j, ms, fin => if peekB s j = 42 then
      (match valueP true s (j + 1) with
      | .error f => .error f
      | .ok t => partsP k s t.2 (if fin = noText then ms else ms ++ [fin]) t.1)
    else .ok (ms, fin, j)
/-- What a description and pieces are. -/
def pieceItm (d v : ByteArray) : Except (Int × Nat) (List ByteArray × ByteArray × Nat) → Except (Int × Nat) (Itm × Nat)
  | .error f => .error f
  | .ok (ms, fin, j) => .ok (⟨if v = noText ∧ fin = noText ∧ ms = [] then 7 else 4, d, noText, v, ms, fin, noText, false⟩, j)
def piecesP (s : ByteArray) (i : Nat) (d : ByteArray) : Except (Int × Nat) (Itm × Nat) :=
  match valueP true s i with
  | .error f => .error f
  | .ok (v, j) => if peekB s j = 42 then pieceItm d v (partsP (s.size + 1) s j [] noText) else .ok (⟨3, d, v, noText, [], noText, noText, false⟩, j)

/-- A filter's variable that holds an item; the middles' row is the call's own. -/
def FB (w : World) (N fb : Nat) (it : Itm) : Prop :=
  ∃ mv, w.heap[fb]? = some (.cells #[.int .i8 it.kind, .slice none 0 0, .string it.desc, .string it.value, .string it.start, mv, .string it.fin, .string it.rule, .bool it.dn] 26 (0, 0)) ∧
    w.ownsRow N 9 1 mv it.mids.length (it.mids.map Value.string)
/-- A filter's variable has a filter's form. -/
def Shp (w : World) (fb : Nat) : Prop :=
  ∃ k a1 n1 c1 d v st a2 n2 c2 fi ru dn, w.heap[fb]? = some (.cells #[.int .i8 k, .slice a1 n1 c1, .string d, .string v, .string st, .slice a2 n2 c2, .string fi, .string ru, .bool dn] 26 (0, 0))
theorem Shp.mk {w : World} {fb : Nat} {k : Int} {a1 a2 : Option Addr} {n1 c1 n2 c2 : Nat} {d v st fi ru : ByteArray} {dn : Bool}
    (h : w.heap[fb]? = some (.cells #[.int .i8 k, .slice a1 n1 c1, .string d, .string v, .string st, .slice a2 n2 c2, .string fi, .string ru, .bool dn] 26 (0, 0))) : Shp w fb :=
  ⟨_, _, _, _, _, _, _, _, _, _, _, _, _, h⟩
theorem owns_slice {w : World} {N : Nat} {T : TypeId} {z : Nat} {v : Value} {n : Nat} {xs : List Value} (h : w.ownsRow N T z v n xs) : ∃ a c, v = .slice a n c := by
  rcases h.2 with ⟨rfl, rfl⟩ | ⟨g, cap, cur, rfl, _⟩
  · exact ⟨_, _, rfl⟩
  · exact ⟨_, _, rfl⟩
/-- What a call that fills a filter's variable has done. -/
def Filled (N b fb : Nat) (s : ByteArray) (parts : Nat) (w : World) (r : Except (Int × Nat) (Itm × Nat)) (e : Ending) (w' : World) : Prop :=
  match r with
  | .ok t => e = .returned .nilIface ∧ Rd w' b s t.2 parts ∧ FB w' N fb t.1 ∧ Keep [b, fb] w w'
  | .error f => ∃ v, e = .returned v ∧ ErrAt w' v s f ∧ Keep [b, fb] w w' ∧ Shp w' fb
theorem Filled.mkOk {N b fb : Nat} {s : ByteArray} {p i : Nat} {it : Itm} {w w' : World} (h : Rd w' b s i p) (g : FB w' N fb it) (k : Keep [b, fb] w w') : Filled N b fb s p w (.ok (it, i)) (.returned .nilIface) w' := ⟨rfl, h, g, k⟩
theorem Filled.mkErr {N b fb : Nat} {s : ByteArray} {p : Nat} {f : Int × Nat} {v : Value} {w w' : World} (h : ErrAt w' v s f) (k : Keep [b, fb] w w') (hs : Shp w' fb) : Filled N b fb s p w (.error f) (.returned v) w' := ⟨v, rfl, h, k, hs⟩

/-- The nine cells of a filter's variable; each may be written. -/
theorem nine {w : World} {fb : Nat} {c0 c1 c2 c3 c4 c5 c6 c7 c8 : Value} {T : TypeId} (h : w.heap[fb]? = some (.cells #[c0, c1, c2, c3, c4, c5, c6, c7, c8] T (0, 0))) :
    w.cell? ⟨fb, 0, none⟩ = some c0 ∧ w.cell? ⟨fb, 1, none⟩ = some c1 ∧ w.cell? ⟨fb, 2, none⟩ = some c2 ∧ w.cell? ⟨fb, 3, none⟩ = some c3 ∧ w.cell? ⟨fb, 4, none⟩ = some c4 ∧ w.cell? ⟨fb, 5, none⟩ = some c5 ∧ w.cell? ⟨fb, 6, none⟩ = some c6 ∧ w.cell? ⟨fb, 7, none⟩ = some c7 ∧ w.cell? ⟨fb, 8, none⟩ = some c8 ∧ ∀ j, w.frozen? ⟨fb, j, none⟩ = false :=
  ⟨cell_of h 0, cell_of h 1, cell_of h 2, cell_of h 3, cell_of h 4, cell_of h 5, cell_of h 6, cell_of h 7, cell_of h 8, fun j => free_of h j⟩
theorem valueP_le {star : Bool} {s : ByteArray} {i : Nat} {t : ByteArray} {j : Nat} (hi : i ≤ s.size) (h : valueP star s i = .ok (t, j)) : i ≤ j ∧ j ≤ s.size ∧ t.size ≤ 65536 := by
  have hv : ∀ (k p : Nat) (acc b : List UInt8) (q : Nat), p ≤ s.size → valP star k s p acc = .ok (b, q) → p ≤ q ∧ q ≤ s.size := by
    intro k
    induction k with
    | zero => intro p acc b q _ h; cases h
    | succ k ih =>
      intro p acc b q hp h
      by_cases hs : s.size ≤ p ∨ endB star (peekB s p) = true
      · rw [valP_stop hs] at h; cases h; exact ⟨Nat.le_refl _, hp⟩
      · cases hpc : pieceP (s.data.toList.drop p) with
        | error e => rw [valP_err hs hpc] at h; cases h
        | ok tn =>
          obtain ⟨t, n⟩ := tn
          rw [valP_ok hs hpc] at h
          obtain ⟨h1, h2, _, _⟩ := pieceP_ok hpc
          rw [List.length_drop] at h2
          have h3 : s.data.toList.length = s.size := by simp
          have := ih (p + n) _ _ _ (by omega) h
          omega
  unfold valueP at h
  cases hr : valP star (s.size + 1) s i [] with
  | error f => rw [hr] at h; cases h
  | ok bq =>
    obtain ⟨b, q⟩ := bq
    rw [hr] at h
    have := hv _ _ _ _ _ hi hr
    by_cases hb : 65536 < b.length
    · rw [show lenP i (.ok (b, q)) = .error (3, i) from if_pos hb] at h; cases h
    · rw [show lenP i (.ok (b, q)) = .ok (⟨b.toArray⟩, q) from if_neg hb] at h
      cases h
      exact ⟨this.1, this.2, by show b.length ≤ 65536; omega⟩
end Go.Proofs.YtjmpcoedfoaebaaGreatDoor
