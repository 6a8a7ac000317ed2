/- Plain relations between worlds: what a call may have changed ('Keep'), the reader's block, a fault's block. No condition. -/
import Derived.Test.YtjmpcoedfoaebaaGreatDoorChecked
import Derived.WalkKit
import Derived.Below
import Derived.OneCell
import Derived.WalkSmall
import Derived.Lib.Hide
import Derived.BigQuiet
import Derived.WalkLawsBesides
open Go Go.RowKit
namespace Go.Proofs.YtjmpcoedfoaebaaGreatDoor

/-- All blocks of w but those of S are in w' as they were. -/
structure Keep (S : List Nat) (w w' : World) : Prop where
  os : w'.os = w.os
  tape : w'.tape = w.tape
  output : w'.output = w.output
  size : w.heap.size ≤ w'.heap.size
  block : ∀ k, k < w.heap.size → k ∉ S → w'.heap[k]? = w.heap[k]?

theorem Keep.refl (S : List Nat) (w : World) : Keep S w w := ⟨rfl, rfl, rfl, Nat.le_refl _, fun _ _ _ => rfl⟩
theorem Keep.drewN {S : List Nat} {a w : World} (h : Keep S a w) (n : Nat) : Keep S a (w.drewN n) := ⟨h.os, h.tape, h.output, h.size, h.block⟩
theorem Keep.drew {S : List Nat} {a w : World} (h : Keep S a w) : Keep S a w.drew := ⟨h.os, h.tape, h.output, h.size, h.block⟩
theorem Keep.transTo {S S' : List Nat} {a b c : World} (h : Keep S a b) (k : Keep S' b c) (hs : ∀ x, x ∈ S' → x ∈ S ∨ a.heap.size ≤ x) : Keep S a c :=
  ⟨k.os.trans h.os, k.tape.trans h.tape, k.output.trans h.output, Nat.le_trans h.size k.size, fun i hi hn =>
    (k.block i (Nat.lt_of_lt_of_le hi h.size) (fun hm => (hs i hm).elim hn (fun hl => by omega))).trans (h.block i hi hn)⟩
theorem Keep.trans {S : List Nat} {a b c : World} (h : Keep S a b) (k : Keep S b c) : Keep S a c := h.transTo k fun _ hx => .inl hx
theorem Keep.trans0 {S : List Nat} {a b c : World} (h : Keep S a b) (k : Keep [] b c) : Keep S a c := h.transTo k fun _ hx => by cases hx
theorem Keep.mono {S S' : List Nat} {a b : World} (h : Keep S a b) (hs : ∀ x, x ∈ S → x ∈ S' ∨ a.heap.size ≤ x) : Keep S' a b := (Keep.refl S' a).transTo h hs
theorem Keep.of0 {S : List Nat} {a b : World} (h : Keep [] a b) : Keep S a b := h.mono fun _ hx => by cases hx
theorem Keep.alloc {S : List Nat} {a w : World} (h : Keep S a w) (o : Obj) : Keep S a (w.alloc o) :=
  h.transTo (S' := []) ⟨rfl, rfl, rfl, by simp, fun k hk _ => Below.heap_alloc _ _ _ hk⟩ fun _ hx => by cases hx
theorem Keep.setCell {S : List Nat} {a w : World} (h : Keep S a w) (p : Addr) (u : Value) (hp : p.block ∈ S ∨ a.heap.size ≤ p.block) : Keep S a (w.setCell p u) :=
  h.transTo (S' := [p.block]) ⟨rfl, rfl, rfl, by simp [World.setCell], fun k _ hn => Below.heap_setCell _ _ _ _ (fun e => hn (by simp [e]))⟩ fun x hx => by
    simp at hx; subst hx; exact hp
theorem Keep.of_below {w w' : World} (h : Below w.heap.size w w') : Keep [] w w' := ⟨h.os, h.tape, h.output, h.size, fun k hk _ => h.block k hk⟩
theorem Keep.below {w w' : World} (h : Keep [] w w') : Below w.heap.size w w' := ⟨h.os, h.tape, h.output, h.size, fun k hk => h.block k hk (by simp)⟩
theorem Keep.grown {S : List Nat} {a w w' : World} {row : Option Nat} (h : Keep S a w) (hg : w.grownBy w' row) (hr : ∀ k, row = some k → k ∈ S ∨ a.heap.size ≤ k) : Keep S a w' :=
  ⟨hg.os.trans h.os, hg.tape.trans h.tape, hg.output.trans h.output, Nat.le_trans h.size hg.size, fun k hk hn =>
    (hg.block k (Nat.lt_of_lt_of_le hk h.size) (fun e => (hr k e.symm).elim hn (fun hl => by omega))).trans (h.block k hk hn)⟩
theorem Keep.cell {S : List Nat} {w w' : World} (h : Keep S w w') (p : Addr) (hp : p.block < w.heap.size) (hn : p.block ∉ S) : w'.cell? p = w.cell? p := World.cell?_of_block (w := w) (h.block p.block hp hn)
theorem Keep.frozen {S : List Nat} {w w' : World} (h : Keep S w w') (p : Addr) (hp : p.block < w.heap.size) (hn : p.block ∉ S) : w'.frozen? p = w.frozen? p := World.frozen?_of_block (w := w) (h.block p.block hp hn)
theorem Keep.heap {S : List Nat} {w w' : World} {o : Obj} (h : Keep S w w') {k : Nat} (hk : w.heap[k]? = some o) (hn : k ∉ S) : w'.heap[k]? = some o := (h.block k (lt_of_block hk) hn).trans hk

/-- A block of cells, known whole: its cells, and that it may be written. -/
theorem cell_of {w : World} {b : Nat} {c : Array Value} {t : TypeId} {fz : Nat × Nat} (h : w.heap[b]? = some (.cells c t fz)) (i : Nat) : w.cell? ⟨b, i, none⟩ = c[i]? := by simp [World.cell?, h]
theorem free_of {w : World} {b : Nat} {c : Array Value} {t : TypeId} (h : w.heap[b]? = some (.cells c t (0, 0))) (i : Nat) : w.frozen? ⟨b, i, none⟩ = false := by simp [World.frozen?, h]
theorem setCell_at {w : World} {b : Nat} {c : Array Value} {t : TypeId} {fz : Nat × Nat} (h : w.heap[b]? = some (.cells c t fz)) (i : Nat) (u : Value) :
    (w.setCell ⟨b, i, none⟩ u).heap[b]? = some (.cells (c.setIfInBounds i u) t fz) := by
  have hlt := lt_of_block h
  have h' : w.heap[b] = .cells c t fz := by simpa [Array.getElem?_eq_getElem hlt] using h
  show (w.heap.modify b _)[b]? = _
  rw [Array.getElem?_eq_getElem (by simpa using hlt), Array.getElem_modify_self, h']
  rfl
theorem setCell_ne {w : World} {b : Nat} {a : Addr} (u : Value) (h : b ≠ a.block) : (w.setCell a u).heap[b]? = w.heap[b]? := Below.heap_setCell _ _ _ _ h
theorem alloc_at (w : World) (o : Obj) : (w.alloc o).heap[w.heap.size]? = some o := by
  show (w.heap.push o)[w.heap.size]? = _
  simp
theorem alloc_lt {w : World} (o : Obj) {k : Nat} (h : k < w.heap.size) : (w.alloc o).heap[k]? = w.heap[k]? := Below.heap_alloc _ _ _ h
theorem heap_drewN (w : World) (n : Nat) : (w.drewN n).heap = w.heap := rfl

/-- The byte at a place, as a text; none at the end. -/
def wordAt (s : ByteArray) (p : Nat) : ByteArray := if p < s.size then s.extract p (p + 1) else ⟨#[]⟩

/-- The program's reader. -/
def Rd (w : World) (b : Nat) (s : ByteArray) (i parts : Nat) : Prop := w.heap[b]? = some (.cells #[.string s, .int .i64 i, .int .i64 parts] 58 (0, 0))
theorem Rd.c0 {w : World} {b : Nat} {s : ByteArray} {i p : Nat} (h : Rd w b s i p) : w.cell? ⟨b, 0, none⟩ = some (.string s) := by rw [cell_of h]; rfl
theorem Rd.c1 {w : World} {b : Nat} {s : ByteArray} {i p : Nat} (h : Rd w b s i p) : w.cell? ⟨b, 1, none⟩ = some (.int .i64 i) := by rw [cell_of h]; rfl
theorem Rd.c2 {w : World} {b : Nat} {s : ByteArray} {i p : Nat} (h : Rd w b s i p) : w.cell? ⟨b, 2, none⟩ = some (.int .i64 p) := by rw [cell_of h]; rfl
theorem Rd.free {w : World} {b : Nat} {s : ByteArray} {i p : Nat} (h : Rd w b s i p) (j : Nat) : w.frozen? ⟨b, j, none⟩ = false := free_of h j
theorem Rd.lt {w : World} {b : Nat} {s : ByteArray} {i p : Nat} (h : Rd w b s i p) : b < w.heap.size := lt_of_block h
theorem Rd.drewN {w : World} {b : Nat} {s : ByteArray} {i p : Nat} (h : Rd w b s i p) (n : Nat) : Rd (w.drewN n) b s i p := h
theorem Rd.drew {w : World} {b : Nat} {s : ByteArray} {i p : Nat} (h : Rd w b s i p) : Rd w.drew b s i p := h
theorem Rd.keep {S : List Nat} {w w' : World} {b : Nat} {s : ByteArray} {i p : Nat} (h : Rd w b s i p) (k : Keep S w w') (hn : b ∉ S) : Rd w' b s i p := k.heap h hn
theorem Rd.keep0 {w w' : World} {b : Nat} {s : ByteArray} {i p : Nat} (h : Rd w b s i p) (k : Keep [] w w') : Rd w' b s i p := h.keep k (by simp)
theorem Rd.setAt {w : World} {b : Nat} {s : ByteArray} {i p : Nat} (h : Rd w b s i p) (j : Nat) : Rd (w.setCell ⟨b, 1, none⟩ (.int .i64 j)) b s j p := setCell_at h 1 _
theorem Rd.setParts {w : World} {b : Nat} {s : ByteArray} {i p : Nat} (h : Rd w b s i p) (j : Nat) : Rd (w.setCell ⟨b, 2, none⟩ (.int .i64 j)) b s i j := setCell_at h 2 _

/-- An error that is a fault: its code, place and word. -/
def FaultAt (w : World) (v : Value) (code : Int) (p : Nat) (word : ByteArray) : Prop :=
  ∃ fb, v = .iface 55 (.pointer (some ⟨fb, 0, none⟩)) ∧ w.heap[fb]? = some (.cells #[.int .i64 code, .int .i64 p, .string word] 29 (0, 0))
/-- A fault of the reader's: a code and a place; the word is the byte that stands there. -/
def ErrAt (w : World) (v : Value) (s : ByteArray) (f : Int × Nat) : Prop := FaultAt w v f.1 f.2 (wordAt s f.2)
theorem FaultAt.keep {S : List Nat} {w w' : World} {v : Value} {c : Int} {p : Nat} {t : ByteArray} (h : FaultAt w v c p t) (k : Keep S w w') (hn : ∀ x ∈ S, ∀ y, v ≠ .iface 55 (.pointer (some ⟨x, y, none⟩))) : FaultAt w' v c p t := by
  obtain ⟨fb, rfl, h2⟩ := h
  exact ⟨fb, rfl, k.heap h2 fun hm => hn fb hm 0 rfl⟩
theorem FaultAt.keep0 {w w' : World} {v : Value} {c : Int} {p : Nat} {t : ByteArray} (h : FaultAt w v c p t) (k : Keep [] w w') : FaultAt w' v c p t := h.keep k (by simp)
theorem ErrAt.keep0 {w w' : World} {v : Value} {s : ByteArray} {f : Int × Nat} (h : ErrAt w v s f) (k : Keep [] w w') : ErrAt w' v s f := FaultAt.keep0 h k

/-- What a call of the reader's that answers an error alone has done. -/
def Went (b : Nat) (s : ByteArray) (parts : Nat) (w : World) (r : Except (Int × Nat) Nat) (e : Ending) (w' : World) : Prop :=
  match r with
  | .ok i => e = .returned .nilIface ∧ Rd w' b s i parts ∧ Keep [b] w w'
  | .error f => ∃ v, e = .returned v ∧ ErrAt w' v s f ∧ Keep [b] w w'
theorem Went.mkOk {b : Nat} {s : ByteArray} {p i : Nat} {w w' : World} (h : Rd w' b s i p) (k : Keep [b] w w') : Went b s p w (.ok i) (.returned .nilIface) w' := ⟨rfl, h, k⟩
theorem Went.mkErr {b : Nat} {s : ByteArray} {p : Nat} {f : Int × Nat} {v : Value} {w w' : World} (h : ErrAt w' v s f) (k : Keep [b] w w') : Went b s p w (.error f) (.returned v) w' := ⟨v, rfl, h, k⟩
theorem Went.ok {b : Nat} {s : ByteArray} {p i : Nat} {w w' : World} {e : Ending} (h : Went b s p w (.ok i) e w') : e = .returned .nilIface ∧ Rd w' b s i p ∧ Keep [b] w w' := h
theorem Went.err {b : Nat} {s : ByteArray} {p : Nat} {f : Int × Nat} {w w' : World} {e : Ending} (h : Went b s p w (.error f) e w') : ∃ fb, e = .returned (.iface 55 (.pointer (some ⟨fb, 0, none⟩))) ∧ ErrAt w' (.iface 55 (.pointer (some ⟨fb, 0, none⟩))) s f ∧ Keep [b] w w' := by
  obtain ⟨v, rfl, ⟨fb, rfl, h⟩, k⟩ := h
  exact ⟨fb, rfl, ⟨fb, rfl, h⟩, k⟩
/-- What a call of the reader's that answers a text and an error has done. -/
def Gave (b : Nat) (s : ByteArray) (parts : Nat) (w : World) (r : Except (Int × Nat) (ByteArray × Nat)) (e : Ending) (w' : World) : Prop :=
  match r with
  | .ok t => e = .returned (.tuple #[.string t.1, .nilIface]) ∧ Rd w' b s t.2 parts ∧ Keep [b] w w'
  | .error f => ∃ v, e = .returned (.tuple #[.string ⟨#[]⟩, v]) ∧ ErrAt w' v s f ∧ Keep [b] w w'
theorem Gave.mkOk {b : Nat} {s t : ByteArray} {p i : Nat} {w w' : World} (h : Rd w' b s i p) (k : Keep [b] w w') : Gave b s p w (.ok (t, i)) (.returned (.tuple #[.string t, .nilIface])) w' := ⟨rfl, h, k⟩
theorem Gave.mkErr {b : Nat} {s : ByteArray} {p : Nat} {f : Int × Nat} {v : Value} {w w' : World} (h : ErrAt w' v s f) (k : Keep [b] w w') : Gave b s p w (.error f) (.returned (.tuple #[.string ⟨#[]⟩, v])) w' := ⟨v, rfl, h, k⟩
theorem Gave.ok {b : Nat} {s t : ByteArray} {p i : Nat} {w w' : World} {e : Ending} (h : Gave b s p w (.ok (t, i)) e w') : e = .returned (.tuple #[.string t, .nilIface]) ∧ Rd w' b s i p ∧ Keep [b] w w' := h
theorem Gave.err {b : Nat} {s : ByteArray} {p : Nat} {f : Int × Nat} {w w' : World} {e : Ending} (h : Gave b s p w (.error f) e w') : ∃ fb, e = .returned (.tuple #[.string ⟨#[]⟩, .iface 55 (.pointer (some ⟨fb, 0, none⟩))]) ∧ ErrAt w' (.iface 55 (.pointer (some ⟨fb, 0, none⟩))) s f ∧ Keep [b] w w' := by
  obtain ⟨v, rfl, ⟨fb, rfl, h⟩, k⟩ := h
  exact ⟨fb, rfl, ⟨fb, rfl, h⟩, k⟩
theorem ret_bool {a b : Bool} (h : a = b) : Ending.returned (.bool a) = .returned (.bool b) := by rw [h]
theorem ret_int {k : IntKind} {a b : Int} (h : a = b) : Ending.returned (.int k a) = .returned (.int k b) := by rw [h]
theorem ret_str {a b : ByteArray} (h : a = b) : Ending.returned (.string a) = .returned (.string b) := by rw [h]
theorem byte_all {p : Nat → Prop} (h : ∀ n : Fin 256, p n.val) (c : UInt8) : p c.toNat := h ⟨c.toNat, c.toNat_lt⟩
/-- The kinds of a byte. -/
def digB (c : UInt8) : Bool := 48 ≤ c.toNat && c.toNat ≤ 57
def letB (c : UInt8) : Bool := (97 ≤ c.toNat && c.toNat ≤ 122) || (65 ≤ c.toNat && c.toNat ≤ 90)
def innB (c : UInt8) : Bool := digB c || letB c || c.toNat == 45
def peekB (s : ByteArray) (i : Nat) : UInt8 := if h : i < s.size then s[i] else 0

/-- What stands next cannot: at the end, or at a byte. -/
def stuckF (s : ByteArray) (i : Nat) : Int × Nat := if s.size ≤ i then (5, i) else (50, i)

/-- take: the byte stands next, or not. -/
def takeP (s : ByteArray) (i : Nat) (c : UInt8) : Except (Int × Nat) Nat := if i < s.size ∧ peekB s i = c then .ok (i + 1) else .error (stuckF s i)

end Go.Proofs.YtjmpcoedfoaebaaGreatDoor
