/- What Parse and told give, for the laws: a filter or a fault in a variable. -/
import Derived.Test.YtjmpcoedfoaebaaGreatDoorWgt
import Derived.Test.YtjmpcoedfoaebaaGreatDoorFltd
import Derived.Test.YtjmpcoedfoaebaaGreatDoorSam
import Derived.Test.YtjmpcoedfoaebaaGreatDoorGud
import Derived.Test.YtjmpcoedfoaebaaGreatDoorWkb
open Go Go.RowKit
namespace Go.Proofs.YtjmpcoedfoaebaaGreatDoor

theorem FltR.slices {w : World} {lo hi : Nat} {g : Flt} {kv mv : Value} (h : FltR w lo hi g (nineOf kv mv g.it)) : (∃ a1 c1, kv = .slice a1 g.kids.length c1) ∧ ∃ a2 c2, mv = .slice a2 g.it.mids.length c2 := by
  generalize hvs : nineOf kv mv g.it = vs at h
  cases h with
  | mk _ _ it kids kv' mv' L H cs hm hmh hk hkh hmk hL hLL hout hkid =>
    obtain ⟨a1, c1, e1⟩ := owns_slice hk
    obtain ⟨a2, c2, e2⟩ := owns_slice hm
    have hvs' : nineOf kv mv it = nineOf kv' mv' it := hvs
    unfold nineOf at hvs'
    injection hvs' with _ hvs'
    injection hvs' with hk' hvs'
    injection hvs' with _ hvs'
    injection hvs' with _ hvs'
    injection hvs' with _ hvs'
    injection hvs' with hm' hvs'
    exact ⟨⟨a1, c1, hk'.trans e1⟩, a2, c2, hm'.trans e2⟩
/-- The cells of a row of parts of nine cells. -/
theorem flat_at {cs : Nat → List Value} : ∀ (n : Nat), (∀ i, i < n → (cs i).length = 9) → ((List.range n).flatMap cs).length = n * 9 ∧ ∀ i j u, i < n → (cs i)[j]? = some u → ((List.range n).flatMap cs)[i * 9 + j]? = some u
  | 0, _ => ⟨rfl, fun i j u h => by omega⟩
  | n + 1, h => by
    obtain ⟨h1, h2⟩ := flat_at n fun i hi => h i (by omega)
    rw [List.range_succ, List.flatMap_append]
    have h9 := h n (by omega)
    simp only [List.flatMap_cons, List.flatMap_nil, List.append_nil]
    refine ⟨by rw [List.length_append, h1, h9]; omega, fun i j u hi hu => ?_⟩
    have hj : j < (cs i).length := (List.getElem?_eq_some_iff.1 hu).1
    rcases Nat.lt_or_ge i n with hlt | hge
    · rw [List.getElem?_append_left (by rw [h1]; have := h i hi; omega)]
      exact h2 i j u hlt hu
    · obtain rfl : i = n := by omega
      rw [List.getElem?_append_right (by rw [h1]; omega), h1, Nat.add_sub_cancel_left]
      exact hu

theorem three {w : World} {fb : Nat} {c0 c1 c2 : Value} {T : TypeId} (h : w.heap[fb]? = some (.cells #[c0, c1, c2] T (0, 0))) :
    w.cell? ⟨fb, 0, none⟩ = some c0 ∧ w.cell? ⟨fb, 1, none⟩ = some c1 ∧ w.cell? ⟨fb, 2, none⟩ = some c2 ∧ ∀ j, w.frozen? ⟨fb, j, none⟩ = false :=
  ⟨cell_of h 0, cell_of h 1, cell_of h 2, fun j => free_of h j⟩
/-- A filter of the call's own is one that is read. -/
theorem FltR.toD {w : World} {lo hi : Nat} {g : Flt} {vs : List Value} (h : FltR w lo hi g vs) {H0 : Nat} (hH : hi ≤ H0) : FltD w H0 g vs := by
  induction h with
  | mk lo hi it kids kv mv L H cs hm hmh hk hkh hmk hL hLL hout hkid ih =>
    obtain ⟨ka, kc, rfl⟩ := owns_slice hk
    obtain ⟨ma, mc, rfl⟩ := owns_slice hm
    have h9 : ∀ i, i < kids.length → (cs i).length = 9 := fun i hi => (hkid i hi).len
    refine .mk it kids ka kc ma mc cs ?_ ?_ ?_ ?_ fun i hi' => ih i hi' (by have := hL i hi'; omega)
    · rcases hm.2 with ⟨_, h0⟩ | ⟨g, cap, cur, he, _⟩
      · exact .inl (List.length_eq_zero_iff.1 h0)
      · cases he
        have h1 := hmh g rfl
        refine .inr ⟨g, 0, rfl, by omega, fun k r hr => ?_⟩
        have h2 := hm.cells (g := g) rfl k (.string r) (by rw [List.getElem?_map, hr]; rfl)
        rw [Addr.add_mid] at h2
        exact h2
    · rcases hm.2 with ⟨_, h0⟩ | ⟨g, cap, cur, he, _, _, h1, h2, _⟩
      · omega
      · cases he; unfold maxLen at h2; omega
    · rcases hk.2 with ⟨_, h0⟩ | ⟨g, cap, cur, he, _, _, h1, h2, _⟩
      · omega
      · cases he; unfold maxLen at h2; omega
    · rcases hk.2 with ⟨_, h0⟩ | ⟨g, cap, cur, he, _⟩
      · exact .inl (List.length_eq_zero_iff.1 h0)
      · cases he
        have h1 := hkh g rfl
        refine .inr ⟨g, 0, rfl, by omega, fun i hi' j u hu => ?_⟩
        have h2 := hk.cells (g := g) rfl (i * 9 + j) u ((flat_at kids.length h9).2 i j u hi' hu)
        rw [Addr.add_mid] at h2
        rw [Nat.add_assoc]
        exact h2
def zeroIt : Itm := ⟨0, noText, noText, noText, [], noText, noText, false⟩
def zeroFlt : Flt := .mk zeroIt []
/-- The filter of an answer of Parse; its fault, three zeros if there is none. -/
def fltOf : Except (Int × Nat × ByteArray) Flt → Flt
  | .ok g => g
  | .error _ => zeroFlt
def faultOf : Except (Int × Nat × ByteArray) Flt → Int × Nat × ByteArray
  | .ok _ => (0, 0, noText)
  | .error f => f
theorem FltR.zero (w : World) (lo hi : Nat) : FltR w lo hi zeroFlt (nineOf (.slice none 0 0) (.slice none 0 0) zeroIt) :=
  .mk lo hi zeroIt [] _ _ (fun _ => 0) (fun _ => 0) (fun _ => []) (World.ownsRow_nil _ _ _ _) (fun _ h => by cases h) (World.ownsRow_nil _ _ _ _) (fun _ h => by cases h) (fun _ h => by cases h) (fun _ h => by cases h) (fun _ _ _ h => by cases h) (fun _ _ h => by cases h) (fun _ h => by cases h)
/-- An error that tells a fault, or none. -/
def ErrV (w : World) (v : Value) (f : Int × Nat × ByteArray) : Prop := (v = .nilIface ∧ f = (0, 0, noText)) ∨ (f.1 ≠ 0 ∧ FaultAt w v f.1 f.2.1 f.2.2)
theorem ErrV.keep0 {w w' : World} {v : Value} {f : Int × Nat × ByteArray} (h : ErrV w v f) (k : Keep [] w w') : ErrV w' v f := h.imp id fun h => ⟨h.1, h.2.keep0 k⟩
theorem gd_parse {s : ByteArray} {f : Int × Nat × ByteArray} (h : parseP s = .error f) : f.1 ≠ 0 := by
  unfold parseP at h
  split at h
  · cases h; decide
  · cases hf : filterP s 64 0 0 with
    | error e =>
      rw [hf] at h; cases h
      exact (gd_filter 64 (Nat.zero_le _) (Nat.zero_le _) _ hf).2.2
    | ok t =>
      have hl := filterP_ok (Nat.zero_le _) (Nat.zero_le _) (show filterP s 64 0 0 = .ok (t.1, t.2.1, t.2.2) from hf)
      rw [hf] at h
      dsimp only at h
      split at h
      · cases h
        exact (gd_stuck (α := Nat) hl.2.1 _ rfl).2.2
      · cases h
theorem parse_weight (s : ByteArray) : weight (fltOf (parseP s)) ≤ 1048577 := by
  unfold parseP
  split
  · show weight zeroFlt ≤ _; simp [zeroFlt, zeroIt, weight, weightK]
  · cases hf : filterP s 64 0 0 with
    | error e => show weight zeroFlt ≤ _; simp [zeroFlt, zeroIt, weight, weightK]
    | ok t =>
      have h0 : filterP s 64 0 0 = .ok (t.1, t.2.1, t.2.2) := hf
      have hl := filterP_ok (Nat.zero_le _) (Nat.zero_le _) h0
      have hw := filterP_w (Nat.zero_le _) (Nat.zero_le _) h0
      dsimp only
      split
      · show weight zeroFlt ≤ _; simp [zeroFlt, zeroIt, weight, weightK]
      · show weight t.1 ≤ _; omega
/-- What a call of the program's Parse has done, whatever the text. -/
def PaR (w : World) (r : Except (Int × Nat × ByteArray) Flt) (e : Ending) (w' : World) : Prop :=
  ∃ a1 c1 a2 c2 v, e = .returned (.tuple #[.agg #[.int .i8 (fltOf r).it.kind, .slice a1 (fltOf r).kids.length c1, .string (fltOf r).it.desc, .string (fltOf r).it.value, .string (fltOf r).it.start, .slice a2 (fltOf r).it.mids.length c2, .string (fltOf r).it.fin, .string (fltOf r).it.rule, .bool (fltOf r).it.dn], v]) ∧
    FltR w' w.heap.size w'.heap.size (fltOf r) (nineOf (.slice a1 (fltOf r).kids.length c1) (.slice a2 (fltOf r).it.mids.length c2) (fltOf r).it) ∧ ErrV w' v (faultOf r) ∧ Keep [] w w'
theorem parse_all (B : Nat) (s : ByteArray) (w : World) (hE : Env B w) : Calls Tryz.prog 12 #[.string s] w (PaR w (parseP s)) := by
  refine (parse_any B s w hE).mono ?_
  intro e w' h
  cases hp : parseP s with
  | error f =>
    rw [hp] at h
    obtain ⟨fb, rfl, hF, hK⟩ := h
    exact ⟨none, 0, none, 0, _, rfl, FltR.zero _ _ _, .inr ⟨gd_parse hp, hF⟩, hK⟩
  | ok g =>
    rw [hp] at h
    obtain ⟨a1, n1, c1, a2, n2, c2, rfl, hG, hK⟩ := h
    obtain ⟨⟨b1, d1, h1⟩, b2, d2, h2⟩ := hG.slices
    cases h1
    cases h2
    exact ⟨a1, c1, a2, c2, _, rfl, hG, .inl ⟨rfl, rfl⟩, hK⟩
theorem told_all (B : Nat) (v : Value) (f : Int × Nat × ByteArray) (w : World) (hE : Env B w) (h : ErrV w v f) : Calls Tryz.prog 13 #[v] w (ToldR w f.1 f.2.1 f.2.2) := by
  rcases h with ⟨rfl, rfl⟩ | ⟨h1, fb, rfl, h2⟩
  · exact told_nil w
  · exact told_hit B fb f.1 f.2.1 f.2.2 w hE h1 h2
/-- The nine cells of a filter's value. -/
def nineA (g : Flt) (a1 : Option Addr) (c1 : Nat) (a2 : Option Addr) (c2 : Nat) : List Value := nineOf (.slice a1 g.kids.length c1) (.slice a2 g.it.mids.length c2) g.it
def faultA (f : Int × Nat × ByteArray) : List Value := [.int .i64 f.1, .int .i64 f.2.1, .string f.2.2]
/-- A filter in a variable, its own blocks in an interval below. -/
structure BoxF (W : World) (b lo hi : Nat) (g : Flt) (a1 : Option Addr) (c1 : Nat) (a2 : Option Addr) (c2 : Nat) : Prop where
  X : W.heap[b]? = some (.cells (nineA g a1 c1 a2 c2).toArray 26 (0, 0))
  G : FltR W lo hi g (nineA g a1 c1 a2 c2)
  le : lo ≤ hi
  lt : hi ≤ b
theorem BoxF.keep {S : List Nat} {W W' : World} {b lo hi : Nat} {g : Flt} {a1 : Option Addr} {c1 : Nat} {a2 : Option Addr} {c2 : Nat} (h : BoxF W b lo hi g a1 c1 a2 c2) (k : Keep S W W') (hS : ∀ x ∈ S, x < lo ∨ (hi ≤ x ∧ x ≠ b)) : BoxF W' b lo hi g a1 c1 a2 c2 :=
  ⟨k.heap h.X fun hm => by have := hS _ hm; have := h.le; have := h.lt; omega, h.G.keep k fun x hx => by have := hS x hx; omega, h.le, h.lt⟩
theorem BoxF.keep0 {W W' : World} {b lo hi : Nat} {g : Flt} {a1 : Option Addr} {c1 : Nat} {a2 : Option Addr} {c2 : Nat} (h : BoxF W b lo hi g a1 c1 a2 c2) (k : Keep [] W W') : BoxF W' b lo hi g a1 c1 a2 c2 := h.keep k (by simp)
theorem BoxF.size {W : World} {b lo hi : Nat} {g : Flt} {a1 : Option Addr} {c1 : Nat} {a2 : Option Addr} {c2 : Nat} (h : BoxF W b lo hi g a1 c1 a2 c2) : b < W.heap.size := lt_of_block h.X
def BoxE (W : World) (b : Nat) (f : Int × Nat × ByteArray) : Prop := W.heap[b]? = some (.cells (faultA f).toArray 29 (0, 0))
theorem BoxE.keep0 {W W' : World} {b : Nat} {f : Int × Nat × ByteArray} (h : BoxE W b f) (k : Keep [] W W') : BoxE W' b f := k.heap h (by simp)

end Go.Proofs.YtjmpcoedfoaebaaGreatDoor
