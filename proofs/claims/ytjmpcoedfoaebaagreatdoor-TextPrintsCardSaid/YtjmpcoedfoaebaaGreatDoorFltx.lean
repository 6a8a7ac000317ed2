/- A filter, plain: what a text is as a filter, or the fault. No program here. A filter in memory that the call has made: 'FltR': its blocks lie in an interval, and no two parts share one. No program here. A filter, plain: facts on filterP; rows of nine cells in memory; what the program's reader of filters has done ('FRet'). -/
import Derived.Test.YtjmpcoedfoaebaaGreatDoorItex
import Derived.Deep.MidRow
open Go Go.RowKit
namespace Go.Proofs.YtjmpcoedfoaebaaGreatDoor

/-- A filter: its own fields and its kids. -/
inductive Flt where
  | mk (it : Itm) (kids : List Flt)
def manyP (c : UInt8) : Option Int := if c = 38 then some 0 else if c = 124 then some 1 else if c = 33 then some 2 else none
/-- Where a reading stands: the place and the parts so far. -/
abbrev At := Nat × Nat
/-- The kids of a filter that stand from a place on. -/
def kidsP (f : Nat → Nat → Except (Int × Nat) (Flt × Nat × Nat)) (s : ByteArray) (kind : Int) : Nat → Nat → Nat → List Flt → Except (Int × Nat) (List Flt × Nat × Nat)
  | 0, i, _, _ => .error (0, i)
  | k + 1, i, p, acc => match f i p with
    | .error e => .error e
    | .ok (g, j, q) => if kind = 2 ∨ peekB s j ≠ 40 then .ok (acc ++ [g], j, q) else kidsP f s kind k j q (acc ++ [g])
/-- The closing sign. -/
def closeP (s : ByteArray) : Except (Int × Nat) (Flt × Nat × Nat) → Except (Int × Nat) (Flt × Nat × Nat)
  | .error e => .error e
  | .ok (g, j, q) => match takeP s j 41 with
    | .error e => .error e
    | .ok j => .ok (g, j, q)
def kidsF (kind : Int) : Except (Int × Nat) (List Flt × Nat × Nat) → Except (Int × Nat) (Flt × Nat × Nat)
  | .error e => .error e
  | .ok (l, j, q) => .ok (.mk ⟨kind, noText, noText, noText, [], noText, noText, false⟩ l, j, q)
def itemF (q : Nat) : Except (Int × Nat) (Itm × Nat) → Except (Int × Nat) (Flt × Nat × Nat)
  | .error e => .error e
  | .ok (it, j) => .ok (.mk it [], j, q)
def partsOf (s : ByteArray) (j p : Nat) : Nat := if peekB s j = 33 then p else p + 1
/-- A filter at a place; rem: how many depths are left. -/
def filterP (s : ByteArray) : Nat → Nat → Nat → Except (Int × Nat) (Flt × Nat × Nat)
  | 0, i, _ => match takeP s i 40 with
    | .error e => .error e
    | .ok _ => .error (91, i)
  | rem + 1, i, p => match takeP s i 40 with
    | .error e => .error e
    | .ok j => if 65536 < partsOf s j p then .error (3, i) else
        match manyP (peekB s j) with
        | some k => closeP s (kidsF k (kidsP (filterP s rem) s k (s.size + 1) (j + 1) (partsOf s j p) []))
        | none => closeP s (itemF (partsOf s j p) (itemP s j))
end Go.Proofs.YtjmpcoedfoaebaaGreatDoor

open Go Go.RowKit
namespace Go.Proofs.YtjmpcoedfoaebaaGreatDoor

def Flt.it : Flt → Itm
  | .mk it _ => it
def Flt.kids : Flt → List Flt
  | .mk _ ks => ks
/-- The nine cells of a filter. -/
def nineOf (kv mv : Value) (it : Itm) : List Value := [.int .i8 it.kind, kv, .string it.desc, .string it.value, .string it.start, mv, .string it.fin, .string it.rule, .bool it.dn]

theorem owns_keep2 {S : List Nat} {N : Nat} {T : TypeId} {z : Nat} {v : Value} {n : Nat} {xs : List Value} {w w' : World} (h : w.ownsRow N T z v n xs) (k : Keep S w w') (hS : ∀ g, v.ownBlock = some g → g ∉ S) : w'.ownsRow N T z v n xs := by
  refine ⟨h.1, ?_⟩
  rcases h.2 with hn | ⟨g, cap, cur, rfl, hb, hg, rest⟩
  · exact .inl hn
  · exact .inr ⟨g, cap, cur, rfl, hb, k.heap hg (hS g rfl), rest⟩
theorem owns_mono {N M : Nat} {T : TypeId} {z : Nat} {v : Value} {n : Nat} {xs : List Value} {w : World} (h : w.ownsRow N T z v n xs) (hm : M ≤ N) : w.ownsRow M T z v n xs := by
  refine ⟨h.1, ?_⟩
  rcases h.2 with hn | ⟨g, cap, cur, rfl, hb, rest⟩
  · exact .inl hn
  · exact .inr ⟨g, cap, cur, rfl, by omega, rest⟩

/-- A filter of the call's own: its blocks are in [lo, hi). -/
inductive FltR (w : World) : Nat → Nat → Flt → List Value → Prop where
  | mk (lo hi : Nat) (it : Itm) (kids : List Flt) (kv mv : Value) (L H : Nat → Nat) (cs : Nat → List Value)
      (hm : w.ownsRow lo 9 1 mv it.mids.length (it.mids.map Value.string)) (hmh : ∀ k, mv.ownBlock = some k → k < hi)
      (hk : w.ownsRow lo 26 9 kv kids.length ((List.range kids.length).flatMap cs)) (hkh : ∀ k, kv.ownBlock = some k → k < hi)
      (hmk : ∀ k, kv.ownBlock = some k → mv.ownBlock ≠ some k)
      (hL : ∀ i, i < kids.length → lo ≤ L i ∧ L i ≤ H i ∧ H i ≤ hi)
      (hLL : ∀ i j, i < j → j < kids.length → H i ≤ L j)
      (hout : ∀ i k, i < kids.length → (kv.ownBlock = some k ∨ mv.ownBlock = some k) → k < L i ∨ H i ≤ k)
      (hkid : ∀ i (h : i < kids.length), FltR w (L i) (H i) kids[i] (cs i)) :
      FltR w lo hi (.mk it kids) (nineOf kv mv it)
theorem FltR.len {w : World} {lo hi : Nat} {g : Flt} {vs : List Value} (h : FltR w lo hi g vs) : vs.length = 9 := by
  cases h; rfl
theorem FltR.nine {w : World} {lo hi : Nat} {g : Flt} {vs : List Value} (h : FltR w lo hi g vs) : ∃ kv mv, vs = nineOf kv mv g.it := by
  cases h; exact ⟨_, _, rfl⟩
theorem FltR.keep {S : List Nat} {w w' : World} (k : Keep S w w') {lo hi : Nat} {g : Flt} {vs : List Value} (h : FltR w lo hi g vs) (hS : ∀ x ∈ S, x < lo ∨ hi ≤ x) : FltR w' lo hi g vs := by
  induction h with
  | mk lo hi it kids kv mv L H cs hm hmh hk hkh hmk hL hLL hout hkid ih =>
    refine .mk lo hi it kids kv mv L H cs (owns_keep2 hm k ?_) hmh (owns_keep2 hk k ?_) hkh hmk hL hLL hout fun i hi' => ih i hi' fun x hx => ?_
    · intro g hg hx
      have h1 := (hm.lt g hg).1
      have h2 := hmh g hg
      have := hS g hx
      omega
    · intro g hg hx
      have h1 := (hk.lt g hg).1
      have h2 := hkh g hg
      have := hS g hx
      omega
    · have h1 := hL i hi'
      have := hS x hx
      omega
theorem FltR.mono {w : World} {lo hi lo' hi' : Nat} {g : Flt} {vs : List Value} (h : FltR w lo hi g vs) (h1 : lo' ≤ lo) (h2 : hi ≤ hi') : FltR w lo' hi' g vs := by
  cases h with
  | mk _ _ it kids kv mv L H cs hm hmh hk hkh hmk hL hLL hout hkid =>
    refine .mk lo' hi' it kids kv mv L H cs (owns_mono hm h1) (fun k hk' => Nat.lt_of_lt_of_le (hmh k hk') h2) (owns_mono hk h1) (fun k hk' => Nat.lt_of_lt_of_le (hkh k hk') h2) hmk ?_ hLL hout hkid
    intro i hi'
    have := hL i hi'
    omega

/-- The kids so far: their row, each in an interval of its own. -/
def KidsR (w : World) (lo hi : Nat) (kids : List Flt) (kv : Value) : Prop :=
  ∃ (L H : Nat → Nat) (cs : Nat → List Value), w.ownsRow lo 26 9 kv kids.length ((List.range kids.length).flatMap cs) ∧ (∀ k, kv.ownBlock = some k → k < hi) ∧
    (∀ i, i < kids.length → lo ≤ L i ∧ L i ≤ H i ∧ H i ≤ hi) ∧ (∀ i j, i < j → j < kids.length → H i ≤ L j) ∧
    (∀ i k, i < kids.length → kv.ownBlock = some k → k < L i ∨ H i ≤ k) ∧ (∀ i (h : i < kids.length), FltR w (L i) (H i) kids[i] (cs i))
theorem KidsR.nil (w : World) (lo hi : Nat) : KidsR w lo hi [] (.slice none 0 0) :=
  ⟨fun _ => 0, fun _ => 0, fun _ => [], World.ownsRow_nil _ _ _ _, (fun _ h => by cases h), (fun _ h => by cases h), (fun _ _ _ h => by cases h), (fun _ _ h => by cases h), (fun _ h => by cases h)⟩
theorem KidsR.keep {S : List Nat} {w w' : World} (k : Keep S w w') {lo hi : Nat} {kids : List Flt} {kv : Value} (h : KidsR w lo hi kids kv) (hS : ∀ x ∈ S, x < lo ∨ hi ≤ x) : KidsR w' lo hi kids kv := by
  obtain ⟨L, H, cs, hk, hkh, hL, hLL, hout, hkid⟩ := h
  refine ⟨L, H, cs, owns_keep2 hk k ?_, hkh, hL, hLL, hout, fun i hi' => (hkid i hi').keep k ?_⟩
  · intro g hg hx
    have h1 := (hk.lt g hg).1
    have h2 := hkh g hg
    have := hS g hx
    omega
  · intro x hx
    have h1 := hL i hi'
    have := hS x hx
    omega
theorem KidsR.mono {w : World} {lo hi hi' : Nat} {kids : List Flt} {kv : Value} (h : KidsR w lo hi kids kv) (h2 : hi ≤ hi') : KidsR w lo hi' kids kv := by
  obtain ⟨L, H, cs, hk, hkh, hL, hLL, hout, hkid⟩ := h
  refine ⟨L, H, cs, hk, fun k hk' => Nat.lt_of_lt_of_le (hkh k hk') h2, ?_, hLL, hout, hkid⟩
  intro i hi'
  have := hL i hi'
  omega
theorem KidsR.flt {w : World} {lo hi : Nat} {kids : List Flt} {kv : Value} (h : KidsR w lo hi kids kv) (it : Itm) (hit : it.mids = []) : FltR w lo hi (.mk it kids) (nineOf kv (.slice none 0 0) it) := by
  obtain ⟨L, H, cs, hk, hkh, hL, hLL, hout, hkid⟩ := h
  refine .mk lo hi it kids kv (.slice none 0 0) L H cs (by rw [hit]; exact World.ownsRow_nil _ _ _ _) (fun _ h => by cases h) hk hkh (fun _ _ h => by cases h) hL hLL ?_ hkid
  intro i k hi' h
  rcases h with h | h
  · exact hout i k hi' h
  · cases h
theorem flatMap_congr {f g : Nat → List Value} : ∀ {l : List Nat}, (∀ i ∈ l, f i = g i) → l.flatMap f = l.flatMap g
  | [], _ => rfl
  | a :: l, h => by
    rw [List.flatMap_cons, List.flatMap_cons, h a (by simp), flatMap_congr fun i hi => h i (by simp [hi])]
/-- One kid more: it lies above all that was; the row is the old one or a new block above that. -/
theorem KidsR.snoc {w w' : World} {lo hi mid : Nat} {kids : List Flt} {kv kv' : Value} {g : Flt} {vs : List Value} (h : KidsR w lo hi kids kv)
    (hw : ∀ k, lo ≤ k → k < hi → kv.ownBlock ≠ some k → w'.heap[k]? = w.heap[k]?) (hos : w'.os = w.os) (hta : w'.tape = w.tape) (hou : w'.output = w.output) (hsz : w.heap.size ≤ w'.heap.size) (hhi : hi ≤ w.heap.size)
    (hg : FltR w' hi mid g vs) (hm1 : hi ≤ mid) (hm2 : mid ≤ w'.heap.size) (hlo : lo ≤ hi)
    (hrow : ∀ xs, w.ownsRow lo 26 9 kv kids.length xs → w'.ownsRow lo 26 9 kv' (kids.length + 1) (xs ++ vs))
    (hblk : ∀ k, kv'.ownBlock = some k → kv.ownBlock = some k ∨ mid ≤ k) : KidsR w' lo w'.heap.size (kids ++ [g]) kv' := by
  obtain ⟨L, H, cs, hk, hkh, hL, hLL, hout, hkid⟩ := h
  refine ⟨fun i => if i = kids.length then hi else L i, fun i => if i = kids.length then mid else H i, fun i => if i = kids.length then vs else cs i, ?_, ?_, ?_, ?_, ?_, ?_⟩
  · rw [List.length_append, List.length_singleton, List.range_succ, List.flatMap_append, flatMap_congr (g := cs) (fun i hi => if_neg (by have := List.mem_range.1 hi; omega))]
    simpa using hrow _ hk
  · intro k hk'
    exact ((hrow _ hk).lt k hk').2
  · intro i hi'
    rw [List.length_append, List.length_singleton] at hi'
    dsimp only
    split
    · omega
    · have := hL i (by omega); omega
  · intro i j hij hj
    rw [List.length_append, List.length_singleton] at hj
    dsimp only
    rw [if_neg (show i ≠ kids.length by omega)]
    split
    · have := hL i (by omega); omega
    · exact hLL i j hij (by omega)
  · intro i k hi' hk'
    rw [List.length_append, List.length_singleton] at hi'
    dsimp only
    rcases hblk k hk' with hb | hb
    · have h1 := hkh k hb
      split
      · omega
      · exact hout i k (by omega) hb
    · split
      · omega
      · have := hL i (by omega); omega
  · intro i hi'
    rw [List.length_append, List.length_singleton] at hi'
    dsimp only
    by_cases he : i = kids.length
    · subst he
      rw [if_pos rfl, if_pos rfl, if_pos rfl, List.getElem_append_right (Nat.le_refl _)]
      simpa using hg
    · rw [if_neg he, if_neg he, if_neg he, List.getElem_append_left (by omega)]
      have hlt : i < kids.length := by omega
      have h1 := hL i hlt
      refine FltR.keep (S := (match kv.ownBlock with | some k => [k] | none => []) ++ ((List.range (w.heap.size - hi)).map (· + hi) ++ List.range lo)) ⟨hos, hta, hou, hsz, fun k hk1 hk2 => ?_⟩ (hkid i hlt) ?_
      · simp only [List.mem_append, List.mem_map, List.mem_range, not_or] at hk2
        rcases Nat.lt_or_ge k hi with h | h
        · refine hw k (by have := hk2.2.2; omega) h fun he => ?_
          rw [he] at hk2; simp at hk2
        · exact absurd ⟨k - hi, by omega, by omega⟩ hk2.2.1
      · intro x hx
        rw [List.mem_append] at hx
        rcases hx with hx | hx
        · cases hb : kv.ownBlock with
          | none => rw [hb] at hx; cases hx
          | some k =>
            rw [hb] at hx
            simp at hx
            subst hx
            exact hout i x hlt hb
        · rcases List.mem_append.1 hx with hx | hx
          · obtain ⟨y, _, rfl⟩ := List.mem_map.1 hx
            omega
          · have := List.mem_range.1 hx
            omega
end Go.Proofs.YtjmpcoedfoaebaaGreatDoor

open Go Go.RowKit
namespace Go.Proofs.YtjmpcoedfoaebaaGreatDoor

/-- What a call of filter has done. -/
def FRet (b : Nat) (s : ByteArray) (w : World) (r : Except (Int × Nat) (Flt × Nat × Nat)) (e : Ending) (w' : World) : Prop :=
  match r with
  | .ok t => ∃ kv mv, e = .returned (.tuple #[.agg (nineOf kv mv t.1.it).toArray, .nilIface]) ∧ FltR w' w.heap.size w'.heap.size t.1 (nineOf kv mv t.1.it) ∧ Rd w' b s t.2.1 t.2.2 ∧ Keep [b] w w'
  | .error f => ∃ k a1 n1 c1 d v st a2 n2 c2 fi ru dn u, e = .returned (.tuple #[.agg #[.int .i8 k, .slice a1 n1 c1, .string d, .string v, .string st, .slice a2 n2 c2, .string fi, .string ru, .bool dn], u]) ∧ ErrAt w' u s f ∧ Keep [b] w w'
theorem FRet.mkOk {b : Nat} {s : ByteArray} {w w' : World} {g : Flt} {j q : Nat} {kv mv : Value} (h : FltR w' w.heap.size w'.heap.size g (nineOf kv mv g.it)) (hR : Rd w' b s j q) (hK : Keep [b] w w') :
    FRet b s w (.ok (g, j, q)) (.returned (.tuple #[.agg (nineOf kv mv g.it).toArray, .nilIface])) w' := ⟨kv, mv, rfl, h, hR, hK⟩
theorem FRet.mkErr {b : Nat} {s : ByteArray} {w w' : World} {f : Int × Nat} {k : Int} {a1 a2 : Option Addr} {n1 c1 n2 c2 : Nat} {d v st fi ru : ByteArray} {dn : Bool} {u : Value} (h : ErrAt w' u s f) (hK : Keep [b] w w') :
    FRet b s w (.error f) (.returned (.tuple #[.agg #[.int .i8 k, .slice a1 n1 c1, .string d, .string v, .string st, .slice a2 n2 c2, .string fi, .string ru, .bool dn], u])) w' :=
  ⟨k, a1, n1, c1, d, v, st, a2, n2, c2, fi, ru, dn, u, rfl, h, hK⟩
theorem FRet.ok {b : Nat} {s : ByteArray} {w w' : World} {g : Flt} {j q : Nat} {e : Ending} (h : FRet b s w (.ok (g, j, q)) e w') :
    ∃ a1 n1 c1 a2 n2 c2, e = .returned (.tuple #[.agg #[.int .i8 g.it.kind, .slice a1 n1 c1, .string g.it.desc, .string g.it.value, .string g.it.start, .slice a2 n2 c2, .string g.it.fin, .string g.it.rule, .bool g.it.dn], .nilIface]) ∧
      FltR w' w.heap.size w'.heap.size g (nineOf (.slice a1 n1 c1) (.slice a2 n2 c2) g.it) ∧ Rd w' b s j q ∧ Keep [b] w w' := by
  obtain ⟨kv, mv, h1, h2, h3, h4⟩ := h
  have hs : (∃ a1 n1 c1, kv = .slice a1 n1 c1) ∧ ∃ a2 n2 c2, mv = .slice a2 n2 c2 := by
    generalize hvs : nineOf kv mv g.it = vs at h2
    cases h2 with
    | mk _ _ it kids kv' mv' L H cs hm hmh hk hkh hmk hL hLL hout hkid =>
      obtain ⟨a1, c1, e1⟩ := owns_slice hk
      obtain ⟨a2, c2, e2⟩ := owns_slice hm
      have hvs' : nineOf kv mv it = nineOf kv' mv' it := hvs
      unfold nineOf at hvs'
      injection hvs' with _ hvs'
      injection hvs' with hk' hvs'
      injection hvs' with _ hvs'
      injection hvs' with _ hvs'
      injection hvs' with _ hvs'
      injection hvs' with hm' hvs'
      exact ⟨⟨a1, _, c1, hk'.trans e1⟩, a2, _, c2, hm'.trans e2⟩
  obtain ⟨⟨a1, n1, c1, rfl⟩, a2, n2, c2, rfl⟩ := hs
  exact ⟨a1, n1, c1, a2, n2, c2, h1, h2, h3, h4⟩
theorem FRet.err {b : Nat} {s : ByteArray} {w w' : World} {f : Int × Nat} {e : Ending} (h : FRet b s w (.error f) e w') :
    ∃ k a1 n1 c1 d v st a2 n2 c2 fi ru dn fb, e = .returned (.tuple #[.agg #[.int .i8 k, .slice a1 n1 c1, .string d, .string v, .string st, .slice a2 n2 c2, .string fi, .string ru, .bool dn], .iface 55 (.pointer (some ⟨fb, 0, none⟩))]) ∧
      ErrAt w' (.iface 55 (.pointer (some ⟨fb, 0, none⟩))) s f ∧ Keep [b] w w' := by
  obtain ⟨k, a1, n1, c1, d, v, st, a2, n2, c2, fi, ru, dn, u, h1, ⟨fb, rfl, h2⟩, h3⟩ := h
  exact ⟨k, a1, n1, c1, d, v, st, a2, n2, c2, fi, ru, dn, fb, h1, ⟨fb, rfl, h2⟩, h3⟩

/-! Rows of nine cells. -/
theorem ErrAt.far {w w' : World} {s : ByteArray} {f : Int × Nat} {u : Value} {S : List Nat} (h : ErrAt w u s f) (k : Keep S w w') (hS : ∀ x ∈ S, Shp w x ∨ w.heap.size ≤ x) : ErrAt w' u s f := by
  obtain ⟨q, rfl, h2⟩ := h
  refine ⟨q, rfl, k.heap h2 fun hm => ?_⟩
  rcases hS q hm with ⟨k, a1, n1, c1, d, v, st, a2, n2, c2, fi, ru, dn, h3⟩ | h3
  · rw [h2] at h3; cases h3
  · have := lt_of_block h2; omega

theorem setCells_block {t : TypeId} {fr : Nat × Nat} {b : Nat} : ∀ (vs : List Value) (o : Nat) (w : World) (cur : Array Value), w.heap[b]? = some (.cells cur t fr) → o + vs.length ≤ cur.size →
    ∃ cur' : Array Value, (w.setCells b o vs).heap[b]? = some (.cells cur' t fr) ∧ cur'.toList = cur.toList.take o ++ vs ++ cur.toList.drop (o + vs.length)
  | [], o, w, cur, h, ho => ⟨cur, h, by simp⟩
  | v :: vs, o, w, cur, h, ho => by
    rw [List.length_cons] at ho
    have h1 := setCell_at h o v
    obtain ⟨cur', h2, h3⟩ := setCells_block vs (o + 1) (w.setCell ⟨b, o, none⟩ v) _ h1 (by simp; omega)
    refine ⟨cur', h2, h3.trans ?_⟩
    have hlt : o < cur.toList.length := by simpa using (by omega : o < cur.size)
    rw [Array.toList_setIfInBounds, List.length_cons, List.drop_set_of_lt (by omega), List.take_set, List.take_succ_eq_append_getElem hlt]
    have hl : (cur.toList.take o).length = o := by rw [List.length_take]; omega
    rw [List.set_append_right _ _ (by omega), hl, Nat.sub_self]
    simp [Nat.add_comm 1, Nat.add_assoc]
/-- Nine cells written, whatever they held. -/
theorem nine_block {w : World} {fb : Nat} {c0 c1 c2 c3 c4 c5 c6 c7 c8 : Value} {T : TypeId} (h : w.heap[fb]? = some (.cells #[c0, c1, c2, c3, c4, c5, c6, c7, c8] T (0, 0))) (n0 n1 n2 n3 n4 n5 n6 n7 n8 : Value) :
    (w.setCells fb 0 [n0, n1, n2, n3, n4, n5, n6, n7, n8]).heap[fb]? = some (.cells #[n0, n1, n2, n3, n4, n5, n6, n7, n8] T (0, 0)) := by
  obtain ⟨cur', h1, h2⟩ := setCells_block [n0, n1, n2, n3, n4, n5, n6, n7, n8] 0 w _ h (Nat.le_refl 9)
  rw [h1]
  have h3 : cur'.toList = [n0, n1, n2, n3, n4, n5, n6, n7, n8] := h2
  have h4 : cur' = #[n0, n1, n2, n3, n4, n5, n6, n7, n8] := Array.toList_inj.1 h3
  rw [h4]
theorem setCells_ne {b k : Nat} (hk : k ≠ b) : ∀ (vs : List Value) (o : Nat) (w : World), (w.setCells b o vs).heap[k]? = w.heap[k]?
  | [], _, _ => rfl
  | v :: vs, o, w => (setCells_ne hk vs (o + 1) (w.setCell ⟨b, o, none⟩ v)).trans (setCell_ne _ hk)
theorem setCells_keep {S : List Nat} {b : Nat} {a : World} (hb : b ∈ S ∨ a.heap.size ≤ b) : ∀ (vs : List Value) (o : Nat) (w : World), Keep S a w → Keep S a (w.setCells b o vs)
  | [], _, _, h => h
  | v :: vs, o, w, h => setCells_keep hb vs (o + 1) (w.setCell ⟨b, o, none⟩ v) (h.setCell _ _ hb)
/-- The last element of an own row is written anew. -/
theorem owns_last {w : World} {N g cap n z : Nat} {T : TypeId} {xs zs vs : List Value} (h : w.ownsRow N T z (.slice (some ⟨g, 0, none⟩) (n + 1) cap) (n + 1) (xs ++ zs)) (hx : xs.length = n * z) (hz : zs.length = z) (hv : vs.length = z) :
    (w.setCells g (n * z) vs).ownsRow N T z (.slice (some ⟨g, 0, none⟩) (n + 1) cap) (n + 1) (xs ++ vs) := by
  have hmul : (n + 1) * z = n * z + z := Nat.succ_mul n z
  rcases h.2 with ⟨h1, _⟩ | ⟨g', cap', cur, he, hb, hg, hn, hc, hs, ht⟩
  · cases h1
  · cases he
    have hle : (n + 1) * z ≤ cap * z := Nat.mul_le_mul_right z hn
    obtain ⟨cur', h2, h3⟩ := setCells_block vs (n * z) w cur hg (by omega)
    refine ⟨by rw [List.length_append, hx, hv, hmul], .inr ⟨g, cap, cur', rfl, hb, h2, hn, hc, ?_, ?_⟩⟩
    · have := congrArg List.length h3
      simp only [List.length_append, List.length_take, List.length_drop, Array.length_toList] at this
      omega
    · have hlen : (cur.toList.take (n * z)).length = n * z := by rw [List.length_take, Array.length_toList]; omega
      rw [h3, List.append_assoc, hmul]
      have e1 : cur.toList.take (n * z) = xs := by
        have := congrArg (List.take (n * z)) ht
        rw [List.take_take, hmul, Nat.min_eq_left (by omega), ← hx, List.take_left] at this
        rw [← hx]; exact this
      rw [e1, List.take_append, hx, Nat.add_sub_cancel_left, List.take_of_length_le (l := xs) (by omega), ← hv, List.take_left]

/-! Plain facts. -/
theorem closeP_ok {s : ByteArray} {x : Except (Int × Nat) (Flt × Nat × Nat)} {g : Flt} {j q : Nat} (h : closeP s x = .ok (g, j, q)) : ∃ j', x = .ok (g, j', q) ∧ j = j' + 1 ∧ j' < s.size := by
  unfold closeP at h
  cases x with
  | error f => cases h
  | ok t =>
    obtain ⟨g', j', q'⟩ := t
    dsimp only at h
    cases ht : takeP s j' 41 with
    | error f => rw [ht] at h; cases h
    | ok k => rw [ht] at h; cases h; have := takeP_ok ht; exact ⟨j', rfl, this.1, this.2⟩
theorem kidsP_ok {f : Nat → Nat → Except (Int × Nat) (Flt × Nat × Nat)} {s : ByteArray} {kind : Int} (hf : ∀ {i p g j q}, i ≤ s.size → p ≤ 65536 → f i p = .ok (g, j, q) → i < j ∧ j ≤ s.size ∧ p ≤ q ∧ q ≤ 65536) :
    ∀ {k i p acc l j q}, i ≤ s.size → p ≤ 65536 → kidsP f s kind k i p acc = .ok (l, j, q) → i < j ∧ j ≤ s.size ∧ p ≤ q ∧ q ≤ 65536
  | 0, _, _, _, _, _, _, _, _, h => by cases h
  | k + 1, i, p, acc, l, j, q, hi, hp, h => by
    unfold kidsP at h
    cases hr : f i p with
    | error e => rw [hr] at h; cases h
    | ok t =>
      obtain ⟨g, j', q'⟩ := t
      rw [hr] at h
      have h1 := hf hi hp hr
      dsimp only at h
      split at h
      · cases h; exact h1
      · have := kidsP_ok hf h1.2.1 h1.2.2.2 h
        omega
/-- Where an item ends. -/
theorem partsP_le {s : ByteArray} : ∀ {k j ms fin l t q}, j ≤ s.size → partsP k s j ms fin = .ok (l, t, q) → j ≤ q ∧ q ≤ s.size
  | 0, _, _, _, _, _, _, _, h => by cases h
  | k + 1, j, ms, fin, l, t, q, hj, h => by
    by_cases h42 : peekB s j = 42
    · have hlt : j < s.size := peekB_lt (by rw [h42]; decide)
      cases hv : valueP true s (j + 1) with
      | error f => rw [partsP_err h42 hv] at h; cases h
      | ok u =>
        rw [partsP_ok h42 hv] at h
        have h1 := valueP_le (t := u.1) (j := u.2) (by omega) hv
        have := partsP_le h1.2.1 h
        omega
    · rw [partsP_stop h42] at h; cases h; omega
theorem piecesP_le {s d : ByteArray} {i j : Nat} {it : Itm} (hi : i ≤ s.size) (h : piecesP s i d = .ok (it, j)) : i ≤ j ∧ j ≤ s.size := by
  unfold piecesP at h
  cases hv : valueP true s i with
  | error f => rw [hv] at h; cases h
  | ok u =>
    obtain ⟨v, q⟩ := u
    rw [hv] at h
    have h1 := valueP_le hi hv
    dsimp only at h
    split at h
    · cases hp : partsP (s.size + 1) s q [] noText with
      | error f => rw [hp] at h; cases h
      | ok t =>
        obtain ⟨ms, fin, q'⟩ := t
        rw [hp] at h
        have := partsP_le h1.2.1 hp
        cases h; omega
    · cases h; omega
theorem cmpItm_le {s d : ByteArray} {k : Int} {i j : Nat} {it : Itm} (hi : i ≤ s.size) (h : cmpItm k d (valueP false s i) = .ok (it, j)) : i ≤ j ∧ j ≤ s.size := by
  cases hv : valueP false s i with
  | error f => rw [hv] at h; cases h
  | ok u =>
    obtain ⟨v, q⟩ := u
    rw [hv] at h
    have h1 := valueP_le hi hv
    cases h; omega
theorem rulesP_le {s d : ByteArray} : ∀ {k j ru dn r x q}, j ≤ s.size → rulesP k s d j ru dn = .ok (r, x, q) → j ≤ q ∧ q < s.size
  | 0, _, _, _, _, _, _, _, h => by cases h
  | k + 1, j, ru, dn, r, x, q, hj, h => by
    rw [rulesP] at h
    by_cases hc : peekB s j ≠ 61 ∨ (d = noText ∧ ru = noText)
    · rw [if_pos hc] at h
      by_cases hr : ru ≠ noText
      · rw [if_pos hr] at h; cases h
      · rw [if_neg hr] at h
        cases hw : wordP s j with
        | error f => rw [hw] at h; cases h
        | ok e =>
          have h1 := wordP_ok hw
          rw [hw] at h
          dsimp only at h
          cases h2 : sinceP j e with
          | error f => rw [h2] at h; cases h
          | ok e' =>
            have he : e' = e := by unfold sinceP at h2; split at h2 <;> cases h2; rfl
            subst he
            rw [h2] at h
            dsimp only at h
            split at h
            · cases h
            · cases h3 : takeP s e' 58 with
              | error f => rw [h3] at h; cases h
              | ok q' =>
                obtain ⟨rfl, hlt⟩ := takeP_ok h3
                rw [h3] at h
                dsimp only at h
                split at h
                · have := rulesP_le (by omega) h; omega
                · have := rulesP_le (by omega) h; omega
    · rw [if_neg hc] at h
      cases h
      have : peekB s j = 61 := Classical.byContradiction fun h' => hc (.inl h')
      exact ⟨Nat.le_refl _, peekB_lt (by rw [this]; decide)⟩
theorem ruleP_le {s d : ByteArray} {i j : Nat} {it : Itm} (hi : i ≤ s.size) (h : ruleP s i d = .ok (it, j)) : i ≤ j ∧ j ≤ s.size := by
  unfold ruleP at h
  cases hr : rulesP (s.size + 1) s d i noText false with
  | error f => rw [hr] at h; cases h
  | ok t =>
    obtain ⟨ru, dn, q⟩ := t
    have h1 := rulesP_le hi hr
    rw [hr] at h
    dsimp only [ruleEnd] at h
    cases hv : valueP false s (q + 1) with
    | error f => rw [hv] at h; cases h
    | ok u =>
      obtain ⟨v, q'⟩ := u
      rw [hv] at h
      have := valueP_le (by omega) hv
      cases h
      omega
theorem itemD_le {s d : ByteArray} {i j : Nat} {it : Itm} (h : itemD s i d = .ok (it, j)) : i < j ∧ j ≤ s.size := by
  unfold itemD at h
  by_cases h58 : peekB s i = 58
  · have hlt : i < s.size := peekB_lt (by rw [h58]; decide)
    rw [if_pos h58] at h
    have := ruleP_le (by omega) h
    omega
  · rw [if_neg h58] at h
    by_cases h61 : peekB s i = 61
    · have hlt : i < s.size := peekB_lt (by rw [h61]; decide)
      rw [if_pos h61] at h
      have := piecesP_le (by omega) h
      omega
    · rw [if_neg h61] at h
      cases hc : comparedP (peekB s i) with
      | none => rw [hc] at h; cases h
      | some k =>
        rw [hc] at h
        dsimp only [twoP] at h
        cases ht : takeP s (i + 1) 61 with
        | error f => rw [ht] at h; cases h
        | ok q =>
          rw [ht] at h
          obtain ⟨rfl, hlt⟩ := takeP_ok ht
          have := cmpItm_le (by omega) h
          omega
theorem itemP_le {s : ByteArray} {i j : Nat} {it : Itm} (h : itemP s i = .ok (it, j)) : i < j ∧ j ≤ s.size := by
  unfold itemP at h
  split at h
  · exact itemD_le h
  · cases hd : descP s i with
    | error f => rw [hd] at h; cases h
    | ok k =>
      rw [hd] at h
      have h1 := descP_ok hd
      have := itemD_le h
      omega
theorem filterP_ok {s : ByteArray} : ∀ {rem i p g j q}, i ≤ s.size → p ≤ 65536 → filterP s rem i p = .ok (g, j, q) → i < j ∧ j ≤ s.size ∧ p ≤ q ∧ q ≤ 65536
  | 0, i, p, g, j, q, _, _, h => by
    rw [filterP] at h
    cases ht : takeP s i 40 with
    | error f => rw [ht] at h; cases h
    | ok k => rw [ht] at h; cases h
  | rem + 1, i, p, g, j, q, hi, hp, h => by
    rw [filterP] at h
    cases ht : takeP s i 40 with
    | error f => rw [ht] at h; cases h
    | ok k =>
      obtain ⟨rfl, hlt⟩ := takeP_ok ht
      rw [ht] at h
      dsimp only at h
      have hpp : p ≤ partsOf s (i + 1) p := by unfold partsOf; split <;> omega
      by_cases hl : 65536 < partsOf s (i + 1) p
      · rw [if_pos hl] at h; cases h
      · rw [if_neg hl] at h
        cases hm : manyP (peekB s (i + 1)) with
        | none =>
          rw [hm] at h
          obtain ⟨j', h1, h2, h3⟩ := closeP_ok h
          cases hi2 : itemP s (i + 1) with
          | error f => rw [hi2] at h1; cases h1
          | ok t =>
            obtain ⟨it, j''⟩ := t
            rw [hi2] at h1
            have := itemP_le hi2
            cases h1
            omega
        | some kd =>
          have hlt2 : i + 1 < s.size := by
            rcases Nat.lt_or_ge (i + 1) s.size with h' | h'
            · exact h'
            · rw [peekB_out h'] at hm; cases hm
          rw [hm] at h
          obtain ⟨j', h1, h2, h3⟩ := closeP_ok h
          cases hk : kidsP (filterP s rem) s kd (s.size + 1) (i + 1 + 1) (partsOf s (i + 1) p) [] with
          | error f => rw [hk] at h1; cases h1
          | ok t =>
            obtain ⟨l, j'', q''⟩ := t
            rw [hk] at h1
            have := kidsP_ok (fun a b c => filterP_ok a b c) (by omega) (by omega) hk
            cases h1
            omega
end Go.Proofs.YtjmpcoedfoaebaaGreatDoor
