/- A filter in memory that the call has made: 'FltR': its blocks lie in an interval, and no two parts share one. No program here. -/
import Derived.Test.YtjmpcoedfoaebaaGreatDoorFlt
open Go Go.RowKit
namespace Go.Proofs.YtjmpcoedfoaebaaGreatDoor

def Flt.it : Flt → Itm
  | .mk it _ => it
def Flt.kids : Flt → List Flt
  | .mk _ ks => ks
/-- The nine cells of a filter. -/
def nineOf (kv mv : Value) (it : Itm) : List Value := [.int .i8 it.kind, kv, .string it.desc, .string it.value, .string it.start, mv, .string it.fin, .string it.rule, .bool it.dn]

theorem owns_keep2 {S : List Nat} {N : Nat} {T : TypeId} {z : Nat} {v : Value} {n : Nat} {xs : List Value} {w w' : World} (h : w.ownsRow N T z v n xs) (k : Keep S w w') (hS : ∀ g, v.ownBlock = some g → g ∉ S) : w'.ownsRow N T z v n xs := by
  refine ⟨h.1, ?_⟩
  rcases h.2 with hn | ⟨g, cap, cur, rfl, hb, hg, rest⟩
  · exact .inl hn
  · exact .inr ⟨g, cap, cur, rfl, hb, k.heap hg (hS g rfl), rest⟩
theorem owns_mono {N M : Nat} {T : TypeId} {z : Nat} {v : Value} {n : Nat} {xs : List Value} {w : World} (h : w.ownsRow N T z v n xs) (hm : M ≤ N) : w.ownsRow M T z v n xs := by
  refine ⟨h.1, ?_⟩
  rcases h.2 with hn | ⟨g, cap, cur, rfl, hb, rest⟩
  · exact .inl hn
  · exact .inr ⟨g, cap, cur, rfl, by omega, rest⟩

/-- A filter of the call's own: its blocks are in [lo, hi). -/
inductive FltR (w : World) : Nat → Nat → Flt → List Value → Prop where
  | mk (lo hi : Nat) (it : Itm) (kids : List Flt) (kv mv : Value) (L H : Nat → Nat) (cs : Nat → List Value)
      (hm : w.ownsRow lo 9 1 mv it.mids.length (it.mids.map Value.string)) (hmh : ∀ k, mv.ownBlock = some k → k < hi)
      (hk : w.ownsRow lo 26 9 kv kids.length ((List.range kids.length).flatMap cs)) (hkh : ∀ k, kv.ownBlock = some k → k < hi)
      (hmk : ∀ k, kv.ownBlock = some k → mv.ownBlock ≠ some k)
      (hL : ∀ i, i < kids.length → lo ≤ L i ∧ L i ≤ H i ∧ H i ≤ hi)
      (hLL : ∀ i j, i < j → j < kids.length → H i ≤ L j)
      (hout : ∀ i k, i < kids.length → (kv.ownBlock = some k ∨ mv.ownBlock = some k) → k < L i ∨ H i ≤ k)
      (hkid : ∀ i (h : i < kids.length), FltR w (L i) (H i) kids[i] (cs i)) :
      FltR w lo hi (.mk it kids) (nineOf kv mv it)
theorem FltR.len {w : World} {lo hi : Nat} {g : Flt} {vs : List Value} (h : FltR w lo hi g vs) : vs.length = 9 := by
  cases h; rfl
theorem FltR.nine {w : World} {lo hi : Nat} {g : Flt} {vs : List Value} (h : FltR w lo hi g vs) : ∃ kv mv, vs = nineOf kv mv g.it := by
  cases h; exact ⟨_, _, rfl⟩
theorem FltR.keep {S : List Nat} {w w' : World} (k : Keep S w w') {lo hi : Nat} {g : Flt} {vs : List Value} (h : FltR w lo hi g vs) (hS : ∀ x ∈ S, x < lo ∨ hi ≤ x) : FltR w' lo hi g vs := by
  induction h with
  | mk lo hi it kids kv mv L H cs hm hmh hk hkh hmk hL hLL hout hkid ih =>
    refine .mk lo hi it kids kv mv L H cs (owns_keep2 hm k ?_) hmh (owns_keep2 hk k ?_) hkh hmk hL hLL hout fun i hi' => ih i hi' fun x hx => ?_
    · intro g hg hx
      have h1 := (hm.lt g hg).1
      have h2 := hmh g hg
      have := hS g hx
      omega
    · intro g hg hx
      have h1 := (hk.lt g hg).1
      have h2 := hkh g hg
      have := hS g hx
      omega
    · have h1 := hL i hi'
      have := hS x hx
      omega
theorem FltR.mono {w : World} {lo hi lo' hi' : Nat} {g : Flt} {vs : List Value} (h : FltR w lo hi g vs) (h1 : lo' ≤ lo) (h2 : hi ≤ hi') : FltR w lo' hi' g vs := by
  cases h with
  | mk _ _ it kids kv mv L H cs hm hmh hk hkh hmk hL hLL hout hkid =>
    refine .mk lo' hi' it kids kv mv L H cs (owns_mono hm h1) (fun k hk' => Nat.lt_of_lt_of_le (hmh k hk') h2) (owns_mono hk h1) (fun k hk' => Nat.lt_of_lt_of_le (hkh k hk') h2) hmk ?_ hLL hout hkid
    intro i hi'
    have := hL i hi'
    omega

/-- The kids so far: their row, each in an interval of its own. -/
def KidsR (w : World) (lo hi : Nat) (kids : List Flt) (kv : Value) : Prop :=
  ∃ (L H : Nat → Nat) (cs : Nat → List Value), w.ownsRow lo 26 9 kv kids.length ((List.range kids.length).flatMap cs) ∧ (∀ k, kv.ownBlock = some k → k < hi) ∧
    (∀ i, i < kids.length → lo ≤ L i ∧ L i ≤ H i ∧ H i ≤ hi) ∧ (∀ i j, i < j → j < kids.length → H i ≤ L j) ∧
    (∀ i k, i < kids.length → kv.ownBlock = some k → k < L i ∨ H i ≤ k) ∧ (∀ i (h : i < kids.length), FltR w (L i) (H i) kids[i] (cs i))
theorem KidsR.nil (w : World) (lo hi : Nat) : KidsR w lo hi [] (.slice none 0 0) :=
  ⟨fun _ => 0, fun _ => 0, fun _ => [], World.ownsRow_nil _ _ _ _, (fun _ h => by cases h), (fun _ h => by cases h), (fun _ _ _ h => by cases h), (fun _ _ h => by cases h), (fun _ h => by cases h)⟩
theorem KidsR.keep {S : List Nat} {w w' : World} (k : Keep S w w') {lo hi : Nat} {kids : List Flt} {kv : Value} (h : KidsR w lo hi kids kv) (hS : ∀ x ∈ S, x < lo ∨ hi ≤ x) : KidsR w' lo hi kids kv := by
  obtain ⟨L, H, cs, hk, hkh, hL, hLL, hout, hkid⟩ := h
  refine ⟨L, H, cs, owns_keep2 hk k ?_, hkh, hL, hLL, hout, fun i hi' => (hkid i hi').keep k ?_⟩
  · intro g hg hx
    have h1 := (hk.lt g hg).1
    have h2 := hkh g hg
    have := hS g hx
    omega
  · intro x hx
    have h1 := hL i hi'
    have := hS x hx
    omega
theorem KidsR.mono {w : World} {lo hi hi' : Nat} {kids : List Flt} {kv : Value} (h : KidsR w lo hi kids kv) (h2 : hi ≤ hi') : KidsR w lo hi' kids kv := by
  obtain ⟨L, H, cs, hk, hkh, hL, hLL, hout, hkid⟩ := h
  refine ⟨L, H, cs, hk, fun k hk' => Nat.lt_of_lt_of_le (hkh k hk') h2, ?_, hLL, hout, hkid⟩
  intro i hi'
  have := hL i hi'
  omega
theorem KidsR.flt {w : World} {lo hi : Nat} {kids : List Flt} {kv : Value} (h : KidsR w lo hi kids kv) (it : Itm) (hit : it.mids = []) : FltR w lo hi (.mk it kids) (nineOf kv (.slice none 0 0) it) := by
  obtain ⟨L, H, cs, hk, hkh, hL, hLL, hout, hkid⟩ := h
  refine .mk lo hi it kids kv (.slice none 0 0) L H cs (by rw [hit]; exact World.ownsRow_nil _ _ _ _) (fun _ h => by cases h) hk hkh (fun _ _ h => by cases h) hL hLL ?_ hkid
  intro i k hi' h
  rcases h with h | h
  · exact hout i k hi' h
  · cases h
theorem flatMap_congr {f g : Nat → List Value} : ∀ {l : List Nat}, (∀ i ∈ l, f i = g i) → l.flatMap f = l.flatMap g
  | [], _ => rfl
  | a :: l, h => by
    rw [List.flatMap_cons, List.flatMap_cons, h a (by simp), flatMap_congr fun i hi => h i (by simp [hi])]
/-- One kid more: it lies above all that was; the row is the old one or a new block above that. -/
theorem KidsR.snoc {w w' : World} {lo hi mid : Nat} {kids : List Flt} {kv kv' : Value} {g : Flt} {vs : List Value} (h : KidsR w lo hi kids kv)
    (hw : ∀ k, lo ≤ k → k < hi → kv.ownBlock ≠ some k → w'.heap[k]? = w.heap[k]?) (hos : w'.os = w.os) (hta : w'.tape = w.tape) (hou : w'.output = w.output) (hsz : w.heap.size ≤ w'.heap.size) (hhi : hi ≤ w.heap.size)
    (hg : FltR w' hi mid g vs) (hm1 : hi ≤ mid) (hm2 : mid ≤ w'.heap.size) (hlo : lo ≤ hi)
    (hrow : ∀ xs, w.ownsRow lo 26 9 kv kids.length xs → w'.ownsRow lo 26 9 kv' (kids.length + 1) (xs ++ vs))
    (hblk : ∀ k, kv'.ownBlock = some k → kv.ownBlock = some k ∨ mid ≤ k) : KidsR w' lo w'.heap.size (kids ++ [g]) kv' := by
  obtain ⟨L, H, cs, hk, hkh, hL, hLL, hout, hkid⟩ := h
  refine ⟨fun i => if i = kids.length then hi else L i, fun i => if i = kids.length then mid else H i, fun i => if i = kids.length then vs else cs i, ?_, ?_, ?_, ?_, ?_, ?_⟩
  · rw [List.length_append, List.length_singleton, List.range_succ, List.flatMap_append, flatMap_congr (g := cs) (fun i hi => if_neg (by have := List.mem_range.1 hi; omega))]
    simpa using hrow _ hk
  · intro k hk'
    exact ((hrow _ hk).lt k hk').2
  · intro i hi'
    rw [List.length_append, List.length_singleton] at hi'
    dsimp only
    split
    · omega
    · have := hL i (by omega); omega
  · intro i j hij hj
    rw [List.length_append, List.length_singleton] at hj
    dsimp only
    rw [if_neg (show i ≠ kids.length by omega)]
    split
    · have := hL i (by omega); omega
    · exact hLL i j hij (by omega)
  · intro i k hi' hk'
    rw [List.length_append, List.length_singleton] at hi'
    dsimp only
    rcases hblk k hk' with hb | hb
    · have h1 := hkh k hb
      split
      · omega
      · exact hout i k (by omega) hb
    · split
      · omega
      · have := hL i (by omega); omega
  · intro i hi'
    rw [List.length_append, List.length_singleton] at hi'
    dsimp only
    by_cases he : i = kids.length
    · subst he
      rw [if_pos rfl, if_pos rfl, if_pos rfl, List.getElem_append_right (Nat.le_refl _)]
      simpa using hg
    · rw [if_neg he, if_neg he, if_neg he, List.getElem_append_left (by omega)]
      have hlt : i < kids.length := by omega
      have h1 := hL i hlt
      refine FltR.keep (S := (match kv.ownBlock with | some k => [k] | none => []) ++ ((List.range (w.heap.size - hi)).map (· + hi) ++ List.range lo)) ⟨hos, hta, hou, hsz, fun k hk1 hk2 => ?_⟩ (hkid i hlt) ?_
      · simp only [List.mem_append, List.mem_map, List.mem_range, not_or] at hk2
        rcases Nat.lt_or_ge k hi with h | h
        · refine hw k (by have := hk2.2.2; omega) h fun he => ?_
          rw [he] at hk2; simp at hk2
        · exact absurd ⟨k - hi, by omega, by omega⟩ hk2.2.1
      · intro x hx
        rw [List.mem_append] at hx
        rcases hx with hx | hx
        · cases hb : kv.ownBlock with
          | none => rw [hb] at hx; cases hx
          | some k =>
            rw [hb] at hx
            simp at hx
            subst hx
            exact hout i x hlt hb
        · rcases List.mem_append.1 hx with hx | hx
          · obtain ⟨y, _, rfl⟩ := List.mem_map.1 hx
            omega
          · have := List.mem_range.1 hx
            omega
end Go.Proofs.YtjmpcoedfoaebaaGreatDoor
