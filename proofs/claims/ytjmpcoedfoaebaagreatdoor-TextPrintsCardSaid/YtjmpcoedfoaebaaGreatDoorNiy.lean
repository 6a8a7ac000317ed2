/- A twin: a filter in memory of a call's own, a mark behind each of its lists; lists that grow. A list of texts, copied into memory of a call's own, a mark behind it. A filter that is not heavy has short lists. The laws' twin. -/
import Derived.Test.YtjmpcoedfoaebaaGreatDoorNix
import Derived.Test.YtjmpcoedfoaebaaGreatDoorFltd
import Derived.Test.YtjmpcoedfoaebaaGreatDoorPcs
import Derived.Deep.Upon
import Derived.Test.YtjmpcoedfoaebaaGreatDoorAgl
open Go Go.RowKit
namespace Go.Proofs.YtjmpcoedfoaebaaGreatDoor

/-- A twin: its blocks are among P. -/
inductive TwD (w : World) (P : Nat → Prop) : Flt → List Value → Prop where
  | mk (it : Itm) (kids : List Flt) (kb c1 mb c2 : Nat) (cs : Nat → List Value) (hP : P kb) (hQ : P mb)
      (hm : ∀ k r, it.mids[k]? = some r → w.cell? ⟨mb, k, none⟩ = some (.string r))
      (hmm : w.cell? ⟨mb, it.mids.length, none⟩ = some (.string ⟨#[35]⟩))
      (hk : ∀ i, i < kids.length → ∀ j u, (cs i)[j]? = some u → w.cell? ⟨kb, i * 9 + j, none⟩ = some u)
      (hkm : w.cell? ⟨kb, kids.length * 9, none⟩ = some (.int .i8 77))
      (hc1 : kids.length + 1 ≤ c1) (hc2 : it.mids.length + 1 ≤ c2) (hl1 : c1 ≤ maxLen) (hl2 : c2 ≤ maxLen)
      (hkl : kids.length ≤ 1073741824) (hml : it.mids.length ≤ 1073741824)
      (hkid : ∀ i (h : i < kids.length), TwD w P kids[i] (cs i)) :
      TwD w P (.mk it kids) (nineOf (.slice (some ⟨kb, 0, none⟩) kids.length c1) (.slice (some ⟨mb, 0, none⟩) it.mids.length c2) it)
theorem TwD.keep {w w' : World} {P Q : Nat → Prop} (hw : ∀ b, P b → w'.heap[b]? = w.heap[b]?) (hPQ : ∀ b, P b → Q b) {g : Flt} {vs : List Value} (h : TwD w P g vs) : TwD w' Q g vs := by
  induction h with
  | mk it kids kb c1 mb c2 cs hP hQ hm hmm hk hkm hc1 hc2 hl1 hl2 hkl hml hkid ih =>
    have e1 : ∀ o, w'.cell? ⟨kb, o, none⟩ = w.cell? ⟨kb, o, none⟩ := fun o => World.cell?_of_block (hw kb hP)
    have e2 : ∀ o, w'.cell? ⟨mb, o, none⟩ = w.cell? ⟨mb, o, none⟩ := fun o => World.cell?_of_block (hw mb hQ)
    exact .mk it kids kb c1 mb c2 cs (hPQ _ hP) (hPQ _ hQ) (fun k r h => (e2 _).trans (hm k r h)) ((e2 _).trans hmm) (fun i hi j u hu => (e1 _).trans (hk i hi j u hu)) ((e1 _).trans hkm) hc1 hc2 hl1 hl2 hkl hml ih
theorem TwD.toD {w : World} {P : Nat → Prop} {H : Nat} (hP : ∀ b, P b → b < H) {g : Flt} {vs : List Value} (h : TwD w P g vs) : FltD w H g vs := by
  induction h with
  | mk it kids kb c1 mb c2 cs hPk hQ hm hmm hk hkm hc1 hc2 hl1 hl2 hkl hml hkid ih =>
    exact .mk it kids _ c1 _ c2 cs (.inr ⟨mb, 0, rfl, hP _ hQ, fun k r hr => by rw [Nat.zero_add]; exact hm k r hr⟩) (by omega) (by omega) (.inr ⟨kb, 0, rfl, hP _ hPk, fun i hi j u hu => by rw [Nat.zero_add]; exact hk i hi j u hu⟩) ih
theorem TwD.nine {w : World} {P : Nat → Prop} {g : Flt} {vs : List Value} (h : TwD w P g vs) : ∃ kb c1 mb c2, vs = nineOf (.slice (some ⟨kb, 0, none⟩) g.kids.length c1) (.slice (some ⟨mb, 0, none⟩) g.it.mids.length c2) g.it := by
  cases h; exact ⟨_, _, _, _, rfl⟩
/-- What twin does. -/
def TwR (g : Flt) (w : World) (e : Ending) (w' : World) : Prop :=
  ∃ vs, e = .returned (.agg vs.toArray) ∧ TwD w' (fun b => w.heap.size ≤ b ∧ b < w'.heap.size) g vs ∧ Keep [] w w'
/-- The first k twins of the kids, in a row of the call's own. -/
def RowK (w : World) (N : Nat) (u : Value) (kids : List Flt) (k : Nat) : Prop :=
  ∃ (cs : Nat → List Value) (xs : List Value), w.ownsRow N 26 9 u k xs ∧ (∀ i, i < k → ∀ j y, (cs i)[j]? = some y → xs[i * 9 + j]? = some y) ∧
    ∀ i (h : i < kids.length), i < k → (cs i).length = 9 ∧ TwD w (fun b => N ≤ b ∧ b < w.heap.size ∧ u.ownBlock ≠ some b) kids[i] (cs i)
theorem RowK.nil (w : World) (N : Nat) (kids : List Flt) : RowK w N (.slice none 0 0) kids 0 :=
  ⟨fun _ => [], [], World.ownsRow_nil _ _ _ _, fun i hi => by omega, fun i _ hi => by omega⟩
theorem RowK.keep {S : List Nat} {w w' : World} {N : Nat} {u : Value} {kids : List Flt} {k : Nat} (h : RowK w N u kids k) (hk : Keep S w w') (hS : ∀ x ∈ S, x < N) : RowK w' N u kids k := by
  obtain ⟨cs, xs, h1, h2, h3⟩ := h
  refine ⟨cs, xs, own_keepV h1 hk hS, h2, fun i hi hik => ⟨(h3 i hi hik).1, (h3 i hi hik).2.keep (fun b hb => hk.block b hb.2.1 (fun hm => by have := hS b hm; omega)) (fun b hb => ⟨hb.1, Nat.lt_of_lt_of_le hb.2.1 hk.size, hb.2.2⟩)⟩⟩
theorem RowK.form {w : World} {N : Nat} {u : Value} {kids : List Flt} {k : Nat} (h : RowK w N u kids k) : ∃ ad cap, u = .slice ad k cap := by
  obtain ⟨cs, xs, h1, _⟩ := h
  exact own_form h1
theorem nine_one (kv mv : Value) (it : Itm) (hk : kv.oneCell' = true) (hm : mv.oneCell' = true) : ∀ u ∈ nineOf kv mv it, u.oneCell' = true := by
  intro u hu
  unfold nineOf at hu
  simp only [List.mem_cons, List.not_mem_nil, or_false] at hu
  rcases hu with rfl | rfl | rfl | rfl | rfl | rfl | rfl | rfl | rfl <;> first | rfl | assumption
/-- A kid's twin is appended. -/
theorem app_kid {w : World} {ops : Array Oper} {rest : List Oper} {o : Oper} {a : Act} {Q : Exit → Act → World → Prop} {N : Nat} {u : Value} {kids : List Flt} {k : Nat} (h : RowK w N u kids k) (hkl : k < kids.length) (hbd : kids.length ≤ 1073741824) (c0 c1 c2 c3 c4 c5 c6 c7 c8 : Value) (sl x : Operand)
    (ht : TwD w (fun b => N ≤ b ∧ b < w.heap.size ∧ u.ownBlock ≠ some b) kids[k] [c0, c1, c2, c3, c4, c5, c6, c7, c8]) (h1 : ∀ z ∈ [c0, c1, c2, c3, c4, c5, c6, c7, c8], z.oneCell' = true)
    (hgd : o.guard = none) (ho : o.op = .call { callee := .builtin .append, args := #[sl, x], argTypes := #[23, 23] }) (hs : a.eval sl = u) (hx : a.eval x = .slice (some ⟨w.heap.size, 0, none⟩) 1 1) (hb : N ≤ w.heap.size)
    (K : ∀ u' w', RowK w' N u' kids (k + 1) → Lies u u' w w' → wpList Tryz.prog ops Q rest (a.put o.dst u') w') : wpList Tryz.prog ops Q (o :: rest) a (w.alloc (.cells #[c0, c1, c2, c3, c4, c5, c6, c7, c8] 26)) := by
  obtain ⟨i0, hi0, hz0, hz1, hz2⟩ := info_partsV Tryz.infoFlt
  obtain ⟨cs, xs, o1, o2, o3⟩ := h
  have hub : ∀ b, u.ownBlock = some b → b < w.heap.size := fun b hb => (o1.lt b hb).2
  refine wpList_append_lies (w.alloc (.cells #[c0, c1, c2, c3, c4, c5, c6, c7, c8] 26)) hgd sl x 23 ho N 26 i0 _ 9 144 (by kernel_rfl) hi0 hz0 hz1 hz2 rfl (by omega) u k xs hs (o1.alloc _) ⟨w.heap.size, 0, none⟩ 1 1 [c0, c1, c2, c3, c4, c5, c6, c7, c8] hx rfl (World.news_of_block (cs := #[c0, c1, c2, c3, c4, c5, c6, c7, c8]) (t := 26) (fr := (0, 0)) (heap_alloc_new w _)) h1 (by omega) (by unfold maxLen; omega) (by omega) (by simp; omega) (w.heap.size + 1) (by simp) ?_
  intro g cap w2 ho2 hg2 hl2 hlt
  have hL : Lies u (.slice (some ⟨g, 0, none⟩) (k + 1) cap) w w2 := by
    refine ⟨((Keep.refl _ w).alloc _).grown hg2 fun y hy => .inl (by simpa using hy), fun y hy => ?_⟩
    have e : g = y := Option.some.inj hy
    rcases hl2 with hl | hl
    · rw [← e]; exact .inl hl
    · right; omega
  have hsz : w.heap.size ≤ w2.heap.size := hL.size
  have hnot : ∀ b, N ≤ b ∧ b < w.heap.size ∧ u.ownBlock ≠ some b → w2.heap[b]? = w.heap[b]? := fun b hb => hL.1.block b hb.2.1 (by simpa using hb.2.2)
  have hto : ∀ b, N ≤ b ∧ b < w.heap.size ∧ u.ownBlock ≠ some b → N ≤ b ∧ b < w2.heap.size ∧ (Value.slice (some ⟨g, 0, none⟩) (k + 1) cap).ownBlock ≠ some b := fun b hb => ⟨hb.1, by omega, hL.ne hb.2.1 hb.2.2⟩
  refine K _ w2 ⟨fun i => if i = k then [c0, c1, c2, c3, c4, c5, c6, c7, c8] else cs i, xs ++ [c0, c1, c2, c3, c4, c5, c6, c7, c8], ho2, ?_, ?_⟩ hL
  · intro i hi j y hy
    by_cases hik : i = k
    · subst hik
      simp only [if_true] at hy
      rw [List.getElem?_append_right (by rw [o1.1]; omega), o1.1, Nat.add_sub_cancel_left]
      exact hy
    · simp only [if_neg hik] at hy
      have h5 := o2 i (by omega) j y hy
      rw [List.getElem?_append_left (List.getElem?_eq_some_iff.1 h5).1]
      exact h5
  · intro i hi hik
    by_cases hik' : i = k
    · subst hik'
      simp only [if_true]
      exact ⟨rfl, ht.keep hnot hto⟩
    · simp only [if_neg hik']
      exact ⟨(o3 i hi (by omega)).1, (o3 i hi (by omega)).2.keep hnot hto⟩
/-- All the twins of the kids, and the mark behind them. -/
def RowM (w : World) (N : Nat) (kb c1 : Nat) (kids : List Flt) : Prop :=
  ∃ (cs : Nat → List Value), N ≤ kb ∧ kb < w.heap.size ∧ (∀ i, i < kids.length → ∀ j u, (cs i)[j]? = some u → w.cell? ⟨kb, i * 9 + j, none⟩ = some u) ∧ w.cell? ⟨kb, kids.length * 9, none⟩ = some (.int .i8 77) ∧ kids.length + 1 ≤ c1 ∧ c1 ≤ maxLen ∧
    ∀ i (h : i < kids.length), TwD w (fun b => N ≤ b ∧ b < w.heap.size) kids[i] (cs i)
theorem RowM.keep {S : List Nat} {w w' : World} {N kb c1 : Nat} {kids : List Flt} (h : RowM w N kb c1 kids) (hk : Keep S w w') (hS : ∀ x ∈ S, x < N ∨ w.heap.size ≤ x) : RowM w' N kb c1 kids := by
  obtain ⟨cs, h1, h2, h3, h4, h5, h6, h7⟩ := h
  have hb : ∀ b, N ≤ b ∧ b < w.heap.size → w'.heap[b]? = w.heap[b]? := fun b hb => hk.block b hb.2 (fun hm => by have := hS b hm; omega)
  have hc : ∀ o, w'.cell? ⟨kb, o, none⟩ = w.cell? ⟨kb, o, none⟩ := fun o => World.cell?_of_block (hb kb ⟨h1, h2⟩)
  exact ⟨cs, h1, Nat.lt_of_lt_of_le h2 hk.size, fun i hi j u hu => (hc _).trans (h3 i hi j u hu), (hc _).trans h4, h5, h6, fun i hi => (h7 i hi).keep hb fun b hb => ⟨hb.1, Nat.lt_of_lt_of_le hb.2 hk.size⟩⟩
/-- The mark is appended. -/
theorem app_mark {w : World} {ops : Array Oper} {rest : List Oper} {o : Oper} {a : Act} {Q : Exit → Act → World → Prop} {N : Nat} {u : Value} {kids : List Flt} {n : Nat} (h : RowK w N u kids n) (hn : n = kids.length) (hbd : kids.length ≤ 1073741824) (c1 c2 c3 c4 c5 c6 c7 c8 : Value) (sl x : Operand)
    (h1 : ∀ z ∈ [(.int .i8 77 : Value), c1, c2, c3, c4, c5, c6, c7, c8], z.oneCell' = true)
    (hgd : o.guard = none) (ho : o.op = .call { callee := .builtin .append, args := #[sl, x], argTypes := #[23, 23] }) (hs : a.eval sl = u) (hx : a.eval x = .slice (some ⟨w.heap.size, 0, none⟩) 1 1) (hb : N ≤ w.heap.size)
    (K : ∀ kb cap w', RowM w' N kb cap kids → Lies u (.slice (some ⟨kb, 0, none⟩) (kids.length + 1) cap) w w' → wpList Tryz.prog ops Q rest (a.put o.dst (.slice (some ⟨kb, 0, none⟩) (kids.length + 1) cap)) w') :
    wpList Tryz.prog ops Q (o :: rest) a (w.alloc (.cells #[.int .i8 77, c1, c2, c3, c4, c5, c6, c7, c8] 26)) := by
  subst hn
  obtain ⟨i0, hi0, hz0, hz1, hz2⟩ := info_partsV Tryz.infoFlt
  obtain ⟨cs, xs, o1, o2, o3⟩ := h
  refine wpList_append_lies (w.alloc (.cells #[.int .i8 77, c1, c2, c3, c4, c5, c6, c7, c8] 26)) hgd sl x 23 ho N 26 i0 _ 9 144 (by kernel_rfl) hi0 hz0 hz1 hz2 rfl (by omega) u kids.length xs hs (o1.alloc _) ⟨w.heap.size, 0, none⟩ 1 1 [.int .i8 77, c1, c2, c3, c4, c5, c6, c7, c8] hx rfl (World.news_of_block (cs := #[.int .i8 77, c1, c2, c3, c4, c5, c6, c7, c8]) (t := 26) (fr := (0, 0)) (heap_alloc_new w _)) h1 (by omega) (by unfold maxLen; omega) (by omega) (by simp; omega) (w.heap.size + 1) (by simp) ?_
  intro g cap w2 ho2 hg2 hl2 hlt
  have hL : Lies u (.slice (some ⟨g, 0, none⟩) (kids.length + 1) cap) w w2 := by
    refine ⟨((Keep.refl _ w).alloc _).grown hg2 fun y hy => .inl (by simpa using hy), fun y hy => ?_⟩
    have e : g = y := Option.some.inj hy
    rcases hl2 with hl | hl
    · rw [← e]; exact .inl hl
    · right; omega
  have hsz : w.heap.size ≤ w2.heap.size := hL.size
  have hnot : ∀ b, N ≤ b ∧ b < w.heap.size ∧ u.ownBlock ≠ some b → w2.heap[b]? = w.heap[b]? := fun b hb => hL.1.block b hb.2.1 (by simpa using hb.2.2)
  have hcell : ∀ j y, (xs ++ [(.int .i8 77 : Value), c1, c2, c3, c4, c5, c6, c7, c8])[j]? = some y → w2.cell? ⟨g, j, none⟩ = some y := fun j y hy => by
    have := ho2.cells (g := g) rfl j y hy
    rwa [Addr.add_mid, Nat.zero_add] at this
  have hcap : kids.length + 1 ≤ cap ∧ cap ≤ maxLen := by
    rcases ho2.2 with ⟨h1, _⟩ | ⟨g1, cap1, cur1, e1, _, _, e3, e4, _⟩
    · cases h1
    · cases e1; exact ⟨e3, e4⟩
  refine K g cap w2 ⟨cs, (ho2.lt g rfl).1, hlt, ?_, ?_, hcap.1, hcap.2, ?_⟩ hL
  · intro i hi j y hy
    have h5 := o2 i hi j y hy
    exact hcell _ _ (by rw [List.getElem?_append_left (List.getElem?_eq_some_iff.1 h5).1]; exact h5)
  · exact hcell _ _ (by rw [List.getElem?_append_right (by rw [o1.1]; exact Nat.le_refl _), o1.1, Nat.sub_self]; rfl)
  · exact fun i hi => (o3 i hi hi).2.keep hnot fun b hb => ⟨hb.1, by omega⟩
end Go.Proofs.YtjmpcoedfoaebaaGreatDoor

open Go Go.RowKit
namespace Go.Proofs.YtjmpcoedfoaebaaGreatDoor

/-- Texts in a row of the call's own, and the mark behind them. -/
def MidM (w : World) (N : Nat) (mb c2 : Nat) (ms : List ByteArray) : Prop :=
  N ≤ mb ∧ mb < w.heap.size ∧ (∀ k r, ms[k]? = some r → w.cell? ⟨mb, k, none⟩ = some (.string r)) ∧ w.cell? ⟨mb, ms.length, none⟩ = some (.string ⟨#[35]⟩) ∧ ms.length + 1 ≤ c2 ∧ c2 ≤ maxLen
theorem MidM.keep {S : List Nat} {w w' : World} {N mb c2 : Nat} {ms : List ByteArray} (h : MidM w N mb c2 ms) (hk : Keep S w w') (hS : ∀ x ∈ S, x < N ∨ w.heap.size ≤ x) : MidM w' N mb c2 ms := by
  obtain ⟨h1, h2, h3, h4, h5, h6⟩ := h
  have hc : ∀ o, w'.cell? ⟨mb, o, none⟩ = w.cell? ⟨mb, o, none⟩ := fun o => World.cell?_of_block (hk.block mb h2 (fun hm => by have := hS mb hm; omega))
  exact ⟨h1, Nat.lt_of_lt_of_le h2 hk.size, fun k r hr => (hc _).trans (h3 k r hr), (hc _).trans h4, h5, h6⟩
theorem run_append_texts (w : World) (N H : Nat) (ty : TypeId) (v : Value) (hown : w.ownsRow N 9 1 v 0 []) (a2 : Option Addr) (c2 : Nat) (ms : List ByteArray) (hT : Txt w H a2 ms) (hml : ms.length ≤ 1073741824) (hb : N ≤ w.heap.size) :
    ∃ v' w', (Builtin.append_ #[24, 24] ty #[v, .slice a2 ms.length c2]).run Tryz.prog w = .ok v' w' ∧ w'.ownsRow N 9 1 v' ms.length (ms.map .string) ∧ w.grownBy w' v.ownBlock := by
  obtain ⟨i0, hi0, hz0, hz1, hz2⟩ := info_partsV Tryz.infoStr
  have hul : Tryz.prog.underlying 24 = some (.slice 9) := by kernel_rfl
  cases a2 with
  | some ad =>
    obtain ⟨v', w', h1, h2, h3, _⟩ := run_append_own (P := Tryz.prog) w N 24 ty 9 i0 (.string ⟨#[]⟩) 1 16 hul hi0 hz0 hz1 hz2 rfl (by omega) v 0 [] hown ad ms.length c2 (ms.map .string) (by simp) (fun j u hu => by
      rw [List.getElem?_map] at hu
      cases hr : ms[j]? with
      | none => rw [hr] at hu; cases hu
      | some r =>
        rw [hr] at hu
        rcases hT with h | ⟨mb, mo, h4, _, h6⟩
        · rw [h] at hr; simp at hr
        · cases h4
          have h7 := h6 j r hr
          rw [Addr.add_mid]
          rw [h7]
          exact hu) (fun u hu => by obtain ⟨r, _, rfl⟩ := List.mem_map.1 hu; rfl) (by unfold maxLen; omega) (by omega) hb
    rw [Nat.zero_add, List.nil_append] at h2
    exact ⟨v', w', h1, h2, h3⟩
  | none =>
    have hms : ms = [] := by
      rcases hT with h | ⟨mb, mo, h4, _⟩
      · exact h
      · cases h4
    subst hms
    refine ⟨v, w, ?_, hown, ⟨rfl, rfl, rfl, Nat.le_refl _, fun _ _ _ => rfl⟩⟩
    obtain ⟨ad, cap, rfl⟩ := own_form hown
    cases ad <;> simp [Builtin.append_, run_underlying hul, sizeOf, typeInfo, hi0, Builtin.lenOf, Builtin.firstCells, loadCells, loadCellsFrom, storeCells]
theorem app_txts {w : World} {ops : Array Oper} {rest : List Oper} {o : Oper} {a : Act} {Q : Exit → Act → World → Prop} (N H : Nat) (v : Value) (hown : w.ownsRow N 9 1 v 0 []) (a2 : Option Addr) (c2 : Nat) (ms : List ByteArray) (hT : Txt w H a2 ms) (hml : ms.length ≤ 1073741824) (sl x : Operand)
    (hgd : o.guard = none) (ho : o.op = .call { callee := .builtin .append, args := #[sl, x], argTypes := #[24, 24] }) (hs : a.eval sl = v) (hx : a.eval x = .slice a2 ms.length c2) (hb : N ≤ w.heap.size)
    (K : ∀ v' w', w'.ownsRow N 9 1 v' ms.length (ms.map .string) → Keep v.ownBlock.toList w w' → wpList Tryz.prog ops Q rest (a.put o.dst v') w') : wpList Tryz.prog ops Q (o :: rest) a w :=
  wpList_plain hgd fun _ hK => by
    obtain ⟨v', w', hr, h2, h3⟩ := run_append_texts w N H o.type v hown a2 c2 ms hT hml hb
    unfold Oper.wp execOp
    simp only [ho, resolve, invoke, builtin, Sem.run_bind, Sem.run_pure, Result.andThen_ok, List.map_toArray, List.map_cons, List.map_nil, hs, hx, hr]
    exact hK _ _ (K v' w' h2 ((Keep.refl _ w).grown h3 fun k hk => .inl (by simpa using hk)))
/-- The mark is appended. -/
theorem app_sharp {w : World} {ops : Array Oper} {rest : List Oper} {o : Oper} {a : Act} {Q : Exit → Act → World → Prop} (N : Nat) (v : Value) (ms : List ByteArray) (hown : w.ownsRow N 9 1 v ms.length (ms.map .string)) (hml : ms.length ≤ 1073741824) (sl x : Operand)
    (hgd : o.guard = none) (ho : o.op = .call { callee := .builtin .append, args := #[sl, x], argTypes := #[24, 24] }) (hs : a.eval sl = v) (hx : a.eval x = .slice (some ⟨w.heap.size, 0, none⟩) 1 1) (hb : N ≤ w.heap.size)
    (K : ∀ mb cap w', MidM w' N mb cap ms → Keep v.ownBlock.toList w w' → wpList Tryz.prog ops Q rest (a.put o.dst (.slice (some ⟨mb, 0, none⟩) (ms.length + 1) cap)) w') :
    wpList Tryz.prog ops Q (o :: rest) a (w.alloc (.cells #[.string ⟨#[35]⟩] 9)) := by
  obtain ⟨i0, hi0, hz0, hz1, hz2⟩ := info_partsV Tryz.infoStr
  refine wpList_append_lies (w.alloc (.cells #[.string ⟨#[35]⟩] 9)) hgd sl x 24 ho N 9 i0 (.string ⟨#[]⟩) 1 16 (by kernel_rfl) hi0 hz0 hz1 hz2 rfl (by omega) v ms.length (ms.map .string) hs (hown.alloc _) ⟨w.heap.size, 0, none⟩ 1 1 [.string ⟨#[35]⟩] hx rfl (World.news_of_block (cs := #[.string ⟨#[35]⟩]) (t := 9) (fr := (0, 0)) (heap_alloc_new w _)) (by intro z hz; rw [List.mem_singleton.1 hz]; rfl) (by omega) (by unfold maxLen; omega) (by omega) (by simp; omega) (w.heap.size + 1) (by simp) ?_
  intro g cap w2 ho2 hg2 hl2 hlt
  have hcell : ∀ j y, (ms.map Value.string ++ [.string ⟨#[35]⟩])[j]? = some y → w2.cell? ⟨g, j, none⟩ = some y := fun j y hy => by
    have := ho2.cells (g := g) rfl j y hy
    rwa [Addr.add_mid, Nat.zero_add] at this
  have hcap : ms.length + 1 ≤ cap ∧ cap ≤ maxLen := by
    rcases ho2.2 with ⟨h1, _⟩ | ⟨g1, cap1, cur1, e1, _, _, e3, e4, _⟩
    · cases h1
    · cases e1; exact ⟨e3, e4⟩
  refine K g cap w2 ⟨(ho2.lt g rfl).1, hlt, fun k r hr => hcell k _ ?_, hcell _ _ ?_, hcap.1, hcap.2⟩ (((Keep.refl _ w).alloc _).grown hg2 fun y hy => .inl (by simpa using hy))
  · rw [List.getElem?_append_left (by rw [List.length_map]; exact (List.getElem?_eq_some_iff.1 hr).1), List.getElem?_map, hr]; rfl
  · rw [List.getElem?_append_right (by rw [List.length_map]; exact Nat.le_refl _), List.length_map, Nat.sub_self]; rfl
end Go.Proofs.YtjmpcoedfoaebaaGreatDoor

open Go Go.RowKit
namespace Go.Proofs.YtjmpcoedfoaebaaGreatDoor

/-- Every list of a filter is short. -/
inductive Light : Flt → Prop where
  | mk (it : Itm) (kids : List Flt) (hm : it.mids.length ≤ 1073741824) (hk : kids.length ≤ 1073741824) (h : ∀ i (h : i < kids.length), Light kids[i]) : Light (.mk it kids)
theorem midsN_len : ∀ (ms : List ByteArray) (n : Int), 0 ≤ midsN ms n → (ms.length : Int) ≤ n ∧ midsN ms n ≤ n
  | [], n, h => by rw [midsN] at h ⊢; exact ⟨by simpa using h, Int.le_refl _⟩
  | m :: ms, n, h => by
    rw [midsN] at h ⊢
    split at h
    · omega
    · rename_i h0
      rw [if_neg h0]
      have := midsN_len ms _ h
      rw [List.length_cons]
      omega
mutual
theorem light_of : ∀ (g : Flt) (n : Int), n ≤ 1073741824 → 0 ≤ leftP g n → Light g ∧ leftP g n + 1 ≤ n
  | .mk it kids, n, hn, h => by
    rw [leftP] at h ⊢
    have hd : headN it n = n - 1 - it.desc.size - it.value.size - it.start.size - it.fin.size - it.rule.size := rfl
    have h0 : ¬ midsN it.mids (headN it n) < 0 := fun hl => by rw [leftK_neg hl] at h; omega
    have h1 := midsN_len it.mids _ (Int.not_lt.1 h0)
    have h2 := lightK_of kids _ (by omega) h
    refine ⟨.mk it kids (by omega) (by omega) fun i hi => h2.1 _ (List.getElem_mem hi), by omega⟩
theorem lightK_of : ∀ (gs : List Flt) (n : Int), n ≤ 1073741824 → 0 ≤ leftK gs n → (∀ k ∈ gs, Light k) ∧ leftK gs n + gs.length ≤ n
  | [], n, hn, h => by rw [leftK]; exact ⟨fun k hk => by simp at hk, by simp⟩
  | g :: gs, n, hn, h => by
    rw [leftK] at h ⊢
    split at h
    · omega
    · rename_i h0
      rw [if_neg h0]
      have h1 : ¬ leftP g n < 0 := fun hl => by rw [leftK_neg hl] at h; omega
      have h2 := light_of g n hn (Int.not_lt.1 h1)
      have h3 := lightK_of gs _ (by omega) h
      refine ⟨fun k hk => ?_, by rw [List.length_cons]; omega⟩
      rcases List.mem_cons.1 hk with rfl | hk
      · exact h2.1
      · exact h3.1 k hk
end
end Go.Proofs.YtjmpcoedfoaebaaGreatDoor

open Go Go.RowKit
namespace Go.Proofs.YtjmpcoedfoaebaaGreatDoor

/-- The variables of twin: the argument, the result, the copy. -/
structure TwS (it : Itm) (w : World) (kv mv ku mu : Value) (wr : World) : Prop where
  b0 : wr.heap[w.heap.size]? = some (.cells #[.int .i8 it.kind, kv, .string it.desc, .string it.value, .string it.start, mv, .string it.fin, .string it.rule, .bool it.dn] 26 (0, 0))
  b1 : wr.heap[w.heap.size + 1]? = some (.cells #[.int .i8 0, .slice none 0 0, .string ⟨#[]⟩, .string ⟨#[]⟩, .string ⟨#[]⟩, .slice none 0 0, .string ⟨#[]⟩, .string ⟨#[]⟩, .bool false] 26 (0, 0))
  b2 : wr.heap[w.heap.size + 1 + 1]? = some (.cells #[.int .i8 it.kind, ku, .string it.desc, .string it.value, .string it.start, mu, .string it.fin, .string it.rule, .bool it.dn] 26 (0, 0))
  keep : Keep [] w wr
theorem TwS.start (it : Itm) (w : World) (kv mv : Value) : TwS it w kv mv (.slice none 0 0) mv (((w.alloc (.cells #[.int .i8 it.kind, kv, .string it.desc, .string it.value, .string it.start, mv, .string it.fin, .string it.rule, .bool it.dn] 26)).alloc (.cells #[.int .i8 0, .slice none 0 0, .string ⟨#[]⟩, .string ⟨#[]⟩, .string ⟨#[]⟩, .slice none 0 0, .string ⟨#[]⟩, .string ⟨#[]⟩, .bool false] 26)).alloc (.cells #[.int .i8 it.kind, .slice none 0 0, .string it.desc, .string it.value, .string it.start, mv, .string it.fin, .string it.rule, .bool it.dn] 26)) :=
  ⟨((alloc_lt _ (by simp; omega)).trans (alloc_lt _ (by simp))).trans (alloc_at _ _), (alloc_lt _ (by simp)).trans (alloc_is (w.alloc _) _ _ (by simp)), alloc_is ((w.alloc _).alloc _) _ _ (by simp), (((Keep.refl [] w).alloc _).alloc _).alloc _⟩
theorem TwS.lt {it : Itm} {w : World} {kv mv ku mu : Value} {wr : World} (h : TwS it w kv mv ku mu wr) : w.heap.size + 3 ≤ wr.heap.size := by have := lt_of_block h.b2; omega
theorem TwS.step {it : Itm} {w : World} {kv mv ku mu : Value} {wr w' : World} {S : List Nat} (h : TwS it w kv mv ku mu wr) (k : Keep S wr w') (hS : ∀ x ∈ S, w.heap.size + 3 ≤ x) : TwS it w kv mv ku mu w' :=
  ⟨k.heap h.b0 (fun hm => by have := hS _ hm; omega), k.heap h.b1 (fun hm => by have := hS _ hm; omega), k.heap h.b2 (fun hm => by have := hS _ hm; omega), h.keep.transTo k fun x hx => .inr (by have := hS _ hx; omega)⟩
theorem TwS.step0 {it : Itm} {w : World} {kv mv ku mu : Value} {wr w' : World} (h : TwS it w kv mv ku mu wr) (k : Keep [] wr w') : TwS it w kv mv ku mu w' := h.step k (by simp)
theorem TwS.setK {it : Itm} {w : World} {kv mv ku mu : Value} {wr : World} (h : TwS it w kv mv ku mu wr) (u : Value) : TwS it w kv mv u mu (wr.setCell ⟨w.heap.size + 1 + 1, 1, none⟩ u) :=
  ⟨(setCell_ne _ (by simp; omega)).trans h.b0, (setCell_ne _ (by simp)).trans h.b1, setCell_at h.b2 1 u, h.keep.setCell _ _ (.inr (by simp; omega))⟩
theorem TwS.setM {it : Itm} {w : World} {kv mv ku mu : Value} {wr : World} (h : TwS it w kv mv ku mu wr) (u : Value) : TwS it w kv mv ku u (wr.setCell ⟨w.heap.size + 1 + 1, 5, none⟩ u) :=
  ⟨(setCell_ne _ (by simp; omega)).trans h.b0, (setCell_ne _ (by simp)).trans h.b1, setCell_at h.b2 5 u, h.keep.setCell _ _ (.inr (by simp; omega))⟩
theorem RowK.lt {w : World} {N : Nat} {u : Value} {kids : List Flt} {k : Nat} (h : RowK w N u kids k) {b : Nat} (hb : u.ownBlock = some b) : N ≤ b ∧ b < w.heap.size := by
  obtain ⟨cs, xs, h1, _⟩ := h
  exact h1.lt b hb
theorem set_keep (w : World) (b i : Nat) (u : Value) : Keep [b] w (w.setCell ⟨b, i, none⟩ u) := (Keep.refl [b] w).setCell _ _ (.inl (by simp))

set_option maxHeartbeats 4000000 in
set_option maxRecDepth 100000 in
theorem twin_step (H : Nat) (it : Itm) (kids : List Flt) (a1 : Option Addr) (c1 : Nat) (a2 : Option Addr) (c2 : Nat) (cs : Nat → List Value) (w : World) (hH : H ≤ w.heap.size)
    (hm : Txt w H a2 it.mids) (hml : it.mids.length ≤ 1073741824) (hkl : kids.length ≤ 1073741824)
    (hk : kids = [] ∨ ∃ kb ko, a1 = some ⟨kb, ko, none⟩ ∧ kb < H ∧ ∀ i, i < kids.length → ∀ j u, (cs i)[j]? = some u → w.cell? ⟨kb, ko + i * 9 + j, none⟩ = some u)
    (hkid : ∀ i (h : i < kids.length), FltD w H kids[i] (cs i))
    (ih : ∀ i (h : i < kids.length) (vs : List Value) (W : World), H ≤ W.heap.size → FltD W H kids[i] vs → Calls Tryz.prog 19 #[.agg vs.toArray] W (TwR kids[i] W)) :
    Calls Tryz.prog 19 #[.agg #[.int .i8 it.kind, .slice a1 kids.length c1, .string it.desc, .string it.value, .string it.start, .slice a2 it.mids.length c2, .string it.fin, .string it.rule, .bool it.dn]] w (TwR (.mk it kids) w) := by
  have HIH := Lib.hid ih
  have HKK := Lib.hid (fun (W : World) (k : Keep [] w W) (i : Nat) (hi : i < kids.length) => FltD.kid k hH hk hkid hi)
  have HMT := Lib.hid (fun (W : World) (k : Keep [] w W) => hm.keep0 k hH)
  have HS0 := Lib.hid (TwS.start it w (.slice a1 kids.length c1) (.slice a2 it.mids.length c2))
  clear ih hkid hk hm
  go_enter Tryz.func19, Tryz.ntmps19
  go_upto_region 3 with fail
  obtain ⟨V, hV⟩ : ∃ V, V = (((w.alloc (.cells #[.int .i8 it.kind, .slice a1 kids.length c1, .string it.desc, .string it.value, .string it.start, .slice a2 it.mids.length c2, .string it.fin, .string it.rule, .bool it.dn] 26)).alloc (.cells #[.int .i8 0, .slice none 0 0, .string ⟨#[]⟩, .string ⟨#[]⟩, .string ⟨#[]⟩, .slice none 0 0, .string ⟨#[]⟩, .string ⟨#[]⟩, .bool false] 26)).alloc (.cells #[.int .i8 it.kind, .slice none 0 0, .string it.desc, .string it.value, .string it.start, .slice a2 it.mids.length c2, .string it.fin, .string it.rule, .bool it.dn] 26)) := ⟨_, rfl⟩
  rw [← hV] at HS0 ⊢
  clear hV
  go_wp2_with fail
  go_loopg [4] (kids.length) (fun g i wr => ∃ (k : Nat) (u : Value), k ≤ kids.length ∧ kids.length ≤ g + k ∧ i = .int .i64 k ∧ Hid (RowK wr (w.heap.size + 3) u kids k) ∧ Hid (TwS it w (.slice a1 kids.length c1) (.slice a2 it.mids.length c2) u (.slice a2 it.mids.length c2) wr))
  case atStart => exact ⟨0, .slice none 0 0, Nat.zero_le _, by omega, rfl, Lib.hid (RowK.nil _ _ _), HS0⟩
  case round =>
  obtain ⟨k, u, hk, hg, rfl, HR, HS⟩ := hrel
  obtain ⟨x0, x1, x2, x3, x4, x5, x6, x7, x8, xf⟩ := nine HS.out.b0
  rcases Nat.lt_or_ge k kids.length with hlt | he
  · obtain ⟨kb, ko, p1, q1, p2, q2, rfl, hF1, hc1⟩ := HKK.out wr HS.out.keep k hlt
    have hI := HIH.out k hlt _ wr (Nat.le_trans hH HS.out.keep.size) hF1
    obtain ⟨kid, hkid⟩ : ∃ kid, kids[k] = kid := ⟨_, rfl⟩
    rw [hkid] at hI hc1
    obtain ⟨f0, f1, f2, f3, f4, f5, f6, f7, f8⟩ := nine_row hc1
    have HI := Lib.hid hI
    have HKID := Lib.hid hkid
    clear hI hF1 hc1 hkid
    go_upto_region 7 with (go_at_call 19; refine HI.out.mono ?_; rintro e w3 ⟨vs, rfl, hT, hK3⟩; obtain ⟨tb, tc, sb, sc, rfl⟩ := hT.nine; have HT3 := Lib.hid hT; have HK3 := Lib.hid hK3; clear hT hK3; unfold nineOf)
    have HS3 := Lib.hid (HS.out.step0 HK3.out)
    obtain ⟨W2, hW2⟩ : ∃ W2, W2 = w3.alloc (.cells #[.int .i8 kid.it.kind, .slice (some ⟨tb, 0, none⟩) kid.kids.length tc, .string kid.it.desc, .string kid.it.value, .string kid.it.start, .slice (some ⟨sb, 0, none⟩) kid.it.mids.length sc, .string kid.it.fin, .string kid.it.rule, .bool kid.it.dn] 26) := ⟨_, rfl⟩
    have hkw : Keep [] w3 W2 := by rw [hW2]; exact (Keep.refl [] w3).alloc _
    have hbk : W2.heap[w3.heap.size]? = some (.cells #[.int .i8 kid.it.kind, .slice (some ⟨tb, 0, none⟩) kid.kids.length tc, .string kid.it.desc, .string kid.it.value, .string kid.it.start, .slice (some ⟨sb, 0, none⟩) kid.it.mids.length sc, .string kid.it.fin, .string kid.it.rule, .bool kid.it.dn] 26 (0, 0)) := by rw [hW2]; exact alloc_at _ _
    have HR2 := Lib.hid (HR.out.keep (HK3.out.trans hkw) (by simp))
    have HS2 := Lib.hid (HS3.out.step0 hkw)
    have HT2 : Hid (TwD W2 (fun b => w.heap.size + 3 ≤ b ∧ b < W2.heap.size ∧ u.ownBlock ≠ some b) kids[k] (nineOf (.slice (some ⟨tb, 0, none⟩) kid.kids.length tc) (.slice (some ⟨sb, 0, none⟩) kid.it.mids.length sc) kid.it)) := Lib.hid (by
      rw [HKID.out]
      exact HT3.out.keep (fun b hb => hkw.block b hb.2 (by simp)) fun b hb => ⟨Nat.le_trans HS.out.lt hb.1, Nat.lt_of_lt_of_le hb.2 hkw.size, fun hu => by have := (HR.out.lt hu).2; omega⟩)
    unfold nineOf at HT2
    rw [← hW2]
    clear hW2 hkw HS3 HT3 HK3 x0 x1 x2 x3 x4 x5 x6 x7 x8 xf f0 f1 f2 f3 f4 f5 f6 f7 f8 HKK HIH HI
    have hsz2 := HS2.out.lt
    have hne2 : u.ownBlock ≠ some (w.heap.size + 1 + 1) := fun hu => by have := (HR.out.lt hu).1; omega
    obtain ⟨g0, g1, g2, g3, g4, g5, g6, g7, g8, gf⟩ := nine hbk
    obtain ⟨y0, y1, y2, y3, y4, y5, y6, y7, y8, yf⟩ := nine HS2.out.b2
    clear hbk
    go_wp2_with (at_builtin; refine app_kid HR2.out hlt hkl _ _ _ _ _ _ _ _ _ (.tmp 22) (.tmp 24) HT2.out (nine_one _ _ kid.it rfl rfl) (by rfl) (by rfl) (by rfl) (by rfl) (by omega) ?_; intro u' w' hR hL; obtain ⟨ad, cap, rfl⟩ := hR.form; obtain ⟨y0, y1, y2, y3, y4, y5, y6, y7, y8, yf⟩ := nine (hL.heap HS2.out.b2 hne2); have HR4 := Lib.hid hR; have HL4 := Lib.hid hL; clear hR hL)
    have HK5 := Lib.hid (set_keep w' (w.heap.size + 1 + 1) 1 (.slice ad (k + 1) cap))
    have HS5 := Lib.hid ((HS2.out.step HL4.out.1 fun x hx => (HR.out.lt (by simpa using hx)).1).setK (.slice ad (k + 1) cap))
    have HR5 := Lib.hid (HR4.out.keep HK5.out (by simp))
    go_roundg (kids.length - (k + 1))
    case measure => omega
    case rel => exact ⟨k + 1, .slice ad (k + 1) cap, by omega, by omega, by go_num, HR5, HS5⟩
  · have hke : k = kids.length := by omega
    have HKE := Lib.hid hke
    have hsz2 := HS.out.lt
    have hne2 : u.ownBlock ≠ some (w.heap.size + 1 + 1) := fun hu => by have := (HR.out.lt hu).1; omega
    obtain ⟨y0, y1, y2, y3, y4, y5, y6, y7, y8, yf⟩ := nine HS.out.b2
    clear hke HKK HIH
    go_upto_region 9 with (at_builtin; refine app_mark HR.out HKE.out hkl _ _ _ _ _ _ _ _ (.tmp 28) (.tmp 30) (by intro z hz; simp only [List.mem_cons, List.not_mem_nil, or_false] at hz; rcases hz with rfl | rfl | rfl | rfl | rfl | rfl | rfl | rfl | rfl <;> rfl) (by rfl) (by rfl) (by rfl) (by rfl) (by omega) ?_; intro kb kc w' hR hL; obtain ⟨y0, y1, y2, y3, y4, y5, y6, y7, y8, yf⟩ := nine (hL.heap HS.out.b2 hne2); have HR4 := Lib.hid hR; have HL4 := Lib.hid hL; clear hR hL)
    have HK5 := Lib.hid (set_keep w' (w.heap.size + 1 + 1) 1 (.slice (some ⟨kb, 0, none⟩) (kids.length + 1) kc))
    have HS5 := Lib.hid ((HS.out.step HL4.out.1 fun x hx => (HR.out.lt (by simpa using hx)).1).setK (.slice (some ⟨kb, 0, none⟩) (kids.length + 1) kc))
    have HR5 := Lib.hid (HR4.out.keep HK5.out (by simp))
    have hkc : kids.length + 1 ≤ kc := by obtain ⟨_, _, _, _, _, h, _⟩ := HR5.out; exact h
    obtain ⟨V5, hV5⟩ : ∃ V5, V5 = w'.setCell ⟨w.heap.size + 1 + 1, 1, none⟩ (.slice (some ⟨kb, 0, none⟩) (kids.length + 1) kc) := ⟨_, rfl⟩
    rw [← hV5] at HS5 HR5 ⊢
    clear hV5 HK5 HR4 HL4 HR HS HKE x0 x1 x2 x3 x4 x5 x6 x7 x8 xf y0 y1 y2 y3 y4 y5 y6 y7 y8 yf hne2 hsz2 hg he hk
    obtain ⟨x0, x1, x2, x3, x4, x5, x6, x7, x8, xf⟩ := nine HS5.out.b0
    obtain ⟨y0, y1, y2, y3, y4, y5, y6, y7, y8, yf⟩ := nine HS5.out.b2
    go_upto_region 10 with fail
    have HK7 := Lib.hid (set_keep V5 (w.heap.size + 1 + 1) 1 (.slice (some ⟨kb, 0, none⟩) kids.length kc))
    have HS7 := Lib.hid (HS5.out.setK (.slice (some ⟨kb, 0, none⟩) kids.length kc))
    have HR7 := Lib.hid (HR5.out.keep HK7.out (by simp))
    obtain ⟨V7, hV7⟩ : ∃ V7, V7 = V5.setCell ⟨w.heap.size + 1 + 1, 1, none⟩ (.slice (some ⟨kb, 0, none⟩) kids.length kc) := ⟨_, rfl⟩
    rw [← hV7] at HS7 HR7 ⊢
    clear hV7 HK7 HS5 HR5 x0 x1 x2 x3 x4 x5 x6 x7 x8 xf y0 y1 y2 y3 y4 y5 y6 y7 y8 yf
    have hsz7 := HS7.out.lt
    obtain ⟨x0, x1, x2, x3, x4, x5, x6, x7, x8, xf⟩ := nine ((alloc_lt (w := V7) (.cells #[] 9) (by omega)).trans HS7.out.b0)
    go_upto_region 11 with (at_builtin; first
      | (refine app_txts V7.heap.size H _ (World.ownsRow_made V7 #[] 0 (Nat.le_refl _) (Nat.zero_le _) rfl) a2 c2 it.mids (HMT.out _ (HS7.out.keep.alloc _)) hml (.tmp 40) (.tmp 42) (by rfl) (by rfl) (by rfl) (by rfl) (by simp) ?_; intro v' w' hO hK; have HK8 : Hid (Keep [] V7 w') := Lib.hid (((Keep.refl [] V7).alloc _).transTo hK (by simp [Value.ownBlock])); have HO := Lib.hid hO; clear hO hK)
      | (refine app_sharp V7.heap.size _ it.mids HO.out hml (.tmp 43) (.tmp 44) (by rfl) (by rfl) (by rfl) (by rfl) HK8.out.size ?_; intro mb mc w'' hM hK; have HK9 : Hid (Keep [] V7 w'') := Lib.hid (HK8.out.transTo hK (fun x hx => .inr (HO.out.lt x (by simpa using hx)).1)); have HM := Lib.hid hM; obtain ⟨y0, y1, y2, y3, y4, y5, y6, y7, y8, yf⟩ := nine (HK9.out.heap HS7.out.b2 (by simp)); clear hM hK))
    have HK10 := Lib.hid (set_keep w'' (w.heap.size + 1 + 1) 5 (.slice (some ⟨mb, 0, none⟩) (it.mids.length + 1) mc))
    have HS10 := Lib.hid ((HS7.out.step0 HK9.out).setM (.slice (some ⟨mb, 0, none⟩) (it.mids.length + 1) mc))
    have HR10 := Lib.hid ((HR7.out.keep HK9.out (by simp)).keep HK10.out (by simp))
    have HM10 := Lib.hid (HM.out.keep HK10.out (by simp; omega))
    have hmc : it.mids.length + 1 ≤ mc := HM.out.2.2.2.2.1
    obtain ⟨V10, hV10⟩ : ∃ V10, V10 = w''.setCell ⟨w.heap.size + 1 + 1, 5, none⟩ (.slice (some ⟨mb, 0, none⟩) (it.mids.length + 1) mc) := ⟨_, rfl⟩
    rw [← hV10] at HS10 HR10 HM10 ⊢
    clear hV10 HK10 HS7 HR7 HM HK9 HK8 HO HMT x0 x1 x2 x3 x4 x5 x6 x7 x8 xf y0 y1 y2 y3 y4 y5 y6 y7 y8 yf
    obtain ⟨x0, x1, x2, x3, x4, x5, x6, x7, x8, xf⟩ := nine HS10.out.b0
    obtain ⟨y0, y1, y2, y3, y4, y5, y6, y7, y8, yf⟩ := nine HS10.out.b2
    go_upto_region 12 with fail
    have HK11 := Lib.hid (set_keep V10 (w.heap.size + 1 + 1) 5 (.slice (some ⟨mb, 0, none⟩) it.mids.length mc))
    have HS11 := Lib.hid (HS10.out.setM (.slice (some ⟨mb, 0, none⟩) it.mids.length mc))
    have HR11 := Lib.hid (HR10.out.keep HK11.out (by simp))
    have HM11 := Lib.hid (HM10.out.keep HK11.out (by simp; omega))
    obtain ⟨V11, hV11⟩ : ∃ V11, V11 = V10.setCell ⟨w.heap.size + 1 + 1, 5, none⟩ (.slice (some ⟨mb, 0, none⟩) it.mids.length mc) := ⟨_, rfl⟩
    rw [← hV11] at HS11 HR11 HM11 ⊢
    clear hV11 HK11 HS10 HR10 HM10 x0 x1 x2 x3 x4 x5 x6 x7 x8 xf y0 y1 y2 y3 y4 y5 y6 y7 y8 yf
    obtain ⟨z0, z1, z2, z3, z4, z5, z6, z7, z8, zf⟩ := nine HS11.out.b1
    obtain ⟨y0, y1, y2, y3, y4, y5, y6, y7, y8, yf⟩ := nine HS11.out.b2
    go_wp2_with fail
    have hKs := setCells_keep (S := [w.heap.size + 1]) (b := w.heap.size + 1) (a := V11) (.inl (by simp)) [.int .i8 it.kind, .slice (some ⟨kb, 0, none⟩) kids.length kc, .string it.desc, .string it.value, .string it.start, .slice (some ⟨mb, 0, none⟩) it.mids.length mc, .string it.fin, .string it.rule, .bool it.dn] 0 V11 (Keep.refl _ _)
    have hKw : Keep [] w (V11.setCells (w.heap.size + 1) 0 [.int .i8 it.kind, .slice (some ⟨kb, 0, none⟩) kids.length kc, .string it.desc, .string it.value, .string it.start, .slice (some ⟨mb, 0, none⟩) it.mids.length mc, .string it.fin, .string it.rule, .bool it.dn]) := setCells_keep (b := w.heap.size + 1) (.inr (by omega)) _ 0 V11 HS11.out.keep
    refine bodyPost_ret (v := .agg #[.int .i8 it.kind, .slice (some ⟨kb, 0, none⟩) kids.length kc, .string it.desc, .string it.value, .string it.start, .slice (some ⟨mb, 0, none⟩) it.mids.length mc, .string it.fin, .string it.rule, .bool it.dn]) (by simp [results, Tryz.results19, go_sem, z0, z1, z2, z3, z4, z5, z6, z7, z8]) rfl ?_
    obtain ⟨cs', r1, r2, r3, r4, r5, r6, r7⟩ := HR11.out.keep hKs (by simp)
    obtain ⟨m1, m2, m3, m4, m5, m6⟩ := HM11.out.keep hKs (by simp; omega)
    exact ⟨_, rfl, TwD.mk it kids kb kc mb mc cs' ⟨by omega, r2⟩ ⟨by omega, m2⟩ m3 m4 r3 r4 r5 m5 r6 m6 hkl hml fun i hi => (r7 i hi).keep (fun _ _ => rfl) fun b hb => ⟨by omega, hb.2⟩, hKw⟩

theorem twin_of (H : Nat) : ∀ (n : Nat) (g : Flt) (vs : List Value) (w : World), weight g ≤ n → Light g → H ≤ w.heap.size → FltD w H g vs → Calls Tryz.prog 19 #[.agg vs.toArray] w (TwR g w) := by
  intro n
  induction n with
  | zero =>
    intro g vs w hn
    cases g with | mk it ks => simp only [weight] at hn; omega
  | succ n ih =>
    intro g vs w hn hl hH h1
    cases h1 with
    | mk it kids a1 c1 a2 c2 cs hm hml hkl hk hkid =>
      obtain ⟨l1, l2, l3⟩ : it.mids.length ≤ 1073741824 ∧ kids.length ≤ 1073741824 ∧ ∀ i (h : i < kids.length), Light kids[i] := by
        cases hl with | mk _ _ l1 l2 l3 => exact ⟨l1, l2, l3⟩
      refine twin_step H it kids a1 c1 a2 c2 cs w hH hm l1 l2 hk hkid fun i hi vs W e1 e2 => ih kids[i] vs W ?_ (l3 i hi) e1 e2
      have := weight_kid kids i hi
      simp only [weight] at hn
      omega
theorem twin_any (H : Nat) (g : Flt) (vs : List Value) (w : World) (hl : Light g) (hH : H ≤ w.heap.size) (hF : FltD w H g vs) : Calls Tryz.prog 19 #[.agg vs.toArray] w (TwR g w) := twin_of H (weight g) g vs w (Nat.le_refl _) hl hH hF
end Go.Proofs.YtjmpcoedfoaebaaGreatDoor
