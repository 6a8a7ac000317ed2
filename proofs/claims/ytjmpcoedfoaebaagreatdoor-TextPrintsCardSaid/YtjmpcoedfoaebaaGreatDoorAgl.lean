/- A filter among a row's arguments, opened: it is a filter that is read. The laws' left and heavy: how much a filter is in all. -/
import Derived.Test.YtjmpcoedfoaebaaGreatDoorSam
import Derived.SliceStrings
import Derived.Deep.Slices
import Derived.ProofKit
open Go Go.RowKit Go.ChangeShapes Go.WideShapes
namespace Go.Proofs.YtjmpcoedfoaebaaGreatDoor

instance : Inhabited Flt := ⟨.mk ⟨0, noText, noText, noText, [], noText, noText, false⟩ []⟩

theorem cell_lt {w : World} {a : Addr} {v : Value} (h : w.cell? a = some v) : a.block < w.heap.size := by
  rcases Nat.lt_or_ge a.block w.heap.size with h1 | h1
  · exact h1
  · unfold World.cell? at h
    rw [Array.getElem?_eq_none h1] at h
    cases h
theorem cell_at {w : World} {a : Addr} {i : Nat} {v : Value} (hs : a.spot = none) (h : w.cell? (a.add i) = some v) : w.cell? ⟨a.block, a.off + i, none⟩ = some v := by
  obtain ⟨b, o, sp⟩ := a
  dsimp only at hs
  subst hs
  cases i with
  | zero => exact h
  | succ i => rw [Addr.add, if_neg (by omega)] at h; exact h
/-- How large what comes in may be. -/
def topLen : Nat := 140737488351232
/-- No text and no list of a filter is too large. -/
inductive SzOk : Flt → Prop
  | mk (it : Itm) (kids : List Flt) (h1 : it.desc.size ≤ topLen) (h2 : it.value.size ≤ topLen) (h3 : it.start.size ≤ topLen) (h4 : it.fin.size ≤ topLen) (h5 : it.rule.size ≤ topLen) (h6 : ∀ m ∈ it.mids, m.size ≤ topLen) (h7 : it.mids.length ≤ topLen) (h8 : kids.length ≤ topLen)
      (hk : ∀ i (h : i < kids.length), SzOk kids[i]) : SzOk (.mk it kids)
theorem mem_weightsAll {H : Type} {P : Program} {e : TypeId} {d : DataW H} : ∀ {l : List (DataW H)}, d ∈ l → ∀ n ∈ d.weights P e, n ∈ DataW.weightsAll P e l
  | [], h, _, _ => by simp at h
  | y :: l, h, n, hn => by
    rw [DataW.weightsAll, List.mem_append]
    rcases List.mem_cons.1 h with rfl | h
    · exact .inl hn
    · exact .inr (mem_weightsAll h n hn)
theorem weights_slice {H : Type} {P : Program} {t e : TypeId} {l r : List (DataW H)} (ht : P.underlying t = some (.slice e)) : (DataW.slice l r).weights P t = (l.length + r.length) * P.bytesOf e :: (DataW.weightsAll P e l ++ DataW.weightsAll P e r) := by
  rw [DataW.weights, ht]
theorem weights_struct {H : Type} {P : Program} {t : TypeId} {fs : Array Field} {l : List (DataW H)} (ht : P.underlying t = some (.struct fs)) : (DataW.agg l).weights P t = DataW.weightsEach P (fs.toList.map (·.type)) l := by
  rw [DataW.weights, ht]
theorem open_mids {H : Type} {enc : TypeId × Value → H} {w : World} {fuel : Nat} {cs : List Value} {x : DataW H × List MemPlace} (h : DataW.trod enc Tryz.prog w 0 (fun _ => true) true fuel 24 cs = some x) (hw : ∀ n ∈ x.1.weights Tryz.prog 24, n ≤ topLen) :
    ∃ a c, ∃ ms : List ByteArray, cs = [.slice a ms.length c] ∧ Txt w w.heap.size a ms ∧ ms.length ≤ topLen ∧ ∀ m ∈ ms, m.size ≤ topLen := by
  rcases open_strings (e := 9) (by kernel_rfl) (by kernel_rfl) (by kernel_rfl) h with ⟨h1, _⟩ | ⟨a, len, cap, ss, h1, _, hl, hm, hz, hx, hcell, _⟩
  · exact ⟨none, 0, [], h1, .inl rfl, by simp, fun m hm => by cases hm⟩
  · rw [if_pos rfl] at hz
    have hml : (ss.take len).length = len := by rw [List.length_take]; omega
    rw [hx, weights_slice Tryz.underlying24, show Tryz.prog.bytesOf 9 = 16 by kernel_rfl] at hw
    have hwl := hw _ (List.mem_cons_self ..)
    simp only [strs, List.length_map, List.length_take, List.length_drop] at hwl
    refine ⟨some a, cap, ss.take len, by rw [hml]; exact h1, ?_, by rw [hml]; omega, fun m hm => ?_⟩
    · by_cases h0 : ss.take len = []
      · exact .inl h0
      · have hpos : 0 < len := by
          rcases Nat.eq_zero_or_pos len with e | e
          · subst e; exact absurd (List.take_zero ..) h0
          · exact e
        have hc0 := hcell 0 (by omega)
        have hs := World.cell?_spot hc0
        rw [show a.add 0 = a from rfl] at hs
        refine .inr ⟨a.block, a.off, ?_, by have := cell_lt hc0; exact this, fun i r hr => ?_⟩
        · cases a; dsimp only at hs; subst hs; rfl
        · rw [List.getElem?_take] at hr
          split at hr
          · have hi : i < ss.length := (List.getElem?_eq_some_iff.1 hr).1
            have := cell_at hs (hcell i hi)
            rw [List.getD, hr] at this
            exact this
          · cases hr
    · have h1 : (DataW.lit (.string m.data.toList) : DataW H) ∈ strs (ss.take len) := List.mem_map.2 ⟨m, hm, rfl⟩
      have h2 := mem_weightsAll (P := Tryz.prog) (e := 9) h1 m.data.toList.length (by simp [DataW.weights])
      have h3 := hw _ (List.mem_cons_of_mem _ (List.mem_append_left _ h2))
      simpa using h3

set_option maxRecDepth 100000 in
theorem open_flt {H : Type} {enc : TypeId × Value → H} {w : World} : ∀ (fuel : Nat) (cs : List Value) (x : DataW H × List MemPlace), DataW.trod enc Tryz.prog w 0 (fun _ => true) true fuel 26 cs = some x → (∀ n ∈ x.1.weights Tryz.prog 26, n ≤ topLen) → ∃ g, FltD w w.heap.size g cs ∧ SzOk g := by
  intro fuel
  induction fuel using Nat.strongRecOn with
  | _ fuel ih =>
  intro cs x h hw
  obtain ⟨xs, n, rfl, hxx, hl, hx, hf⟩ := DataW.trod_struct Tryz.underlying26 h
  have hl9 : cs.length = 9 := hl.trans (by kernel_rfl)
  have h9 : xs.length = 9 := hx
  have e22 : Tryz.prog.cellsOf 22 = 1 := by kernel_rfl
  have e23 : Tryz.prog.cellsOf 23 = 1 := by kernel_rfl
  have e9 : Tryz.prog.cellsOf 9 = 1 := by kernel_rfl
  have e24 : Tryz.prog.cellsOf 24 = 1 := by kernel_rfl
  have e4 : Tryz.prog.cellsOf 4 = 1 := by kernel_rfl
  have e26 : Tryz.prog.cellsOf 26 = 9 := by kernel_rfl
  match cs, hl9, xs, h9 with
  | [c0, c1, c2, c3, c4, c5, c6, c7, c8], _, [x0, x1, x2, x3, x4, x5, x6, x7, x8], _ =>
  rw [hxx, weights_struct Tryz.underlying26] at hw
  have hw9 : ∀ n, n ∈ x1.1.weights Tryz.prog 23 ∨ n ∈ x2.1.weights Tryz.prog 9 ∨ n ∈ x3.1.weights Tryz.prog 9 ∨ n ∈ x4.1.weights Tryz.prog 9 ∨ n ∈ x5.1.weights Tryz.prog 24 ∨ n ∈ x6.1.weights Tryz.prog 9 ∨ n ∈ x7.1.weights Tryz.prog 9 → n ≤ topLen := fun n hn => by
    refine hw n ?_
    have e : DataW.weightsEach Tryz.prog [22, 23, 9, 9, 9, 24, 9, 9, 4] [x0.1, x1.1, x2.1, x3.1, x4.1, x5.1, x6.1, x7.1, x8.1] = x0.1.weights Tryz.prog 22 ++ (x1.1.weights Tryz.prog 23 ++ (x2.1.weights Tryz.prog 9 ++ (x3.1.weights Tryz.prog 9 ++ (x4.1.weights Tryz.prog 9 ++ (x5.1.weights Tryz.prog 24 ++ (x6.1.weights Tryz.prog 9 ++ (x7.1.weights Tryz.prog 9 ++ (x8.1.weights Tryz.prog 4 ++ [])))))))) := by
      rw [DataW.weightsEach, DataW.weightsEach, DataW.weightsEach, DataW.weightsEach, DataW.weightsEach, DataW.weightsEach, DataW.weightsEach, DataW.weightsEach, DataW.weightsEach]
      rfl
    have hmem : n ∈ DataW.weightsEach Tryz.prog [22, 23, 9, 9, 9, 24, 9, 9, 4] [x0.1, x1.1, x2.1, x3.1, x4.1, x5.1, x6.1, x7.1, x8.1] := by
      rw [e]
      rcases hn with h | h | h | h | h | h | h <;> simp only [List.mem_append, h, true_or, or_true]
    exact hmem
  clear hw
  have f0 : DataW.trod enc Tryz.prog w 0 (fun _ => true) true n 22 (List.take (Tryz.prog.cellsOf 22) (List.drop 0 [c0, c1, c2, c3, c4, c5, c6, c7, c8])) = some x0 := hf 0 _ rfl
  rw [e22] at f0
  replace f0 : DataW.trod enc Tryz.prog w 0 (fun _ => true) true n 22 [c0] = some x0 := f0
  have f1 : DataW.trod enc Tryz.prog w 0 (fun _ => true) true n 23 (List.take (Tryz.prog.cellsOf 23) (List.drop 1 [c0, c1, c2, c3, c4, c5, c6, c7, c8])) = some x1 := hf 1 _ rfl
  rw [e23] at f1
  replace f1 : DataW.trod enc Tryz.prog w 0 (fun _ => true) true n 23 [c1] = some x1 := f1
  have f2 : DataW.trod enc Tryz.prog w 0 (fun _ => true) true n 9 (List.take (Tryz.prog.cellsOf 9) (List.drop 2 [c0, c1, c2, c3, c4, c5, c6, c7, c8])) = some x2 := hf 2 _ rfl
  rw [e9] at f2
  replace f2 : DataW.trod enc Tryz.prog w 0 (fun _ => true) true n 9 [c2] = some x2 := f2
  have f3 : DataW.trod enc Tryz.prog w 0 (fun _ => true) true n 9 (List.take (Tryz.prog.cellsOf 9) (List.drop 3 [c0, c1, c2, c3, c4, c5, c6, c7, c8])) = some x3 := hf 3 _ rfl
  rw [e9] at f3
  replace f3 : DataW.trod enc Tryz.prog w 0 (fun _ => true) true n 9 [c3] = some x3 := f3
  have f4 : DataW.trod enc Tryz.prog w 0 (fun _ => true) true n 9 (List.take (Tryz.prog.cellsOf 9) (List.drop 4 [c0, c1, c2, c3, c4, c5, c6, c7, c8])) = some x4 := hf 4 _ rfl
  rw [e9] at f4
  replace f4 : DataW.trod enc Tryz.prog w 0 (fun _ => true) true n 9 [c4] = some x4 := f4
  have f5 : DataW.trod enc Tryz.prog w 0 (fun _ => true) true n 24 (List.take (Tryz.prog.cellsOf 24) (List.drop 5 [c0, c1, c2, c3, c4, c5, c6, c7, c8])) = some x5 := hf 5 _ rfl
  rw [e24] at f5
  replace f5 : DataW.trod enc Tryz.prog w 0 (fun _ => true) true n 24 [c5] = some x5 := f5
  have f6 : DataW.trod enc Tryz.prog w 0 (fun _ => true) true n 9 (List.take (Tryz.prog.cellsOf 9) (List.drop 6 [c0, c1, c2, c3, c4, c5, c6, c7, c8])) = some x6 := hf 6 _ rfl
  rw [e9] at f6
  replace f6 : DataW.trod enc Tryz.prog w 0 (fun _ => true) true n 9 [c6] = some x6 := f6
  have f7 : DataW.trod enc Tryz.prog w 0 (fun _ => true) true n 9 (List.take (Tryz.prog.cellsOf 9) (List.drop 7 [c0, c1, c2, c3, c4, c5, c6, c7, c8])) = some x7 := hf 7 _ rfl
  rw [e9] at f7
  replace f7 : DataW.trod enc Tryz.prog w 0 (fun _ => true) true n 9 [c7] = some x7 := f7
  have f8 : DataW.trod enc Tryz.prog w 0 (fun _ => true) true n 4 (List.take (Tryz.prog.cellsOf 4) (List.drop 8 [c0, c1, c2, c3, c4, c5, c6, c7, c8])) = some x8 := hf 8 _ rfl
  rw [e4] at f8
  replace f8 : DataW.trod enc Tryz.prog w 0 (fun _ => true) true n 4 [c8] = some x8 := f8
  obtain ⟨k, g0, _, _⟩ := DataW.trod_int Tryz.underlying22 f0
  obtain ⟨s2, g2, y2, _⟩ := DataW.trod_string Tryz.underlying9 f2
  obtain ⟨s3, g3, y3, _⟩ := DataW.trod_string Tryz.underlying9 f3
  obtain ⟨s4, g4, y4, _⟩ := DataW.trod_string Tryz.underlying9 f4
  obtain ⟨a2, d2, ms, g5, hm, hml, hms⟩ := open_mids f5 fun n hn => hw9 n (by simp only [hn, true_or, or_true])
  obtain ⟨s6, g6, y6, _⟩ := DataW.trod_string Tryz.underlying9 f6
  obtain ⟨s7, g7, y7, _⟩ := DataW.trod_string Tryz.underlying9 f7
  obtain ⟨b, g8, _⟩ := DataW.trod_bool Tryz.underlying4 f8
  have z2 : s2.size ≤ topLen := hw9 _ (by rw [y2]; simp [DataW.weights])
  have z3 : s3.size ≤ topLen := hw9 _ (by rw [y3]; simp [DataW.weights])
  have z4 : s4.size ≤ topLen := hw9 _ (by rw [y4]; simp [DataW.weights])
  have z6 : s6.size ≤ topLen := hw9 _ (by rw [y6]; simp [DataW.weights])
  have z7 : s7.size ≤ topLen := hw9 _ (by rw [y7]; simp [DataW.weights])
  have hml' : ms.length ≤ 9223372036854775807 := Nat.le_trans hml (by decide)
  cases g0; cases g2; cases g3; cases g4; cases g5; cases g6; cases g7; cases g8
  rcases DataW.trod_slice Tryz.underlying23 f1 with ⟨g1, _⟩ | ⟨a, len, cap, elems, rest, m, rfl, g1, y1, _, hle, hcap, hel, hat, _⟩
  · cases g1
    exact ⟨.mk ⟨k, s2, s3, s4, ms, s6, s7, b⟩ [], .mk ⟨k, s2, s3, s4, ms, s6, s7, b⟩ [] none 0 a2 d2 (fun _ => []) hm hml' (by simp) (.inl rfl) (fun i hi => absurd hi (Nat.not_lt_zero _)), .mk ⟨k, s2, s3, s4, ms, s6, s7, b⟩ [] z2 z3 z4 z6 z7 hms hml (by simp) (fun i hi => absurd hi (Nat.not_lt_zero _))⟩
  · cases g1
    rw [e26] at hat
    have hw1 : ∀ n ∈ x1.1.weights Tryz.prog 23, n ≤ topLen := fun n hn => hw9 n (.inl hn)
    rw [y1, weights_slice Tryz.underlying23, show Tryz.prog.bytesOf 26 = 144 by kernel_rfl] at hw1
    have hwl := hw1 _ (List.mem_cons_self ..)
    simp only [List.length_map] at hwl
    have hkt : len ≤ topLen := by omega
    have each : ∀ i, i < len → ∃ y : Flt × List Value, (FltD w w.heap.size y.1 y.2 ∧ SzOk y.1) ∧ y.2.length = 9 ∧ ∀ j u, y.2[j]? = some u → w.cell? ((a.add (i * 9)).add j) = some u := fun i hi => by
      have h1 := hat i hi
      rw [List.getElem?_eq_getElem (by omega), Option.bind_eq_some_iff] at h1
      obtain ⟨cs', h2, h3⟩ := h1
      obtain ⟨g, hg⟩ := ih m (by omega) cs' _ h3 fun n hn => hw1 n (List.mem_cons_of_mem _ (List.mem_append_left _ (mem_weightsAll (List.mem_map.2 ⟨_, List.getElem_mem _, rfl⟩) n hn)))
      obtain ⟨_, h4, h5⟩ := World.cells?_some h2
      refine ⟨(g, cs'), hg, h4, fun j u hu => ?_⟩
      have hj : j < 9 := by rw [← h4]; exact (List.getElem?_eq_some_iff.1 hu).1
      rw [h5 j hj]; exact hu
    obtain ⟨F, hF⟩ := Go.Deep.choose_lt each
    have hkl : ((List.range len).map fun i => (F i).1).length = len := by simp
    refine ⟨.mk ⟨k, s2, s3, s4, ms, s6, s7, b⟩ ((List.range len).map fun i => (F i).1), ?_⟩
    have hkk : ((List.range len).map fun i => (F i).1) = [] ∨ ∃ kb ko, some a = some ⟨kb, ko, none⟩ ∧ kb < w.heap.size ∧ ∀ i, i < ((List.range len).map fun i => (F i).1).length → ∀ j u, (F i).2[j]? = some u → w.cell? ⟨kb, ko + i * 9 + j, none⟩ = some u := by
      rcases Nat.eq_zero_or_pos len with h0 | h0
      · subst h0; exact .inl rfl
      · right
        have h1 := (hF 0 h0).2.1
        have hc0 : w.cell? a = some ((F 0).2[0]'(by omega)) := (hF 0 h0).2.2 0 _ (List.getElem?_eq_getElem (by omega))
        have hs := World.cell?_spot hc0
        refine ⟨a.block, a.off, ?_, cell_lt hc0, fun i hi j u hu => ?_⟩
        · cases a; dsimp only at hs; subst hs; rfl
        · rw [hkl] at hi
          have h2 := (hF i hi).2.2 j u hu
          have hs2 : (a.add (i * 9)).spot = none := by
            unfold Addr.add; split
            · exact hs
            · rfl
          have h3 := cell_at hs2 h2
          have hb : (a.add (i * 9)).block = a.block ∧ (a.add (i * 9)).off = a.off + i * 9 := by
            unfold Addr.add; split
            · rename_i h; rw [h]; exact ⟨rfl, rfl⟩
            · exact ⟨rfl, rfl⟩
          rw [hb.1, hb.2] at h3
          exact h3
    have hkd : ∀ i (h : i < ((List.range len).map fun i => (F i).1).length), FltD w w.heap.size ((List.range len).map fun i => (F i).1)[i] (F i).2 := fun i hi => by
      have hi' : i < len := by rw [← hkl]; exact hi
      have h4 := (hF i hi').1.1
      rw [List.getElem_map, List.getElem_range]
      exact h4
    have hks : ∀ i (h : i < ((List.range len).map fun i => (F i).1).length), SzOk ((List.range len).map fun i => (F i).1)[i] := fun i hi => by
      have hi' : i < len := by rw [← hkl]; exact hi
      have h4 := (hF i hi').1.2
      rw [List.getElem_map, List.getElem_range]
      exact h4
    have hD := FltD.mk (w := w) (H := w.heap.size) ⟨k, s2, s3, s4, ms, s6, s7, b⟩ ((List.range len).map fun i => (F i).1) (some a) cap a2 d2 (fun i => (F i).2) hm hml' (by rw [hkl]; exact Nat.le_trans hle hcap) hkk hkd
    have hS := SzOk.mk ⟨k, s2, s3, s4, ms, s6, s7, b⟩ ((List.range len).map fun i => (F i).1) z2 z3 z4 z6 z7 hms hml (by rw [hkl]; exact hkt) hks
    rw [hkl] at hD
    exact ⟨hD, hS⟩
end Go.Proofs.YtjmpcoedfoaebaaGreatDoor

open Go Go.RowKit
namespace Go.Proofs.YtjmpcoedfoaebaaGreatDoor

def midsN : List ByteArray → Int → Int
  | [], n => n
  | m :: ms, n => if n < 0 then n else midsN ms (n - 1 - m.size)
def headN (it : Itm) (n : Int) : Int := n - 1 - it.desc.size - it.value.size - it.start.size - it.fin.size - it.rule.size
mutual
/-- What is left of a number once a filter is counted; below 0: nothing. -/
def leftP : Flt → Int → Int
  | .mk it kids, n => leftK kids (midsN it.mids (headN it n))
def leftK : List Flt → Int → Int
  | [], n => n
  | g :: gs, n => if n < 0 then n else leftK gs (leftP g n)
end
theorem midsN_neg {ms : List ByteArray} {n : Int} (h : n < 0) : midsN ms n = n := by
  cases ms with
  | nil => rfl
  | cons m ms => rw [midsN, if_pos h]
theorem leftK_neg {gs : List Flt} {n : Int} (h : n < 0) : leftK gs n = n := by
  cases gs with
  | nil => rw [leftK]
  | cons m ms => rw [leftK, if_pos h]
theorem midsN_range : ∀ (ms : List ByteArray) (n : Int), (∀ m ∈ ms, m.size ≤ topLen) → -1125899906842624 ≤ n → -1125899906842624 ≤ midsN ms n ∧ midsN ms n ≤ n
  | [], n, _, h => ⟨h, Int.le_refl _⟩
  | m :: ms, n, hm, h => by
    rw [midsN]
    split
    · exact ⟨h, Int.le_refl _⟩
    · have h1 := hm m (List.mem_cons_self ..)
      unfold topLen at h1
      have := midsN_range ms (n - 1 - m.size) (fun x hx => hm x (List.mem_cons_of_mem _ hx)) (by omega)
      omega
theorem SzOk.kids {it : Itm} {kids : List Flt} (h : SzOk (.mk it kids)) : ∀ k ∈ kids, SzOk k := fun k hk => by
  cases h with
  | mk _ _ _ _ _ _ _ _ _ _ hks =>
    obtain ⟨i, hi, rfl⟩ := List.getElem_of_mem hk
    exact hks i hi
theorem headN_range {it : Itm} {kids : List Flt} (h : SzOk (.mk it kids)) {n : Int} (hn : 0 ≤ n) : -1125899906842624 ≤ headN it n ∧ headN it n ≤ n := by
  cases h with
  | mk _ _ h1 h2 h3 h4 h5 _ _ _ _ => unfold topLen at h1 h2 h3 h4 h5; unfold headN; omega
theorem SzOk.mids {it : Itm} {kids : List Flt} (h : SzOk (.mk it kids)) : ∀ m ∈ it.mids, m.size ≤ topLen := by
  cases h with
  | mk _ _ _ _ _ _ _ h6 _ _ _ => exact h6
mutual
theorem leftP_range : ∀ (g : Flt) (n : Int), SzOk g → 0 ≤ n → -1125899906842624 ≤ leftP g n ∧ leftP g n ≤ n
  | .mk it kids, n, h, hn => by
    rw [leftP]
    have h1 := headN_range h hn
    have h2 := midsN_range it.mids _ h.mids h1.1
    have h3 := leftK_range kids _ h.kids h2.1
    omega
theorem leftK_range : ∀ (gs : List Flt) (n : Int), (∀ k ∈ gs, SzOk k) → -1125899906842624 ≤ n → -1125899906842624 ≤ leftK gs n ∧ leftK gs n ≤ n
  | [], n, _, h => by rw [leftK]; exact ⟨h, Int.le_refl _⟩
  | g :: gs, n, hk, h => by
    rw [leftK]
    split
    · exact ⟨h, Int.le_refl _⟩
    · have h1 := leftP_range g n (hk g (List.mem_cons_self ..)) (by omega)
      have := leftK_range gs (leftP g n) (fun x hx => hk x (List.mem_cons_of_mem _ hx)) h1.1
      omega
end
theorem midsN_at {ms : List ByteArray} {k : Nat} {r : ByteArray} {z : Int} (hr : ms[k]? = some r) (hz : 0 ≤ z) : midsN (ms.drop k) z = midsN (ms.drop (k + 1)) (z - 1 - r.size) := by
  have hk := (List.getElem?_eq_some_iff.1 hr).1
  rw [List.drop_eq_getElem_cons hk, midsN, if_neg (by omega)]
  rw [(List.getElem?_eq_some_iff.1 hr).2]
theorem leftK_at {gs : List Flt} {k : Nat} (hk : k < gs.length) {z : Int} (hz : 0 ≤ z) : leftK (gs.drop k) z = leftK (gs.drop (k + 1)) (leftP gs[k] z) := by
  rw [List.drop_eq_getElem_cons hk, leftK, if_neg (by omega)]
def LeR (w : World) (m : Int) (e : Ending) (w' : World) : Prop := e = .returned (.int .i64 m) ∧ Keep [] w w'

set_option maxHeartbeats 4000000 in
set_option maxRecDepth 100000 in
theorem left_step (H : Nat) (it : Itm) (kids : List Flt) (a1 : Option Addr) (c1 : Nat) (a2 : Option Addr) (c2 : Nat) (cs : Nat → List Value) (n : Int) (w : World)
    (hH : H ≤ w.heap.size) (hm : Txt w H a2 it.mids) (hml : it.mids.length ≤ 9223372036854775807) (hkl : kids.length ≤ 9223372036854775807)
    (hk : kids = [] ∨ ∃ kb ko, a1 = some ⟨kb, ko, none⟩ ∧ kb < H ∧ ∀ i, i < kids.length → ∀ j u, (cs i)[j]? = some u → w.cell? ⟨kb, ko + i * 9 + j, none⟩ = some u)
    (hkid : ∀ i (h : i < kids.length), FltD w H kids[i] (cs i))
    (hsz : SzOk (.mk it kids)) (hn0 : 0 ≤ n) (hn1 : n ≤ 16777216)
    (ih : ∀ i (h : i < kids.length) (m : Int) (vs : List Value) (W : World), 0 ≤ m → m ≤ 16777216 → H ≤ W.heap.size → FltD W H kids[i] vs → Calls Tryz.prog 32 #[.agg vs.toArray, .int .i64 m] W (LeR W (leftP kids[i] m))) :
    Calls Tryz.prog 32 #[.agg #[.int .i8 it.kind, .slice a1 kids.length c1, .string it.desc, .string it.value, .string it.start, .slice a2 it.mids.length c2, .string it.fin, .string it.rule, .bool it.dn], .int .i64 n] w (LeR w (leftP (.mk it kids) n)) := by
  have HM := Lib.hid hm
  have HKK := Lib.hid (fun (W : World) (k : Keep [] w W) (i : Nat) (hi : i < kids.length) => FltD.kid k hH hk hkid hi)
  have HIH := Lib.hid ih
  have HSM := Lib.hid hsz.mids
  have HSK := Lib.hid hsz.kids
  have hhd := headN_range hsz hn0
  obtain ⟨h1, h2, h3, h4, h5⟩ : (it.desc.size : Int) ≤ 140737488351232 ∧ (it.value.size : Int) ≤ 140737488351232 ∧ (it.start.size : Int) ≤ 140737488351232 ∧ (it.fin.size : Int) ≤ 140737488351232 ∧ (it.rule.size : Int) ≤ 140737488351232 := by
    cases hsz with
    | mk _ _ h1 h2 h3 h4 h5 _ _ _ _ => unfold topLen at h1 h2 h3 h4 h5; omega
  have hd : headN it n = n - 1 - it.desc.size - it.value.size - it.start.size - it.fin.size - it.rule.size := rfl
  obtain ⟨R, hR⟩ : ∃ R, leftP (.mk it kids) n = R := ⟨_, rfl⟩
  rw [hR]
  rw [leftP] at hR
  obtain ⟨M, hM⟩ : ∃ M, midsN it.mids (headN it n) = M := ⟨_, rfl⟩
  rw [hM] at hR
  rw [hd] at hM hhd
  have HR := Lib.hid hR
  have HMM := Lib.hid hM
  have HHD := Lib.hid hhd
  clear hm hk hkid ih hsz hR hM hhd hd
  have HB1 : Hid ((w.alloc (.cells #[.int .i8 it.kind, .slice a1 kids.length c1, .string it.desc, .string it.value, .string it.start, .slice a2 it.mids.length c2, .string it.fin, .string it.rule, .bool it.dn] 26)).heap[w.heap.size]? = some (.cells #[.int .i8 it.kind, .slice a1 kids.length c1, .string it.desc, .string it.value, .string it.start, .slice a2 it.mids.length c2, .string it.fin, .string it.rule, .bool it.dn] 26 (0, 0))) := Lib.hid (alloc_at w _)
  have HKW : Hid (Keep [] w (w.alloc (.cells #[.int .i8 it.kind, .slice a1 kids.length c1, .string it.desc, .string it.value, .string it.start, .slice a2 it.mids.length c2, .string it.fin, .string it.rule, .bool it.dn] 26))) := Lib.hid ((Keep.refl [] w).alloc _)
  obtain ⟨W1, hW1⟩ : ∃ W1, W1 = w.alloc (.cells #[.int .i8 it.kind, .slice a1 kids.length c1, .string it.desc, .string it.value, .string it.start, .slice a2 it.mids.length c2, .string it.fin, .string it.rule, .bool it.dn] 26) := ⟨_, rfl⟩
  have HB1' : Hid (W1.heap[w.heap.size]? = some (.cells #[.int .i8 it.kind, .slice a1 kids.length c1, .string it.desc, .string it.value, .string it.start, .slice a2 it.mids.length c2, .string it.fin, .string it.rule, .bool it.dn] 26 (0, 0))) := Lib.hid (by rw [hW1]; exact HB1.out)
  have HK1 : Hid (Keep [] w W1) := Lib.hid (by rw [hW1]; exact HKW.out)
  have HW1 := Lib.hid hW1
  clear hW1
  go_enter Tryz.func32, Tryz.ntmps32
  obtain ⟨x0, x1, x2, x3, x4, x5, x6, x7, x8, xf⟩ := nine HB1.out
  go_wp2_with fail
  rw [← HW1.out]
  clear x0 x1 x2 x3 x4 x5 x6 x7 x8 xf HB1 HKW HW1
  go_loopg [5, 1] (it.mids.length) (fun g i m wr => ∃ k : Nat, ∃ z : Int, k ≤ it.mids.length ∧ it.mids.length ≤ g + k ∧ i = .int .i64 k ∧ m = .int .i64 z ∧ -1125899906842624 ≤ z ∧ z ≤ 16777216 ∧ Hid (midsN (it.mids.drop k) z = M) ∧ Hid (Keep [] W1 wr))
  case atStart => exact ⟨0, n - 1 - it.desc.size - it.value.size - it.start.size - it.fin.size - it.rule.size, Nat.zero_le _, by omega, rfl, by go_num, HHD.out.1, by have := HHD.out.2; omega, HMM, Lib.hid (Keep.refl _ _)⟩
  case round =>
  obtain ⟨k1, z, hk1, hg1, rfl, rfl, hz1, hz2, HZ, HK0⟩ := hrel
  obtain ⟨x0, x1, x2, x3, x4, x5, x6, x7, x8, xf⟩ := nine (HK0.out.heap HB1'.out (by simp))
  rcases (show (k1 < it.mids.length ∧ 0 ≤ z) ∨ it.mids.length ≤ k1 ∨ (k1 < it.mids.length ∧ z < 0) by omega) with ⟨hlt1, hz0⟩ | he | ⟨hlt1, hz0⟩
  · obtain ⟨r, hr⟩ : ∃ r, it.mids[k1]? = some r := ⟨_, List.getElem?_eq_getElem hlt1⟩
    obtain ⟨mb, mo, rfl, hmb, hc⟩ := (HM.out.keep0 (HK1.out.trans HK0.out) hH).at hr
    have hrs : (r.size : Int) ≤ 140737488351232 := by have := HSM.out r (List.mem_of_getElem? hr); unfold topLen at this; omega
    have HZ' := Lib.hid (HZ.out.symm.trans (midsN_at hr hz0)).symm
    clear hr
    go_wp2_with fail
    go_roundg (it.mids.length - (k1 + 1))
    case measure => omega
    case rel => exact ⟨k1 + 1, z - 1 - r.size, by omega, by omega, by go_num, by go_num, by omega, by omega, Lib.hid HZ'.out.symm.symm, HK0⟩
  all_goals
    have HZM : Hid (z = M) := Lib.hid (by
      have h := HZ.out
      first
        | (rw [midsN_neg hz0] at h; exact h)
        | (rw [List.drop_of_length_le he] at h; exact h))
    go_wp2_with fail
    clear x0 x1 x2 x3 x4 x5 x6 x7 x8 xf HM
    go_loopg [6, 1] (kids.length) (fun g i m wr => ∃ k : Nat, ∃ z : Int, k ≤ kids.length ∧ kids.length ≤ g + k ∧ i = .int .i64 k ∧ m = .int .i64 z ∧ -1125899906842624 ≤ z ∧ z ≤ 16777216 ∧ Hid (leftK (kids.drop k) z = R) ∧ Hid (Keep [] W1 wr))
    case atStart => exact ⟨0, z, Nat.zero_le _, by omega, rfl, rfl, hz1, hz2, by rw [HZM.out]; exact HR, HK0⟩
    case round =>
      obtain ⟨k, z', hk, hg, rfl, rfl, hz1', hz2', HZ2, HK⟩ := hrel
      obtain ⟨x0, x1, x2, x3, x4, x5, x6, x7, x8, xf⟩ := nine (HK.out.heap HB1'.out (by simp))
      rcases (show (k < kids.length ∧ 0 ≤ z') ∨ kids.length ≤ k ∨ (k < kids.length ∧ z' < 0) by omega) with ⟨hlt, hzz⟩ | he2 | ⟨hlt, hzz⟩
      · obtain ⟨kb, ko, p1, q1, p2, q2, rfl, hF1, hc1⟩ := HKK.out wr (HK1.out.trans HK.out) k hlt
        have hI := HIH.out k hlt z' _ wr hzz hz2' (Nat.le_trans hH (HK1.out.trans HK.out).size) hF1
        have HZ' := Lib.hid ((leftK_at hlt hzz).symm.trans HZ2.out)
        have hrg := leftP_range kids[k] z' (HSK.out _ (List.getElem_mem hlt)) hzz
        obtain ⟨kid, hkid⟩ : ∃ kid, kids[k] = kid := ⟨_, rfl⟩
        rw [hkid] at hI hc1 HZ' hrg
        obtain ⟨f0, f1, f2, f3, f4, f5, f6, f7, f8⟩ := nine_row hc1
        have HI := Lib.hid hI
        obtain ⟨z2, hz2e⟩ : ∃ z2, leftP kid z' = z2 := ⟨_, rfl⟩
        rw [hz2e] at HI HZ' hrg
        clear hI hF1 hc1 hkid hz2e
        go_wp2_with (go_at_call 32; refine HI.out.mono ?_; rintro e w3 ⟨rfl, hK3⟩; have HK3 := Lib.hid (HK.out.trans hK3); clear hK3)
        go_roundg (kids.length - (k + 1))
        case measure => omega
        case rel => exact ⟨k + 1, z2, by omega, by omega, by go_num, rfl, hrg.1, by omega, HZ', HK3⟩
      all_goals
        have HZR : Hid (z' = R) := Lib.hid (by
          have h := HZ2.out
          first
            | (rw [leftK_neg hzz] at h; exact h)
            | (rw [List.drop_of_length_le he2] at h; rw [← h, leftK]))
        go_wp2_with fail
        go_ret
        exact ⟨by rw [HZR.out]; rfl, HK1.out.trans HK.out⟩

theorem left_any (H : Nat) : ∀ (m : Nat) (g : Flt) (vs : List Value) (n : Int) (w : World), weight g ≤ m → H ≤ w.heap.size → FltD w H g vs → SzOk g → 0 ≤ n → n ≤ 16777216 →
    Calls Tryz.prog 32 #[.agg vs.toArray, .int .i64 n] w (LeR w (leftP g n)) := by
  intro m
  induction m with
  | zero =>
    intro g vs n w hn
    cases g with | mk it ks => simp only [weight] at hn; omega
  | succ m ih =>
    intro g vs n w hn hH h1 hz h0 h2
    cases h1 with
    | mk it kids a1 c1 a2 c2 cs hm hml hkl hk hkid =>
      refine left_step H it kids a1 c1 a2 c2 cs n w hH hm hml hkl hk hkid hz h0 h2 fun i hi m vs W e1 e2 e3 e4 => ih kids[i] vs m W ?_ e3 e4 (hz.kids _ (List.getElem_mem hi)) e1 e2
      have := weight_kid kids i hi
      simp only [weight] at hn
      omega

/-- A filter's value in nine cells. -/
theorem heavy_any (H : Nat) (g : Flt) (a1 : Option Addr) (c1 : Nat) (a2 : Option Addr) (c2 : Nat) (w : World) (hH : H ≤ w.heap.size) (hF : FltD w H g (nineOf (.slice a1 g.kids.length c1) (.slice a2 g.it.mids.length c2) g.it)) (hz : SzOk g) :
    Calls Tryz.prog 17 #[.agg #[.int .i8 g.it.kind, .slice a1 g.kids.length c1, .string g.it.desc, .string g.it.value, .string g.it.start, .slice a2 g.it.mids.length c2, .string g.it.fin, .string g.it.rule, .bool g.it.dn]] w (RetB w (decide (leftP g 16777216 < 0))) := by
  have HB1 : Hid ((w.alloc (.cells #[.int .i8 g.it.kind, .slice a1 g.kids.length c1, .string g.it.desc, .string g.it.value, .string g.it.start, .slice a2 g.it.mids.length c2, .string g.it.fin, .string g.it.rule, .bool g.it.dn] 26)).heap[w.heap.size]? = some (.cells #[.int .i8 g.it.kind, .slice a1 g.kids.length c1, .string g.it.desc, .string g.it.value, .string g.it.start, .slice a2 g.it.mids.length c2, .string g.it.fin, .string g.it.rule, .bool g.it.dn] 26 (0, 0))) := Lib.hid (alloc_at w _)
  have hKW : Keep [] w (w.alloc (.cells #[.int .i8 g.it.kind, .slice a1 g.kids.length c1, .string g.it.desc, .string g.it.value, .string g.it.start, .slice a2 g.it.mids.length c2, .string g.it.fin, .string g.it.rule, .bool g.it.dn] 26)) := (Keep.refl [] w).alloc _
  have HI := Lib.hid (left_any H (weight g) g _ 16777216 _ (Nat.le_refl _) (Nat.le_trans hH hKW.size) (hF.keep hKW hH (by simp)) hz (by decide) (by decide))
  have HKW := Lib.hid hKW
  obtain ⟨z, hz⟩ : ∃ z, leftP g 16777216 = z := ⟨_, rfl⟩
  rw [hz] at HI ⊢
  unfold nineOf at HI
  clear hF hKW hz
  obtain ⟨x0, x1, x2, x3, x4, x5, x6, x7, x8, xf⟩ := nine HB1.out
  go_enter Tryz.func17, Tryz.ntmps17
  go_wp2_with (go_at_call 32; refine HI.out.mono ?_; rintro e w3 ⟨rfl, hK3⟩; have HK3 := Lib.hid (HKW.out.trans hK3); clear hK3)
  go_ret
  exact ⟨rfl, HK3.out⟩
end Go.Proofs.YtjmpcoedfoaebaaGreatDoor
