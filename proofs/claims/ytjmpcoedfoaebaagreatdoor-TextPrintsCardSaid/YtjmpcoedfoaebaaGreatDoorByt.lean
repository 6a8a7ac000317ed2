/- Rows of bytes of a call's own; their texts. -/
import Derived.Test.YtjmpcoedfoaebaaGreatDoorVal
import Derived.Lib.AppendStr
import Derived.Lib.UnsafeStr
open Go Go.RowKit
namespace Go.Proofs.YtjmpcoedfoaebaaGreatDoor

theorem Tryz.infoU8 : (Tryz.prog.info? 5).map (fun i => (i.zero, i.size, i.bytes)) = some (some (.int .u8 0), 1, 1) := by kernel_rfl
theorem info_partsV {o : Option TypeInfo} {z : Option Value} {a b : Nat} (h : o.map (fun i => (i.zero, i.size, i.bytes)) = some (z, a, b)) : ∃ i, o = some i ∧ i.zero = z ∧ i.size = a ∧ i.bytes = b := by
  obtain ⟨i, hi, he⟩ := Option.map_eq_some_iff.1 h
  simp only [Prod.mk.injEq] at he
  exact ⟨i, hi, he.1, he.2.1, he.2.2⟩
theorem own_keepV {S : List Nat} {N : Nat} {T : TypeId} {z : Nat} {v : Value} {n : Nat} {xs : List Value} {w w' : World} (h : w.ownsRow N T z v n xs) (k : Keep S w w') (hS : ∀ x ∈ S, x < N) : w'.ownsRow N T z v n xs := by
  refine ⟨h.1, ?_⟩
  rcases h.2 with hn | ⟨g, cap, cur, rfl, hb, hg, rest⟩
  · exact .inl hn
  · exact .inr ⟨g, cap, cur, rfl, hb, k.heap hg (fun hm => by have := hS g hm; omega), rest⟩
theorem own_ge {N : Nat} {T : TypeId} {z : Nat} {v : Value} {n : Nat} {xs : List Value} {w : World} (h : w.ownsRow N T z v n xs) {k : Nat} (hk : v.ownBlock = some k) : N ≤ k := by
  rcases h.2 with ⟨rfl, _⟩ | ⟨g, cap, cur, rfl, hb, _⟩
  · cases hk
  · cases hk; exact hb
theorem own_form {N : Nat} {T : TypeId} {z : Nat} {v : Value} {n : Nat} {xs : List Value} {w : World} (h : w.ownsRow N T z v n xs) : ∃ ad cap, v = .slice ad n cap := by
  rcases h.2 with ⟨rfl, rfl⟩ | ⟨g, cap, cur, rfl, _⟩
  · exact ⟨_, _, rfl⟩
  · exact ⟨_, _, rfl⟩
theorem conv_owns {w : World} {base n : Nat} {v : Value} (l : List UInt8) (h : w.ownsRow base 5 1 v n (Lib.byteCells l)) :
    (convert 49 9 v).run Tryz.prog w = .ok (.string ⟨l.toArray⟩) w := by
  have hn : n = l.length := by have := h.1; rw [Lib.byteCells_length] at this; omega
  subst hn
  rcases h.2 with ⟨rfl, h0⟩ | ⟨g, cap, cur, rfl, hb, hg, hn, hc, hs, ht⟩
  · obtain rfl : l = [] := List.length_eq_zero_iff.1 h0
    rw [run_convert_bytes_string w 49 9 5 none 0 0 Tryz.underlying49 Tryz.underlying5 Tryz.underlying9]
    rfl
  · exact run_convert_bytes_back w 49 9 5 ⟨g, 0, none⟩ cap l Tryz.underlying49 Tryz.underlying5 Tryz.underlying9 (fun j hj => h.cells (g := g) rfl j _ (by simp [Lib.byteCells, List.getElem?_eq_getElem hj]))
/-- A part of a row of bytes, as a text. -/
theorem conv_part {w : World} {base n g cap : Nat} (l : List UInt8) (h : w.ownsRow base 5 1 (.slice (some ⟨g, 0, none⟩) n cap) n (Lib.byteCells l)) (o m c : Nat) (hm : o + m ≤ l.length) :
    (convert 49 9 (.slice (some ⟨g, o, none⟩) m c)).run Tryz.prog w = .ok (.string ⟨((l.drop o).take m).toArray⟩) w := by
  have hl : ((l.drop o).take m).length = m := by rw [List.length_take, List.length_drop]; omega
  have h1 := run_convert_bytes_back (P := Tryz.prog) w 49 9 5 ⟨g, o, none⟩ c ((l.drop o).take m) Tryz.underlying49 Tryz.underlying5 Tryz.underlying9 (fun j hj => by
    have hj' : j < m := by rw [← hl]; exact hj
    have h2 := h.cells (g := g) rfl (o + j) (.int .u8 (((l.drop o).take m)[j].toNat : Int)) (by
      have h3 : (Lib.byteCells l)[o + j]? = (l[o + j]?).map (fun c => Value.int .u8 (c.toNat : Int)) := by simp [Lib.byteCells]
      rw [h3, List.getElem?_eq_getElem (by omega)]
      simp)
    have e : (⟨g, o, none⟩ : Addr).add j = (⟨g, 0, none⟩ : Addr).add (o + j) := by
      unfold Addr.add
      by_cases h0 : j = 0
      · subst h0
        by_cases h1 : o = 0
        · subst h1; rfl
        · rw [if_pos rfl, if_neg (by omega)]; simp
      · rw [if_neg h0, if_neg (by omega)]; simp
    rw [e]
    exact h2)
  rw [hl] at h1
  exact h1
/-- A row that is not empty lies in a block. -/
theorem own_block {N : Nat} {T : TypeId} {z : Nat} {v : Value} {n : Nat} {xs : List Value} {w : World} (h : w.ownsRow N T z v n xs) (hn : 0 < n) : ∃ g cap, v = .slice (some ⟨g, 0, none⟩) n cap ∧ N ≤ g := by
  rcases h.2 with ⟨rfl, rfl⟩ | ⟨g, cap, cur, rfl, hb, _⟩
  · omega
  · exact ⟨g, cap, rfl, hb⟩
end Go.Proofs.YtjmpcoedfoaebaaGreatDoor
