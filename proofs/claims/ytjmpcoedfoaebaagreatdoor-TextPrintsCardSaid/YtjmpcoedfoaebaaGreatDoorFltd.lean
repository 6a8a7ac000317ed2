/- The program's reader of filters: kids. -/
import Derived.Test.YtjmpcoedfoaebaaGreatDoorFltc
open Go Go.RowKit
namespace Go.Proofs.YtjmpcoedfoaebaaGreatDoor

theorem Tryz.infoFlt : (Tryz.prog.info? 26).map (fun i => (i.zero, i.size, i.bytes)) = some (some (.agg #[.int .i8 0, .slice none 0 0, .string ⟨#[]⟩, .string ⟨#[]⟩, .string ⟨#[]⟩, .slice none 0 0, .string ⟨#[]⟩, .string ⟨#[]⟩, .bool false]), 9, 144) := by kernel_rfl

def KdRel (b : Nat) (s : ByteArray) (kd : Int) (rem : Nat) (w : World) (R : Except (Int × Nat) (List Flt × Nat × Nat)) (k : Nat) (wr : World) : Prop :=
  ∃ j q acc kv, j ≤ s.size ∧ s.size < j + k ∧ q ≤ 65536 ∧ acc.length ≤ j ∧ Rd wr b s j q ∧ wr.heap[w.heap.size]? = some (.cells #[.int .i8 kd, kv, .string ⟨#[]⟩, .string ⟨#[]⟩, .string ⟨#[]⟩, .slice none 0 0, .string ⟨#[]⟩, .string ⟨#[]⟩, .bool false] 26 (0, 0)) ∧
    KidsR wr (w.heap.size + 1) wr.heap.size acc kv ∧ Keep [b] w wr ∧ kidsP (filterP s rem) s kd k j q acc = R
theorem kidsP_err {f : Nat → Nat → Except (Int × Nat) (Flt × Nat × Nat)} {s : ByteArray} {kd : Int} {k i p : Nat} {acc : List Flt} {e : Int × Nat} (h : f i p = .error e) : kidsP f s kd (k + 1) i p acc = .error e := by rw [kidsP, h]
theorem kidsP_ok1 {f : Nat → Nat → Except (Int × Nat) (Flt × Nat × Nat)} {s : ByteArray} {kd : Int} {k i p : Nat} {acc : List Flt} {g : Flt} {j q : Nat} (h : f i p = .ok (g, j, q)) :
    kidsP f s kd (k + 1) i p acc = if kd = 2 ∨ peekB s j ≠ 40 then .ok (acc ++ [g], j, q) else kidsP f s kd k j q (acc ++ [g]) := by rw [kidsP, h]
theorem owns_inj {w : World} {N : Nat} {T : TypeId} {z : Nat} {v : Value} {n : Nat} {xs ys : List Value} (h : w.ownsRow N T z v n xs) (g : w.ownsRow N T z v n ys) : xs = ys := by
  rcases h.2 with ⟨h1, h2⟩ | ⟨g1, cap1, cur1, e1, _, hb1, _, _, _, t1⟩
  · have a1 := h.1
    have a2 := g.1
    rw [h2, Nat.zero_mul] at a1 a2
    rw [List.length_eq_zero_iff.1 a1, List.length_eq_zero_iff.1 a2]
  · rcases g.2 with ⟨h1, h2⟩ | ⟨g2, cap2, cur2, e2, _, hb2, _, _, _, t2⟩
    · rw [h1] at e1; cases e1
    · rw [e1] at e2
      cases e2
      rw [hb1] at hb2
      cases hb2
      rw [← t1, ← t2]
/-- The cells of an own row's last element, each; all may be written. -/
theorem owns_tail {w : World} {N g cap n z : Nat} {T : TypeId} {xs zs : List Value} (h : w.ownsRow N T z (.slice (some ⟨g, 0, none⟩) (n + 1) cap) (n + 1) (xs ++ zs)) (hx : xs.length = n * z) :
    (∀ j u, zs[j]? = some u → w.cell? ⟨g, n * z + j, none⟩ = some u) ∧ ∀ j, w.frozen? ⟨g, j, none⟩ = false := by
  constructor
  · intro j u hj
    have := h.cells (g := g) rfl (n * z + j) u (by rw [List.getElem?_append_right (by omega), hx, Nat.add_sub_cancel_left]; exact hj)
    rw [Addr.add_mid, Nat.zero_add] at this
    exact this
  · intro j
    rcases h.2 with ⟨h1, _⟩ | ⟨g1, cap1, cur1, e1, _, hb1, _⟩
    · cases h1
    · cases e1
      exact free_of hb1 j
theorem owns_heap {w w' : World} {N : Nat} {T : TypeId} {z : Nat} {v : Value} {n : Nat} {xs : List Value} (h : w.ownsRow N T z v n xs) (hg : ∀ g, v.ownBlock = some g → w'.heap[g]? = w.heap[g]?) : w'.ownsRow N T z v n xs := by
  refine ⟨h.1, ?_⟩
  rcases h.2 with hn | ⟨g, cap, cur, rfl, hb, hq, rest⟩
  · exact .inl hn
  · exact .inr ⟨g, cap, cur, rfl, hb, (hg g rfl).trans hq, rest⟩
/-- One kid more: the row has grown, the kid stands in its last element, the variable holds the new row. -/
theorem kids_step {w W1 w1 W' : World} {b : Nat} {s : ByteArray} {kd : Int} {j q hi mid gg cap : Nat} {acc : List Flt} {g : Flt} {kv : Value} {XS vs zs : List Value} {zo : Obj}
    (hblt : b < w.heap.size) (hR : Rd W1 b s j q) (hK : Keep [b] w W1) (hB : W1.heap[w.heap.size]? = some (.cells #[.int .i8 kd, kv, .string ⟨#[]⟩, .string ⟨#[]⟩, .string ⟨#[]⟩, .slice none 0 0, .string ⟨#[]⟩, .string ⟨#[]⟩, .bool false] 26 (0, 0)))
    (hQ : KidsR W1 (w.heap.size + 1) hi acc kv) (hG : FltR W1 hi mid g vs) (h1 : w.heap.size < hi) (h2 : hi ≤ mid) (h3 : mid ≤ W1.heap.size)
    (hO : W1.ownsRow (w.heap.size + 1) 26 9 kv acc.length XS) (hgr : (W1.alloc zo).grownBy w1 kv.ownBlock) (hz : zs.length = 9)
    (hown : w1.ownsRow (w.heap.size + 1) 26 9 (.slice (some ⟨gg, 0, none⟩) (acc.length + 1) cap) (acc.length + 1) (XS ++ zs)) (hat : kv.ownBlock = some gg ∨ gg = W1.heap.size + 1)
    (hK' : Keep [gg, w.heap.size] w1 W') (ha : W'.heap[gg]? = (w1.setCells gg (acc.length * 9) vs).heap[gg]?) (hb : W'.heap[w.heap.size]? = (w1.setCell ⟨w.heap.size, 1, none⟩ (.slice (some ⟨gg, 0, none⟩) (acc.length + 1) cap)).heap[w.heap.size]?) :
    ∃ kv', Hid (Rd W' b s j q) ∧ Hid (Keep [b] w W') ∧ Hid (W'.heap[w.heap.size]? = some (.cells #[.int .i8 kd, kv', .string ⟨#[]⟩, .string ⟨#[]⟩, .string ⟨#[]⟩, .slice none 0 0, .string ⟨#[]⟩, .string ⟨#[]⟩, .bool false] 26 (0, 0))) ∧ Hid (KidsR W' (w.heap.size + 1) W'.heap.size (acc ++ [g]) kv') := by
  have hown2 := (hown.lt gg rfl).1
  have hkv : ∀ k, kv.ownBlock = some k → w.heap.size < k ∧ k < hi := fun k hk => ⟨(hO.lt k hk).1, by obtain ⟨L, H, cs, _, hkh, _⟩ := hQ; exact hkh k hk⟩
  have hNlt := lt_of_block hB
  obtain ⟨S, hS1, hS2⟩ : ∃ S : List Nat, (∀ k, kv.ownBlock = some k → k ∈ S) ∧ ∀ k ∈ S, kv.ownBlock = some k := by
    cases hk : kv.ownBlock with
    | none => exact ⟨[], (fun k h => by cases h), (fun k h => by cases h)⟩
    | some k => exact ⟨[k], (fun x h => by cases h; simp), (fun x h => by simp at h; rw [h])⟩
  have hW1w1 : Keep S W1 w1 := ((Keep.refl S W1).alloc zo).grown hgr fun k hk => .inl (hS1 k hk)
  have hsz := hW1w1.size
  have hKa : Keep (w.heap.size :: S) W1 W' := by
    refine (hW1w1.mono (S' := w.heap.size :: S) (fun x hx => .inl (by simp [hx]))).transTo hK' ?_
    intro x hx
    simp at hx
    rcases hx with rfl | rfl
    · rcases hat with h | h
      · exact .inl (by simp [hS1 _ h])
      · exact .inr (by omega)
    · exact .inl (by simp)
  refine ⟨.slice (some ⟨gg, 0, none⟩) (acc.length + 1) cap, Lib.hid (hR.keep hKa ?_), Lib.hid (hK.transTo hKa ?_), Lib.hid (hb.trans (setCell_at (hW1w1.heap hB ?_) 1 _)), Lib.hid ?_⟩
  · intro hm
    rcases List.mem_cons.1 hm with h | h
    · omega
    · have := hkv b (hS2 b h); omega
  · intro x hx
    rcases List.mem_cons.1 hx with h | h
    · exact .inr (by omega)
    · exact .inr (by have := hkv x (hS2 x h); omega)
  · intro hm
    have := hkv _ (hS2 _ hm); omega
  · refine KidsR.snoc hQ (hi := hi) (mid := mid) (vs := vs) ?_ hKa.os hKa.tape hKa.output hKa.size (by omega) (hG.keep hKa ?_) h2 (Nat.le_trans h3 hKa.size) (by omega) ?_ ?_
    · intro k hk1 hk2 hk3
      exact hKa.block k (by omega) fun hm => by
        rcases List.mem_cons.1 hm with h | h
        · omega
        · exact hk3 (hS2 k h)
    · intro x hx
      rcases List.mem_cons.1 hx with h | h
      · omega
      · have := hkv x (hS2 x h); omega
    · intro xs hxs
      obtain rfl := owns_inj hxs hO
      exact owns_heap (owns_last hown hO.1 hz hG.len) fun g' hg' => by cases hg'; exact ha
    · intro k hk
      obtain rfl : gg = k := Option.some.inj hk
      rcases hat with h | h
      · exact .inl h
      · exact .inr (by omega)
theorem kids_stepA {w W1 w1 : World} {b : Nat} {s : ByteArray} {kd : Int} {j q hi mid gg cap : Nat} {acc : List Flt} {g : Flt} {kv : Value} {XS zs : List Value} {c0 c1 c2 c3 c4 c5 c6 c7 c8 : Value} {zo : Obj}
    (hblt : b < w.heap.size) (hR : Rd W1 b s j q) (hK : Keep [b] w W1) (hB : W1.heap[w.heap.size]? = some (.cells #[.int .i8 kd, kv, .string ⟨#[]⟩, .string ⟨#[]⟩, .string ⟨#[]⟩, .slice none 0 0, .string ⟨#[]⟩, .string ⟨#[]⟩, .bool false] 26 (0, 0)))
    (hQ : KidsR W1 (w.heap.size + 1) hi acc kv) (hG : FltR W1 hi mid g [c0, c1, c2, c3, c4, c5, c6, c7, c8]) (h1 : w.heap.size < hi) (h2 : hi ≤ mid) (h3 : mid ≤ W1.heap.size)
    (hO : W1.ownsRow (w.heap.size + 1) 26 9 kv acc.length XS) (hgr : (W1.alloc zo).grownBy w1 kv.ownBlock) (hz : zs.length = 9)
    (hown : w1.ownsRow (w.heap.size + 1) 26 9 (.slice (some ⟨gg, 0, none⟩) (acc.length + 1) cap) (acc.length + 1) (XS ++ zs)) (hat : kv.ownBlock = some gg ∨ gg = W1.heap.size + 1) :
    ∃ kv', Hid (Rd ((((((((((w1.setCell ⟨gg, acc.length * 9, none⟩ c0).setCell ⟨gg, acc.length * 9 + 1, none⟩ c1).setCell ⟨gg, acc.length * 9 + 2, none⟩ c2).setCell ⟨gg, acc.length * 9 + 3, none⟩ c3).setCell ⟨gg, acc.length * 9 + 4, none⟩ c4).setCell ⟨gg, acc.length * 9 + 5, none⟩ c5).setCell ⟨gg, acc.length * 9 + 6, none⟩ c6).setCell ⟨gg, acc.length * 9 + 7, none⟩ c7).setCell ⟨gg, acc.length * 9 + 8, none⟩ c8).setCell ⟨w.heap.size, 1, none⟩ (.slice (some ⟨gg, 0, none⟩) (acc.length + 1) cap)) b s j q) ∧ Hid (Keep [b] w ((((((((((w1.setCell ⟨gg, acc.length * 9, none⟩ c0).setCell ⟨gg, acc.length * 9 + 1, none⟩ c1).setCell ⟨gg, acc.length * 9 + 2, none⟩ c2).setCell ⟨gg, acc.length * 9 + 3, none⟩ c3).setCell ⟨gg, acc.length * 9 + 4, none⟩ c4).setCell ⟨gg, acc.length * 9 + 5, none⟩ c5).setCell ⟨gg, acc.length * 9 + 6, none⟩ c6).setCell ⟨gg, acc.length * 9 + 7, none⟩ c7).setCell ⟨gg, acc.length * 9 + 8, none⟩ c8).setCell ⟨w.heap.size, 1, none⟩ (.slice (some ⟨gg, 0, none⟩) (acc.length + 1) cap))) ∧ Hid (((((((((((w1.setCell ⟨gg, acc.length * 9, none⟩ c0).setCell ⟨gg, acc.length * 9 + 1, none⟩ c1).setCell ⟨gg, acc.length * 9 + 2, none⟩ c2).setCell ⟨gg, acc.length * 9 + 3, none⟩ c3).setCell ⟨gg, acc.length * 9 + 4, none⟩ c4).setCell ⟨gg, acc.length * 9 + 5, none⟩ c5).setCell ⟨gg, acc.length * 9 + 6, none⟩ c6).setCell ⟨gg, acc.length * 9 + 7, none⟩ c7).setCell ⟨gg, acc.length * 9 + 8, none⟩ c8).setCell ⟨w.heap.size, 1, none⟩ (.slice (some ⟨gg, 0, none⟩) (acc.length + 1) cap)).heap[w.heap.size]? = some (.cells #[.int .i8 kd, kv', .string ⟨#[]⟩, .string ⟨#[]⟩, .string ⟨#[]⟩, .slice none 0 0, .string ⟨#[]⟩, .string ⟨#[]⟩, .bool false] 26 (0, 0))) ∧ Hid (KidsR ((((((((((w1.setCell ⟨gg, acc.length * 9, none⟩ c0).setCell ⟨gg, acc.length * 9 + 1, none⟩ c1).setCell ⟨gg, acc.length * 9 + 2, none⟩ c2).setCell ⟨gg, acc.length * 9 + 3, none⟩ c3).setCell ⟨gg, acc.length * 9 + 4, none⟩ c4).setCell ⟨gg, acc.length * 9 + 5, none⟩ c5).setCell ⟨gg, acc.length * 9 + 6, none⟩ c6).setCell ⟨gg, acc.length * 9 + 7, none⟩ c7).setCell ⟨gg, acc.length * 9 + 8, none⟩ c8).setCell ⟨w.heap.size, 1, none⟩ (.slice (some ⟨gg, 0, none⟩) (acc.length + 1) cap)) (w.heap.size + 1) ((((((((((w1.setCell ⟨gg, acc.length * 9, none⟩ c0).setCell ⟨gg, acc.length * 9 + 1, none⟩ c1).setCell ⟨gg, acc.length * 9 + 2, none⟩ c2).setCell ⟨gg, acc.length * 9 + 3, none⟩ c3).setCell ⟨gg, acc.length * 9 + 4, none⟩ c4).setCell ⟨gg, acc.length * 9 + 5, none⟩ c5).setCell ⟨gg, acc.length * 9 + 6, none⟩ c6).setCell ⟨gg, acc.length * 9 + 7, none⟩ c7).setCell ⟨gg, acc.length * 9 + 8, none⟩ c8).setCell ⟨w.heap.size, 1, none⟩ (.slice (some ⟨gg, 0, none⟩) (acc.length + 1) cap)).heap.size (acc ++ [g]) kv') := by
  have hne : gg ≠ w.heap.size := by have := (hown.lt gg rfl).1; omega
  exact kids_step (W' := (w1.setCells gg (acc.length * 9) [c0, c1, c2, c3, c4, c5, c6, c7, c8]).setCell ⟨w.heap.size, 1, none⟩ (.slice (some ⟨gg, 0, none⟩) (acc.length + 1) cap)) hblt hR hK hB hQ hG h1 h2 h3 hO hgr hz hown hat
    ((setCells_keep (b := gg) (.inl (by simp)) _ _ w1 (Keep.refl _ _)).setCell _ _ (.inl (by simp))) (setCell_ne _ hne)
    (by
      have h4 := lt_of_block hB
      have h5 : w1.heap[w.heap.size]? = W1.heap[w.heap.size]? := (hgr.block _ (by simp; omega) (fun e => by have := (hO.lt _ e.symm).1; omega)).trans (heap_alloc_old W1 _ h4)
      have h6 := h5.trans hB
      exact (setCell_at ((setCells_ne (Ne.symm hne) _ _ w1).trans h6) 1 _).trans (setCell_at h6 1 _).symm)
theorem kids_stepB {w W1 w1 : World} {b : Nat} {s : ByteArray} {kd : Int} {j q hi mid gg cap : Nat} {acc : List Flt} {g : Flt} {kv : Value} {XS zs : List Value} {c0 c1 c2 c3 c4 c5 c6 c7 c8 : Value} {zo : Obj}
    (hblt : b < w.heap.size) (hR : Rd W1 b s j q) (hK : Keep [b] w W1) (hB : W1.heap[w.heap.size]? = some (.cells #[.int .i8 kd, kv, .string ⟨#[]⟩, .string ⟨#[]⟩, .string ⟨#[]⟩, .slice none 0 0, .string ⟨#[]⟩, .string ⟨#[]⟩, .bool false] 26 (0, 0)))
    (hQ : KidsR W1 (w.heap.size + 1) hi acc kv) (hG : FltR W1 hi mid g [c0, c1, c2, c3, c4, c5, c6, c7, c8]) (h1 : w.heap.size < hi) (h2 : hi ≤ mid) (h3 : mid ≤ W1.heap.size)
    (hO : W1.ownsRow (w.heap.size + 1) 26 9 kv acc.length XS) (hgr : (W1.alloc zo).grownBy w1 kv.ownBlock) (hz : zs.length = 9)
    (hown : w1.ownsRow (w.heap.size + 1) 26 9 (.slice (some ⟨gg, 0, none⟩) (acc.length + 1) cap) (acc.length + 1) (XS ++ zs)) (hat : kv.ownBlock = some gg ∨ gg = W1.heap.size + 1) :
    ∃ kv', Hid (Rd ((((((((((w1.setCell ⟨w.heap.size, 1, none⟩ (.slice (some ⟨gg, 0, none⟩) (acc.length + 1) cap)).setCell ⟨gg, acc.length * 9, none⟩ c0).setCell ⟨gg, acc.length * 9 + 1, none⟩ c1).setCell ⟨gg, acc.length * 9 + 2, none⟩ c2).setCell ⟨gg, acc.length * 9 + 3, none⟩ c3).setCell ⟨gg, acc.length * 9 + 4, none⟩ c4).setCell ⟨gg, acc.length * 9 + 5, none⟩ c5).setCell ⟨gg, acc.length * 9 + 6, none⟩ c6).setCell ⟨gg, acc.length * 9 + 7, none⟩ c7).setCell ⟨gg, acc.length * 9 + 8, none⟩ c8) b s j q) ∧ Hid (Keep [b] w ((((((((((w1.setCell ⟨w.heap.size, 1, none⟩ (.slice (some ⟨gg, 0, none⟩) (acc.length + 1) cap)).setCell ⟨gg, acc.length * 9, none⟩ c0).setCell ⟨gg, acc.length * 9 + 1, none⟩ c1).setCell ⟨gg, acc.length * 9 + 2, none⟩ c2).setCell ⟨gg, acc.length * 9 + 3, none⟩ c3).setCell ⟨gg, acc.length * 9 + 4, none⟩ c4).setCell ⟨gg, acc.length * 9 + 5, none⟩ c5).setCell ⟨gg, acc.length * 9 + 6, none⟩ c6).setCell ⟨gg, acc.length * 9 + 7, none⟩ c7).setCell ⟨gg, acc.length * 9 + 8, none⟩ c8)) ∧ Hid (((((((((((w1.setCell ⟨w.heap.size, 1, none⟩ (.slice (some ⟨gg, 0, none⟩) (acc.length + 1) cap)).setCell ⟨gg, acc.length * 9, none⟩ c0).setCell ⟨gg, acc.length * 9 + 1, none⟩ c1).setCell ⟨gg, acc.length * 9 + 2, none⟩ c2).setCell ⟨gg, acc.length * 9 + 3, none⟩ c3).setCell ⟨gg, acc.length * 9 + 4, none⟩ c4).setCell ⟨gg, acc.length * 9 + 5, none⟩ c5).setCell ⟨gg, acc.length * 9 + 6, none⟩ c6).setCell ⟨gg, acc.length * 9 + 7, none⟩ c7).setCell ⟨gg, acc.length * 9 + 8, none⟩ c8).heap[w.heap.size]? = some (.cells #[.int .i8 kd, kv', .string ⟨#[]⟩, .string ⟨#[]⟩, .string ⟨#[]⟩, .slice none 0 0, .string ⟨#[]⟩, .string ⟨#[]⟩, .bool false] 26 (0, 0))) ∧ Hid (KidsR ((((((((((w1.setCell ⟨w.heap.size, 1, none⟩ (.slice (some ⟨gg, 0, none⟩) (acc.length + 1) cap)).setCell ⟨gg, acc.length * 9, none⟩ c0).setCell ⟨gg, acc.length * 9 + 1, none⟩ c1).setCell ⟨gg, acc.length * 9 + 2, none⟩ c2).setCell ⟨gg, acc.length * 9 + 3, none⟩ c3).setCell ⟨gg, acc.length * 9 + 4, none⟩ c4).setCell ⟨gg, acc.length * 9 + 5, none⟩ c5).setCell ⟨gg, acc.length * 9 + 6, none⟩ c6).setCell ⟨gg, acc.length * 9 + 7, none⟩ c7).setCell ⟨gg, acc.length * 9 + 8, none⟩ c8) (w.heap.size + 1) ((((((((((w1.setCell ⟨w.heap.size, 1, none⟩ (.slice (some ⟨gg, 0, none⟩) (acc.length + 1) cap)).setCell ⟨gg, acc.length * 9, none⟩ c0).setCell ⟨gg, acc.length * 9 + 1, none⟩ c1).setCell ⟨gg, acc.length * 9 + 2, none⟩ c2).setCell ⟨gg, acc.length * 9 + 3, none⟩ c3).setCell ⟨gg, acc.length * 9 + 4, none⟩ c4).setCell ⟨gg, acc.length * 9 + 5, none⟩ c5).setCell ⟨gg, acc.length * 9 + 6, none⟩ c6).setCell ⟨gg, acc.length * 9 + 7, none⟩ c7).setCell ⟨gg, acc.length * 9 + 8, none⟩ c8).heap.size (acc ++ [g]) kv') := by
  have hne : gg ≠ w.heap.size := by have := (hown.lt gg rfl).1; omega
  exact kids_step (W' := (w1.setCell ⟨w.heap.size, 1, none⟩ (.slice (some ⟨gg, 0, none⟩) (acc.length + 1) cap)).setCells gg (acc.length * 9) [c0, c1, c2, c3, c4, c5, c6, c7, c8]) hblt hR hK hB hQ hG h1 h2 h3 hO hgr hz hown hat
    (setCells_keep (b := gg) (.inl (by simp)) _ _ _ ((Keep.refl _ w1).setCell _ _ (.inl (by simp))))
    (by
      rcases hown.2 with ⟨h, _⟩ | ⟨g', cap', cur, he, hb, hg, hn, hc, hs, ht⟩
      · cases h
      · cases he
        have hl := hown.1
        have h9 := hO.1
        have hcap : (acc.length + 1) * 9 ≤ cap * 9 := Nat.mul_le_mul_right 9 hn
        obtain ⟨cu1, e1, e2⟩ := setCells_block [c0, c1, c2, c3, c4, c5, c6, c7, c8] (acc.length * 9) w1 cur hg (by simp; omega)
        obtain ⟨cu2, e3, e4⟩ := setCells_block [c0, c1, c2, c3, c4, c5, c6, c7, c8] (acc.length * 9) (w1.setCell ⟨w.heap.size, 1, none⟩ (.slice (some ⟨gg, 0, none⟩) (acc.length + 1) cap)) cur ((setCell_ne _ hne).trans hg) (by simp; omega)
        rw [e1, e3, Array.toList_inj.1 (e4.trans e2.symm)]) (setCells_ne (Ne.symm hne) _ _ _)
theorem KidsR.slice {w : World} {lo hi : Nat} {kids : List Flt} {kv : Value} (h : KidsR w lo hi kids kv) : ∃ a c, kv = .slice a kids.length c := by
  obtain ⟨L, H, cs, hk, _⟩ := h
  exact owns_slice hk

end Go.Proofs.YtjmpcoedfoaebaaGreatDoor
