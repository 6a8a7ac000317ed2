/- text.writer: add. -/
import Derived.Test.YtjmpcoedfoaebaaGreatDoorEsc
import Derived.Test.YtjmpcoedfoaebaaGreatDoorFltx
import Derived.Deep.LoopGhost
open Go Go.RowKit
namespace Go.Proofs.YtjmpcoedfoaebaaGreatDoor

theorem Tryz.infoByte : (Tryz.prog.info? 5).map (fun i => (i.zero, i.size, i.bytes)) = some (some (.int .u8 0), 1, 1) := by kernel_rfl
/-- The program's writer: its row of bytes is the call's own. -/
def WrAt (w : World) (N xb : Nat) (v : Value) (l : List UInt8) : Prop := w.heap[xb]? = some (.cells #[v] 68 (0, 0)) ∧ w.ownsRow N 5 1 v l.length (Lib.byteCells l)
/-- All but the writer and its row is as it was; the row is the old one or new. -/
structure WKeep (xb : Nat) (v v' : Value) (w w' : World) : Prop where
  os : w'.os = w.os
  tape : w'.tape = w.tape
  output : w'.output = w.output
  size : w.heap.size ≤ w'.heap.size
  block : ∀ k, k < w.heap.size → k ≠ xb → v.ownBlock ≠ some k → w'.heap[k]? = w.heap[k]?
  own : ∀ k, v'.ownBlock = some k → v.ownBlock = some k ∨ w.heap.size ≤ k
theorem WKeep.refl (xb : Nat) (v : Value) (w : World) : WKeep xb v v w w := ⟨rfl, rfl, rfl, Nat.le_refl _, fun _ _ _ _ => rfl, fun _ h => .inl h⟩
theorem WKeep.trans {xb : Nat} {v v' v'' : Value} {w w' w'' : World} (h : WKeep xb v v' w w') (g : WKeep xb v' v'' w' w'') : WKeep xb v v'' w w'' :=
  ⟨g.os.trans h.os, g.tape.trans h.tape, g.output.trans h.output, Nat.le_trans h.size g.size, fun k hk h1 h2 => (g.block k (Nat.lt_of_lt_of_le hk h.size) h1 (fun h3 => by
    rcases h.own k h3 with h4 | h4
    · exact h2 h4
    · omega)).trans (h.block k hk h1 h2), fun k hk => by
    rcases g.own k hk with h4 | h4
    · exact h.own k h4
    · exact .inr (Nat.le_trans h.size h4)⟩
theorem WKeep.keep0 {xb : Nat} {v v' : Value} {w w' w'' : World} (h : WKeep xb v v' w w') (k : Keep [] w' w'') : WKeep xb v v' w w'' :=
  h.trans ⟨k.os, k.tape, k.output, k.size, fun j hj _ _ => k.block j hj (by simp), fun _ h => .inl h⟩
theorem WKeep.of0 {xb : Nat} {v : Value} {w w' : World} (k : Keep [] w w') : WKeep xb v v w w' := (WKeep.refl xb v w).keep0 k
theorem WKeep.heap {xb : Nat} {v v' : Value} {w w' : World} {o : Obj} {k : Nat} (h : WKeep xb v v' w w') (hk : w.heap[k]? = some o) (h1 : k ≠ xb) (h2 : v.ownBlock ≠ some k) : w'.heap[k]? = some o := (h.block k (lt_of_block hk) h1 h2).trans hk
theorem WrAt.keep0 {w w' : World} {N xb : Nat} {v : Value} {l : List UInt8} (h : WrAt w N xb v l) (k : Keep [] w w') : WrAt w' N xb v l := ⟨k.heap h.1 (by simp), owns_keep2 h.2 k (fun _ _ => by simp)⟩
theorem WrAt.ne {w : World} {N xb : Nat} {v : Value} {l : List UInt8} (h : WrAt w N xb v l) (hN : xb < N) : v.ownBlock ≠ some xb := fun e => by have := (h.2.lt xb e).1; omega
def catL (ls : List ByteArray) : List UInt8 := (ls.map (·.data.toList)).flatten
/-- What add has done. -/
def AddR (N xb : Nat) (v : Value) (l : List UInt8) (w : World) (e : Ending) (w' : World) : Prop := e = .returned (.bool (decide (l.length ≤ 1048576))) ∧ ∃ v', WrAt w' N xb v' l ∧ WKeep xb v v' w w'
theorem catL_snoc (ls : List ByteArray) (k : Nat) (r : ByteArray) (h : ls[k]? = some r) : catL (ls.take (k + 1)) = catL (ls.take k) ++ r.data.toList := by
  obtain ⟨hk, rfl⟩ := List.getElem?_eq_some_iff.1 h
  unfold catL
  rw [List.take_succ_eq_append_getElem hk, List.map_append, List.flatten_append]
  simp only [List.map_cons, List.map_nil, List.flatten_cons, List.flatten_nil, List.append_nil]
theorem catL_le (ls : List ByteArray) (k : Nat) : (catL (ls.take k)).length ≤ (catL ls).length := by
  unfold catL
  conv => rhs; rw [← List.take_append_drop k ls]
  rw [List.map_append, List.flatten_append, List.length_append]
  omega
/-- The texts that are handed over. -/
def Rows (w : World) (xb : Nat) (v : Value) (a : Option Addr) (ls : List ByteArray) : Prop :=
  ls = [] ∨ ∃ lb, a = some ⟨lb, 0, none⟩ ∧ lb ≠ xb ∧ v.ownBlock ≠ some lb ∧ lb < w.heap.size ∧ ∀ k r, ls[k]? = some r → w.cell? ⟨lb, k, none⟩ = some (.string r)

/-- append of a string's bytes, and where the new row lies. -/
theorem run_append_string_lies {P : Program} (w : World) (base : Nat) (t u ty e : TypeId) (i : TypeInfo) (ht : P.underlying t = some (.slice e)) (hu : P.underlying u = some .string) (hi : P.info? e = some i) (hz : i.zero = some (.int .u8 0)) (hsize : i.size = 1) (hby : i.bytes = 1)
    (v : Value) (n : Nat) (xs : List Value) (hown : w.ownsRow base e 1 v n xs) (s : ByteArray) (h63 : n + s.size ≤ maxLen) (hbytes : n + s.size ≤ 140737488355328) (hbase : base ≤ w.heap.size) :
    ∃ v' w', (Builtin.append_ #[t, u] ty #[v, .string s]).run P w = .ok v' w' ∧ w'.ownsRow base e 1 v' (n + s.size) (xs ++ Lib.strCells s) ∧ w.grownBy w' v.ownBlock ∧ (∀ k, v'.ownBlock = some k → v.ownBlock = some k ∨ w.heap.size ≤ k) := by
  obtain ⟨v', w', hr, h2, h3, h4⟩ := Lib.run_append_own_string (P := P) w base t u ty e i ht hu hi hz hsize hby v n xs hown s h63 hbytes hbase
  refine ⟨v', w', hr, h2, h3, ?_⟩
  have hsmall : n + s.size ≤ 9223372036854775807 := by unfold maxLen at h63; omega
  rcases hown.2 with ⟨rfl, rfl⟩ | ⟨g, cap, cur, rfl, _, hg, hnc, _, hcs, _⟩
  · by_cases hm : s.size = 0
    · rw [h4.2 ⟨rfl, hm⟩]; intro k hk; cases hk
    · have hr2 := run_append_nil_string (P := P) w t u ty e i (.int .u8 0) ht hu hi hz s (by omega) (by omega) (by rw [hby]; omega)
      rw [hr] at hr2
      injection hr2 with e1 _
      intro k hk
      rw [e1] at hk
      exact .inr (Nat.le_of_eq (Option.some.inj hk))
  · by_cases hroom : n + s.size ≤ cap
    · have hr2 := Lib.run_append_room_string (P := P) w t u ty e i ht hu hi hsize g n cap cur hg s hroom (by omega)
      rw [hr] at hr2
      injection hr2 with e1 _
      intro k hk
      rw [e1] at hk
      exact .inl hk
    · have hr2 := Lib.run_append_grow_string (P := P) w t u ty e i (.int .u8 0) ht hu hi hz ⟨g, 0, none⟩ n cap xs (by rw [hsize]; simpa using hown.1) (hown.cells (g := g) rfl) s (by omega) (by omega) (by rw [hby]; exact growslice_fits (by omega) (by omega))
      rw [hr] at hr2
      injection hr2 with e1 _
      intro k hk
      rw [e1] at hk
      exact .inr (Nat.le_of_eq (Option.some.inj hk))
theorem wpList_append_string_lies {P : Program} (w : World) {ops : Array Oper} {rest : List Oper} {o : Oper} {a : Act} {Q : Exit → Act → World → Prop} (hgd : o.guard = none) (sl x : Operand) (t u : TypeId)
    (ho : o.op = .call { callee := .builtin .append, args := #[sl, x], argTypes := #[t, u] })
    (base : Nat) (e : TypeId) (i : TypeInfo) (ht : P.underlying t = some (.slice e)) (hu : P.underlying u = some .string) (hi : P.info? e = some i) (hz : i.zero = some (.int .u8 0)) (hsize : i.size = 1) (hby : i.bytes = 1)
    (v : Value) (n : Nat) (xs : List Value) (hs : a.eval sl = v) (hown : w.ownsRow base e 1 v n xs) (s : ByteArray) (hx : a.eval x = .string s)
    (h63 : n + s.size ≤ maxLen) (hbytes : n + s.size ≤ 140737488355328) (hbase : base ≤ w.heap.size)
    (h : ∀ v' w', w'.ownsRow base e 1 v' (n + s.size) (xs ++ Lib.strCells s) → w.grownBy w' v.ownBlock → (∀ k, v'.ownBlock = some k → v.ownBlock = some k ∨ w.heap.size ≤ k) → wpList P ops Q rest (a.put o.dst v') w') : wpList P ops Q (o :: rest) a w :=
  wpList_plain hgd fun _ hK => by
    obtain ⟨v', w', hr, h2, h3, h4⟩ := run_append_string_lies (P := P) w base t u o.type e i ht hu hi hz hsize hby v n xs hown s h63 hbytes hbase
    unfold Oper.wp execOp
    simp only [ho, resolve, invoke, builtin, Sem.run_bind, Sem.run_pure, Result.andThen_ok, List.map_toArray, List.map_cons, List.map_nil, hs, hx, hr]
    exact hK _ _ (h v' w' h2 h3 h4)

set_option maxHeartbeats 2000000 in
set_option maxRecDepth 100000 in
theorem add_any (N xb : Nat) (v : Value) (l0 : List UInt8) (ls : List ByteArray) (a : Option Addr) (c : Nat) (w : World) (hN : xb < N) (hNw : N ≤ w.heap.size) (hW : WrAt w N xb v l0) (hT : Rows w xb v a ls) (hsz : l0.length + (catL ls).length ≤ 1099511627776) (hll : ls.length ≤ 9223372036854775807) :
    Calls Tryz.prog 58 #[.pointer (some ⟨xb, 0, none⟩), .slice a ls.length c] w (AddR N xb v (l0 ++ catL ls) w) := by
  have HW := Lib.hid hW
  have HT := Lib.hid hT
  clear hW hT
  go_enter Tryz.func58, Tryz.ntmps58
  go_wp2_with fail
  go_loopg [9] ls.length (fun gk s9 wr => ∃ (k : Nat) (v' : Value), k ≤ ls.length ∧ gk = ls.length - k ∧ s9 = .int .i64 k ∧ Hid (WrAt wr N xb v' (l0 ++ catL (ls.take k))) ∧ Hid (WKeep xb v v' w wr))
  case atStart => exact ⟨0, v, Nat.zero_le _, rfl, rfl, Lib.hid (by simpa [catL] using HW.out), Lib.hid (WKeep.refl _ _ _)⟩
  case round =>
    obtain ⟨k, v', hk, hgk, rfl, HR, HK⟩ := hrel
    have HGK := Lib.hid hgk
    clear hgk
    by_cases hlt : k < ls.length
    · obtain ⟨r, hr⟩ : ∃ r, ls[k]? = some r := ⟨_, List.getElem?_eq_getElem hlt⟩
      have hsn := catL_snoc ls k r hr
      have hle := catL_le ls (k + 1)
      rw [hsn, List.length_append] at hle
      have hrl : r.data.toList.length = r.size := by simp
      rcases HT.out with h | ⟨lb, rfl, hlx, hlv, hlb, hcell⟩
      · rw [h] at hlt; exact absurd hlt (by simp)
      · have hcr : wr.cell? ⟨lb, k, none⟩ = some (.string r) := (World.cell?_of_block (w := w) (HK.out.block lb hlb hlx hlv)).trans (hcell k r hr)
        have cb := cell_of HR.out.1 0
        have hne := HR.out.ne hN
        have HNE := Lib.hid hne
        obtain ⟨L, hL⟩ : ∃ L, l0 ++ catL (ls.take k) = L := ⟨_, rfl⟩
        have hLl : L.length = l0.length + (catL (ls.take k)).length := by rw [← hL, List.length_append]
        have HSN : Hid (L ++ r.data.toList = l0 ++ catL (ls.take (k + 1))) := Lib.hid (by rw [hsn, ← List.append_assoc, hL])
        rw [hL] at HR
        have hown := HR.out.2
        have HO := Lib.hid hown
        have hNr : N ≤ wr.heap.size := Nat.le_trans hNw HK.out.size
        have hxr : xb < wr.heap.size := lt_of_block HR.out.1
        have hb1 : L.length + r.size ≤ 1099511627776 := by omega
        obtain ⟨i0, hi0, hz0, hz1, hz2⟩ := info_parts Tryz.infoByte
        clear hown hne hcell hr hsn hle hrl hL hlx hlv hlb hLl
        go_wp2_with (at_builtin; refine wpList_append_string_lies _ rfl _ _ 49 9 rfl N 5 i0 Tryz.underlying49 Tryz.underlying9 hi0 hz0 hz1 hz2 v' L.length (Lib.byteCells L) rfl HO.out r rfl (by unfold maxLen; omega) (by omega) hNr ?_; intro v2 w2 hown2 hgr hli; obtain ⟨a2, c2, rfl⟩ := owns_slice hown2; have HLI := Lib.hid hli; clear hli; have HG := Lib.hid hgr; have HO2 := Lib.hid hown2; have hb2 := Lib.hid ((hgr.block xb hxr (Ne.symm HNE.out)).trans HR.out.1); have cb2 := cell_of hb2.out 0; have fb2 := free_of hb2.out 0; clear hgr hown2)
        go_roundg (ls.length - (k + 1))
        case measure => have := HGK.out; omega
        case rel =>
          have hnb : (Value.slice a2 (L.length + r.size) c2).ownBlock ≠ some xb := fun e => by have := (HO2.out.lt xb e).1; omega
          have hlen : (l0 ++ catL (ls.take (k + 1))).length = L.length + r.size := by rw [← HSN.out, List.length_append]; simp
          refine ⟨k + 1, .slice a2 (L.length + r.size) c2, by omega, rfl, by go_num, Lib.hid ⟨setCell_at hb2.out 0 _, ?_⟩, Lib.hid ?_⟩
          · rw [hlen, ← HSN.out, Lib.byteCells_append, ← Lib.strCells_eq]
            exact owns_keep2 HO2.out ((Keep.refl [xb] w2).setCell _ _ (.inl (by simp))) (fun g hg hm => hnb (by rw [hg, List.mem_singleton.1 hm]))
          · have hg := HG.out
            refine HK.out.trans ⟨hg.os, hg.tape, hg.output, by simpa using hg.size, fun j hj h1 h2 => (setCell_ne _ h1).trans (hg.block j hj (Ne.symm h2)), HLI.out⟩
    · have he : k = ls.length := by omega
      have HX : Hid (l0 ++ catL (ls.take k) = l0 ++ catL ls) := Lib.hid (by rw [List.take_of_length_le (by omega)])
      rw [HX.out] at HR
      obtain ⟨a', c', rfl⟩ := owns_slice HR.out.2
      have cb := cell_of HR.out.1 0
      clear he
      obtain ⟨L, hL⟩ : ∃ L, l0 ++ catL ls = L := ⟨_, rfl⟩
      rw [hL] at HR HK cb
      have hLl : L.length ≤ 1099511627776 := by rw [← hL, List.length_append]; exact hsz
      have HLL := Lib.hid hL
      clear hL HX
      go_wp2_with fail
      go_ret
      rw [HLL.out]
      exact ⟨ret_bool (by rw [Bool.eq_iff_iff, decide_eq_true_iff, decide_eq_true_iff]; omega), _, HR.out, HK.out⟩
end Go.Proofs.YtjmpcoedfoaebaaGreatDoor
