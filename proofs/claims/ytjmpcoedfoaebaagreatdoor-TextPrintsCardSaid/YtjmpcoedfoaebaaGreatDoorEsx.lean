/- octet.Hex of one byte; octet.Escape. text.writer: add. -/
import Derived.Test.YtjmpcoedfoaebaaGreatDoorUnesc
import Derived.Test.YtjmpcoedfoaebaaGreatDoorFltx
import Derived.Deep.LoopGhost
open Go Go.RowKit
namespace Go.Proofs.YtjmpcoedfoaebaaGreatDoor

/-- A digit to the base sixteen. -/
def hexB (n : Nat) : UInt8 := if n < 10 then (48 + n).toUInt8 else (87 + n).toUInt8
theorem index_hex : ∀ (k : Nat), k < 16 → ∀ w : World, (Instr.index 9 (.string ⟨#[48, 49, 50, 51, 52, 53, 54, 55, 56, 57, 97, 98, 99, 100, 101, 102]⟩) (.int .u8 k)).run Tryz.prog w = .ok (.int .u8 (hexB k).toNat) w
  | 0, _, w => by kernel_rfl
  | 1, _, w => by kernel_rfl
  | 2, _, w => by kernel_rfl
  | 3, _, w => by kernel_rfl
  | 4, _, w => by kernel_rfl
  | 5, _, w => by kernel_rfl
  | 6, _, w => by kernel_rfl
  | 7, _, w => by kernel_rfl
  | 8, _, w => by kernel_rfl
  | 9, _, w => by kernel_rfl
  | 10, _, w => by kernel_rfl
  | 11, _, w => by kernel_rfl
  | 12, _, w => by kernel_rfl
  | 13, _, w => by kernel_rfl
  | 14, _, w => by kernel_rfl
  | 15, _, w => by kernel_rfl
  | k + 16, h, _ => by omega
def hexT (c : UInt8) : List UInt8 := [hexB (c.toNat / 16), hexB (c.toNat % 16)]

set_option maxHeartbeats 1000000 in
set_option maxRecDepth 100000 in
theorem hex_one (s : ByteArray) (w : World) (h1 : s.size = 1) : Calls Tryz.prog 88 #[.string s] w fun e w' => e = .returned (.string ⟨(hexT (peekB s 0)).toArray⟩) ∧ Below w.heap.size w w' := by
  have h0 : 0 < s.size := by omega
  obtain ⟨x, hx⟩ : ∃ x, s[0] = x := ⟨_, rfl⟩
  have hp : peekB s 0 = x := by rw [peekB_in h0]; exact hx
  rw [hp]
  have hxl := x.toNat_lt
  have hi1 : ∀ V : World, (Instr.index 9 (.string ⟨#[48, 49, 50, 51, 52, 53, 54, 55, 56, 57, 97, 98, 99, 100, 101, 102]⟩) (.int .u8 ((x.toNat : Int) / 16))).run Tryz.prog V = .ok (.int .u8 (hexB (x.toNat / 16)).toNat) V := fun V => by
    rw [show ((x.toNat : Int) / 16) = ((x.toNat / 16 : Nat) : Int) by omega]; exact index_hex _ (by omega) V
  have hi2 : ∀ V : World, (Instr.index 9 (.string ⟨#[48, 49, 50, 51, 52, 53, 54, 55, 56, 57, 97, 98, 99, 100, 101, 102]⟩) (.int .u8 ((x.toNat : Int) % 16))).run Tryz.prog V = .ok (.int .u8 (hexB (x.toNat % 16)).toNat) V := fun V => by
    rw [show ((x.toNat : Int) % 16) = ((x.toNat % 16 : Nat) : Int) by omega]; exact index_hex _ (by omega) V
  have hF : Lib.IsBuilderF 130 5 w.heap.size w.heap.size (Lib.byteCells []) (w.alloc (.cells #[.pointer none, .slice none 0 0] 130)) := Lib.IsBuilderF.of (Lib.fresh_isBuilder _ _ w)
  have HF := Lib.hid hF
  clear hp hF
  go_enter Tryz.func88, Tryz.ntmps88
  go_wp2
  refine wp_loop_rounds 2 ?_
  rw [rounds_succ]
  go_wp2_with fail
  refine (Tryz.Builder_WriteByte_k w.heap.size w.heap.size _ _ _ HF.out (by rw [Lib.byteCells_length]; simp) (by simp)).mono ?_
  rintro e W1 ⟨rfl, g1, b1, _⟩
  have G1 : Hid (Lib.IsBuilderF 130 5 w.heap.size w.heap.size (Lib.byteCells [hexB (x.toNat / 16)]) W1) := Lib.hid (.inr g1)
  have hs1 : w.heap.size + 1 ≤ W1.heap.size := by have := b1.size; simpa using this
  have B1 := Lib.hid b1
  clear g1 b1
  go_wp2_with fail
  refine (Tryz.Builder_WriteByte_k w.heap.size w.heap.size _ _ _ G1.out (by rw [Lib.byteCells_length]; simp) (by omega)).mono ?_
  rintro e W2 ⟨rfl, g2, b2, _⟩
  have G2 : Hid (Lib.IsBuilderF 130 5 w.heap.size w.heap.size (Lib.byteCells (hexT x)) W2) := Lib.hid (.inr g2)
  have hs2 := b2.size
  have B2 := Lib.hid b2
  clear g2 b2
  go_wp2_with fail
  rw [rounds_succ]
  go_wp2_with (go_at_call 89; refine (Tryz.Builder_String_any_k w.heap.size w.heap.size (hexT x) _ G2.out (by omega)).mono ?_; rintro e W3 ⟨rfl, _, b3, _⟩)
  go_ret
  exact ⟨rfl, (((Below.refl _ w).alloc (Nat.le_refl _) _).trans B1.out).trans (B2.out.trans b3)⟩

/-- A value's text, byte for byte. -/
def escP : Nat → List UInt8 → List UInt8
  | 0, _ => []
  | _ + 1, [] => []
  | k + 1, c :: t => if firstP (c :: t) = 0 ∨ bareB c = true then 92 :: (hexT c ++ escP k t) else (c :: t).take (firstP (c :: t)) ++ escP k ((c :: t).drop (firstP (c :: t)))
def escB (s : ByteArray) : ByteArray := ⟨(escP (s.size + 1) s.data.toList).toArray⟩
theorem escP_nil (k : Nat) : escP k [] = [] := by cases k <;> rfl
def EscRel (s : ByteArray) (R : List UInt8) (w : World) (k : Nat) (wr : World) : Prop :=
  ∃ (pos fuel : Nat) (acc : List UInt8), k = s.size + 1 - pos ∧ pos ≤ s.size ∧ acc ++ escP fuel (s.data.toList.drop pos) = R ∧ s.size < pos + fuel ∧ acc.length ≤ 3 * pos ∧
    Lib.IsBuilderF 130 5 w.heap.size w.heap.size (Lib.byteCells acc) wr ∧ wr.heap[w.heap.size + 1]? = some (.stringIter s pos) ∧ Below w.heap.size w wr

set_option maxHeartbeats 4000000 in
set_option maxRecDepth 1000000 in
theorem escape_any (s : ByteArray) (w : World) (hs : s.size ≤ 1099511627776) : Calls Tryz.prog 59 #[.string s] w fun e w' => e = .returned (.string (escB s)) ∧ Below w.heap.size w w' := by
  obtain ⟨R, hR⟩ : ∃ R, escP (s.size + 1) s.data.toList = R := ⟨_, rfl⟩
  unfold escB
  rw [hR]
  have HR := Lib.hid hR
  clear hR
  go_enter Tryz.func59, Tryz.ntmps59
  go_wp2
  go_loopg [] (s.size + 1) (fun k wr => EscRel s R w k wr)
  case atStart =>
    refine ⟨0, s.size + 1, [], rfl, Nat.zero_le _, by simpa using HR.out, by omega, Nat.le_refl _, (Lib.IsBuilderF.of (Lib.fresh_isBuilder _ _ w)).alloc _, ?_, ((Below.refl _ w).alloc (Nat.le_refl _) _).alloc (by simp) _⟩
    have := World.iter_heap (w.alloc (.cells #[.pointer none, .slice none 0 0] 130)) s 0
    simpa using this
  case round =>
    obtain ⟨pos, fuel, acc, hk, hpos, hU, hfu, hal, hI, hit, hbw⟩ := hrel
    have hsz : w.heap.size + 1 < wr.heap.size := (Array.getElem?_eq_some_iff.1 hit).1
    by_cases hp : pos < s.size
    · have hnx : ∀ ty, (Instr.next (.pointer (some ⟨w.heap.size + 1, 0, none⟩)) true ty).run Tryz.prog wr = _ := fun ty => Lib.run_next_any_at wr (w.heap.size + 1) s pos ty hit hp
      have hd1 := decode_le s pos
      have hI2 := hI.iterAt hit (pos + (Utf8.decode s pos).2)
      have hit2 := Lib.iterAt_heap wr (w.heap.size + 1) s pos (pos + (Utf8.decode s pos).2) hit
      have hbw2 := Lib.below_iterAt hbw (k := w.heap.size + 1) (by omega) s (pos + (Utf8.decode s pos).2)
      have hsz2 : w.heap.size ≤ (wr.iterAt (w.heap.size + 1) s (pos + (Utf8.decode s pos).2)).heap.size := by rw [Lib.iterAt_size]; omega
      obtain ⟨c, t, hl⟩ : ∃ c t, s.data.toList.drop pos = c :: t := ⟨_, _, drop_at s pos hp⟩
      have hc : peekB s pos = c := by rw [peekB_in hp]; exact (List.cons.inj ((drop_at s pos hp).symm.trans hl)).1
      have hlen : (c :: t).length = s.size - pos := by rw [← hl]; simp
      have hdl : Utf8.decode s pos = Lib.decodeL (c :: t) := by rw [← hl, Lib.decodeL_drop]
      obtain ⟨f, rfl⟩ : ∃ f, fuel = f + 1 := ⟨fuel - 1, by omega⟩
      have hK := Lib.hid (kind_any s pos · hp)
      rw [hl] at hU hK
      unfold kindP at hK
      have hg : (c :: t).getD 0 0 = c := rfl
      rw [hg] at hK
      rw [escP] at hU
      by_cases hx : firstP (c :: t) = 0 ∨ bareB c = true
      · -- it is escaped
        rw [if_pos hx] at hU
        obtain ⟨kk, hkk, hKK⟩ : ∃ kk : Int, (kk == 2) = false ∧ ∀ x, Calls Tryz.prog 85 #[.string s, .int .i64 pos, .int .i32 (Utf8.decode s pos).1] x (Kinded kk x) := by
          by_cases hf : firstP (c :: t) = 0
          · exact ⟨0, rfl, fun x => by have := hK.out x; rw [if_pos hf] at this; exact this⟩
          · rcases hx with h | h
            · exact absurd h hf
            · exact ⟨1, rfl, fun x => by have := hK.out x; rw [if_neg hf, if_pos h] at this; exact this⟩
        have hw2 : (Utf8.decode s pos).2 = 1 := by
          rw [hdl]
          rcases hx with h | h
          · rw [(firstP_zero (by simp)).1 h]
          · rw [bare_rune h]
        have HKK := Lib.hid hKK
        have hdt : s.data.toList.drop (pos + 1) = t := by
          have h := congrArg (List.drop 1) hl
          rw [List.drop_drop] at h
          exact h
        rw [hw2] at hI2 hit2 hbw2 hsz2
        have hnx2 : ∀ ty, (Instr.next (.pointer (some ⟨w.heap.size + 1, 0, none⟩)) true ty).run Tryz.prog wr = .ok (.tuple #[.bool true, .int .i64 pos, .int .i32 ((Utf8.decode s pos).1 : Int)]) (wr.iterAt (w.heap.size + 1) s (pos + 1)) := fun ty => by rw [hnx ty, hw2]
        have hes : (s.extract pos (pos + 1)).size = 1 := by rw [ByteArray.size_extract]; omega
        have hep : peekB (s.extract pos (pos + 1)) 0 = c := by
          rw [peekB_in (by omega), ← hc, peekB_in hp]
          first | rfl | simp [ByteArray.getElem_eq_getElem_data]
        have hH := fun V => hex_one (s.extract pos (pos + 1)) V hes
        rw [hep] at hH
        have HH := Lib.hid hH
        have hqi : IntKind.i64.wrap ((pos : Int) + 1) = (pos : Int) + 1 := by
          have := wrap_small (pos + 1) (by omega) (by omega)
          push_cast at this ⊢
          exact this
        have HI2 := Lib.hid hI2
        have HIT2 := Lib.hid hit2
        have HBW2 := Lib.hid hbw2
        have HU2 : Hid (acc ++ 92 :: (hexT c ++ escP f (s.data.toList.drop (pos + 1))) = R) := Lib.hid (by rw [hdt]; exact hU)
        have HSC : Hid (Lib.strCells (⟨#[92]⟩ ++ ⟨(hexT c).toArray⟩) = Lib.byteCells (92 :: hexT c)) := Lib.hid (by
          rw [Lib.strCells_eq]
          congr 1)
        clear hx hK hKK hl hc hdl hlen hd1 hw2 hnx hU hdt hes hep hH hI2 hit2 hbw2 hI hit hbw hg
        go_wp2_with (first
          | (go_at_call 85; refine (HKK.out _).mono ?_; rintro e w' ⟨rfl, rfl⟩)
          | (go_at_call 88; refine (HH.out _).mono ?_; rintro e V ⟨rfl, hbv⟩; have HBV := Lib.hid hbv; have hvs := hbv.size; clear hbv))
        have hI3 : Lib.IsBuilderF 130 5 w.heap.size w.heap.size (Lib.byteCells acc) V := Lib.IsBuilderF.below HI2.out HBV.out
        have hsz3 : w.heap.size ≤ V.heap.size := Nat.le_trans hsz2 hvs
        refine (Tryz.Builder_WriteString_k w.heap.size w.heap.size _ _ _ hI3 (by rw [Lib.byteCells_length]; simp [ByteArray.size, hexT]; omega) hsz3).mono ?_
        rintro e W2 ⟨rfl, g1, b2, k2⟩
        go_wp2_with fail
        go_roundg (s.size + 1 - (pos + 1))
        case measure => omega
        case rel =>
          refine ⟨pos + 1, f, acc ++ 92 :: hexT c, rfl, by omega, by rw [List.append_assoc]; exact HU2.out, by omega, by rw [List.length_append]; simp [hexT]; omega, ?_, k2.iter ((HBV.out.block _ (by rw [Lib.iterAt_size]; omega)).trans HIT2.out) (by omega), (HBW2.out.trans (HBV.out.mono (by rw [Lib.iterAt_size]; omega))).trans b2⟩
          rw [Lib.byteCells_append, ← HSC.out]
          exact Or.inr g1
      · -- it is written as it stands
        rw [if_neg hx] at hU
        have hf0 : firstP (c :: t) ≠ 0 := fun h => hx (.inl h)
        have hb : bareB c ≠ true := fun h => hx (.inr h)
        rw [if_neg hf0, if_neg hb] at hK
        obtain ⟨e1, e2, e3, e4, e5⟩ := firstP_pos (l := c :: t) (by simp) hf0
        have hw : (Utf8.decode s pos).2 = firstP (c :: t) := by rw [hdl, e1]
        have hdr : (c :: t).drop (firstP (c :: t)) = s.data.toList.drop (pos + (Utf8.decode s pos).2) := by
          have h := congrArg (List.drop (firstP (c :: t))) hl
          rw [List.drop_drop] at h
          rw [hw, ← h]
        have henc : Lib.runeCells ((Utf8.decode s pos).1 : Int) = Lib.byteCells ((c :: t).take (firstP (c :: t))) := by rw [← Lib.byteCells_encodeRune, hdl, e5]
        have htl : ((c :: t).take (firstP (c :: t))).length = firstP (c :: t) := by rw [List.length_take]; omega
        rw [hdr] at hU
        generalize hT : (c :: t).take (firstP (c :: t)) = T at *
        have HX := Lib.hid (And.intro hw (And.intro hU (And.intro henc htl)))
        clear hl hc hdl hf0 hb hx hw hU henc htl hdr e1 e5 e2 hT hg
        go_wp2_with (first
          | (go_at_call 85; refine (hK.out _).mono ?_; rintro e w' ⟨rfl, rfl⟩)
          | (go_at_call 86; refine (Tryz.Builder_WriteRune_k w.heap.size w.heap.size _ _ (by omega) (by omega) _ hI2 (by rw [Lib.byteCells_length]; omega) hsz2).mono ?_; rintro e W1 ⟨rfl, g1, b1, k1⟩))
        obtain ⟨hw, hU, henc, htl⟩ := HX.out
        go_roundg (s.size + 1 - (pos + (Utf8.decode s pos).2))
        case measure => omega
        case rel =>
          refine ⟨pos + (Utf8.decode s pos).2, f, acc ++ T, rfl, by omega, by rw [List.append_assoc]; exact hU, by omega, by rw [List.length_append]; omega, ?_, k1.iter hit2 (by omega), hbw2.trans b1⟩
          rw [Lib.byteCells_append, ← henc]
          exact Or.inr g1
    · have hnx : ∀ ty, (Instr.next (.pointer (some ⟨w.heap.size + 1, 0, none⟩)) true ty).run Tryz.prog wr = _ := fun ty => Lib.run_next_end_at wr (w.heap.size + 1) s pos ty hit hp
      have hRa : acc = R := by
        rw [List.drop_of_length_le (by simpa using hp), escP_nil, List.append_nil] at hU
        exact hU
      subst hRa
      clear hU
      go_wp2_with (go_at_call 89; refine (Tryz.Builder_String_any_k w.heap.size w.heap.size acc _ hI (by omega)).mono ?_; rintro e W1 ⟨rfl, _, b1, _⟩)
      go_ret
      exact ⟨rfl, hbw.trans b1⟩
end Go.Proofs.YtjmpcoedfoaebaaGreatDoor

open Go Go.RowKit
namespace Go.Proofs.YtjmpcoedfoaebaaGreatDoor

theorem Tryz.infoByte : (Tryz.prog.info? 5).map (fun i => (i.zero, i.size, i.bytes)) = some (some (.int .u8 0), 1, 1) := by kernel_rfl
/-- The program's writer: its row of bytes is the call's own. -/
def WrAt (w : World) (N xb : Nat) (v : Value) (l : List UInt8) : Prop := w.heap[xb]? = some (.cells #[v] 68 (0, 0)) ∧ w.ownsRow N 5 1 v l.length (Lib.byteCells l)
/-- All but the writer and its row is as it was; the row is the old one or new. -/
structure WKeep (xb : Nat) (v v' : Value) (w w' : World) : Prop where
  os : w'.os = w.os
  tape : w'.tape = w.tape
  output : w'.output = w.output
  size : w.heap.size ≤ w'.heap.size
  block : ∀ k, k < w.heap.size → k ≠ xb → v.ownBlock ≠ some k → w'.heap[k]? = w.heap[k]?
  own : ∀ k, v'.ownBlock = some k → v.ownBlock = some k ∨ w.heap.size ≤ k
theorem WKeep.refl (xb : Nat) (v : Value) (w : World) : WKeep xb v v w w := ⟨rfl, rfl, rfl, Nat.le_refl _, fun _ _ _ _ => rfl, fun _ h => .inl h⟩
theorem WKeep.trans {xb : Nat} {v v' v'' : Value} {w w' w'' : World} (h : WKeep xb v v' w w') (g : WKeep xb v' v'' w' w'') : WKeep xb v v'' w w'' :=
  ⟨g.os.trans h.os, g.tape.trans h.tape, g.output.trans h.output, Nat.le_trans h.size g.size, fun k hk h1 h2 => (g.block k (Nat.lt_of_lt_of_le hk h.size) h1 (fun h3 => by
    rcases h.own k h3 with h4 | h4
    · exact h2 h4
    · omega)).trans (h.block k hk h1 h2), fun k hk => by
    rcases g.own k hk with h4 | h4
    · exact h.own k h4
    · exact .inr (Nat.le_trans h.size h4)⟩
theorem WKeep.keep0 {xb : Nat} {v v' : Value} {w w' w'' : World} (h : WKeep xb v v' w w') (k : Keep [] w' w'') : WKeep xb v v' w w'' :=
  h.trans ⟨k.os, k.tape, k.output, k.size, fun j hj _ _ => k.block j hj (by simp), fun _ h => .inl h⟩
theorem WKeep.of0 {xb : Nat} {v : Value} {w w' : World} (k : Keep [] w w') : WKeep xb v v w w' := (WKeep.refl xb v w).keep0 k
theorem WKeep.heap {xb : Nat} {v v' : Value} {w w' : World} {o : Obj} {k : Nat} (h : WKeep xb v v' w w') (hk : w.heap[k]? = some o) (h1 : k ≠ xb) (h2 : v.ownBlock ≠ some k) : w'.heap[k]? = some o := (h.block k (lt_of_block hk) h1 h2).trans hk
theorem WrAt.keep0 {w w' : World} {N xb : Nat} {v : Value} {l : List UInt8} (h : WrAt w N xb v l) (k : Keep [] w w') : WrAt w' N xb v l := ⟨k.heap h.1 (by simp), owns_keep2 h.2 k (fun _ _ => by simp)⟩
theorem WrAt.ne {w : World} {N xb : Nat} {v : Value} {l : List UInt8} (h : WrAt w N xb v l) (hN : xb < N) : v.ownBlock ≠ some xb := fun e => by have := (h.2.lt xb e).1; omega
def catL (ls : List ByteArray) : List UInt8 := (ls.map (·.data.toList)).flatten
/-- What add has done. -/
def AddR (N xb : Nat) (v : Value) (l : List UInt8) (w : World) (e : Ending) (w' : World) : Prop := e = .returned (.bool (decide (l.length ≤ 1048576))) ∧ ∃ v', WrAt w' N xb v' l ∧ WKeep xb v v' w w'
theorem catL_snoc (ls : List ByteArray) (k : Nat) (r : ByteArray) (h : ls[k]? = some r) : catL (ls.take (k + 1)) = catL (ls.take k) ++ r.data.toList := by
  obtain ⟨hk, rfl⟩ := List.getElem?_eq_some_iff.1 h
  unfold catL
  rw [List.take_succ_eq_append_getElem hk, List.map_append, List.flatten_append]
  simp only [List.map_cons, List.map_nil, List.flatten_cons, List.flatten_nil, List.append_nil]
theorem catL_le (ls : List ByteArray) (k : Nat) : (catL (ls.take k)).length ≤ (catL ls).length := by
  unfold catL
  conv => rhs; rw [← List.take_append_drop k ls]
  rw [List.map_append, List.flatten_append, List.length_append]
  omega
/-- The texts that are handed over. -/
def Rows (w : World) (xb : Nat) (v : Value) (a : Option Addr) (ls : List ByteArray) : Prop :=
  ls = [] ∨ ∃ lb, a = some ⟨lb, 0, none⟩ ∧ lb ≠ xb ∧ v.ownBlock ≠ some lb ∧ lb < w.heap.size ∧ ∀ k r, ls[k]? = some r → w.cell? ⟨lb, k, none⟩ = some (.string r)

/-- append of a string's bytes, and where the new row lies. -/
theorem run_append_string_lies {P : Program} (w : World) (base : Nat) (t u ty e : TypeId) (i : TypeInfo) (ht : P.underlying t = some (.slice e)) (hu : P.underlying u = some .string) (hi : P.info? e = some i) (hz : i.zero = some (.int .u8 0)) (hsize : i.size = 1) (hby : i.bytes = 1)
    (v : Value) (n : Nat) (xs : List Value) (hown : w.ownsRow base e 1 v n xs) (s : ByteArray) (h63 : n + s.size ≤ maxLen) (hbytes : n + s.size ≤ 140737488355328) (hbase : base ≤ w.heap.size) :
    ∃ v' w', (Builtin.append_ #[t, u] ty #[v, .string s]).run P w = .ok v' w' ∧ w'.ownsRow base e 1 v' (n + s.size) (xs ++ Lib.strCells s) ∧ w.grownBy w' v.ownBlock ∧ (∀ k, v'.ownBlock = some k → v.ownBlock = some k ∨ w.heap.size ≤ k) := by
  obtain ⟨v', w', hr, h2, h3, h4⟩ := Lib.run_append_own_string (P := P) w base t u ty e i ht hu hi hz hsize hby v n xs hown s h63 hbytes hbase
  refine ⟨v', w', hr, h2, h3, ?_⟩
  have hsmall : n + s.size ≤ 9223372036854775807 := by unfold maxLen at h63; omega
  rcases hown.2 with ⟨rfl, rfl⟩ | ⟨g, cap, cur, rfl, _, hg, hnc, _, hcs, _⟩
  · by_cases hm : s.size = 0
    · rw [h4.2 ⟨rfl, hm⟩]; intro k hk; cases hk
    · have hr2 := run_append_nil_string (P := P) w t u ty e i (.int .u8 0) ht hu hi hz s (by omega) (by omega) (by rw [hby]; omega)
      rw [hr] at hr2
      injection hr2 with e1 _
      intro k hk
      rw [e1] at hk
      exact .inr (Nat.le_of_eq (Option.some.inj hk))
  · by_cases hroom : n + s.size ≤ cap
    · have hr2 := Lib.run_append_room_string (P := P) w t u ty e i ht hu hi hsize g n cap cur hg s hroom (by omega)
      rw [hr] at hr2
      injection hr2 with e1 _
      intro k hk
      rw [e1] at hk
      exact .inl hk
    · have hr2 := Lib.run_append_grow_string (P := P) w t u ty e i (.int .u8 0) ht hu hi hz ⟨g, 0, none⟩ n cap xs (by rw [hsize]; simpa using hown.1) (hown.cells (g := g) rfl) s (by omega) (by omega) (by rw [hby]; exact growslice_fits (by omega) (by omega))
      rw [hr] at hr2
      injection hr2 with e1 _
      intro k hk
      rw [e1] at hk
      exact .inr (Nat.le_of_eq (Option.some.inj hk))
theorem wpList_append_string_lies {P : Program} (w : World) {ops : Array Oper} {rest : List Oper} {o : Oper} {a : Act} {Q : Exit → Act → World → Prop} (hgd : o.guard = none) (sl x : Operand) (t u : TypeId)
    (ho : o.op = .call { callee := .builtin .append, args := #[sl, x], argTypes := #[t, u] })
    (base : Nat) (e : TypeId) (i : TypeInfo) (ht : P.underlying t = some (.slice e)) (hu : P.underlying u = some .string) (hi : P.info? e = some i) (hz : i.zero = some (.int .u8 0)) (hsize : i.size = 1) (hby : i.bytes = 1)
    (v : Value) (n : Nat) (xs : List Value) (hs : a.eval sl = v) (hown : w.ownsRow base e 1 v n xs) (s : ByteArray) (hx : a.eval x = .string s)
    (h63 : n + s.size ≤ maxLen) (hbytes : n + s.size ≤ 140737488355328) (hbase : base ≤ w.heap.size)
    (h : ∀ v' w', w'.ownsRow base e 1 v' (n + s.size) (xs ++ Lib.strCells s) → w.grownBy w' v.ownBlock → (∀ k, v'.ownBlock = some k → v.ownBlock = some k ∨ w.heap.size ≤ k) → wpList P ops Q rest (a.put o.dst v') w') : wpList P ops Q (o :: rest) a w :=
  wpList_plain hgd fun _ hK => by
    obtain ⟨v', w', hr, h2, h3, h4⟩ := run_append_string_lies (P := P) w base t u o.type e i ht hu hi hz hsize hby v n xs hown s h63 hbytes hbase
    unfold Oper.wp execOp
    simp only [ho, resolve, invoke, builtin, Sem.run_bind, Sem.run_pure, Result.andThen_ok, List.map_toArray, List.map_cons, List.map_nil, hs, hx, hr]
    exact hK _ _ (h v' w' h2 h3 h4)

set_option maxHeartbeats 2000000 in
set_option maxRecDepth 100000 in
theorem add_any (N xb : Nat) (v : Value) (l0 : List UInt8) (ls : List ByteArray) (a : Option Addr) (c : Nat) (w : World) (hN : xb < N) (hNw : N ≤ w.heap.size) (hW : WrAt w N xb v l0) (hT : Rows w xb v a ls) (hsz : l0.length + (catL ls).length ≤ 1099511627776) (hll : ls.length ≤ 9223372036854775807) :
    Calls Tryz.prog 58 #[.pointer (some ⟨xb, 0, none⟩), .slice a ls.length c] w (AddR N xb v (l0 ++ catL ls) w) := by
  have HW := Lib.hid hW
  have HT := Lib.hid hT
  clear hW hT
  go_enter Tryz.func58, Tryz.ntmps58
  go_wp2_with fail
  go_loopg [9] ls.length (fun gk s9 wr => ∃ (k : Nat) (v' : Value), k ≤ ls.length ∧ gk = ls.length - k ∧ s9 = .int .i64 k ∧ Hid (WrAt wr N xb v' (l0 ++ catL (ls.take k))) ∧ Hid (WKeep xb v v' w wr))
  case atStart => exact ⟨0, v, Nat.zero_le _, rfl, rfl, Lib.hid (by simpa [catL] using HW.out), Lib.hid (WKeep.refl _ _ _)⟩
  case round =>
    obtain ⟨k, v', hk, hgk, rfl, HR, HK⟩ := hrel
    have HGK := Lib.hid hgk
    clear hgk
    by_cases hlt : k < ls.length
    · obtain ⟨r, hr⟩ : ∃ r, ls[k]? = some r := ⟨_, List.getElem?_eq_getElem hlt⟩
      have hsn := catL_snoc ls k r hr
      have hle := catL_le ls (k + 1)
      rw [hsn, List.length_append] at hle
      have hrl : r.data.toList.length = r.size := by simp
      rcases HT.out with h | ⟨lb, rfl, hlx, hlv, hlb, hcell⟩
      · rw [h] at hlt; exact absurd hlt (by simp)
      · have hcr : wr.cell? ⟨lb, k, none⟩ = some (.string r) := (World.cell?_of_block (w := w) (HK.out.block lb hlb hlx hlv)).trans (hcell k r hr)
        have cb := cell_of HR.out.1 0
        have hne := HR.out.ne hN
        have HNE := Lib.hid hne
        obtain ⟨L, hL⟩ : ∃ L, l0 ++ catL (ls.take k) = L := ⟨_, rfl⟩
        have hLl : L.length = l0.length + (catL (ls.take k)).length := by rw [← hL, List.length_append]
        have HSN : Hid (L ++ r.data.toList = l0 ++ catL (ls.take (k + 1))) := Lib.hid (by rw [hsn, ← List.append_assoc, hL])
        rw [hL] at HR
        have hown := HR.out.2
        have HO := Lib.hid hown
        have hNr : N ≤ wr.heap.size := Nat.le_trans hNw HK.out.size
        have hxr : xb < wr.heap.size := lt_of_block HR.out.1
        have hb1 : L.length + r.size ≤ 1099511627776 := by omega
        obtain ⟨i0, hi0, hz0, hz1, hz2⟩ := info_parts Tryz.infoByte
        clear hown hne hcell hr hsn hle hrl hL hlx hlv hlb hLl
        go_wp2_with (at_builtin; refine wpList_append_string_lies _ rfl _ _ 49 9 rfl N 5 i0 Tryz.underlying49 Tryz.underlying9 hi0 hz0 hz1 hz2 v' L.length (Lib.byteCells L) rfl HO.out r rfl (by unfold maxLen; omega) (by omega) hNr ?_; intro v2 w2 hown2 hgr hli; obtain ⟨a2, c2, rfl⟩ := owns_slice hown2; have HLI := Lib.hid hli; clear hli; have HG := Lib.hid hgr; have HO2 := Lib.hid hown2; have hb2 := Lib.hid ((hgr.block xb hxr (Ne.symm HNE.out)).trans HR.out.1); have cb2 := cell_of hb2.out 0; have fb2 := free_of hb2.out 0; clear hgr hown2)
        go_roundg (ls.length - (k + 1))
        case measure => have := HGK.out; omega
        case rel =>
          have hnb : (Value.slice a2 (L.length + r.size) c2).ownBlock ≠ some xb := fun e => by have := (HO2.out.lt xb e).1; omega
          have hlen : (l0 ++ catL (ls.take (k + 1))).length = L.length + r.size := by rw [← HSN.out, List.length_append]; simp
          refine ⟨k + 1, .slice a2 (L.length + r.size) c2, by omega, rfl, by go_num, Lib.hid ⟨setCell_at hb2.out 0 _, ?_⟩, Lib.hid ?_⟩
          · rw [hlen, ← HSN.out, Lib.byteCells_append, ← Lib.strCells_eq]
            exact owns_keep2 HO2.out ((Keep.refl [xb] w2).setCell _ _ (.inl (by simp))) (fun g hg hm => hnb (by rw [hg, List.mem_singleton.1 hm]))
          · have hg := HG.out
            refine HK.out.trans ⟨hg.os, hg.tape, hg.output, by simpa using hg.size, fun j hj h1 h2 => (setCell_ne _ h1).trans (hg.block j hj (Ne.symm h2)), HLI.out⟩
    · have he : k = ls.length := by omega
      have HX : Hid (l0 ++ catL (ls.take k) = l0 ++ catL ls) := Lib.hid (by rw [List.take_of_length_le (by omega)])
      rw [HX.out] at HR
      obtain ⟨a', c', rfl⟩ := owns_slice HR.out.2
      have cb := cell_of HR.out.1 0
      clear he
      obtain ⟨L, hL⟩ : ∃ L, l0 ++ catL ls = L := ⟨_, rfl⟩
      rw [hL] at HR HK cb
      have hLl : L.length ≤ 1099511627776 := by rw [← hL, List.length_append]; exact hsz
      have HLL := Lib.hid hL
      clear hL HX
      go_wp2_with fail
      go_ret
      rw [HLL.out]
      exact ⟨ret_bool (by rw [Bool.eq_iff_iff, decide_eq_true_iff, decide_eq_true_iff]; omega), _, HR.out, HK.out⟩
end Go.Proofs.YtjmpcoedfoaebaaGreatDoor
