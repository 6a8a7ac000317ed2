/- Rows of bytes of a call's own that grow; the reference's Escape. The reference's op; a row of bytes that grows beside a variable. The reference's written, at an item and at a part. The reference's written, at a part with middles. -/
import Derived.Test.YtjmpcoedfoaebaaGreatDoorRpx
import Derived.Test.YtjmpcoedfoaebaaGreatDoorByt
import Derived.Test.YtjmpcoedfoaebaaGreatDoorEsx
import Derived.Laws.AppendOwn
import Derived.Deep.AppendLies
import Derived.StillTailTactics
import Derived.Test.YtjmpcoedfoaebaaGreatDoorWrx
open Go Go.RowKit
namespace Go.Proofs.YtjmpcoedfoaebaaGreatDoor

theorem wrap_byte (n : Nat) (h : n < 256) : IntKind.u8.wrap (n : Int) = n := by simp [IntKind.wrap, IntKind.bits, IntKind.signed]; omega
/-- A row of bytes that is the call's own. -/
def OwnB (w : World) (N : Nat) (v : Value) (l : List UInt8) : Prop := w.ownsRow N 5 1 v l.length (Lib.byteCells l)
/-- Only that row may have turned; where the new one lies. -/
def Lies (v v' : Value) (w w' : World) : Prop := Keep v.ownBlock.toList w w' ∧ ∀ k, v'.ownBlock = some k → v.ownBlock = some k ∨ w.heap.size ≤ k
theorem Lies.refl (v : Value) (w : World) : Lies v v w w := ⟨Keep.refl _ _, fun _ h => .inl h⟩
theorem Lies.trans {v v1 v2 : Value} {w w1 w2 : World} (h : Lies v v1 w w1) (g : Lies v1 v2 w1 w2) : Lies v v2 w w2 :=
  ⟨h.1.transTo g.1 fun x hx => (h.2 x (by simpa using hx)).imp (fun h => by simpa using h) id, fun k hk => (g.2 k hk).elim (h.2 k) fun hl => .inr (Nat.le_trans h.1.size hl)⟩
theorem Lies.keep {v v1 : Value} {w w1 w2 : World} (h : Lies v v1 w w1) (k : Keep [] w1 w2) : Lies v v1 w w2 := ⟨h.1.trans0 k, h.2⟩
theorem Lies.after {v v1 : Value} {w w1 w2 : World} (k : Keep [] w w1) (h : Lies v v1 w1 w2) : Lies v v1 w w2 :=
  ⟨k.of0.transTo h.1 fun _ hx => .inl hx, fun x hx => (h.2 x hx).imp id fun hl => Nat.le_trans k.size hl⟩
theorem Lies.heap {v v1 : Value} {w w1 : World} {o : Obj} {b : Nat} (h : Lies v v1 w w1) (hb : w.heap[b]? = some o) (hn : v.ownBlock ≠ some b) : w1.heap[b]? = some o :=
  h.1.heap hb (by simpa using hn)
theorem Lies.ne {v v1 : Value} {w w1 : World} {b : Nat} (h : Lies v v1 w w1) (hb : b < w.heap.size) (hn : v.ownBlock ≠ some b) : v1.ownBlock ≠ some b := fun hk =>
  (h.2 b hk).elim hn fun hl => by omega
theorem Lies.size {v v1 : Value} {w w1 : World} (h : Lies v v1 w w1) : w.heap.size ≤ w1.heap.size := h.1.size
theorem OwnB.nil (w : World) (N : Nat) : OwnB w N (.slice none 0 0) [] := World.ownsRow_nil _ _ _ _
theorem OwnB.keep {w w1 : World} {N : Nat} {v : Value} {l : List UInt8} (h : OwnB w N v l) (k : Keep [] w w1) : OwnB w1 N v l := own_keepV h k (by simp)
theorem OwnB.form {w : World} {N : Nat} {v : Value} {l : List UInt8} (h : OwnB w N v l) : ∃ ad cap, v = .slice ad l.length cap := own_form h
theorem app_str {w : World} {ops : Array Oper} {rest : List Oper} {o : Oper} {a : Act} {Q : Exit → Act → World → Prop} (N : Nat) (v : Value) (l : List UInt8) (s : ByteArray) (sl x : Operand)
    (hgd : o.guard = none) (ho : o.op = .call { callee := .builtin .append, args := #[sl, x], argTypes := #[49, 9] }) (hs : a.eval sl = v) (hx : a.eval x = .string s)
    (hown : OwnB w N v l) (hsz : l.length + s.size ≤ 137438953472) (hb : N ≤ w.heap.size)
    (h : ∀ v' w', OwnB w' N v' (l ++ s.data.toList) → Lies v v' w w' → wpList Tryz.prog ops Q rest (a.put o.dst v') w') : wpList Tryz.prog ops Q (o :: rest) a w := by
  obtain ⟨i0, hi0, hz0, hz1, hz2⟩ := info_partsV Tryz.infoU8
  refine wpList_append_string_lies w hgd sl x 49 9 ho N 5 i0 Tryz.underlying49 Tryz.underlying9 hi0 hz0 hz1 hz2 v l.length (Lib.byteCells l) hs hown s hx (by unfold maxLen; omega) (by omega) hb ?_
  intro v2 w2 ho2 hg2 hl2
  refine h v2 w2 ?_ ⟨(Keep.refl _ w).grown hg2 fun k hk => .inl (by simpa using hk), hl2⟩
  unfold OwnB
  rw [List.length_append, Lib.byteCells_append]
  exact ho2
theorem app_one {w : World} {ops : Array Oper} {rest : List Oper} {o : Oper} {a : Act} {Q : Exit → Act → World → Prop} (N : Nat) (v : Value) (l : List UInt8) (c : UInt8) (u : Value) (sl x : Operand)
    (hu : u = .int .u8 c.toNat)
    (hgd : o.guard = none) (ho : o.op = .call { callee := .builtin .append, args := #[sl, x], argTypes := #[49, 49] }) (hs : a.eval sl = v) (hx : a.eval x = .slice (some ⟨w.heap.size, 0, none⟩) 1 1)
    (hown : OwnB w N v l) (hsz : l.length + 1 ≤ 137438953472) (hb : N ≤ w.heap.size)
    (h : ∀ v' w', OwnB w' N v' (l ++ [c]) → Lies v v' w w' → wpList Tryz.prog ops Q rest (a.put o.dst v') w') : wpList Tryz.prog ops Q (o :: rest) a (w.alloc (.cells #[u] 5)) := by
  obtain ⟨i0, hi0, hz0, hz1, hz2⟩ := info_partsV Tryz.infoU8
  refine wpList_append_lies (w.alloc (.cells #[u] 5)) hgd sl x 49 ho N 5 i0 (.int .u8 0) 1 1 Tryz.underlying49 hi0 hz0 hz1 hz2 rfl (by omega) v l.length (Lib.byteCells l) hs (hown.alloc _) ⟨w.heap.size, 0, none⟩ 1 1 [u] hx rfl (World.news_of_block (cs := #[u]) (t := 5) (fr := (0, 0)) (heap_alloc_new w _)) (by intro z hz; rw [List.mem_singleton.1 hz, hu]; rfl) (by omega) (by unfold maxLen; omega) (by omega) (by simp; omega) (w.heap.size + 1) (by simp) ?_
  intro g cap w2 ho2 hg2 hl2 _
  refine h _ w2 ?_ ⟨((Keep.refl _ w).alloc _).grown hg2 fun k hk => .inl (by simpa using hk), fun k hk => ?_⟩
  · unfold OwnB
    rw [List.length_append, Lib.byteCells_append]
    rw [hu] at ho2
    exact ho2
  · rcases hl2 with hl | hl
    · have e : g = k := Option.some.inj hk
      rw [← e]; exact .inl hl
    · have e : g = k := Option.some.inj hk
      right; omega

set_option maxHeartbeats 1000000 in
set_option maxRecDepth 100000 in
theorem xtwo_any (x : UInt8) (w : World) : Calls Tryz.prog 84 #[.int .u8 x.toNat] w fun e w' => e = .returned (.string ⟨(hexT x).toArray⟩) ∧ Keep [] w w' := by
  have hxl := x.toNat_lt
  have hi1 : ∀ V : World, (Instr.index 9 (.string ⟨#[48, 49, 50, 51, 52, 53, 54, 55, 56, 57, 97, 98, 99, 100, 101, 102]⟩) (.int .u8 ((x.toNat : Int) / 16))).run Tryz.prog V = .ok (.int .u8 (hexB (x.toNat / 16)).toNat) V := fun V => by
    rw [show ((x.toNat : Int) / 16) = ((x.toNat / 16 : Nat) : Int) by omega]; exact index_hex _ (by omega) V
  have hi2 : ∀ V : World, (Instr.index 9 (.string ⟨#[48, 49, 50, 51, 52, 53, 54, 55, 56, 57, 97, 98, 99, 100, 101, 102]⟩) (.int .u8 ((x.toNat : Int) % 16))).run Tryz.prog V = .ok (.int .u8 (hexB (x.toNat % 16)).toNat) V := fun V => by
    rw [show ((x.toNat : Int) % 16) = ((x.toNat % 16 : Nat) : Int) by omega]; exact index_hex _ (by omega) V
  have hcb : ∀ V : World, (convert 49 9 (.slice (some ⟨V.heap.size, 0, none⟩) 2 2)).run Tryz.prog (V.alloc (.cells #[.int .u8 (hexB (x.toNat / 16)).toNat, .int .u8 (hexB (x.toNat % 16)).toNat] 5)) = .ok (.string ⟨(hexT x).toArray⟩) (V.alloc (.cells #[.int .u8 (hexB (x.toNat / 16)).toNat, .int .u8 (hexB (x.toNat % 16)).toNat] 5)) := fun V =>
    run_convert_bytes_back _ 49 9 5 ⟨V.heap.size, 0, none⟩ 2 (hexT x) Tryz.underlying49 Tryz.underlying5 Tryz.underlying9 (fun j hj => by
      have hj2 : j < 2 := hj
      have e : (⟨V.heap.size, 0, none⟩ : Addr).add j = ⟨V.heap.size, j, none⟩ := by unfold Addr.add; split <;> simp_all
      rw [e, cell_of (alloc_at V _) j]
      match j, hj2 with
      | 0, _ => rfl
      | 1, _ => rfl)
  have hw1 : IntKind.u8.wrap ((x.toNat : Int) / 16) = (x.toNat : Int) / 16 := by
    rw [show ((x.toNat : Int) / 16) = ((x.toNat / 16 : Nat) : Int) by omega]; exact wrap_byte _ (by omega)
  have hw2 : IntKind.u8.wrap ((x.toNat : Int) % 16) = (x.toNat : Int) % 16 := by
    rw [show ((x.toNat : Int) % 16) = ((x.toNat % 16 : Nat) : Int) by omega]; exact wrap_byte _ (by omega)
  have ht : (x.toNat : Int).tmod 16 = (x.toNat : Int) % 16 := Int.tmod_eq_emod_of_nonneg (by omega)
  go_enter Tryz.func84, Tryz.ntmps84
  go_wp2_with fail
  go_still_tail 6, (by kernel_rfl)
  change wpList _ _ _ _ _ w.drew
  have HK : Hid (Keep [] w w.drew) := Lib.hid ((Keep.refl [] w).drew)
  obtain ⟨wd, hwd⟩ : ∃ wd, wd = w.drew := ⟨_, rfl⟩
  rw [← hwd] at HK ⊢
  clear hwd
  have hcb2 := hcb wd
  clear hcb
  go_wp2_with fail
  go_ret
  exact ⟨rfl, HK.out.alloc _⟩

theorem extract_list (r : ByteArray) (n : Nat) : (r.extract n r.size).data.toList = r.data.toList.drop n := by
  rw [ByteArray.data_extract, Array.toList_extract]; simp [List.extract]
  rw [List.take_of_length_le (by rw [List.length_drop]; exact Nat.le_refl _)]
theorem extract_take (r : ByteArray) (n : Nat) : (r.extract 0 n).data.toList = r.data.toList.take n := by
  rw [ByteArray.data_extract, Array.toList_extract]; simp [List.extract]
def EsR (s : ByteArray) (R : List UInt8) (w : World) (g : Nat) (i v : Value) (wr : World) : Prop :=
  ∃ (r : ByteArray) (fuel : Nat) (acc : List UInt8), i = .string r ∧ r.size ≤ g ∧ r.size < fuel ∧ r.size ≤ s.size ∧ acc.length + 3 * r.size ≤ 3 * s.size ∧ Hid (acc ++ escP fuel r.data.toList = R) ∧ Hid (OwnB wr w.heap.size v acc) ∧ Hid (Keep [] w wr)
set_option maxHeartbeats 2000000 in
set_option maxRecDepth 100000 in
theorem xescape_any (s : ByteArray) (w : World) (hs : s.size ≤ 1073741824) : Calls Tryz.prog 56 #[.string s] w fun e w' => e = .returned (.string (escB s)) ∧ Keep [] w w' := by
  obtain ⟨R, hR⟩ : ∃ R, escP (s.size + 1) s.data.toList = R := ⟨_, rfl⟩
  unfold escB
  rw [hR]
  have HR := Lib.hid hR
  clear hR
  go_enter Tryz.func56, Tryz.ntmps56
  go_wp2_with fail
  go_loopg [0, 3] (s.size) (fun g i v wr => EsR s R w g i v wr)
  case atStart => exact ⟨s, s.size + 1, [], rfl, Nat.le_refl _, by omega, Nat.le_refl _, by simp, HR, Lib.hid (OwnB.nil _ _), Lib.hid (Keep.refl _ _)⟩
  case round =>
    clear HR
    obtain ⟨r, fuel, acc, rfl, hg, hf, hrs, hal, HU, HO, HK⟩ := hrel
    have hNw := HK.out.size
    by_cases h0 : 0 < r.size
    · have hem := isEmpty_has h0
      obtain ⟨c, hc⟩ : ∃ c, r[0] = c := ⟨_, rfl⟩
      obtain ⟨t, hl⟩ : ∃ t, r.data.toList = c :: t := ⟨_, by have := drop_at r 0 h0; rw [List.drop_zero, hc] at this; exact this⟩
      have HF := Lib.hid (fun W => xfirst_any r W (by unfold maxLen; omega) h0)
      obtain ⟨f, rfl⟩ : ∃ f, fuel = f + 1 := ⟨fuel - 1, by omega⟩
      obtain ⟨n, hn⟩ : ∃ n, firstP r.data.toList = n := ⟨_, rfl⟩
      rw [hn] at HF
      have HU2 : Hid (acc ++ (if n = 0 ∨ bareB c = true then 92 :: (hexT c ++ escP f (r.data.toList.drop 1)) else r.data.toList.take n ++ escP f (r.data.toList.drop n)) = R) := Lib.hid (by
        rw [← HU.out, hl, escP, ← hl, hn, hl]
        rfl)
      have HB := Lib.hid (fun W => xbare_any c W)
      have hTw : (⟨(hexT c).toArray⟩ : ByteArray).size = 2 := rfl
      have HTW := Lib.hid (fun W => xtwo_any c W)
      obtain ⟨bb, hbb⟩ : ∃ bb, bareB c = bb := ⟨_, rfl⟩
      have hBW := HB.out
      rw [hbb] at hBW
      have HBW := Lib.hid hBW
      have hU2 := HU2.out
      rw [hbb] at hU2
      have HU3 := Lib.hid hU2
      have hle := firstP_le r.data.toList
      rw [hn] at hle
      have hle2 : n ≤ r.size := hle
      have hni : (n : Int) ≤ (r.size : Int) := by omega
      clear HU HU2 HB hU2 hBW hbb hle hn hl
      cases hz : decide (n = 0) with
      | true =>
        have hnf : ((n : Int) == 0) = true := by rw [beq_iff_eq]; have := of_decide_eq_true hz; omega
        have HT1 : Hid (acc ++ 92 :: (hexT c ++ escP f (r.data.toList.drop 1)) = R) := Lib.hid (by have h := HU3.out; rw [if_pos (.inl (of_decide_eq_true hz))] at h; exact h)
        clear hz HU3
        go_upto_region 5 with (first
          | (go_at_call 82; refine (HF.out _).mono ?_; rintro e w2 ⟨rfl, rfl⟩)
          | (go_at_call 83; refine (HBW.out _).mono ?_; rintro e w2 ⟨rfl, rfl⟩))
        go_wp2_with (first
          | (at_builtin; refine app_one w.heap.size u3 acc 92 (.int .u8 92) (.tmp 16) (.tmp 17) (by rfl) (by rfl) (by rfl) (by rfl) (by rfl) HO.out (by omega) (by omega) ?_; intro v2 w2 ho2 hl2; have hw2 := hl2.size; have HO2 := Lib.hid ho2; have HL2 := Lib.hid hl2; clear ho2 hl2)
          | (go_at_call 84; refine (HTW.out _).mono ?_; rintro e w3 ⟨rfl, hK3⟩; have hw3 := hK3.size; have HO3 := Lib.hid (HO2.out.keep hK3); have HK3 := Lib.hid hK3; clear hK3)
          | (at_builtin; refine app_str w.heap.size v2 (acc ++ [92]) ⟨(hexT c).toArray⟩ (.tmp 19) (.tmp 22) (by rfl) (by rfl) (by rfl) (by rfl) HO3.out (by rw [hTw, List.length_append]; simp; omega) (by omega) ?_; intro v4 w4 ho4 hl4; have hw4 := hl4.size; have HO4 := Lib.hid ho4; have HL4 := Lib.hid hl4; clear ho4 hl4))
        go_roundg (r.size - 1)
        case measure => omega
        case rel =>
          refine ⟨r.extract 1 r.size, f, acc ++ 92 :: hexT c, rfl, ?_, ?_, ?_, ?_, ?_, ?_, ?_⟩
          · rw [ByteArray.size_extract]; omega
          · rw [ByteArray.size_extract]; omega
          · rw [ByteArray.size_extract]; omega
          · rw [ByteArray.size_extract, List.length_append]; simp [hexT]; omega
          · refine Lib.hid ?_
            rw [extract_list, List.append_assoc]
            exact HT1.out
          · have h := HO4.out
            rw [List.append_assoc] at h
            exact Lib.hid h
          · exact Lib.hid (HK.out.transTo ((Lies.trans HL2.out (Lies.after HK3.out HL4.out)).1) (fun x hx => .inr (own_ge HO.out (by simpa using hx))))
      | false =>
        have hnf : ((n : Int) == 0) = false := by rw [beq_eq_false_iff_ne]; have := of_decide_eq_false hz; omega
        cases bb with
        | true =>
          have HT1 : Hid (acc ++ 92 :: (hexT c ++ escP f (r.data.toList.drop 1)) = R) := Lib.hid (by have h := HU3.out; rw [if_pos (.inr rfl)] at h; exact h)
          clear hz HU3
          go_upto_region 5 with (first
            | (go_at_call 82; refine (HF.out _).mono ?_; rintro e w2 ⟨rfl, rfl⟩)
            | (go_at_call 83; refine (HBW.out _).mono ?_; rintro e w2 ⟨rfl, rfl⟩))
          go_wp2_with (first
            | (at_builtin; refine app_one w.heap.size u3 acc 92 (.int .u8 92) (.tmp 16) (.tmp 17) (by rfl) (by rfl) (by rfl) (by rfl) (by rfl) HO.out (by omega) (by omega) ?_; intro v2 w2 ho2 hl2; have hw2 := hl2.size; have HO2 := Lib.hid ho2; have HL2 := Lib.hid hl2; clear ho2 hl2)
            | (go_at_call 84; refine (HTW.out _).mono ?_; rintro e w3 ⟨rfl, hK3⟩; have hw3 := hK3.size; have HO3 := Lib.hid (HO2.out.keep hK3); have HK3 := Lib.hid hK3; clear hK3)
            | (at_builtin; refine app_str w.heap.size v2 (acc ++ [92]) ⟨(hexT c).toArray⟩ (.tmp 19) (.tmp 22) (by rfl) (by rfl) (by rfl) (by rfl) HO3.out (by rw [hTw, List.length_append]; simp; omega) (by omega) ?_; intro v4 w4 ho4 hl4; have hw4 := hl4.size; have HO4 := Lib.hid ho4; have HL4 := Lib.hid hl4; clear ho4 hl4))
          go_roundg (r.size - 1)
          case measure => omega
          case rel =>
            refine ⟨r.extract 1 r.size, f, acc ++ 92 :: hexT c, rfl, ?_, ?_, ?_, ?_, ?_, ?_, ?_⟩
            · rw [ByteArray.size_extract]; omega
            · rw [ByteArray.size_extract]; omega
            · rw [ByteArray.size_extract]; omega
            · rw [ByteArray.size_extract, List.length_append]; simp [hexT]; omega
            · refine Lib.hid ?_
              rw [extract_list, List.append_assoc]
              exact HT1.out
            · have h := HO4.out
              rw [List.append_assoc] at h
              exact Lib.hid h
            · exact Lib.hid (HK.out.transTo ((Lies.trans HL2.out (Lies.after HK3.out HL4.out)).1) (fun x hx => .inr (own_ge HO.out (by simpa using hx))))
        | false =>
          have HT1 : Hid (acc ++ (r.data.toList.take n ++ escP f (r.data.toList.drop n)) = R) := Lib.hid (by have h := HU3.out; rw [if_neg (fun h2 => h2.elim (of_decide_eq_false hz) (by simp))] at h; exact h)
          have hn1 : 1 ≤ n := by have := of_decide_eq_false hz; omega
          clear hz HU3
          go_upto_region 8 with (first
            | (go_at_call 82; refine (HF.out _).mono ?_; rintro e w2 ⟨rfl, rfl⟩)
            | (go_at_call 83; refine (HBW.out _).mono ?_; rintro e w2 ⟨rfl, rfl⟩))
          go_wp2_with (first
            | (at_builtin; refine app_str w.heap.size u3 acc (r.extract 0 n) (.tmp 26) (.tmp 29) (by rfl) (by rfl) (by rfl) (by rfl) HO.out (by rw [ByteArray.size_extract]; omega) (by omega) ?_; intro v4 w4 ho4 hl4; have hw4 := hl4.size; have HO4 := Lib.hid ho4; have HL4 := Lib.hid hl4; clear ho4 hl4))
          go_roundg (r.size - n)
          case measure => omega
          case rel =>
            refine ⟨r.extract n r.size, f, acc ++ r.data.toList.take n, rfl, ?_, ?_, ?_, ?_, ?_, ?_, ?_⟩
            · rw [ByteArray.size_extract]; omega
            · rw [ByteArray.size_extract]; omega
            · rw [ByteArray.size_extract]; omega
            · rw [ByteArray.size_extract, List.length_append, List.length_take]; have : r.data.toList.length = r.size := rfl; omega
            · refine Lib.hid ?_
              rw [extract_list, List.append_assoc]
              exact HT1.out
            · have h := HO4.out
              rw [extract_take] at h
              exact Lib.hid h
            · exact Lib.hid (HK.out.transTo HL4.out.1 (fun x hx => .inr (own_ge HO.out (by simpa using hx))))
    · have HX : Hid (acc = R) := Lib.hid (by
        have h2 : r.data.toList = [] := List.length_eq_zero_iff.1 (show r.size = 0 by omega)
        rw [← HU.out, h2, escP_nil, List.append_nil])
      have hem : r.toList.isEmpty = true := by rw [ByteArray.toList_eq, List.length_eq_zero_iff.1 (show r.data.toList.length = 0 by show r.size = 0; omega)]; rfl
      have hcv := conv_owns acc HO.out
      rw [HX.out] at hcv
      go_wp2_with fail
      go_ret
      exact ⟨rfl, HK.out⟩
end Go.Proofs.YtjmpcoedfoaebaaGreatDoor

open Go Go.RowKit
namespace Go.Proofs.YtjmpcoedfoaebaaGreatDoor

/-- What stands between a description and a value. -/
def opT (it : Itm) : List UInt8 := (if it.dn then [58, 100, 110] else []) ++ ((if someB it.rule then 58 :: txL it.rule else []) ++ txL (signP it.kind))
theorem body_op {it : Itm} {ks : List UInt8} (h0 : it.kind ≠ 0) (h1 : it.kind ≠ 1) (h2 : it.kind ≠ 2) (h4 : it.kind ≠ 4) : bodyL it ks = txL it.desc ++ (opT it ++ txL (escB it.value)) := by
  unfold bodyL opT
  rw [if_neg (by omega), if_neg h4]
  simp only [List.append_assoc]
theorem opT_sign {it : Itm} (hd : it.dn = false) (hr : someB it.rule = false) : opT it = txL (signP it.kind) := by
  unfold opT; rw [hd, hr]; rfl

set_option maxHeartbeats 2000000 in
set_option maxRecDepth 100000 in
theorem yop_any (it : Itm) (a1 : Option Addr) (n1 c1 : Nat) (a2 : Option Addr) (n2 c2 : Nat) (w : World) (hk : it.kind = 3 ∨ it.kind = 5 ∨ it.kind = 6 ∨ it.kind = 7 ∨ it.kind = 8 ∨ it.kind = 9)
    (hx : it.kind ≠ 9 → it.dn = false ∧ someB it.rule = false) (hz : it.rule.size ≤ 65536) :
    Calls Tryz.prog 57 #[.agg #[.int .i8 it.kind, .slice a1 n1 c1, .string it.desc, .string it.value, .string it.start, .slice a2 n2 c2, .string it.fin, .string it.rule, .bool it.dn]] w fun e w' => e = .returned (.string ⟨(opT it).toArray⟩) ∧ Keep [] w w' := by
  obtain ⟨R, hR⟩ : ∃ R, opT it = R := ⟨_, rfl⟩
  rw [hR]
  rcases (show (it.kind = 3 ∨ it.kind = 5 ∨ it.kind = 6 ∨ it.kind = 7 ∨ it.kind = 8) ∨ it.kind = 9 by omega) with h | h
  · obtain ⟨h1, h2⟩ := hx (by omega)
    rw [opT_sign h1 h2] at hR
    clear hx hk h1 h2
    have HR := Lib.hid hR
    clear hR
    rcases h with h | h | h | h | h
    all_goals
      rw [h] at HR ⊢
      clear h
      have HK := Lib.hid ((Keep.refl [] w).alloc (.cells #[.int .i8 3, .slice a1 n1 c1, .string it.desc, .string it.value, .string it.start, .slice a2 n2 c2, .string it.fin, .string it.rule, .bool it.dn] 26))
      go_enter Tryz.func57, Tryz.ntmps57
      go_wp2_with fail
      go_ret
      exact ⟨by rw [← HR.out]; rfl, (Keep.refl [] w).alloc _⟩
  · have HX : Hid ((if it.dn then [58, 100, 110] else []) ++ ((if someB it.rule then 58 :: txL it.rule else []) ++ [58, 61]) = R) := Lib.hid (by rw [← hR]; unfold opT; rw [h]; rfl)
    rw [h]
    clear hx hk h hR
    obtain ⟨db, hdb⟩ : ∃ db, it.dn = db := ⟨_, rfl⟩
    obtain ⟨rb, hrb, HRB⟩ : ∃ rb, it.rule.toList.isEmpty = rb ∧ Hid (someB it.rule = !rb) := ⟨_, rfl, Lib.hid rfl⟩
    rw [hdb, HRB.out] at HX
    rw [hdb]
    cases db <;> cases rb
    all_goals
      go_enter Tryz.func57, Tryz.ntmps57
      go_wp2_with fail
      go_ret
      exact ⟨by rw [← HX.out]; first | rfl | (congr 2; apply ByteArray.ext; simp [ByteArray.data_append, txL]), (Keep.refl [] w).alloc _⟩

/-- A row of bytes that grows; a variable beside it. -/
structure StB (N b0 : Nat) (c : Obj) (v : Value) (w : World) (l : List UInt8) (u : Value) (wr : World) : Prop where
  own : OwnB wr N u l
  lies : Lies v u w wr
  box : wr.heap[b0]? = some c
  ne : u.ownBlock ≠ some b0
  low : N ≤ b0
theorem StB.lt {N b0 : Nat} {c : Obj} {v : Value} {w : World} {l : List UInt8} {u : Value} {wr : World} (h : StB N b0 c v w l u wr) : b0 < wr.heap.size := lt_of_block h.box
theorem StB.keep {N b0 : Nat} {c : Obj} {v : Value} {w : World} {l : List UInt8} {u : Value} {wr w' : World} (h : StB N b0 c v w l u wr) (k : Keep [] wr w') : StB N b0 c v w l u w' :=
  ⟨h.own.keep k, h.lies.keep k, k.heap h.box (by simp), h.ne, h.low⟩
theorem StB.next {N b0 : Nat} {c : Obj} {v : Value} {w : World} {l l' : List UInt8} {u u' : Value} {wr w' : World} (h : StB N b0 c v w l u wr) (hl : Lies u u' wr w') (ho : OwnB w' N u' l') : StB N b0 c v w l' u' w' :=
  ⟨ho, h.lies.trans hl, hl.heap h.box h.ne, hl.ne h.lt h.ne, h.low⟩
theorem st_str {ops : Array Oper} {rest : List Oper} {o : Oper} {a : Act} {Q : Exit → Act → World → Prop} {N b0 : Nat} {c : Obj} {v : Value} {w : World} {l : List UInt8} {u : Value} {wr : World} (h : StB N b0 c v w l u wr) (s : ByteArray) (sl x : Operand)
    (hgd : o.guard = none) (ho : o.op = .call { callee := .builtin .append, args := #[sl, x], argTypes := #[49, 9] }) (hs : a.eval sl = u) (hx : a.eval x = .string s)
    (hsz : l.length + s.size ≤ 137438953472)
    (k : ∀ v' w', StB N b0 c v w (l ++ txL s) v' w' → wpList Tryz.prog ops Q rest (a.put o.dst v') w') : wpList Tryz.prog ops Q (o :: rest) a wr :=
  app_str N u l s sl x hgd ho hs hx h.own hsz (Nat.le_of_lt (Nat.lt_of_le_of_lt h.low h.lt)) fun v' w' h1 h2 => k v' w' (h.next h2 h1)
theorem st_one {ops : Array Oper} {rest : List Oper} {o : Oper} {a : Act} {Q : Exit → Act → World → Prop} {N b0 : Nat} {c : Obj} {v : Value} {w : World} {l : List UInt8} {u : Value} {wr : World} (h : StB N b0 c v w l u wr) (d : UInt8) (y : Value) (sl x : Operand)
    (hu : y = .int .u8 d.toNat)
    (hgd : o.guard = none) (ho : o.op = .call { callee := .builtin .append, args := #[sl, x], argTypes := #[49, 49] }) (hs : a.eval sl = u) (hx : a.eval x = .slice (some ⟨wr.heap.size, 0, none⟩) 1 1)
    (hsz : l.length + 1 ≤ 137438953472)
    (k : ∀ v' w', StB N b0 c v w (l ++ [d]) v' w' → wpList Tryz.prog ops Q rest (a.put o.dst v') w') : wpList Tryz.prog ops Q (o :: rest) a (wr.alloc (.cells #[y] 5)) :=
  app_one N u l d y sl x hu hgd ho hs hx h.own hsz (Nat.le_of_lt (Nat.lt_of_le_of_lt h.low h.lt)) fun v' w' h1 h2 => k v' w' (h.next h2 h1)
/-- What the writing of a part does: the row, or no room. -/
def WtR (N : Nat) (v : Value) (R : List UInt8) (w : World) (e : Ending) (w' : World) : Prop :=
  ∃ v', e = .returned (.tuple #[v', .bool (decide (R.length ≤ 1048576))]) ∧ Lies v v' w w' ∧ (R.length ≤ 1048576 → OwnB w' N v' R)
end Go.Proofs.YtjmpcoedfoaebaaGreatDoor

open Go Go.RowKit
namespace Go.Proofs.YtjmpcoedfoaebaaGreatDoor

theorem st_start {N : Nat} {v : Value} {w : World} {l : List UInt8} (h : OwnB w N v l) (hN : N ≤ w.heap.size) (cs : Array Value) (t : TypeId) : StB N w.heap.size (.cells cs t (0, 0)) v w l v (w.alloc (.cells cs t)) :=
  ⟨h.alloc _, (Lies.refl v w).keep ((Keep.refl [] w).alloc _), alloc_at _ _, (fun hb => by have := (h.lt _ hb).2; omega), hN⟩

set_option maxHeartbeats 4000000 in
set_option maxRecDepth 100000 in
theorem wt_item (N : Nat) (v : Value) (l : List UInt8) (it : Itm) (a1 : Option Addr) (n1 c1 : Nat) (a2 : Option Addr) (n2 c2 : Nat) (w : World) (hN : N ≤ w.heap.size) (hO : OwnB w N v l) (hl : l.length ≤ 2000000)
    (hk : it.kind = 3 ∨ it.kind = 5 ∨ it.kind = 6 ∨ it.kind = 7 ∨ it.kind = 8 ∨ it.kind = 9) (hx : it.kind ≠ 9 → it.dn = false ∧ someB it.rule = false) (hlong : longB it = false) :
    Calls Tryz.prog 34 #[v, .agg #[.int .i8 it.kind, .slice a1 n1 c1, .string it.desc, .string it.value, .string it.start, .slice a2 n2 c2, .string it.fin, .string it.rule, .bool it.dn]] w (WtR N v (l ++ 40 :: (bodyL it [] ++ [41])) w) := by
  obtain ⟨z2, z3, _, _, z7, _⟩ := long_no hlong
  have hOp := fun V => yop_any it a1 n1 c1 a2 n2 c2 V hk hx z7
  have hE3 := escB_size it.value
  have hEV := fun V => xescape_any it.value V (by omega)
  obtain ⟨E, hE⟩ : ∃ E, escB it.value = E := ⟨_, rfl⟩
  obtain ⟨T, hT⟩ : ∃ T : ByteArray, (⟨(opT it).toArray⟩ : ByteArray) = T := ⟨_, rfl⟩
  have hTs : T.size ≤ 65542 := by
    rw [← hT]
    show (opT it).toArray.size ≤ _
    have := sign_size it.kind
    have e : (txL (signP it.kind)).length = (signP it.kind).size := rfl
    have e2 : (txL it.rule).length = it.rule.size := rfl
    unfold opT
    cases it.dn <;> cases someB it.rule <;> simp <;> omega
  obtain ⟨R, hR⟩ : ∃ R, l ++ 40 :: (bodyL it [] ++ [41]) = R := ⟨_, rfl⟩
  have HR : Hid (l ++ [40] ++ txL it.desc ++ txL T ++ txL E ++ [41] = R) := Lib.hid (by
    rw [← hR, body_op (by omega) (by omega) (by omega) (by omega), hE, ← hT]
    simp [List.append_assoc, txL])
  rw [hR]
  rw [hE] at hEV hE3
  rw [hT] at hOp
  have HDC : Hid (decide ((R.length : Int) ≤ 1048576) = decide (R.length ≤ 1048576)) := Lib.hid (by rw [decide_eq_decide]; omega)
  have HEV := Lib.hid hEV
  have HOP := Lib.hid hOp
  have k0 : (it.kind == 0) = false := by rw [beq_eq_false_iff_ne]; omega
  have k1 : (it.kind == 1) = false := by rw [beq_eq_false_iff_ne]; omega
  have k2 : (it.kind == 2) = false := by rw [beq_eq_false_iff_ne]; omega
  have k4 : (it.kind == 4) = false := by rw [beq_eq_false_iff_ne]; omega
  have HS0 := Lib.hid (st_start hO hN #[.int .i8 it.kind, .slice a1 n1 c1, .string it.desc, .string it.value, .string it.start, .slice a2 n2 c2, .string it.fin, .string it.rule, .bool it.dn] 26)
  clear hE hT hR hEV hOp hk hx hlong hO
  obtain ⟨W0, hW0⟩ : ∃ W0, W0 = w.alloc (.cells #[.int .i8 it.kind, .slice a1 n1 c1, .string it.desc, .string it.value, .string it.start, .slice a2 n2 c2, .string it.fin, .string it.rule, .bool it.dn] 26) := ⟨_, rfl⟩
  rw [← hW0] at HS0
  go_enter Tryz.func34, Tryz.ntmps34
  go_upto_region 1 with fail
  rw [← hW0]
  clear hW0
  go_upto_region 2 with (at_builtin; refine st_one HS0.out 40 (.int .u8 40) (.tmp 14) (.tmp 15) (by rfl) (by rfl) (by rfl) (by rfl) (by rfl) (by omega) ?_; intro v1 w1 hS; have HS1 := Lib.hid hS; clear hS)
  obtain ⟨x0, x1, x2, x3, x4, x5, x6, x7, x8, xf⟩ := nine HS1.out.box
  go_wp2_with (first
    | (go_at_call 57; refine (HOP.out _).mono ?_; rintro e w2 ⟨rfl, hK⟩; have HS2 := Lib.hid (HS1.out.keep hK); have y3 := cell_of HS2.out.box 3; clear hK)
    | (go_at_call 56; refine (HEV.out _).mono ?_; rintro e w3 ⟨rfl, hK⟩; have HS3 := Lib.hid (HS2.out.keep hK); have y2 := cell_of HS3.out.box 2; clear hK)
    | (at_builtin; refine st_str HS3.out it.desc (.tmp 24) (.tmp 26) (by rfl) (by rfl) (by rfl) (by rfl) (by rw [List.length_append]; show _ + 1 + _ ≤ _; omega) ?_; intro v4 w4 hS; have HS4 := Lib.hid hS; clear hS)
    | (at_builtin; refine st_str HS4.out T (.tmp 28) (.tmp 29) (by rfl) (by rfl) (by rfl) (by rfl) (by rw [List.length_append, List.length_append]; show _ + 1 + it.desc.size + _ ≤ _; omega) ?_; intro v5 w5 hS; have HS5 := Lib.hid hS; clear hS)
    | (at_builtin; refine st_str HS5.out E (.tmp 31) (.tmp 32) (by rfl) (by rfl) (by rfl) (by rfl) (by rw [List.length_append, List.length_append, List.length_append]; show _ + 1 + it.desc.size + T.size + _ ≤ _; omega) ?_; intro v6 w6 hS; have HS6 := Lib.hid hS; clear hS)
    | (at_builtin; refine st_one HS6.out 41 (.int .u8 41) (.tmp 112) (.tmp 113) (by rfl) (by rfl) (by rfl) (by rfl) (by rfl) (by rw [List.length_append, List.length_append, List.length_append, List.length_append]; show _ + 1 + it.desc.size + T.size + E.size + 1 ≤ _; omega) ?_; intro v7 w7 hS; rw [HR.out] at hS; obtain ⟨ad, cap, hv7⟩ := hS.own.form; subst hv7; have HS7 := Lib.hid hS; clear hS))
  go_ret2
  exact ⟨_, by rw [← HDC.out]; rfl, HS7.out.lies, fun _ => HS7.out.own⟩
end Go.Proofs.YtjmpcoedfoaebaaGreatDoor

open Go Go.RowKit
namespace Go.Proofs.YtjmpcoedfoaebaaGreatDoor

set_option maxHeartbeats 4000000 in
set_option maxRecDepth 100000 in
theorem wt_part (N H : Nat) (v : Value) (l : List UInt8) (it : Itm) (a1 : Option Addr) (n1 c1 : Nat) (a2 : Option Addr) (c2 : Nat) (w : World) (hN : N ≤ w.heap.size) (hHN : H ≤ N) (hO : OwnB w N v l) (hl : l.length ≤ 2000000)
    (hk : it.kind = 4) (hlong : longB it = false) (hT : Txt w H a2 it.mids) (hml : it.mids.length ≤ 9223372036854775807) :
    Calls Tryz.prog 34 #[v, .agg #[.int .i8 it.kind, .slice a1 n1 c1, .string it.desc, .string it.value, .string it.start, .slice a2 it.mids.length c2, .string it.fin, .string it.rule, .bool it.dn]] w (WtR N v (l ++ 40 :: (bodyL it [] ++ [41])) w) := by
  obtain ⟨z2, _, z4, z6, _, zm⟩ := long_no hlong
  have hE4 := escB_size it.start
  have hE6 := escB_size it.fin
  have hEV := fun V => xescape_any it.start V (by omega)
  have hEW := fun V => xescape_any it.fin V (by omega)
  obtain ⟨E, hE⟩ : ∃ E, escB it.start = E := ⟨_, rfl⟩
  obtain ⟨F, hF⟩ : ∃ F, escB it.fin = F := ⟨_, rfl⟩
  obtain ⟨R, hR⟩ : ∃ R, l ++ 40 :: (bodyL it [] ++ [41]) = R := ⟨_, rfl⟩
  obtain ⟨L0, hL0⟩ : ∃ L0, l ++ [40] ++ txL it.desc ++ [61] ++ txL E ++ [42] = L0 := ⟨_, rfl⟩
  have HR : Hid (L0 ++ midsL it.mids ++ txL F ++ [41] = R) := Lib.hid (by
    rw [← hR, ← hL0]
    unfold bodyL
    rw [if_neg (by omega), if_pos hk, hE, hF]
    simp [List.append_assoc, txL])
  rw [hE] at hEV hE4
  rw [hF] at hEW hE6
  rw [hR, hk]
  have HDC : Hid (decide ((R.length : Int) ≤ 1048576) = decide (R.length ≤ 1048576)) := Lib.hid (by rw [decide_eq_decide]; omega)
  have HEV := Lib.hid hEV
  have HEW := Lib.hid hEW
  have HL0 := Lib.hid hL0
  have hL0s : L0.length ≤ 2262147 := by
    rw [← hL0]
    simp only [List.length_append, List.length_cons, List.length_nil]
    have e1 : (txL it.desc).length = it.desc.size := rfl
    have e2 : (txL E).length = E.size := rfl
    omega
  have HM := Lib.hid zm
  have HVO : Hid (∀ x ∈ v.ownBlock.toList, H ≤ x) := Lib.hid (fun x hx => Nat.le_trans hHN (own_ge hO (by simpa using hx)))
  have HT := Lib.hid hT
  have HS0 := Lib.hid (st_start hO hN #[.int .i8 4, .slice a1 n1 c1, .string it.desc, .string it.value, .string it.start, .slice a2 it.mids.length c2, .string it.fin, .string it.rule, .bool it.dn] 26)
  obtain ⟨W0, hW0⟩ : ∃ W0, W0 = w.alloc (.cells #[.int .i8 4, .slice a1 n1 c1, .string it.desc, .string it.value, .string it.start, .slice a2 it.mids.length c2, .string it.fin, .string it.rule, .bool it.dn] 26) := ⟨_, rfl⟩
  rw [← hW0] at HS0
  clear hE hF hR hEV hEW hL0 hk hlong hO hT zm
  go_enter Tryz.func34, Tryz.ntmps34
  go_upto_region 1 with fail
  rw [← hW0]
  clear hW0
  go_upto_region 2 with (at_builtin; refine st_one HS0.out 40 (.int .u8 40) (.tmp 14) (.tmp 15) (by rfl) (by rfl) (by rfl) (by rfl) (by rfl) (by omega) ?_; intro v1 w1 hS; have HS1 := Lib.hid hS; clear hS)
  obtain ⟨x0, x1, x2, x3, x4, x5, x6, x7, x8, xf⟩ := nine HS1.out.box
  go_upto_region 21 with (go_at_call 56; refine (HEV.out _).mono ?_; rintro e w2 ⟨rfl, hK⟩; have HS2 := Lib.hid (HS1.out.keep hK); have y6 := cell_of HS2.out.box 6; clear hK)
  go_upto_region 22 with (go_at_call 56; refine (HEW.out _).mono ?_; rintro e w3 ⟨rfl, hK⟩; have HS3 := Lib.hid (HS2.out.keep hK); have y2 := cell_of HS3.out.box 2; clear hK)
  clear x0 x1 x2 x3 x4 x5 x6 x7 x8 xf y6
  go_upto_region 26 with (first
    | (at_builtin; refine st_str HS3.out it.desc (.tmp 72) (.tmp 74) (by rfl) (by rfl) (by rfl) (by rfl) (by rw [List.length_append]; show _ + 1 + _ ≤ _; omega) ?_; intro v4 w4 hS; have HS4 := Lib.hid hS; clear hS)
    | (at_builtin; refine st_one HS4.out 61 (.int .u8 61) (.tmp 76) (.tmp 77) (by rfl) (by rfl) (by rfl) (by rfl) (by rfl) (by rw [List.length_append, List.length_append]; show _ + 1 + it.desc.size + _ ≤ _; omega) ?_; intro v5 w5 hS; have HS5 := Lib.hid hS; clear hS)
    | (at_builtin; refine st_str HS5.out E (.tmp 79) (.tmp 80) (by rfl) (by rfl) (by rfl) (by rfl) (by rw [List.length_append, List.length_append, List.length_append]; show _ + 1 + it.desc.size + 1 + _ ≤ _; omega) ?_; intro v6 w6 hS; have HS6 := Lib.hid hS; clear hS)
    | (at_builtin; refine st_one HS6.out 42 (.int .u8 42) (.tmp 82) (.tmp 83) (by rfl) (by rfl) (by rfl) (by rfl) (by rfl) (by rw [List.length_append, List.length_append, List.length_append, List.length_append]; show _ + 1 + it.desc.size + 1 + E.size + 1 ≤ _; omega) ?_; intro v7 w7 hS; rw [HL0.out] at hS; have HS7 : Hid (StB N w.heap.size _ v w (L0 ++ midsL (it.mids.take 0)) v7 w7) := Lib.hid (by rw [List.take_zero]; show StB _ _ _ _ _ (L0 ++ []) _ _; rw [List.append_nil]; exact hS); clear hS))
  have HB0 : Hid ((L0 ++ midsL (it.mids.take 0)).length ≤ 2500000) := Lib.hid (by rw [List.take_zero]; show (L0 ++ []).length ≤ _; rw [List.append_nil]; omega)
  clear y2 HS0 HS1 HS2 HS3 HS4 HS5 HS6
  go_wp2_with fail
  go_loopg [0, 10] (it.mids.length) (fun g u i wr => ∃ k : Nat, k ≤ it.mids.length ∧ it.mids.length ≤ g + k ∧ i = .int .i64 k ∧ Hid ((L0 ++ midsL (it.mids.take k)).length ≤ 2500000) ∧ Hid (StB N w.heap.size (.cells #[.int .i8 4, .slice a1 n1 c1, .string it.desc, .string it.value, .string it.start, .slice a2 it.mids.length c2, .string it.fin, .string it.rule, .bool it.dn] 26 (0, 0)) v w (L0 ++ midsL (it.mids.take k)) u wr))
  case atStart => exact ⟨0, Nat.zero_le _, by omega, rfl, HB0, HS7⟩
  case round =>
    clear HB0 HS7
    obtain ⟨k, hk, hg, rfl, HB, HS⟩ := hrel
    obtain ⟨Lk, hLk⟩ : ∃ Lk, L0 ++ midsL (it.mids.take k) = Lk := ⟨_, rfl⟩
    rw [hLk] at HB HS
    have hLb := HB.out
    have HLK := Lib.hid hLk
    clear hLk
    obtain ⟨ad, cap, hu⟩ := HS.out.own.form
    subst hu
    have x5 := cell_of HS.out.box 5
    rcases (show (k < it.mids.length ∧ Lk.length ≤ 1048576) ∨ (k < it.mids.length ∧ 1048576 < Lk.length) ∨ it.mids.length ≤ k by omega) with ⟨hlt, hle⟩ | ⟨hlt, hgt⟩ | hge
    · have hki : (k : Int) < (it.mids.length : Int) := by omega
      have hli : (Lk.length : Int) ≤ 1048576 := by omega
      obtain ⟨r, hr⟩ : ∃ r, it.mids[k]? = some r := ⟨_, List.getElem?_eq_getElem hlt⟩
      have hrs : r.size ≤ 65536 := HM.out r (List.mem_of_getElem? hr)
      have hr3 := escB_size r
      have HN : Hid (Lk ++ txL (escB r) ++ [42] = L0 ++ midsL (it.mids.take (k + 1))) := Lib.hid (by
        rw [midsL_take it.mids k r hr, ← HLK.out]; simp [List.append_assoc])
      obtain ⟨G, hG⟩ : ∃ G, escB r = G := ⟨_, rfl⟩
      have hEG := fun V => xescape_any r V (by omega)
      rw [hG] at HN hr3 hEG
      have HEG := Lib.hid hEG
      obtain ⟨mb, mo, ha2, hmb, hc⟩ := (HT.out.keep HS.out.lies.1 (by omega) HVO.out).at hr
      subst ha2
      clear hG hEG hr
      go_wp2_with (first
        | (go_at_call 56; refine (HEG.out _).mono ?_; rintro e w3 ⟨rfl, hK⟩; have HS3 := Lib.hid (HS.out.keep hK); clear hK)
        | (at_builtin; refine st_str HS3.out G (.tmp 103) (.tmp 104) (by rfl) (by rfl) (by rfl) (by rfl) (by omega) ?_; intro v4 w4 hS; have HS4 := Lib.hid hS; clear hS)
        | (at_builtin; refine st_one HS4.out 42 (.int .u8 42) (.tmp 106) (.tmp 107) (by rfl) (by rfl) (by rfl) (by rfl) (by rfl) (by rw [List.length_append]; show _ + G.size + _ ≤ _; omega) ?_; intro v5 w5 hS; rw [HN.out] at hS; have HS5 := Lib.hid hS; clear hS))
      go_roundg (it.mids.length - (k + 1))
      case measure => omega
      case rel => exact ⟨k + 1, by omega, by omega, by go_num, Lib.hid (by rw [← HN.out, List.length_append, List.length_append]; show _ + G.size + 1 ≤ _; omega), HS5⟩
    · have hki : (k : Int) < (it.mids.length : Int) := by omega
      have hli : ¬ (Lk.length : Int) ≤ 1048576 := by omega
      have HF : Hid (decide (R.length ≤ 1048576) = false ∧ ¬ R.length ≤ 1048576) := Lib.hid (by
        have h : 1048576 < R.length := by
          have h1 := midsL_le it.mids k
          rw [← HR.out]
          rw [← HLK.out] at hgt
          simp only [List.length_append] at hgt ⊢
          omega
        exact ⟨by rw [decide_eq_false_iff_not]; omega, by omega⟩)
      have HFD : Hid (decide (((Lk ++ txL F ++ [41]).length : Int) ≤ 1048576) = false) := Lib.hid (by
        rw [decide_eq_false_iff_not, List.length_append, List.length_append]; omega)
      go_wp2_with (first
        | (at_builtin; refine st_str HS.out F (.tmp 109) (.tmp 110) (by rfl) (by rfl) (by rfl) (by rfl) (by omega) ?_; intro v4 w4 hS; have HS4 := Lib.hid hS; clear hS)
        | (at_builtin; refine st_one HS4.out 41 (.int .u8 41) (.tmp 112) (.tmp 113) (by rfl) (by rfl) (by rfl) (by rfl) (by rfl) (by rw [List.length_append]; show _ + F.size + _ ≤ _; omega) ?_; intro v5 w5 hS; obtain ⟨Z, hZ⟩ : ∃ Z, Lk ++ txL F ++ [41] = Z := ⟨_, rfl⟩; rw [hZ] at hS HFD; clear hZ; obtain ⟨ad5, cap5, hv5⟩ := hS.own.form; subst hv5; have HS5 := Lib.hid hS; clear hS))
      go_ret2
      exact ⟨_, by rw [HF.out.1, ← HFD.out]; rfl, HS5.out.lies, fun h => absurd h HF.out.2⟩
    · have hki : ¬ (k : Int) < (it.mids.length : Int) := by omega
      have HRE : Hid (Lk ++ txL F ++ [41] = R) := Lib.hid (by
        rw [← HR.out, ← HLK.out, List.take_of_length_le hge])
      go_wp2_with (first
        | (at_builtin; refine st_str HS.out F (.tmp 109) (.tmp 110) (by rfl) (by rfl) (by rfl) (by rfl) (by omega) ?_; intro v4 w4 hS; have HS4 := Lib.hid hS; clear hS)
        | (at_builtin; refine st_one HS4.out 41 (.int .u8 41) (.tmp 112) (.tmp 113) (by rfl) (by rfl) (by rfl) (by rfl) (by rfl) (by rw [List.length_append]; show _ + F.size + _ ≤ _; omega) ?_; intro v5 w5 hS; rw [HRE.out] at hS; obtain ⟨ad5, cap5, hv5⟩ := hS.own.form; subst hv5; have HS5 := Lib.hid hS; clear hS))
      go_ret2
      exact ⟨_, by rw [← HDC.out]; rfl, HS5.out.lies, fun _ => HS5.out.own⟩
end Go.Proofs.YtjmpcoedfoaebaaGreatDoor
