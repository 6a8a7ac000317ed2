/- octet.Unescape: the pieces of a text, or the code of what is wrong. -/
import Derived.Test.YtjmpcoedfoaebaaGreatDoorEnv
import Derived.WalkMore
import Derived.Shelf.Strings.MapGrows
import Derived.Outline
import Derived.Deep.LoopGhost
open Go Go.RowKit
namespace Go.Proofs.YtjmpcoedfoaebaaGreatDoor

theorem piece_cons (c : UInt8) (t : List UInt8) : pieceP (c :: t) = if c.toNat = 92 then (match pairV t with | some v => .ok ([v], 3) | none => .error 11) else if bareB c = true then .error 12 else if firstP (c :: t) = 0 then .error 10 else .ok ((c :: t).take (firstP (c :: t)), firstP (c :: t)) := rfl
theorem bare_no {c : UInt8} (h : ¬ c.toNat < 128) : bareB c = false := by
  cases hb : bareB c
  · rfl
  · exact absurd (bare_lt hb) (by omega)
theorem piece_bad {c : UInt8} {t : List UInt8} (h : firstP (c :: t) = 0) : pieceP (c :: t) = .error 10 := by
  have h128 : ¬ c.toNat < 128 := fun e => by rw [firstP_ascii c t e] at h; cases h
  rw [piece_cons, if_neg (by omega), bare_no h128, if_neg (by simp), if_pos h]
theorem piece_bare {c : UInt8} {t : List UInt8} (h : bareB c = true) (h2 : c.toNat ≠ 92) : pieceP (c :: t) = .error 12 := by
  rw [piece_cons, if_neg h2, if_pos h]
theorem piece_no {c : UInt8} {t : List UInt8} (h2 : c.toNat = 92) (h : pairV t = none) : pieceP (c :: t) = .error 11 := by
  rw [piece_cons, if_pos h2, h]
theorem piece_esc {c : UInt8} {t : List UInt8} {v : UInt8} (h2 : c.toNat = 92) (h : pairV t = some v) : pieceP (c :: t) = .ok ([v], 3) := by
  rw [piece_cons, if_pos h2, h]
theorem piece_fine {c : UInt8} {t : List UInt8} (h : bareB c = false) (hf : firstP (c :: t) ≠ 0) : pieceP (c :: t) = .ok ((c :: t).take (firstP (c :: t)), firstP (c :: t)) := by
  have h92 : c.toNat ≠ 92 := fun e => by unfold bareB at h; simp [e] at h
  rw [piece_cons, if_neg h92, h, if_neg (by simp), if_neg hf]
theorem bare_rune {c : UInt8} {t : List UInt8} (h : bareB c = true) : Lib.decodeL (c :: t) = (c.toNat, 1) := decodeL_ascii' c t (by have := bare_lt h; omega)

theorem pair_take (t : List UInt8) : pairV (t.take 2) = pairV t := by
  match t with
  | [] => rfl
  | [_] => rfl
  | _ :: _ :: _ => rfl
theorem ext_take (s : ByteArray) (i n : Nat) : (s.extract i (i + n)).data.toList = (s.data.toList.drop i).take n := by
  simp [ByteArray.data_extract, List.take_drop]
theorem ext_over (s : ByteArray) (i j : Nat) (h : s.size ≤ j) : s.extract i j = s.extract i s.size := by
  apply ByteArray.ext
  apply Array.toList_inj.1
  simp only [ByteArray.data_extract, Array.toList_extract]
  simp only [List.extract]
  rw [List.take_of_length_le (by simp; omega), List.take_of_length_le (by simp)]

/-- What Unescape answers. -/
def Unesc (r : Except Int (List UInt8)) (w : World) (e : Ending) (w' : World) : Prop :=
  Below w.heap.size w w' ∧ match r with
  | .ok l => e = .returned (.tuple #[.string ⟨l.toArray⟩, .int .i64 0])
  | .error c => e = .returned (.tuple #[.string ⟨#[]⟩, .int .i64 c])
theorem Unesc.mkOk {l : List UInt8} {w w' : World} (h : Below w.heap.size w w') : Unesc (.ok l) w (.returned (.tuple #[.string ⟨l.toArray⟩, .int .i64 0])) w' := ⟨h, rfl⟩
theorem Unesc.mkErr {c : Int} {w w' : World} (h : Below w.heap.size w w') : Unesc (.error c) w (.returned (.tuple #[.string ⟨#[]⟩, .int .i64 c])) w' := ⟨h, rfl⟩

/-- Where the loop stands: a character is next, or one that a piece has taken. -/
def UnAt (s : ByteArray) (R : Except Int (List UInt8)) (pos skip fuel : Nat) (acc : List UInt8) : Prop :=
  (skip ≤ pos ∧ unL fuel (s.data.toList.drop pos) acc = R ∧ s.size < pos + fuel ∧ acc.length ≤ pos) ∨
  (pos < skip ∧ skip ≤ s.size ∧ (∀ j, pos ≤ j → j < skip → (peekB s j).toNat < 128) ∧ unL fuel (s.data.toList.drop skip) acc = R ∧ s.size < skip + fuel ∧ acc.length ≤ skip)
def UnRel (s : ByteArray) (R : Except Int (List UInt8)) (w : World) (k : Nat) (skip ev : Value) (wr : World) : Prop :=
  ∃ (pos q fuel : Nat) (acc : List UInt8), skip = .int .i64 q ∧ ev = .int .i64 0 ∧ k = s.size + 1 - pos ∧ pos ≤ s.size ∧ UnAt s R pos q fuel acc ∧
    Lib.IsBuilderF 130 5 w.heap.size w.heap.size (Lib.byteCells acc) wr ∧ wr.heap[w.heap.size + 1]? = some (.stringIter s pos) ∧ Below w.heap.size w wr

set_option maxHeartbeats 4000000 in
set_option maxRecDepth 1000000 in
theorem unescape_any (B : Nat) (s : ByteArray) (w : World) (hs : s.size ≤ 1099511627776) (hE : Env B w) :
    Calls Tryz.prog 112 #[.string s] w (Unesc (unP s.data.toList) w) := by
  generalize hR : unP s.data.toList = R
  have HR := Lib.hid hR
  have HE := Lib.hid hE
  clear hR hE
  go_enter Tryz.func112, Tryz.ntmps112
  go_wp2
  go_step3
  go_wp2
  go_step3
  go_wp2
  go_loopg [5, 6] (s.size + 1) (fun k skip ev wr => UnRel s R w k skip ev wr)
  case atStart =>
    refine ⟨0, 0, s.size + 1, [], rfl, rfl, rfl, Nat.zero_le _, .inl ⟨Nat.le_refl _, ?_, by omega, Nat.le_refl _⟩, (Lib.IsBuilderF.of (Lib.fresh_isBuilder _ _ w)).alloc _, ?_, ((Below.refl _ w).alloc (Nat.le_refl _) _).alloc (by simp) _⟩
    · have := HR.out
      unfold unP at this
      simpa using this
    · have := World.iter_heap (w.alloc (.cells #[.pointer none, .slice none 0 0] 130)) s 0
      simpa using this
  case round =>
    obtain ⟨pos, q, fuel, acc, rfl, rfl, hk, hpos, hU, hI, hit, hbw⟩ := hrel
    have hsz : w.heap.size + 1 < wr.heap.size := (Array.getElem?_eq_some_iff.1 hit).1
    by_cases hp : pos < s.size
    · have hnx : ∀ ty, (Instr.next (.pointer (some ⟨w.heap.size + 1, 0, none⟩)) true ty).run Tryz.prog wr = _ := fun ty => Lib.run_next_any_at wr (w.heap.size + 1) s pos ty hit hp
      have hd1 := decode_le s pos
      have hI2 := hI.iterAt hit (pos + (Utf8.decode s pos).2)
      have hit2 := Lib.iterAt_heap wr (w.heap.size + 1) s pos (pos + (Utf8.decode s pos).2) hit
      have hbw2 := Lib.below_iterAt hbw (k := w.heap.size + 1) (by omega) s (pos + (Utf8.decode s pos).2)
      have hsz2 : w.heap.size ≤ (wr.iterAt (w.heap.size + 1) s (pos + (Utf8.decode s pos).2)).heap.size := by rw [Lib.iterAt_size]; omega
      obtain ⟨c, t, hl⟩ : ∃ c t, s.data.toList.drop pos = c :: t := ⟨_, _, drop_at s pos hp⟩
      have hc : peekB s pos = c := by rw [peekB_in hp]; exact (List.cons.inj ((drop_at s pos hp).symm.trans hl)).1
      have hlen : (c :: t).length = s.size - pos := by rw [← hl]; simp
      have hdl : Utf8.decode s pos = Lib.decodeL (c :: t) := by rw [← hl, Lib.decodeL_drop]
      rcases hU with ⟨h1, h2, h3, h4⟩ | ⟨h1, h2, h3, h4, h5, h6⟩
      · -- a piece begins here
        obtain ⟨f, rfl⟩ : ∃ f, fuel = f + 1 := ⟨fuel - 1, by omega⟩
        have hK := Lib.hid (kind_any s pos · hp)
        rw [hl] at h2 hK
        unfold kindP at hK
        have hg : (c :: t).getD 0 0 = c := rfl
        rw [hg] at hK
        have hnot : ¬ pos < q := by omega
        by_cases hf0 : firstP (c :: t) = 0
        · rw [if_pos hf0] at hK
          have hpc := piece_bad hf0
          rw [unL_err (by simp) hpc] at h2
          subst h2
          have HX := Lib.hid (And.intro hl (And.intro hc (And.intro hlen (And.intro hdl (And.intro hf0 hpc)))))
          clear hl hc hlen hdl hf0 hpc
          go_wp2_with (go_at_call 85; refine (hK.out _).mono ?_; rintro e w' ⟨rfl, rfl⟩)
          rw [Exit.noGoto_ret]
          go_ret2
          exact Unesc.mkErr hbw2
        · rw [if_neg hf0] at hK
          cases hb : bareB c
          · -- a character: it is written as it stands
            rw [hb, if_neg (by simp)] at hK
            have hpc := piece_fine hb hf0
            rw [unL_ok (by simp) hpc] at h2
            obtain ⟨e1, e2, e3, e4, e5⟩ := firstP_pos (l := c :: t) (by simp) hf0
            have hw : (Utf8.decode s pos).2 = firstP (c :: t) := by rw [hdl, e1]
            have hdr : (c :: t).drop (firstP (c :: t)) = s.data.toList.drop (pos + (Utf8.decode s pos).2) := by
              have h := congrArg (List.drop (firstP (c :: t))) hl
              rw [List.drop_drop] at h
              rw [hw, ← h]
            have henc : Lib.runeCells ((Utf8.decode s pos).1 : Int) = Lib.byteCells ((c :: t).take (firstP (c :: t))) := by rw [← Lib.byteCells_encodeRune, hdl, e5]
            have htl : ((c :: t).take (firstP (c :: t))).length = firstP (c :: t) := by rw [List.length_take]; omega
            rw [hdr] at h2
            generalize hT : (c :: t).take (firstP (c :: t)) = T at *
            have HX := Lib.hid (And.intro hw (And.intro h2 (And.intro henc htl)))
            clear hl hc hdl hf0 hpc hb hw h2 henc htl hdr e1 e5 e2 hT
            go_wp2_with (first
              | (go_at_call 85; refine (hK.out _).mono ?_; rintro e w' ⟨rfl, rfl⟩)
              | (go_at_call 86; refine (Tryz.Builder_WriteRune_k w.heap.size w.heap.size _ _ (by omega) (by omega) _ hI2 (by rw [Lib.byteCells_length]; omega) hsz2).mono ?_; rintro e W1 ⟨rfl, g1, b1, k1⟩))
            obtain ⟨hw, h2, henc, htl⟩ := HX.out
            go_roundg (s.size + 1 - (pos + (Utf8.decode s pos).2))
            case measure => omega
            case rel =>
              refine ⟨pos + (Utf8.decode s pos).2, q, f, acc ++ T, rfl, rfl, rfl, by omega, .inl ⟨by omega, h2, by omega, by rw [List.length_append]; omega⟩, ?_, k1.iter hit2 (by omega), hbw2.trans b1⟩
              rw [Lib.byteCells_append, ← henc]
              exact Or.inr g1
          · rw [hb, if_pos rfl] at hK
            have hbl := bare_lt hb
            have hw : Utf8.decode s pos = (c.toNat, 1) := by rw [hdl, bare_rune hb]
            by_cases h92 : c.toNat = 92
            · -- an escape
              have hw1 : ((Utf8.decode s pos).1 : Int) = 92 := by rw [hw]; show (c.toNat : Int) = 92; omega
              have hne : (((Utf8.decode s pos).1 : Int) != 92) = false := by rw [hw1]; rfl
              have hw2 : (Utf8.decode s pos).2 = 1 := by rw [hw]
              have ht : s.data.toList.drop (pos + 1) = t := by
                have h := congrArg (List.drop 1) hl
                rw [List.drop_drop] at h
                exact h
              have hX : (s.extract (pos + 1) (min ((pos : Int) + 3) (s.size : Int)).toNat).data.toList = t.take 2 := by
                rw [← ht, ← ext_take]
                by_cases h : pos + 3 ≤ s.size
                · rw [show (min ((pos : Int) + 3) (s.size : Int)).toNat = pos + 1 + 2 from by omega]
                · rw [show (min ((pos : Int) + 3) (s.size : Int)).toNat = s.size from by omega, ext_over s (pos + 1) (pos + 1 + 2) (by omega)]
              have hXs : (s.extract (pos + 1) (min ((pos : Int) + 3) (s.size : Int)).toNat).size ≤ 2 := by
                have := congrArg List.length hX
                rw [List.length_take] at this
                have h2 : (s.extract (pos + 1) (min ((pos : Int) + 3) (s.size : Int)).toNat).data.toList.length = (s.extract (pos + 1) (min ((pos : Int) + 3) (s.size : Int)).toNat).size := rfl
                omega
              have hTL : ∀ W, Env B W → Calls Tryz.prog 68 #[.string (s.extract (pos + 1) (min ((pos : Int) + 3) (s.size : Int)).toNat)] W fun e w' => e = .returned (.string ⟨(Lib.toLowerD (t.take 2)).toArray⟩) ∧ Below W.heap.size W w' := fun W hEW => by
                have h := Tryz.strings_ToLower_any (s.extract (pos + 1) (min ((pos : Int) + 3) (s.size : Int)).toNat) W (by omega) hEW.caseVar hEW.tabs
                rw [hX] at h
                exact h
              have hE2 : Env B (wr.iterAt (w.heap.size + 1) s (pos + (Utf8.decode s pos).2)) := HE.out.below hbw2
              obtain ⟨tw1, tw2⟩ := two_low (t.take 2) (by rw [List.length_take]; omega)
              rw [pair_take] at tw1 tw2
              generalize (⟨(Lib.toLowerD (t.take 2)).toArray⟩ : ByteArray) = X at *
              have hDg := digits_any X
              have HTL := Lib.hid hTL
              have HE2 := Lib.hid hE2
              cases hv : pairV t with
              | none =>
                have hpc := piece_no h92 hv
                rw [unL_err (by simp) hpc] at h2
                subst h2
                rw [hv] at tw1
                have HDg : Hid (∀ W, Calls Tryz.prog 133 #[.string X] W fun e w' => ∃ bv : Int, e = .returned (.tuple #[.int .u8 bv, .bool false]) ∧ ∃ n, w' = W.drewN n) := fun W => (hDg W).mono fun e w' ⟨v, h1, _, h3⟩ => ⟨v, by rw [h1, tw1]; rfl, h3⟩
                clear hl hc hdl hf0 hb hw h92 hbl hw1 hw2 hE2 ht hX hTL tw1 tw2 hDg hv hpc
                go_wp2_with (first
                  | (go_at_call 85; refine (hK.out _).mono ?_; rintro e w' ⟨rfl, rfl⟩)
                  | (go_at_call 68; refine (HTL.out _ HE2.out).mono ?_; rintro e W1 ⟨rfl, b1⟩)
                  | (go_at_call 133; refine (HDg.out _).mono ?_; rintro e w' ⟨bv, rfl, n, rfl⟩))
                rw [Exit.noGoto_ret]
                go_ret2
                exact Unesc.mkErr ((hbw2.trans (b1.mono hsz2)).trans ⟨rfl, rfl, rfl, Nat.le_refl _, fun _ _ => rfl⟩)
              | some v =>
                have hpc := piece_esc h92 hv
                rw [unL_ok (by simp) hpc] at h2
                rw [hv] at tw1
                have hval := tw2 v hv
                have HDg : Hid (∀ W, Calls Tryz.prog 133 #[.string X] W fun e w' => e = .returned (.tuple #[.int .u8 v.toNat, .bool true]) ∧ ∃ n, w' = W.drewN n) := fun W => (hDg W).mono fun e w' ⟨v', h1, h2, h3⟩ => ⟨by rw [h1, tw1, h2 (by rw [tw1]; rfl), hval]; rfl, h3⟩
                obtain ⟨ht2, a, b, r, hab, ha, hb'⟩ := pairV_len hv
                have hq3 : pos + 3 ≤ s.size := by
                  have : (c :: t).length = t.length + 1 := rfl
                  omega
                have hasc : ∀ j, pos + 1 ≤ j → j < pos + 3 → (peekB s j).toNat < 128 := by
                  intro j h h'
                  have hj : j < s.size := by omega
                  have h1 := drop_at s j hj
                  rw [peekB_in hj]
                  have h2 : s.data.toList.drop j = t.drop (j - (pos + 1)) := by
                    rw [← ht, List.drop_drop]
                    congr 1
                    omega
                  rw [h2, hab] at h1
                  rcases (by omega : j = pos + 1 ∨ j = pos + 2) with rfl | rfl
                  · simp at h1; rw [← h1.1]; exact ha
                  · rw [show pos + 2 - (pos + 1) = 1 from by omega] at h1
                    simp at h1; rw [← h1.1]; exact hb'
                have hdr : (c :: t).drop 3 = s.data.toList.drop (pos + 3) := by
                  have h := congrArg (List.drop 3) hl
                  rw [List.drop_drop] at h
                  exact h.symm
                rw [hdr] at h2
                have HX := Lib.hid (And.intro h2 (And.intro hasc hw2))
                clear hl hc hdl hf0 hb hw h92 hbl hw1 hw2 hE2 ht hX hTL tw1 tw2 hDg hv hpc hval hab ha hb' ht2 h2 hasc hdr
                go_wp2_with (first
                  | (go_at_call 85; refine (hK.out _).mono ?_; rintro e w' ⟨rfl, rfl⟩)
                  | (go_at_call 68; refine (HTL.out _ HE2.out).mono ?_; rintro e W1 ⟨rfl, b1⟩)
                  | (go_at_call 133; refine (HDg.out _).mono ?_; rintro e w' ⟨rfl, n, rfl⟩)
                  | fail)
                have hI3 : Lib.IsBuilderF 130 5 w.heap.size w.heap.size (Lib.byteCells acc) (W1.drewN n) := Lib.IsBuilderF.below hI2 (below_drewN b1 n)
                refine (Tryz.Builder_WriteByte_k w.heap.size w.heap.size _ _ _ hI3 (by rw [Lib.byteCells_length]; omega) (by exact Nat.le_trans hsz2 b1.size)).mono ?_
                rintro e W2 ⟨rfl, g1, b2, k2⟩
                go_wp2
                obtain ⟨h2, hasc, hw2⟩ := HX.out
                rw [hw2] at hit2 hbw2 b1
                go_roundg (s.size + 1 - (pos + 1))
                case measure => omega
                case rel =>
                  refine ⟨pos + 1, pos + 3, f, acc ++ [v], rfl, rfl, rfl, by omega, .inr ⟨by omega, hq3, hasc, h2, by omega, by rw [List.length_append]; simp; omega⟩, ?_, k2.iter ((b1.block _ (by rw [Lib.iterAt_size]; omega)).trans hit2) (by omega), ((hbw2.trans (b1.mono (by rw [Lib.iterAt_size]; omega))).trans (below_drewN (Below.refl _ _) n)).trans b2⟩
                  rw [Lib.byteCells_append]
                  exact Or.inr g1
            · have hpc := piece_bare (t := t) hb h92
              rw [unL_err (by simp) hpc] at h2
              subst h2
              have hne : (((Utf8.decode s pos).1 : Int) != 92) = true := by rw [hw, bne_iff_ne]; show (c.toNat : Int) ≠ 92; omega
              have HX := Lib.hid (And.intro hw hbl)
              clear hl hc hdl hf0 hpc hb hw h92 hbl
              go_wp2_with (go_at_call 85; refine (hK.out _).mono ?_; rintro e w' ⟨rfl, rfl⟩)
              rw [Exit.noGoto_ret]
              go_ret2
              exact Unesc.mkErr hbw2
      · -- a character that a piece has taken
        have hlt : (pos : Int) < q := by omega
        have hw : Utf8.decode s pos = (c.toNat, 1) := by rw [hdl, decodeL_ascii' c t (by rw [← hc]; exact h3 pos (Nat.le_refl _) h1)]
        have hw2 : (Utf8.decode s pos).2 = 1 := by rw [hw]
        have HX := Lib.hid (And.intro hw2 (And.intro h3 h4))
        clear hl hc hdl hw hw2 h3 h4
        go_wp2
        obtain ⟨hw2, h3, h4⟩ := HX.out
        rw [hw2] at hI2 hit2
        try rw [hw2] at hbw2
        try rw [hw2]
        go_roundg (s.size + 1 - (pos + 1))
        case measure => omega
        case rel =>
          refine ⟨pos + 1, q, fuel, acc, rfl, rfl, rfl, by omega, ?_, hI2, hit2, hbw2⟩
          by_cases he : pos + 1 = q
          · subst he
            exact .inl ⟨Nat.le_refl _, h4, h5, h6⟩
          · exact .inr ⟨by omega, h2, fun j h h' => h3 j (by omega) h', h4, h5, h6⟩
    · have hnx : ∀ ty, (Instr.next (.pointer (some ⟨w.heap.size + 1, 0, none⟩)) true ty).run Tryz.prog wr = _ := fun ty => Lib.run_next_end_at wr (w.heap.size + 1) s pos ty hit hp
      have hRa : R = .ok acc ∧ acc.length ≤ s.size := by
        rcases hU with ⟨h1, h2, h3, h4⟩ | ⟨h1, h2, h3, h4⟩
        · rw [List.drop_of_length_le (by simpa using hp), unL_nil] at h2
          exact ⟨h2.symm, by omega⟩
        · omega
      obtain ⟨rfl, hal⟩ := hRa
      have HU := Lib.hid hU
      clear hU
      go_wp2_with (go_at_call 89; refine (Tryz.Builder_String_any_k w.heap.size w.heap.size acc _ hI (by omega)).mono ?_; rintro e W1 ⟨rfl, _, b1, _⟩)
      rw [Exit.noGoto_ret]
      go_ret2
      exact Unesc.mkOk (hbw.trans b1)
end Go.Proofs.YtjmpcoedfoaebaaGreatDoor
