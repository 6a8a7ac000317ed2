/- The program's reader: value. -/
import Derived.Test.YtjmpcoedfoaebaaGreatDoorVal
import Derived.Test.YtjmpcoedfoaebaaGreatDoorRd
import Derived.Deep.DeepCutAuto
open Go Go.RowKit
namespace Go.Proofs.YtjmpcoedfoaebaaGreatDoor

theorem runP_ext (s : ByteArray) (f : UInt8 → Bool) (i : Nat) : runP (s.extract i s.size) f 0 = runP s f i - i := by
  unfold runP
  rw [ext_data, List.drop_zero]
  omega
theorem strCells_mk (l : List UInt8) : Lib.strCells ⟨l.toArray⟩ = Lib.byteCells l := by
  unfold Lib.strCells Lib.byteCells
  rfl

theorem runP_end_at {s : ByteArray} {f : UInt8 → Bool} {i : Nat} (h : runP s f i < s.size) : f s[runP s f i] = false := by
  have hlen : (s.data.toList.drop i).length = s.size - i := by simp
  have h1 : ((s.data.toList.drop i).takeWhile f).length < (s.data.toList.drop i).length := by unfold runP at h; omega
  have h2 : (s.data.toList.drop i)[((s.data.toList.drop i).takeWhile f).length]? = some s[runP s f i] := by
    rw [List.getElem?_drop, List.getElem?_eq_getElem (by simpa [runP] using h)]
    rfl
  generalize s[runP s f i] = c at *
  generalize s.data.toList.drop i = l at *
  clear h hlen
  induction l with
  | nil => cases h1
  | cons a t ih =>
    cases ha : f a
    · rw [List.takeWhile_cons_of_neg (by simp [ha])] at h2
      cases h2; exact ha
    · rw [List.takeWhile_cons_of_pos ha] at h1 h2
      simp only [List.length_cons, List.getElem?_cons_succ] at h1 h2
      exact ih (by omega) h2
/-- A character of a value: what stands there, and that the cut text has the same piece. -/
theorem val_char {star : Bool} {s X : ByteArray} {i j e : Nat} (hX : X.data.toList = (s.data.toList.drop i).take (e - i)) (hj : j < X.size) (he : e ≤ s.size) (hie : i ≤ e) (hrun : runP s (fun c => !endB star c) (i + j) = e) :
    ∃ c T, X.data.toList.drop j = c :: T ∧ i + j < e ∧ (c :: T).length = e - (i + j) ∧ X.size = e - i ∧ ¬ (s.size ≤ i + j ∨ endB star (peekB s (i + j)) = true) ∧ pieceP (s.data.toList.drop (i + j)) = pieceP (c :: T) ∧ (∀ k, k < (c :: T).length → peekB s (i + j + k) = (c :: T).getD k 0) := by
  have hXs : X.size = e - i := by
    have := congrArg List.length hX
    rw [List.length_take, List.length_drop] at this
    have h2 : X.data.toList.length = X.size := by simp
    have h3 : s.data.toList.length = s.size := by simp
    omega
  have hlt : i + j < e := by omega
  have hL : X.data.toList.drop j = (s.data.toList.drop (i + j)).take (e - (i + j)) := by
    rw [hX, List.drop_take, List.drop_drop, show e - i - j = e - (i + j) from by omega]
  have hps : i + j < s.size := by omega
  have hLc := drop_at s (i + j) hps
  obtain ⟨m, hm⟩ : ∃ m, e - (i + j) = m + 1 := ⟨e - (i + j) - 1, by omega⟩
  rw [hLc, hm, List.take_succ_cons] at hL
  have hlen : (s[i + j] :: (s.data.toList.drop (i + j + 1)).take m).length = e - (i + j) := by
    rw [← hL, List.length_drop]
    have h2 : X.data.toList.length = X.size := by simp
    omega
  have hsplit : s.data.toList.drop (i + j) = (s[i + j] :: (s.data.toList.drop (i + j + 1)).take m) ++ s.data.toList.drop e := by
    rw [hLc, List.cons_append]
    congr 1
    rw [show s.data.toList.drop e = (s.data.toList.drop (i + j + 1)).drop m from by rw [List.drop_drop]; congr 1; omega, List.take_append_drop]
  refine ⟨_, _, hL, hlt, hlen, hXs, ?_, ?_, ?_⟩
  · rw [not_or]
    refine ⟨by omega, ?_⟩
    rw [peekB_in hps]
    intro hend
    have := runP_no (s := s) (f := fun c => !endB star c) hps (by simp [hend])
    omega
  · rw [hsplit]
    refine piece_cut _ _ (by simp) ?_
    intro c t hc
    have hes : e < s.size := by
      rcases Nat.lt_or_ge e s.size with h | h
      · exact h
      · rw [List.drop_of_length_le (by simpa using h)] at hc; cases hc
    have hce : s[e] = c := (List.cons.inj ((drop_at s e hes).symm.trans hc)).1
    have hend : endB star c = true := by
      have h := runP_end_at (s := s) (f := fun c => !endB star c) (i := i + j) (by rw [hrun]; exact hes)
      simp only [hrun] at h
      rw [hce] at h
      simpa using h
    exact ⟨(end_hex hend).1, (end_hex hend).2.1⟩
  · intro k hk
    rw [hlen] at hk
    have hks : i + j + k < s.size := by omega
    rw [peekB_in hks]
    have h1 : (s.data.toList.drop (i + j)).getD k 0 = s[i + j + k] := by
      rw [List.getD_eq_getElem?_getD, List.getElem?_drop, List.getElem?_eq_getElem (by simpa using hks)]
      rfl
    rw [← h1, hsplit, List.getD_eq_getElem?_getD, List.getD_eq_getElem?_getD, List.getElem?_append_left (by rw [hlen]; exact hk)]

theorem runP_mid {s : ByteArray} {f : UInt8 → Bool} : ∀ (m p : Nat) {e : Nat}, runP s f p = e → p + m ≤ e → e ≤ s.size → runP s f (p + m) = e
  | 0, _, _, h, _, _ => h
  | m + 1, p, e, h, hle, hes => by
    have hp : p < s.size := by omega
    cases hf : f s[p]
    · have := runP_no hp hf
      omega
    · have h1 := (runP_yes hp hf).symm.trans h
      have := runP_mid m (p + 1) h1 (by omega) hes
      rw [← this]
      congr 1
      omega
theorem piece_err {c : UInt8} {t : List UInt8} {e : Int} (h : pieceP (c :: t) = .error e) : e = 10 ∨ e = 11 ∨ e = 12 := by
  rw [piece_cons] at h
  split at h
  · split at h
    · cases h
    · cases h; exact .inr (.inl rfl)
  · split at h
    · cases h; exact .inr (.inr rfl)
    · split at h
      · cases h; exact .inl rfl
      · cases h
/-- The three ways in which a character is met. -/
theorem char_cases (c : UInt8) (T : List UInt8) : (c.toNat = 92 ∧ (Lib.decodeL (c :: T)).1 = 92 ∧ (Lib.decodeL (c :: T)).2 = 1 ∧ pieceN (c :: T) = min 3 (c :: T).length) ∨ (c.toNat ≠ 92 ∧ firstP (c :: T) = 0 ∧ (Lib.decodeL (c :: T)).1 = 65533 ∧ Lib.hasPrefix (c :: T) [239, 191, 189] = false ∧ pieceN (c :: T) = 1) ∨
    (c.toNat ≠ 92 ∧ (Lib.decodeL (c :: T)).1 ≠ 92 ∧ (Lib.decodeL (c :: T)).2 = pieceN (c :: T) ∧ Lib.runeLen ((Lib.decodeL (c :: T)).1 : Int) = pieceN (c :: T) ∧ ((Lib.decodeL (c :: T)).1 = 65533 → Lib.hasPrefix (c :: T) [239, 191, 189] = true)) := by
  unfold pieceN
  dsimp only
  by_cases h92 : c.toNat = 92
  · refine .inl ⟨h92, ?_, ?_, by rw [if_pos h92]⟩
    · rw [decodeL_ascii' c T (by omega)]; exact h92
    · rw [decodeL_ascii' c T (by omega)]
  · rw [if_neg h92]
    by_cases hf : firstP (c :: T) = 0
    · refine .inr (.inl ⟨h92, hf, ?_, ?_, by rw [if_pos hf]⟩)
      · rw [(firstP_zero (by simp)).1 hf]
      · cases hp : Lib.hasPrefix (c :: T) [239, 191, 189]
        · rfl
        · have h1 := rep_prefix _ hp
          rw [(firstP_zero (by simp)).1 hf] at h1
          cases h1
    · rw [if_neg hf]
      obtain ⟨e1, e2, e3, e4, e5⟩ := firstP_pos (l := c :: T) (by simp) hf
      refine .inr (.inr ⟨h92, ?_, e1.symm, ?_, ?_⟩)
      · intro h
        have := decode_small (c := c) (t := T) (by omega)
        omega
      · by_cases hr : (Lib.decodeL (c :: T)).1 = 65533
        · have e6 := congrArg List.length e5
          rw [hr, List.length_take] at e6
          have e7 : (Lib.encodeRune ((65533 : Nat) : Int)).length = 3 := by decide
          rw [e7] at e6
          rw [hr, show firstP (c :: T) = 3 from by omega]
          decide
        · rw [e1]; exact Lib.runeLen_decode _ hr
      · intro hr
        unfold Lib.hasPrefix
        rw [List.isPrefixOf_iff_prefix]
        have e6 : (c :: T).take (firstP (c :: T)) = [239, 191, 189] := by rw [← e5, hr]; exact enc_bad
        rw [← e6]
        exact List.take_prefix _ _
/-- Where the loop over a value's characters stands. -/
def VAt (star : Bool) (s : ByteArray) (i e : Nat) (R : Except (Int × Nat) (List UInt8 × Nat)) (j q fuel : Nat) (acc : List UInt8) : Prop :=
  (q ≤ i + j ∧ valP star fuel s (i + j) acc = R ∧ s.size < i + j + fuel ∧ acc.length ≤ j ∧ runP s (fun c => !endB star c) (i + j) = e) ∨
  (i + j < q ∧ q ≤ e ∧ (∀ k, i + j ≤ k → k < q → (peekB s k).toNat < 128) ∧ valP star fuel s q acc = R ∧ s.size < q + fuel ∧ acc.length ≤ q - i ∧ runP s (fun c => !endB star c) q = e)
def VRel (star : Bool) (s : ByteArray) (i e I : Nat) (X : ByteArray) (R : Except (Int × Nat) (List UInt8 × Nat)) (w : World) (k : Nat) (skip : Value) (wr : World) : Prop :=
  ∃ (j q fuel : Nat) (acc : List UInt8), skip = .int .i64 q ∧ k = X.size + 1 - j ∧ j ≤ X.size ∧ VAt star s i e R j q fuel acc ∧
    Lib.IsBuilderF 130 5 w.heap.size w.heap.size (Lib.byteCells acc) wr ∧ wr.heap[I]? = some (.stringIter X j) ∧ Below w.heap.size w wr

theorem cut_yes {s : ByteArray} {i e : Nat} (_h : e < s.size) : ((s.extract i s.size).extract 0 (e - i)).data.toList = (s.data.toList.drop i).take (e - i) := by
  have h := ext_take (s.extract i s.size) 0 (e - i)
  rw [Nat.zero_add, ext_data, List.drop_zero] at h
  exact h
theorem cut_no {s : ByteArray} {i e : Nat} (h : ¬ e < s.size) : (s.extract i s.size).data.toList = (s.data.toList.drop i).take (e - i) := by
  rw [ext_data, List.take_of_length_le]
  rw [List.length_drop]
  have h3 : s.data.toList.length = s.size := by simp
  omega

theorem Keep.trans_below {S : List Nat} {a b c : World} (h : Keep S a b) (k : Below a.heap.size b c) : Keep S a c :=
  ⟨k.os.trans h.os, k.tape.trans h.tape, k.output.trans h.output, Nat.le_trans h.size k.size, fun i hi hn => (k.block i hi).trans (h.block i hi hn)⟩
/-- A builder stays one while the reader's place is written. -/
theorem builder_set {T : TypeId} {N b : Nat} {bs : List Value} {w : World} (h : Lib.IsBuilderF T 5 N N bs w) (v : Value) (hb : b < N) : Lib.IsBuilderF T 5 N N bs (w.setCell ⟨b, 1, none⟩ v) := by
  have hone : ∀ q, Lib.BuilderAtF T 5 N N q bs w → Lib.BuilderAtF T 5 N N q bs (w.setCell ⟨b, 1, none⟩ v) := by
    rintro q ⟨h1, u, h2, h3, h4⟩
    refine ⟨h1, u, (setCell_ne v (by show N ≠ b; omega)).trans h2, ⟨h3.1, ?_⟩, h4⟩
    rcases h3.2 with h5 | ⟨g, cap, cur, fz, h5, h6, h7, r⟩
    · exact .inl h5
    · exact .inr ⟨g, cap, cur, fz, h5, h6, (setCell_ne v (by show g ≠ b; omega)).trans h7, r⟩
  exact h.elim (fun x => .inl (hone _ x)) (fun x => .inr (hone _ x))
set_option maxHeartbeats 8000000 in
set_option maxRecDepth 1000000 in
theorem value_any (B b i p : Nat) (star : Bool) (s : ByteArray) (w : World) (hs : s.size ≤ 1048576) (hi : i ≤ s.size) (hR : Rd w b s i p) (hE : Env B w) :
    Calls Tryz.prog 76 #[.pointer (some ⟨b, 0, none⟩), .string (endsOf star)] w (Gave b s p w (valueP star s i)) := by
  generalize hT : valP star (s.size + 1) s i [] = R
  have hv : valueP star s i = lenP i R := by unfold valueP; rw [hT]
  rw [hv]
  clear hv
  have h0 := hR.c0
  have h1 := hR.c1
  have hblt := hR.lt
  have HT := Lib.hid hT
  have HR := Lib.hid hR
  have HE := Lib.hid hE
  clear hT hR hE
  have hle := runP_le s (fun c => !endB star c) i hi
  generalize hen : runP s (fun c => !endB star c) i = e at hle
  have hXs : (s.extract i s.size).size = s.size - i := by simp
  have hia0 : ∀ W, Calls Tryz.prog 109 #[.string (s.extract i s.size), .string (endsOf star)] W fun ev w' => ev = .returned (.int .i64 (if e < s.size then ((e - i : Nat) : Int) else -1)) ∧ Below W.heap.size W w' := fun W => by
    have h := idxAny_any star (s.extract i s.size) W (by omega)
    rw [runP_ext, hen, hXs] at h
    have e1 : (e - i < s.size - i) = (e < s.size) := by rw [eq_iff_iff]; omega
    simp only [e1] at h
    exact h
  obtain ⟨ix, hix, hia⟩ : ∃ ix : Int, Hid ((e < s.size ∧ ix = ((e - i : Nat) : Int)) ∨ (¬ e < s.size ∧ ix = -1)) ∧ ∀ W, Calls Tryz.prog 109 #[.string (s.extract i s.size), .string (endsOf star)] W fun ev w' => ev = .returned (.int .i64 ix) ∧ Below W.heap.size W w' := by
    by_cases hes : e < s.size
    · exact ⟨_, .inl ⟨hes, rfl⟩, by simpa only [hes, if_true] using hia0⟩
    · exact ⟨_, .inr ⟨hes, rfl⟩, by simpa only [hes, if_false] using hia0⟩
  have HIA := Lib.hid hia
  have HEN := Lib.hid hen
  have HXS := Lib.hid hXs
  clear hia hia0 hen hXs
  go_enter Tryz.func76, Tryz.ntmps76
  go_wp2_with fail
  go_step3
  go_upto_if 31 with (go_at_call 109; refine (HIA.out _).mono ?_; rintro ev w1 ⟨rfl, b1⟩)
  go_cut [9] (fun s9 wx => ∃ X : ByteArray, s9 = .string X ∧ Hid (X.data.toList = (s.data.toList.drop i).take (e - i)) ∧ wx = w1)
  case first =>
    rcases hix.out with ⟨hes, hx⟩ | ⟨hes, hx⟩
    · have hx0 : 0 ≤ ix := by omega
      have hx1 : ix ≤ ((s.extract i s.size).size : Int) := by have := HXS.out; omega
      have HXX := Lib.hid hx
      clear hx
      go_wp2_with fail
      go_meet
      exact ⟨_, rfl, by rw [show ix.toNat = e - i from by have := HXX.out; omega]; exact cut_yes hes, rfl⟩
    · have hx0 : ix < 0 := by omega
      clear hx
      go_wp2_with fail
      go_meet
      exact ⟨_, rfl, cut_no hes, rfl⟩
  case rest =>
    obtain ⟨X, rfl, HX, rfl⟩ := hcut
    go_wp2_with fail
    go_step3
    go_wp2_with fail
    have hB0 : Below w.heap.size w wc := ((Below.refl _ w).alloc (Nat.le_refl _) _).trans (b1.mono (by simp))
    have hbu : Lib.IsBuilderF 130 5 w.heap.size w.heap.size (Lib.byteCells []) wc := Lib.IsBuilderF.below (Lib.IsBuilderF.of (Lib.fresh_isBuilder _ _ w)) b1
    have hI0 : w.heap.size < wc.heap.size := by have := b1.size; simp at this; omega
    have HBU := Lib.hid (And.intro hbu (And.intro hB0 hI0))
    clear hbu hB0 hI0 b1
    go_loopg [8] (X.size + 1) (fun k skip wr => VRel star s i e wc.heap.size X R w k skip wr)
    case atStart =>
      obtain ⟨hbu, hB0, hI0⟩ := HBU.out
      refine ⟨0, i, s.size + 1, [], rfl, rfl, Nat.zero_le _, .inl ⟨by omega, HT.out, by omega, Nat.le_refl _, HEN.out⟩, hbu.alloc _, World.iter_heap _ _ _, hB0.alloc (by omega) _⟩
    case round =>
      obtain ⟨j, q, fuel, acc, rfl, hk, hj, hV, hI, hit, hbw⟩ := hrel
      have hsz : wc.heap.size < wr.heap.size := (Array.getElem?_eq_some_iff.1 hit).1
      have hI0 := HBU.out.2.2
      have hsm : s.size ≤ maxLen := by unfold maxLen; omega
      have hXs0 : X.size ≤ s.size := by
        have := congrArg List.length HX.out
        rw [List.length_take, List.length_drop] at this
        have h2 : X.data.toList.length = X.size := by simp
        have h3 : s.data.toList.length = s.size := by simp
        omega
      by_cases hp : j < X.size
      · have hnx : ∀ ty, (Instr.next (.pointer (some ⟨wc.heap.size, 0, none⟩)) true ty).run Tryz.prog wr = _ := fun ty => Lib.run_next_any_at wr wc.heap.size X j ty hit hp
        have hd1 := decode_le X j
        have hI2 := hI.iterAt hit (j + (Utf8.decode X j).2)
        have hit2 := Lib.iterAt_heap wr wc.heap.size X j (j + (Utf8.decode X j).2) hit
        have hbw2 := Lib.below_iterAt hbw (k := wc.heap.size) (Nat.le_of_lt hI0) X (j + (Utf8.decode X j).2)
        have hsz2 : wc.heap.size < (wr.iterAt wc.heap.size X (j + (Utf8.decode X j).2)).heap.size := by rw [Lib.iterAt_size]; exact hsz
        have HE2 := Lib.hid (HE.out.below hbw2)
        rcases hV with ⟨h1, h2, h3, h4, h5⟩ | ⟨h1, h2, h3, h4, h5, h6, h7⟩
        · obtain ⟨c, T, hL, hlt, hlen, hXe, hne, hpc, hby⟩ := val_char HX.out hp hle.2 hle.1 h5
          have hdl : Utf8.decode X j = Lib.decodeL (c :: T) := by rw [← hL, Lib.decodeL_drop]
          obtain ⟨u1, u2, u3, u4⟩ := un_piece (c := c) (t := T)
          obtain ⟨f, rfl⟩ : ∃ f, fuel = f + 1 := ⟨fuel - 1, by omega⟩
          have hYl : (X.extract j (j + pieceN (c :: T))).data.toList = (c :: T).take (pieceN (c :: T)) := by rw [ext_take, hL]
          have hYs : (X.extract j (j + pieceN (c :: T))).size ≤ 1048576 := by
            have h := congrArg List.length hYl
            rw [List.length_take] at h
            have h' : (X.extract j (j + pieceN (c :: T))).data.toList.length = (X.extract j (j + pieceN (c :: T))).size := Array.length_toList
            omega
          have hU := fun W h => unescape_any B (X.extract j (j + pieceN (c :: T))) W (by omega) h
          rw [hYl, u1] at hU
          have hcls : (c.toNat = 92 ∧ (Utf8.decode X j).1 = 92 ∧ (Utf8.decode X j).2 = 1 ∧ pieceN (c :: T) = min 3 (c :: T).length) ∨ (c.toNat ≠ 92 ∧ firstP (c :: T) = 0 ∧ (Utf8.decode X j).1 = 65533 ∧ Lib.hasPrefix (c :: T) [239, 191, 189] = false ∧ pieceN (c :: T) = 1) ∨
              (c.toNat ≠ 92 ∧ (Utf8.decode X j).1 ≠ 92 ∧ (Utf8.decode X j).2 = pieceN (c :: T) ∧ Lib.runeLen ((Utf8.decode X j).1 : Int) = pieceN (c :: T) ∧ ((Utf8.decode X j).1 = 65533 → Lib.hasPrefix (c :: T) [239, 191, 189] = true)) := by
            rw [hdl]
            exact char_cases c T
          have hXa : X.size + i ≤ e := by omega
          have hXb : e ≤ X.size + i := by omega
          have hne0 : i + j + pieceN (c :: T) ≤ e := by omega
          generalize hn : pieceN (c :: T) = n at *
          cases hpp : pieceP (c :: T) with
          | error ec =>
            rw [hpp] at hU hpc
            rw [valP_err hne hpc] at h2
            subst h2
            have HU := Lib.hid hU
            clear hU
            rcases id hcls with ⟨hc92, hd, hwid, hnn⟩ | ⟨hc92, hf, hd, hpr, hn1⟩ | ⟨hc92, hd92, hwid, hlen', hpr'⟩
            ·
              have t1 : (((Utf8.decode X j).1 : Int) == 92) = true := by rw [hd]; rfl
              have hmin : min (3 : Int) ((X.size : Int) - j) = n := by omega
              have HRL := Lib.hid (fun W => Tryz.utf8_RuneLen ((Utf8.decode X j).1 : Int) W)
              clear hd hc92 hwid hnn
              have H5 := Lib.hid (And.intro h5 (And.intro u1 hby))
              clear hpc hL hdl hYl hYs hcls hn hlen hXe h5 u1 u2 hby
              have HF := Lib.hid (fun W h => fault_any b i p (i + j) ec s W hsm h)
              rcases piece_err hpp with rfl | rfl | rfl
              all_goals
                have HPP := Lib.hid hpp
                clear hpp
                go_wp2_with (first
                  | (go_at_call 110; refine (HRL.out _).mono ?_; rintro ev w' ⟨rfl, rfl⟩)
                  | (go_at_call 111; refine (HP.out _).mono ?_; rintro ev w' ⟨rfl, rfl⟩)
                  | (go_at_call 112; refine (HU.out _ HE2.out).mono ?_; rintro ev W1 ⟨b1, rfl⟩)
                  | (go_at_call 48; refine (HF.out _ (by exact (HR.out.keep0 (Keep.of_below hbw2)).keep0 (Keep.of_below b1))).mono ?_; rintro ev W2 ⟨fv, rfl, hEr, hK2⟩))
                rw [Exit.noGoto_ret]
                go_ret2
                exact Gave.mkErr hEr ((((Keep.of_below hbw2).trans0 (Keep.of_below b1)).trans hK2).of0)
            ·
              subst hn1
              have t1 : (((Utf8.decode X j).1 : Int) == 92) = false := by rw [hd]; rfl
              have t2 : (((Utf8.decode X j).1 : Int) == 65533) = true := by rw [hd]; rfl
              have hconv : ∀ W, (convert 21 9 (.int .i32 ((Utf8.decode X j).1 : Int))).run Tryz.prog W = .ok (.string ⟨#[239, 191, 189]⟩) W := fun W => by rw [hd]; kernel_rfl
              have hpx := fun W => Tryz.strings_HasPrefix (X.extract j X.size) ⟨#[239, 191, 189]⟩ W
              rw [ext_data, hL] at hpx
              simp only [] at hpx
              rw [hpr] at hpx
              have HP := Lib.hid hpx
              clear hpx
              have HRL := Lib.hid (fun W => Tryz.utf8_RuneLen ((Utf8.decode X j).1 : Int) W)
              clear hd hc92 hf hpr
              have H5 := Lib.hid (And.intro h5 (And.intro u1 hby))
              clear hpc hL hdl hYl hYs hcls hn hlen hXe h5 u1 u2 hby
              have HF := Lib.hid (fun W h => fault_any b i p (i + j) ec s W hsm h)
              rcases piece_err hpp with rfl | rfl | rfl
              all_goals
                have HPP := Lib.hid hpp
                clear hpp
                go_wp2_with (first
                  | (go_at_call 110; refine (HRL.out _).mono ?_; rintro ev w' ⟨rfl, rfl⟩)
                  | (go_at_call 111; refine (HP.out _).mono ?_; rintro ev w' ⟨rfl, rfl⟩)
                  | (go_at_call 112; refine (HU.out _ HE2.out).mono ?_; rintro ev W1 ⟨b1, rfl⟩)
                  | (go_at_call 48; refine (HF.out _ (by exact (HR.out.keep0 (Keep.of_below hbw2)).keep0 (Keep.of_below b1))).mono ?_; rintro ev W2 ⟨fv, rfl, hEr, hK2⟩))
                rw [Exit.noGoto_ret]
                go_ret2
                exact Gave.mkErr hEr ((((Keep.of_below hbw2).trans0 (Keep.of_below b1)).trans hK2).of0)
            · by_cases hd : (Utf8.decode X j).1 = 65533
              ·
                have t1 : (((Utf8.decode X j).1 : Int) == 92) = false := by rw [beq_eq_false_iff_ne]; omega
                have hrl := fun W => Tryz.utf8_RuneLen ((Utf8.decode X j).1 : Int) W
                rw [hlen'] at hrl
                have HRL := Lib.hid hrl
                have hpr := hpr' hd
                have t2 : (((Utf8.decode X j).1 : Int) == 65533) = true := by rw [hd]; rfl
                have hconv : ∀ W, (convert 21 9 (.int .i32 ((Utf8.decode X j).1 : Int))).run Tryz.prog W = .ok (.string ⟨#[239, 191, 189]⟩) W := fun W => by rw [hd]; kernel_rfl
                have hpx := fun W => Tryz.strings_HasPrefix (X.extract j X.size) ⟨#[239, 191, 189]⟩ W
                rw [ext_data, hL] at hpx
                simp only [] at hpx
                rw [hpr] at hpx
                have HP := Lib.hid hpx
                clear hpx
                clear hd hc92 hd92 hwid hpr hpr' hrl hlen'
                have H5 := Lib.hid (And.intro h5 (And.intro u1 hby))
                clear hpc hL hdl hYl hYs hcls hn hlen hXe h5 u1 u2 hby
                have HF := Lib.hid (fun W h => fault_any b i p (i + j) ec s W hsm h)
                rcases piece_err hpp with rfl | rfl | rfl
                all_goals
                  have HPP := Lib.hid hpp
                  clear hpp
                  go_wp2_with (first
                    | (go_at_call 110; refine (HRL.out _).mono ?_; rintro ev w' ⟨rfl, rfl⟩)
                    | (go_at_call 111; refine (HP.out _).mono ?_; rintro ev w' ⟨rfl, rfl⟩)
                    | (go_at_call 112; refine (HU.out _ HE2.out).mono ?_; rintro ev W1 ⟨b1, rfl⟩)
                    | (go_at_call 48; refine (HF.out _ (by exact (HR.out.keep0 (Keep.of_below hbw2)).keep0 (Keep.of_below b1))).mono ?_; rintro ev W2 ⟨fv, rfl, hEr, hK2⟩))
                  rw [Exit.noGoto_ret]
                  go_ret2
                  exact Gave.mkErr hEr ((((Keep.of_below hbw2).trans0 (Keep.of_below b1)).trans hK2).of0)
              ·
                have t1 : (((Utf8.decode X j).1 : Int) == 92) = false := by rw [beq_eq_false_iff_ne]; omega
                have hrl := fun W => Tryz.utf8_RuneLen ((Utf8.decode X j).1 : Int) W
                rw [hlen'] at hrl
                have HRL := Lib.hid hrl
                have t2 : (((Utf8.decode X j).1 : Int) == 65533) = false := by rw [beq_eq_false_iff_ne]; omega
                clear hd hc92 hd92 hwid hpr' hrl hlen'
                have H5 := Lib.hid (And.intro h5 (And.intro u1 hby))
                clear hpc hL hdl hYl hYs hcls hn hlen hXe h5 u1 u2 hby
                have HF := Lib.hid (fun W h => fault_any b i p (i + j) ec s W hsm h)
                rcases piece_err hpp with rfl | rfl | rfl
                all_goals
                  have HPP := Lib.hid hpp
                  clear hpp
                  go_wp2_with (first
                    | (go_at_call 110; refine (HRL.out _).mono ?_; rintro ev w' ⟨rfl, rfl⟩)
                    | (go_at_call 111; refine (HP.out _).mono ?_; rintro ev w' ⟨rfl, rfl⟩)
                    | (go_at_call 112; refine (HU.out _ HE2.out).mono ?_; rintro ev W1 ⟨b1, rfl⟩)
                    | (go_at_call 48; refine (HF.out _ (by exact (HR.out.keep0 (Keep.of_below hbw2)).keep0 (Keep.of_below b1))).mono ?_; rintro ev W2 ⟨fv, rfl, hEr, hK2⟩))
                  rw [Exit.noGoto_ret]
                  go_ret2
                  exact Gave.mkErr hEr ((((Keep.of_below hbw2).trans0 (Keep.of_below b1)).trans hK2).of0)
          | ok tn =>
            obtain ⟨t, n'⟩ := tn
            rw [hpp] at hU hpc u2
            rw [valP_ok hne hpc] at h2
            obtain ⟨o1, o2, o3, o4⟩ := pieceP_ok hpp
            have HU := Lib.hid hU
            clear hU
            rcases id hcls with ⟨hc92, hd, hwid, hnn⟩ | ⟨hc92, hf, hd, hpr, hn1⟩ | ⟨hc92, hd92, hwid, hlen', hpr'⟩
            ·
              have t1 : (((Utf8.decode X j).1 : Int) == 92) = true := by rw [hd]; rfl
              have hmin : min (3 : Int) ((X.size : Int) - j) = n := by omega
              have HRL := Lib.hid (fun W => Tryz.utf8_RuneLen ((Utf8.decode X j).1 : Int) W)
              have hv : ∃ v, pairV T = some v := by
                cases hv : pairV T with
                | none => rw [piece_no hc92 hv] at hpp; cases hpp
                | some v => exact ⟨v, rfl⟩
              obtain ⟨v, hv⟩ := hv
              obtain ⟨hT2, ca, cb, cr, hab, ha, hb'⟩ := pairV_len hv
              have hn3 : n' = 3 := by rw [piece_esc hc92 hv] at hpp; cases hpp; rfl
              have hlenT : (c :: T).length = T.length + 1 := rfl
              have hnn' := u2 t n' rfl
              have hasc : ∀ k, i + j + 1 ≤ k → k < i + j + n → (peekB s k).toNat < 128 := by
                intro k hk1 hk2
                have h := hby (k - (i + j)) (by omega)
                rw [show i + j + (k - (i + j)) = k from by omega] at h
                rw [h, hab]
                rcases (by omega : k - (i + j) = 1 ∨ k - (i + j) = 2) with q | q <;> rw [q]
                · exact ha
                · exact hb'
              have hrun0 := runP_mid n (i + j) h5 (by omega) hle.2
              have HRUN := Lib.hid hrun0
              clear hrun0
              have hn2 : 2 ≤ n := by omega
              have HASC := Lib.hid hasc
              clear hv hab ha hb' hT2 hasc hn3 hlenT
              clear hd hc92 hpp hnn
              obtain rfl : n = n' := hnn'.symm
              have HW2 : Hid ((Utf8.decode X j).2 = 1) := Lib.hid hwid
              clear hwid
              have H5 := Lib.hid (And.intro h5 (And.intro u1 hby))
              clear hpc hL hdl hYl hYs hcls hn hlen hXe h5 u1 u2 hby
              go_wp2_with (first
                  | (go_at_call 110; refine (HRL.out _).mono ?_; rintro ev w' ⟨rfl, rfl⟩)
                  | (go_at_call 111; refine (HP.out _).mono ?_; rintro ev w' ⟨rfl, rfl⟩)
                  | (go_at_call 112; refine (HU.out _ HE2.out).mono ?_; rintro ev W1 ⟨b1, rfl⟩)
                  | (go_at_call 87; refine (Tryz.Builder_WriteString_k w.heap.size w.heap.size _ _ _ (Lib.IsBuilderF.below hI2 b1) (by rw [Lib.byteCells_length]; show _ + t.length ≤ _; omega) (by have := b1.size; omega)).mono ?_; rintro ev W2 ⟨rfl, g1, b2, k2⟩))
              have hw2 := HW2.out
              have hasc := HASC.out
              rw [hw2] at hit2 hbw2 b1 hsz2
              go_roundg (X.size + 1 - (j + 1))
              case measure => omega
              case rel =>
                refine ⟨j + 1, i + j + n, f, acc ++ t, rfl, rfl, by omega, .inr ⟨by omega, by omega, hasc, h2, by omega, by rw [List.length_append]; omega, HRUN.out⟩, ?_, k2.iter ((b1.block _ hsz2).trans hit2) (by omega), (hbw2.trans (b1.mono (Nat.le_of_lt (Nat.lt_trans hI0 hsz2)))).trans b2⟩
                rw [Lib.byteCells_append, ← strCells_mk]
                exact Or.inr g1
            · exact absurd (piece_bad hf) (by rw [hpp]; simp)
            · have hrun0 := runP_mid n (i + j) h5 (by omega) hle.2
              have HRUN := Lib.hid hrun0
              clear hrun0
              by_cases hd : (Utf8.decode X j).1 = 65533
              ·
                have t1 : (((Utf8.decode X j).1 : Int) == 92) = false := by rw [beq_eq_false_iff_ne]; omega
                have hrl := fun W => Tryz.utf8_RuneLen ((Utf8.decode X j).1 : Int) W
                rw [hlen'] at hrl
                have HRL := Lib.hid hrl
                have hpr := hpr' hd
                have t2 : (((Utf8.decode X j).1 : Int) == 65533) = true := by rw [hd]; rfl
                have hconv : ∀ W, (convert 21 9 (.int .i32 ((Utf8.decode X j).1 : Int))).run Tryz.prog W = .ok (.string ⟨#[239, 191, 189]⟩) W := fun W => by rw [hd]; kernel_rfl
                have hpx := fun W => Tryz.strings_HasPrefix (X.extract j X.size) ⟨#[239, 191, 189]⟩ W
                rw [ext_data, hL] at hpx
                simp only [] at hpx
                rw [hpr] at hpx
                have HP := Lib.hid hpx
                clear hpx
                clear hd hc92 hd92 hpr hpr' hrl hlen' hpp
                obtain rfl : n = n' := (u2 t n' rfl).symm
                have HW2 : Hid ((Utf8.decode X j).2 = n) := Lib.hid hwid
                clear hwid
                have H5 := Lib.hid (And.intro h5 (And.intro u1 hby))
                clear hpc hL hdl hYl hYs hcls hn hlen hXe h5 u1 u2 hby
                go_wp2_with (first
                    | (go_at_call 110; refine (HRL.out _).mono ?_; rintro ev w' ⟨rfl, rfl⟩)
                    | (go_at_call 111; refine (HP.out _).mono ?_; rintro ev w' ⟨rfl, rfl⟩)
                    | (go_at_call 112; refine (HU.out _ HE2.out).mono ?_; rintro ev W1 ⟨b1, rfl⟩)
                    | (go_at_call 87; refine (Tryz.Builder_WriteString_k w.heap.size w.heap.size _ _ _ (Lib.IsBuilderF.below hI2 b1) (by rw [Lib.byteCells_length]; show _ + t.length ≤ _; omega) (by have := b1.size; omega)).mono ?_; rintro ev W2 ⟨rfl, g1, b2, k2⟩))
                have hw2 := HW2.out
                rw [hw2] at hit2 hbw2 b1 hsz2
                go_roundg (X.size + 1 - (j + n))
                case measure => omega
                case rel =>
                  refine ⟨j + n, i + j + n, f, acc ++ t, rfl, rfl, by omega, .inl ⟨by omega, by rw [← Nat.add_assoc]; exact h2, by omega, by rw [List.length_append]; omega, by rw [← Nat.add_assoc]; exact HRUN.out⟩, ?_, k2.iter ((b1.block _ hsz2).trans hit2) (by omega), (hbw2.trans (b1.mono (Nat.le_of_lt (Nat.lt_trans hI0 hsz2)))).trans b2⟩
                  rw [Lib.byteCells_append, ← strCells_mk]
                  exact Or.inr g1
              ·
                have t1 : (((Utf8.decode X j).1 : Int) == 92) = false := by rw [beq_eq_false_iff_ne]; omega
                have hrl := fun W => Tryz.utf8_RuneLen ((Utf8.decode X j).1 : Int) W
                rw [hlen'] at hrl
                have HRL := Lib.hid hrl
                have t2 : (((Utf8.decode X j).1 : Int) == 65533) = false := by rw [beq_eq_false_iff_ne]; omega
                clear hd hc92 hd92 hpr' hrl hlen' hpp
                obtain rfl : n = n' := (u2 t n' rfl).symm
                have HW2 : Hid ((Utf8.decode X j).2 = n) := Lib.hid hwid
                clear hwid
                have H5 := Lib.hid (And.intro h5 (And.intro u1 hby))
                clear hpc hL hdl hYl hYs hcls hn hlen hXe h5 u1 u2 hby
                go_wp2_with (first
                    | (go_at_call 110; refine (HRL.out _).mono ?_; rintro ev w' ⟨rfl, rfl⟩)
                    | (go_at_call 111; refine (HP.out _).mono ?_; rintro ev w' ⟨rfl, rfl⟩)
                    | (go_at_call 112; refine (HU.out _ HE2.out).mono ?_; rintro ev W1 ⟨b1, rfl⟩)
                    | (go_at_call 87; refine (Tryz.Builder_WriteString_k w.heap.size w.heap.size _ _ _ (Lib.IsBuilderF.below hI2 b1) (by rw [Lib.byteCells_length]; show _ + t.length ≤ _; omega) (by have := b1.size; omega)).mono ?_; rintro ev W2 ⟨rfl, g1, b2, k2⟩))
                have hw2 := HW2.out
                rw [hw2] at hit2 hbw2 b1 hsz2
                go_roundg (X.size + 1 - (j + n))
                case measure => omega
                case rel =>
                  refine ⟨j + n, i + j + n, f, acc ++ t, rfl, rfl, by omega, .inl ⟨by omega, by rw [← Nat.add_assoc]; exact h2, by omega, by rw [List.length_append]; omega, by rw [← Nat.add_assoc]; exact HRUN.out⟩, ?_, k2.iter ((b1.block _ hsz2).trans hit2) (by omega), (hbw2.trans (b1.mono (Nat.le_of_lt (Nat.lt_trans hI0 hsz2)))).trans b2⟩
                  rw [Lib.byteCells_append, ← strCells_mk]
                  exact Or.inr g1
        · -- a byte that a piece has taken
          have hlt : (i : Int) + (j : Int) < q := by omega
          have hXe : X.size = e - i := by
            have := congrArg List.length HX.out
            rw [List.length_take, List.length_drop] at this
            have h2 : X.data.toList.length = X.size := by simp
            have h3 : s.data.toList.length = s.size := by simp
            omega
          have hXb : e ≤ X.size + i := by omega
          have hby : X.data.toList.drop j = peekB s (i + j) :: X.data.toList.drop (j + 1) := by
            have hx := drop_at X j hp
            have hjs : i + j < s.size := by omega
            have h8 : X.data.toList[j]? = some s[i + j] := by
              rw [HX.out, List.getElem?_take_of_lt (by omega), List.getElem?_drop, List.getElem?_eq_getElem (by simpa using hjs)]
              rfl
            rw [List.getElem?_eq_getElem (by simpa using hp)] at h8
            rw [peekB_in hjs, hx]
            congr 1
            exact Option.some.inj h8
          have hwid : (Utf8.decode X j).2 = 1 := by
            rw [← Lib.decodeL_drop, hby, decodeL_ascii' _ _ (h3 (i + j) (Nat.le_refl _) h1)]
          have HW := Lib.hid (And.intro hwid (And.intro h3 (And.intro h4 h7)))
          clear hby hwid h3 h4 h7 hXe
          go_wp2_with fail
          obtain ⟨hw2, h3, h4, h7⟩ := HW.out
          rw [hw2] at hI2 hit2
          try rw [hw2] at hbw2
          try rw [hw2]
          go_roundg (X.size + 1 - (j + 1))
          case measure => omega
          case rel =>
            refine ⟨j + 1, q, fuel, acc, rfl, rfl, by omega, ?_, hI2, hit2, hbw2⟩
            by_cases hq : i + (j + 1) = q
            · subst hq
              exact .inl ⟨Nat.le_refl _, h4, h5, by omega, h7⟩
            · exact .inr ⟨by omega, h2, fun k hk1 hk2 => h3 k (by omega) hk2, h4, h5, h6, h7⟩
      · -- the value is through
        have hnx : ∀ ty, (Instr.next (.pointer (some ⟨wc.heap.size, 0, none⟩)) true ty).run Tryz.prog wr = _ := fun ty => Lib.run_next_end_at wr wc.heap.size X j ty hit hp
        have hXe : X.size = e - i := by
          have := congrArg List.length HX.out
          rw [List.length_take, List.length_drop] at this
          have h2 : X.data.toList.length = X.size := by simp
          have h3 : s.data.toList.length = s.size := by simp
          omega
        have hstop : s.size ≤ e ∨ endB star (peekB s e) = true := by
          by_cases hes : e < s.size
          · refine .inr ?_
            have h := runP_end_at (s := s) (f := fun c => !endB star c) (i := i) (by rw [HEN.out]; exact hes)
            simp only [HEN.out] at h
            rw [peekB_in hes]
            simpa using h
          · exact .inl (by omega)
        have hRa : R = .ok (acc, e) ∧ acc.length ≤ 1048576 := by
          rcases hV with ⟨h1, h2, h3, h4, h5⟩ | ⟨h1, h2, h3, h4, h5, h6, h7⟩
          · obtain ⟨f, rfl⟩ : ∃ f, fuel = f + 1 := ⟨fuel - 1, by omega⟩
            rw [show i + j = e from by omega, valP_stop hstop] at h2
            exact ⟨h2.symm, by omega⟩
          · omega
        obtain ⟨rfl, hal⟩ := hRa
        have hRr : Rd wr b s i p := HR.out.keep0 (Keep.of_below hbw)
        have HRr := Lib.hid hRr
        have hf1 := hRr.free 1
        have hc1 := hRr.c1
        have hXi : (i : Int) + (X.size : Int) = (e : Int) := by omega
        have HXI := Lib.hid hXi
        have HV := Lib.hid (And.intro hV hXe)
        have hbx : i + X.size ≤ e := by omega
        clear hV hXe hstop hRr hXi
        by_cases hbig : 65536 < acc.length
        · have hv : lenP i (.ok (acc, e)) = .error (3, i) := by unfold lenP; exact if_pos hbig
          have HLV := Lib.hid hv
          have hlb : (65536 : Int) < ((Lib.byteCells acc).length : Int) := by rw [Lib.byteCells_length]; omega
          clear hv
          go_wp2_with (first
            | (go_at_call 113; refine (Tryz.Builder_Len_f w.heap.size w.heap.size _ _ hI).mono ?_; rintro ev w' ⟨rfl, rfl⟩)
            | (go_at_call 48; refine (fault_any b i p i 3 s _ hsm (by exact HRr.out)).mono ?_; rintro ev W2 ⟨fv, rfl, hEr, hK2⟩))
          rw [Exit.noGoto_ret]
          go_ret2
          rw [HLV.out]
          exact Gave.mkErr hEr (((Keep.of_below hbw).trans hK2).of0)
        · have hv : lenP i (.ok (acc, e)) = .ok (⟨acc.toArray⟩, e) := by unfold lenP; exact if_neg hbig
          have HLV := Lib.hid hv
          have hlb : ((Lib.byteCells acc).length : Int) ≤ 65536 := by rw [Lib.byteCells_length]; omega
          have HI2 := Lib.hid (fun v => builder_set hI v hblt)
          clear hv
          go_wp2_with (first
            | (go_at_call 113; refine (Tryz.Builder_Len_f w.heap.size w.heap.size _ _ hI).mono ?_; rintro ev w' ⟨rfl, rfl⟩)
            | (go_at_call 89; refine (Tryz.Builder_String_any_k w.heap.size w.heap.size acc _ (HI2.out _) (by simp [World.setCell]; omega)).mono ?_; rintro ev W1 ⟨rfl, _, b1, _⟩))
          rw [Exit.noGoto_ret]
          go_ret2
          rw [HLV.out]
          have hRs := HRr.out.setAt e
          rw [← HXI.out] at hRs
          refine Gave.mkOk ((b1.block b hblt).trans hRs) ?_
          exact Keep.trans_below (((Keep.of_below hbw).of0).setCell _ _ (.inl (by simp))) b1
end Go.Proofs.YtjmpcoedfoaebaaGreatDoor
