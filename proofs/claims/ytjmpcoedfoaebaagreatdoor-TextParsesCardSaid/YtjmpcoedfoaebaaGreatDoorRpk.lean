/- The reference's isDn; its reader: extensible. -/
import Derived.Test.YtjmpcoedfoaebaaGreatDoorRpi
open Go Go.RowKit
namespace Go.Proofs.YtjmpcoedfoaebaaGreatDoor

theorem fold_d (c : UInt8) : Lib.foldEq c 100 = (c.toNat == 100 || c.toNat == 68) := by
  have h : ∀ n : Fin 256, Lib.foldEq (UInt8.ofNat n.val) 100 = (n.val == 100 || n.val == 68) := by decide +kernel
  have := h ⟨c.toNat, c.toNat_lt⟩
  simpa using this
theorem fold_n (c : UInt8) : Lib.foldEq c 110 = (c.toNat == 110 || c.toNat == 78) := by
  have h : ∀ n : Fin 256, Lib.foldEq (UInt8.ofNat n.val) 110 = (n.val == 110 || n.val == 78) := by decide +kernel
  have := h ⟨c.toNat, c.toNat_lt⟩
  simpa using this
theorem dnB_two {s : ByteArray} {x y : UInt8} (h : s.data.toList = [x, y]) : dnB s = ((x.toNat == 100 || x.toNat == 68) && (y.toNat == 110 || y.toNat == 78)) := by
  unfold dnB
  rw [h]
  simp only [Lib.equalFold, fold_d, fold_n, Bool.and_true]
theorem dnB_not {s : ByteArray} (h : s.size ≠ 2) : dnB s = false := by
  unfold dnB
  have hl : s.data.toList.length ≠ 2 := h
  match s.data.toList, hl with
  | [], _ => rfl
  | [x], _ => simp [Lib.equalFold]
  | [_, _], h => exact absurd rfl h
  | x :: y :: z :: r, _ => simp [Lib.equalFold]
set_option maxRecDepth 100000 in
theorem xisDn_any (s : ByteArray) (w : World) : Calls Tryz.prog 105 #[.string s] w fun e w' => e = .returned (.bool (dnB s)) ∧ w' = w := by
  by_cases h2 : s.size = 2
  · have hl : s.data.toList = [s[0], s[1]] := by
      have h0 := drop_at s 0 (by omega)
      have h1 := drop_at s 1 (by omega)
      rw [List.drop_zero] at h0
      rw [h0, h1, List.drop_of_length_le (by show s.data.toList.length ≤ _; have : s.data.toList.length = s.size := rfl; omega)]
    have hd := dnB_two hl
    obtain ⟨x, hx⟩ : ∃ x, s[0] = x := ⟨_, rfl⟩
    obtain ⟨y, hy⟩ : ∃ y, s[1] = y := ⟨_, rfl⟩
    rw [hx, hy] at hd
    have hs2 : ((s.size : Int) == 2) = true := by have h2' := h2; rw [beq_iff_eq]; omega
    have ei : ∀ (z : UInt8) (k : Nat), (z.toNat == k) = ((z.toNat : Int) == (k : Int)) := fun z k => by rw [Bool.eq_iff_iff]; simp; omega
    rw [ei, ei, ei, ei] at hd
    have hi0 : (0 : Int) < s.size := by omega
    have hi1 : (1 : Int) < s.size := by omega
    have h0' : 0 < s.size := by omega
    have h1' : 1 < s.size := by omega
    obtain ⟨a1, ha1⟩ : ∃ a1, ((x.toNat : Int) == 100) = a1 := ⟨_, rfl⟩
    obtain ⟨a2, ha2⟩ : ∃ a2, ((x.toNat : Int) == 68) = a2 := ⟨_, rfl⟩
    obtain ⟨b1, hb1⟩ : ∃ b1, ((y.toNat : Int) == 110) = b1 := ⟨_, rfl⟩
    obtain ⟨b2, hb2⟩ : ∃ b2, ((y.toNat : Int) == 78) = b2 := ⟨_, rfl⟩
    have hd' : dnB s = ((a1 || a2) && (b1 || b2)) := by rw [hd, ← ha1, ← ha2, ← hb1, ← hb2]; rfl
    have HD := Lib.hid hd'
    clear hd hl hd'
    cases a1 <;> cases a2 <;> cases b1 <;> cases b2
    all_goals
      go_enter Tryz.func105, Tryz.ntmps105
      go_wp2
      go_ret
      rw [HD.out]
      exact ⟨rfl, rfl⟩
  · have hs2 : ((s.size : Int) == 2) = false := by rw [beq_eq_false_iff_ne]; omega
    have HD := Lib.hid (dnB_not h2)
    clear h2
    go_enter Tryz.func105, Tryz.ntmps105
    go_wp2
    go_ret
    rw [HD.out]
    exact ⟨rfl, rfl⟩

/-- The two filters' variables of a call: its own, and its result. -/
def TwoF (w : World) (k : Int) (d : ByteArray) : World := (w.alloc (.cells #[.int .i8 k, .slice none 0 0, .string d, .string ⟨#[]⟩, .string ⟨#[]⟩, .slice none 0 0, .string ⟨#[]⟩, .string ⟨#[]⟩, .bool false] 26)).alloc (.cells #[.int .i8 0, .slice none 0 0, .string ⟨#[]⟩, .string ⟨#[]⟩, .string ⟨#[]⟩, .slice none 0 0, .string ⟨#[]⟩, .string ⟨#[]⟩, .bool false] 26)
theorem TwoF.keep (w : World) (k : Int) (d : ByteArray) : Keep [] w (TwoF w k d) := ((Keep.refl [] w).alloc _).alloc _
theorem TwoF.own (w : World) (k : Int) (d : ByteArray) : (TwoF w k d).heap[w.heap.size]? = some (.cells #[.int .i8 k, .slice none 0 0, .string d, .string ⟨#[]⟩, .string ⟨#[]⟩, .slice none 0 0, .string ⟨#[]⟩, .string ⟨#[]⟩, .bool false] 26 (0, 0)) := (alloc_lt _ (by simp)).trans (alloc_at w _)
theorem TwoF.res (w : World) (k : Int) (d : ByteArray) : (TwoF w k d).heap[w.heap.size + 1]? = some (.cells #[.int .i8 0, .slice none 0 0, .string ⟨#[]⟩, .string ⟨#[]⟩, .string ⟨#[]⟩, .slice none 0 0, .string ⟨#[]⟩, .string ⟨#[]⟩, .bool false] 26 (0, 0)) := alloc_is3 (w.alloc _) _ _ (by simp)

def XuRel (b : Nat) (s : ByteArray) (p : Nat) (d : ByteArray) (w : World) (R : Except (Int × Nat) (ByteArray × Bool × Nat)) (k : Nat) (ok : Value) (wr : World) : Prop :=
  ∃ (ru : ByteArray) (dn : Bool), Keep [b] w wr ∧
    wr.heap[w.heap.size]? = some (.cells #[.int .i8 9, .slice none 0 0, .string d, .string ⟨#[]⟩, .string ⟨#[]⟩, .slice none 0 0, .string ⟨#[]⟩, .string ru, .bool dn] 26 (0, 0)) ∧
    wr.heap[w.heap.size + 1]? = some (.cells #[.int .i8 0, .slice none 0 0, .string ⟨#[]⟩, .string ⟨#[]⟩, .string ⟨#[]⟩, .slice none 0 0, .string ⟨#[]⟩, .string ⟨#[]⟩, .bool false] 26 (0, 0)) ∧
    ((ok = .bool true ∧ ∃ j, j ≤ s.size ∧ s.size < j + k ∧ Rx wr b s j p ∧ rulesP k s d j ru dn = R) ∨ (ok = .bool false ∧ ∃ f, R = .error f ∧ RxF wr b s f))

set_option maxRecDepth 100000 in
set_option maxHeartbeats 2000000 in
theorem xextensible_any (b i p : Nat) (d : ByteArray) (s : ByteArray) (w : World) (hs : s.size ≤ 1048576) (hi : i < s.size) (hc : peekB s i = 58) (hR : Rx w b s i p) :
    Calls Tryz.prog 69 #[.pointer (some ⟨b, 0, none⟩), .agg #[.int .i8 0, .slice none 0 0, .string d, .string ⟨#[]⟩, .string ⟨#[]⟩, .slice none 0 0, .string ⟨#[]⟩, .string ⟨#[]⟩, .bool false]] w (ItX b s p w (ruleP s (i + 1) d)) := by
  have hsm : s.size ≤ maxLen := by unfold maxLen; omega
  have hbw := hR.lt
  have hT := xtakes_any b i p 58 s (TwoF w 9 d) hsm (by exact hR.keep0 (TwoF.keep w 9 d))
  have htk : takeP s i 58 = .ok (i + 1) := by unfold takeP; rw [if_pos ⟨hi, hc⟩]
  rw [htk] at hT
  have HT := Lib.hid hT
  have HF := Lib.hid (TwoF.own w 9 d)
  have HG := Lib.hid (TwoF.res w 9 d)
  have HK : Hid (Keep [b] w (TwoF w 9 d)) := Lib.hid (TwoF.keep w 9 d).of0
  clear hT hR htk hc
  unfold ruleP
  generalize hRR : rulesP (s.size + 1) s d (i + 1) noText false = R
  have HRR := Lib.hid hRR
  clear hRR
  unfold TwoF at HT HF HG HK
  go_enter Tryz.func69, Tryz.ntmps69
  go_wp2_with (go_at_call 45; refine HT.out.mono ?_; intro e w2 hw; obtain ⟨rfl, hR2, hK2⟩ := WentX.ok hw; clear hw; have HR2 := Lib.hid hR2; have HK2 := Lib.hid (HK.out.trans hK2); have HF2 := Lib.hid (hK2.heap HF.out (by simp; omega)); have HG2 := Lib.hid (hK2.heap HG.out (by simp; omega)); clear hR2 hK2)
  go_loopg [6] (s.size + 1) (fun k ok wr => XuRel b s p d w R k ok wr)
  case atStart => exact ⟨noText, false, HK2.out, HF2.out, HG2.out, .inl ⟨rfl, i + 1, hi, by omega, HR2.out, HRR.out⟩⟩
  case round =>
    obtain ⟨ru, dn, hKq, hFq, hGq, hst0⟩ := hrel
    have HKq := Lib.hid hKq
    have HFq := Lib.hid hFq
    have HGq := Lib.hid hGq
    clear hKq HR2 HK2 HF2 HG2 HT HF HG HK
    rcases hst0 with ⟨rfl, j, hj, hk, hRq, hst⟩ | ⟨rfl, f, rfl, hE⟩
    · obtain ⟨k', rfl⟩ : ∃ k', gk = k' + 1 := ⟨gk - 1, by omega⟩
      have r0 := hRq.c0
      have r1 := hRq.c1
      have rf := hRq.free 1
      obtain ⟨x0, x1, x2, x3, x4, x5, x6, x7, x8, xf⟩ := nine hFq
      have HRq := Lib.hid hRq
      clear hRq hFq hGq
      have HX := Lib.hid (fun W h => xnext_any b j p 61 s W h)
      cases hx : nextB s j 61
      · rw [hx] at HX
        have hne := next_no hx
        cases hre : ru.toList.isEmpty
        · have HPK : Hid (peekB s j ≠ 61 ∨ (d = noText ∧ ru = noText)) := Lib.hid (.inl hne)
          clear hne
          obtain rfl : Except.error (stuckF s j) = R := by rw [← hst]; unfold rulesP; rw [if_pos (HPK.out), if_pos (fun h => by rw [empty_eq.2 h] at hre; cases hre)]
          clear hst hx
          go_wp2_with (go_at_call 41; refine (HX.out _ (by exact HRq.out)).mono ?_; rintro e w' ⟨rfl, n, rfl⟩)
          go_region_with (go_at_call 27; refine (xstuck_any b j p s _ hsm (by exact HRq.out)).mono ?_; rintro ev w3 ⟨rfl, hE3, hK3⟩; obtain ⟨x0, x1, x2, x3, x4, x5, x6, x7, x8, xf⟩ := nine (hK3.heap (by exact HFq.out) (by simp; omega)); obtain ⟨y0, y1, y2, y3, y4, y5, y6, y7, y8, yf⟩ := nine (hK3.heap (by exact HGq.out) (by simp; omega)); have HE3 := Lib.hid hE3; have HK3 : Hid (Keep [b] wr w3) := Lib.hid (((Keep.refl [b] wr).drewN _).trans hK3); clear hE3 hK3)
          all_goals
            go_wp2_with fail
            refine bodyPost_ret (v := .tuple #[.agg #[.int .i8 9, .slice none 0 0, .string d, .string ⟨#[]⟩, .string ⟨#[]⟩, .slice none 0 0, .string ⟨#[]⟩, .string ru, .bool dn], .bool false]) (by simp [results, Tryz.results69, go_sem, y0, y1, y2, y3, y4, y5, y6, y7, y8]) rfl ?_
            have hKr : Keep [w.heap.size + 1] w3 (w3.setCells (w.heap.size + 1) 0 [.int .i8 9, .slice none 0 0, .string d, .string ⟨#[]⟩, .string ⟨#[]⟩, .slice none 0 0, .string ⟨#[]⟩, .string ru, .bool dn]) := setCells_keep (.inl (by simp)) _ 0 w3 (Keep.refl _ _)
            exact ⟨_, ⟨_, _, _, _, _, _, _, _, _, _, _, _, _, rfl⟩, rfl, HE3.out.keep1 hKr (by simp; omega), (HKq.out.trans HK3.out).transTo hKr (by simp)⟩
        · have HPK : Hid (peekB s j ≠ 61 ∨ (d = noText ∧ ru = noText)) := Lib.hid (.inl hne)
          clear hne
          have hst1 := hst
          unfold rulesP at hst1
          rw [if_pos (HPK.out), if_neg (fun h => h (empty_eq.1 hre))] at hst1
          have HW := Lib.hid (fun W h => xword_any b j p s W hsm hj h)
          cases hw : wordP s j with
          | error f =>
            rw [hw] at HW hst1
            obtain rfl : Except.error f = R := hst1
            clear hst hx hw
            go_wp2_with (first
              | (go_at_call 41; refine (HX.out _ (by exact HRq.out)).mono ?_; rintro e w' ⟨rfl, n, rfl⟩)
              | (go_at_call 64; refine (HW.out _ (by exact HRq.out)).mono ?_; intro ev w3 hw; obtain ⟨rfl, hE3, hK3⟩ := WentX.err hw; clear hw; obtain ⟨x0, x1, x2, x3, x4, x5, x6, x7, x8, xf⟩ := nine (hK3.heap (by exact HFq.out) (by simp; omega)); obtain ⟨y0, y1, y2, y3, y4, y5, y6, y7, y8, yf⟩ := nine (hK3.heap (by exact HGq.out) (by simp; omega)); have HE3 := Lib.hid hE3; have HK3 : Hid (Keep [b] wr w3) := Lib.hid (((Keep.refl [b] wr).drewN _).trans hK3); clear hE3 hK3))
            refine bodyPost_ret (v := .tuple #[.agg #[.int .i8 9, .slice none 0 0, .string d, .string ⟨#[]⟩, .string ⟨#[]⟩, .slice none 0 0, .string ⟨#[]⟩, .string ru, .bool dn], .bool false]) (by simp [results, Tryz.results69, go_sem, y0, y1, y2, y3, y4, y5, y6, y7, y8]) rfl ?_
            have hKr : Keep [w.heap.size + 1] w3 (w3.setCells (w.heap.size + 1) 0 [.int .i8 9, .slice none 0 0, .string d, .string ⟨#[]⟩, .string ⟨#[]⟩, .slice none 0 0, .string ⟨#[]⟩, .string ru, .bool dn]) := setCells_keep (.inl (by simp)) _ 0 w3 (Keep.refl _ _)
            exact ⟨_, ⟨_, _, _, _, _, _, _, _, _, _, _, _, _, rfl⟩, rfl, HE3.out.keep1 hKr (by simp; omega), (HKq.out.trans HK3.out).transTo hKr (by simp)⟩
          | ok e =>
            obtain ⟨hje, hes⟩ := wordP_ok hw
            rw [hw] at HW hst1
            have hst2 : (match sinceP j e with | .error f => .error f | .ok e => if dnB (s.extract j e) = true ∧ dn = true then .error (50, j) else match takeP s e 58 with | .error f => .error f | .ok q => if dnB (s.extract j e) = true then rulesP k' s d q ru true else rulesP k' s d q (s.extract j e) dn : Except (Int × Nat) (ByteArray × Bool × Nat)) = R := hst1
            clear hst hst1 hx hw
            go_wp2_with (first
              | (go_at_call 41; refine (HX.out _ (by exact HRq.out)).mono ?_; rintro e w' ⟨rfl, n, rfl⟩)
              | (go_at_call 64; refine (HW.out _ (by exact HRq.out)).mono ?_; intro ev w3 hw; obtain ⟨rfl, hR3, hK3⟩ := WentX.ok hw; clear hw; have s0 := hR3.c0; have s1 := hR3.c1; have HR3 := Lib.hid hR3; have HF3 := Lib.hid (hK3.heap (by exact HFq.out) (by simp; omega)); have HG3 := Lib.hid (hK3.heap (by exact HGq.out) (by simp; omega)); have HK3 : Hid (Keep [b] wr w3) := Lib.hid (((Keep.refl [b] wr).drewN _).trans hK3); clear hR3 hK3))
            go_quiet (fail)
            obtain ⟨w5, hw5⟩ : ∃ w5, w5 = w3.drewN nq := ⟨_, rfl⟩
            have HR5 : Hid (Rx w5 b s e p) := Lib.hid (by rw [hw5]; exact HR3.out)
            have HF5 : Hid (w5.heap[w.heap.size]? = some (.cells #[.int .i8 9, .slice none 0 0, .string d, .string ⟨#[]⟩, .string ⟨#[]⟩, .slice none 0 0, .string ⟨#[]⟩, .string ru, .bool dn] 26 (0, 0))) := Lib.hid (by rw [hw5]; exact HF3.out)
            have HG5 : Hid (w5.heap[w.heap.size + 1]? = some (.cells #[.int .i8 0, .slice none 0 0, .string ⟨#[]⟩, .string ⟨#[]⟩, .string ⟨#[]⟩, .slice none 0 0, .string ⟨#[]⟩, .string ⟨#[]⟩, .bool false] 26 (0, 0))) := Lib.hid (by rw [hw5]; exact HG3.out)
            have HK5 : Hid (Keep [b] w w5) := Lib.hid (by rw [hw5]; exact (HKq.out.trans HK3.out).drewN _)
            rw [← hw5]
            clear hw5 HR3 HF3 HG3 HK3 s0 s1 r0 r1 rf x0 x1 x2 x3 x4 x5 x6 x7 x8 xf HKq HFq HGq HRq HX
            obtain ⟨x0, x1, x2, x3, x4, x5, x6, x7, x8, xf⟩ := nine HF5.out
            have HD := Lib.hid (fun W => xisDn_any (s.extract j e) W)
            have hsz : (s.extract j e).size = e - j := by rw [ByteArray.size_extract]; omega
            by_cases hlong : 65536 < e - j
            · rw [show sinceP j e = .error (3, j) from if_pos hlong] at hst2
              obtain rfl : Except.error (3, j) = R := hst2
              rw [dnB_not (s := s.extract j e) (by omega)] at HD
              have hl : (65536 : Int) < (e : Int) - j := by omega
              have hl2 : (65536 : Int) < ((s.extract j e).size : Int) := by rw [hsz]; omega
              go_wp2_with (go_at_call 105; refine (HD.out _).mono ?_; rintro ev w6 ⟨rfl, h6⟩; obtain rfl := h6.symm)
              go_region_with (go_at_call 42; refine (xfails_any b e p j 3 s _ hsm (by exact HR5.out)).mono ?_; rintro ev w3 ⟨rfl, hE3, hK3⟩; obtain ⟨x0, x1, x2, x3, x4, x5, x6, x7, x8, xf⟩ := nine (hK3.heap (by exact HF5.out) (by simp; omega)); obtain ⟨y0, y1, y2, y3, y4, y5, y6, y7, y8, yf⟩ := nine (hK3.heap (by exact HG5.out) (by simp; omega)); have HE3 := Lib.hid hE3; have HK3 : Hid (Keep [b] w5 w3) := Lib.hid (((Keep.refl [b] w5).drewN _).trans hK3); clear hE3 hK3)
              all_goals
                go_wp2_with fail
                refine bodyPost_ret (v := .tuple #[.agg #[.int .i8 9, .slice none 0 0, .string d, .string ⟨#[]⟩, .string ⟨#[]⟩, .slice none 0 0, .string ⟨#[]⟩, .string ru, .bool dn], .bool false]) (by simp [results, Tryz.results69, go_sem, y0, y1, y2, y3, y4, y5, y6, y7, y8]) rfl ?_
                have hKr : Keep [w.heap.size + 1] w3 (w3.setCells (w.heap.size + 1) 0 [.int .i8 9, .slice none 0 0, .string d, .string ⟨#[]⟩, .string ⟨#[]⟩, .slice none 0 0, .string ⟨#[]⟩, .string ru, .bool dn]) := setCells_keep (.inl (by simp)) _ 0 w3 (Keep.refl _ _)
                exact ⟨_, ⟨_, _, _, _, _, _, _, _, _, _, _, _, _, rfl⟩, rfl, HE3.out.keep1 hKr (by simp; omega), (HK5.out.trans HK3.out).transTo hKr (by simp)⟩
            · rw [show sinceP j e = .ok e from if_neg hlong] at hst2
              dsimp only at hst2
              have hl2 : ((s.extract j e).size : Int) ≤ 65536 := by rw [hsz]; omega
              cases hdn : dnB (s.extract j e)
              · rw [hdn] at hst2 HD
                rw [if_neg (by simp)] at hst2
                simp only [Bool.false_eq_true, if_false] at hst2
                clear hdn
                have HTk := Lib.hid (fun W h => xtakes_any b e p 58 s W hsm h)
                cases ht : takeP s e 58 with
                | error f =>
                  rw [ht] at HTk
                  obtain rfl : Except.error f = R := by rw [← hst2, ht]
                  clear ht hst2
                  go_wp2_with (first
                    | (go_at_call 105; refine (HD.out _).mono ?_; rintro ev w6 ⟨rfl, h6⟩; obtain rfl := h6.symm)
                    | (go_at_call 45; refine (HTk.out _ (by exact (setCell_ne _ (show b ≠ w.heap.size by omega)).trans HR5.out)).mono ?_; intro ev w3 hw; obtain ⟨rfl, hE3, hK3⟩ := WentX.err hw; clear hw; have HE3 := Lib.hid hE3; have HK3 := Lib.hid hK3; clear hE3 hK3))
                  go_roundg k'
                  case measure => omega
                  case rel =>
                    have hF6 := setCell_at HF5.out 7 (.string (s.extract j e))
                    have hG6 := (setCell_ne (a := ⟨w.heap.size, 7, none⟩) (.string (s.extract j e)) (show w.heap.size + 1 ≠ w.heap.size by omega)).trans HG5.out
                    exact ⟨(s.extract j e), dn, (HK5.out.setCell _ _ (.inr (Nat.le_refl _))).trans HK3.out, HK3.out.heap hF6 (by simp; omega), HK3.out.heap hG6 (by simp; omega), .inr ⟨rfl, f, rfl, HE3.out⟩⟩
                | ok q =>
                  rw [ht] at HTk
                  have hst3 : rulesP k' s d q (s.extract j e) dn = R := by rw [← hst2, ht]
                  have hq := takeP_ok ht
                  have HS3 := Lib.hid hst3
                  clear ht hst2 hst3
                  go_wp2_with (first
                    | (go_at_call 105; refine (HD.out _).mono ?_; rintro ev w6 ⟨rfl, h6⟩; obtain rfl := h6.symm)
                    | (go_at_call 45; refine (HTk.out _ (by exact (setCell_ne _ (show b ≠ w.heap.size by omega)).trans HR5.out)).mono ?_; intro ev w3 hw; obtain ⟨rfl, hR3, hK3⟩ := WentX.ok hw; clear hw; have HR3 := Lib.hid hR3; have HK3 := Lib.hid hK3; clear hR3 hK3))
                  go_roundg k'
                  case measure => omega
                  case rel =>
                    have hF6 := setCell_at HF5.out 7 (.string (s.extract j e))
                    have hG6 := (setCell_ne (a := ⟨w.heap.size, 7, none⟩) (.string (s.extract j e)) (show w.heap.size + 1 ≠ w.heap.size by omega)).trans HG5.out
                    exact ⟨(s.extract j e), dn, (HK5.out.setCell _ _ (.inr (Nat.le_refl _))).trans HK3.out, HK3.out.heap hF6 (by simp; omega), HK3.out.heap hG6 (by simp; omega), .inl ⟨rfl, q, by omega, by omega, HR3.out, HS3.out⟩⟩
              · rw [hdn] at hst2 HD
                clear hdn
                cases dn
                · rw [if_neg (by simp)] at hst2
                  simp only [if_true] at hst2
                  have HTk := Lib.hid (fun W h => xtakes_any b e p 58 s W hsm h)
                  cases ht : takeP s e 58 with
                  | error f =>
                    rw [ht] at HTk
                    obtain rfl : Except.error f = R := by rw [← hst2, ht]
                    clear ht hst2
                    go_wp2_with (first
                      | (go_at_call 105; refine (HD.out _).mono ?_; rintro ev w6 ⟨rfl, h6⟩; obtain rfl := h6.symm)
                      | (go_at_call 45; refine (HTk.out _ (by exact (setCell_ne _ (show b ≠ w.heap.size by omega)).trans HR5.out)).mono ?_; intro ev w3 hw; obtain ⟨rfl, hE3, hK3⟩ := WentX.err hw; clear hw; have HE3 := Lib.hid hE3; have HK3 := Lib.hid hK3; clear hE3 hK3))
                    go_roundg k'
                    case measure => omega
                    case rel =>
                      have hF6 := setCell_at HF5.out 8 (.bool true)
                      have hG6 := (setCell_ne (a := ⟨w.heap.size, 8, none⟩) (.bool true) (show w.heap.size + 1 ≠ w.heap.size by omega)).trans HG5.out
                      exact ⟨ru, true, (HK5.out.setCell _ _ (.inr (Nat.le_refl _))).trans HK3.out, HK3.out.heap hF6 (by simp; omega), HK3.out.heap hG6 (by simp; omega), .inr ⟨rfl, f, rfl, HE3.out⟩⟩
                  | ok q =>
                    rw [ht] at HTk
                    have hst3 : rulesP k' s d q ru true = R := by rw [← hst2, ht]
                    have hq := takeP_ok ht
                    have HS3 := Lib.hid hst3
                    clear ht hst2 hst3
                    go_wp2_with (first
                      | (go_at_call 105; refine (HD.out _).mono ?_; rintro ev w6 ⟨rfl, h6⟩; obtain rfl := h6.symm)
                      | (go_at_call 45; refine (HTk.out _ (by exact (setCell_ne _ (show b ≠ w.heap.size by omega)).trans HR5.out)).mono ?_; intro ev w3 hw; obtain ⟨rfl, hR3, hK3⟩ := WentX.ok hw; clear hw; have HR3 := Lib.hid hR3; have HK3 := Lib.hid hK3; clear hR3 hK3))
                    go_roundg k'
                    case measure => omega
                    case rel =>
                      have hF6 := setCell_at HF5.out 8 (.bool true)
                      have hG6 := (setCell_ne (a := ⟨w.heap.size, 8, none⟩) (.bool true) (show w.heap.size + 1 ≠ w.heap.size by omega)).trans HG5.out
                      exact ⟨ru, true, (HK5.out.setCell _ _ (.inr (Nat.le_refl _))).trans HK3.out, HK3.out.heap hF6 (by simp; omega), HK3.out.heap hG6 (by simp; omega), .inl ⟨rfl, q, by omega, by omega, HR3.out, HS3.out⟩⟩
                · rw [if_pos ⟨rfl, rfl⟩] at hst2
                  obtain rfl : Except.error (50, j) = R := hst2
                  go_wp2_with (go_at_call 105; refine (HD.out _).mono ?_; rintro ev w6 ⟨rfl, h6⟩; obtain rfl := h6.symm)
                  go_region_with (go_at_call 42; refine (xfails_any b e p j 50 s _ hsm (by exact HR5.out)).mono ?_; rintro ev w3 ⟨rfl, hE3, hK3⟩; obtain ⟨x0, x1, x2, x3, x4, x5, x6, x7, x8, xf⟩ := nine (hK3.heap (by exact HF5.out) (by simp; omega)); obtain ⟨y0, y1, y2, y3, y4, y5, y6, y7, y8, yf⟩ := nine (hK3.heap (by exact HG5.out) (by simp; omega)); have HE3 := Lib.hid hE3; have HK3 : Hid (Keep [b] w5 w3) := Lib.hid (((Keep.refl [b] w5).drewN _).trans hK3); clear hE3 hK3)
                  all_goals
                    go_wp2_with fail
                    refine bodyPost_ret (v := .tuple #[.agg #[.int .i8 9, .slice none 0 0, .string d, .string ⟨#[]⟩, .string ⟨#[]⟩, .slice none 0 0, .string ⟨#[]⟩, .string ru, .bool true], .bool false]) (by simp [results, Tryz.results69, go_sem, y0, y1, y2, y3, y4, y5, y6, y7, y8]) rfl ?_
                    have hKr : Keep [w.heap.size + 1] w3 (w3.setCells (w.heap.size + 1) 0 [.int .i8 9, .slice none 0 0, .string d, .string ⟨#[]⟩, .string ⟨#[]⟩, .slice none 0 0, .string ⟨#[]⟩, .string ru, .bool true]) := setCells_keep (.inl (by simp)) _ 0 w3 (Keep.refl _ _)
                    exact ⟨_, ⟨_, _, _, _, _, _, _, _, _, _, _, _, _, rfl⟩, rfl, HE3.out.keep1 hKr (by simp; omega), (HK5.out.trans HK3.out).transTo hKr (by simp)⟩
      · rw [hx] at HX
        have hne := (next_yes hx).2
        cases hde : d.toList.isEmpty
        · have HPK : Hid (¬ (peekB s j ≠ 61 ∨ (d = noText ∧ ru = noText))) := Lib.hid (fun hh => hh.elim (fun h => h hne) (fun h => by rw [empty_eq.2 h.1] at hde; cases hde))
          clear hne
          obtain rfl : Except.ok (ru, dn, j) = R := by rw [← hst]; unfold rulesP; rw [if_neg (HPK.out)]
          have hjl : j < s.size := (next_yes hx).1
          have HRa : ∀ m, Rx ((wr.drewN m).setCell ⟨b, 1, none⟩ (.int .i64 ((j : Int) + 1))) b s (j + 1) p := fun m => (HRq.out.drewN m).setAt _
          have HFa : ∀ m, ((wr.drewN m).setCell ⟨b, 1, none⟩ (.int .i64 ((j : Int) + 1))).heap[w.heap.size]? = _ := fun m => (setCell_ne _ (show w.heap.size ≠ b by omega)).trans HFq.out
          have HGa : ∀ m, ((wr.drewN m).setCell ⟨b, 1, none⟩ (.int .i64 ((j : Int) + 1))).heap[w.heap.size + 1]? = _ := fun m => (setCell_ne _ (show w.heap.size + 1 ≠ b by omega)).trans HGq.out
          have HKa : ∀ m, Keep [b] w ((wr.drewN m).setCell ⟨b, 1, none⟩ (.int .i64 ((j : Int) + 1))) := fun m => (HKq.out.drewN m).setCell _ _ (.inl (by simp))
          have HVA := Lib.hid (fun m => xvalue_any b (j + 1) p false s _ hs hjl (HRa m))
          have HFA := Lib.hid HFa
          have HGA := Lib.hid HGa
          have HKA := Lib.hid HKa
          clear HRa HFa HGa HKa
          cases hv : valueP false s (j + 1) with
          | error f =>
            rw [hv] at HVA
            have HEV : Hid (ruleEnd s d (.ok (ru, dn, j)) = .error f) := Lib.hid (by show valItm d ru dn (valueP false s (j + 1)) = _; rw [hv]; rfl)
            clear hv hst hx
            go_wp2_with (first
              | (go_at_call 41; refine (HX.out _ (by exact HRq.out)).mono ?_; rintro e w' ⟨rfl, n, rfl⟩)
              | (go_at_call 71; refine (HVA.out _).mono ?_; intro ev w3 hw; obtain ⟨rfl, hE3, hK3⟩ := GaveX.err hw; clear hw; have hF3 := hK3.heap (HFA.out _) (by simp; omega); have hG3 := hK3.heap (HGA.out _) (by simp; omega); obtain ⟨x0, x1, x2, x3, x4, x5, x6, x7, x8, xf⟩ := nine hF3; obtain ⟨y0, y1, y2, y3, y4, y5, y6, y7, y8, yf⟩ := nine hG3; have HE3 := Lib.hid hE3; have HK3 := Lib.hid ((HKA.out _).trans hK3); clear hE3 hK3 hF3 hG3))
            refine bodyPost_ret (v := .tuple #[.agg #[.int .i8 9, .slice none 0 0, .string d, .string ⟨#[]⟩, .string ⟨#[]⟩, .slice none 0 0, .string ⟨#[]⟩, .string ru, .bool dn], .bool false]) (by simp [results, Tryz.results69, go_sem, y0, y1, y2, y3, y4, y5, y6, y7, y8]) rfl ?_
            have hKr : Keep [w.heap.size, w.heap.size + 1] w3 ((w3.setCell ⟨w.heap.size, 3, none⟩ (.string ⟨#[]⟩)).setCells (w.heap.size + 1) 0 [.int .i8 9, .slice none 0 0, .string d, .string ⟨#[]⟩, .string ⟨#[]⟩, .slice none 0 0, .string ⟨#[]⟩, .string ru, .bool dn]) := setCells_keep (.inl (by simp)) _ 0 _ ((Keep.refl _ _).setCell _ _ (.inl (by simp)))
            rw [HEV.out]
            exact ⟨_, ⟨_, _, _, _, _, _, _, _, _, _, _, _, _, rfl⟩, rfl, HE3.out.keep1 hKr (by simp; omega), HK3.out.transTo hKr (by simp)⟩
          | ok t =>
            obtain ⟨v, q⟩ := t
            rw [hv] at HVA
            have HEV : Hid (ruleEnd s d (.ok (ru, dn, j)) = .ok (⟨9, d, v, noText, [], noText, ru, dn⟩, q)) := Lib.hid (by show valItm d ru dn (valueP false s (j + 1)) = _; rw [hv]; rfl)
            clear hv hst hx
            go_wp2_with (first
              | (go_at_call 41; refine (HX.out _ (by exact HRq.out)).mono ?_; rintro e w' ⟨rfl, n, rfl⟩)
              | (go_at_call 71; refine (HVA.out _).mono ?_; intro ev w3 hw; obtain ⟨rfl, hR3, hK3⟩ := GaveX.ok hw; clear hw; have hF3 := hK3.heap (HFA.out _) (by simp; omega); have hG3 := hK3.heap (HGA.out _) (by simp; omega); obtain ⟨x0, x1, x2, x3, x4, x5, x6, x7, x8, xf⟩ := nine hF3; obtain ⟨y0, y1, y2, y3, y4, y5, y6, y7, y8, yf⟩ := nine hG3; have HR3 := Lib.hid hR3; have HK3 := Lib.hid ((HKA.out _).trans hK3); clear hR3 hK3 hF3 hG3))
            refine bodyPost_ret (v := .tuple #[.agg #[.int .i8 9, .slice none 0 0, .string d, .string v, .string ⟨#[]⟩, .slice none 0 0, .string ⟨#[]⟩, .string ru, .bool dn], .bool true]) (by simp [results, Tryz.results69, go_sem, y0, y1, y2, y3, y4, y5, y6, y7, y8]) rfl ?_
            have hKr : Keep [w.heap.size, w.heap.size + 1] w3 ((w3.setCell ⟨w.heap.size, 3, none⟩ (.string v)).setCells (w.heap.size + 1) 0 [.int .i8 9, .slice none 0 0, .string d, .string v, .string ⟨#[]⟩, .slice none 0 0, .string ⟨#[]⟩, .string ru, .bool dn]) := setCells_keep (.inl (by simp)) _ 0 _ ((Keep.refl _ _).setCell _ _ (.inl (by simp)))
            rw [HEV.out]
            exact ⟨none, 0, rfl, World.ownsRow_nil _ _ _ _, HR3.out.keep hKr (by simp; omega), HK3.out.transTo hKr (by simp)⟩
        · cases hre : ru.toList.isEmpty
          · have HPK : Hid (¬ (peekB s j ≠ 61 ∨ (d = noText ∧ ru = noText))) := Lib.hid (fun hh => hh.elim (fun h => h hne) (fun h => by rw [empty_eq.2 h.2] at hre; cases hre))
            clear hne
            obtain rfl : Except.ok (ru, dn, j) = R := by rw [← hst]; unfold rulesP; rw [if_neg (HPK.out)]
            have hjl : j < s.size := (next_yes hx).1
            have HRa : ∀ m, Rx ((wr.drewN m).setCell ⟨b, 1, none⟩ (.int .i64 ((j : Int) + 1))) b s (j + 1) p := fun m => (HRq.out.drewN m).setAt _
            have HFa : ∀ m, ((wr.drewN m).setCell ⟨b, 1, none⟩ (.int .i64 ((j : Int) + 1))).heap[w.heap.size]? = _ := fun m => (setCell_ne _ (show w.heap.size ≠ b by omega)).trans HFq.out
            have HGa : ∀ m, ((wr.drewN m).setCell ⟨b, 1, none⟩ (.int .i64 ((j : Int) + 1))).heap[w.heap.size + 1]? = _ := fun m => (setCell_ne _ (show w.heap.size + 1 ≠ b by omega)).trans HGq.out
            have HKa : ∀ m, Keep [b] w ((wr.drewN m).setCell ⟨b, 1, none⟩ (.int .i64 ((j : Int) + 1))) := fun m => (HKq.out.drewN m).setCell _ _ (.inl (by simp))
            have HVA := Lib.hid (fun m => xvalue_any b (j + 1) p false s _ hs hjl (HRa m))
            have HFA := Lib.hid HFa
            have HGA := Lib.hid HGa
            have HKA := Lib.hid HKa
            clear HRa HFa HGa HKa
            cases hv : valueP false s (j + 1) with
            | error f =>
              rw [hv] at HVA
              have HEV : Hid (ruleEnd s d (.ok (ru, dn, j)) = .error f) := Lib.hid (by show valItm d ru dn (valueP false s (j + 1)) = _; rw [hv]; rfl)
              clear hv hst hx
              go_wp2_with (first
                | (go_at_call 41; refine (HX.out _ (by exact HRq.out)).mono ?_; rintro e w' ⟨rfl, n, rfl⟩)
                | (go_at_call 71; refine (HVA.out _).mono ?_; intro ev w3 hw; obtain ⟨rfl, hE3, hK3⟩ := GaveX.err hw; clear hw; have hF3 := hK3.heap (HFA.out _) (by simp; omega); have hG3 := hK3.heap (HGA.out _) (by simp; omega); obtain ⟨x0, x1, x2, x3, x4, x5, x6, x7, x8, xf⟩ := nine hF3; obtain ⟨y0, y1, y2, y3, y4, y5, y6, y7, y8, yf⟩ := nine hG3; have HE3 := Lib.hid hE3; have HK3 := Lib.hid ((HKA.out _).trans hK3); clear hE3 hK3 hF3 hG3))
              refine bodyPost_ret (v := .tuple #[.agg #[.int .i8 9, .slice none 0 0, .string d, .string ⟨#[]⟩, .string ⟨#[]⟩, .slice none 0 0, .string ⟨#[]⟩, .string ru, .bool dn], .bool false]) (by simp [results, Tryz.results69, go_sem, y0, y1, y2, y3, y4, y5, y6, y7, y8]) rfl ?_
              have hKr : Keep [w.heap.size, w.heap.size + 1] w3 ((w3.setCell ⟨w.heap.size, 3, none⟩ (.string ⟨#[]⟩)).setCells (w.heap.size + 1) 0 [.int .i8 9, .slice none 0 0, .string d, .string ⟨#[]⟩, .string ⟨#[]⟩, .slice none 0 0, .string ⟨#[]⟩, .string ru, .bool dn]) := setCells_keep (.inl (by simp)) _ 0 _ ((Keep.refl _ _).setCell _ _ (.inl (by simp)))
              rw [HEV.out]
              exact ⟨_, ⟨_, _, _, _, _, _, _, _, _, _, _, _, _, rfl⟩, rfl, HE3.out.keep1 hKr (by simp; omega), HK3.out.transTo hKr (by simp)⟩
            | ok t =>
              obtain ⟨v, q⟩ := t
              rw [hv] at HVA
              have HEV : Hid (ruleEnd s d (.ok (ru, dn, j)) = .ok (⟨9, d, v, noText, [], noText, ru, dn⟩, q)) := Lib.hid (by show valItm d ru dn (valueP false s (j + 1)) = _; rw [hv]; rfl)
              clear hv hst hx
              go_wp2_with (first
                | (go_at_call 41; refine (HX.out _ (by exact HRq.out)).mono ?_; rintro e w' ⟨rfl, n, rfl⟩)
                | (go_at_call 71; refine (HVA.out _).mono ?_; intro ev w3 hw; obtain ⟨rfl, hR3, hK3⟩ := GaveX.ok hw; clear hw; have hF3 := hK3.heap (HFA.out _) (by simp; omega); have hG3 := hK3.heap (HGA.out _) (by simp; omega); obtain ⟨x0, x1, x2, x3, x4, x5, x6, x7, x8, xf⟩ := nine hF3; obtain ⟨y0, y1, y2, y3, y4, y5, y6, y7, y8, yf⟩ := nine hG3; have HR3 := Lib.hid hR3; have HK3 := Lib.hid ((HKA.out _).trans hK3); clear hR3 hK3 hF3 hG3))
              refine bodyPost_ret (v := .tuple #[.agg #[.int .i8 9, .slice none 0 0, .string d, .string v, .string ⟨#[]⟩, .slice none 0 0, .string ⟨#[]⟩, .string ru, .bool dn], .bool true]) (by simp [results, Tryz.results69, go_sem, y0, y1, y2, y3, y4, y5, y6, y7, y8]) rfl ?_
              have hKr : Keep [w.heap.size, w.heap.size + 1] w3 ((w3.setCell ⟨w.heap.size, 3, none⟩ (.string v)).setCells (w.heap.size + 1) 0 [.int .i8 9, .slice none 0 0, .string d, .string v, .string ⟨#[]⟩, .slice none 0 0, .string ⟨#[]⟩, .string ru, .bool dn]) := setCells_keep (.inl (by simp)) _ 0 _ ((Keep.refl _ _).setCell _ _ (.inl (by simp)))
              rw [HEV.out]
              exact ⟨none, 0, rfl, World.ownsRow_nil _ _ _ _, HR3.out.keep hKr (by simp; omega), HK3.out.transTo hKr (by simp)⟩
          · have HPK : Hid (peekB s j ≠ 61 ∨ (d = noText ∧ ru = noText)) := Lib.hid (.inr ⟨empty_eq.1 hde, empty_eq.1 hre⟩)
            clear hne
            have hst1 := hst
            unfold rulesP at hst1
            rw [if_pos (HPK.out), if_neg (fun h => h (empty_eq.1 hre))] at hst1
            have HW := Lib.hid (fun W h => xword_any b j p s W hsm hj h)
            cases hw : wordP s j with
            | error f =>
              rw [hw] at HW hst1
              obtain rfl : Except.error f = R := hst1
              clear hst hx hw
              go_wp2_with (first
                | (go_at_call 41; refine (HX.out _ (by exact HRq.out)).mono ?_; rintro e w' ⟨rfl, n, rfl⟩)
                | (go_at_call 64; refine (HW.out _ (by exact HRq.out)).mono ?_; intro ev w3 hw; obtain ⟨rfl, hE3, hK3⟩ := WentX.err hw; clear hw; obtain ⟨x0, x1, x2, x3, x4, x5, x6, x7, x8, xf⟩ := nine (hK3.heap (by exact HFq.out) (by simp; omega)); obtain ⟨y0, y1, y2, y3, y4, y5, y6, y7, y8, yf⟩ := nine (hK3.heap (by exact HGq.out) (by simp; omega)); have HE3 := Lib.hid hE3; have HK3 : Hid (Keep [b] wr w3) := Lib.hid (((Keep.refl [b] wr).drewN _).trans hK3); clear hE3 hK3))
              refine bodyPost_ret (v := .tuple #[.agg #[.int .i8 9, .slice none 0 0, .string d, .string ⟨#[]⟩, .string ⟨#[]⟩, .slice none 0 0, .string ⟨#[]⟩, .string ru, .bool dn], .bool false]) (by simp [results, Tryz.results69, go_sem, y0, y1, y2, y3, y4, y5, y6, y7, y8]) rfl ?_
              have hKr : Keep [w.heap.size + 1] w3 (w3.setCells (w.heap.size + 1) 0 [.int .i8 9, .slice none 0 0, .string d, .string ⟨#[]⟩, .string ⟨#[]⟩, .slice none 0 0, .string ⟨#[]⟩, .string ru, .bool dn]) := setCells_keep (.inl (by simp)) _ 0 w3 (Keep.refl _ _)
              exact ⟨_, ⟨_, _, _, _, _, _, _, _, _, _, _, _, _, rfl⟩, rfl, HE3.out.keep1 hKr (by simp; omega), (HKq.out.trans HK3.out).transTo hKr (by simp)⟩
            | ok e =>
              obtain ⟨hje, hes⟩ := wordP_ok hw
              rw [hw] at HW hst1
              have hst2 : (match sinceP j e with | .error f => .error f | .ok e => if dnB (s.extract j e) = true ∧ dn = true then .error (50, j) else match takeP s e 58 with | .error f => .error f | .ok q => if dnB (s.extract j e) = true then rulesP k' s d q ru true else rulesP k' s d q (s.extract j e) dn : Except (Int × Nat) (ByteArray × Bool × Nat)) = R := hst1
              clear hst hst1 hx hw
              go_wp2_with (first
                | (go_at_call 41; refine (HX.out _ (by exact HRq.out)).mono ?_; rintro e w' ⟨rfl, n, rfl⟩)
                | (go_at_call 64; refine (HW.out _ (by exact HRq.out)).mono ?_; intro ev w3 hw; obtain ⟨rfl, hR3, hK3⟩ := WentX.ok hw; clear hw; have s0 := hR3.c0; have s1 := hR3.c1; have HR3 := Lib.hid hR3; have HF3 := Lib.hid (hK3.heap (by exact HFq.out) (by simp; omega)); have HG3 := Lib.hid (hK3.heap (by exact HGq.out) (by simp; omega)); have HK3 : Hid (Keep [b] wr w3) := Lib.hid (((Keep.refl [b] wr).drewN _).trans hK3); clear hR3 hK3))
              go_quiet (fail)
              obtain ⟨w5, hw5⟩ : ∃ w5, w5 = w3.drewN nq := ⟨_, rfl⟩
              have HR5 : Hid (Rx w5 b s e p) := Lib.hid (by rw [hw5]; exact HR3.out)
              have HF5 : Hid (w5.heap[w.heap.size]? = some (.cells #[.int .i8 9, .slice none 0 0, .string d, .string ⟨#[]⟩, .string ⟨#[]⟩, .slice none 0 0, .string ⟨#[]⟩, .string ru, .bool dn] 26 (0, 0))) := Lib.hid (by rw [hw5]; exact HF3.out)
              have HG5 : Hid (w5.heap[w.heap.size + 1]? = some (.cells #[.int .i8 0, .slice none 0 0, .string ⟨#[]⟩, .string ⟨#[]⟩, .string ⟨#[]⟩, .slice none 0 0, .string ⟨#[]⟩, .string ⟨#[]⟩, .bool false] 26 (0, 0))) := Lib.hid (by rw [hw5]; exact HG3.out)
              have HK5 : Hid (Keep [b] w w5) := Lib.hid (by rw [hw5]; exact (HKq.out.trans HK3.out).drewN _)
              rw [← hw5]
              clear hw5 HR3 HF3 HG3 HK3 s0 s1 r0 r1 rf x0 x1 x2 x3 x4 x5 x6 x7 x8 xf HKq HFq HGq HRq HX
              obtain ⟨x0, x1, x2, x3, x4, x5, x6, x7, x8, xf⟩ := nine HF5.out
              have HD := Lib.hid (fun W => xisDn_any (s.extract j e) W)
              have hsz : (s.extract j e).size = e - j := by rw [ByteArray.size_extract]; omega
              by_cases hlong : 65536 < e - j
              · rw [show sinceP j e = .error (3, j) from if_pos hlong] at hst2
                obtain rfl : Except.error (3, j) = R := hst2
                rw [dnB_not (s := s.extract j e) (by omega)] at HD
                have hl : (65536 : Int) < (e : Int) - j := by omega
                have hl2 : (65536 : Int) < ((s.extract j e).size : Int) := by rw [hsz]; omega
                go_wp2_with (go_at_call 105; refine (HD.out _).mono ?_; rintro ev w6 ⟨rfl, h6⟩; obtain rfl := h6.symm)
                go_region_with (go_at_call 42; refine (xfails_any b e p j 3 s _ hsm (by exact HR5.out)).mono ?_; rintro ev w3 ⟨rfl, hE3, hK3⟩; obtain ⟨x0, x1, x2, x3, x4, x5, x6, x7, x8, xf⟩ := nine (hK3.heap (by exact HF5.out) (by simp; omega)); obtain ⟨y0, y1, y2, y3, y4, y5, y6, y7, y8, yf⟩ := nine (hK3.heap (by exact HG5.out) (by simp; omega)); have HE3 := Lib.hid hE3; have HK3 : Hid (Keep [b] w5 w3) := Lib.hid (((Keep.refl [b] w5).drewN _).trans hK3); clear hE3 hK3)
                all_goals
                  go_wp2_with fail
                  refine bodyPost_ret (v := .tuple #[.agg #[.int .i8 9, .slice none 0 0, .string d, .string ⟨#[]⟩, .string ⟨#[]⟩, .slice none 0 0, .string ⟨#[]⟩, .string ru, .bool dn], .bool false]) (by simp [results, Tryz.results69, go_sem, y0, y1, y2, y3, y4, y5, y6, y7, y8]) rfl ?_
                  have hKr : Keep [w.heap.size + 1] w3 (w3.setCells (w.heap.size + 1) 0 [.int .i8 9, .slice none 0 0, .string d, .string ⟨#[]⟩, .string ⟨#[]⟩, .slice none 0 0, .string ⟨#[]⟩, .string ru, .bool dn]) := setCells_keep (.inl (by simp)) _ 0 w3 (Keep.refl _ _)
                  exact ⟨_, ⟨_, _, _, _, _, _, _, _, _, _, _, _, _, rfl⟩, rfl, HE3.out.keep1 hKr (by simp; omega), (HK5.out.trans HK3.out).transTo hKr (by simp)⟩
              · rw [show sinceP j e = .ok e from if_neg hlong] at hst2
                dsimp only at hst2
                have hl2 : ((s.extract j e).size : Int) ≤ 65536 := by rw [hsz]; omega
                cases hdn : dnB (s.extract j e)
                · rw [hdn] at hst2 HD
                  rw [if_neg (by simp)] at hst2
                  simp only [Bool.false_eq_true, if_false] at hst2
                  clear hdn
                  have HTk := Lib.hid (fun W h => xtakes_any b e p 58 s W hsm h)
                  cases ht : takeP s e 58 with
                  | error f =>
                    rw [ht] at HTk
                    obtain rfl : Except.error f = R := by rw [← hst2, ht]
                    clear ht hst2
                    go_wp2_with (first
                      | (go_at_call 105; refine (HD.out _).mono ?_; rintro ev w6 ⟨rfl, h6⟩; obtain rfl := h6.symm)
                      | (go_at_call 45; refine (HTk.out _ (by exact (setCell_ne _ (show b ≠ w.heap.size by omega)).trans HR5.out)).mono ?_; intro ev w3 hw; obtain ⟨rfl, hE3, hK3⟩ := WentX.err hw; clear hw; have HE3 := Lib.hid hE3; have HK3 := Lib.hid hK3; clear hE3 hK3))
                    go_roundg k'
                    case measure => omega
                    case rel =>
                      have hF6 := setCell_at HF5.out 7 (.string (s.extract j e))
                      have hG6 := (setCell_ne (a := ⟨w.heap.size, 7, none⟩) (.string (s.extract j e)) (show w.heap.size + 1 ≠ w.heap.size by omega)).trans HG5.out
                      exact ⟨(s.extract j e), dn, (HK5.out.setCell _ _ (.inr (Nat.le_refl _))).trans HK3.out, HK3.out.heap hF6 (by simp; omega), HK3.out.heap hG6 (by simp; omega), .inr ⟨rfl, f, rfl, HE3.out⟩⟩
                  | ok q =>
                    rw [ht] at HTk
                    have hst3 : rulesP k' s d q (s.extract j e) dn = R := by rw [← hst2, ht]
                    have hq := takeP_ok ht
                    have HS3 := Lib.hid hst3
                    clear ht hst2 hst3
                    go_wp2_with (first
                      | (go_at_call 105; refine (HD.out _).mono ?_; rintro ev w6 ⟨rfl, h6⟩; obtain rfl := h6.symm)
                      | (go_at_call 45; refine (HTk.out _ (by exact (setCell_ne _ (show b ≠ w.heap.size by omega)).trans HR5.out)).mono ?_; intro ev w3 hw; obtain ⟨rfl, hR3, hK3⟩ := WentX.ok hw; clear hw; have HR3 := Lib.hid hR3; have HK3 := Lib.hid hK3; clear hR3 hK3))
                    go_roundg k'
                    case measure => omega
                    case rel =>
                      have hF6 := setCell_at HF5.out 7 (.string (s.extract j e))
                      have hG6 := (setCell_ne (a := ⟨w.heap.size, 7, none⟩) (.string (s.extract j e)) (show w.heap.size + 1 ≠ w.heap.size by omega)).trans HG5.out
                      exact ⟨(s.extract j e), dn, (HK5.out.setCell _ _ (.inr (Nat.le_refl _))).trans HK3.out, HK3.out.heap hF6 (by simp; omega), HK3.out.heap hG6 (by simp; omega), .inl ⟨rfl, q, by omega, by omega, HR3.out, HS3.out⟩⟩
                · rw [hdn] at hst2 HD
                  clear hdn
                  cases dn
                  · rw [if_neg (by simp)] at hst2
                    simp only [if_true] at hst2
                    have HTk := Lib.hid (fun W h => xtakes_any b e p 58 s W hsm h)
                    cases ht : takeP s e 58 with
                    | error f =>
                      rw [ht] at HTk
                      obtain rfl : Except.error f = R := by rw [← hst2, ht]
                      clear ht hst2
                      go_wp2_with (first
                        | (go_at_call 105; refine (HD.out _).mono ?_; rintro ev w6 ⟨rfl, h6⟩; obtain rfl := h6.symm)
                        | (go_at_call 45; refine (HTk.out _ (by exact (setCell_ne _ (show b ≠ w.heap.size by omega)).trans HR5.out)).mono ?_; intro ev w3 hw; obtain ⟨rfl, hE3, hK3⟩ := WentX.err hw; clear hw; have HE3 := Lib.hid hE3; have HK3 := Lib.hid hK3; clear hE3 hK3))
                      go_roundg k'
                      case measure => omega
                      case rel =>
                        have hF6 := setCell_at HF5.out 8 (.bool true)
                        have hG6 := (setCell_ne (a := ⟨w.heap.size, 8, none⟩) (.bool true) (show w.heap.size + 1 ≠ w.heap.size by omega)).trans HG5.out
                        exact ⟨ru, true, (HK5.out.setCell _ _ (.inr (Nat.le_refl _))).trans HK3.out, HK3.out.heap hF6 (by simp; omega), HK3.out.heap hG6 (by simp; omega), .inr ⟨rfl, f, rfl, HE3.out⟩⟩
                    | ok q =>
                      rw [ht] at HTk
                      have hst3 : rulesP k' s d q ru true = R := by rw [← hst2, ht]
                      have hq := takeP_ok ht
                      have HS3 := Lib.hid hst3
                      clear ht hst2 hst3
                      go_wp2_with (first
                        | (go_at_call 105; refine (HD.out _).mono ?_; rintro ev w6 ⟨rfl, h6⟩; obtain rfl := h6.symm)
                        | (go_at_call 45; refine (HTk.out _ (by exact (setCell_ne _ (show b ≠ w.heap.size by omega)).trans HR5.out)).mono ?_; intro ev w3 hw; obtain ⟨rfl, hR3, hK3⟩ := WentX.ok hw; clear hw; have HR3 := Lib.hid hR3; have HK3 := Lib.hid hK3; clear hR3 hK3))
                      go_roundg k'
                      case measure => omega
                      case rel =>
                        have hF6 := setCell_at HF5.out 8 (.bool true)
                        have hG6 := (setCell_ne (a := ⟨w.heap.size, 8, none⟩) (.bool true) (show w.heap.size + 1 ≠ w.heap.size by omega)).trans HG5.out
                        exact ⟨ru, true, (HK5.out.setCell _ _ (.inr (Nat.le_refl _))).trans HK3.out, HK3.out.heap hF6 (by simp; omega), HK3.out.heap hG6 (by simp; omega), .inl ⟨rfl, q, by omega, by omega, HR3.out, HS3.out⟩⟩
                  · rw [if_pos ⟨rfl, rfl⟩] at hst2
                    obtain rfl : Except.error (50, j) = R := hst2
                    go_wp2_with (go_at_call 105; refine (HD.out _).mono ?_; rintro ev w6 ⟨rfl, h6⟩; obtain rfl := h6.symm)
                    go_region_with (go_at_call 42; refine (xfails_any b e p j 50 s _ hsm (by exact HR5.out)).mono ?_; rintro ev w3 ⟨rfl, hE3, hK3⟩; obtain ⟨x0, x1, x2, x3, x4, x5, x6, x7, x8, xf⟩ := nine (hK3.heap (by exact HF5.out) (by simp; omega)); obtain ⟨y0, y1, y2, y3, y4, y5, y6, y7, y8, yf⟩ := nine (hK3.heap (by exact HG5.out) (by simp; omega)); have HE3 := Lib.hid hE3; have HK3 : Hid (Keep [b] w5 w3) := Lib.hid (((Keep.refl [b] w5).drewN _).trans hK3); clear hE3 hK3)
                    all_goals
                      go_wp2_with fail
                      refine bodyPost_ret (v := .tuple #[.agg #[.int .i8 9, .slice none 0 0, .string d, .string ⟨#[]⟩, .string ⟨#[]⟩, .slice none 0 0, .string ⟨#[]⟩, .string ru, .bool true], .bool false]) (by simp [results, Tryz.results69, go_sem, y0, y1, y2, y3, y4, y5, y6, y7, y8]) rfl ?_
                      have hKr : Keep [w.heap.size + 1] w3 (w3.setCells (w.heap.size + 1) 0 [.int .i8 9, .slice none 0 0, .string d, .string ⟨#[]⟩, .string ⟨#[]⟩, .slice none 0 0, .string ⟨#[]⟩, .string ru, .bool true]) := setCells_keep (.inl (by simp)) _ 0 w3 (Keep.refl _ _)
                      exact ⟨_, ⟨_, _, _, _, _, _, _, _, _, _, _, _, _, rfl⟩, rfl, HE3.out.keep1 hKr (by simp; omega), (HK5.out.trans HK3.out).transTo hKr (by simp)⟩
    · obtain ⟨x0, x1, x2, x3, x4, x5, x6, x7, x8, xf⟩ := nine hFq
      obtain ⟨y0, y1, y2, y3, y4, y5, y6, y7, y8, yf⟩ := nine hGq
      go_wp2_with fail
      refine bodyPost_ret (v := .tuple #[.agg #[.int .i8 9, .slice none 0 0, .string d, .string ⟨#[]⟩, .string ⟨#[]⟩, .slice none 0 0, .string ⟨#[]⟩, .string ru, .bool dn], .bool false]) (by simp [results, Tryz.results69, go_sem, y0, y1, y2, y3, y4, y5, y6, y7, y8]) rfl ?_
      have hKr : Keep [w.heap.size + 1] wr (wr.setCells (w.heap.size + 1) 0 [.int .i8 9, .slice none 0 0, .string d, .string ⟨#[]⟩, .string ⟨#[]⟩, .slice none 0 0, .string ⟨#[]⟩, .string ru, .bool dn]) := setCells_keep (.inl (by simp)) _ 0 wr (Keep.refl _ _)
      exact ⟨_, ⟨_, _, _, _, _, _, _, _, _, _, _, _, _, rfl⟩, rfl, hE.keep1 hKr (by simp; omega), HKq.out.transTo hKr (by simp)⟩
end Go.Proofs.YtjmpcoedfoaebaaGreatDoor
