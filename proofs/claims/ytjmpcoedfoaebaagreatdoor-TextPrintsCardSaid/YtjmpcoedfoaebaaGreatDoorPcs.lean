/- The program's reader: pieces. -/
import Derived.Test.YtjmpcoedfoaebaaGreatDoorItm
import Derived.Deep.RegionHeld3
import Derived.Deep.AppendLies
import Derived.Deep.DeepCutAuto
open Go Go.RowKit
namespace Go.Proofs.YtjmpcoedfoaebaaGreatDoor

theorem Tryz.infoStr : (Tryz.prog.info? 9).map (fun i => (i.zero, i.size, i.bytes)) = some (some (.string ⟨#[]⟩), 1, 16) := by kernel_rfl

/-- The cells of a filter's variable. -/
def cellsF (k : Int) (kv : Value) (d v st : ByteArray) (mv : Value) (fi ru : ByteArray) (dn : Bool) : Array Value := #[.int .i8 k, kv, .string d, .string v, .string st, mv, .string fi, .string ru, .bool dn]
def PcRel (N b fb : Nat) (s : ByteArray) (p : Nat) (d v : ByteArray) (w : World) (R : Except (Int × Nat) (List ByteArray × ByteArray × Nat)) (k : Nat) (wr : World) : Prop :=
  ∃ j ms fin mv, j ≤ s.size ∧ s.size < j + k ∧ ms.length ≤ j ∧ fin.size ≤ 65536 ∧ Rd wr b s j p ∧ wr.heap[fb]? = some (.cells #[.int .i8 4, .slice none 0 0, .string d, .string ⟨#[]⟩, .string v, mv, .string fin, .string ⟨#[]⟩, .bool false] 26 (0, 0)) ∧
    wr.ownsRow N 9 1 mv ms.length (ms.map Value.string) ∧ Keep [b, fb] w wr ∧ partsP k s j ms fin = R

theorem owns_keep {S : List Nat} {N : Nat} {T : TypeId} {z : Nat} {v : Value} {n : Nat} {xs : List Value} {w w' : World} (h : w.ownsRow N T z v n xs) (k : Keep S w w') (hS : ∀ x ∈ S, x < N) : w'.ownsRow N T z v n xs := by
  refine ⟨h.1, ?_⟩
  rcases h.2 with hn | ⟨g, cap, cur, rfl, hb, hg, rest⟩
  · exact .inl hn
  · refine .inr ⟨g, cap, cur, rfl, hb, k.heap hg ?_, rest⟩
    intro hm; have := hS g hm; omega
theorem frozen_alloc {w : World} {o : Obj} {a : Addr} (h : w.frozen? a = false) (hl : a.block < w.heap.size) : (w.alloc o).drew.frozen? a = false :=
  (World.frozen?_of_block (w := w) (w' := (w.alloc o).drew) (heap_alloc_old w o hl)).trans h
theorem cell_alloc {w : World} {o : Obj} {a : Addr} {v : Value} (h : w.cell? a = some v) (hl : a.block < w.heap.size) : (w.alloc o).drew.cell? a = some v :=
  (World.cell?_of_block (w := w) (w' := (w.alloc o).drew) (heap_alloc_old w o hl)).trans h
theorem size_zero {s : ByteArray} (h : s.size = 0) : s = noText := by
  cases s with | mk d => cases d with | mk l => cases l with
    | nil => rfl
    | cons a l => cases h
theorem partsP_stop {k : Nat} {s : ByteArray} {j : Nat} {ms : List ByteArray} {fin : ByteArray} (h : peekB s j ≠ 42) : partsP (k + 1) s j ms fin = .ok (ms, fin, j) := by unfold partsP; rw [if_neg h]
theorem partsP_err {k : Nat} {s : ByteArray} {j : Nat} {ms : List ByteArray} {fin : ByteArray} {f : Int × Nat} (h : peekB s j = 42) (hv : valueP true s (j + 1) = .error f) : partsP (k + 1) s j ms fin = .error f := by rw [partsP, if_pos h, hv]
theorem partsP_ok {k : Nat} {s : ByteArray} {j : Nat} {ms : List ByteArray} {fin : ByteArray} {t : ByteArray × Nat} (h : peekB s j = 42) (hv : valueP true s (j + 1) = .ok t) : partsP (k + 1) s j ms fin = partsP k s t.2 (if fin = noText then ms else ms ++ [fin]) t.1 := by rw [partsP, if_pos h, hv]

set_option maxHeartbeats 4000000 in
set_option maxRecDepth 1000000 in
theorem pieces_any (B b fb i p : Nat) (s d : ByteArray) (w : World) (hs : s.size ≤ 1048576) (hi : i ≤ s.size) (hbf : b ≠ fb) (hR : Rd w b s i p) (hE : Env B w) (hBb : B ≤ b) (hBf : B ≤ fb)
    (hF : w.heap[fb]? = some (.cells #[.int .i8 0, .slice none 0 0, .string d, .string ⟨#[]⟩, .string ⟨#[]⟩, .slice none 0 0, .string ⟨#[]⟩, .string ⟨#[]⟩, .bool false] 26 (0, 0))) :
    Calls Tryz.prog 75 #[.pointer (some ⟨b, 0, none⟩), .pointer (some ⟨fb, 0, none⟩)] w (Filled w.heap.size b fb s p w (piecesP s i d)) := by
  have hV := Lib.hid (value_any B b i p true s w hs hi hR hE)
  have hblt := hR.lt
  have hflt := lt_of_block hF
  have HE := Lib.hid hE
  have HR := Lib.hid hR
  have HF := Lib.hid hF
  have hsm : s.size ≤ maxLen := by unfold maxLen; omega
  unfold piecesP
  clear hR hE hF
  have hnf : fb ∉ [b] := by simp; omega
  have HPA : ∀ j W, Rd W b s j p → Calls Tryz.prog 47 #[.pointer (some ⟨b, 0, none⟩)] W fun e w' => e = .returned (.int .u8 (peekB s j).toNat) ∧ ∃ n, w' = W.drewN n := fun j W h => peek_any b j p s W h
  have HP := Lib.hid HPA
  clear HPA
  cases hv : valueP true s i with
  | error f =>
    rw [hv] at hV
    dsimp only
    clear hv
    go_enter Tryz.func75, Tryz.ntmps75
    go_wp2_with (go_at_call 76; refine (hV.out).mono ?_; intro ev w1 hw; obtain ⟨q, rfl, hEr, hK⟩ := Gave.err hw; clear hw; obtain ⟨k0, k1, k2, k3, k4, k5, k6, k7, k8, kf⟩ := nine (hK.heap HF.out hnf))
    go_ret
    have hlt1 : ∀ x, w1.heap[x]? = some (.cells #[.int .i64 f.1, .int .i64 f.2, .string (wordAt s f.2)] 29 (0, 0)) → x ≠ fb := by
      rintro x hx rfl
      rw [hK.heap HF.out hnf] at hx
      cases hx
    refine Filled.mkErr ?_ (((hK.mono (S' := [b, fb]) (by simp)).setCell _ _ (.inl (by simp))).setCell _ _ (.inl (by simp))) (Shp.mk (setCell_at (setCell_at (hK.heap HF.out hnf) 3 (.string ⟨#[]⟩)) 0 (.int .i8 3)))
    obtain ⟨q', hq, hq2⟩ := hEr
    cases hq
    have hne := hlt1 q hq2
    exact ⟨q, rfl, (setCell_ne _ hne).trans ((setCell_ne _ hne).trans hq2)⟩
  | ok t =>
    obtain ⟨v, j⟩ := t
    rw [hv] at hV
    obtain ⟨hij, hjs, hvs⟩ := valueP_le hi hv
    dsimp only
    clear hv
    by_cases h42 : peekB s j = 42
    · rw [if_pos h42]
      have hpk : (((peekB s j).toNat : Int) != 42) = false := by rw [h42]; rfl
      clear h42
      have HVA := Lib.hid (fun (q : Nat) (W : World) (h1 : q ≤ s.size) (h2 : Rd W b s q p) (h3 : Env B W) => value_any B b q p true s W hs h1 h2 h3)
      generalize hRR : partsP (s.size + 1) s j [] noText = R
      have HRR := Lib.hid hRR
      clear hRR
      go_enter Tryz.func75, Tryz.ntmps75
      go_wp2_with (first
        | (go_at_call 76; refine (hV.out).mono ?_; intro ev w1 hw; obtain ⟨rfl, hR1, hK⟩ := Gave.ok hw; clear hw; obtain ⟨k0, k1, k2, k3, k4, k5, k6, k7, k8, kf⟩ := nine (hK.heap HF.out hnf); have HR1 := Lib.hid hR1; have HK := Lib.hid hK; clear hR1 hK)
        | (go_at_call 47; refine (HP.out j _ (by exact (setCell_ne _ hbf).trans HR1.out)).mono ?_; rintro ev w' ⟨rfl, n, rfl⟩))
      have hB1 := HK.out.heap HF.out hnf
      have HB1 := Lib.hid hB1
      clear hB1 k0 k1 k2 k3 k4 k5 k6 k7 k8 kf
      have hN : fb < w.heap.size := hflt
      go_loopg [] (s.size + 1) (fun k wr => PcRel w.heap.size b fb s p d v w R k wr)
      case atStart =>
        refine ⟨j, [], noText, .slice none 0 0, hjs, by omega, by simp, Nat.zero_le _, ?_, ?_, World.ownsRow_nil _ _ _ _, ?_, HRR.out⟩
        · exact (setCell_ne _ hbf).trans ((setCell_ne _ hbf).trans ((setCell_ne _ hbf).trans ((setCell_ne _ hbf).trans HR1.out)))
        · exact setCell_at (setCell_at (setCell_at (setCell_at HB1.out 3 (.string v)) 0 (.int .i8 4)) 4 (.string v)) 3 (.string noText)
        · exact (((((HK.out.mono (S' := [b, fb]) (by simp)).setCell _ _ (.inl (by simp))).drewN _).setCell _ _ (.inl (by simp))).setCell _ _ (.inl (by simp))).setCell _ _ (.inl (by simp))
      case round =>
        obtain ⟨q, ms, fin, mv, hq, hk, hml, hfin, hRq, hBq, hown, hKq, hst⟩ := hrel
        have HRq := Lib.hid hRq
        have HBq := Lib.hid hBq
        have HKq := Lib.hid hKq
        have HO := Lib.hid hown
        obtain ⟨k0, k1, k2, k3, k4, k5, k6, k7, k8, kf⟩ := nine hBq
        have r1 := hRq.c1
        have rf := hRq.free 1
        have hbN : fb < wr.heap.size := lt_of_block hBq
        clear hRq hBq hKq hown HB1 HK HR1 hV HF HR
        obtain ⟨k', rfl⟩ : ∃ k', gk = k' + 1 := ⟨gk - 1, by omega⟩
        by_cases h42 : peekB s q = 42
        · have hqs : q < s.size := peekB_lt (by rw [h42]; decide)
          have hpk2 : (((peekB s q).toNat : Int) == 42) = true := by rw [h42]; rfl
          have hqi : IntKind.i64.wrap ((q : Int) + 1) = ((q + 1 : Nat) : Int) := by
            have := wrap_small (q + 1) (by omega) (by omega)
            push_cast at this ⊢
            exact this
          have HRn : ∀ n1, Rd ((wr.drewN n1).setCell ⟨b, 1, none⟩ (.int .i64 ((q : Int) + 1))) b s (q + 1) p := fun n1 => setCell_at (w := wr.drewN n1) HRq.out 1 _
          have HKn : ∀ n1, Keep [b, fb] w ((wr.drewN n1).setCell ⟨b, 1, none⟩ (.int .i64 ((q : Int) + 1))) := fun n1 => (HKq.out.drewN n1).setCell _ _ (.inl (by simp))
          have HEn : ∀ n1, Env B ((wr.drewN n1).setCell ⟨b, 1, none⟩ (.int .i64 ((q : Int) + 1))) := fun n1 => HE.out.keep (HKn n1) (by simp; omega)
          have HBn : ∀ n1, ((wr.drewN n1).setCell ⟨b, 1, none⟩ (.int .i64 ((q : Int) + 1))).heap[fb]? = some (.cells #[.int .i8 4, .slice none 0 0, .string d, .string ⟨#[]⟩, .string v, mv, .string fin, .string ⟨#[]⟩, .bool false] 26 (0, 0)) :=
            fun n1 => (setCell_ne _ (Ne.symm hbf)).trans HBq.out
          have HOn : ∀ n1, ((wr.drewN n1).setCell ⟨b, 1, none⟩ (.int .i64 ((q : Int) + 1))).ownsRow w.heap.size 9 1 mv ms.length (ms.map Value.string) :=
            fun n1 => owns_keep HO.out (((Keep.refl [b] wr).drewN n1).setCell _ _ (.inl (by simp))) (by simp; exact hblt)
          have HRn := Lib.hid HRn
          have HKn := Lib.hid HKn
          have HEn := Lib.hid HEn
          have HBn := Lib.hid HBn
          have HOn := Lib.hid HOn
          obtain ⟨MS, hMS⟩ : ∃ MS, MS = if fin = noText then ms else ms ++ [fin] := ⟨_, rfl⟩
          have HMS := Lib.hid hMS
          have hMl : MS.length ≤ q + 1 := by
            rw [hMS]
            split
            · omega
            · rw [List.length_append]; show ms.length + 1 ≤ q + 1; omega
          clear hMS
          clear hpk
          obtain ⟨eb, heb, HEB⟩ : ∃ eb : Bool, fin.toList.isEmpty = eb ∧ Hid (eb = true ↔ fin = noText) := by
            refine ⟨_, rfl, Lib.hid ⟨fun h => ?_, fun h => ?_⟩⟩
            · cases hd : decide (fin = noText) with
              | true => exact of_decide_eq_true hd
              | false => rw [isEmpty_no (of_decide_eq_false hd)] at h; cases h
            · rw [h]; first | rfl | decide | simp [noText]
          go_upto_if 51 with (go_at_call 47; refine (HP.out q _ (by exact HRq.out)).mono ?_; rintro ev w' ⟨rfl, n', rfl⟩; obtain ⟨y0, y1, y2, y3, y4, y5, y6, y7, y8, yf⟩ := nine (HBn.out n'))
          obtain ⟨W1, hW1⟩ : ∃ W1, W1 = (wr.drewN n').setCell ⟨b, 1, none⟩ (.int .i64 ((q : Int) + 1)) := ⟨_, rfl⟩
          have HR1 : Hid (Rd W1 b s (q + 1) p) := Lib.hid (hW1 ▸ HRn.out n')
          have HK1 : Hid (Keep [b, fb] w W1) := Lib.hid (hW1 ▸ HKn.out n')
          have HB1 : Hid (W1.heap[fb]? = some (.cells #[.int .i8 4, .slice none 0 0, .string d, .string ⟨#[]⟩, .string v, mv, .string fin, .string ⟨#[]⟩, .bool false] 26 (0, 0))) := Lib.hid (hW1 ▸ HBn.out n')
          have HO1 : Hid (W1.ownsRow w.heap.size 9 1 mv ms.length (ms.map Value.string)) := Lib.hid (hW1 ▸ HOn.out n')
          rw [← hW1]
          clear HRn HKn HEn HBn HOn y0 y1 y2 y3 y4 y5 y6 y7 y8 yf hW1 k0 k1 k2 k3 k4 k5 k6 k7 k8 kf r1 rf HRq HBq HKq HO hbN
          go_cut [] (fun wx => ∃ mv', Hid (Rd wx b s (q + 1) p) ∧ Hid (Keep [b, fb] w wx) ∧ Hid (wx.heap[fb]? = some (.cells #[.int .i8 4, .slice none 0 0, .string d, .string ⟨#[]⟩, .string v, mv', .string fin, .string ⟨#[]⟩, .bool false] 26 (0, 0))) ∧ Hid (wx.ownsRow w.heap.size 9 1 mv' MS.length (MS.map Value.string)))
          case first =>
            cases eb with
            | true =>
              have HFE := Lib.hid (HEB.out.1 rfl)
              go_wp2_with fail
              go_meet
              have hMS := HMS.out
              rw [if_pos HFE.out] at hMS
              subst hMS
              exact ⟨mv, HR1, HK1, HB1, HO1⟩
            | false =>
              have HFE : Hid (¬ fin = noText) := Lib.hid (fun h => by have := HEB.out.2 h; cases this)
              obtain ⟨i0, hi0, hz0, hz1, hz2⟩ := info_parts Tryz.infoStr
              have hbs : w.heap.size ≤ W1.heap.size := HK1.out.size
              have hbN := lt_of_block HB1.out
              have z5 := cell_of HB1.out 5
              have z6 := cell_of HB1.out 6
              have hne : mv.ownBlock ≠ some fb := fun h => by have := (HO1.out.lt fb h).1; omega
              have hFin : ∀ (gg cap : Nat) (w1 : World), Hid ((W1.alloc (.cells #[.string fin] 9)).grownBy w1 mv.ownBlock) → Hid (w1.ownsRow w.heap.size 9 1 (.slice (some ⟨gg, 0, none⟩) (ms.length + 1) cap) (ms.length + 1) (ms.map Value.string ++ [.string fin])) →
                  ∃ mv', Hid (Rd (w1.setCell ⟨fb, 5, none⟩ (.slice (some ⟨gg, 0, none⟩) (ms.length + 1) cap)) b s (q + 1) p) ∧ Hid (Keep [b, fb] w (w1.setCell ⟨fb, 5, none⟩ (.slice (some ⟨gg, 0, none⟩) (ms.length + 1) cap))) ∧ Hid ((w1.setCell ⟨fb, 5, none⟩ (.slice (some ⟨gg, 0, none⟩) (ms.length + 1) cap)).heap[fb]? = some (.cells #[.int .i8 4, .slice none 0 0, .string d, .string ⟨#[]⟩, .string v, mv', .string fin, .string ⟨#[]⟩, .bool false] 26 (0, 0))) ∧ Hid ((w1.setCell ⟨fb, 5, none⟩ (.slice (some ⟨gg, 0, none⟩) (ms.length + 1) cap)).ownsRow w.heap.size 9 1 mv' MS.length (MS.map Value.string)) := by
                intro gg cap w1 hg ho
                have hg := hg.out
                have hMS := HMS.out
                rw [if_neg HFE.out] at hMS
                subst hMS
                have hbW : b < W1.heap.size := lt_of_block HR1.out
                have hneb : mv.ownBlock ≠ some b := fun h => by have := (HO1.out.lt b h).1; omega
                have hB2 := ((hg.block fb (by simp; omega) (Ne.symm hne)).trans (heap_alloc_old W1 _ hbN)).trans HB1.out
                have hR2 := ((hg.block b (by simp; omega) (Ne.symm hneb)).trans (heap_alloc_old W1 _ hbW)).trans HR1.out
                refine ⟨_, Lib.hid ((setCell_ne _ hbf).trans hR2), Lib.hid ?_, Lib.hid (setCell_at hB2 5 _), Lib.hid ?_⟩
                · exact ((HK1.out.alloc _).grown hg (fun k hk => .inr (HO1.out.lt k hk).1)).setCell _ _ (.inl (by simp))
                · rw [List.map_append, List.length_append]
                  exact owns_keep ho.out ((Keep.refl [fb] w1).setCell _ _ (.inl (by simp))) (by simp; exact hN)
              go_wp2_with fail
              go_region_law ((refine step_append_lies _ (by rfl) _ _ _ (by rfl) w.heap.size 9 i0 _ 1 16 (by kernel_rfl) hi0 hz0 hz1 hz2 rfl (by omega) mv ms.length (ms.map Value.string) (by rfl) (by exact (HO1.out.alloc _)) ⟨W1.heap.size, 0, none⟩ 1 1 [.string fin] (by rfl) (by rfl) (World.news_of_block (cs := #[.string fin]) (t := 9) (fr := (0, 0)) (heap_alloc_new W1 _)) (by simp [Value.oneCell']) (by omega) (by omega) (by omega) (by simp; omega) (W1.heap.size + 1) (by simp) ?_; intro gg cap w1 hown1 hgrow hat hlt; have hgr : (W1.alloc (.cells #[.string fin] 9)).grownBy w1 mv.ownBlock := ⟨hgrow.os, hgrow.tape, hgrow.output, hgrow.size, hgrow.block⟩; have hB2 := Lib.hid (((hgr.block fb (by simp; omega) (Ne.symm hne)).trans (heap_alloc_old W1 _ hbN)).trans HB1.out); have q5 := cell_of hB2.out 5; have qf := free_of hB2.out 5; have HG := Lib.hid hgr; have HO2 := Lib.hid hown1; clear hgr hown1 hgrow hat hlt))
              all_goals
                go_wp2_with fail
                go_meet
                exact hFin _ _ _ HG HO2
          case rest =>
            obtain ⟨mv', HR2, HK2, HB2, HO2⟩ := hcut
            have HE2 := Lib.hid (HE.out.keep HK2.out (by simp; omega))
            cases hv : valueP true s (q + 1) with
            | error f =>
              have hVQ := Lib.hid (HVA.out (q + 1) wc (by omega) HR2.out HE2.out)
              rw [hv] at hVQ
              rw [partsP_err h42 hv] at hst
              clear hv h42
              subst hst
              go_wp2_with (go_at_call 76; refine hVQ.out.mono ?_; intro ev w2 hw; obtain ⟨qe, rfl, hEr, hK⟩ := Gave.err hw; clear hw; obtain ⟨x0, x1, x2, x3, x4, x5, x6, x7, x8, xf⟩ := nine (hK.heap HB2.out hnf); have HE3 := Lib.hid hEr; have HK3 := Lib.hid hK; clear hEr hK)
              go_ret
              obtain ⟨ma, mc, rfl⟩ := owns_slice HO2.out
              refine Filled.mkErr ?_ ((HK2.out.trans (HK3.out.mono (S' := [b, fb]) (by simp))).setCell _ _ (.inl (by simp))) (Shp.mk (setCell_at (HK3.out.heap HB2.out hnf) 6 (.string ⟨#[]⟩)))
              obtain ⟨q', hq', hq2⟩ := HE3.out
              cases hq'
              refine ⟨qe, rfl, (setCell_ne _ ?_).trans hq2⟩
              rintro rfl
              have h := HK3.out.heap HB2.out hnf
              rw [hq2] at h
              cases h
            | ok t =>
              obtain ⟨tv, tq⟩ := t
              have hle := valueP_le (by omega) hv
              have hVQ := Lib.hid (HVA.out (q + 1) wc (by omega) HR2.out HE2.out)
              rw [hv] at hVQ
              rw [partsP_ok h42 hv, ← HMS.out] at hst
              clear hv h42
              have HST := Lib.hid hst
              clear hst
              go_wp2_with (go_at_call 76; refine hVQ.out.mono ?_; intro ev w2 hw; obtain ⟨rfl, hR3, hK⟩ := Gave.ok hw; clear hw; obtain ⟨x0, x1, x2, x3, x4, x5, x6, x7, x8, xf⟩ := nine (hK.heap HB2.out hnf); have HR3 := Lib.hid hR3; have HK3 := Lib.hid hK; clear hR3 hK)
              go_roundg k'
              case measure => omega
              case rel =>
                refine ⟨tq, MS, tv, mv', hle.2.1, by omega, by omega, hle.2.2, ?_, setCell_at (HK3.out.heap HB2.out hnf) 6 _, ?_, ?_, HST.out⟩
                · exact (setCell_ne _ hbf).trans HR3.out
                · exact owns_keep (owns_keep HO2.out HK3.out (by simp; exact hblt)) ((Keep.refl [fb] w2).setCell _ _ (.inl (by simp))) (by simp; exact hN)
                · exact (HK2.out.trans (HK3.out.mono (S' := [b, fb]) (by simp))).setCell _ _ (.inl (by simp))
        · have hpk2 : (((peekB s q).toNat : Int) == 42) = false := by
            rw [beq_eq_false_iff_ne]; intro h; exact h42 (UInt8.toNat_inj.1 (by show _ = 42; omega))
          rw [partsP_stop h42] at hst
          subst hst
          clear h42
          dsimp only [pieceItm]
          go_wp2_with (go_at_call 47; refine (HP.out q _ (by exact HRq.out)).mono ?_; rintro ev w' ⟨rfl, n', rfl⟩)
          clear hpk2
          obtain ⟨ma, mc, rfl⟩ : ∃ ma mc, mv = .slice ma ms.length mc := by
            rcases HO.out.2 with ⟨h1, h2⟩ | ⟨g, cap, cur, h1, _⟩
            · exact ⟨none, 0, by rw [h1, h2]⟩
            · exact ⟨_, _, h1⟩
          have hfs : (v ++ fin).size ≤ 131072 := by rw [ByteArray.size_append]; omega
          have hmk : ∀ X n1, X = Except.ok (⟨7, d, noText, v, ms, fin, noText, false⟩, q) → Filled w.heap.size b fb s p w X (.returned .nilIface) ((wr.drewN n1).setCell ⟨fb, 0, none⟩ (.int .i8 7)) := by
            rintro X n1 rfl
            refine Filled.mkOk (i := q) ?_ ⟨_, setCell_at (w := wr.drewN n1) HBq.out 0 _, ?_⟩ ?_
            · exact (setCell_ne _ hbf).trans HRq.out
            · exact owns_keep HO.out (((Keep.refl [fb] wr).drewN n1).setCell _ _ (.inl (by simp))) (by simp; exact hN)
            · exact (HKq.out.drewN n1).setCell _ _ (.inl (by simp))
          have hmk0 : ∀ X n1 n2, X = Except.ok (⟨4, d, noText, v, ms, fin, noText, false⟩, q) → Filled w.heap.size b fb s p w X (.returned .nilIface) ((wr.drewN n1).drewN n2) := by
            rintro X n1 n2 rfl
            exact Filled.mkOk (i := q) HRq.out ⟨_, HBq.out, HO.out⟩ ((HKq.out.drewN n1).drewN n2)
          have HMK := Lib.hid hmk
          have HMK0 := Lib.hid hmk0
          clear hmk hmk0
          by_cases hE : v = noText ∧ fin = noText
          · have hem : (v ++ fin).toList.isEmpty = true := by
              rw [size_zero (s := v ++ fin) (by rw [ByteArray.size_append, hE.1, hE.2]; rfl)]
              first | rfl | decide | simp [noText]
            have HEE := Lib.hid hE
            clear hE
            cases ms with
            | nil =>
              go_quiet (fail)
              go_wp2_with fail
              go_ret
              refine HMK.out _ _ ?_
              unfold pieceItm
              dsimp only
              rw [if_pos ⟨HEE.out.1, HEE.out.2, rfl⟩]
            | cons m0 ms' =>
              have hz : (((ms'.length + 1 : Nat) : Int) == 0) = false := by rw [beq_eq_false_iff_ne]; omega
              go_quiet (fail)
              go_wp2_with fail
              go_ret
              refine HMK0.out _ _ _ ?_
              unfold pieceItm
              dsimp only
              rw [if_neg (fun h => by cases h.2.2)]
          · have hem : (v ++ fin).toList.isEmpty = false := by
              apply isEmpty_no
              intro h
              apply hE
              have h2 := congrArg ByteArray.size h
              rw [ByteArray.size_append] at h2
              have h3 : v.size + fin.size = 0 := h2
              exact ⟨size_zero (by omega), size_zero (by omega)⟩
            go_quiet (fail)
            go_wp2_with fail
            go_ret
            refine HMK0.out _ _ _ ?_
            unfold pieceItm
            dsimp only
            rw [if_neg (fun h => hE ⟨h.1, h.2.1⟩)]
    · rw [if_neg h42]
      have hpk : (((peekB s j).toNat : Int) != 42) = true := by
        rw [bne_iff_ne]; intro h; exact h42 (UInt8.toNat_inj.1 (by show _ = 42; omega))
      clear h42
      go_enter Tryz.func75, Tryz.ntmps75
      go_wp2_with (first
        | (go_at_call 76; refine (hV.out).mono ?_; intro ev w1 hw; obtain ⟨rfl, hR1, hK⟩ := Gave.ok hw; clear hw; obtain ⟨k0, k1, k2, k3, k4, k5, k6, k7, k8, kf⟩ := nine (hK.heap HF.out hnf))
        | (go_at_call 47; refine (HP.out j _ (by exact (setCell_ne _ hbf).trans hR1)).mono ?_; rintro ev w' ⟨rfl, n, rfl⟩))
      go_ret
      have hB1 := hK.heap HF.out hnf
      refine Filled.mkOk (i := j) ?_ ⟨_, ?_, World.ownsRow_nil _ _ _ _⟩ ?_
      · exact (setCell_ne _ hbf).trans ((setCell_ne _ hbf).trans hR1)
      · exact setCell_at (setCell_at hB1 3 (.string v)) 0 (.int .i8 3)
      · exact (((hK.mono (S' := [b, fb]) (by simp)).setCell _ _ (.inl (by simp))).drewN _).setCell _ _ (.inl (by simp))
end Go.Proofs.YtjmpcoedfoaebaaGreatDoor
