/- The reference's reader: value. -/
import Derived.Test.YtjmpcoedfoaebaaGreatDoorSrx
import Derived.Test.YtjmpcoedfoaebaaGreatDoorRpx
import Derived.Test.YtjmpcoedfoaebaaGreatDoorVal
import Derived.Lib.AppendStr
import Derived.Lib.UnsafeStr
import Derived.Deep.RegionHeld3
open Go Go.RowKit
namespace Go.Proofs.YtjmpcoedfoaebaaGreatDoor

theorem PieceX.ok {w w' : World} {e : Ending} {t : List UInt8} {n : Nat} (h : PieceX w (.ok (t, n)) e w') : e = .returned (.tuple #[.string ⟨t.toArray⟩, .int .i64 n, .int .i64 0]) ∧ Keep [] w w' := ⟨h.2, h.1⟩
theorem PieceX.err {w w' : World} {e : Ending} {c : Int} (h : PieceX w (.error c) e w') : e = .returned (.tuple #[.string ⟨#[]⟩, .int .i64 0, .int .i64 c]) ∧ Keep [] w w' := ⟨h.2, h.1⟩
theorem ext_drop (s : ByteArray) (i : Nat) : (s.extract i s.size).data.toList = s.data.toList.drop i := by
  simp [ByteArray.data_extract]
  exact List.take_of_length_le (by simp)
theorem Rx.keepAs {W w w' : World} {b : Nat} {s : ByteArray} {i p : Nat} (h : Rx W b s i p) (he : w.heap = W.heap) (k : Keep [] w w') : Rx w' b s i p := Rx.keep0 (show Rx w b s i p by unfold Rx RxC at h ⊢; rw [he]; exact h) k
theorem Tryz.infoU8 : (Tryz.prog.info? 5).map (fun i => (i.zero, i.size, i.bytes)) = some (some (.int .u8 0), 1, 1) := by kernel_rfl
theorem info_partsV {o : Option TypeInfo} {z : Option Value} {a b : Nat} (h : o.map (fun i => (i.zero, i.size, i.bytes)) = some (z, a, b)) : ∃ i, o = some i ∧ i.zero = z ∧ i.size = a ∧ i.bytes = b := by
  obtain ⟨i, hi, he⟩ := Option.map_eq_some_iff.1 h
  simp only [Prod.mk.injEq] at he
  exact ⟨i, hi, he.1, he.2.1, he.2.2⟩
theorem own_keepV {S : List Nat} {N : Nat} {T : TypeId} {z : Nat} {v : Value} {n : Nat} {xs : List Value} {w w' : World} (h : w.ownsRow N T z v n xs) (k : Keep S w w') (hS : ∀ x ∈ S, x < N) : w'.ownsRow N T z v n xs := by
  refine ⟨h.1, ?_⟩
  rcases h.2 with hn | ⟨g, cap, cur, rfl, hb, hg, rest⟩
  · exact .inl hn
  · exact .inr ⟨g, cap, cur, rfl, hb, k.heap hg (fun hm => by have := hS g hm; omega), rest⟩
theorem own_ge {N : Nat} {T : TypeId} {z : Nat} {v : Value} {n : Nat} {xs : List Value} {w : World} (h : w.ownsRow N T z v n xs) {k : Nat} (hk : v.ownBlock = some k) : N ≤ k := by
  rcases h.2 with ⟨rfl, _⟩ | ⟨g, cap, cur, rfl, hb, _⟩
  · cases hk
  · cases hk; exact hb
theorem own_form {N : Nat} {T : TypeId} {z : Nat} {v : Value} {n : Nat} {xs : List Value} {w : World} (h : w.ownsRow N T z v n xs) : ∃ ad cap, v = .slice ad n cap := by
  rcases h.2 with ⟨rfl, rfl⟩ | ⟨g, cap, cur, rfl, _⟩
  · exact ⟨_, _, rfl⟩
  · exact ⟨_, _, rfl⟩
theorem stop_how {star : Bool} {s : ByteArray} {j : Nat} (h : s.size ≤ j ∨ endB star (peekB s j) = true) :
    s.size ≤ j ∨ (∃ hlt : j < s.size, ((s[j].toNat : Int) != 41) = false) ∨ (∃ hlt : j < s.size, ((s[j].toNat : Int) != 41) = true ∧ star = true ∧ ((s[j].toNat : Int) != 42) = false) := by
  rcases Nat.lt_or_ge j s.size with hlt | hle
  · rcases h with h | h
    · omega
    rw [peekB_in hlt] at h
    unfold endB at h
    by_cases h41 : s[j] = 41
    · exact .inr (.inl ⟨hlt, by rw [h41]; rfl⟩)
    · simp [h41] at h
      refine .inr (.inr ⟨hlt, ?_, h.1, by rw [h.2]; rfl⟩)
      rw [bne_iff_ne]
      intro hh
      exact h41 (UInt8.toNat_inj.1 (by show _ = 41; omega))
  · exact .inl hle
theorem piece_err_ne {l : List UInt8} {c : Int} (hl : l ≠ []) (h : pieceP l = .error c) : c ≠ 0 := by
  unfold pieceP at h
  split at h
  · exact absurd rfl hl
  · split at h
    · split at h
      · cases h
      · cases h; decide
    · split at h
      · cases h; decide
      · split at h
        · cases h; decide
        · cases h
theorem conv_owns {w : World} {base n : Nat} {v : Value} (l : List UInt8) (h : w.ownsRow base 5 1 v n (Lib.byteCells l)) :
    (convert 49 9 v).run Tryz.prog w = .ok (.string ⟨l.toArray⟩) w := by
  have hn : n = l.length := by have := h.1; rw [Lib.byteCells_length] at this; omega
  subst hn
  rcases h.2 with ⟨rfl, h0⟩ | ⟨g, cap, cur, rfl, hb, hg, hn, hc, hs, ht⟩
  · obtain rfl : l = [] := List.length_eq_zero_iff.1 h0
    rw [run_convert_bytes_string w 49 9 5 none 0 0 Tryz.underlying49 Tryz.underlying5 Tryz.underlying9]
    rfl
  · exact run_convert_bytes_back w 49 9 5 ⟨g, 0, none⟩ cap l Tryz.underlying49 Tryz.underlying5 Tryz.underlying9 (fun j hj => h.cells (g := g) rfl j _ (by simp [Lib.byteCells, List.getElem?_eq_getElem hj]))

def RvRel (b : Nat) (s : ByteArray) (p : Nat) (star : Bool) (w : World) (R : Except (Int × Nat) (List UInt8 × Nat)) (k : Nat) (bv : Value) (wr : World) : Prop :=
  ∃ (j : Nat) (acc : List UInt8), j ≤ s.size ∧ s.size < j + k ∧ Rx wr b s j p ∧ Keep [b] w wr ∧ valP star k s j acc = R ∧ acc.length ≤ j ∧ wr.ownsRow w.heap.size 5 1 bv acc.length (Lib.byteCells acc)

set_option maxHeartbeats 2000000 in
set_option maxRecDepth 100000 in
theorem xvalue_any (b i p : Nat) (star : Bool) (s : ByteArray) (w : World) (hs : s.size ≤ 1048576) (hi : i ≤ s.size) (hR : Rx w b s i p) :
    Calls Tryz.prog 71 #[.pointer (some ⟨b, 0, none⟩), .bool star] w (GaveX b s p w (valueP star s i)) := by
  have hsm : s.size ≤ maxLen := by unfold maxLen; omega
  have h1 := hR.c1
  have hbw := hR.lt
  have HR := Lib.hid hR
  clear hR
  unfold valueP
  generalize hT : valP star (s.size + 1) s i [] = R
  have HT := Lib.hid hT
  clear hT
  go_enter Tryz.func71, Tryz.ntmps71
  go_wp2
  have hKi := Keep.refl [b] w
  have HKi := Lib.hid hKi
  clear hKi h1
  go_loopg [7] (s.size + 1) (fun k bv wr => RvRel b s p star w R k bv wr)
  case atStart => exact ⟨i, [], hi, by omega, HR.out, HKi.out, HT.out, by simp, rfl, .inl ⟨rfl, rfl⟩⟩
  case round =>
    obtain ⟨j, acc, hj, hk, hRj, hKj, hV, hal, hown⟩ := hrel
    have h0 := hRj.c0
    have h1 := hRj.c1
    have HRj := Lib.hid hRj
    have HKj := Lib.hid hKj
    have HO := Lib.hid hown
    have hwr := hKj.size
    clear hRj hKj hown HR HKi
    obtain ⟨k', rfl⟩ : ∃ k', gk = k' + 1 := ⟨gk - 1, by omega⟩
    by_cases hstop : s.size ≤ j ∨ endB star (peekB s j) = true
    · have hV' := valP_stop (k := k') (acc := acc) hstop
      rw [hV'] at hV
      obtain rfl : Except.ok (acc, j) = R := hV
      clear hV'
      obtain ⟨ad, cap, hu⟩ := own_form HO.out
      subst hu
      rcases stop_how hstop with hle | ⟨hlt, h41⟩ | ⟨hlt, h41, rfl, h42⟩
      · have hd : decide (j < s.size) = false := by simpa using hle
        clear hstop
        go_wp2
        go_quiet (fail)
        obtain ⟨W2, hW2⟩ : ∃ W2, W2 = wr.drewN nq := ⟨_, rfl⟩
        have HJ2 : Hid (Rx W2 b s j p) := Lib.hid (by rw [hW2]; exact HRj.out.drewN _)
        have HK2 : Hid (Keep [b] w W2) := Lib.hid (by rw [hW2]; exact HKj.out.drewN _)
        have hO2 : W2.ownsRow w.heap.size 5 1 (.slice ad acc.length cap) acc.length (Lib.byteCells acc) := by rw [hW2]; exact HO.out
        have hcv := conv_owns acc hO2
        rw [← hW2]
        clear hW2 h0 h1 HRj HKj HO hwr hO2
        by_cases hlong : 65536 < acc.length
        · have HV : Hid (lenP i (.ok (acc, j)) = .error (3, i)) := Lib.hid (by show (if 65536 < acc.length then _ else _) = _; rw [if_pos hlong])
          have hl : (65536 : Int) < acc.length := by omega
          go_wp2_with (go_at_call 42; refine (xfails_any b j p i 3 s _ hsm (by exact HJ2.out)).mono ?_; rintro e w' ⟨rfl, hE, hK⟩)
          go_ret2
          have hKo := HK2.out
          rw [HV.out]
          exact GaveX.mkErr hE (by (repeat first | exact Keep.refl _ _ | refine Keep.drewN ?_ _ | refine Keep.drew ?_ | refine Keep.setCell ?_ _ _ (.inl (by simp)) | refine Keep.alloc ?_ _ | refine Keep.trans ?_ (by assumption) | refine Keep.trans0 ?_ (by assumption) | refine Keep.transTo ?_ (by assumption) (fun x hx => .inr (by simp at hx; omega))))
        · have HV : Hid (lenP i (.ok (acc, j)) = .ok (⟨acc.toArray⟩, j)) := Lib.hid (by show (if 65536 < acc.length then _ else _) = _; rw [if_neg hlong])
          have hl : (acc.length : Int) ≤ 65536 := by omega
          go_wp2
          go_ret2
          have hKo := HK2.out
          rw [HV.out]
          exact GaveX.mkOk HJ2.out (by (repeat first | exact Keep.refl _ _ | refine Keep.drewN ?_ _ | refine Keep.drew ?_ | refine Keep.setCell ?_ _ _ (.inl (by simp)) | refine Keep.alloc ?_ _ | refine Keep.trans ?_ (by assumption) | refine Keep.trans0 ?_ (by assumption) | refine Keep.transTo ?_ (by assumption) (fun x hx => .inr (by simp at hx; omega))))
      · have hd : decide (j < s.size) = true := by simpa using hlt
        clear hstop
        go_wp2
        go_quiet (fail)
        obtain ⟨W2, hW2⟩ : ∃ W2, W2 = wr.drewN nq := ⟨_, rfl⟩
        have HJ2 : Hid (Rx W2 b s j p) := Lib.hid (by rw [hW2]; exact HRj.out.drewN _)
        have HK2 : Hid (Keep [b] w W2) := Lib.hid (by rw [hW2]; exact HKj.out.drewN _)
        have hO2 : W2.ownsRow w.heap.size 5 1 (.slice ad acc.length cap) acc.length (Lib.byteCells acc) := by rw [hW2]; exact HO.out
        have hcv := conv_owns acc hO2
        rw [← hW2]
        clear hW2 h0 h1 HRj HKj HO hwr hO2
        by_cases hlong : 65536 < acc.length
        · have HV : Hid (lenP i (.ok (acc, j)) = .error (3, i)) := Lib.hid (by show (if 65536 < acc.length then _ else _) = _; rw [if_pos hlong])
          have hl : (65536 : Int) < acc.length := by omega
          go_wp2_with (go_at_call 42; refine (xfails_any b j p i 3 s _ hsm (by exact HJ2.out)).mono ?_; rintro e w' ⟨rfl, hE, hK⟩)
          go_ret2
          have hKo := HK2.out
          rw [HV.out]
          exact GaveX.mkErr hE (by (repeat first | exact Keep.refl _ _ | refine Keep.drewN ?_ _ | refine Keep.drew ?_ | refine Keep.setCell ?_ _ _ (.inl (by simp)) | refine Keep.alloc ?_ _ | refine Keep.trans ?_ (by assumption) | refine Keep.trans0 ?_ (by assumption) | refine Keep.transTo ?_ (by assumption) (fun x hx => .inr (by simp at hx; omega))))
        · have HV : Hid (lenP i (.ok (acc, j)) = .ok (⟨acc.toArray⟩, j)) := Lib.hid (by show (if 65536 < acc.length then _ else _) = _; rw [if_neg hlong])
          have hl : (acc.length : Int) ≤ 65536 := by omega
          go_wp2
          go_ret2
          have hKo := HK2.out
          rw [HV.out]
          exact GaveX.mkOk HJ2.out (by (repeat first | exact Keep.refl _ _ | refine Keep.drewN ?_ _ | refine Keep.drew ?_ | refine Keep.setCell ?_ _ _ (.inl (by simp)) | refine Keep.alloc ?_ _ | refine Keep.trans ?_ (by assumption) | refine Keep.trans0 ?_ (by assumption) | refine Keep.transTo ?_ (by assumption) (fun x hx => .inr (by simp at hx; omega))))
      · have hd : decide (j < s.size) = true := by simpa using hlt
        clear hstop
        go_wp2
        go_quiet (fail)
        obtain ⟨W2, hW2⟩ : ∃ W2, W2 = wr.drewN nq := ⟨_, rfl⟩
        have HJ2 : Hid (Rx W2 b s j p) := Lib.hid (by rw [hW2]; exact HRj.out.drewN _)
        have HK2 : Hid (Keep [b] w W2) := Lib.hid (by rw [hW2]; exact HKj.out.drewN _)
        have hO2 : W2.ownsRow w.heap.size 5 1 (.slice ad acc.length cap) acc.length (Lib.byteCells acc) := by rw [hW2]; exact HO.out
        have hcv := conv_owns acc hO2
        rw [← hW2]
        clear hW2 h0 h1 HRj HKj HO hwr hO2
        by_cases hlong : 65536 < acc.length
        · have HV : Hid (lenP i (.ok (acc, j)) = .error (3, i)) := Lib.hid (by show (if 65536 < acc.length then _ else _) = _; rw [if_pos hlong])
          have hl : (65536 : Int) < acc.length := by omega
          go_wp2_with (go_at_call 42; refine (xfails_any b j p i 3 s _ hsm (by exact HJ2.out)).mono ?_; rintro e w' ⟨rfl, hE, hK⟩)
          go_ret2
          have hKo := HK2.out
          rw [HV.out]
          exact GaveX.mkErr hE (by (repeat first | exact Keep.refl _ _ | refine Keep.drewN ?_ _ | refine Keep.drew ?_ | refine Keep.setCell ?_ _ _ (.inl (by simp)) | refine Keep.alloc ?_ _ | refine Keep.trans ?_ (by assumption) | refine Keep.trans0 ?_ (by assumption) | refine Keep.transTo ?_ (by assumption) (fun x hx => .inr (by simp at hx; omega))))
        · have HV : Hid (lenP i (.ok (acc, j)) = .ok (⟨acc.toArray⟩, j)) := Lib.hid (by show (if 65536 < acc.length then _ else _) = _; rw [if_neg hlong])
          have hl : (acc.length : Int) ≤ 65536 := by omega
          go_wp2
          go_ret2
          have hKo := HK2.out
          rw [HV.out]
          exact GaveX.mkOk HJ2.out (by (repeat first | exact Keep.refl _ _ | refine Keep.drewN ?_ _ | refine Keep.drew ?_ | refine Keep.setCell ?_ _ _ (.inl (by simp)) | refine Keep.alloc ?_ _ | refine Keep.trans ?_ (by assumption) | refine Keep.trans0 ?_ (by assumption) | refine Keep.transTo ?_ (by assumption) (fun x hx => .inr (by simp at hx; omega))))
    · have hlt : j < s.size := by omega
      have hpk : peekB s j = s[j] := peekB_in hlt
      have hne : endB star s[j] = false := by rw [← hpk]; exact Bool.eq_false_iff.2 (fun h => hstop (.inr h))
      have hn41 : ((s[j].toNat : Int) != 41) = true := by
        rw [bne_iff_ne]; intro h
        have : s[j] = 41 := UInt8.toNat_inj.1 (by show _ = 41; omega)
        rw [this] at hne; cases star <;> cases hne
      have hn42 : star = true → ((s[j].toNat : Int) != 42) = true := by
        intro hs; rw [bne_iff_ne]; intro h
        have : s[j] = 42 := UInt8.toNat_inj.1 (by show _ = 42; omega)
        rw [this, hs] at hne; cases hne
      have HP := fun W => xpiece_any (s.extract j s.size) W (by rw [ByteArray.size_extract]; omega) (by rw [ByteArray.size_extract]; omega)
      rw [ext_drop] at HP
      have hd : decide (j < s.size) = true := by simpa using hlt
      cases hp : pieceP (s.data.toList.drop j) with
      | error c =>
        rw [valP_err hstop hp] at hV
        rw [hp] at HP
        have HPc := Lib.hid HP
        obtain rfl : Except.error (c, j) = R := hV
        have hc0 : ((c : Int) != 0) = true := by rw [bne_iff_ne]; exact piece_err_ne (by rw [drop_at s j hlt]; simp) hp
        clear hp hne hstop hpk HP
        cases star
        · clear hn42
          go_wp2
          go_quiet (fail)
          obtain ⟨W2, hW2⟩ : ∃ W2, W2 = wr.drewN nq := ⟨_, rfl⟩
          have HJ2 : Hid (Rx W2 b s j p) := Lib.hid (by rw [hW2]; exact HRj.out.drewN _)
          have HK2 : Hid (Keep [b] w W2) := Lib.hid (by rw [hW2]; exact HKj.out.drewN _)
          have HO2 : Hid (W2.ownsRow w.heap.size 5 1 u7 acc.length (Lib.byteCells acc)) := Lib.hid (by rw [hW2]; exact HO.out)
          have hW2s : w.heap.size ≤ W2.heap.size := HK2.out.size
          rw [← hW2]
          clear hW2 h0 h1 HRj HKj HO hwr
          have h0 := HJ2.out.c0
          have h1 := HJ2.out.c1
          go_wp2
          go_region_held3 (fun w' => w'.cell? ⟨b, 0, none⟩ = some (.string s) ∧ w'.cell? ⟨b, 1, none⟩ = some (.int .i64 j)) (go_keep) (first | (go_at_call 106; refine (HPc.out _).mono ?_; intro e w5 hw; obtain ⟨rfl, hKp⟩ := PieceX.err hw; clear hw; have hJ5 := Rx.keepAs HJ2.out (by rfl) hKp; have q0 := hJ5.c0; have q1 := hJ5.c1; have HJ5 := Lib.hid hJ5; have HKp : Hid (Keep [] W2 w5) := Lib.hid (((Keep.refl [] W2).drew).trans hKp); clear hJ5 hKp))
          go_wp2_with (go_at_call 42; refine (xfails_any b j p j c s _ hsm (by exact HJ5.out)).mono ?_; rintro e w' ⟨rfl, hE, hK⟩)
          go_ret2
          have hKo := HK2.out
          have hKq := HKp.out
          exact GaveX.mkErr hE (by (repeat first | exact Keep.refl _ _ | refine Keep.drewN ?_ _ | refine Keep.drew ?_ | refine Keep.setCell ?_ _ _ (.inl (by simp)) | refine Keep.alloc ?_ _ | refine Keep.trans ?_ (by assumption) | refine Keep.trans0 ?_ (by assumption) | refine Keep.transTo ?_ (by assumption) (fun x hx => .inr (by simp at hx; omega))))
        · have hn42 := hn42 rfl
          go_wp2
          go_quiet (fail)
          obtain ⟨W2, hW2⟩ : ∃ W2, W2 = wr.drewN nq := ⟨_, rfl⟩
          have HJ2 : Hid (Rx W2 b s j p) := Lib.hid (by rw [hW2]; exact HRj.out.drewN _)
          have HK2 : Hid (Keep [b] w W2) := Lib.hid (by rw [hW2]; exact HKj.out.drewN _)
          have HO2 : Hid (W2.ownsRow w.heap.size 5 1 u7 acc.length (Lib.byteCells acc)) := Lib.hid (by rw [hW2]; exact HO.out)
          have hW2s : w.heap.size ≤ W2.heap.size := HK2.out.size
          rw [← hW2]
          clear hW2 h0 h1 HRj HKj HO hwr
          have h0 := HJ2.out.c0
          have h1 := HJ2.out.c1
          go_wp2
          go_region_held3 (fun w' => w'.cell? ⟨b, 0, none⟩ = some (.string s) ∧ w'.cell? ⟨b, 1, none⟩ = some (.int .i64 j)) (go_keep) (first | (go_at_call 106; refine (HPc.out _).mono ?_; intro e w5 hw; obtain ⟨rfl, hKp⟩ := PieceX.err hw; clear hw; have hJ5 := Rx.keepAs HJ2.out (by rfl) hKp; have q0 := hJ5.c0; have q1 := hJ5.c1; have HJ5 := Lib.hid hJ5; have HKp : Hid (Keep [] W2 w5) := Lib.hid (((Keep.refl [] W2).drew).trans hKp); clear hJ5 hKp))
          go_wp2_with (go_at_call 42; refine (xfails_any b j p j c s _ hsm (by exact HJ5.out)).mono ?_; rintro e w' ⟨rfl, hE, hK⟩)
          go_ret2
          have hKo := HK2.out
          have hKq := HKp.out
          exact GaveX.mkErr hE (by (repeat first | exact Keep.refl _ _ | refine Keep.drewN ?_ _ | refine Keep.drew ?_ | refine Keep.setCell ?_ _ _ (.inl (by simp)) | refine Keep.alloc ?_ _ | refine Keep.trans ?_ (by assumption) | refine Keep.trans0 ?_ (by assumption) | refine Keep.transTo ?_ (by assumption) (fun x hx => .inr (by simp at hx; omega))))
      | ok tn =>
        obtain ⟨t, n⟩ := tn
        rw [valP_ok hstop hp] at hV
        rw [hp] at HP
        have HPc := Lib.hid HP
        have HV := Lib.hid hV
        obtain ⟨p1, p2, p3, p4⟩ := pieceP_ok hp
        have hjn : j + n ≤ s.size := by rw [List.length_drop] at p2; have : s.data.toList.length = s.size := rfl; omega
        clear hp hne hstop hpk HP hV p2
        cases star
        · clear hn42
          go_wp2
          go_quiet (fail)
          obtain ⟨W2, hW2⟩ : ∃ W2, W2 = wr.drewN nq := ⟨_, rfl⟩
          have HJ2 : Hid (Rx W2 b s j p) := Lib.hid (by rw [hW2]; exact HRj.out.drewN _)
          have HK2 : Hid (Keep [b] w W2) := Lib.hid (by rw [hW2]; exact HKj.out.drewN _)
          have HO2 : Hid (W2.ownsRow w.heap.size 5 1 u7 acc.length (Lib.byteCells acc)) := Lib.hid (by rw [hW2]; exact HO.out)
          have hW2s : w.heap.size ≤ W2.heap.size := HK2.out.size
          rw [← hW2]
          clear hW2 h0 h1 HRj HKj HO hwr
          have h0 := HJ2.out.c0
          have h1 := HJ2.out.c1
          go_wp2
          go_region_held3 (fun w' => w'.cell? ⟨b, 0, none⟩ = some (.string s) ∧ w'.cell? ⟨b, 1, none⟩ = some (.int .i64 j)) (go_keep) (first | (go_at_call 106; refine (HPc.out _).mono ?_; intro e w5 hw; obtain ⟨rfl, hKp⟩ := PieceX.ok hw; clear hw; have hJ5 := Rx.keepAs HJ2.out (by rfl) hKp; have q0 := hJ5.c0; have q1 := hJ5.c1; have HJ5 := Lib.hid hJ5; have HKp : Hid (Keep [] W2 w5) := Lib.hid (((Keep.refl [] W2).drew).trans hKp); clear hJ5 hKp))
          obtain ⟨i0, hi0, hz0, hz1, hz2⟩ := info_partsV Tryz.infoU8
          have HO5 : Hid (w5.ownsRow w.heap.size 5 1 u7 acc.length (Lib.byteCells acc)) := Lib.hid (own_keepV HO2.out HKp.out (by simp))
          have hsz : (⟨t.toArray⟩ : ByteArray).size = t.length := by show t.toArray.size = _; simp
          have hw5s : w.heap.size ≤ w5.heap.size := Nat.le_trans hW2s HKp.out.size
          have HNE : Hid (∀ k, u7.ownBlock = some k → w.heap.size ≤ k) := Lib.hid (fun k hk => own_ge HO2.out hk)
          go_wp2_with (at_builtin; refine Lib.wpList_append_own_string _ rfl (.tmp 76) (.tmp 77) 49 9 rfl w.heap.size 5 i0 Tryz.underlying49 Tryz.underlying9 hi0 hz0 hz1 hz2 u7 acc.length (Lib.byteCells acc) (by rfl) (by exact HO5.out) ⟨t.toArray⟩ (by rfl) (by rw [hsz]; unfold maxLen; omega) (by rw [hsz]; omega) (by omega) ?_; intro v6 w6 ho6 hg6 _; rw [hsz] at ho6; have hR6 : Rx w6 b s j p := (hg6.block b (lt_of_block HJ5.out) (fun h => by have := HNE.out b h.symm; omega)).trans HJ5.out; have HO6 := Lib.hid ho6; have HG6 := Lib.hid hg6; have r1 := hR6.c1; have r2 := hR6.free 1; have HR6 := Lib.hid hR6; clear ho6 hg6 hR6)
          go_roundg k'
          case measure => omega
          case rel =>
            have hKo := HK2.out
            have hKq := HKp.out
            have hK6 : Keep [b] w w6 := (hKo.trans0 hKq).grown HG6.out (fun k hk => .inr (HNE.out k hk))
            refine ⟨j + n, acc ++ t, hjn, by omega, HR6.out.setAt _, hK6.setCell _ _ (.inl (by simp)), HV.out, by rw [List.length_append]; omega, ?_⟩
            rw [List.length_append, Lib.byteCells_append]
            exact own_keepV HO6.out ((Keep.refl [b] w6).setCell _ _ (.inl (by simp))) (by simp; omega)
        · have hn42 := hn42 rfl
          go_wp2
          go_quiet (fail)
          obtain ⟨W2, hW2⟩ : ∃ W2, W2 = wr.drewN nq := ⟨_, rfl⟩
          have HJ2 : Hid (Rx W2 b s j p) := Lib.hid (by rw [hW2]; exact HRj.out.drewN _)
          have HK2 : Hid (Keep [b] w W2) := Lib.hid (by rw [hW2]; exact HKj.out.drewN _)
          have HO2 : Hid (W2.ownsRow w.heap.size 5 1 u7 acc.length (Lib.byteCells acc)) := Lib.hid (by rw [hW2]; exact HO.out)
          have hW2s : w.heap.size ≤ W2.heap.size := HK2.out.size
          rw [← hW2]
          clear hW2 h0 h1 HRj HKj HO hwr
          have h0 := HJ2.out.c0
          have h1 := HJ2.out.c1
          go_wp2
          go_region_held3 (fun w' => w'.cell? ⟨b, 0, none⟩ = some (.string s) ∧ w'.cell? ⟨b, 1, none⟩ = some (.int .i64 j)) (go_keep) (first | (go_at_call 106; refine (HPc.out _).mono ?_; intro e w5 hw; obtain ⟨rfl, hKp⟩ := PieceX.ok hw; clear hw; have hJ5 := Rx.keepAs HJ2.out (by rfl) hKp; have q0 := hJ5.c0; have q1 := hJ5.c1; have HJ5 := Lib.hid hJ5; have HKp : Hid (Keep [] W2 w5) := Lib.hid (((Keep.refl [] W2).drew).trans hKp); clear hJ5 hKp))
          obtain ⟨i0, hi0, hz0, hz1, hz2⟩ := info_partsV Tryz.infoU8
          have HO5 : Hid (w5.ownsRow w.heap.size 5 1 u7 acc.length (Lib.byteCells acc)) := Lib.hid (own_keepV HO2.out HKp.out (by simp))
          have hsz : (⟨t.toArray⟩ : ByteArray).size = t.length := by show t.toArray.size = _; simp
          have hw5s : w.heap.size ≤ w5.heap.size := Nat.le_trans hW2s HKp.out.size
          have HNE : Hid (∀ k, u7.ownBlock = some k → w.heap.size ≤ k) := Lib.hid (fun k hk => own_ge HO2.out hk)
          go_wp2_with (at_builtin; refine Lib.wpList_append_own_string _ rfl (.tmp 76) (.tmp 77) 49 9 rfl w.heap.size 5 i0 Tryz.underlying49 Tryz.underlying9 hi0 hz0 hz1 hz2 u7 acc.length (Lib.byteCells acc) (by rfl) (by exact HO5.out) ⟨t.toArray⟩ (by rfl) (by rw [hsz]; unfold maxLen; omega) (by rw [hsz]; omega) (by omega) ?_; intro v6 w6 ho6 hg6 _; rw [hsz] at ho6; have hR6 : Rx w6 b s j p := (hg6.block b (lt_of_block HJ5.out) (fun h => by have := HNE.out b h.symm; omega)).trans HJ5.out; have HO6 := Lib.hid ho6; have HG6 := Lib.hid hg6; have r1 := hR6.c1; have r2 := hR6.free 1; have HR6 := Lib.hid hR6; clear ho6 hg6 hR6)
          go_roundg k'
          case measure => omega
          case rel =>
            have hKo := HK2.out
            have hKq := HKp.out
            have hK6 : Keep [b] w w6 := (hKo.trans0 hKq).grown HG6.out (fun k hk => .inr (HNE.out k hk))
            refine ⟨j + n, acc ++ t, hjn, by omega, HR6.out.setAt _, hK6.setCell _ _ (.inl (by simp)), HV.out, by rw [List.length_append]; omega, ?_⟩
            rw [List.length_append, Lib.byteCells_append]
            exact own_keepV HO6.out ((Keep.refl [b] w6).setCell _ _ (.inl (by simp))) (by simp; omega)
end Go.Proofs.YtjmpcoedfoaebaaGreatDoor
