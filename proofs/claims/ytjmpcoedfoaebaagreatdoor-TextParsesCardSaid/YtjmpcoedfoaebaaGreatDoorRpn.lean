/- The reference's reader: kids, out of its filter. -/
import Derived.Test.YtjmpcoedfoaebaaGreatDoorRpk
import Derived.Test.YtjmpcoedfoaebaaGreatDoorFltd
open Go Go.RowKit
namespace Go.Proofs.YtjmpcoedfoaebaaGreatDoor

/-- What a call of the reference's filter has done. -/
def FRetX (b : Nat) (s : ByteArray) (w : World) (r : Except (Int × Nat) (Flt × Nat × Nat)) (e : Ending) (w' : World) : Prop :=
  match r with
  | .ok t => ∃ kv mv, e = .returned (.tuple #[.agg (nineOf kv mv t.1.it).toArray, .bool true]) ∧ FltR w' w.heap.size w'.heap.size t.1 (nineOf kv mv t.1.it) ∧ Rx w' b s t.2.1 t.2.2 ∧ Keep [b] w w'
  | .error f => ∃ x, Agg9 x ∧ e = .returned (.tuple #[x, .bool false]) ∧ RxF w' b s f ∧ Keep [b] w w'
/-- What a call of the reference's kids has done. -/
def KRetX (b : Nat) (s : ByteArray) (w : World) (r : Except (Int × Nat) (List Flt × Nat × Nat)) (e : Ending) (w' : World) : Prop :=
  match r with
  | .ok t => ∃ kv, e = .returned (.tuple #[kv, .bool true]) ∧ KidsR w' w.heap.size w'.heap.size t.1 kv ∧ Rx w' b s t.2.1 t.2.2 ∧ Keep [b] w w'
  | .error f => e = .returned (.tuple #[.slice none 0 0, .bool false]) ∧ RxF w' b s f ∧ Keep [b] w w'
theorem FltR.slices {w : World} {lo hi : Nat} {g : Flt} {kv mv : Value} (h : FltR w lo hi g (nineOf kv mv g.it)) : (∃ a1 c1, kv = .slice a1 g.kids.length c1) ∧ ∃ a2 c2, mv = .slice a2 g.it.mids.length c2 := by
  generalize hvs : nineOf kv mv g.it = vs at h
  cases h with
  | mk _ _ it kids kv' mv' L H cs hm hmh hk hkh hmk hL hLL hout hkid =>
    obtain ⟨a1, c1, e1⟩ := owns_slice hk
    obtain ⟨a2, c2, e2⟩ := owns_slice hm
    have hvs' : nineOf kv mv it = nineOf kv' mv' it := hvs
    unfold nineOf at hvs'
    injection hvs' with _ hvs'
    injection hvs' with hk' hvs'
    injection hvs' with _ hvs'
    injection hvs' with _ hvs'
    injection hvs' with _ hvs'
    injection hvs' with hm' hvs'
    exact ⟨⟨a1, c1, hk'.trans e1⟩, a2, c2, hm'.trans e2⟩
theorem FRetX.ok {b : Nat} {s : ByteArray} {w w' : World} {g : Flt} {j q : Nat} {e : Ending} (h : FRetX b s w (.ok (g, j, q)) e w') :
    ∃ a1 c1 a2 c2, e = .returned (.tuple #[.agg #[.int .i8 g.it.kind, .slice a1 g.kids.length c1, .string g.it.desc, .string g.it.value, .string g.it.start, .slice a2 g.it.mids.length c2, .string g.it.fin, .string g.it.rule, .bool g.it.dn], .bool true]) ∧
      FltR w' w.heap.size w'.heap.size g (nineOf (.slice a1 g.kids.length c1) (.slice a2 g.it.mids.length c2) g.it) ∧ Rx w' b s j q ∧ Keep [b] w w' := by
  obtain ⟨kv, mv, h1, h2, h3, h4⟩ := h
  obtain ⟨⟨a1, c1, rfl⟩, a2, c2, rfl⟩ := h2.slices
  exact ⟨a1, c1, a2, c2, h1, h2, h3, h4⟩
theorem FRetX.err {b : Nat} {s : ByteArray} {w w' : World} {f : Int × Nat} {e : Ending} (h : FRetX b s w (.error f) e w') :
    ∃ (k : Int) (a1 : Option Addr) (n1 c1 : Nat) (d v st : ByteArray) (a2 : Option Addr) (n2 c2 : Nat) (fi ru : ByteArray) (dn : Bool), e = .returned (.tuple #[.agg #[.int .i8 k, .slice a1 n1 c1, .string d, .string v, .string st, .slice a2 n2 c2, .string fi, .string ru, .bool dn], .bool false]) ∧
      RxF w' b s f ∧ Keep [b] w w' := by
  obtain ⟨x, ⟨k, a1, n1, c1, d, v, st, a2, n2, c2, fi, ru, dn, rfl⟩, h1, h2, h3⟩ := h
  exact ⟨k, a1, n1, c1, d, v, st, a2, n2, c2, fi, ru, dn, h1, h2, h3⟩
/-- One kid more: the row has grown by its nine cells. -/
theorem KidsR.app {W1 w1 : World} {lo hi mid gg cap : Nat} {acc : List Flt} {g : Flt} {kv : Value} {XS vs : List Value} {zo : Obj} (hQ : KidsR W1 lo hi acc kv) (hG : FltR W1 hi mid g vs) (h1 : lo ≤ hi) (h2 : hi ≤ mid) (h3 : mid ≤ W1.heap.size)
    (hO : W1.ownsRow lo 26 9 kv acc.length XS) (hgr : (W1.alloc zo).grownBy w1 kv.ownBlock)
    (hown : w1.ownsRow lo 26 9 (.slice (some ⟨gg, 0, none⟩) (acc.length + 1) cap) (acc.length + 1) (XS ++ vs)) (hat : kv.ownBlock = some gg ∨ gg = W1.heap.size + 1) :
    KidsR w1 lo w1.heap.size (acc ++ [g]) (.slice (some ⟨gg, 0, none⟩) (acc.length + 1) cap) := by
  have hkv : ∀ k, kv.ownBlock = some k → lo ≤ k ∧ k < hi := fun k hk => ⟨(hO.lt k hk).1, by obtain ⟨L, H, cs, _, hkh, _⟩ := hQ; exact hkh k hk⟩
  obtain ⟨S, hS1, hS2⟩ : ∃ S : List Nat, (∀ k, kv.ownBlock = some k → k ∈ S) ∧ ∀ k ∈ S, kv.ownBlock = some k := by
    cases hk : kv.ownBlock with
    | none => exact ⟨[], (fun k h => by cases h), (fun k h => by cases h)⟩
    | some k => exact ⟨[k], (fun x h => by cases h; simp), (fun x h => by simp at h; rw [h])⟩
  have hKa : Keep S W1 w1 := ((Keep.refl S W1).alloc zo).grown hgr fun k hk => .inl (hS1 k hk)
  refine KidsR.snoc hQ (hi := hi) (mid := mid) (vs := vs) ?_ hKa.os hKa.tape hKa.output hKa.size (by omega) (hG.keep hKa ?_) h2 (Nat.le_trans h3 hKa.size) (by omega) ?_ ?_
  · intro k hk1 hk2 hk3
    exact hKa.block k (by omega) fun hm => hk3 (hS2 k hm)
  · intro x hx
    have := hkv x (hS2 x hx); omega
  · intro xs hxs
    obtain rfl := owns_inj hxs hO
    exact hown
  · intro k hk
    obtain rfl : gg = k := Option.some.inj hk
    rcases hat with h | h
    · exact .inl h
    · exact .inr (by omega)

theorem KidsR.row {w : World} {lo hi : Nat} {kids : List Flt} {kv : Value} (h : KidsR w lo hi kids kv) : ∃ XS, w.ownsRow lo 26 9 kv kids.length XS := by
  obtain ⟨L, H, cs, hk, _⟩ := h
  exact ⟨_, hk⟩
def KxRel (b : Nat) (s : ByteArray) (kd : Int) (rem : Nat) (w : World) (R : Except (Int × Nat) (List Flt × Nat × Nat)) (k : Nat) (l : Value) (wr : World) : Prop :=
  ∃ (j q : Nat) (acc : List Flt), j ≤ s.size ∧ s.size < j + k ∧ q ≤ 65536 ∧ acc.length ≤ j ∧ Rx wr b s j q ∧ Keep [b] w wr ∧ KidsR wr w.heap.size wr.heap.size acc l ∧ kidsP (filterP s rem) s kd k j q acc = R

set_option maxHeartbeats 4000000 in
set_option maxRecDepth 100000 in
theorem xkids_any (b i p : Nat) (s : ByteArray) (rem : Nat) (kd d : Int) (one : Bool) (w : World) (hone : one = true ↔ kd = 2) (hs : s.size ≤ 1048576) (hi : i ≤ s.size) (hp : p ≤ 65536) (hR : Rx w b s i p)
    (ih : ∀ (i p : Nat) (w : World), i ≤ s.size → p ≤ 65536 → Rx w b s i p → Calls Tryz.prog 26 #[.pointer (some ⟨b, 0, none⟩), .int .i64 d] w (FRetX b s w (filterP s rem i p))) :
    Calls Tryz.prog 43 #[.pointer (some ⟨b, 0, none⟩), .int .i64 d, .bool one] w (KRetX b s w (kidsP (filterP s rem) s kd (s.size + 1) i p [])) := by
  have hsm : s.size ≤ maxLen := by unfold maxLen; omega
  have hbw := hR.lt
  have IH := Lib.hid ih
  have HR := Lib.hid hR
  have HONE := Lib.hid hone
  obtain ⟨R, hRR⟩ : ∃ R, kidsP (filterP s rem) s kd (s.size + 1) i p [] = R := ⟨_, rfl⟩
  have HRR := Lib.hid hRR
  rw [hRR]
  clear ih hR hone hRR
  go_enter Tryz.func43, Tryz.ntmps43
  go_wp2_with fail
  go_loopg [8] (s.size + 1) (fun k l wr => KxRel b s kd rem w R k l wr)
  case atStart => exact ⟨i, p, [], hi, by omega, hp, Nat.zero_le _, HR.out, Keep.refl _ _, KidsR.nil _ _ _, HRR.out⟩
  case round =>
    obtain ⟨j, q, acc, hj, hk, hq, hal, hRq, hKw, hKq, hst⟩ := hrel
    obtain ⟨k', rfl⟩ : ∃ k', gk = k' + 1 := ⟨gk - 1, by omega⟩
    have hwr := hKw.size
    have HKq := Lib.hid hKq
    have HKw := Lib.hid hKw
    have HRq := Lib.hid hRq
    obtain ⟨ka, kc, rfl⟩ := hKq.slice
    have hI := IH.out j q wr hj hq hRq
    clear hKq hKw hRq HR HRR IH
    cases hf : filterP s rem j q with
    | error f =>
      rw [hf] at hI
      rw [kidsP_err hf] at hst
      have HI := Lib.hid hI
      clear hI hf
      subst hst
      go_wp2_with (go_at_call 26; refine HI.out.mono ?_; intro ev w4 hw; obtain ⟨k, a1, n1, c1, d0, v0, st, a2, n2, c2, fi, ru, dn, rfl, hE4, hK4⟩ := FRetX.err hw; clear hw; have HE4 := Lib.hid hE4; have HK4 := Lib.hid hK4; clear hE4 hK4)
      go_ret2
      exact ⟨rfl, HE4.out.keep0 ((Keep.refl [] w4).alloc _), (HKw.out.trans HK4.out).alloc _⟩
    | ok t =>
      obtain ⟨g, j2, q2⟩ := t
      have hlt := filterP_ok hj hq hf
      rw [hf] at hI
      rw [kidsP_ok1 hf] at hst
      have HI := Lib.hid hI
      have HST := Lib.hid hst
      clear hI hf hst
      obtain ⟨i0, hi0, hz0, hz1, hz2⟩ := info_partsV Tryz.infoFlt
      have HX := Lib.hid (fun W h => xnext_any b j2 q2 40 s W h)
      have HCB : ∀ bb, nextB s j2 40 = bb → (bb = false ∨ one = true ↔ (kd = 2 ∨ peekB s j2 ≠ 40)) := fun bb hx => by
        rw [HONE.out]
        cases bb with
        | true => have := next_yes hx; simp [this.2]
        | false => have := next_no hx; simp [this]
      cases hx : nextB s j2 40
      · rw [hx] at HX
        have HST2 : Hid (Except.ok (acc ++ [g], j2, q2) = R) := Lib.hid (by rw [← HST.out, if_pos ((HCB _ hx).1 (.inl rfl))])
        clear hx HST HCB HONE
        cases one
        all_goals
          go_wp2_with (first
          | (go_at_call 26; refine HI.out.mono ?_; intro ev w4 hw; obtain ⟨a1, c1, a2, c2, rfl, hG4, hR4, hK4⟩ := FRetX.ok hw; clear hw; obtain ⟨XS, hXS⟩ := (HKq.out.keep hK4 (by simp; omega)).row; have HO4 := Lib.hid hXS; have HG4 := Lib.hid hG4; have HR4 := Lib.hid hR4; have HK4 := Lib.hid hK4; have hs4 := hK4.size; clear hG4 hR4 hK4 hXS)
          | (go_at_call 41; refine (HX.out _ (by exact HR6.out)).mono ?_; rintro e w' ⟨rfl, n, rfl⟩)
          | (at_builtin; refine wpList_append_lies _ rfl (.tmp 20) (.tmp 22) 23 rfl w.heap.size 26 i0 _ 9 144 (by kernel_rfl) hi0 hz0 hz1 hz2 rfl (by omega) (.slice ka acc.length kc) acc.length XS (by rfl) (by exact (HO4.out.alloc _).alloc _) ⟨w4.heap.size + 1, 0, none⟩ 1 1 [.int .i8 g.it.kind, .slice a1 g.kids.length c1, .string g.it.desc, .string g.it.value, .string g.it.start, .slice a2 g.it.mids.length c2, .string g.it.fin, .string g.it.rule, .bool g.it.dn] (by rfl) (by rfl) (World.news_of_block (cs := #[.int .i8 g.it.kind, .slice a1 g.kids.length c1, .string g.it.desc, .string g.it.value, .string g.it.start, .slice a2 g.it.mids.length c2, .string g.it.fin, .string g.it.rule, .bool g.it.dn]) (t := 26) (fr := (0, 0)) (alloc_is3 (w4.alloc (.cells #[.int .i8 g.it.kind, .slice a1 g.kids.length c1, .string g.it.desc, .string g.it.value, .string g.it.start, .slice a2 g.it.mids.length c2, .string g.it.fin, .string g.it.rule, .bool g.it.dn] 26)) _ _ (by simp))) (by simp [Value.oneCell']) (by omega) (by unfold maxLen; omega) (by omega) (by simp; omega) (w4.heap.size + 2) (by simp) ?_; intro gg cap w6 ho6 hgrow hat hlt6; have HO6 := Lib.hid ho6; have HGr := Lib.hid hgrow; have HAT := Lib.hid hat; have hR6 : Rx w6 b s j2 q2 := (hgrow.block b (by have := HR4.out.lt; simp; omega) (fun h => by have := own_ge HO4.out h.symm; omega)).trans ((alloc_lt _ (by have := HR4.out.lt; simp; omega)).trans ((alloc_lt _ HR4.out.lt).trans HR4.out)); have HR6 := Lib.hid hR6; clear ho6 hgrow hat hR6))
          go_ret2
          have hK6 : Keep [b] w w6 := (((HKw.out.trans HK4.out).alloc _).alloc _).grown HGr.out (fun k hk => .inr (own_ge HO4.out hk))
          have hQ6 : KidsR w6 w.heap.size w6.heap.size (acc ++ [g]) (.slice (some ⟨gg, 0, none⟩) (acc.length + 1) cap) := KidsR.app (W1 := (w4.alloc (.cells #[.int .i8 g.it.kind, .slice a1 g.kids.length c1, .string g.it.desc, .string g.it.value, .string g.it.start, .slice a2 g.it.mids.length c2, .string g.it.fin, .string g.it.rule, .bool g.it.dn] 26))) ((HKq.out.keep HK4.out (by simp; omega)).keep ((Keep.refl [] w4).alloc _) (by simp)) (HG4.out.keep ((Keep.refl [] w4).alloc _) (by simp)) hwr hs4 (by simp) (HO4.out.alloc _) HGr.out HO6.out (by have := HAT.out; simp; omega)
          rw [← HST2.out]
          exact ⟨_, rfl, hQ6.keep ((Keep.refl [] _).drewN n) (by simp), HR6.out.drewN n, hK6.drewN n⟩
      · rw [hx] at HX
        cases one
        · have HST2 : Hid (kidsP (filterP s rem) s kd k' j2 q2 (acc ++ [g]) = R) := Lib.hid (by rw [← HST.out, if_neg (fun h => by have := (HCB _ hx).2 h; simp at this)])
          clear hx HST HCB HONE
          go_wp2_with (first
          | (go_at_call 26; refine HI.out.mono ?_; intro ev w4 hw; obtain ⟨a1, c1, a2, c2, rfl, hG4, hR4, hK4⟩ := FRetX.ok hw; clear hw; obtain ⟨XS, hXS⟩ := (HKq.out.keep hK4 (by simp; omega)).row; have HO4 := Lib.hid hXS; have HG4 := Lib.hid hG4; have HR4 := Lib.hid hR4; have HK4 := Lib.hid hK4; have hs4 := hK4.size; clear hG4 hR4 hK4 hXS)
          | (go_at_call 41; refine (HX.out _ (by exact HR6.out)).mono ?_; rintro e w' ⟨rfl, n, rfl⟩)
          | (at_builtin; refine wpList_append_lies _ rfl (.tmp 20) (.tmp 22) 23 rfl w.heap.size 26 i0 _ 9 144 (by kernel_rfl) hi0 hz0 hz1 hz2 rfl (by omega) (.slice ka acc.length kc) acc.length XS (by rfl) (by exact (HO4.out.alloc _).alloc _) ⟨w4.heap.size + 1, 0, none⟩ 1 1 [.int .i8 g.it.kind, .slice a1 g.kids.length c1, .string g.it.desc, .string g.it.value, .string g.it.start, .slice a2 g.it.mids.length c2, .string g.it.fin, .string g.it.rule, .bool g.it.dn] (by rfl) (by rfl) (World.news_of_block (cs := #[.int .i8 g.it.kind, .slice a1 g.kids.length c1, .string g.it.desc, .string g.it.value, .string g.it.start, .slice a2 g.it.mids.length c2, .string g.it.fin, .string g.it.rule, .bool g.it.dn]) (t := 26) (fr := (0, 0)) (alloc_is3 (w4.alloc (.cells #[.int .i8 g.it.kind, .slice a1 g.kids.length c1, .string g.it.desc, .string g.it.value, .string g.it.start, .slice a2 g.it.mids.length c2, .string g.it.fin, .string g.it.rule, .bool g.it.dn] 26)) _ _ (by simp))) (by simp [Value.oneCell']) (by omega) (by unfold maxLen; omega) (by omega) (by simp; omega) (w4.heap.size + 2) (by simp) ?_; intro gg cap w6 ho6 hgrow hat hlt6; have HO6 := Lib.hid ho6; have HGr := Lib.hid hgrow; have HAT := Lib.hid hat; have hR6 : Rx w6 b s j2 q2 := (hgrow.block b (by have := HR4.out.lt; simp; omega) (fun h => by have := own_ge HO4.out h.symm; omega)).trans ((alloc_lt _ (by have := HR4.out.lt; simp; omega)).trans ((alloc_lt _ HR4.out.lt).trans HR4.out)); have HR6 := Lib.hid hR6; clear ho6 hgrow hat hR6))
          go_roundg k'
          case measure => omega
          case rel =>
            have hK6 : Keep [b] w w6 := (((HKw.out.trans HK4.out).alloc _).alloc _).grown HGr.out (fun k hk => .inr (own_ge HO4.out hk))
            have hQ6 : KidsR w6 w.heap.size w6.heap.size (acc ++ [g]) (.slice (some ⟨gg, 0, none⟩) (acc.length + 1) cap) := KidsR.app (W1 := (w4.alloc (.cells #[.int .i8 g.it.kind, .slice a1 g.kids.length c1, .string g.it.desc, .string g.it.value, .string g.it.start, .slice a2 g.it.mids.length c2, .string g.it.fin, .string g.it.rule, .bool g.it.dn] 26))) ((HKq.out.keep HK4.out (by simp; omega)).keep ((Keep.refl [] w4).alloc _) (by simp)) (HG4.out.keep ((Keep.refl [] w4).alloc _) (by simp)) hwr hs4 (by simp) (HO4.out.alloc _) HGr.out HO6.out (by have := HAT.out; simp; omega)
            exact ⟨j2, q2, acc ++ [g], hlt.2.1, by omega, hlt.2.2.2, by rw [List.length_append, List.length_singleton]; omega, HR6.out.drewN n, hK6.drewN n, hQ6.keep ((Keep.refl [] _).drewN n) (by simp), HST2.out⟩
        · have HST2 : Hid (Except.ok (acc ++ [g], j2, q2) = R) := Lib.hid (by rw [← HST.out, if_pos ((HCB _ hx).1 (.inr rfl))])
          clear hx HST HCB HONE
          go_wp2_with (first
          | (go_at_call 26; refine HI.out.mono ?_; intro ev w4 hw; obtain ⟨a1, c1, a2, c2, rfl, hG4, hR4, hK4⟩ := FRetX.ok hw; clear hw; obtain ⟨XS, hXS⟩ := (HKq.out.keep hK4 (by simp; omega)).row; have HO4 := Lib.hid hXS; have HG4 := Lib.hid hG4; have HR4 := Lib.hid hR4; have HK4 := Lib.hid hK4; have hs4 := hK4.size; clear hG4 hR4 hK4 hXS)
          | (go_at_call 41; refine (HX.out _ (by exact HR6.out)).mono ?_; rintro e w' ⟨rfl, n, rfl⟩)
          | (at_builtin; refine wpList_append_lies _ rfl (.tmp 20) (.tmp 22) 23 rfl w.heap.size 26 i0 _ 9 144 (by kernel_rfl) hi0 hz0 hz1 hz2 rfl (by omega) (.slice ka acc.length kc) acc.length XS (by rfl) (by exact (HO4.out.alloc _).alloc _) ⟨w4.heap.size + 1, 0, none⟩ 1 1 [.int .i8 g.it.kind, .slice a1 g.kids.length c1, .string g.it.desc, .string g.it.value, .string g.it.start, .slice a2 g.it.mids.length c2, .string g.it.fin, .string g.it.rule, .bool g.it.dn] (by rfl) (by rfl) (World.news_of_block (cs := #[.int .i8 g.it.kind, .slice a1 g.kids.length c1, .string g.it.desc, .string g.it.value, .string g.it.start, .slice a2 g.it.mids.length c2, .string g.it.fin, .string g.it.rule, .bool g.it.dn]) (t := 26) (fr := (0, 0)) (alloc_is3 (w4.alloc (.cells #[.int .i8 g.it.kind, .slice a1 g.kids.length c1, .string g.it.desc, .string g.it.value, .string g.it.start, .slice a2 g.it.mids.length c2, .string g.it.fin, .string g.it.rule, .bool g.it.dn] 26)) _ _ (by simp))) (by simp [Value.oneCell']) (by omega) (by unfold maxLen; omega) (by omega) (by simp; omega) (w4.heap.size + 2) (by simp) ?_; intro gg cap w6 ho6 hgrow hat hlt6; have HO6 := Lib.hid ho6; have HGr := Lib.hid hgrow; have HAT := Lib.hid hat; have hR6 : Rx w6 b s j2 q2 := (hgrow.block b (by have := HR4.out.lt; simp; omega) (fun h => by have := own_ge HO4.out h.symm; omega)).trans ((alloc_lt _ (by have := HR4.out.lt; simp; omega)).trans ((alloc_lt _ HR4.out.lt).trans HR4.out)); have HR6 := Lib.hid hR6; clear ho6 hgrow hat hR6))
          go_ret2
          have hK6 : Keep [b] w w6 := (((HKw.out.trans HK4.out).alloc _).alloc _).grown HGr.out (fun k hk => .inr (own_ge HO4.out hk))
          have hQ6 : KidsR w6 w.heap.size w6.heap.size (acc ++ [g]) (.slice (some ⟨gg, 0, none⟩) (acc.length + 1) cap) := KidsR.app (W1 := (w4.alloc (.cells #[.int .i8 g.it.kind, .slice a1 g.kids.length c1, .string g.it.desc, .string g.it.value, .string g.it.start, .slice a2 g.it.mids.length c2, .string g.it.fin, .string g.it.rule, .bool g.it.dn] 26))) ((HKq.out.keep HK4.out (by simp; omega)).keep ((Keep.refl [] w4).alloc _) (by simp)) (HG4.out.keep ((Keep.refl [] w4).alloc _) (by simp)) hwr hs4 (by simp) (HO4.out.alloc _) HGr.out HO6.out (by have := HAT.out; simp; omega)
          rw [← HST2.out]
          exact ⟨_, rfl, hQ6.keep ((Keep.refl [] _).drewN n) (by simp), HR6.out.drewN n, hK6.drewN n⟩
end Go.Proofs.YtjmpcoedfoaebaaGreatDoor
