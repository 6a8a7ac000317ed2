/- 'rosterlaw10.TextParses', the walk: for every text it answers true. -/
import Derived.Test.YtjmpcoedfoaebaaGreatDoorRpq
import Derived.Test.YtjmpcoedfoaebaaGreatDoorSpo
import Derived.Test.YtjmpcoedfoaebaaGreatDoorGud
import Derived.Test.YtjmpcoedfoaebaaGreatDoorWkb
open Go Go.RowKit
namespace Go.Proofs.YtjmpcoedfoaebaaGreatDoor

def zeroIt : Itm := ⟨0, noText, noText, noText, [], noText, noText, false⟩
def zeroFlt : Flt := .mk zeroIt []
/-- The filter of an answer of Parse; its fault, three zeros if there is none. -/
def fltOf : Except (Int × Nat × ByteArray) Flt → Flt
  | .ok g => g
  | .error _ => zeroFlt
def faultOf : Except (Int × Nat × ByteArray) Flt → Int × Nat × ByteArray
  | .ok _ => (0, 0, noText)
  | .error f => f
theorem FltR.zero (w : World) (lo hi : Nat) : FltR w lo hi zeroFlt (nineOf (.slice none 0 0) (.slice none 0 0) zeroIt) :=
  .mk lo hi zeroIt [] _ _ (fun _ => 0) (fun _ => 0) (fun _ => []) (World.ownsRow_nil _ _ _ _) (fun _ h => by cases h) (World.ownsRow_nil _ _ _ _) (fun _ h => by cases h) (fun _ h => by cases h) (fun _ h => by cases h) (fun _ _ _ h => by cases h) (fun _ _ h => by cases h) (fun _ h => by cases h)
/-- An error that tells a fault, or none. -/
def ErrV (w : World) (v : Value) (f : Int × Nat × ByteArray) : Prop := (v = .nilIface ∧ f = (0, 0, noText)) ∨ (f.1 ≠ 0 ∧ FaultAt w v f.1 f.2.1 f.2.2)
theorem ErrV.keep0 {w w' : World} {v : Value} {f : Int × Nat × ByteArray} (h : ErrV w v f) (k : Keep [] w w') : ErrV w' v f := h.imp id fun h => ⟨h.1, h.2.keep0 k⟩
theorem gd_parse {s : ByteArray} {f : Int × Nat × ByteArray} (h : parseP s = .error f) : f.1 ≠ 0 := by
  unfold parseP at h
  split at h
  · cases h; decide
  · cases hf : filterP s 64 0 0 with
    | error e =>
      rw [hf] at h; cases h
      exact (gd_filter 64 (Nat.zero_le _) (Nat.zero_le _) _ hf).2.2
    | ok t =>
      have hl := filterP_ok (Nat.zero_le _) (Nat.zero_le _) (show filterP s 64 0 0 = .ok (t.1, t.2.1, t.2.2) from hf)
      rw [hf] at h
      dsimp only at h
      split at h
      · cases h
        exact (gd_stuck (α := Nat) hl.2.1 _ rfl).2.2
      · cases h
theorem parse_weight (s : ByteArray) : weight (fltOf (parseP s)) ≤ 1048577 := by
  unfold parseP
  split
  · show weight zeroFlt ≤ _; simp [zeroFlt, zeroIt, weight, weightK]
  · cases hf : filterP s 64 0 0 with
    | error e => show weight zeroFlt ≤ _; simp [zeroFlt, zeroIt, weight, weightK]
    | ok t =>
      have h0 : filterP s 64 0 0 = .ok (t.1, t.2.1, t.2.2) := hf
      have hl := filterP_ok (Nat.zero_le _) (Nat.zero_le _) h0
      have hw := filterP_w (Nat.zero_le _) (Nat.zero_le _) h0
      dsimp only
      split
      · show weight zeroFlt ≤ _; simp [zeroFlt, zeroIt, weight, weightK]
      · show weight t.1 ≤ _; omega
/-- What a call of the program's Parse has done, whatever the text. -/
def PaR (w : World) (r : Except (Int × Nat × ByteArray) Flt) (e : Ending) (w' : World) : Prop :=
  ∃ a1 c1 a2 c2 v, e = .returned (.tuple #[.agg #[.int .i8 (fltOf r).it.kind, .slice a1 (fltOf r).kids.length c1, .string (fltOf r).it.desc, .string (fltOf r).it.value, .string (fltOf r).it.start, .slice a2 (fltOf r).it.mids.length c2, .string (fltOf r).it.fin, .string (fltOf r).it.rule, .bool (fltOf r).it.dn], v]) ∧
    FltR w' w.heap.size w'.heap.size (fltOf r) (nineOf (.slice a1 (fltOf r).kids.length c1) (.slice a2 (fltOf r).it.mids.length c2) (fltOf r).it) ∧ ErrV w' v (faultOf r) ∧ Keep [] w w'
theorem parse_all (B : Nat) (s : ByteArray) (w : World) (hE : Env B w) : Calls Tryz.prog 12 #[.string s] w (PaR w (parseP s)) := by
  refine (parse_any B s w hE).mono ?_
  intro e w' h
  cases hp : parseP s with
  | error f =>
    rw [hp] at h
    obtain ⟨fb, rfl, hF, hK⟩ := h
    exact ⟨none, 0, none, 0, _, rfl, FltR.zero _ _ _, .inr ⟨gd_parse hp, hF⟩, hK⟩
  | ok g =>
    rw [hp] at h
    obtain ⟨a1, n1, c1, a2, n2, c2, rfl, hG, hK⟩ := h
    obtain ⟨⟨b1, d1, h1⟩, b2, d2, h2⟩ := hG.slices
    cases h1
    cases h2
    exact ⟨a1, c1, a2, c2, _, rfl, hG, .inl ⟨rfl, rfl⟩, hK⟩
/-- What a call of the reference's Parse has done, whatever the text. -/
def PaX (w : World) (r : Except (Int × Nat × ByteArray) Flt) (e : Ending) (w' : World) : Prop :=
  ∃ a1 c1 a2 c2, e = .returned (.tuple #[.agg #[.int .i8 (fltOf r).it.kind, .slice a1 (fltOf r).kids.length c1, .string (fltOf r).it.desc, .string (fltOf r).it.value, .string (fltOf r).it.start, .slice a2 (fltOf r).it.mids.length c2, .string (fltOf r).it.fin, .string (fltOf r).it.rule, .bool (fltOf r).it.dn], .agg #[.int .i64 (faultOf r).1, .int .i64 (faultOf r).2.1, .string (faultOf r).2.2]]) ∧
    FltR w' w.heap.size w'.heap.size (fltOf r) (nineOf (.slice a1 (fltOf r).kids.length c1) (.slice a2 (fltOf r).it.mids.length c2) (fltOf r).it) ∧ Keep [] w w'
theorem xparse_all (s : ByteArray) (w : World) (hs : s.size ≤ maxLen) : Calls Tryz.prog 11 #[.string s] w (PaX w (parseP s)) := by
  refine (xParse_any s w hs).mono ?_
  intro e w' h
  cases hp : parseP s with
  | error f =>
    rw [hp] at h
    obtain ⟨rfl, hK⟩ := h
    exact ⟨none, 0, none, 0, rfl, FltR.zero _ _ _, hK⟩
  | ok g =>
    rw [hp] at h
    obtain ⟨a1, c1, a2, c2, rfl, hG, hK⟩ := h
    exact ⟨a1, c1, a2, c2, rfl, hG, hK⟩
theorem told_all (B : Nat) (v : Value) (f : Int × Nat × ByteArray) (w : World) (hE : Env B w) (h : ErrV w v f) : Calls Tryz.prog 13 #[v] w (ToldR w f.1 f.2.1 f.2.2) := by
  rcases h with ⟨rfl, rfl⟩ | ⟨h1, fb, rfl, h2⟩
  · exact told_nil w
  · exact told_hit B fb f.1 f.2.1 f.2.2 w hE h1 h2
theorem same_own {w : World} {l1 h1 l2 h2 : Nat} {g : Flt} {vs us : List Value} (a : FltR w l1 h1 g vs) (b : FltR w l2 h2 g us) (ha : h1 ≤ w.heap.size) (hb : h2 ≤ w.heap.size) : Calls Tryz.prog 14 #[.agg vs.toArray, .agg us.toArray] w (RetB w true) :=
  xsame_any w.heap.size w.heap.size (weight g) g vs us w (Nat.le_refl _) (Nat.le_refl _) (Nat.le_refl _) (a.toD ha) (b.toD hb)

/-- The nine cells of a filter's value. -/
def nineA (g : Flt) (a1 : Option Addr) (c1 : Nat) (a2 : Option Addr) (c2 : Nat) : List Value := nineOf (.slice a1 g.kids.length c1) (.slice a2 g.it.mids.length c2) g.it
def faultA (f : Int × Nat × ByteArray) : List Value := [.int .i64 f.1, .int .i64 f.2.1, .string f.2.2]
/-- A filter in a variable, its own blocks in an interval below. -/
structure BoxF (W : World) (b lo hi : Nat) (g : Flt) (a1 : Option Addr) (c1 : Nat) (a2 : Option Addr) (c2 : Nat) : Prop where
  X : W.heap[b]? = some (.cells (nineA g a1 c1 a2 c2).toArray 26 (0, 0))
  G : FltR W lo hi g (nineA g a1 c1 a2 c2)
  le : lo ≤ hi
  lt : hi ≤ b
theorem BoxF.keep {S : List Nat} {W W' : World} {b lo hi : Nat} {g : Flt} {a1 : Option Addr} {c1 : Nat} {a2 : Option Addr} {c2 : Nat} (h : BoxF W b lo hi g a1 c1 a2 c2) (k : Keep S W W') (hS : ∀ x ∈ S, x < lo ∨ (hi ≤ x ∧ x ≠ b)) : BoxF W' b lo hi g a1 c1 a2 c2 :=
  ⟨k.heap h.X fun hm => by have := hS _ hm; have := h.le; have := h.lt; omega, h.G.keep k fun x hx => by have := hS x hx; omega, h.le, h.lt⟩
theorem BoxF.keep0 {W W' : World} {b lo hi : Nat} {g : Flt} {a1 : Option Addr} {c1 : Nat} {a2 : Option Addr} {c2 : Nat} (h : BoxF W b lo hi g a1 c1 a2 c2) (k : Keep [] W W') : BoxF W' b lo hi g a1 c1 a2 c2 := h.keep k (by simp)
theorem BoxF.size {W : World} {b lo hi : Nat} {g : Flt} {a1 : Option Addr} {c1 : Nat} {a2 : Option Addr} {c2 : Nat} (h : BoxF W b lo hi g a1 c1 a2 c2) : b < W.heap.size := lt_of_block h.X
def BoxE (W : World) (b : Nat) (f : Int × Nat × ByteArray) : Prop := W.heap[b]? = some (.cells (faultA f).toArray 29 (0, 0))
theorem BoxE.keep0 {W W' : World} {b : Nat} {f : Int × Nat × ByteArray} (h : BoxE W b f) (k : Keep [] W W') : BoxE W' b f := k.heap h (by simp)

set_option maxRecDepth 100000 in
set_option maxHeartbeats 4000000 in
theorem parses_any (B : Nat) (s : ByteArray) (w : World) (hs : s.size ≤ maxLen) (hE : Env B w) : Calls Tryz.prog 3 #[.string s] w (RetB w true) := by
  have HE := Lib.hid hE
  have HX := Lib.hid (xparse_all s w hs)
  have HP := Lib.hid (fun W (h : Env B W) => parse_all B s W h)
  have hwt := parse_weight s
  obtain ⟨g, hg⟩ : ∃ g, fltOf (parseP s) = g := ⟨_, rfl⟩
  obtain ⟨f, hf⟩ : ∃ f, faultOf (parseP s) = f := ⟨_, rfl⟩
  unfold PaX at HX
  unfold PaR at HP
  rw [hg] at HX HP hwt
  rw [hf] at HX HP
  clear hE hg hf
  go_enter Tryz.func3, Tryz.ntmps3
  go_upto_region 2 with (go_at_call 11; refine HX.out.mono ?_; rintro e w1 ⟨a1, c1, a2, c2, rfl, hG1, hK1⟩; have HG1 := Lib.hid hG1; have HK1 := Lib.hid hK1; clear hG1 hK1)
  obtain ⟨W1, hW1⟩ : ∃ W1, W1 = (w1.alloc (.cells (nineA g a1 c1 a2 c2).toArray 26)).alloc (.cells (faultA f).toArray 29) := ⟨_, rfl⟩
  have hk : Keep [] w1 W1 := by rw [hW1]; exact ((Keep.refl [] w1).alloc _).alloc _
  have HB3 : Hid (BoxF W1 w1.heap.size w.heap.size w1.heap.size g a1 c1 a2 c2) := Lib.hid ⟨by rw [hW1]; exact (alloc_lt _ (by simp)).trans (alloc_at _ _), HG1.out.keep hk (by simp), HK1.out.size, Nat.le_refl _⟩
  have HB4 : Hid (BoxE W1 (w1.heap.size + 1) f) := Lib.hid (by rw [hW1]; exact alloc_is3 (w1.alloc _) _ _ (by simp))
  have HKA := Lib.hid (HK1.out.trans hk)
  have hz1 : w1.heap.size + 1 < W1.heap.size := by rw [hW1]; simp
  unfold nineA faultA nineOf at hW1
  rw [← hW1]
  clear hW1 hk HG1 HK1 HX
  go_upto_region 3 with (go_at_call 12; refine (HP.out _ (HE.out.keep0 HKA.out)).mono ?_; rintro e w2 ⟨p1, q1, p2, q2, v2, rfl, hG2, hV2, hK2⟩; have HG2 := Lib.hid hG2; have HK2 := Lib.hid hK2; have HV2 := Lib.hid hV2; clear hG2 hK2 hV2)
  obtain ⟨W2, hW2⟩ : ∃ W2, W2 = w2.alloc (.cells (nineA g p1 q1 p2 q2).toArray 26) := ⟨_, rfl⟩
  have hk : Keep [] w2 W2 := by rw [hW2]; exact (Keep.refl [] w2).alloc _
  have HB5 : Hid (BoxF W2 w2.heap.size W1.heap.size w2.heap.size g p1 q1 p2 q2) := Lib.hid ⟨by rw [hW2]; exact alloc_at _ _, HG2.out.keep hk (by simp), HK2.out.size, Nat.le_refl _⟩
  have HKb := Lib.hid (HK2.out.trans hk)
  have HB3b := Lib.hid (HB3.out.keep0 HKb.out)
  have HB4b := Lib.hid (HB4.out.keep0 HKb.out)
  have HV2b := Lib.hid (HV2.out.keep0 hk)
  have HKB := Lib.hid (HKA.out.trans HKb.out)
  have hz2 : w2.heap.size < W2.heap.size := by rw [hW2]; simp
  have hz2' := HK2.out.size
  unfold nineA nineOf at hW2
  rw [← hW2]
  clear hW2 hk HG2 HK2 HV2 HB3 HB4 HKA HKb
  go_upto_region 4 with (go_at_call 12; refine (HP.out _ (HE.out.keep0 HKB.out)).mono ?_; rintro e w3 ⟨r1, t1, r2, t2, v3, rfl, hG3, hV3, hK3⟩; have HG3 := Lib.hid hG3; have HK3 := Lib.hid hK3; have HV3 := Lib.hid hV3; clear hG3 hK3 hV3)
  obtain ⟨W3, hW3⟩ : ∃ W3, W3 = w3.alloc (.cells (nineA g r1 t1 r2 t2).toArray 26) := ⟨_, rfl⟩
  have hk : Keep [] w3 W3 := by rw [hW3]; exact (Keep.refl [] w3).alloc _
  have HB7 : Hid (BoxF W3 w3.heap.size W2.heap.size w3.heap.size g r1 t1 r2 t2) := Lib.hid ⟨by rw [hW3]; exact alloc_at _ _, HG3.out.keep hk (by simp), HK3.out.size, Nat.le_refl _⟩
  have HKc := Lib.hid (HK3.out.trans hk)
  have HB3c := Lib.hid (HB3b.out.keep0 HKc.out)
  have HB4c := Lib.hid (HB4b.out.keep0 HKc.out)
  have HB5c := Lib.hid (HB5.out.keep0 HKc.out)
  have HV2c := Lib.hid (HV2b.out.keep0 HKc.out)
  have HV3c := Lib.hid (HV3.out.keep0 hk)
  have HKC := Lib.hid (HKB.out.trans HKc.out)
  have hz3 : w3.heap.size < W3.heap.size := by rw [hW3]; simp
  have hz3' := HK3.out.size
  unfold nineA nineOf at hW3
  rw [← hW3]
  clear hW3 hk HG3 HK3 HV3 HB3b HB4b HB5 HV2b HKB HKc HP
  have HT4 := Lib.hid (told_all B v2 f W3 (HE.out.keep0 HKC.out) HV2c.out)
  go_upto_region 5 with (go_at_call 13; refine HT4.out.mono ?_; rintro e w4 ⟨rfl, hK4⟩; have HK4 := Lib.hid hK4; clear hK4)
  obtain ⟨W4, hW4⟩ : ∃ W4, W4 = w4.alloc (.cells (faultA f).toArray 29) := ⟨_, rfl⟩
  have hk : Keep [] w4 W4 := by rw [hW4]; exact (Keep.refl [] w4).alloc _
  have HB9 : Hid (BoxE W4 w4.heap.size f) := Lib.hid (by rw [hW4]; exact alloc_at _ _)
  have HKd := Lib.hid (HK4.out.trans hk)
  have HKD := Lib.hid (HKC.out.trans HKd.out)
  unfold faultA at hW4
  rw [← hW4]
  clear hW4 hk HK4 HT4
  have HT5 := Lib.hid (told_all B v3 f W4 (HE.out.keep0 HKD.out) (HV3c.out.keep0 HKd.out))
  go_upto_region 6 with (go_at_call 13; refine HT5.out.mono ?_; rintro e w5 ⟨rfl, hK5⟩; have HK5 := Lib.hid hK5; clear hK5)
  obtain ⟨W5, hW5⟩ : ∃ W5, W5 = w5.alloc (.cells (faultA f).toArray 29) := ⟨_, rfl⟩
  have hk : Keep [] w5 W5 := by rw [hW5]; exact (Keep.refl [] w5).alloc _
  have HB11 : Hid (BoxE W5 w5.heap.size f) := Lib.hid (by rw [hW5]; exact alloc_at _ _)
  have HKe := Lib.hid (HKd.out.trans (HK5.out.trans hk))
  have HB9e := Lib.hid (HB9.out.keep0 (HK5.out.trans hk))
  have HB3e := Lib.hid (HB3c.out.keep0 HKe.out)
  have HB4e := Lib.hid (HB4c.out.keep0 HKe.out)
  have HB5e := Lib.hid (HB5c.out.keep0 HKe.out)
  have HB7e := Lib.hid (HB7.out.keep0 HKe.out)
  have HKE := Lib.hid (HKC.out.trans HKe.out)
  unfold faultA at hW5
  rw [← hW5]
  clear hW5 hk HK5 HT5 HKd HKD HB9 HB3c HB4c HB5c HB7 HV2c HV3c HKC HKe
  have HS1 := Lib.hid (same_own HB5e.out.G HB3e.out.G (by have := HB5e.out.lt; have := HB5e.out.size; omega) (by have := HB3e.out.lt; have := HB3e.out.size; omega))
  have HS2 := Lib.hid (fun (W : World) (h7 : BoxF W w3.heap.size W2.heap.size w3.heap.size g r1 t1 r2 t2) (h3 : BoxF W w1.heap.size w.heap.size w1.heap.size g a1 c1 a2 c2) => same_own h7.G h3.G (by have := h7.lt; have := h7.size; omega) (by have := h3.lt; have := h3.size; omega))
  have HSP := Lib.hid (fun (W : World) (h5 : BoxF W w2.heap.size W1.heap.size w2.heap.size g p1 q1 p2 q2) => spoil_any (weight g) g W1.heap.size w2.heap.size _ W (Nat.le_refl _) (by omega) h5.le (by have := h5.lt; have := h5.size; omega) h5.G)
  have HW := Lib.hid (fun W (h : Env B W) => wakes_any B W h)
  unfold nineA nineOf at HS1 HS2 HSP
  obtain ⟨u0, u1, u2, uf⟩ := three HB9e.out
  obtain ⟨n0, n1, n2, nf⟩ := three HB11.out
  obtain ⟨m0, m1, m2, mf⟩ := three HB4e.out
  obtain ⟨x0, x1, x2, x3, x4, x5, x6, x7, x8, xf⟩ := nine HB5e.out.X
  obtain ⟨y0, y1, y2, y3, y4, y5, y6, y7, y8, yf⟩ := nine HB3e.out.X
  clear uf nf mf xf yf
  go_upto_region 8 with (first
    | (go_at_call 14; (with_reducible refine HS1.out.mono ?_); rintro e w6 ⟨rfl, hK6⟩; have HK6 := Lib.hid hK6; have HB3f := Lib.hid (HB3e.out.keep0 hK6); have HB7f := Lib.hid (HB7e.out.keep0 hK6); clear hK6 x0 x1 x2 x3 x4 x5 x6 x7 x8 y0 y1 y2 y3 y4 y5 y6 y7 y8; obtain ⟨x0, x1, x2, x3, x4, x5, x6, x7, x8, xf⟩ := nine HB7f.out.X; obtain ⟨y0, y1, y2, y3, y4, y5, y6, y7, y8, yf⟩ := nine HB3f.out.X)
    | (go_at_call 14; refine (HS2.out _ HB7f.out HB3f.out).mono ?_; rintro e w7 ⟨rfl, hK7⟩; have HK7 := Lib.hid (HK6.out.trans hK7); clear hK7))
  have HB5g := Lib.hid (HB5e.out.keep0 HK7.out)
  have HB3g := Lib.hid (HB3e.out.keep0 HK7.out)
  have HB7g := Lib.hid (HB7e.out.keep0 HK7.out)
  have HKG := Lib.hid (HKE.out.trans HK7.out)
  clear x0 x1 x2 x3 x4 x5 x6 x7 x8 xf y0 y1 y2 y3 y4 y5 y6 y7 y8 yf u0 u1 u2 n0 n1 n2 m0 m1 m2 HS1
  obtain ⟨x0, x1, x2, x3, x4, x5, x6, x7, x8, xf⟩ := nine HB5g.out.X
  go_upto_region 9 with (go_at_call 15; refine (HSP.out _ HB5g.out).mono ?_; rintro e w8 ⟨n, hn18, hnw, rfl, hK8⟩; have HK8 := Lib.hid hK8; clear hK8)
  clear x0 x1 x2 x3 x4 x5 x6 x7 x8 xf
  have HB3h := Lib.hid (HB3g.out.keep HK8.out (fun x hx => by have := mem_span.1 hx; omega))
  have HB7h := Lib.hid (HB7g.out.keep HK8.out (fun x hx => by have := mem_span.1 hx; omega))
  have HKH : Hid (Keep [] w w8) := Lib.hid (HKG.out.transTo HK8.out (fun x hx => .inr (by have := mem_span.1 hx; have := HB3e.out.le; omega)))
  have hn : (18 : Int) ≤ (n : Int) := by omega
  obtain ⟨x0, x1, x2, x3, x4, x5, x6, x7, x8, xf⟩ := nine HB7h.out.X
  obtain ⟨y0, y1, y2, y3, y4, y5, y6, y7, y8, yf⟩ := nine HB3h.out.X
  clear xf yf
  go_wp2_with (first
    | (go_at_call 14; refine (HS2.out _ HB7h.out HB3h.out).mono ?_; rintro e w9 ⟨rfl, hK9⟩; have HK9 := Lib.hid (HKH.out.trans hK9); clear hK9)
    | (go_at_call 16; refine (HW.out _ (HE.out.keep0 HK9.out)).mono ?_; rintro e w10 ⟨rfl, hK10⟩; have HK10 := Lib.hid hK10; clear hK10))
  go_ret
  exact ⟨rfl, HK9.out.trans HK10.out⟩
end Go.Proofs.YtjmpcoedfoaebaaGreatDoor
