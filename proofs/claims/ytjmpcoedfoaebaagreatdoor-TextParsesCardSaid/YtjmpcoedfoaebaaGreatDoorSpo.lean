/- The laws' spoil: what a filter of its own making it writes over. -/
import Derived.Test.YtjmpcoedfoaebaaGreatDoorWgt
import Derived.Test.YtjmpcoedfoaebaaGreatDoorFltd
import Derived.Test.YtjmpcoedfoaebaaGreatDoorFpf
import Derived.Test.YtjmpcoedfoaebaaGreatDoorRva
import Derived.Test.YtjmpcoedfoaebaaGreatDoorSam
open Go Go.RowKit
namespace Go.Proofs.YtjmpcoedfoaebaaGreatDoor

/-- The blocks from one to another. -/
def span (lo hi : Nat) : List Nat := (List.range (hi - lo)).map (· + lo)
theorem mem_span {lo hi x : Nat} : x ∈ span lo hi ↔ lo ≤ x ∧ x < hi := by
  unfold span
  simp only [List.mem_map, List.mem_range]
  constructor
  · rintro ⟨y, h, rfl⟩; omega
  · rintro ⟨h1, h2⟩; exact ⟨x - lo, by omega, by omega⟩
/-- A row of one's own, whatever it holds. -/
def OwnE (w : World) (N : Nat) (T : TypeId) (z : Nat) (v : Value) (n : Nat) : Prop := ∃ xs, w.ownsRow N T z v n xs
theorem OwnE.keep {S : List Nat} {w w' : World} {N : Nat} {T : TypeId} {z : Nat} {v : Value} {n : Nat} (h : OwnE w N T z v n) (k : Keep S w w') (hS : ∀ g, v.ownBlock = some g → g ∉ S) : OwnE w' N T z v n := by
  obtain ⟨xs, h⟩ := h
  exact ⟨xs, owns_keep2 h k hS⟩
theorem OwnE.lt {w : World} {N : Nat} {T : TypeId} {z : Nat} {v : Value} {n : Nat} (h : OwnE w N T z v n) {k : Nat} (hk : v.ownBlock = some k) : N ≤ k ∧ k < w.heap.size := by
  obtain ⟨xs, h⟩ := h
  exact h.lt k hk
theorem OwnE.shape {w : World} {N : Nat} {T : TypeId} {z : Nat} {a : Option Addr} {n c : Nat} (h : OwnE w N T z (.slice a n c) n) (hn : 0 < n) : ∃ g, a = some ⟨g, 0, none⟩ := by
  obtain ⟨xs, _, ⟨_, h2⟩ | ⟨g, cap, cur, he, _⟩⟩ := h
  · omega
  · cases he; exact ⟨g, rfl⟩
theorem OwnE.cell {w : World} {N : Nat} {T : TypeId} {z g c n : Nat} (h : OwnE w N T z (.slice (some ⟨g, 0, none⟩) n c) n) {i : Nat} (hi : i < n * z) : (∃ u, w.cell? ⟨g, i, none⟩ = some u) ∧ ∀ j, w.frozen? ⟨g, j, none⟩ = false := by
  obtain ⟨xs, h1, ⟨h2, _⟩ | ⟨g', cap, cur, he, hb, hg, hn, hc, hs, ht⟩⟩ := h
  · cases h2
  · cases he
    have hle : n * z ≤ c * z := Nat.mul_le_mul_right z hn
    have hlt : i < cur.size := by omega
    exact ⟨⟨cur[i], by rw [cell_of hg, Array.getElem?_eq_getElem hlt]⟩, fun j => free_of hg j⟩
theorem OwnE.setCells {w : World} {N : Nat} {T : TypeId} {z g c n o : Nat} {vs : List Value} (h : OwnE w N T z (.slice (some ⟨g, 0, none⟩) n c) n) (ho : o + vs.length ≤ n * z) : OwnE (w.setCells g o vs) N T z (.slice (some ⟨g, 0, none⟩) n c) n := by
  obtain ⟨xs, h1, ⟨h2, _⟩ | ⟨g', cap, cur, he, hb, hg, hn, hc, hs, ht⟩⟩ := h
  · cases h2
  · cases he
    have hle : n * z ≤ c * z := Nat.mul_le_mul_right z hn
    obtain ⟨cur', e1, e2⟩ := setCells_block vs o w cur hg (by omega)
    have e3 := congrArg List.length e2
    simp only [List.length_append, List.length_take, List.length_drop, Array.length_toList] at e3
    exact ⟨cur'.toList.take (n * z), by rw [List.length_take, Array.length_toList]; omega, .inr ⟨g, c, cur', rfl, hb, e1, hn, hc, by omega, rfl⟩⟩
theorem weightK_take : ∀ (kids : List Flt) (k : Nat) (h : k < kids.length), weightK (kids.take (k + 1)) = weightK (kids.take k) + weight kids[k]
  | [], _, h => by simp at h
  | g :: gs, 0, _ => by simp [weightK]
  | g :: gs, k + 1, h => by
    have := weightK_take gs k (by simpa using h)
    simp only [List.take_succ_cons, List.getElem_cons_succ, weightK] at this ⊢
    omega
theorem weightK_le (kids : List Flt) (k : Nat) : weightK (kids.take k) ≤ weightK kids := by
  induction kids generalizing k with
  | nil => simp
  | cons g gs ih =>
    cases k with
    | zero => simp [weightK]
    | succ k => have := ih k; simp only [List.take_succ_cons, weightK]; omega
theorem len_weightK : ∀ kids : List Flt, kids.length ≤ weightK kids
  | [] => Nat.le_refl _
  | g :: gs => by
    have := len_weightK gs
    cases g with | mk it ks => simp only [List.length_cons, weightK, weight]; omega
/-- The cells of a row of parts of nine cells. -/
theorem flat_at {cs : Nat → List Value} : ∀ (n : Nat), (∀ i, i < n → (cs i).length = 9) → ((List.range n).flatMap cs).length = n * 9 ∧ ∀ i j u, i < n → (cs i)[j]? = some u → ((List.range n).flatMap cs)[i * 9 + j]? = some u
  | 0, _ => ⟨rfl, fun i j u h => by omega⟩
  | n + 1, h => by
    obtain ⟨h1, h2⟩ := flat_at n fun i hi => h i (by omega)
    rw [List.range_succ, List.flatMap_append]
    have h9 := h n (by omega)
    simp only [List.flatMap_cons, List.flatMap_nil, List.append_nil]
    refine ⟨by rw [List.length_append, h1, h9]; omega, fun i j u hi hu => ?_⟩
    have hj : j < (cs i).length := (List.getElem?_eq_some_iff.1 hu).1
    rcases Nat.lt_or_ge i n with hlt | hge
    · rw [List.getElem?_append_left (by rw [h1]; have := h i hi; omega)]
      exact h2 i j u hlt hu
    · obtain rfl : i = n := by omega
      rw [List.getElem?_append_right (by rw [h1]; omega), h1, Nat.add_sub_cancel_left]
      exact hu

/-- What a call of spoil has done. -/
def SpR (lo hi W : Nat) (w : World) (e : Ending) (w' : World) : Prop := ∃ n : Nat, 18 ≤ n ∧ n + 1 ≤ 20 * W ∧ e = .returned (.int .i64 n) ∧ Keep (span lo hi) w w'

/-- What stands firm while a filter is spoilt. -/
structure SpF (w : World) (lo hi : Nat) (kids : List Flt) (kv mv : Value) (L H : Nat → Nat) (cs : Nat → List Value) : Prop where
  hhi : hi ≤ w.heap.size
  hmh : ∀ k, mv.ownBlock = some k → lo ≤ k ∧ k < hi
  hkh : ∀ k, kv.ownBlock = some k → lo ≤ k ∧ k < hi
  hmk : ∀ k, kv.ownBlock = some k → mv.ownBlock ≠ some k
  hL : ∀ i, i < kids.length → lo ≤ L i ∧ L i ≤ H i ∧ H i ≤ hi
  hLL : ∀ i j, i < j → j < kids.length → H i ≤ L j
  hout : ∀ i k, i < kids.length → (kv.ownBlock = some k ∨ mv.ownBlock = some k) → k < L i ∨ H i ≤ k
  h9 : ∀ i, i < kids.length → (cs i).length = 9
/-- Where the first two loops stand: the kids from k on are as they were. -/
structure SpB (w : World) (lo hi : Nat) (kids : List Flt) (n2 : Nat) (kv mv : Value) (L H : Nat → Nat) (cs : Nat → List Value) (o : Obj) (k : Nat) (wr : World) : Prop where
  K : Keep (span lo hi) w wr
  B : wr.heap[w.heap.size]? = some o
  M : OwnE wr lo 9 1 mv n2
  Q : OwnE wr lo 26 9 kv kids.length
  C : ∀ kb, kv.ownBlock = some kb → ∀ i, k ≤ i → i < kids.length → ∀ j u, (cs i)[j]? = some u → wr.cell? ⟨kb, i * 9 + j, none⟩ = some u
  R : ∀ i (h : i < kids.length), k ≤ i → FltR wr (L i) (H i) kids[i] (cs i)
section
variable {w wr : World} {lo hi n2 : Nat} {kids : List Flt} {kv mv : Value} {L H : Nat → Nat} {cs : Nat → List Value} {o : Obj} {k : Nat}
/-- What is written lies in one block of the filter's own, but in none that is looked at later. -/
theorem SpB.on (F : SpF w lo hi kids kv mv L H cs) (h : SpB w lo hi kids n2 kv mv L H cs o k wr) {S : List Nat} {w' : World} {k' : Nat} (hk : k ≤ k') (hS : Keep S wr w') (h1 : ∀ x ∈ S, lo ≤ x ∧ x < hi) (hM : OwnE w' lo 9 1 mv n2) (hQ : OwnE w' lo 26 9 kv kids.length)
    (hC : ∀ kb, kv.ownBlock = some kb → ∀ i, k' ≤ i → i < kids.length → ∀ j u, (cs i)[j]? = some u → w'.cell? ⟨kb, i * 9 + j, none⟩ = some u) (hR : ∀ i, i < kids.length → k' ≤ i → ∀ x ∈ S, x < L i ∨ H i ≤ x) : SpB w lo hi kids n2 kv mv L H cs o k' w' where
  K := h.K.transTo hS fun x hx => .inl (mem_span.2 (h1 x hx))
  B := hS.heap h.B fun hm => by have := h1 _ hm; have := F.hhi; omega
  M := hM
  Q := hQ
  C := hC
  R i hi hk' := (h.R i hi (by omega)).keep hS (hR i hi hk')
theorem SpB.mid (F : SpF w lo hi kids kv mv L H cs) (h : SpB w lo hi kids n2 kv mv L H cs o k wr) {mb c : Nat} (hmv : mv = .slice (some ⟨mb, 0, none⟩) n2 c) {j : Nat} (hj : j < n2) (u : Value) : SpB w lo hi kids n2 kv mv L H cs o k (wr.setCell ⟨mb, j, none⟩ u) := by
  subst hmv
  have hb := F.hmh mb rfl
  refine h.on F (S := [mb]) (Nat.le_refl _) ((Keep.refl _ _).setCell _ _ (.inl (by simp))) (by simp; omega) (h.M.setCells (vs := [u]) (o := j) (by simp; omega)) (h.Q.keep ((Keep.refl [mb] wr).setCell _ _ (.inl (by simp))) (fun g hg => by have := F.hmk g hg; intro hx; rw [List.mem_singleton.1 hx] at this; exact this rfl)) ?_ ?_
  · intro kb hkb i hi hi' j' u' hu
    rw [World.cell?_of_block (w := wr) (setCell_ne _ (fun e => F.hmk kb hkb (by rw [show kb = mb from e]; rfl)))]
    exact h.C kb hkb i hi hi' j' u' hu
  · intro i hi _ x hx
    rw [List.mem_singleton.1 hx]
    exact F.hout i mb hi (.inr rfl)
theorem SpB.kid (F : SpF w lo hi kids kv mv L H cs) (h : SpB w lo hi kids n2 kv mv L H cs o k wr) (hk : k < kids.length) {w3 : World} (h3 : Keep (span (L k) (H k)) wr w3) : SpB w lo hi kids n2 kv mv L H cs o (k + 1) w3 ∧ ∀ kb, kv.ownBlock = some kb → ∀ i, k ≤ i → i < kids.length → ∀ j u, (cs i)[j]? = some u → w3.cell? ⟨kb, i * 9 + j, none⟩ = some u := by
  have hl := F.hL k hk
  have hC : ∀ kb, kv.ownBlock = some kb → ∀ i, k ≤ i → i < kids.length → ∀ j u, (cs i)[j]? = some u → w3.cell? ⟨kb, i * 9 + j, none⟩ = some u := fun kb hkb i hi hi' j u hu =>
    (h3.cell ⟨kb, i * 9 + j, none⟩ (h.Q.lt hkb).2 (fun hm => by have : L k ≤ kb ∧ kb < H k := mem_span.1 hm; have := F.hout k kb hk (.inl hkb); omega)).trans (h.C kb hkb i hi hi' j u hu)
  refine ⟨h.on F (by omega) h3 (fun x hx => by have := mem_span.1 hx; omega) (h.M.keep h3 fun g hg hm => ?_) (h.Q.keep h3 fun g hg hm => ?_) (fun kb hkb i hi hi' => hC kb hkb i (by omega) hi') ?_, hC⟩
  · have := mem_span.1 hm; have := F.hout k g hk (.inr hg); omega
  · have := mem_span.1 hm; have := F.hout k g hk (.inl hg); omega
  · intro i hi hk' x hx
    have := mem_span.1 hx
    have := F.hLL k i (by omega) hi
    omega
theorem SpB.row (F : SpF w lo hi kids kv mv L H cs) {n : Nat} (h : SpB w lo hi kids n2 kv mv L H cs o (n + 1) wr) (hn : n < kids.length) {kb c : Nat} (hkv : kv = .slice (some ⟨kb, 0, none⟩) kids.length c) {vs : List Value} (hvs : vs.length = 9) : SpB w lo hi kids n2 kv mv L H cs o (n + 1) (wr.setCells kb (n * 9) vs) := by
  subst hkv
  have hb := F.hkh kb rfl
  have hKs : Keep [kb] wr (wr.setCells kb (n * 9) vs) := setCells_keep (.inl (by simp)) _ _ _ (Keep.refl _ _)
  refine h.on F (S := [kb]) (Nat.le_refl _) hKs (by simp; omega) (h.M.keep hKs (fun g hg => by have := F.hmk kb rfl; intro hx; rw [List.mem_singleton.1 hx] at hg; exact this hg)) (h.Q.setCells (by omega)) ?_ ?_
  · intro kb' hkb' i hi hi' j u hu
    obtain rfl : kb = kb' := Option.some.inj hkb'
    obtain ⟨xs, h1, ⟨h2, _⟩ | ⟨g', cap, cur, he, hb', hg, hn', hc, hs, ht⟩⟩ := h.Q
    · cases h2
    · cases he
      obtain ⟨cur', e1, e2⟩ := setCells_block vs (n * 9) wr cur hg (by omega)
      have hold := h.C kb rfl i hi hi' j u hu
      rw [cell_of hg] at hold
      rw [cell_of e1, ← Array.getElem?_toList, e2, ← hold, ← Array.getElem?_toList]
      have hj : j < (cs i).length := (List.getElem?_eq_some_iff.1 hu).1
      have hl : (cur.toList.take (n * 9) ++ vs).length = n * 9 + 9 := by
        rw [List.length_append, List.length_take, Array.length_toList, hvs]; omega
      rw [List.getElem?_append_right (by rw [hl]; omega), hl, List.getElem?_drop, hvs]
      congr 1; omega
  · intro i hi _ x hx
    rw [List.mem_singleton.1 hx]
    exact F.hout i kb hi (.inl rfl)
end
/-- Where the last loop stands: two rows grow. -/
structure SpC (w : World) (lo hi n1 n2 : Nat) (lv mv : Value) (wr : World) : Prop where
  K : Keep (span lo hi) w wr
  Q : OwnE wr lo 26 9 lv n1
  M : OwnE wr lo 9 1 mv n2
  ne : ∀ k, lv.ownBlock = some k → mv.ownBlock ≠ some k
  bq : ∀ k, lv.ownBlock = some k → k < hi ∨ w.heap.size ≤ k
  bm : ∀ k, mv.ownBlock = some k → k < hi ∨ w.heap.size ≤ k
theorem SpC.grown {w wr w6 : World} {lo hi : Nat} {v : Value} {zo : Obj} (hK : Keep (span lo hi) w wr) (hlt : ∀ k, v.ownBlock = some k → lo ≤ k) (hb : ∀ k, v.ownBlock = some k → k < hi ∨ w.heap.size ≤ k) (hg : (wr.alloc zo).grownBy w6 v.ownBlock) : Keep (span lo hi) w w6 :=
  (hK.alloc zo).grown hg fun k hk => (hb k hk).elim (fun h => .inl (mem_span.2 ⟨hlt k hk, h⟩)) .inr
theorem grown_keep {wr w6 : World} {zo : Obj} {v : Value} {S : List Nat} (hg : (wr.alloc zo).grownBy w6 v.ownBlock) (hS : ∀ k, v.ownBlock = some k → k ∈ S) : Keep S wr w6 := ((Keep.refl S wr).alloc zo).grown hg fun k hk => .inl (hS k hk)
theorem own_list (v : Value) : ∃ S : List Nat, (∀ k, v.ownBlock = some k → k ∈ S) ∧ ∀ k ∈ S, v.ownBlock = some k := by
  cases hk : v.ownBlock with
  | none => exact ⟨[], (fun k h => by cases h), (fun k h => by cases h)⟩
  | some k => exact ⟨[k], (fun x h => by cases h; simp), (fun x h => by simp at h; rw [h])⟩
theorem SpC.appQ {w wr w6 : World} {lo hi n1 n2 gg cap : Nat} {lv mv : Value} {zo : Obj} {xs : List Value} (h : SpC w lo hi n1 n2 lv mv wr) (ho : w6.ownsRow lo 26 9 (.slice (some ⟨gg, 0, none⟩) (n1 + 1) cap) (n1 + 1) xs) (hg : (wr.alloc zo).grownBy w6 lv.ownBlock) (hat : lv.ownBlock = some gg ∨ gg = wr.heap.size + 1) :
    SpC w lo hi (n1 + 1) n2 (.slice (some ⟨gg, 0, none⟩) (n1 + 1) cap) mv w6 := by
  obtain ⟨S, hS1, hS2⟩ := own_list lv
  have hs := h.K.size
  refine ⟨SpC.grown h.K (fun k hk => (h.Q.lt hk).1) h.bq hg, ⟨_, ho⟩, h.M.keep (grown_keep hg hS1) (fun g hg' hm => h.ne g (hS2 g hm) hg'), fun k hk => ?_, fun k hk => ?_, h.bm⟩
  · obtain rfl : gg = k := Option.some.inj hk
    rcases hat with h' | h'
    · exact h.ne _ h'
    · intro hm; have := (h.M.lt hm).2; omega
  · obtain rfl : gg = k := Option.some.inj hk
    rcases hat with h' | h'
    · exact h.bq _ h'
    · exact .inr (by omega)
theorem SpC.appM {w wr w6 : World} {lo hi n1 n2 gg cap : Nat} {lv mv : Value} {zo : Obj} {xs : List Value} (h : SpC w lo hi n1 n2 lv mv wr) (ho : w6.ownsRow lo 9 1 (.slice (some ⟨gg, 0, none⟩) (n2 + 1) cap) (n2 + 1) xs) (hg : (wr.alloc zo).grownBy w6 mv.ownBlock) (hat : mv.ownBlock = some gg ∨ gg = wr.heap.size + 1) :
    SpC w lo hi n1 (n2 + 1) lv (.slice (some ⟨gg, 0, none⟩) (n2 + 1) cap) w6 := by
  obtain ⟨S, hS1, hS2⟩ := own_list mv
  have hs := h.K.size
  refine ⟨SpC.grown h.K (fun k hk => (h.M.lt hk).1) h.bm hg, h.Q.keep (grown_keep hg hS1) (fun g hg' hm => h.ne g hg' (hS2 g hm)), ⟨_, ho⟩, fun k hk hm => ?_, h.bq, fun k hk => ?_⟩
  · obtain rfl : gg = k := Option.some.inj hm
    rcases hat with h' | h'
    · exact h.ne _ hk h'
    · have := (h.Q.lt hk).2; omega
  · obtain rfl : gg = k := Option.some.inj hk
    rcases hat with h' | h'
    · exact h.bm _ h'
    · exact .inr (by omega)
theorem OwnE.slice {w : World} {N : Nat} {T : TypeId} {z : Nat} {v : Value} {n : Nat} (h : OwnE w N T z v n) : ∃ a c, v = .slice a n c := by
  obtain ⟨xs, h⟩ := h
  exact owns_slice h

set_option maxRecDepth 100000 in
set_option maxHeartbeats 4000000 in
theorem spoil_step (lo hi : Nat) (it : Itm) (kids : List Flt) (ka : Option Addr) (kc : Nat) (ma : Option Addr) (mc : Nat) (L H : Nat → Nat) (cs : Nat → List Value) (w : World) (hlh : lo ≤ hi) (hW : weight (.mk it kids) ≤ 4194304)
    (F : SpF w lo hi kids (.slice ka kids.length kc) (.slice ma it.mids.length mc) L H cs)
    (h0 : SpB w lo hi kids it.mids.length (.slice ka kids.length kc) (.slice ma it.mids.length mc) L H cs (.cells #[.int .i8 it.kind, .slice ka kids.length kc, .string it.desc, .string it.value, .string it.start, .slice ma it.mids.length mc, .string it.fin, .string it.rule, .bool it.dn] 26 (0, 0)) 0 (w.alloc (.cells #[.int .i8 it.kind, .slice ka kids.length kc, .string it.desc, .string it.value, .string it.start, .slice ma it.mids.length mc, .string it.fin, .string it.rule, .bool it.dn] 26)))
    (ih : ∀ i (h : i < kids.length) (vs : List Value) (W : World), H i ≤ W.heap.size → FltR W (L i) (H i) kids[i] vs → Calls Tryz.prog 15 #[.agg vs.toArray] W (SpR (L i) (H i) (weight kids[i]) W)) :
    Calls Tryz.prog 15 #[.agg #[.int .i8 it.kind, .slice ka kids.length kc, .string it.desc, .string it.value, .string it.start, .slice ma it.mids.length mc, .string it.fin, .string it.rule, .bool it.dn]] w (SpR lo hi (weight (.mk it kids)) w) := by
  have hwt : weight (.mk it kids) = 1 + it.mids.length + weightK kids := by simp only [weight]
  have hkl := len_weightK kids
  have H0 := Lib.hid h0
  have HF := Lib.hid F
  have HIH := Lib.hid ih
  have hml : it.mids.length ≤ 4194304 := by omega
  have hkl2 : kids.length ≤ 4194304 := by omega
  have hwk : weightK kids ≤ 4194304 := by omega
  have HWT := Lib.hid hwt
  have HWL := Lib.hid (fun k => weightK_le kids k)
  clear h0 F ih hwt hW
  go_enter Tryz.func15, Tryz.ntmps15
  go_wp2_with fail
  go_loopg [3] (it.mids.length) (fun g i wr => ∃ k : Nat, k ≤ it.mids.length ∧ it.mids.length ≤ g + k ∧ i = .int .i64 k ∧ Hid (SpB w lo hi kids it.mids.length (.slice ka kids.length kc) (.slice ma it.mids.length mc) L H cs (.cells #[.int .i8 it.kind, .slice ka kids.length kc, .string it.desc, .string it.value, .string it.start, .slice ma it.mids.length mc, .string it.fin, .string it.rule, .bool it.dn] 26 (0, 0)) 0 wr))
  case atStart => exact ⟨0, Nat.zero_le _, by omega, rfl, H0⟩
  case round =>
    obtain ⟨k, hk, hg, rfl, HS⟩ := hrel
    obtain ⟨x0, x1, x2, x3, x4, x5, x6, x7, x8, xf⟩ := nine HS.out.B
    by_cases hlt : k < it.mids.length
    · obtain ⟨mb, rfl⟩ := HS.out.M.shape (by omega)
      obtain ⟨⟨u, hu⟩, hfr⟩ := HS.out.M.cell (i := k) (by omega)
      have HS2 := Lib.hid (HS.out.mid HF.out rfl hlt (.string ⟨#[115, 112, 111, 105, 108, 116]⟩))
      go_wp2_with fail
      go_roundg (it.mids.length - (k + 1))
      case measure => omega
      case rel => exact ⟨k + 1, by omega, by omega, by go_num, HS2⟩
    · have hke : k = it.mids.length := by omega
      clear hke
      go_wp2_with fail
      clear x0 x1 x2 x3 x4 x5 x6 x7 x8 xf
      go_loopg [4, 5] (kids.length) (fun g n i wr => ∃ k N : Nat, k ≤ kids.length ∧ kids.length ≤ g + k ∧ n = .int .i64 N ∧ i = .int .i64 k ∧ N ≤ 83886080 ∧ Hid (N + k ≤ 20 * weightK (kids.take k)) ∧ Hid (SpB w lo hi kids it.mids.length (.slice ka kids.length kc) (.slice ma it.mids.length mc) L H cs (.cells #[.int .i8 it.kind, .slice ka kids.length kc, .string it.desc, .string it.value, .string it.start, .slice ma it.mids.length mc, .string it.fin, .string it.rule, .bool it.dn] 26 (0, 0)) k wr))
      case atStart => exact ⟨0, 0, Nat.zero_le _, by omega, rfl, rfl, by omega, Lib.hid (by simp [weightK]), HS⟩
      case round =>
        obtain ⟨k2, N, hk2, hg2, rfl, rfl, hN, HN, HS2⟩ := hrel
        obtain ⟨x0, x1, x2, x3, x4, x5, x6, x7, x8, xf⟩ := nine HS2.out.B
        by_cases hlt2 : k2 < kids.length
        · obtain ⟨kb, rfl⟩ := HS2.out.Q.shape (by omega)
          have hF2 := HS2.out.R k2 hlt2 (Nat.le_refl _)
          obtain ⟨kv2, mv2, hcs⟩ := hF2.nine
          have hfc := HS2.out.C kb rfl k2 (Nat.le_refl _) hlt2
          rw [hcs] at hF2 hfc
          have hHk := HF.out.hL k2 hlt2
          have HI := Lib.hid (HIH.out k2 hlt2 _ wr (by have := HS2.out.K.size; have := HF.out.hhi; omega) hF2)
          have HWK := Lib.hid (weightK_take kids k2 hlt2)
          have HKB := Lib.hid (fun w3 (h3 : Keep (span (L k2) (H k2)) wr w3) => HS2.out.kid HF.out hlt2 h3)
          have HCS := Lib.hid hcs
          have hwk2 := HWL.out (k2 + 1)
          rw [HWK.out] at hwk2
          obtain ⟨f0, f1, f2, f3, f4, f5, f6, f7, f8⟩ := nine_row hfc
          have hk1 : (k2 : Int) < (kids.length : Int) := by omega
          have hk0 : (0 : Int) ≤ (k2 : Int) := by omega
          obtain ⟨kid, hkid⟩ : ∃ kid, kids[k2] = kid := ⟨_, rfl⟩
          rw [hkid] at HI HWK HCS f0 f2 f3 f4 f6 f7 f8 hwk2
          clear hfc hcs hF2 hkid
          go_upto_region 10 with (go_at_call 15; refine HI.out.mono ?_; rintro e w3 ⟨n, hn18, hnw, rfl, hK3⟩; have hkb3 := (HKB.out w3 hK3).2 kb rfl k2 (Nat.le_refl _) hlt2; rw [HCS.out] at hkb3; obtain ⟨g0, g1, g2, g3, g4, g5, g6, g7, g8⟩ := nine_row hkb3; have HS3 := Lib.hid (HKB.out w3 hK3).1; have gf := (HS3.out.Q.cell (i := 0) (by omega)).2; clear hK3 hkb3)
          obtain ⟨z0, z1, z2, z3, z4, z5, z6, z7, z8, zf⟩ := nine HS3.out.B
          clear f0 f1 f2 f3 f4 f5 f6 f7 f8 x0 x1 x2 x3 x4 x5 x6 x7 x8 xf
          have HS4 := Lib.hid (HS3.out.row HF.out hlt2 rfl (vs := [.int .i8 99, .slice none 0 0, .string ⟨#[]⟩, .string ⟨#[]⟩, .string ⟨#[]⟩, .slice none 0 0, .string ⟨#[]⟩, .string ⟨#[]⟩, .bool false]) rfl)
          go_wp2_with fail
          go_roundg (kids.length - (k2 + 1))
          case measure => omega
          case rel => exact ⟨k2 + 1, N + n, by omega, by omega, by go_num, by go_num, by have := HN.out; omega, Lib.hid (by rw [HWK.out]; have := HN.out; omega), HS4⟩
        · have hke : k2 = kids.length := by omega
          have HN2 : Hid (N + kids.length ≤ 20 * weightK kids) := Lib.hid (by have := HN.out; rw [hke, List.take_length] at this; exact this)
          have HS5 : Hid (SpC w lo hi kids.length it.mids.length (.slice ka kids.length kc) (.slice ma it.mids.length mc) wr) := Lib.hid ⟨HS2.out.K, HS2.out.Q, HS2.out.M, HF.out.hmk, fun k hk => .inl (HF.out.hkh k hk).2, fun k hk => .inl (HF.out.hmh k hk).2⟩
          clear hke
          go_wp2_with fail
          clear x0 x1 x2 x3 x4 x5 x6 x7 x8 xf HS HS2 HN
          go_loopg [6, 7, 8] 9 (fun g l m i wr => ∃ k : Nat, k ≤ 9 ∧ 9 ≤ g + k ∧ i = .int .i64 k ∧ Hid (SpC w lo hi (kids.length + k) (it.mids.length + k) l m wr))
          case atStart => exact ⟨0, by omega, by omega, rfl, HS5⟩
          case round =>
            obtain ⟨k3, hk3, hg3, rfl, HC⟩ := hrel
            obtain ⟨la, lc, rfl⟩ := HC.out.Q.slice
            obtain ⟨na, nc, rfl⟩ := HC.out.M.slice
            have hws := HC.out.K.size
            have hhw := HF.out.hhi
            by_cases hlt3 : k3 < 9
            · obtain ⟨XS, hXS⟩ := HC.out.Q
              have HX := Lib.hid hXS
              clear hXS HS5
              obtain ⟨i0, hi0, hz0, hz1, hz2⟩ := info_partsV Tryz.infoFlt
              obtain ⟨j0, hj0, hy0, hy1, hy2⟩ := info_partsV Tryz.infoStr
              go_upto_region 17 with (at_builtin; refine wpList_append_lies _ rfl (.tmp 48) (.tmp 50) 23 rfl lo 26 i0 _ 9 144 (by kernel_rfl) hi0 hz0 hz1 hz2 rfl (by omega) (.slice la (kids.length + k3) lc) (kids.length + k3) XS (by rfl) (by exact HX.out.alloc _) ⟨wr.heap.size, 0, none⟩ 1 1 [.int .i8 98, .slice none 0 0, .string ⟨#[]⟩, .string ⟨#[]⟩, .string ⟨#[]⟩, .slice none 0 0, .string ⟨#[]⟩, .string ⟨#[]⟩, .bool false] (by rfl) (by rfl) (World.news_of_block (cs := #[.int .i8 98, .slice none 0 0, .string ⟨#[]⟩, .string ⟨#[]⟩, .string ⟨#[]⟩, .slice none 0 0, .string ⟨#[]⟩, .string ⟨#[]⟩, .bool false]) (t := 26) (fr := (0, 0)) (heap_alloc_new wr _)) (by simp [Value.oneCell']) (by omega) (by unfold maxLen; omega) (by omega) (by simp; omega) (wr.heap.size + 1) (by simp) ?_; intro gg cap w6 ho6 hgrow hat hlt6; have HC6 := Lib.hid (HC.out.appQ ho6 hgrow hat); clear ho6 hgrow hat hlt6)
              obtain ⟨YS, hYS⟩ := HC6.out.M
              have HY := Lib.hid hYS
              have hw6 := HC6.out.K.size
              clear hYS hi0 hz0 hz1 hz2
              go_wp2_with (at_builtin; refine wpList_append_lies _ rfl (.tmp 52) (.tmp 53) 24 rfl lo 9 j0 _ 1 16 (by kernel_rfl) hj0 hy0 hy1 hy2 rfl (by omega) (.slice na (it.mids.length + k3) nc) (it.mids.length + k3) YS (by rfl) (by exact HY.out.alloc _) ⟨w6.heap.size, 0, none⟩ 1 1 [.string ⟨#[109, 111, 114, 101]⟩] (by rfl) (by rfl) (World.news_of_block (cs := #[.string ⟨#[109, 111, 114, 101]⟩]) (t := 9) (fr := (0, 0)) (heap_alloc_new w6 _)) (by simp [Value.oneCell']) (by omega) (by unfold maxLen; omega) (by omega) (by simp; omega) (w6.heap.size + 1) (by simp) ?_; intro gg2 cap2 w7 ho7 hgrow hat hlt7; have HC7 := Lib.hid (HC6.out.appM ho7 hgrow hat); clear ho7 hgrow hat hlt7)
              go_roundg (9 - (k3 + 1))
              case measure => omega
              case rel => exact ⟨k3 + 1, by omega, by omega, by go_num, HC7⟩
            · have hke : k3 = 9 := by omega
              subst hke
              go_wp2_with fail
              go_ret
              exact ⟨N + (kids.length + 9) + (it.mids.length + 9), by omega, by rw [HWT.out]; have := HN2.out; omega, by rfl, HC.out.K⟩

theorem spoil_any : ∀ (n : Nat) (g : Flt) (lo hi : Nat) (vs : List Value) (w : World), weight g ≤ n → n ≤ 4194304 → lo ≤ hi → hi ≤ w.heap.size → FltR w lo hi g vs → Calls Tryz.prog 15 #[.agg vs.toArray] w (SpR lo hi (weight g) w) := by
  intro n
  induction n with
  | zero =>
    intro g lo hi vs w hn
    cases g with | mk it ks => simp only [weight] at hn; omega
  | succ n ih =>
    intro g lo hi vs w hn hn2 hlh hhi h
    cases h with
    | mk _ _ it kids kv mv L H cs hm hmh hk hkh hmk hL hLL hout hkid =>
      obtain ⟨ka, kc, rfl⟩ := owns_slice hk
      obtain ⟨ma, mc, rfl⟩ := owns_slice hm
      have h9 : ∀ i, i < kids.length → (cs i).length = 9 := fun i hi => (hkid i hi).len
      refine spoil_step lo hi it kids ka kc ma mc L H cs w hlh (by omega) ⟨hhi, fun k h => ⟨(hm.lt k h).1, hmh k h⟩, fun k h => ⟨(hk.lt k h).1, hkh k h⟩, hmk, hL, hLL, hout, h9⟩ ⟨(Keep.refl _ _).alloc _, alloc_at _ _, ⟨_, hm.alloc _⟩, ⟨_, hk.alloc _⟩, ?_, fun i hi _ => (hkid i hi).keep ((Keep.refl [] w).alloc _) (by simp)⟩ ?_
      · intro kb hkb i _ hi j u hu
        obtain ⟨ad, hka⟩ : ∃ ad : Addr, ka = some ad := by
          cases ka with
          | none => cases hkb
          | some ad => exact ⟨ad, rfl⟩
        subst hka
        obtain ⟨g, hg⟩ := OwnE.shape ⟨_, hk⟩ (by omega)
        obtain rfl : ad = ⟨g, 0, none⟩ := Option.some.inj hg
        obtain rfl : g = kb := Option.some.inj hkb
        have h1 := (hk.alloc (.cells #[.int .i8 it.kind, .slice (some ⟨g, 0, none⟩) kids.length kc, .string it.desc, .string it.value, .string it.start, .slice ma it.mids.length mc, .string it.fin, .string it.rule, .bool it.dn] 26)).cells (g := g) rfl (i * 9 + j) u ((flat_at kids.length h9).2 i j u hi hu)
        rw [Addr.add_mid, Nat.zero_add] at h1
        exact h1
      · intro i hi vs W h1 h2
        have h3 := weight_kid kids i hi
        have h4 := hL i hi
        simp only [weight] at hn
        exact ih kids[i] (L i) (H i) vs W (by omega) (by omega) h4.2.1 h1 h2

/-- A filter of the call's own is one that is read. -/
theorem FltR.toD {w : World} {lo hi : Nat} {g : Flt} {vs : List Value} (h : FltR w lo hi g vs) {H0 : Nat} (hH : hi ≤ H0) : FltD w H0 g vs := by
  induction h with
  | mk lo hi it kids kv mv L H cs hm hmh hk hkh hmk hL hLL hout hkid ih =>
    obtain ⟨ka, kc, rfl⟩ := owns_slice hk
    obtain ⟨ma, mc, rfl⟩ := owns_slice hm
    have h9 : ∀ i, i < kids.length → (cs i).length = 9 := fun i hi => (hkid i hi).len
    refine .mk it kids ka kc ma mc cs ?_ ?_ ?_ ?_ fun i hi' => ih i hi' (by have := hL i hi'; omega)
    · rcases hm.2 with ⟨_, h0⟩ | ⟨g, cap, cur, he, _⟩
      · exact .inl (List.length_eq_zero_iff.1 h0)
      · cases he
        have h1 := hmh g rfl
        refine .inr ⟨g, 0, rfl, by omega, fun k r hr => ?_⟩
        have h2 := hm.cells (g := g) rfl k (.string r) (by rw [List.getElem?_map, hr]; rfl)
        rw [Addr.add_mid] at h2
        exact h2
    · rcases hm.2 with ⟨_, h0⟩ | ⟨g, cap, cur, he, _, _, h1, h2, _⟩
      · omega
      · cases he; unfold maxLen at h2; omega
    · rcases hk.2 with ⟨_, h0⟩ | ⟨g, cap, cur, he, _, _, h1, h2, _⟩
      · omega
      · cases he; unfold maxLen at h2; omega
    · rcases hk.2 with ⟨_, h0⟩ | ⟨g, cap, cur, he, _⟩
      · exact .inl (List.length_eq_zero_iff.1 h0)
      · cases he
        have h1 := hkh g rfl
        refine .inr ⟨g, 0, rfl, by omega, fun i hi' j u hu => ?_⟩
        have h2 := hk.cells (g := g) rfl (i * 9 + j) u ((flat_at kids.length h9).2 i j u hi' hu)
        rw [Addr.add_mid] at h2
        rw [Nat.add_assoc]
        exact h2
end Go.Proofs.YtjmpcoedfoaebaaGreatDoor
