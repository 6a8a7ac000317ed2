/- What the rows list: 'Env' out of it; a world that meets it. A world that meets what the rows list; 'rosterlaw10.TextNames' for every such world: the row, the card. 'rosterlaw10.TextNames': true, for every world that the row admits: the row, and the tied card. -/
import Derived.Test.YtjmpcoedfoaebaaGreatDoorEnv
import Derived.Test.YtjmpcoedfoaebaaGreatDoorShelf
import Derived.Test.YtjmpcoedfoaebaaGreatDoorRows
import Derived.Lib.LaidCaseMet
import Derived.PinnedBridge
import Derived.LaidHandle
import Derived.Test.YtjmpcoedfoaebaaGreatDoorWkb
import Derived.Test.YtjmpcoedfoaebaaGreatDoorCards
import Derived.Test.YtjmpcoedfoaebaaGreatDoorTie
import Derived.Deep.DeepHandedRow
import Derived.Deep.DeepWitnessRowRef
import Derived.SevenTiedAt
import Derived.Stop.Joined
namespace Go.Proofs.YtjmpcoedfoaebaaGreatDoor
open Go Go.RowKit Go.Shelf

/-! ## One variable's place in the list -/
theorem laidVars_split {P : Program} {w : World} : ∀ {l l' : List (String × DataW Unit)} {ps : List MemPlace}, DataW.LaidVars P w (l ++ l') ps → ∃ p q, DataW.LaidVars P w l p ∧ DataW.LaidVars P w l' q ∧ ps = p ++ q
  | [], _, ps, h => ⟨[], ps, rfl, h, rfl⟩
  | (n, d) :: r, l', ps, h => by
    obtain ⟨g, t, cs, fuel, p, q, h1, h2, h3, h4, h5, rfl⟩ := h
    obtain ⟨p', q', h6, h7, rfl⟩ := laidVars_split h5
    exact ⟨_, q', ⟨g, t, cs, fuel, p, p', h1, h2, h3, h4, h6, rfl⟩, h7, by simp [List.append_assoc]⟩
theorem laidMet_swap {P : Program} {w : World} {a b c : List (String × DataW Unit)} (h : laidMet P ((a ++ b) ++ c) w) : laidMet P ((a ++ c) ++ b) w := by
  obtain ⟨ps, h1, h2, h3⟩ := h
  obtain ⟨p, q, h4, h5, rfl⟩ := laidVars_split h1
  obtain ⟨p1, p2, h6, h7, rfl⟩ := laidVars_split h4
  have hp : List.Perm ((p1 ++ p2) ++ q) ((p1 ++ q) ++ p2) := by
    rw [List.append_assoc, List.append_assoc]
    exact List.Perm.append_left p1 List.perm_append_comm
  exact ⟨_, LaidVars_append (LaidVars_append h6 h5) h7, hp.nodup_iff.1 h2, fun b off hb => h3 b off (hp.mem_iff.2 hb)⟩

theorem u8X : U8Extra Tryz.prog Tryz.lays260_ren := ⟨by kernel_rfl, by kernel_rfl, by kernel_rfl, by kernel_rfl, by kernel_rfl, by kernel_rfl, by kernel_rfl⟩
theorem caseX : CaseExtra Tryz.prog ⟨Tryz.lays274_ren.f, Tryz.lays274_ren.t, fun | 13 => 3 | n => n⟩ := ⟨by kernel_rfl, by kernel_rfl, by kernel_rfl, by kernel_rfl, by kernel_rfl, by kernel_rfl⟩
theorem lays274c : Go.Proofs.Lays.n274 Tryz.prog ⟨Tryz.lays274_ren.f, Tryz.lays274_ren.t, fun | 13 => 3 | n => n⟩ := { Tryz.lays274 with }
theorem sT : Tryz.prog.globalNamed "roster/text.signs" = some 1 := by kernel_rfl
theorem sTT : (Tryz.prog.globals[1]?).map (·.type) = some 105 := by kernel_rfl
theorem sC : Tryz.prog.cellsOf 9 = 1 := by kernel_rfl
theorem eT : Tryz.prog.globalNamed "errors.errorType" = some 0 := by kernel_rfl
theorem rT : (Tryz.prog.cutTypes.find? (·.1 == "internal/reflectlite.rtype")).map (·.2) = some 114 := by kernel_rfl
theorem oneRow : ((List.range Tryz.prog.types.size).filter fun t => Tryz.prog.rowNamed t [101, 114, 114, 111, 114]) = [33] := by kernel_rfl
theorem accept_eq : (Rows.laid_unicode_utf8_acceptRanges : DataW Unit) = Lib.acceptData := by kernel_rfl

/-- The list of every row of the seat. -/
def listed : List (String × DataW Unit) := [("unicode/utf8.acceptRanges", Rows.laid_unicode_utf8_acceptRanges), ("errors.errorType", Rows.laid_errors_errorType), ("unicode.asciiFold", Rows.laid_unicode_asciiFold), ("unicode.caseOrbit", Rows.laid_unicode_caseOrbit), ("roster/text.signs", Rows.laid_roster_text_signs), ("unicode.CaseRanges", Rows.laid_unicode_CaseRanges), ("unicode/utf8.first", Rows.laid_unicode_utf8_first)]
def plainListed : List (String × DataW Unit) := [("unicode/utf8.acceptRanges", Rows.laid_unicode_utf8_acceptRanges), ("unicode.asciiFold", Rows.laid_unicode_asciiFold), ("unicode.caseOrbit", Rows.laid_unicode_caseOrbit), ("roster/text.signs", Rows.laid_roster_text_signs), ("unicode.CaseRanges", Rows.laid_unicode_CaseRanges), ("unicode/utf8.first", Rows.laid_unicode_utf8_first)]
theorem filt1 : (listed.filter fun x => x.2.handleName?.isSome) = [("errors.errorType", Rows.laid_errors_errorType)] := rfl
theorem filt2 : (listed.filter fun x => x.2.handleName?.isNone) = plainListed := rfl

theorem signs_of {W : World} (h : Lib.VarReads Tryz.prog W "roster/text.signs" Rows.laid_roster_text_signs) (j : Nat) (hj : j < 10) :
    W.cell? ⟨1, j, none⟩ = some (.string (#[⟨#[]⟩, ⟨#[]⟩, ⟨#[]⟩, ⟨#[61]⟩, ⟨#[]⟩, ⟨#[62, 61]⟩, ⟨#[60, 61]⟩, ⟨#[61, 42]⟩, ⟨#[126, 61]⟩, ⟨#[58, 61]⟩].getD j ⟨#[]⟩)) := by
  obtain ⟨g, t, cs, fuel, p, hg, hty, hvar, hd⟩ := h
  obtain rfl := Option.some.inj (sT.symm.trans hg)
  obtain rfl := Option.some.inj (sTT.symm.trans hty)
  have hd' : DataW.trod (fun _ => ()) Tryz.prog W 0 (fun _ => true) false fuel 105 cs.toList = some (.agg [.lit (.string []), .lit (.string []), .lit (.string []), .lit (.string [61]), .lit (.string []), .lit (.string [62, 61]), .lit (.string [60, 61]), .lit (.string [61, 42]), .lit (.string [126, 61]), .lit (.string [58, 61])], p) := hd
  obtain ⟨fuel', d, q, hdi, he⟩ := Lib.array_elem Tryz.underlying105 hd' j hj
  rw [sC] at he
  obtain ⟨s, hs, hx, _⟩ := DataW.trod_string Tryz.underlying9 he
  have hl := at_of_take hs
  rw [Nat.mul_one] at hl
  rw [World.var?_cell hg hvar j, ← Array.getElem?_toList, hl]
  have hx1 : d = .lit (.string s.data.toList) := congrArg Prod.fst hx
  rw [hx1] at hdi
  have hb : ∀ l : List UInt8, s.data.toList = l → s = ⟨l.toArray⟩ := fun l h => by
    cases s with | mk a => simp only at h; rw [← h]
  have hy : ∀ l : List UInt8, (some (DataW.lit (.string l)) : Option (DataW Unit)) = some (.lit (.string s.data.toList)) → s = ⟨l.toArray⟩ := fun l h => by
    refine hb l ?_
    injection h with h
    injection h with h
    injection h with h
    exact h.symm
  match j, hj with
  | 0, _ => rw [hy _ hdi]; rfl
  | 1, _ => rw [hy _ hdi]; rfl
  | 2, _ => rw [hy _ hdi]; rfl
  | 3, _ => rw [hy _ hdi]; rfl
  | 4, _ => rw [hy _ hdi]; rfl
  | 5, _ => rw [hy _ hdi]; rfl
  | 6, _ => rw [hy _ hdi]; rfl
  | 7, _ => rw [hy _ hdi]; rfl
  | 8, _ => rw [hy _ hdi]; rfl
  | 9, _ => rw [hy _ hdi]; rfl

theorem cellLt {w : World} {a : Addr} {v : Value} (h : w.cell? a = some v) : a.block < w.heap.size := by
  rcases Nat.lt_or_ge a.block w.heap.size with h' | h'
  · exact h'
  · simp [World.cell?, Array.getElem?_eq_none h'] at h

theorem env_of_laid {W : World} (hL : laidMetH Tryz.prog listed W) (hsh : W.ShapedOpen Tryz.prog) (hlots : 8 ≤ W.heap.size) : Env W.heap.size W := by
  unfold laidMetH at hL
  rw [filt1] at hL
  obtain ⟨hP, hH⟩ : laidMet Tryz.prog (listed.filter fun x => x.2.handleName?.isNone) W ∧ handlesMet Tryz.prog [("errors.errorType", Rows.laid_errors_errorType)] W := hL
  rw [filt2] at hP
  refine ⟨Nat.le_refl _, hlots, ?_, ?_, Tryz.laysM219.s1_3 W hsh, ?_, signs_of (Lib.laidMet.reads hP (n := "roster/text.signs") (d := Rows.laid_roster_text_signs) (by simp [plainListed]))⟩
  · have h := Lib.laidMet.reads hP (n := "unicode.CaseRanges") (d := Rows.laid_unicode_CaseRanges) (by simp [plainListed])
    have h' : Lib.VarReads Tryz.prog W "unicode.CaseRanges" Lib.caseData := by rw [← Pinned.caseRanges_eq]; exact h
    obtain ⟨R, oR, cap, h1, h2⟩ := caseVar_of_reads lays274c Tryz.underlying191 caseX h'
    exact ⟨R, oR, cap, cellLt (h2 0 (by rw [Lib.caseA_size]; omega)).1, h1, h2⟩
  · have h3 := Lib.laidMet.reads hP (n := "unicode/utf8.first") (d := Rows.laid_unicode_utf8_first) (by simp [plainListed])
    have h4 := Lib.laidMet.reads hP (n := "unicode/utf8.acceptRanges") (d := Rows.laid_unicode_utf8_acceptRanges) (by simp [plainListed])
    rw [accept_eq] at h4
    have h3' : Lib.VarReads Tryz.prog W "unicode/utf8.first" Lib.firstData := by rw [← Pinned.utf8First_eq]; exact h3
    exact utf8Tabs_of_reads Tryz.lays260 u8X h3' h4
  · obtain ⟨name, u, ty, e1, e2, e3, e4, e5⟩ := hH _ (List.mem_singleton.2 rfl)
    have en : name = [101, 114, 114, 111, 114] := (Option.some.inj e1).symm
    subst en
    obtain rfl := Option.some.inj (rT.symm.trans e2)
    have hm : ty ∈ (List.range Tryz.prog.types.size).filter fun t => Tryz.prog.rowNamed t [101, 114, 114, 111, 114] := List.mem_filter.2 ⟨List.mem_range.2 e3, e4⟩
    rw [oneRow] at hm
    obtain rfl := List.mem_singleton.1 hm
    have hh : typeHandle Tryz.prog 33 = .pointer (some ⟨8, 33, none⟩) := by kernel_rfl
    rw [hh] at e5
    simpa using World.var?_cell eT e5 0

#print axioms env_of_laid
end Go.Proofs.YtjmpcoedfoaebaaGreatDoor

namespace Go.Proofs.YtjmpcoedfoaebaaGreatDoor
open Go Go.RowKit Go.Shelf

theorem ownK : ownKnob Tryz.prog.godebug = none := by kernel_rfl

def orbitCells : Array Value := match (Rows.laid_unicode_caseOrbit : DataW Unit) with
  | .slice l _ => (l.flatMap fun
    | .agg [.lit (.int .u16 a), .lit (.int .u16 b)] => [Value.int .u16 a, .int .u16 b]
    | _ => []).toArray
  | _ => #[]
def flatCells : DataW Unit → Array Value
  | .agg l => (l.map fun
    | .lit (.int k a) => Value.int k a
    | .lit (.string b) => .string ⟨b.toArray⟩
    | _ => .int .u8 0).toArray
  | _ => #[]

/-- THE WITNESS: the settled world with two blocks more, the seven listed variables laid. -/
noncomputable def laidWorld (os : Os) : World :=
  let N := (World.settled Tryz.prog os).heap.size
  let w0 := World.holding Tryz.prog os ⟨#[.cells orbitCells 179, .cells Lib.caseCells5 193], #[], []⟩
  let put (h : Array Obj) (g : Nat) (cs : Array Value) : Array Obj := h.modify g fun
    | .cells _ t frozen => .cells cs t frozen
    | o => o
  let h1 := put w0.heap 0 #[.iface 114 (.agg #[.pointer (some ⟨8, 33, none⟩)])]
  let h2 := put h1 1 (flatCells Rows.laid_roster_text_signs)
  let h3 := put h2 3 #[.slice (some ⟨N + 1, 0, none⟩) 336 336]
  let h4 := put h3 4 (flatCells Rows.laid_unicode_asciiFold)
  let h5 := put h4 5 #[.slice (some ⟨N, 0, none⟩) (orbitCells.size / 2) (orbitCells.size / 2)]
  let h6 := put h5 6 (Lib.firstTab.map fun z => Value.int .u8 z).toArray
  let h7 := put h6 7 ((List.range 16).flatMap fun i => [Value.int .u8 (Lib.accLo i), Value.int .u8 (Lib.accHi i)]).toArray
  { w0 with heap := h7 }

theorem laid_met (os : Os) (args : Array Value) : laidMetH Tryz.prog listed ((laidWorld os).forCall (fun _ _ => 0) ⟨#[], args, []⟩).memory := by
  refine laidMetH_of_parts ?_ (by kernel_rfl)
  rw [filt2]
  refine laidMet_swap (a := [("unicode/utf8.acceptRanges", Rows.laid_unicode_utf8_acceptRanges), ("unicode.asciiFold", Rows.laid_unicode_asciiFold), ("unicode.caseOrbit", Rows.laid_unicode_caseOrbit), ("roster/text.signs", Rows.laid_roster_text_signs)])
    (b := [("unicode/utf8.first", Rows.laid_unicode_utf8_first)]) (c := [("unicode.CaseRanges", Rows.laid_unicode_CaseRanges)]) ?_
  rw [show Rows.laid_unicode_CaseRanges = Lib.caseData from Pinned.caseRanges_eq]
  exact laidMet_with_case lays274c Tryz.underlying191 caseX
    (l := [("unicode/utf8.acceptRanges", Rows.laid_unicode_utf8_acceptRanges), ("unicode.asciiFold", Rows.laid_unicode_asciiFold), ("unicode.caseOrbit", Rows.laid_unicode_caseOrbit), ("roster/text.signs", Rows.laid_roster_text_signs), ("unicode/utf8.first", Rows.laid_unicode_utf8_first)])
    10 (by kernel_rfl) (by kernel_rfl) (by kernel_rfl) ((World.settled Tryz.prog default).heap.size + 1) 193 (of_decide_eq_true (by kernel_rfl)) (by kernel_rfl) (by kernel_rfl) (by kernel_rfl)
#print axioms laid_met
end Go.Proofs.YtjmpcoedfoaebaaGreatDoor

namespace Go.Proofs.YtjmpcoedfoaebaaGreatDoor
open Go Go.RowKit Go.Shelf Go.ChangeShapes Go.WideShapes

theorem Keep.kept {W W' : World} (h : Keep [] W W') (may : MemPlace → Prop) : W.keptBut W' may :=
  (show Below W.heap.size W W' from h.below).frame may

/-- All eight variables of the package level have their blocks. -/
theorem env_lots {W : World} (hL : laidMetH Tryz.prog listed W) : 8 ≤ W.heap.size := by
  unfold laidMetH at hL
  rw [filt1] at hL
  obtain ⟨hP, _⟩ : laidMet Tryz.prog (listed.filter fun x => x.2.handleName?.isNone) W ∧ handlesMet Tryz.prog [("errors.errorType", Rows.laid_errors_errorType)] W := hL
  rw [filt2] at hP
  have h3 := Lib.laidMet.reads hP (n := "unicode/utf8.first") (d := Rows.laid_unicode_utf8_first) (by simp [plainListed])
  have h4 := Lib.laidMet.reads hP (n := "unicode/utf8.acceptRanges") (d := Rows.laid_unicode_utf8_acceptRanges) (by simp [plainListed])
  rw [accept_eq] at h4
  have h3' : Lib.VarReads Tryz.prog W "unicode/utf8.first" Lib.firstData := by rw [← Pinned.utf8First_eq]; exact h3
  have ht := utf8Tabs_of_reads Tryz.lays260 u8X h3' h4
  have h := cellLt (ht.2 0 (by omega)).1
  exact h

theorem names_witness (os : Os) {H : Type} (enc : TypeId × Value → H) :
    (OpenSpec.ofChange Rows.textNamesSpec).preRow enc Tryz.prog Tryz.f6 Rows.textNamesRow.domain false Rows.textNamesRow.laid ((laidWorld os).forCall (fun _ _ => 0) ⟨#[], #[], []⟩).memory #[] := by
  have hw : (DataW.whole enc Tryz.prog ((laidWorld os).forCall (fun _ _ => 0) ⟨#[], #[], []⟩).memory Tryz.f6.params.toList (OpenSpec.ofChange Rows.textNamesSpec).vars false (#[] : Array Value).toList 8).map (fun x => (x.1, x.2.1)) =
      some ([], []) := by kernel_rfl
  obtain ⟨⟨x1, x2, x3⟩, hx, hx1⟩ := Option.map_eq_some_iff.1 hw
  simp only [Prod.mk.injEq] at hx1
  obtain ⟨rfl, rfl⟩ := hx1
  exact OpenSpec.preRow_of_cond 8 hx (by kernel_rfl) (fun k hk => by cases hk) (by kernel_rfl) (laid_met os _)

set_option maxRecDepth 100000 in
theorem names_lifted (os : Os) (started : os.Started) (H : Type) (enc : TypeId × Value → H) (F : Stop.Interp) :
    ReturnsInHanded {} Tryz.checked os 6 .any ((OpenSpec.ofChange Rows.textNamesSpec).preRow enc Tryz.prog Tryz.f6 Rows.textNamesRow.domain false Rows.textNamesRow.laid) (((OpenSpec.ofChange Rows.textNamesSpec).at F).post enc Tryz.prog Tryz.f6 false true false false) := by
  refine returnsInHanded_of_row (C := Tryz.checked) (s := OpenSpec.ofChange Rows.textNamesSpec) ownK started (by kernel_rfl) Tryz.func6
    (witness_row_atRef (enc := enc) (C := Tryz.checked) false (laidWorld os) #[] rfl (by kernel_rfl) (by kernel_rfl) (by kernel_rfl) (names_witness os enc)) ?_
  intro W base args ds gs before hval0 hW _ _ _ hL hsh _
  have hW' := hW
  obtain ⟨p, q, hA0, hV0, rfl, _, _⟩ := hW
  have hA : DataW.TrodAll enc Tryz.prog W 0 (fun _ => true) true [] args.toList ds p := hA0
  obtain ⟨hargs, rfl, rfl⟩ : args.toList = [] ∧ ds = [] ∧ p = [] := by
    cases hl : args.toList with
    | nil =>
      rw [hl] at hA
      cases ds with
      | nil => exact ⟨rfl, rfl, hA⟩
      | cons d r => exact absurd hA (by intro h; cases h)
    | cons a r => rw [hl] at hA; exact absurd hA (by intro h; cases h)
  obtain rfl : args = #[] := by
    cases args with | mk l => simp only at hargs; subst hargs; rfl
  obtain ⟨rfl, rfl⟩ := trodVars_none hV0
  have hlots : 8 ≤ W.heap.size := by
    have h := env_lots hL
    exact h
  have hE : Env W.heap.size W := env_of_laid hL hsh hlots
  refine (names_any W.heap.size W hE).mono ?_
  rintro e W' ⟨rfl, hK⟩
  have e1 : ((OpenSpec.ofChange Rows.textNamesSpec).at F).fn H ([] ++ []) = { results := [.lit (.bool true)], args := [] } := rfl
  refine ⟨_, rfl, _, _, _, [], [], [], hW', ?_, ?_, ?_, hK.kept _, fun h => by cases h⟩
  · rw [e1]; exact trodAll_mk1 (shut_bool Tryz.underlying4 true)
  · rw [e1]; exact hA
  · rw [e1]; rfl

theorem names_holds : Rows.TextNamesSaid :=
  OpenClaim.holds_of_cond 6 Tryz.f6 rfl rfl rfl rfl rfl rfl rfl ⟨rfl, rfl, rfl, rfl, rfl⟩ rfl rfl rfl rfl rfl (by kernel_rfl) Tryz.func6 (by kernel_rfl)
    (of_decide_eq_true (by kernel_rfl)) (by unfold Func.isWrapper; rw [if_neg (of_decide_eq_false (by kernel_rfl))]; exact ⟨rfl, rfl⟩)
    (fun os started H enc _ F0 => by rw [OpenClaim.pre_eq_preRow]; exact names_lifted os started H enc F0)

theorem names_card : Rows.TextNamesCardSaid :=
  Claim7.holds_tied_plain_at .later [] [.data, .handle, .data, .data, .data, .pinned, .pinned] true (true, "3c4e42ac31af41ccb66875d9be22d87a2b610bc7893e2643c67be9b43efa2274") true
    names_holds (fun _ h => by cases h) (by kernel_rfl) (fun _ h => by cases h) textNames_row_tie rfl ⟨rfl, rfl⟩ (by kernel_rfl) rfl
    (fun f fn hf hfn => by
      obtain rfl : f = 6 := Option.some.inj ((show Tryz.prog.funcNamed "roster/rosterlaw10.TextNames" = some 6 by kernel_rfl).symm.trans hf) |>.symm
      obtain rfl : fn = Tryz.f6 := (Option.some.inj (Tryz.func6.symm.trans hfn)).symm
      exact ⟨by kernel_rfl, fun j t ht => by
        have h : (#[] : Array TypeId)[j]? = some t := ht
        simp at h⟩)
    (by kernel_rfl)
#print axioms names_card
end Go.Proofs.YtjmpcoedfoaebaaGreatDoor
