/- 'rosterlaw10.TextDeep': true, in every world that the row admits: the row, the tied card. -/
import Derived.Test.YtjmpcoedfoaebaaGreatDoorNames
import Derived.Test.YtjmpcoedfoaebaaGreatDoorDps
import Derived.ProofKit
import Derived.ChangeMaps5
namespace Go.Proofs.YtjmpcoedfoaebaaGreatDoor
open Go Go.RowKit Go.Shelf Go.ChangeShapes Go.WideShapes

theorem textDeep_witness (os : Os) {H : Type} (enc : TypeId × Value → H) :
    (OpenSpec.ofChange Rows.textDeepSpec).preRow enc Tryz.prog Tryz.f10 Rows.textDeepRow.domain false Rows.textDeepRow.laid ((laidWorld os).forCall (fun _ _ => 0) ⟨#[], #[], []⟩).memory #[] := by
  have hw : (DataW.whole enc Tryz.prog ((laidWorld os).forCall (fun _ _ => 0) ⟨#[], #[], []⟩).memory Tryz.f10.params.toList (OpenSpec.ofChange Rows.textDeepSpec).vars false (#[] : Array Value).toList 8).map (fun x => (x.1, x.2.1)) =
      some ([], []) := by kernel_rfl
  obtain ⟨⟨x1, x2, x3⟩, hx, hx1⟩ := Option.map_eq_some_iff.1 hw
  simp only [Prod.mk.injEq] at hx1
  obtain ⟨rfl, rfl⟩ := hx1
  exact OpenSpec.preRow_of_cond 8 hx (by kernel_rfl) (fun k hk => by cases hk) (by kernel_rfl) (laid_met os _)

set_option maxRecDepth 100000 in
theorem textDeep_lifted (os : Os) (started : os.Started) (H : Type) (enc : TypeId × Value → H) (F : Stop.Interp) :
    ReturnsInHanded {} Tryz.checked os 10 .any ((OpenSpec.ofChange Rows.textDeepSpec).preRow enc Tryz.prog Tryz.f10 Rows.textDeepRow.domain false Rows.textDeepRow.laid) (((OpenSpec.ofChange Rows.textDeepSpec).at F).post enc Tryz.prog Tryz.f10 false true false false) := by
  refine returnsInHanded_of_row (C := Tryz.checked) (s := OpenSpec.ofChange Rows.textDeepSpec) ownK started (by kernel_rfl) Tryz.func10
    (witness_row_atRef (enc := enc) (C := Tryz.checked) false (laidWorld os) #[] rfl (by kernel_rfl) (by kernel_rfl) (by kernel_rfl) (textDeep_witness os enc)) ?_
  intro W base args ds gs before hval0 hW _ _ _ hL hsh _
  have hW' := hW
  obtain ⟨p, q, hA0, hV0, rfl, _, _⟩ := hW
  have hA : DataW.TrodAll enc Tryz.prog W 0 (fun _ => true) true [] args.toList ds p := hA0
  obtain ⟨hargs, rfl, rfl⟩ : args.toList = [] ∧ ds = [] ∧ p = [] := by
    cases hl : args.toList with
    | nil =>
      rw [hl] at hA
      cases ds with
      | nil => exact ⟨rfl, rfl, hA⟩
      | cons d r => exact absurd hA (by intro h; cases h)
    | cons a r => rw [hl] at hA; exact absurd hA (by intro h; cases h)
  obtain rfl : args = #[] := by
    cases args with | mk l => simp only at hargs; subst hargs; rfl
  obtain ⟨rfl, rfl⟩ := trodVars_none hV0
  have hlots : 8 ≤ W.heap.size := by
    have h := env_lots hL
    exact h
  have hE : Env W.heap.size W := env_of_laid hL hsh hlots
  refine (deep_any W.heap.size W hE).mono ?_
  rintro e W' ⟨rfl, hK⟩
  have e1 : ((OpenSpec.ofChange Rows.textDeepSpec).at F).fn H ([] ++ []) = { results := [.lit (.bool true)], args := [] } := rfl
  refine ⟨_, rfl, _, _, _, [], [], [], hW', ?_, ?_, ?_, hK.kept _, fun h => by cases h⟩
  · rw [e1]; exact trodAll_mk1 (shut_bool Tryz.underlying4 true)
  · rw [e1]; exact hA
  · rw [e1]; rfl

theorem textDeep_holds : Rows.TextDeepSaid :=
  OpenClaim.holds_of_cond 10 Tryz.f10 rfl rfl rfl rfl rfl rfl rfl ⟨rfl, rfl, rfl, rfl, rfl⟩ rfl rfl rfl rfl rfl (by kernel_rfl) Tryz.func10 (by kernel_rfl)
    (of_decide_eq_true (by kernel_rfl)) (by unfold Func.isWrapper; rw [if_neg (of_decide_eq_false (by kernel_rfl))]; exact ⟨rfl, rfl⟩)
    (fun os started H enc _ F0 => by rw [OpenClaim.pre_eq_preRow]; exact textDeep_lifted os started H enc F0)

theorem textDeep_card : Rows.TextDeepCardSaid :=
  Claim7.holds_tied_plain_at .later [] [.data, .handle, .data, .data, .data, .pinned, .pinned] true (true, "3c4e42ac31af41ccb66875d9be22d87a2b610bc7893e2643c67be9b43efa2274") true
    textDeep_holds (fun _ h => by cases h) (by kernel_rfl) (fun _ h => by cases h) textDeep_row_tie rfl ⟨rfl, rfl⟩ (by kernel_rfl) rfl
    (fun f fn hf hfn => by
      obtain rfl : f = 10 := Option.some.inj ((show Tryz.prog.funcNamed "roster/rosterlaw10.TextDeep" = some 10 by kernel_rfl).symm.trans hf) |>.symm
      obtain rfl : fn = Tryz.f10 := (Option.some.inj (Tryz.func10.symm.trans hfn)).symm
      exact ⟨by kernel_rfl, fun j t ht => by
        have h : (#[] : Array TypeId)[j]? = some t := ht
        simp at h⟩)
    (by kernel_rfl)
#print axioms textDeep_card
end Go.Proofs.YtjmpcoedfoaebaaGreatDoor
