/- 'rosterlaw10.TextPrints': true, for every filter and every world that the row admits: the row, the tied card. -/
import Derived.Test.YtjmpcoedfoaebaaGreatDoorNames
import Derived.Test.YtjmpcoedfoaebaaGreatDoorNiw
import Derived.ProofKit
import Derived.ChangeMaps5
import Derived.Carry
namespace Go.Proofs.YtjmpcoedfoaebaaGreatDoor
open Go Go.RowKit Go.Shelf Go.ChangeShapes Go.WideShapes
open Go.ChangeMaps (open_string shut_string)

theorem textPrints_witness (os : Os) {H : Type} (enc : TypeId × Value → H) :
    (OpenSpec.ofChange Rows.textPrintsSpec).preRow enc Tryz.prog Tryz.f4 Rows.textPrintsRow.domain false Rows.textPrintsRow.laid ((laidWorld os).forCall (fun _ _ => 0) ⟨#[], #[.agg #[.int .i8 0, .slice none 0 0, .string ⟨#[]⟩, .string ⟨#[]⟩, .string ⟨#[]⟩, .slice none 0 0, .string ⟨#[]⟩, .string ⟨#[]⟩, .bool false]], []⟩).memory #[.agg #[.int .i8 0, .slice none 0 0, .string ⟨#[]⟩, .string ⟨#[]⟩, .string ⟨#[]⟩, .slice none 0 0, .string ⟨#[]⟩, .string ⟨#[]⟩, .bool false]] := by
  have hw : (DataW.whole enc Tryz.prog ((laidWorld os).forCall (fun _ _ => 0) ⟨#[], #[.agg #[.int .i8 0, .slice none 0 0, .string ⟨#[]⟩, .string ⟨#[]⟩, .string ⟨#[]⟩, .slice none 0 0, .string ⟨#[]⟩, .string ⟨#[]⟩, .bool false]], []⟩).memory Tryz.f4.params.toList (OpenSpec.ofChange Rows.textPrintsSpec).vars false (#[.agg #[.int .i8 0, .slice none 0 0, .string ⟨#[]⟩, .string ⟨#[]⟩, .string ⟨#[]⟩, .slice none 0 0, .string ⟨#[]⟩, .string ⟨#[]⟩, .bool false]] : Array Value).toList 8).map (fun x => (x.1, x.2.1)) =
      some ([.agg [.lit (.int .i8 0), .nil, .lit (.string []), .lit (.string []), .lit (.string []), .nil, .lit (.string []), .lit (.string []), .lit (.bool false)]], []) := by kernel_rfl
  obtain ⟨⟨x1, x2, x3⟩, hx, hx1⟩ := Option.map_eq_some_iff.1 hw
  simp only [Prod.mk.injEq] at hx1
  obtain ⟨rfl, rfl⟩ := hx1
  exact OpenSpec.preRow_of_cond 8 hx (by kernel_rfl) (fun k hk => by cases hk) (by kernel_rfl) (laid_met os _)

theorem laidOutK : laidOutB Tryz.prog = true := by kernel_rfl

set_option maxRecDepth 100000 in
theorem textPrints_lifted (os : Os) (started : os.Started) (H : Type) (enc : TypeId × Value → H) (F : Stop.Interp) :
    ReturnsInHanded {} Tryz.checked os 4 .any ((OpenSpec.ofChange Rows.textPrintsSpec).preRow enc Tryz.prog Tryz.f4 Rows.textPrintsRow.domain false Rows.textPrintsRow.laid) (((OpenSpec.ofChange Rows.textPrintsSpec).at F).post enc Tryz.prog Tryz.f4 false true false false) := by
  refine returnsInHanded_of_row (C := Tryz.checked) (s := OpenSpec.ofChange Rows.textPrintsSpec) ownK started (by kernel_rfl) Tryz.func4
    (witness_row_atRef (enc := enc) (C := Tryz.checked) false (laidWorld os) #[.agg #[.int .i8 0, .slice none 0 0, .string ⟨#[]⟩, .string ⟨#[]⟩, .string ⟨#[]⟩, .slice none 0 0, .string ⟨#[]⟩, .string ⟨#[]⟩, .bool false]] rfl (by kernel_rfl) (by kernel_rfl) (by kernel_rfl) (textPrints_witness os enc)) ?_
  intro W base args ds gs before hval0 hW _ _ hsz0 hL hsh _
  have hval : ∀ (j : Nat) t v, Tryz.f4.params[j]? = some t → args[j]? = some v → Value.okWide Tryz.prog W .any base t v := hval0
  have hsz : (DataW.weightsEach Tryz.prog (Tryz.f4.params.toList ++ (OpenSpec.ofChange Rows.textPrintsSpec).bare.plain.varTypes Tryz.prog) (ds ++ gs)).all (· ≤ reachBytes) = true := hsz0
  have hW' := hW
  obtain ⟨p, q, hA0, hV0, rfl, _, _⟩ := hW
  have hA : DataW.TrodAll enc Tryz.prog W 0 (fun _ => true) true Tryz.f4.params.toList args.toList ds p := hA0
  rw [Tryz.params4] at hA hval hsz
  obtain ⟨v0, d0, rfl, rfl, h0⟩ := trodAll_one hA
  obtain ⟨rfl, rfl⟩ := trodVars_none hV0
  have hwt : ∀ n ∈ DataW.weightsEach Tryz.prog [26] (_ : List (DataW H)), n ≤ topLen := fun n hn => by
    have := List.all_eq_true.1 hsz n hn
    exact of_decide_eq_true this
  obtain ⟨cs, rfl, _⟩ := okWide_struct Tryz.underlying26 (hval 0 26 v0 rfl rfl)
  have h0k := h0
  obtain ⟨fuel, hf⟩ := h0
  obtain ⟨g, hF0, hz⟩ := open_flt fuel cs.toList _ hf (fun n hn => hwt n (List.mem_append_left _ hn))
  obtain ⟨a1, c1, a2, c2, hcs⟩ := hF0.nine
  have hF : FltD W W.heap.size g (nineP g a1 c1 a2 c2) := by rw [hcs] at hF0; exact hF0
  obtain rfl : cs = (nineP g a1 c1 a2 c2).toArray := Array.ext' (by rw [hcs]; rfl)
  clear hF0 hcs hf
  have hlots : 8 ≤ W.heap.size := by
    have h := env_lots hL
    exact h
  have hE : Env W.heap.size W := env_of_laid hL hsh hlots
  have hlt : ∀ x ∈ p, x.block < W.heap.size := fun x hx => by simpa using hW'.lt x (by simpa using hx)
  refine (prints_any W.heap.size W.heap.size g a1 c1 a2 c2 W (Nat.le_refl _) hF hz hE).mono ?_
  rintro e W' ⟨rfl, hK⟩
  have e1 : ((OpenSpec.ofChange Rows.textPrintsSpec).at F).fn H ([d0] ++ []) = { results := [.lit (.bool true)], args := [d0] } := rfl
  refine ⟨_, rfl, _, _, _, [], p, [], hW', ?_, ?_, ?_, hK.kept _, fun h => by cases h⟩
  · rw [e1]; exact trodAll_mk1 (shut_bool Tryz.underlying4 true)
  · rw [e1]; exact trodAll_mk1 (Below.trod laidOutK (by kernel_rfl) (of_decide_eq_true (by kernel_rfl)) h0k hK.below hlt)
  · rw [e1]; rfl

theorem textPrints_holds : Rows.TextPrintsSaid :=
  OpenClaim.holds_of_cond 4 Tryz.f4 rfl rfl rfl rfl rfl rfl rfl ⟨rfl, rfl, rfl, rfl, rfl⟩ rfl rfl rfl rfl rfl (by kernel_rfl) Tryz.func4 (by kernel_rfl)
    (of_decide_eq_true (by kernel_rfl)) (by unfold Func.isWrapper; rw [if_neg (of_decide_eq_false (by kernel_rfl))]; exact ⟨rfl, rfl⟩)
    (fun os started H enc _ F0 => by rw [OpenClaim.pre_eq_preRow]; exact textPrints_lifted os started H enc F0)

theorem textPrints_card : Rows.TextPrintsCardSaid :=
  Claim7.holds_tied_plain_at .later [] [.data, .handle, .data, .data, .data, .pinned, .pinned] true (true, "3c4e42ac31af41ccb66875d9be22d87a2b610bc7893e2643c67be9b43efa2274") true
    textPrints_holds (fun _ h => by cases h) (by kernel_rfl) (fun _ h => by cases h) textPrints_row_tie rfl ⟨rfl, rfl⟩ (by kernel_rfl) rfl
    (fun f fn hf hfn => by
      obtain rfl : f = 4 := Option.some.inj ((show Tryz.prog.funcNamed "roster/rosterlaw10.TextPrints" = some 4 by kernel_rfl).symm.trans hf) |>.symm
      obtain rfl : fn = Tryz.f4 := (Option.some.inj (Tryz.func4.symm.trans hfn)).symm
      exact ⟨by kernel_rfl, fun j t ht => by
        rw [Tryz.params4] at ht
        have hm : t ∈ [26] := by simpa using Array.mem_of_getElem? ht
        have hall : ([26].all fun u => !Tryz.prog.wantsStandIn u) = true := by kernel_rfl
        exact (show Tryz.prog.wantsStandIn t = false by simpa using List.all_eq_true.1 hall t hm)⟩)
    (by kernel_rfl)
#print axioms textPrints_card
end Go.Proofs.YtjmpcoedfoaebaaGreatDoor
