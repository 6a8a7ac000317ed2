/- 'rosterlaw10.TextDescs': true, for every text and every world that the row admits: the walk, the row, the tied card. -/
import Derived.Test.YtjmpcoedfoaebaaGreatDoorNames
import Derived.Test.YtjmpcoedfoaebaaGreatDoorTold
import Derived.Test.YtjmpcoedfoaebaaGreatDoorSrx
import Derived.ProofKit
import Derived.ChangeMaps5
namespace Go.Proofs.YtjmpcoedfoaebaaGreatDoor
open Go Go.RowKit Go.Shelf Go.ChangeShapes Go.WideShapes
open Go.ChangeMaps (open_string shut_string)

theorem descX_eq (s : ByteArray) : descX s = descB s := rfl
theorem xDesc_env (s : ByteArray) (w : World) (hs : s.size ≤ maxLen) : Calls Tryz.prog 23 #[.string s] w (RetB w (descB s)) := (xDesc_any s w hs).mono fun _ _ h => ⟨h.1, h.2⟩

set_option maxHeartbeats 1000000 in
theorem descs_any (B : Nat) (s : ByteArray) (w : World) (hs : s.size ≤ maxLen) (hE : Env B w) : Calls Tryz.prog 5 #[.string s] w (RetB w true) := by
  have HD := Lib.hid (descB_any B s w hs hE)
  generalize hd : descB s = d at HD
  have HX : Hid (∀ W, Calls Tryz.prog 23 #[.string s] W (RetB W d)) := Lib.hid (fun W => by rw [← hd]; exact xDesc_env s W hs)
  have HE := Lib.hid hE
  clear hE hd
  cases d
  all_goals
    go_enter Tryz.func5, Tryz.ntmps5
    go_wp2_with (first
      | (go_at_call 22; refine HD.out.mono ?_; rintro e w1 ⟨rfl, hK1⟩)
      | (go_at_call 23; refine (HX.out _).mono ?_; rintro e w2 ⟨rfl, hK2⟩; have hE2 := (HE.out.keep0 hK1).keep0 hK2)
      | (go_at_call 16; refine (wakes_any B _ hE2).mono ?_; rintro e w3 ⟨rfl, hK3⟩))
    go_ret
    exact ⟨rfl, (hK1.trans0 hK2).trans0 hK3⟩

theorem descs_witness (os : Os) {H : Type} (enc : TypeId × Value → H) :
    (OpenSpec.ofChange Rows.textDescsSpec).preRow enc Tryz.prog Tryz.f5 Rows.textDescsRow.domain false Rows.textDescsRow.laid ((laidWorld os).forCall (fun _ _ => 0) ⟨#[], #[.string ⟨#[]⟩], []⟩).memory #[.string ⟨#[]⟩] := by
  have hw : (DataW.whole enc Tryz.prog ((laidWorld os).forCall (fun _ _ => 0) ⟨#[], #[.string ⟨#[]⟩], []⟩).memory Tryz.f5.params.toList (OpenSpec.ofChange Rows.textDescsSpec).vars false (#[.string ⟨#[]⟩] : Array Value).toList 8).map (fun x => (x.1, x.2.1)) =
      some ([.lit (.string [])], []) := by kernel_rfl
  obtain ⟨⟨x1, x2, x3⟩, hx, hx1⟩ := Option.map_eq_some_iff.1 hw
  simp only [Prod.mk.injEq] at hx1
  obtain ⟨rfl, rfl⟩ := hx1
  exact OpenSpec.preRow_of_cond 8 hx (by kernel_rfl) (fun k hk => by cases hk) (by kernel_rfl) (laid_met os _)

set_option maxRecDepth 100000 in
theorem descs_lifted (os : Os) (started : os.Started) (H : Type) (enc : TypeId × Value → H) (F : Stop.Interp) :
    ReturnsInHanded {} Tryz.checked os 5 .any ((OpenSpec.ofChange Rows.textDescsSpec).preRow enc Tryz.prog Tryz.f5 Rows.textDescsRow.domain false Rows.textDescsRow.laid) (((OpenSpec.ofChange Rows.textDescsSpec).at F).post enc Tryz.prog Tryz.f5 false true false false) := by
  refine returnsInHanded_of_row (C := Tryz.checked) (s := OpenSpec.ofChange Rows.textDescsSpec) ownK started (by kernel_rfl) Tryz.func5
    (witness_row_atRef (enc := enc) (C := Tryz.checked) false (laidWorld os) #[.string ⟨#[]⟩] rfl (by kernel_rfl) (by kernel_rfl) (by kernel_rfl) (descs_witness os enc)) ?_
  intro W base args ds gs before hval0 hW _ _ _ hL hsh _
  have hval : ∀ (j : Nat) t v, Tryz.f5.params[j]? = some t → args[j]? = some v → Value.okWide Tryz.prog W .any base t v := hval0
  have hW' := hW
  obtain ⟨p, q, hA0, hV0, rfl, _, _⟩ := hW
  have hA : DataW.TrodAll enc Tryz.prog W 0 (fun _ => true) true Tryz.f5.params.toList args.toList ds p := hA0
  rw [Tryz.params5] at hA hval
  obtain ⟨v0, d0, rfl, rfl, h0⟩ := trodAll_one hA
  obtain ⟨rfl, rfl⟩ := trodVars_none hV0
  obtain ⟨s, rfl, rfl, rfl, ws⟩ := open_string Tryz.underlying9 (hval 0 9 v0 rfl rfl) h0
  have hlots : 8 ≤ W.heap.size := by
    have h := env_lots hL
    exact h
  have hE : Env W.heap.size W := env_of_laid hL hsh hlots
  refine (descs_any W.heap.size s W ws hE).mono ?_
  rintro e W' ⟨rfl, hK⟩
  have e1 : ((OpenSpec.ofChange Rows.textDescsSpec).at F).fn H ([.lit (.string s.data.toList)] ++ []) = { results := [.lit (.bool true)], args := [.lit (.string s.data.toList)] } := rfl
  refine ⟨_, rfl, _, _, _, [], [], [], hW', ?_, ?_, ?_, hK.kept _, fun h => by cases h⟩
  · rw [e1]; exact trodAll_mk1 (shut_bool Tryz.underlying4 true)
  · rw [e1]; exact trodAll_mk1 (shut_string Tryz.underlying9 ws)
  · rw [e1]; rfl

theorem descs_holds : Rows.TextDescsSaid :=
  OpenClaim.holds_of_cond 5 Tryz.f5 rfl rfl rfl rfl rfl rfl rfl ⟨rfl, rfl, rfl, rfl, rfl⟩ rfl rfl rfl rfl rfl (by kernel_rfl) Tryz.func5 (by kernel_rfl)
    (of_decide_eq_true (by kernel_rfl)) (by unfold Func.isWrapper; rw [if_neg (of_decide_eq_false (by kernel_rfl))]; exact ⟨rfl, rfl⟩)
    (fun os started H enc _ F0 => by rw [OpenClaim.pre_eq_preRow]; exact descs_lifted os started H enc F0)

theorem descs_card : Rows.TextDescsCardSaid :=
  Claim7.holds_tied_plain_at .later [] [.data, .handle, .data, .data, .data, .pinned, .pinned] true (true, "3c4e42ac31af41ccb66875d9be22d87a2b610bc7893e2643c67be9b43efa2274") true
    descs_holds (fun _ h => by cases h) (by kernel_rfl) (fun _ h => by cases h) textDescs_row_tie rfl ⟨rfl, rfl⟩ (by kernel_rfl) rfl
    (fun f fn hf hfn => by
      obtain rfl : f = 5 := Option.some.inj ((show Tryz.prog.funcNamed "roster/rosterlaw10.TextDescs" = some 5 by kernel_rfl).symm.trans hf) |>.symm
      obtain rfl : fn = Tryz.f5 := (Option.some.inj (Tryz.func5.symm.trans hfn)).symm
      exact ⟨by kernel_rfl, fun j t ht => by
        rw [Tryz.params5] at ht
        have hm : t ∈ [9] := by simpa using Array.mem_of_getElem? ht
        have hall : ([9].all fun u => !Tryz.prog.wantsStandIn u) = true := by kernel_rfl
        exact (show Tryz.prog.wantsStandIn t = false by simpa using List.all_eq_true.1 hall t hm)⟩)
    (by kernel_rfl)
#print axioms descs_card
end Go.Proofs.YtjmpcoedfoaebaaGreatDoor
