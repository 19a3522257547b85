/- The law ProfKnown: it returns true. The row lists the tables that the code reads; the card ties them to the program's text. -/
import Derived.Test.YtdkcjeaabbkdeaaGreatDoorZKnW
import Derived.Test.YtdkcjeaabbkdeaaGreatDoorZRowG
import Derived.Carry
import Derived.SevenTiedAt
set_option linter.unusedVariables false
set_option linter.unusedSimpArgs false
set_option linter.unnecessarySimpa false
set_option linter.unusedSectionVars false
namespace Go.Proofs.YtdkcjeaabbkdeaaGreatDoor
open Go.ChangeShapes Go.WideShapes Go.ChangeAt Go.RowKit Go.Shelf
set_option linter.unusedVariables false
set_option linter.unusedSimpArgs false
set_option maxRecDepth 100000 in
theorem known_lifted (os : Os) (started : os.Started) (H : Type) (enc : TypeId × Value → H) :
    ReturnsInHanded {} Tryz.checked os 10 .any (fun w args => (Rows.profKnownSpec.pre enc Tryz.prog Tryz.f10 [] false w args ∧ laidMetH Tryz.prog laidL w) ∧ sizedMet enc Tryz.prog Tryz.f10 (OpenSpec.ofChange Rows.profKnownSpec) false w args)
      (Rows.profKnownSpec.post enc Tryz.prog Tryz.f10 false true false false) := by
  refine returnsInHanded_of_change_and (C := Tryz.checked) (X := fun w _ => laidMetH Tryz.prog laidL w) (fun _ _ _ hh h => h.of_heap hh) ownP started (by kernel_rfl) Tryz.func10
    (ChangeSpec.witness_shaped (enc := enc) (C := Tryz.checked) (os := os) (X := fun w _ => laidMetH Tryz.prog laidL w) false (World.doorLaid Tryz.prog 95 os) #[] 8 rfl (World.shaped_of_RefB (by kernel_rfl) (by kernel_rfl)) (by kernel_rfl) (by kernel_rfl) (by kernel_rfl) (door_met os _)) ?_
  intro W base args ds gs before hval0 hW _ _ hL _
  have hW' := hW
  obtain ⟨p, q, hA0, hV, rfl, hfz, hnd⟩ := hW
  have hA : DataW.TrodAll enc Tryz.prog W 0 (fun _ => true) true Tryz.f10.params.toList args.toList ds p := hA0
  rw [Tryz.params10] at hA
  obtain ⟨rfl, rfl, rfl⟩ := trodAll_none hA
  obtain ⟨rfl, rfl⟩ := trodVars_none hV
  clear hA0 hval0
  refine (law_known W (allG_of hL)).mono fun e W' ⟨he, hb⟩ => ?_
  subst he
  exact ⟨_, rfl, [], [], [] ++ [], [], [], [], hW', trodAll_mk1 (shut_bool Tryz.underlying4 _), trodAll_mk0, rfl, hb.frame _, fun h => by cases h⟩
theorem known_unf : Tryz.pinned.checked.prog.unfollowed 10 = true := by kernel_rfl
theorem known_c0 : Rows.profKnownRow.wf (OpenSpec.ofChange Rows.profKnownSpec) = true := by kernel_rfl
theorem known_c9 : (Rows.profKnownRow.inPlace == Tryz.pinned.checked.prog.inPlace 10) = true := by kernel_rfl
theorem known_c12 : (Rows.profKnownRow.named == Tryz.pinned.checked.prog.varsNamed 10) = true := by kernel_rfl
theorem known_c22 : (Rows.profKnownRow.plainKeys == Tryz.pinned.checked.prog.plainKeys) = true := by kernel_rfl
theorem known_c26 : (Rows.profKnownRow.lifted == Tryz.pinned.checked.prog.liftsFinal) = true := by kernel_rfl
theorem known_c27 : (Tryz.pinned.checked.prog.make == some Rows.profKnownRow.make) = true := by kernel_rfl
theorem known_closed : joinedFacts Tryz.pinned.checked.prog 10 Tryz.f10 Rows.profKnownSpec Rows.profKnownRow = true := by
  unfold joinedFacts
  exact (band (band (band (band (band (band (band (band (band (band (band (band (band (band (band (band (band (band (band (band (band (band (band (band (band (band (band (band (band (band (band known_c0 prog_c1) prog_c2) (by kernel_rfl)) (by kernel_rfl)) (by kernel_rfl)) (by kernel_rfl)) (by kernel_rfl)) (by kernel_rfl)) known_c9) (by rw [known_unf]; rfl)) (by unfold Program.recurses; rw [known_unf]; rfl)) known_c12) (by kernel_rfl)) (by kernel_rfl)) (by kernel_rfl)) (by kernel_rfl)) (by kernel_rfl)) (by kernel_rfl)) (by kernel_rfl)) (by kernel_rfl)) (by kernel_rfl)) known_c22) (by kernel_rfl)) prog_c24) prog_c25) known_c26) known_c27) (by kernel_rfl)) (by kernel_rfl)) (by kernel_rfl)) (by kernel_rfl))
theorem known_named : Tryz.pinned.checked.prog.funcNamed Rows.profKnownRow.func = some 10 := by kernel_rfl
theorem known_func : Tryz.pinned.checked.prog.funcs[10]? = some Tryz.f10 := Tryz.func10
theorem known_inst : Tryz.f10.isInstance Tryz.pinned.checked.prog Rows.profKnownRow.origin Rows.profKnownRow.targs := of_decide_eq_true (by kernel_rfl)
theorem known_wrap : Tryz.f10.isWrapper Tryz.pinned.checked.prog Rows.profKnownRow.wrapper Rows.profKnownRow.mainSum := by unfold Func.isWrapper; first | (rw [if_pos (by decide +kernel)]; kernel_rfl) | (rw [if_neg (by decide +kernel)]; exact ⟨rfl, rfl⟩)
theorem known_lift (os : Os) (started : os.Started) (H : Type) (enc : TypeId × Value → H) : ReturnsInHanded Rows.profKnownRow.assume Tryz.pinned.checked os 10 .any (Rows.profKnownRow.pre enc Tryz.pinned.checked.prog Tryz.f10 (OpenSpec.ofChange Rows.profKnownSpec)) (Rows.profKnownSpec.post enc Tryz.pinned.checked.prog Tryz.f10 Rows.profKnownRow.apart Rows.profKnownRow.fresh Rows.profKnownRow.handsOn Rows.profKnownRow.again) := known_lifted os started H enc
theorem profKnown_said : Rows.ProfKnownSaid :=
  OpenClaim.holds_of_wide 10 Tryz.f10 rfl rfl rfl rfl rfl rfl rfl ⟨rfl, rfl, rfl, rfl, rfl⟩ rfl rfl rfl rfl rfl known_named known_func known_closed known_inst known_wrap (fun os started H enc _ => known_lift os started H enc)
theorem known_plain (f : FuncId) (fn : Func) (hf : Tryz.pinned.checked.prog.funcNamed Rows.profKnownRow.func = some f) (hfn : Tryz.pinned.checked.prog.funcs[f]? = some fn) :
    true = Tryz.pinned.checked.prog.looks [] ∧ ∀ (j : Nat) t, fn.params[j]? = some t → Tryz.pinned.checked.prog.wantsStandIn t = false := by
  obtain rfl : f = 10 := Option.some.inj (known_named.symm.trans hf) |>.symm
  obtain rfl : fn = Tryz.f10 := (Option.some.inj (known_func.symm.trans hfn)).symm
  refine ⟨by kernel_rfl, fun j t ht => ?_⟩
  rw [Tryz.params10] at ht
  simp at ht
theorem known_wf : Rows.profKnownRow.wfByText (OpenSpec.ofChange Rows.profKnownSpec) = true := by kernel_rfl
theorem known_goes : false = Rows.profKnownRow.goesBy Tryz.pinned.checked.prog := by kernel_rfl
/-- The card. -/
theorem profKnown_card : Rows.ProfKnownCardSaid :=
  Claim7.holds_tied_plain_at .later [] [.data, .data, .data, .sentinel, .sentinel, .funcs, .data, .data, .data, .funcsDeep] true (true, "2840bd1dea59425f3c1017161ec9298680b29d3a186cc757cab9535e6b832389") true profKnown_said (fun _ h => by cases h) known_wf (fun _ h => by cases h) profKnown_row_tie rfl ⟨rfl, rfl⟩ prog_main rfl known_plain known_goes

end Go.Proofs.YtdkcjeaabbkdeaaGreatDoor
