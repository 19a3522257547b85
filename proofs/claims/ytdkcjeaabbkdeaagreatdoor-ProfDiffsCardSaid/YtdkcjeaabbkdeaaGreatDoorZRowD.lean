/- The law ProfDiffs: for every two lists of numbers and every number it returns true, and its arguments read as they did. The row lists the tables that the code reads; the card ties them to the program's text. -/
import Derived.Test.YtdkcjeaabbkdeaaGreatDoorZLawE
import Derived.Test.YtdkcjeaabbkdeaaGreatDoorZArgI
import Derived.Test.YtdkcjeaabbkdeaaGreatDoorZRowG
import Derived.Carry
import Derived.SevenTiedAt
set_option linter.unusedVariables false
set_option linter.unusedSimpArgs false
set_option linter.unnecessarySimpa false
set_option linter.unusedSectionVars false
namespace Go.Proofs.YtdkcjeaabbkdeaaGreatDoor
open Go.ChangeShapes Go.WideShapes Go.ChangeAt Go.RowKit Go.Shelf
set_option linter.unusedVariables false
set_option linter.unusedSimpArgs false
set_option maxRecDepth 100000 in
theorem diffs_lifted (os : Os) (started : os.Started) (H : Type) (enc : TypeId × Value → H) :
    ReturnsInHanded {} Tryz.checked os 9 .any (fun w args => (Rows.profDiffsSpec.pre enc Tryz.prog Tryz.f9 [] false w args ∧ laidMetH Tryz.prog laidL w) ∧ sizedMet enc Tryz.prog Tryz.f9 (OpenSpec.ofChange Rows.profDiffsSpec) false w args)
      (Rows.profDiffsSpec.post enc Tryz.prog Tryz.f9 false true false false) := by
  refine returnsInHanded_of_change_and (C := Tryz.checked) (X := fun w _ => laidMetH Tryz.prog laidL w) (fun _ _ _ hh h => h.of_heap hh) ownP started (by kernel_rfl) Tryz.func9
    (ChangeSpec.witness_shaped (enc := enc) (C := Tryz.checked) (os := os) (X := fun w _ => laidMetH Tryz.prog laidL w) false (World.doorLaid Tryz.prog 95 os) #[.slice none 0 0, .slice none 0 0, .int .i64 0] 8 rfl (World.shaped_of_RefB (by kernel_rfl) (by kernel_rfl)) (by kernel_rfl) (by kernel_rfl) (by kernel_rfl) (door_met os _)) ?_
  intro W base args ds gs before hval0 hW _ _ hL _
  have hval : ∀ (j : Nat) t v, Tryz.f9.params[j]? = some t → args[j]? = some v → Value.okWide Tryz.prog W .any base t v := hval0
  have hW' := hW
  obtain ⟨p, q, hA0, hV, rfl, hfz, hnd⟩ := hW
  have hA : DataW.TrodAll enc Tryz.prog W 0 (fun _ => true) true Tryz.f9.params.toList args.toList ds p := hA0
  rw [Tryz.params9] at hA hval
  obtain ⟨v0, v1, v2, d0, d1, d2, p0, p1, p2, rfl, rfl, rfl, h0, h1, h2⟩ := trodAll_three hA
  obtain ⟨rfl, rfl⟩ := trodVars_none hV
  obtain ⟨La, ha, hia⟩ := ints_arg (hval 0 22 v0 rfl rfl) h0
  obtain ⟨Lb, hb', hib⟩ := ints_arg (hval 1 22 v1 rfl rfl) h1
  obtain ⟨k, rfl, rfl, rfl, wk⟩ := open_int Tryz.underlying3 (hval 2 3 v2 rfl rfl) h2
  clear hA0 hval0
  have hlt : ∀ x ∈ p0 ++ p1 ++ [] ++ [], x.block < W.heap.size := fun x hx => by simpa using hW'.lt x hx
  refine (law_diffs La Lb v0 v1 k W (allG_of hL) ha hb' hia hib (bounds_i64 wk)).mono fun e W' ⟨he, hb⟩ => ?_
  subst he
  refine ⟨_, rfl, ?_⟩
  have a0 := Below.trod laidOutP (by kernel_rfl) (of_decide_eq_true (by kernel_rfl)) h0 hb (fun x hx => hlt x (by simp [hx]))
  have a1 := Below.trod laidOutP (by kernel_rfl) (of_decide_eq_true (by kernel_rfl)) h1 hb (fun x hx => hlt x (by simp [hx]))
  exact ⟨[d0, d1, .lit (.int .i64 k)], [], p0 ++ p1 ++ [] ++ [], [], p0 ++ (p1 ++ []), [], hW', trodAll_mk1 (shut_bool Tryz.underlying4 _), trodAll_mk3 a0 a1 (shut_int Tryz.underlying3 wk), rfl, hb.frame _, fun h => by cases h⟩
theorem diffs_unf : Tryz.pinned.checked.prog.unfollowed 9 = true := by kernel_rfl
theorem diffs_c0 : Rows.profDiffsRow.wf (OpenSpec.ofChange Rows.profDiffsSpec) = true := by kernel_rfl
theorem diffs_c9 : (Rows.profDiffsRow.inPlace == Tryz.pinned.checked.prog.inPlace 9) = true := by kernel_rfl
theorem diffs_c12 : (Rows.profDiffsRow.named == Tryz.pinned.checked.prog.varsNamed 9) = true := by kernel_rfl
theorem diffs_c22 : (Rows.profDiffsRow.plainKeys == Tryz.pinned.checked.prog.plainKeys) = true := by kernel_rfl
theorem diffs_c26 : (Rows.profDiffsRow.lifted == Tryz.pinned.checked.prog.liftsFinal) = true := by kernel_rfl
theorem diffs_c27 : (Tryz.pinned.checked.prog.make == some Rows.profDiffsRow.make) = true := by kernel_rfl
theorem diffs_closed : joinedFacts Tryz.pinned.checked.prog 9 Tryz.f9 Rows.profDiffsSpec Rows.profDiffsRow = true := by
  unfold joinedFacts
  exact (band (band (band (band (band (band (band (band (band (band (band (band (band (band (band (band (band (band (band (band (band (band (band (band (band (band (band (band (band (band (band diffs_c0 prog_c1) prog_c2) (by kernel_rfl)) (by kernel_rfl)) (by kernel_rfl)) (by kernel_rfl)) (by kernel_rfl)) (by kernel_rfl)) diffs_c9) (by rw [diffs_unf]; rfl)) (by unfold Program.recurses; rw [diffs_unf]; rfl)) diffs_c12) (by kernel_rfl)) (by kernel_rfl)) (by kernel_rfl)) (by kernel_rfl)) (by kernel_rfl)) (by kernel_rfl)) (by kernel_rfl)) (by kernel_rfl)) (by kernel_rfl)) diffs_c22) (by kernel_rfl)) prog_c24) prog_c25) diffs_c26) diffs_c27) (by kernel_rfl)) (by kernel_rfl)) (by kernel_rfl)) (by kernel_rfl))
theorem diffs_named : Tryz.pinned.checked.prog.funcNamed Rows.profDiffsRow.func = some 9 := by kernel_rfl
theorem diffs_func : Tryz.pinned.checked.prog.funcs[9]? = some Tryz.f9 := Tryz.func9
theorem diffs_inst : Tryz.f9.isInstance Tryz.pinned.checked.prog Rows.profDiffsRow.origin Rows.profDiffsRow.targs := of_decide_eq_true (by kernel_rfl)
theorem diffs_wrap : Tryz.f9.isWrapper Tryz.pinned.checked.prog Rows.profDiffsRow.wrapper Rows.profDiffsRow.mainSum := by unfold Func.isWrapper; first | (rw [if_pos (by decide +kernel)]; kernel_rfl) | (rw [if_neg (by decide +kernel)]; exact ⟨rfl, rfl⟩)
theorem diffs_lift (os : Os) (started : os.Started) (H : Type) (enc : TypeId × Value → H) : ReturnsInHanded Rows.profDiffsRow.assume Tryz.pinned.checked os 9 .any (Rows.profDiffsRow.pre enc Tryz.pinned.checked.prog Tryz.f9 (OpenSpec.ofChange Rows.profDiffsSpec)) (Rows.profDiffsSpec.post enc Tryz.pinned.checked.prog Tryz.f9 Rows.profDiffsRow.apart Rows.profDiffsRow.fresh Rows.profDiffsRow.handsOn Rows.profDiffsRow.again) := diffs_lifted os started H enc
theorem profDiffs_said : Rows.ProfDiffsSaid :=
  OpenClaim.holds_of_wide 9 Tryz.f9 rfl rfl rfl rfl rfl rfl rfl ⟨rfl, rfl, rfl, rfl, rfl⟩ rfl rfl rfl rfl rfl diffs_named diffs_func diffs_closed diffs_inst diffs_wrap (fun os started H enc _ => diffs_lift os started H enc)
theorem diffs_plain (f : FuncId) (fn : Func) (hf : Tryz.pinned.checked.prog.funcNamed Rows.profDiffsRow.func = some f) (hfn : Tryz.pinned.checked.prog.funcs[f]? = some fn) :
    true = Tryz.pinned.checked.prog.looks [] ∧ ∀ (j : Nat) t, fn.params[j]? = some t → Tryz.pinned.checked.prog.wantsStandIn t = false := by
  obtain rfl : f = 9 := Option.some.inj (diffs_named.symm.trans hf) |>.symm
  obtain rfl : fn = Tryz.f9 := (Option.some.inj (diffs_func.symm.trans hfn)).symm
  refine ⟨by kernel_rfl, fun j t ht => ?_⟩
  rw [Tryz.params9] at ht
  have hm : t ∈ [22, 22, 3] := by simpa using Array.mem_of_getElem? ht
  have hall : ([22, 22, 3].all fun u => !Tryz.pinned.checked.prog.wantsStandIn u) = true := by kernel_rfl
  exact (show Tryz.pinned.checked.prog.wantsStandIn t = false by simpa using List.all_eq_true.1 hall t hm)
theorem diffs_wf : Rows.profDiffsRow.wfByText (OpenSpec.ofChange Rows.profDiffsSpec) = true := by kernel_rfl
theorem diffs_goes : false = Rows.profDiffsRow.goesBy Tryz.pinned.checked.prog := by kernel_rfl
/-- The card. -/
theorem profDiffs_card : Rows.ProfDiffsCardSaid :=
  Claim7.holds_tied_plain_at .later [] [.data, .data, .data, .sentinel, .sentinel, .funcs, .data, .data, .data, .funcsDeep] true (true, "2840bd1dea59425f3c1017161ec9298680b29d3a186cc757cab9535e6b832389") true profDiffs_said (fun _ h => by cases h) diffs_wf (fun _ h => by cases h) profDiffs_row_tie rfl ⟨rfl, rfl⟩ prog_main rfl diffs_plain diffs_goes

end Go.Proofs.YtdkcjeaabbkdeaaGreatDoor
