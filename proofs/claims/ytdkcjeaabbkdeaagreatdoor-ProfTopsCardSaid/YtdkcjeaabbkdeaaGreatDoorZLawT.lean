/- The law ProfTops: what it gives. The law ProfTops: for every pair of lists and every number it returns true, and its arguments read as they did. The row lists the tables that the code reads; the card ties them to the program's text. -/
import Derived.Test.YtdkcjeaabbkdeaaGreatDoorZLawW
import Derived.Test.YtdkcjeaabbkdeaaGreatDoorZRefC
import Derived.Test.YtdkcjeaabbkdeaaGreatDoorZArgN
import Derived.Test.YtdkcjeaabbkdeaaGreatDoorZRowG
import Derived.Carry
import Derived.SevenTiedAt
set_option linter.unusedVariables false
set_option linter.unusedSimpArgs false
set_option linter.unnecessarySimpa false
set_option linter.unusedSectionVars false
section
namespace Go.Proofs.YtdkcjeaabbkdeaaGreatDoor
open Go.RowKit Go.Shelf
set_option linter.unusedVariables false
set_option linter.unusedSimpArgs false
theorem both_tops {l : List NodeC} {k : Int} {w w1 w2 : World} {e1 e2 : Ending} (h : TopPost l k w e1 w1) (h' : RefTopPost l k w1 e2 w2) : Below w.heap.size w w1 ∧ Below w1.heap.size w1 w2 ∧
    ∃ v1 v2 err, e1 = .returned (.tuple #[v1, .int .i64 err]) ∧ e2 = .returned (.tuple #[v2, .int .i64 err]) ∧ ∃ r : List NodeC, NodesL w1 v1 r ∧ NodesL w2 v2 r := by
  obtain ⟨hb, v1, x1, rfl, h1⟩ := h
  obtain ⟨hb', v2, x2, rfl, h2⟩ := h'
  refine ⟨hb, hb', v1, v2, ?_⟩
  cases hr : rightB l with
  | false =>
    rw [if_pos hr] at h1 h2
    obtain ⟨rfl, h1⟩ := h1
    obtain ⟨rfl, h2⟩ := h2
    exact ⟨1, rfl, rfl, _, h1, h2⟩
  | true =>
    rw [if_neg (by rw [hr]; simp)] at h1 h2
    by_cases hk : k < 0
    · rw [if_pos hk] at h1 h2
      obtain ⟨rfl, h1⟩ := h1
      obtain ⟨rfl, h2⟩ := h2
      exact ⟨2, rfl, rfl, _, h1, h2⟩
    · rw [if_neg hk] at h1 h2
      obtain ⟨rfl, m, hp, hs, h1⟩ := h1
      obtain ⟨rfl, h2⟩ := h2
      rw [top_unique l m (rightB_asc hr) hp hs] at h1
      exact ⟨0, rfl, rfl, _, h1, h2⟩
theorem both_diffs {l m : List NodeC} {w w1 w2 : World} {e1 e2 : Ending} (fl : Fits l) (fm : Fits m) (h : DiffPost l m w e1 w1) (h' : RefDiffPost l m w1 e2 w2) : Below w.heap.size w w1 ∧ Below w1.heap.size w1 w2 ∧
    ∃ v1 v2 err, e1 = .returned (.tuple #[v1, .int .i64 err]) ∧ e2 = .returned (.tuple #[v2, .int .i64 err]) ∧ ∃ r : List NodeC, NodesL w1 v1 r ∧ NodesL w2 v2 r := by
  obtain ⟨hb, v1, x1, rfl, h1⟩ := h
  obtain ⟨hb', v2, x2, rfl, h2⟩ := h'
  refine ⟨hb, hb', v1, v2, ?_⟩
  by_cases hr : rightB l = false ∨ rightB m = false
  · rw [if_pos hr] at h1 h2
    obtain ⟨rfl, h1⟩ := h1
    obtain ⟨rfl, h2⟩ := h2
    exact ⟨1, rfl, rfl, _, h1, h2⟩
  · rw [if_neg hr] at h1 h2
    obtain ⟨rfl, d, hd, h1⟩ := h1
    obtain ⟨rfl, h2⟩ := h2
    have hrl : rightB l = true := by cases h : rightB l <;> simp_all
    have hrm : rightB m = true := by cases h : rightB m <;> simp_all
    rw [diffL_unique hd (refDiff_is l m hrl hrm fl fm)] at h1
    exact ⟨0, rfl, rfl, _, h1, h2⟩
set_option maxRecDepth 100000 in
set_option maxHeartbeats 4000000 in
theorem law_tops (l m : List NodeC) (A : Option Addr) (ca : Nat) (vm : Value) (k : Int) (w : World) (hG : AllG w) (hl : NodesL w (.slice A l.length ca) l) (hm : NodesL w vm m) (hnil : A = none → l = [] ∧ ca = 0) (fl : Fits l) (fm : Fits m) :
    Calls Tryz.prog 4 #[.slice A l.length ca, vm, .int .i64 k] w (Gives w (.bool true)) := by
  obtain ⟨B, cb, rfl, hmb, -⟩ := hm.form
  have HG := Lib.hid hG
  have HL := Lib.hid hl
  have HM := Lib.hid hm
  have HFl := Lib.hid fl
  have HFm := Lib.hid fm
  have HNil := Lib.hid hnil
  clear hG hl hm fl fm hnil hmb
  by_cases h1 : 200 < l.length
  · have h1' : (200 : Int) < (l.length : Int) := by omega
    go_enter Tryz.func4, Tryz.ntmps4
    go_wp2_with fail
    refine (law_profiled _ HG.out).mono ?_
    rintro e w1 ⟨rfl, hb1⟩
    have HB1 := Lib.hid hb1
    clear hb1
    go_wp2_with fail
    go_ret
    exact ⟨rfl, HB1.out⟩
  have h1' : ¬ (200 : Int) < (l.length : Int) := by omega
  by_cases h2 : 200 < m.length
  · have h2' : (200 : Int) < (m.length : Int) := by omega
    go_enter Tryz.func4, Tryz.ntmps4
    go_wp2_with fail
    refine (law_profiled _ HG.out).mono ?_
    rintro e w1 ⟨rfl, hb1⟩
    have HB1 := Lib.hid hb1
    clear hb1
    go_wp2_with fail
    go_ret
    exact ⟨rfl, HB1.out⟩
  have h2' : ¬ (200 : Int) < (m.length : Int) := by omega
  have HT := Lib.hid (prof_top l A ca k w HG.out.prof HL.out HNil.out (by omega) (fun x hx => (HFl.out x hx).2.2.1))
  go_enter Tryz.func4, Tryz.ntmps4
  go_wp2_with fail
  refine HT.out.mono ?_
  intro e1 w1 hp1
  have HT2 := Lib.hid (ref_top l k (.slice A l.length ca) w1 (HL.out.below hp1.1) (by omega))
  obtain ⟨hb1, v1, x1, rfl, -⟩ := id hp1
  have HP1 := Lib.hid hp1
  clear hp1 hb1
  go_wp2_with fail
  refine HT2.out.mono ?_
  intro e2 w2 hp2
  obtain ⟨hb1, hb2, v1', v2, x1', he, rfl, r, hv1, hv2⟩ := both_tops HP1.out hp2
  injection he with he
  injection he with he
  simp only [Array.mk.injEq, List.cons.injEq, Value.int.injEq, true_and, and_true] at he
  obtain ⟨rfl, rfl⟩ := he
  have HV1 := Lib.hid (NodesL.below hv1 hb2)
  have HV2 := Lib.hid hv2
  have HB2 := Lib.hid (hb1.trans (hb2.mono hb1.size))
  obtain ⟨A1, c1, rfl, -⟩ := hv1.form
  obtain ⟨A2, c2, rfl, -⟩ := hv2.form
  clear hb1 hb2 hv1 hv2 hp2 HP1
  have HD := Lib.hid (prof_diff l m _ _ w2 (HG.out.below HB2.out).prof (HL.out.below HB2.out) (HM.out.below HB2.out) HFl.out HFm.out (by omega) (by omega))
  go_wp2_with fail
  refine HD.out.mono ?_
  intro e3 w3 hp3
  have HD2 := Lib.hid (ref_diff l m _ _ w3 ((HL.out.below HB2.out).below hp3.1) ((HM.out.below HB2.out).below hp3.1) (by omega) (by omega))
  obtain ⟨hb3, v3, x3, rfl, -⟩ := id hp3
  have HP3 := Lib.hid hp3
  clear hp3 hb3
  go_wp2_with fail
  refine HD2.out.mono ?_
  intro e4 w4 hp4
  obtain ⟨hb3, hb4, v3', v4, x3', he, rfl, s, hv3, hv4⟩ := both_diffs HFl.out HFm.out HP3.out hp4
  injection he with he
  injection he with he
  simp only [Array.mk.injEq, List.cons.injEq, Value.int.injEq, true_and, and_true] at he
  obtain ⟨rfl, rfl⟩ := he
  have HB24 := Lib.hid (hb3.trans (hb4.mono hb3.size))
  have HV3 := Lib.hid (NodesL.below hv3 hb4)
  have HV4 := Lib.hid hv4
  have HB4 := Lib.hid (HB2.out.trans (HB24.out.mono HB2.out.size))
  have HS1 := Lib.hid (ref_same r r _ _ w4 (NodesL.below HV1.out HB24.out) (NodesL.below HV2.out HB24.out))
  obtain ⟨A3, c3, rfl, -⟩ := hv3.form
  obtain ⟨A4, c4, rfl, -⟩ := hv4.form
  clear hb3 hb4 hv3 hv4 hp4 HP3
  go_wp2_with fail
  refine HS1.out.mono ?_
  rintro e w5 ⟨rfl, hb5⟩
  have HS2 := Lib.hid (ref_same s s _ _ w5 (NodesL.below HV3.out hb5) (NodesL.below HV4.out hb5))
  have HB5 := Lib.hid (HB4.out.trans (hb5.mono HB4.out.size))
  clear hb5
  simp only [decide_true]
  go_wp2_with fail
  refine HS2.out.mono ?_
  rintro e w6 ⟨rfl, hb6⟩
  have HB6 := Lib.hid (HB5.out.trans (hb6.mono HB5.out.size))
  clear hb6
  simp only [decide_true]
  go_wp2_with fail
  refine (law_profiled _ (HG.out.below HB6.out)).mono ?_
  rintro e w7 ⟨rfl, hb7⟩
  have HB7 := Lib.hid (HB6.out.trans (hb7.mono HB6.out.size))
  clear hb7
  go_wp2_with fail
  go_ret
  exact ⟨rfl, HB7.out⟩
end Go.Proofs.YtdkcjeaabbkdeaaGreatDoor
end
section
namespace Go.Proofs.YtdkcjeaabbkdeaaGreatDoor
open Go.ChangeShapes Go.WideShapes Go.ChangeAt Go.RowKit Go.Shelf
set_option linter.unusedVariables false
set_option linter.unusedSimpArgs false
set_option maxRecDepth 100000 in
theorem tops_lifted (os : Os) (started : os.Started) (H : Type) (enc : TypeId × Value → H) :
    ReturnsInHanded {} Tryz.checked os 4 .any (fun w args => (Rows.profTopsSpec.pre enc Tryz.prog Tryz.f4 [] false w args ∧ laidMetH Tryz.prog laidL w) ∧ sizedMet enc Tryz.prog Tryz.f4 (OpenSpec.ofChange Rows.profTopsSpec) false w args)
      (Rows.profTopsSpec.post enc Tryz.prog Tryz.f4 false true false false) := by
  refine returnsInHanded_of_change_and (C := Tryz.checked) (X := fun w _ => laidMetH Tryz.prog laidL w) (fun _ _ _ hh h => h.of_heap hh) ownP started (by kernel_rfl) Tryz.func4
    (ChangeSpec.witness_shaped (enc := enc) (C := Tryz.checked) (os := os) (X := fun w _ => laidMetH Tryz.prog laidL w) false (World.doorLaid Tryz.prog 95 os) #[.slice none 0 0, .slice none 0 0, .int .i64 0] 8 rfl (World.shaped_of_RefB (by kernel_rfl) (by kernel_rfl)) (by kernel_rfl) (by kernel_rfl) (by kernel_rfl) (door_met os _)) ?_
  intro W base args ds gs before hval0 hW _ _ hL _
  have hval : ∀ (j : Nat) t v, Tryz.f4.params[j]? = some t → args[j]? = some v → Value.okWide Tryz.prog W .any base t v := hval0
  have hW' := hW
  obtain ⟨p, q, hA0, hV, rfl, hfz, hnd⟩ := hW
  have hA : DataW.TrodAll enc Tryz.prog W 0 (fun _ => true) true Tryz.f4.params.toList args.toList ds p := hA0
  rw [Tryz.params4] at hA hval
  obtain ⟨v0, v1, v2, d0, d1, d2, p0, p1, p2, rfl, rfl, rfl, h0, h1, h2⟩ := trodAll_three hA
  obtain ⟨rfl, rfl⟩ := trodVars_none hV
  have h0k := h0
  have h1k := h1
  obtain ⟨A, ca, l, rfl, hl, fl, hnil⟩ := nodes_arg (hval 0 29 v0 rfl rfl) h0
  obtain ⟨B, cb, m, rfl, hm, fm, -⟩ := nodes_arg (hval 1 29 v1 rfl rfl) h1
  obtain ⟨k, rfl, rfl, rfl, wk⟩ := open_int Tryz.underlying3 (hval 2 3 v2 rfl rfl) h2
  clear hA0 hval0
  have hlt : ∀ x ∈ p0 ++ p1 ++ [] ++ [], x.block < W.heap.size := fun x hx => by simpa using hW'.lt x hx
  refine (law_tops l m A ca _ k W (allG_of hL) hl hm hnil fl fm).mono fun e W' ⟨he, hb⟩ => ?_
  subst he
  refine ⟨_, rfl, ?_⟩
  have a0 := Below.trod laidOutP (by kernel_rfl) (of_decide_eq_true (by kernel_rfl)) h0k hb (fun x hx => hlt x (by simp [hx]))
  have a1 := Below.trod laidOutP (by kernel_rfl) (of_decide_eq_true (by kernel_rfl)) h1k hb (fun x hx => hlt x (by simp [hx]))
  exact ⟨[d0, d1, .lit (.int .i64 k)], [], p0 ++ p1 ++ [] ++ [], [], p0 ++ (p1 ++ []), [], hW', trodAll_mk1 (shut_bool Tryz.underlying4 _), trodAll_mk3 a0 a1 (shut_int Tryz.underlying3 wk), rfl, hb.frame _, fun h => by cases h⟩
theorem tops_unf : Tryz.pinned.checked.prog.unfollowed 4 = true := by kernel_rfl
theorem tops_c0 : Rows.profTopsRow.wf (OpenSpec.ofChange Rows.profTopsSpec) = true := by kernel_rfl
theorem tops_c9 : (Rows.profTopsRow.inPlace == Tryz.pinned.checked.prog.inPlace 4) = true := by kernel_rfl
theorem tops_c12 : (Rows.profTopsRow.named == Tryz.pinned.checked.prog.varsNamed 4) = true := by kernel_rfl
theorem tops_c22 : (Rows.profTopsRow.plainKeys == Tryz.pinned.checked.prog.plainKeys) = true := by kernel_rfl
theorem tops_c26 : (Rows.profTopsRow.lifted == Tryz.pinned.checked.prog.liftsFinal) = true := by kernel_rfl
theorem tops_c27 : (Tryz.pinned.checked.prog.make == some Rows.profTopsRow.make) = true := by kernel_rfl
theorem tops_closed : joinedFacts Tryz.pinned.checked.prog 4 Tryz.f4 Rows.profTopsSpec Rows.profTopsRow = true := by
  unfold joinedFacts
  exact (band (band (band (band (band (band (band (band (band (band (band (band (band (band (band (band (band (band (band (band (band (band (band (band (band (band (band (band (band (band (band tops_c0 prog_c1) prog_c2) (by kernel_rfl)) (by kernel_rfl)) (by kernel_rfl)) (by kernel_rfl)) (by kernel_rfl)) (by kernel_rfl)) tops_c9) (by rw [tops_unf]; rfl)) (by unfold Program.recurses; rw [tops_unf]; rfl)) tops_c12) (by kernel_rfl)) (by kernel_rfl)) (by kernel_rfl)) (by kernel_rfl)) (by kernel_rfl)) (by kernel_rfl)) (by kernel_rfl)) (by kernel_rfl)) (by kernel_rfl)) tops_c22) (by kernel_rfl)) prog_c24) prog_c25) tops_c26) tops_c27) (by kernel_rfl)) (by kernel_rfl)) (by kernel_rfl)) (by kernel_rfl))
theorem tops_named : Tryz.pinned.checked.prog.funcNamed Rows.profTopsRow.func = some 4 := by kernel_rfl
theorem tops_func : Tryz.pinned.checked.prog.funcs[4]? = some Tryz.f4 := Tryz.func4
theorem tops_inst : Tryz.f4.isInstance Tryz.pinned.checked.prog Rows.profTopsRow.origin Rows.profTopsRow.targs := of_decide_eq_true (by kernel_rfl)
theorem tops_wrap : Tryz.f4.isWrapper Tryz.pinned.checked.prog Rows.profTopsRow.wrapper Rows.profTopsRow.mainSum := by unfold Func.isWrapper; first | (rw [if_pos (by decide +kernel)]; kernel_rfl) | (rw [if_neg (by decide +kernel)]; exact ⟨rfl, rfl⟩)
theorem tops_lift (os : Os) (started : os.Started) (H : Type) (enc : TypeId × Value → H) : ReturnsInHanded Rows.profTopsRow.assume Tryz.pinned.checked os 4 .any (Rows.profTopsRow.pre enc Tryz.pinned.checked.prog Tryz.f4 (OpenSpec.ofChange Rows.profTopsSpec)) (Rows.profTopsSpec.post enc Tryz.pinned.checked.prog Tryz.f4 Rows.profTopsRow.apart Rows.profTopsRow.fresh Rows.profTopsRow.handsOn Rows.profTopsRow.again) := tops_lifted os started H enc
theorem profTops_said : Rows.ProfTopsSaid :=
  OpenClaim.holds_of_wide 4 Tryz.f4 rfl rfl rfl rfl rfl rfl rfl ⟨rfl, rfl, rfl, rfl, rfl⟩ rfl rfl rfl rfl rfl tops_named tops_func tops_closed tops_inst tops_wrap (fun os started H enc _ => tops_lift os started H enc)
theorem tops_plain (f : FuncId) (fn : Func) (hf : Tryz.pinned.checked.prog.funcNamed Rows.profTopsRow.func = some f) (hfn : Tryz.pinned.checked.prog.funcs[f]? = some fn) :
    true = Tryz.pinned.checked.prog.looks [] ∧ ∀ (j : Nat) t, fn.params[j]? = some t → Tryz.pinned.checked.prog.wantsStandIn t = false := by
  obtain rfl : f = 4 := Option.some.inj (tops_named.symm.trans hf) |>.symm
  obtain rfl : fn = Tryz.f4 := (Option.some.inj (tops_func.symm.trans hfn)).symm
  refine ⟨by kernel_rfl, fun j t ht => ?_⟩
  rw [Tryz.params4] at ht
  have hm : t ∈ [29, 29, 3] := by simpa using Array.mem_of_getElem? ht
  have hall : ([29, 29, 3].all fun u => !Tryz.pinned.checked.prog.wantsStandIn u) = true := by kernel_rfl
  exact (show Tryz.pinned.checked.prog.wantsStandIn t = false by simpa using List.all_eq_true.1 hall t hm)
theorem tops_wf : Rows.profTopsRow.wfByText (OpenSpec.ofChange Rows.profTopsSpec) = true := by kernel_rfl
theorem tops_goes : false = Rows.profTopsRow.goesBy Tryz.pinned.checked.prog := by kernel_rfl
/-- The card. -/
theorem profTops_card : Rows.ProfTopsCardSaid :=
  Claim7.holds_tied_plain_at .later [] [.data, .data, .data, .sentinel, .sentinel, .funcs, .data, .data, .data, .funcsDeep] true (true, "2840bd1dea59425f3c1017161ec9298680b29d3a186cc757cab9535e6b832389") true profTops_said (fun _ h => by cases h) tops_wf (fun _ h => by cases h) profTops_row_tie rfl ⟨rfl, rfl⟩ prog_main rfl tops_plain tops_goes
end Go.Proofs.YtdkcjeaabbkdeaaGreatDoor
end
