/- The reference: Diff. The reference: Top. -/
import Derived.Test.YtdkcjeaabbkdeaaGreatDoorZRefA
set_option linter.unusedVariables false
set_option linter.unusedSimpArgs false
set_option linter.unnecessarySimpa false
set_option linter.unusedSectionVars false
section
namespace Go.Proofs.YtdkcjeaabbkdeaaGreatDoor
open Go.RowKit Go.Shelf
set_option linter.unusedVariables false
set_option linter.unusedSimpArgs false
theorem addFold_length (x : NodeC) : ∀ (l : List NodeC) (s : List NodeC × Bool), (l.foldl (addStep x) s).1.length + (if (l.foldl (addStep x) s).2 then 0 else 1) ≤ s.1.length + (if s.2 then 0 else 1) + l.length := by
  intro l
  induction l with
  | nil => intro s; simp only [List.foldl_nil, List.length_nil, Nat.add_zero]; exact Nat.le_refl _
  | cons y l ih =>
    intro s
    rw [List.foldl_cons]
    refine Nat.le_trans (ih _) ?_
    obtain ⟨s1, s2⟩ := s
    unfold addStep
    cases s2 <;> by_cases h1 : x.node < y.node <;> by_cases h2 : x.node = y.node <;> simp [h1, h2] <;> omega
theorem addedL_length (l : List NodeC) (x : NodeC) : (addedL l x).length ≤ l.length + 1 := by
  have h := addFold_length x l ([], false)
  show (if (l.foldl (addStep x) ([], false)).2 = true then (l.foldl (addStep x) ([], false)).1 else (l.foldl (addStep x) ([], false)).1 ++ [x]).length ≤ _
  generalize l.foldl (addStep x) ([], false) = s at *
  obtain ⟨s1, s2⟩ := s
  cases s2 <;> simp at h ⊢ <;> omega
theorem diff_push {w W W7 : World} {acc fs : List NodeC} {bA oA cc g : Nat} {v v' : Value} (x : NodeC) (hb : RowKit.Below w.heap.size w W) (hn : NodesL W (.slice (some ⟨bA, oA, none⟩) acc.length cc) acc) (ho : W.ownsRow g 73 4 v fs.length (nodeVals fs)) (hgs : g ≤ W.heap.size) (hwg : w.heap.size ≤ g) (hat : v.ownBlock ≠ some bA)
    (hg : (W.alloc (.cells (nodeCells x).toArray 73)).grownBy W7 v.ownBlock) (hat' : v'.ownBlock = v.ownBlock ∨ v'.ownBlock = some (W.alloc (.cells (nodeCells x).toArray 73)).heap.size) (ho' : W7.ownsRow g 73 4 v' (fs.length + 1) (nodeVals fs ++ nodeCells x)) (hbA : bA < W.heap.size) :
    RowKit.Below w.heap.size w W7 ∧ NodesL W7 (.slice (some ⟨bA, oA, none⟩) acc.length cc) acc ∧ W7.ownsRow g 73 4 v' (fs ++ [x]).length (nodeVals (fs ++ [x])) ∧ g ≤ W7.heap.size ∧ v'.ownBlock ≠ some bA := by
  have hb1 := below1 W (.cells (nodeCells x).toArray 73)
  have hs := hg.size
  rw [World.size_alloc] at hs
  refine ⟨(hb.trans (hb1.mono hb.size)).grown hg (by rw [World.size_alloc]; have := hb.size; omega) (fun k hk => by have := (ho.lt k hk).1; omega), ?_, ?_, by omega, ?_⟩
  · have hn1 := hn.below hb1
    obtain ⟨A', c', he, hm, hc⟩ := hn1
    cases he
    refine ⟨_, _, rfl, hm, fun j hj => ?_⟩
    obtain ⟨b, off, cs, e1, e2, e3, e4⟩ := hc j hj
    cases e1
    exact ⟨bA, oA, cs, rfl, e2, fun i hi => (World.cell?_of_block (hg.block bA (by rw [World.size_alloc]; omega) (fun e => hat e.symm))).trans (e3 i hi), e4⟩
  · have e1 : (fs ++ [x]).length = fs.length + 1 := by simp
    have e2 : nodeVals (fs ++ [x]) = nodeVals fs ++ nodeCells x := by simp [nodeVals]
    rw [e1, e2]; exact ho'
  · rcases hat' with h | h
    · rw [h]; exact hat
    · rw [h, World.size_alloc]; intro e; injection e with e; omega
def RefDiffPost (l m : List NodeC) (w : World) (e : Ending) (w' : World) : Prop := RowKit.Below w.heap.size w w' ∧ ∃ v err, e = .returned (.tuple #[v, .int .i64 err]) ∧
  if rightB l = false ∨ rightB m = false then err = 1 ∧ NodesL w' v [] else err = 0 ∧ NodesL w' v (refDiff l m)
set_option maxRecDepth 100000 in
set_option maxHeartbeats 2000000 in
theorem ref_diff (l m : List NodeC) (vl vm : Value) (w : World) (hl : NodesL w vl l) (hm : NodesL w vm m) (hll : l.length ≤ 400000) (hml : m.length ≤ 400000) : Calls Tryz.prog 26 #[vl, vm] w (RefDiffPost l m w) := by
  obtain ⟨A, ac, rfl, hma, -⟩ := hl.form
  obtain ⟨B, bc, rfl, hmb, -⟩ := hm.form
  have HR1 := Lib.hid (ref_right l _ w hl (by omega))
  have HL := Lib.hid hl
  have HM := Lib.hid hm
  have HR2 := Lib.hid (fun W (hb : RowKit.Below w.heap.size w W) => ref_right m _ W (hm.below hb) (by omega))
  obtain ⟨i0, hi, hzz⟩ := Option.map_eq_some_iff.1 infoNode
  simp only [Prod.mk.injEq] at hzz
  obtain ⟨hz0, hz1, hz2⟩ := hzz
  clear hl hm
  go_enter Tryz.func26, Tryz.ntmps26
  go_wp2_with fail
  refine HR1.out.mono ?_
  rintro e w1 ⟨rfl, hb1⟩
  have HB1 := Lib.hid hb1
  have HR2' := Lib.hid (HR2.out w1 hb1)
  clear hb1
  cases hrl : rightB l with
  | false =>
    have HRl := Lib.hid hrl
    go_wp2_with fail
    go_ret2
    refine ⟨HB1.out, _, 1, rfl, ?_⟩
    rw [if_pos (.inl HRl.out)]
    exact ⟨rfl, nodesL_nil _ _ _⟩
  | true =>
  have HRl := Lib.hid hrl
  clear hrl
  go_wp2_with fail
  refine HR2'.out.mono ?_
  rintro e w2 ⟨rfl, hb2⟩
  have HB2 := Lib.hid (HB1.out.trans (hb2.mono HB1.out.size))
  clear hb2
  cases hrm : rightB m with
  | false =>
    have HRm := Lib.hid hrm
    go_wp2_with fail
    go_ret2
    refine ⟨HB2.out, _, 1, rfl, ?_⟩
    rw [if_pos (.inr HRm.out)]
    exact ⟨rfl, nodesL_nil _ _ _⟩
  | true =>
  have HRm := Lib.hid hrm
  clear hrm
  go_wp2_with fail
  have hq := alloc_new w2 (.cells #[] 73)
  have HQ := Lib.hid hq
  have HB3 := Lib.hid (HB2.out.alloc HB2.out.size (.cells #[] 73))
  have HBs := Lib.hid HB2.out.size
  generalize hw3 : w2.alloc (.cells #[] 73) = w3 at *
  clear hq hw3
  generalize w2.heap.size = g at *
  go_loopw [6, 8] (fun v i wr => ∃ k : Nat, k ≤ l.length ∧ i = .int .i64 k ∧ RowKit.Below w3.heap.size w3 wr ∧ ((l.take k).foldl (fun a x => addedL a (negN x)) m).length ≤ m.length + k ∧ NodesL wr v ((l.take k).foldl (fun a x => addedL a (negN x)) m)) (fun _ i _ => l.length - (intOf i).toNat)
  case atStart => exact ⟨0, Nat.zero_le _, rfl, RowKit.Below.refl _ _, Nat.le_refl _, HM.out.below HB3.out⟩
  case round =>
  obtain ⟨k, hk, rfl, hb, hln, hn⟩ := hrel
  have HB := Lib.hid hb
  have HN := Lib.hid hn
  clear hb
  by_cases hlt : k < l.length
  case pos =>
    obtain ⟨b, off, rfl, c0, c1, c2, c3⟩ := ((HL.out.below HB3.out).below HB.out).at_ k hlt
    have htk : (l.take (k + 1)).foldl (fun a x => addedL a (negN x)) m = addedL ((l.take k).foldl (fun a x => addedL a (negN x)) m) (negN l[k]) := foldl_take_succ _ _ _ _ hlt
    have HTk := Lib.hid htk
    clear htk
    generalize (l.take k).foldl (fun a x => addedL a (negN x)) m = acc at *
    generalize l[k] = x at *
    obtain ⟨Ac, cc, rfl⟩ : ∃ A c, u6 = .slice A acc.length c := by obtain ⟨A, c, rfl, -⟩ := hn; exact ⟨A, c, rfl⟩
    have hadd := ref_added acc (negN x) _ wr.drew (HN.out.below (below_drew wr)) (by omega)
    simp only [negN, nodeCells] at hadd
    have HAdd := Lib.hid hadd
    have a1 : IntKind.i64.wrap (-x.count) = wrap64 (-x.count) := wrapIs _
    have a2 : IntKind.i64.wrap (-x.work) = wrap64 (-x.work) := wrapIs _
    have a3 : IntKind.i64.wrap (-x.cycles) = wrap64 (-x.cycles) := wrapIs _
    have HS := Lib.hid (fun W (h : RowKit.Below wr.heap.size wr W) => And.intro (cell_keep h c0) (And.intro (cell_keep h c1) (And.intro (cell_keep h c2) (cell_keep h c3))))
    have hk0 : (0 : Int) ≤ (k : Int) := by omega
    have hk1 : (k : Int) < (l.length : Int) := by omega
    clear hadd hn
    go_upto_region 7 with (fail)
    go_region_held3 (fun W => W.cell? ⟨b, off + k * 4, none⟩ = some (.int .i64 x.node) ∧ W.cell? ⟨b, off + k * 4 + 1, none⟩ = some (.int .i64 x.count) ∧ W.cell? ⟨b, off + k * 4 + 2, none⟩ = some (.int .i64 x.work) ∧ W.cell? ⟨b, off + k * 4 + 3, none⟩ = some (.int .i64 x.cycles)) (first | exact hHeld | exact HS.out _ (below_drew _) | exact HS6.out) (first | (go_at_call 54; refine HAdd.out.mono ?_; rintro e w6 ⟨hb6, v6, rfl, hn6⟩; have HN6 := Lib.hid hn6; have HB6w := Lib.hid (below_step (below_drew wr) hb6); have HS6 := Lib.hid (HS.out w6 HB6w.out); clear hn6 hb6))
    have HB6 := Lib.hid (HB.out.trans (HB6w.out.mono HB.out.size))
    clear c0 c1 c2 c3 a1 a2 a3
    go_wp2_with fail
    go_roundw
    case rel => exact ⟨k + 1, hlt, by go_num, HB6.out, by rw [HTk.out]; have := addedL_length acc (negN x); omega, by rw [HTk.out]; exact HN6.out⟩
    case measure => simp [intOf]; omega
  case neg =>
    obtain rfl : k = l.length := by omega
    have hra : (l.take l.length).foldl (fun a x => addedL a (negN x)) m = refAll l m := by rw [List.take_length]; rfl
    rw [hra] at hln
    have HNa := Lib.hid (hra ▸ hn)
    obtain ⟨Ac, cc, rfl⟩ : ∃ A c, u6 = .slice A (refAll l m).length c := by obtain ⟨A, c, rfl, -⟩ := HNa.out; exact ⟨A, c, rfl⟩
    have HFin : Hid ((refAll l m).filter nonzero = refDiff l m) := rfl
    generalize refAll l m = acc at *
    have HW := Lib.hid (HB3.out.trans (HB.out.mono HB3.out.size))
    have hgw := heap_keep HB.out HQ.out
    have HGw := Lib.hid hgw
    have hAg : ∀ bA oA, Ac = some ⟨bA, oA, none⟩ → 0 < acc.length → bA ≠ g := fun bA oA e h0 e2 => by
      obtain ⟨b', o', e', d0, -⟩ := HNa.out.at_ 0 h0
      rw [e] at e'; cases e'
      subst e2
      rw [cell_of_heap HGw.out] at d0
      simp at d0
    have HAg := Lib.hid hAg
    clear hra hn hgw hAg hlt hk HN
    go_wp2_with fail
    go_loopw [7, 9] (fun v i W => ∃ j : Nat, j ≤ acc.length ∧ i = .int .i64 j ∧ RowKit.Below w.heap.size w W ∧ NodesL W (.slice Ac acc.length cc) acc ∧ W.ownsRow g 73 4 v ((acc.take j).filter nonzero).length (nodeVals ((acc.take j).filter nonzero)) ∧ g ≤ W.heap.size ∧ ∀ bA oA, Ac = some ⟨bA, oA, none⟩ → 0 < acc.length → v.ownBlock ≠ some bA) (fun _ i _ => acc.length - (intOf i).toNat)
    case atStart => exact ⟨0, Nat.zero_le _, rfl, HW.out, HNa.out, own_empty HGw.out (Nat.le_refl _), Nat.le_of_lt (Array.getElem?_eq_some_iff.1 HGw.out).1, fun bA oA e h0 e2 => HAg.out bA oA e h0 (by injection e2 with e2; exact e2.symm)⟩
    case round =>
    obtain ⟨j, hj, rfl, hb, hna, hown, hgs, hat⟩ := hrel
    have HB9 := Lib.hid hb
    have HN9 := Lib.hid hna
    have HO9 := Lib.hid hown
    have HG9 := Lib.hid hgs
    have HAt9 := Lib.hid hat
    clear hb hown hgs hat HW HNa HGw HAg
    by_cases hlt : j < acc.length
    case neg =>
      obtain rfl : j = acc.length := by omega
      have hnl := nodes_own HO9.out (by have := List.length_filter_le nonzero (acc.take acc.length); rw [List.length_take] at this; omega)
      rw [List.take_length, HFin.out] at hnl
      have HNl := Lib.hid hnl
      clear hnl hna
      go_wp2_with fail
      go_ret2
      refine ⟨HB9.out, _, 0, rfl, ?_⟩
      rw [if_neg (by rw [HRl.out, HRm.out]; simp)]
      exact ⟨rfl, HNl.out⟩
    case pos =>
    obtain ⟨bA, oA, hA, c0, c1, c2, c3⟩ := hna.at_ j hlt
    subst hA
    have htk : (acc.take (j + 1)).filter nonzero = (acc.take j).filter nonzero ++ (if nonzero acc[j] then [acc[j]] else []) := by
      rw [List.take_succ_eq_append_getElem hlt, List.filter_append]
      cases hz : nonzero acc[j] <;> simp [hz]
    have HTk := Lib.hid htk
    have hfl : ((acc.take j).filter nonzero).length ≤ 900000 := by have := List.length_filter_le nonzero (acc.take j); rw [List.length_take] at this; omega
    have hj0 : (0 : Int) ≤ (j : Int) := by omega
    have hj1 : (j : Int) < (acc.length : Int) := by omega
    have HbA : Hid (bA < wr.heap.size) := World.block_lt_of_cell? wr _ c0
    have hpos : Hid (0 < acc.length) := by unfold Hid; omega
    generalize acc[j] = x at *
    generalize (acc.take j).filter nonzero = fs at *
    have hnz : nonzero x = (x.count != 0 || (x.work != 0 || x.cycles != 0)) := rfl
    have HNz := Lib.hid hnz
    clear htk hna hnz
    cases hz : nonzero x with
    | false =>
      have hc : x.count = 0 ∧ x.work = 0 ∧ x.cycles = 0 := by have := HNz.out; rw [hz] at this; simp at this; exact ⟨by omega, by omega, by omega⟩
      obtain ⟨e1, e2, e3⟩ := hc
      rw [e1] at c1
      rw [e2] at c2
      rw [e3] at c3
      rw [hz] at HTk
      have HT2 := Lib.hid (show (acc.take (j + 1)).filter nonzero = fs by have := HTk.out; simpa using this)
      clear HTk e1 e2 e3
      go_wp2_with fail
      go_roundw
      case rel => exact ⟨j + 1, hlt, by go_num, HB9.out, HN9.out, by rw [HT2.out]; exact HO9.out, HG9.out, HAt9.out⟩
      case measure => simp [intOf]; omega
    | true =>
      rw [hz] at HTk
      have HT2 := Lib.hid (show (acc.take (j + 1)).filter nonzero = fs ++ [x] by have := HTk.out; simpa using this)
      clear HTk
      by_cases e1 : x.count = 0
      case neg =>
        go_wp2_with (at_builtin; go_loud (refine wpList_append_own_at rfl _ _ 29 rfl g 73 i0 _ 4 32 Tryz.underlying29 hi hz0 hz1 hz2 rfl (by omega) u7 _ _ rfl (HO9.out.alloc _) ⟨wr.heap.size, 0, none⟩ 1 1 (nodeCells x) rfl rfl (news_row wr (nodeCells x) 73) (one_nodes x) (by unfold maxLen; omega) (by omega) (by have := HG9.out; simp; omega) ?_); intro v' w3' ho' hg' hn' hat'; have HO2 := Lib.hid ho'; have HG2 := Lib.hid hg'; have HA2 := Lib.hid hat'; clear ho' hg' hn' hat')
        have hfin := diff_push x HB9.out HN9.out HO9.out HG9.out HBs.out (fun h => HAt9.out bA oA rfl hpos.out h) HG2.out HA2.out HO2.out (HbA.out)
        have HF9 := Lib.hid hfin
        clear hfin c0 c1 c2 c3
        go_roundw
        case rel => exact ⟨j + 1, hlt, by go_num, HF9.out.1, HF9.out.2.1, by rw [HT2.out]; exact HF9.out.2.2.1, HF9.out.2.2.2.1, fun bA' oA' e h0 => by cases e; exact HF9.out.2.2.2.2⟩
        case measure => simp [intOf]; omega
      obtain ⟨xn, xc, xw, xy⟩ := x
      obtain rfl : xc = 0 := e1
      by_cases e2 : xw = 0
      case neg =>
        go_wp2_with (at_builtin; go_loud (refine wpList_append_own_at rfl _ _ 29 rfl g 73 i0 _ 4 32 Tryz.underlying29 hi hz0 hz1 hz2 rfl (by omega) u7 _ _ rfl (HO9.out.alloc _) ⟨wr.heap.size, 0, none⟩ 1 1 (nodeCells ⟨xn, 0, xw, xy⟩) rfl rfl (news_row wr (nodeCells ⟨xn, 0, xw, xy⟩) 73) (one_nodes ⟨xn, 0, xw, xy⟩) (by unfold maxLen; omega) (by omega) (by have := HG9.out; simp; omega) ?_); intro v' w3' ho' hg' hn' hat'; have HO2 := Lib.hid ho'; have HG2 := Lib.hid hg'; have HA2 := Lib.hid hat'; clear ho' hg' hn' hat')
        have hfin := diff_push ⟨xn, 0, xw, xy⟩ HB9.out HN9.out HO9.out HG9.out HBs.out (fun h => HAt9.out bA oA rfl hpos.out h) HG2.out HA2.out HO2.out (HbA.out)
        have HF9 := Lib.hid hfin
        clear hfin c0 c1 c2 c3
        go_roundw
        case rel => exact ⟨j + 1, hlt, by go_num, HF9.out.1, HF9.out.2.1, by rw [HT2.out]; exact HF9.out.2.2.1, HF9.out.2.2.2.1, fun bA' oA' e h0 => by cases e; exact HF9.out.2.2.2.2⟩
        case measure => simp [intOf]; omega
      obtain rfl : xw = 0 := e2
      by_cases e3 : xy = 0
      case neg =>
        go_wp2_with (at_builtin; go_loud (refine wpList_append_own_at rfl _ _ 29 rfl g 73 i0 _ 4 32 Tryz.underlying29 hi hz0 hz1 hz2 rfl (by omega) u7 _ _ rfl (HO9.out.alloc _) ⟨wr.heap.size, 0, none⟩ 1 1 (nodeCells ⟨xn, 0, 0, xy⟩) rfl rfl (news_row wr (nodeCells ⟨xn, 0, 0, xy⟩) 73) (one_nodes ⟨xn, 0, 0, xy⟩) (by unfold maxLen; omega) (by omega) (by have := HG9.out; simp; omega) ?_); intro v' w3' ho' hg' hn' hat'; have HO2 := Lib.hid ho'; have HG2 := Lib.hid hg'; have HA2 := Lib.hid hat'; clear ho' hg' hn' hat')
        have hfin := diff_push ⟨xn, 0, 0, xy⟩ HB9.out HN9.out HO9.out HG9.out HBs.out (fun h => HAt9.out bA oA rfl hpos.out h) HG2.out HA2.out HO2.out (HbA.out)
        have HF9 := Lib.hid hfin
        clear hfin c0 c1 c2 c3
        go_roundw
        case rel => exact ⟨j + 1, hlt, by go_num, HF9.out.1, HF9.out.2.1, by rw [HT2.out]; exact HF9.out.2.2.1, HF9.out.2.2.2.1, fun bA' oA' e h0 => by cases e; exact HF9.out.2.2.2.2⟩
        case measure => simp [intOf]; omega
      have := HNz.out
      rw [hz] at this
      simp [e3] at this
end Go.Proofs.YtdkcjeaabbkdeaaGreatDoor
end
section
namespace Go.Proofs.YtdkcjeaabbkdeaaGreatDoor
open Go.RowKit Go.Shelf
set_option linter.unusedVariables false
set_option linter.unusedSimpArgs false
theorem insW_at {x : NodeC} : ∀ {acc : List NodeC} {j : Nat} (hj : j ≤ acc.length) (h1 : ∀ i (hi : i < acc.length), i < j → x.work ≤ acc[i].work) (h2 : ∀ h : j < acc.length, acc[j].work < x.work), insW acc x = acc.take j ++ x :: acc.drop j := by
  intro acc
  induction acc with
  | nil => intro j hj _ _; simp [insW]
  | cons a l ih =>
    intro j hj h1 h2
    cases j with
    | zero =>
      have := h2 (by simp)
      simp only [List.getElem_cons_zero] at this
      have hn : ¬ x.work ≤ a.work := by omega
      simp [insW, hn]
    | succ j =>
      have ha : x.work ≤ a.work := h1 0 (by simp) (by omega)
      have e : insW (a :: l) x = a :: insW l x := by simp [insW, ha]
      rw [e, ih (j := j) (by simpa using hj) (fun i hi hij => by have := h1 (i + 1) (by simp; omega) (by omega); simpa using this) (fun h => by have := h2 (by simp; omega); simpa using this)]
      simp
theorem insW_length (acc : List NodeC) (x : NodeC) : (insW acc x).length = acc.length + 1 := by
  rw [(insW_perm acc x).length_eq]; simp
theorem topFold_length (l : List NodeC) : ∀ acc : List NodeC, (l.foldl insW acc).length = acc.length + l.length := by
  induction l with
  | nil => intro acc; simp
  | cons a l ih => intro acc; rw [List.foldl_cons, ih, insW_length]; simp; omega
theorem nodeVals_append (a b : List NodeC) : nodeVals (a ++ b) = nodeVals a ++ nodeVals b := by simp [nodeVals]
theorem nodeVals_one : ∀ (l : List NodeC), ∀ u ∈ nodeVals l, u.oneCell' = true := by
  intro l u hu
  unfold nodeVals at hu
  obtain ⟨x, -, hx⟩ := List.mem_flatMap.1 hu
  exact one_nodes x u hx
theorem addr_plain (b off i : Nat) : (⟨b, off, none⟩ : Addr).add i = ⟨b, off + i, none⟩ := by unfold Addr.add; split <;> simp_all
/-- A part of a row: what stands at its place. -/
theorem own_part {w : World} {base g cap j : Nat} {l : List NodeC} (h : w.ownsRow base 73 4 (.slice (some ⟨g, 0, none⟩) l.length cap) l.length (nodeVals l)) (hj : j ≤ l.length) :
    (∀ i u, (nodeVals (l.take j))[i]? = some u → w.cell? ((⟨g, 0, none⟩ : Addr).add i) = some u) ∧ (∀ i u, (nodeVals (l.drop j))[i]? = some u → w.cell? ((⟨g, j * 4, none⟩ : Addr).add i) = some u) := by
  have e : nodeVals l = nodeVals (l.take j) ++ nodeVals (l.drop j) := by rw [← nodeVals_append, List.take_append_drop]
  have h1 : (nodeVals (l.take j)).length = j * 4 := by rw [nodeVals_length, List.length_take]; omega
  refine ⟨fun i u hu => ?_, fun i u hu => ?_⟩
  · have hi := (List.getElem?_eq_some_iff.1 hu).1
    have hc := h.cellAt i (by have := nodeVals_length l; rw [e, List.length_append] at this; omega)
    rw [e, List.getElem?_append_left hi, hu] at hc
    rw [addr_plain, Nat.zero_add]; exact hc
  · have hi := (List.getElem?_eq_some_iff.1 hu).1
    have hc := h.cellAt (j * 4 + i) (by have := nodeVals_length l; rw [e, List.length_append] at this; omega)
    rw [e, List.getElem?_append_right (by omega), h1, Nat.add_sub_cancel_left, hu] at hc
    rw [addr_plain]; exact hc

/-- A row of the call's own. -/
def Ow (n : Nat) (W : World) (v : Value) (xs : List NodeC) : Prop := W.ownsRow n 73 4 v xs.length (nodeVals xs) ∧ n ≤ W.heap.size ∧ v ≠ .slice none 0 0
theorem Ow.alloc {n : Nat} {W : World} {v : Value} {xs : List NodeC} (h : Ow n W v xs) (o : Obj) : Ow n (W.alloc o) v xs := ⟨h.1.alloc o, by rw [World.size_alloc]; exact Nat.le_succ_of_le h.2.1, h.2.2⟩
theorem ow_empty (n : Nat) (W : World) (h : n ≤ W.heap.size) : Ow n (W.alloc (.cells #[] 73)) (.slice (some ⟨W.heap.size, 0, none⟩) 0 0) [] :=
  ⟨own_empty (alloc_new W _) h, by rw [World.size_alloc]; exact Nat.le_succ_of_le h, by simp⟩
theorem bel1 {R W : World} {o : Obj} (h : RowKit.Below R.heap.size R W) : RowKit.Below R.heap.size R (W.alloc o) := h.alloc h.size o
theorem Ow.form {n : Nat} {W : World} {v : Value} {xs : List NodeC} (h : Ow n W v xs) : ∃ g cap, v = .slice (some ⟨g, 0, none⟩) xs.length cap ∧ n ≤ g ∧ g < W.heap.size ∧ xs.length ≤ cap := by
  rcases h.1.2 with ⟨e, -⟩ | ⟨g, cap, cur, rfl, h1, h2, h3, -⟩
  · exact absurd e h.2.2
  · exact ⟨g, cap, rfl, h1, (Array.getElem?_eq_some_iff.1 h2).1, h3⟩
theorem news_block {W : World} {b : Nat} {x : NodeC} (h : W.heap[b]? = some (.cells (nodeCells x).toArray 73)) : ∀ (j : Nat) (u : Value), (nodeVals [x])[j]? = some u → W.cell? ((⟨b, 0, none⟩ : Addr).add j) = some u := by
  intro j u hj
  rw [show (⟨b, 0, none⟩ : Addr).add j = ⟨b, j, none⟩ by unfold Addr.add; split <;> simp_all, cell_of_heap h]
  simpa [nodeVals] using hj
theorem step_app {ops : Array Oper} {o : Oper} {a : Act} {w : World} {K : Act → World → Prop} {Q : Exit → Act → World → Prop} {E : Prop} (hgd : o.guard = none) (s x : Operand) (ho : o.op = .call { callee := .builtin .append, args := #[s, x], argTypes := #[29, 29] })
    {R : World} (v : Value) (xs ys : List NodeC) (hs : a.eval s = v) (hO : Ow R.heap.size w v xs) (hR : RowKit.Below R.heap.size R w) (ad : Addr) (m c : Nat) (hm : ys.length = m) (hx : a.eval x = .slice (some ad) m c)
    (hnews : ∀ j u, (nodeVals ys)[j]? = some u → w.cell? (ad.add j) = some u) (hlen : xs.length + m ≤ 1000000)
    (h : ∀ v' w', Ow R.heap.size w' v' (xs ++ ys) → RowKit.Below R.heap.size R w' → (∀ k ob, w.heap[k]? = some ob → v.ownBlock ≠ some k → w'.heap[k]? = some ob) → (∀ k, v'.ownBlock = some k → v.ownBlock = some k ∨ w.heap.size ≤ k) → K (a.put o.dst v') w') :
    if Region.wanted o (yielded ops a.tmps) = true then Oper.wp Tryz.prog o a w K Q else E := by
  obtain ⟨i0, hi, hzz⟩ := Option.map_eq_some_iff.1 infoNode
  simp only [Prod.mk.injEq] at hzz
  obtain ⟨hz0, hz1, hz2⟩ := hzz
  refine step_append_own_at hgd s x 29 ho R.heap.size 73 i0 _ 4 32 Tryz.underlying29 hi hz0 hz1 hz2 rfl (by omega) v xs.length (nodeVals xs) hs hO.1 ad m c (nodeVals ys) hx (by rw [nodeVals_length, hm]) hnews (nodeVals_one ys) (by unfold maxLen; omega) (by omega) hO.2.1 ?_
  intro v' w' h1 h2 h3 h4
  refine h v' w' ⟨?_, Nat.le_trans hO.2.1 h2.size, fun e => hO.2.2 (h3.1 e).1⟩ (hR.grown h2 hO.2.1 (fun k hk => (hO.1.lt k hk).1)) (fun k ob hk hne => (h2.block k (Array.getElem?_eq_some_iff.1 hk).1 (fun e => hne e.symm)).trans hk) (fun k hk => ?_)
  · have e1 : (xs ++ ys).length = xs.length + m := by rw [List.length_append, hm]
    rw [e1, nodeVals_append]; exact h1
  · rcases h4 with h4 | h4
    · exact .inl (h4 ▸ hk)
    · rw [h4] at hk; injection hk with hk; exact .inr (by omega)
theorem Ow.nodes {n : Nat} {W : World} {v : Value} {xs : List NodeC} (h : Ow n W v xs) (hl : xs.length ≤ 1000000000) : NodesL W v xs := nodes_own h.1 hl
theorem Ow.below {n : Nat} {W W' : World} {v : Value} {xs : List NodeC} (h : Ow n W v xs) (hb : RowKit.Below W.heap.size W W') : Ow n W' v xs :=
  ⟨h.1.kept (row := none) ⟨hb.os, hb.tape, hb.output, hb.size, fun k hk _ => hb.block k hk⟩ (by cases v.ownBlock <;> simp), Nat.le_trans h.2.1 hb.size, h.2.2⟩
theorem Ow.mono {n n' : Nat} {W : World} {v : Value} {xs : List NodeC} (h : Ow n W v xs) (hn : n' ≤ n) : Ow n' W v xs := by
  obtain ⟨⟨h1, h2⟩, h3, h4⟩ := h
  refine ⟨⟨h1, ?_⟩, Nat.le_trans hn h3, h4⟩
  rcases h2 with h | ⟨g, cap, cur, e, hg, r⟩
  · exact .inl h
  · exact .inr ⟨g, cap, cur, e, Nat.le_trans hn hg, r⟩
def RefTopPost (l : List NodeC) (k : Int) (w : World) (e : Ending) (w' : World) : Prop := RowKit.Below w.heap.size w w' ∧ ∃ v err, e = .returned (.tuple #[v, .int .i64 err]) ∧
  if rightB l = false then err = 1 ∧ NodesL w' v [] else if k < 0 then err = 2 ∧ NodesL w' v [] else err = 0 ∧ NodesL w' v ((refTopAll l).take k.toNat)
set_option maxRecDepth 100000 in
set_option maxHeartbeats 4000000 in
theorem ref_top (l : List NodeC) (K : Int) (v : Value) (w : World) (hl : NodesL w v l) (hlen : l.length ≤ 400000) : Calls Tryz.prog 24 #[v, .int .i64 K] w (RefTopPost l K w) := by
  obtain ⟨A, ac, rfl, hm, -⟩ := hl.form
  have HR1 := Lib.hid (ref_right l _ w hl (by omega))
  have HL := Lib.hid hl
  clear hl
  go_enter Tryz.func24, Tryz.ntmps24
  go_wp2_with fail
  refine HR1.out.mono ?_
  rintro e w1 ⟨rfl, hb1⟩
  have HB1 := Lib.hid hb1
  clear hb1
  cases hrl : rightB l with
  | false =>
    have HRl := Lib.hid hrl
    go_wp2_with fail
    go_ret2
    refine ⟨HB1.out, _, 1, rfl, ?_⟩
    rw [if_pos HRl.out]
    exact ⟨rfl, nodesL_nil _ _ _⟩
  | true =>
  have HRl := Lib.hid hrl
  clear hrl
  by_cases hK : K < 0
  case pos =>
    go_wp2_with fail
    go_ret2
    refine ⟨HB1.out, _, 2, rfl, ?_⟩
    rw [if_neg (by rw [HRl.out]; simp), if_pos hK]
    exact ⟨rfl, nodesL_nil _ _ _⟩
  obtain ⟨kk, rfl⟩ : ∃ kk : Nat, K = (kk : Int) := ⟨K.toNat, by omega⟩
  go_wp2_with fail
  have HO3 := Lib.hid (ow_empty w.heap.size w1 HB1.out.size)
  have HB3 := Lib.hid (HB1.out.alloc HB1.out.size (.cells #[] 73))
  generalize hw3 : w1.alloc (.cells #[] 73) = w3 at *
  generalize w1.heap.size = g0 at *
  clear hw3
  go_loopw [6, 7, 8] (fun v i _ wr => ∃ k : Nat, k ≤ l.length ∧ i = .int .i64 k ∧ RowKit.Below w.heap.size w wr ∧ Ow w.heap.size wr v ((l.take k).foldl insW [])) (fun _ i _ _ => l.length - (intOf i).toNat)
  case atStart => exact ⟨0, Nat.zero_le _, rfl, HB3.out, HO3.out⟩
  case round =>
  obtain ⟨k, hk, rfl, hb, hown⟩ := hrel
  have HB := Lib.hid hb
  have HOw := Lib.hid hown
  have hln : ((l.take k).foldl insW []).length = k := by rw [topFold_length, List.length_take]; simp; omega
  have HLn := Lib.hid hln
  clear hb hown
  by_cases hlt : k < l.length
  case neg =>
    obtain rfl : k = l.length := by omega
    have hra : (l.take l.length).foldl insW [] = refTopAll l := by rw [List.take_length]; rfl
    rw [hra] at HOw HLn
    have HNa := Lib.hid (HOw.out.nodes (by rw [HLn.out]; omega))
    obtain ⟨g, cap, hu, -, -, hcap⟩ := HOw.out.form
    rw [HLn.out] at hu hcap
    subst hu
    clear hra
    have hm0 : (0 : Int) ≤ min (kk : Int) (l.length : Int) := by omega
    have hm1 : min (kk : Int) (l.length : Int) ≤ (cap : Int) := by omega
    go_wp2_with fail
    go_ret2
    refine ⟨HB.out, _, 0, rfl, ?_⟩
    rw [if_neg (by rw [HRl.out]; simp), if_neg (by omega)]
    refine ⟨rfl, ?_⟩
    have h0 : (min (kk : Int) (l.length : Int)).toNat = min kk l.length := by omega
    rw [h0, Int.toNat_natCast]
    have := nodesL_take HNa.out (min kk l.length) (by rw [HLn.out]; omega) cap (by omega)
    have e : (refTopAll l).take (min kk l.length) = (refTopAll l).take kk := by rw [List.take_eq_take_iff, HLn.out]; omega
    rwa [e] at this
  case pos =>
    have htk : (l.take (k + 1)).foldl insW [] = insW ((l.take k).foldl insW []) l[k] := foldl_take_succ _ _ _ _ hlt
    have HTk := Lib.hid htk
    obtain ⟨b, off, rfl, c0, c1, c2, c3⟩ := (HL.out.below HB.out).at_ k hlt
    generalize (l.take k).foldl insW [] = acc at *
    generalize l[k] = x at *
    obtain ⟨g, cap, hu6, hg0, hg1, hcap⟩ := HOw.out.form
    have HTk2 := Lib.hid htk
    clear htk HTk
    rw [HLn.out] at hu6 hcap
    subst hu6
    have HG0 := Lib.hid hg0
    have HG1 := Lib.hid hg1
    have HX := Lib.hid (fun W (h : RowKit.Below wr.heap.size wr W) => And.intro (cell_keep h c0) (And.intro (cell_keep h c1) (And.intro (cell_keep h c2) (cell_keep h c3))))
    have HN := Lib.hid (HOw.out.nodes (by rw [HLn.out]; omega))
    have hk0 : (0 : Int) ≤ (k : Int) := by omega
    have hk1 : (k : Int) < (l.length : Int) := by omega
    clear c0 c1 c2 c3 hg0 hg1
    go_wp2_with fail
    generalize wr = wq at *
    go_loopw [8] (fun i wr => ∃ j : Nat, j ≤ k ∧ i = .int .i64 j ∧ RowKit.Below wq.heap.size wq wr ∧ ∀ i (hi : i < acc.length), i < j → x.work ≤ acc[i].work) (fun i _ => k - (intOf i).toNat)
    case atStart => exact ⟨0, Nat.zero_le _, rfl, RowKit.Below.refl _ _, fun i _ h => absurd h (by omega)⟩
    case round =>
    obtain ⟨j, hj, rfl, hbq, hall⟩ := hrel
    have HBq := Lib.hid hbq
    have HAll := Lib.hid hall
    obtain ⟨x0, x1, x2, x3⟩ := HX.out wr hbq
    clear hall
    by_cases hgo : j < k ∧ ∀ h : j < acc.length, x.work ≤ acc[j].work
    case pos =>
      obtain ⟨hjk, hw0⟩ := hgo
      have hja : j < acc.length := by rw [HLn.out]; exact hjk
      obtain ⟨b', off', e', a0, a1, a2, a3⟩ := (HN.out.below hbq).at_ j hja
      cases e'
      rw [Nat.zero_add] at a2
      have hw := hw0 hja
      have hj0 : (0 : Int) ≤ (j : Int) := by omega
      have hj1 : (j : Int) < (k : Int) := by omega
      have HWw := Lib.hid (fun i hi h2 => if e : i = j then (by subst e; exact hw) else HAll.out i hi (by omega) : ∀ i (hi : i < acc.length), i < j + 1 → x.work ≤ acc[i].work)
      generalize acc[j] = y at *
      clear hbq a0 a1 a3 x0 x1 x3 hw0
      have hw' : ¬ y.work < x.work := by omega
      go_upto_region 10 with (fail)
      go_quiet (fail)
      go_wp2_with fail
      go_roundw
      case rel => exact ⟨j + 1, hjk, by go_num, HBq.out.trans ((below_drewN wr nq).mono HBq.out.size), HWw.out⟩
      case measure => simp [intOf]; omega
    case neg =>
    have HWw : Hid (insW acc x = acc.take j ++ x :: acc.drop j) := insW_at (x := x) (acc := acc) (j := j) (by rw [HLn.out]; exact hj) HAll.out (fun h => by
      refine Int.not_le.1 fun hle => hgo ⟨by rw [← HLn.out]; exact h, fun _ => hle⟩)
    have hcase : (j : Int) = (k : Int) ∨ ((j : Int) < (k : Int) ∧ ∃ y : NodeC, wr.cell? ⟨g, j * 4 + 2, none⟩ = some (.int .i64 y.work) ∧ y.work < x.work) := by
      by_cases hjk : j < k
      · have hja : j < acc.length := by rw [HLn.out]; exact hjk
        obtain ⟨b', off', e', a0, a1, a2, a3⟩ := (HN.out.below hbq).at_ j hja
        cases e'
        rw [Nat.zero_add] at a2
        exact .inr ⟨by omega, acc[j], a2, Int.not_le.1 fun hle => hgo ⟨hjk, fun _ => hle⟩⟩
      · exact .inl (by omega)
    clear hgo
    have hj0 : (0 : Int) ≤ (j : Int) := by omega
    clear x0 x1 x3
    rcases hcase with hjk | ⟨hjk, y, a2, hw⟩
    case' inl =>
      have hjl : ¬ (j : Int) < (k : Int) := by omega
      clear hbq x2 hjk
      go_upto_region 10 with (fail)
      go_quiet (fail)
      go_wp2_with fail
    case' inr =>
      have hw' : ¬ x.work ≤ y.work := by omega
      clear hbq
      go_upto_region 10 with (fail)
      go_quiet (fail)
      go_wp2_with fail
      clear a2 x2 hw hw' hjk
    all_goals
      have HBr := Lib.hid (HBq.out.trans ((below_drewN wr nq).mono HBq.out.size))
      generalize wr.drewN nq = R at *
      have HXr := Lib.hid (fun W (h : RowKit.Below R.heap.size R W) => HX.out W (HBr.out.trans (h.mono HBr.out.size)))
      have HP := Lib.hid (fun W (h : RowKit.Below R.heap.size R W) => own_part (cap := cap) (g := g) (j := j) (base := w.heap.size) (l := acc) (w := W) (by have h1 := (HOw.out.below (HBr.out.trans (h.mono HBr.out.size))).1; rw [HLn.out] at h1 ⊢; exact h1) (by rw [HLn.out]; exact hj))
      have HT1 : Hid ((acc.take j).length = j) := by unfold Hid; rw [List.length_take, HLn.out]; omega
      have HT2 : Hid ((acc.drop j).length = k - j) := by unfold Hid; rw [List.length_drop, HLn.out]
      have hjcap : k ≤ cap := hcap
      obtain ⟨ad, had, hadc⟩ : ∃ ad : Addr, (if cap = j then some (⟨g, 0, none⟩ : Addr) else some ⟨g, j * 4, none⟩) = some ad ∧ ∀ W, RowKit.Below R.heap.size R W → ∀ i u, (nodeVals (acc.drop j))[i]? = some u → W.cell? (ad.add i) = some u := by
        by_cases hcj : cap = j
        · refine ⟨⟨g, 0, none⟩, by rw [if_pos hcj], fun W _ i u hu => ?_⟩
          have : acc.drop j = [] := List.eq_nil_of_length_eq_zero (by rw [HT2.out]; omega)
          rw [this] at hu; simp [nodeVals] at hu
        · exact ⟨⟨g, j * 4, none⟩, by rw [if_neg hcj], fun W hW => (HP.out W hW).2⟩
      have HAd := Lib.hid had
      have HAdc := Lib.hid hadc
      have hjc : (j : Int) ≤ (cap : Int) := by omega
      clear had hadc
      have hjk : (j : Int) ≤ (k : Int) := by omega
      have hkc : (k : Int) ≤ (cap : Int) := by omega
      have HOa := Lib.hid (ow_empty R.heap.size R.drew (Nat.le_refl _))
      have HOc := Lib.hid (show Ow R.heap.size ((R.drew.alloc (.cells (nodeCells x).toArray 73)).alloc (.cells #[] 73)) (.slice (some ⟨R.heap.size + 1, 0, none⟩) 0 0) [] by
        have h := ow_empty R.heap.size (R.drew.alloc (.cells (nodeCells x).toArray 73)) (by rw [World.size_alloc]; exact Nat.le_succ _)
        rw [World.size_alloc] at h; exact h)
      have HD := Lib.hid (below_drew R)
      have HXb := Lib.hid (show ((R.drew.alloc (.cells #[] 73)).alloc (.cells (nodeCells x).toArray 73)).heap[R.heap.size + 1]? = some (.cells (nodeCells x).toArray 73) by
        have h := alloc_new (R.drew.alloc (.cells #[] 73)) (.cells (nodeCells x).toArray 73)
        rw [World.size_alloc] at h; exact h)
      have HXc := Lib.hid (show ((R.drew.alloc (.cells (nodeCells x).toArray 73)).alloc (.cells #[] 73)).heap[R.heap.size]? = some (.cells (nodeCells x).toArray 73) from heap_alloc (alloc_new R.drew _) _)
      simp only [nodeCells] at HOc HXb HXc
      go_upto_region 12 with (fail)
      go_region_held3 (fun W => W.cell? ⟨b, off + k * 4, none⟩ = some (.int .i64 x.node) ∧ W.cell? ⟨b, off + k * 4 + 1, none⟩ = some (.int .i64 x.count) ∧ W.cell? ⟨b, off + k * 4 + 2, none⟩ = some (.int .i64 x.work) ∧ W.cell? ⟨b, off + k * 4 + 3, none⟩ = some (.int .i64 x.cycles)) (first | exact hHeld | exact HXr.out _ HD.out | exact HXr.out _ (bel1 HD.out) | exact HXr.out _ (bel1 (bel1 HD.out)) | exact HXr.out _ HB54.out | exact HXr.out _ HB50.out | exact HXr.out _ (bel1 HB44.out) | exact HXr.out _ HB44.out)
        (first
          | (refine step_app rfl _ _ rfl (R := R) (.slice (some ⟨R.heap.size, 0, none⟩) 0 0) [] (acc.take j) rfl (by first | exact HOa.out | exact HOa.out.alloc _) (by first | exact bel1 HD.out | exact bel1 (bel1 HD.out)) ⟨g, 0, none⟩ j cap HT1.out rfl (HP.out _ (by first | exact bel1 HD.out | exact bel1 (bel1 HD.out))).1 (by simp; omega) ?_; intro v44 w44 hO44 hb44 hk44 ho44; have HO44 := Lib.hid (show Ow R.heap.size w44 v44 (acc.take j) from hO44); have HB44 := Lib.hid hb44; have HK44 := Lib.hid hk44; clear hO44 hb44 hk44 ho44)
          | (refine step_app rfl _ _ rfl (R := R) (.slice (some ⟨R.heap.size + 1, 0, none⟩) 0 0) [] (acc.take j) rfl HOc.out (bel1 (bel1 HD.out)) ⟨g, 0, none⟩ j cap HT1.out rfl (HP.out _ (bel1 (bel1 HD.out))).1 (by simp; omega) ?_; intro v44 w44 hO44 hb44 hk44 ho44; have HO44 := Lib.hid (show Ow R.heap.size w44 v44 (acc.take j) from hO44); have HB44 := Lib.hid hb44; have HK44 := Lib.hid hk44; clear hO44 hb44 hk44 ho44)
          | (refine step_app rfl _ _ rfl (R := R) v44 (acc.take j) [x] rfl (HO44.out.alloc _) (bel1 HB44.out) ⟨w44.heap.size, 0, none⟩ 1 1 rfl rfl (news_block (alloc_new w44 _)) (by rw [HT1.out]; omega) ?_; intro v50 w50 hO50 hb50 hk50 ho50; have HO50 := Lib.hid hO50; have HB50 := Lib.hid hb50; clear hO50 hb50 hk50 ho50)
          | (refine step_app rfl _ _ rfl (R := R) v44 (acc.take j) [x] rfl HO44.out HB44.out ⟨R.heap.size + 1, 0, none⟩ 1 1 rfl rfl (news_block (HK44.out _ _ HXb.out (by simp [Value.ownBlock]))) (by rw [HT1.out]; omega) ?_; intro v50 w50 hO50 hb50 hk50 ho50; have HO50 := Lib.hid hO50; have HB50 := Lib.hid hb50; clear hO50 hb50 hk50 ho50)
          | (refine step_app rfl _ _ rfl (R := R) v44 (acc.take j) [x] rfl HO44.out HB44.out ⟨R.heap.size, 0, none⟩ 1 1 rfl rfl (news_block (HK44.out _ _ HXc.out (by simp [Value.ownBlock]))) (by rw [HT1.out]; omega) ?_; intro v50 w50 hO50 hb50 hk50 ho50; have HO50 := Lib.hid hO50; have HB50 := Lib.hid hb50; clear hO50 hb50 hk50 ho50)
          | (refine step_app rfl _ _ rfl (R := R) v50 (acc.take j ++ [x]) (acc.drop j) rfl HO50.out HB50.out ad (k - j) (cap - j) HT2.out (congrArg (fun z => Value.slice z (k - j) (cap - j)) HAd.out) (HAdc.out _ HB50.out) (by rw [List.length_append, HT1.out]; simp; omega) ?_; intro v54 w54 hO54 hb54 hk54 ho54; have HO54 := Lib.hid hO54; have HB54 := Lib.hid hb54; clear hO54 hb54 hk54 ho54))
    all_goals
      go_wp2_with fail
      go_roundw
      case rel => exact ⟨k + 1, hlt, by go_num, HB.out.trans ((HBr.out.trans (HB54.out.mono HBr.out.size)).mono HB.out.size), by
        rw [HTk2.out, HWw.out]
        have h := HO54.out.mono (n' := w.heap.size) (Nat.le_trans HB.out.size HBr.out.size)
        rw [List.append_assoc] at h; exact h⟩
      case measure => simp [intOf]; omega
end Go.Proofs.YtdkcjeaabbkdeaaGreatDoor
end
