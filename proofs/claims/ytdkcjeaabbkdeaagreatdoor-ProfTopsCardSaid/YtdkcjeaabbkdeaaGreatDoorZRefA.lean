/- The reference: what a right list is; added; Diff and Top. The reference: added. -/
import Derived.Test.YtdkcjeaabbkdeaaGreatDoorZTextW
import Derived.Test.YtdkcjeaabbkdeaaGreatDoorZMapF
import Derived.Test.YtdkcjeaabbkdeaaGreatDoorZDiffW
import Derived.Deep.CutRange
set_option linter.unusedVariables false
set_option linter.unusedSimpArgs false
set_option linter.unnecessarySimpa false
set_option linter.unusedSectionVars false
section
namespace Go.Proofs.YtdkcjeaabbkdeaaGreatDoor
open Go.RowKit Go.Shelf
set_option linter.unusedVariables false
set_option linter.unusedSimpArgs false
set_option maxRecDepth 100000 in
set_option maxHeartbeats 1000000 in
theorem ref_same (l m : List NodeC) (vl vm : Value) (w : World) (hl : NodesL w vl l) (hm : NodesL w vm m) : Calls Tryz.prog 19 #[vl, vm] w (Gives w (.bool (decide (l = m)))) := by
  obtain ⟨A, ac, rfl, hma, -⟩ := hl.form
  obtain ⟨B, bc, rfl, hmb, -⟩ := hm.form
  have HL := Lib.hid hl
  have HM := Lib.hid hm
  have HQ : Hid (((l.length : Int) == (m.length : Int)) = decide (l.length = m.length)) := by unfold Hid; rw [len_beq]; rw [Bool.eq_iff_iff]; simp
  clear hl hm
  go_enter Tryz.func19, Tryz.ntmps19
  go_wp2_with fail
  rw [HQ.out]
  go_loopw [5, 6] (fun b i wr => Below w.heap.size w wr ∧ ∃ k : Nat, k ≤ l.length ∧ i = .int .i64 k ∧ b = .bool (decide (l.length = m.length) && decide (l.take k = m.take k)) ) (fun _ i _ => l.length - (intOf i).toNat)
  case atStart => exact ⟨Below.refl _ _, 0, Nat.zero_le _, rfl, by simp⟩
  case round =>
  obtain ⟨hb, k, hk, rfl, rfl⟩ := hrel
  have HB := Lib.hid hb
  clear hb
  cases hbb : (decide (l.length = m.length) && decide (l.take k = m.take k)) with
  | false =>
    have hno := same_no l m k hbb
    have HN := Lib.hid hno
    clear hno
    go_wp2_with fail
    go_ret
    rw [HN.out]
    exact ⟨rfl, HB.out⟩
  | true =>
    have HBB := Lib.hid hbb
    clear hbb
    by_cases hlt : k < l.length
    case neg =>
      obtain rfl : k = l.length := by omega
      have HN := Lib.hid (same_yes l m HBB.out)
      go_wp2_with fail
      go_ret
      rw [HN.out]
      exact ⟨rfl, HB.out⟩
    case pos =>
      obtain ⟨hlen, htk⟩ : l.length = m.length ∧ l.take k = m.take k := by have := HBB.out; simpa only [Bool.and_eq_true, decide_eq_true_eq] using this
      have hkm : k < m.length := by omega
      have HT := Lib.hid (take_beq l m k hlt hkm)
      have HE := Lib.hid (And.intro hlen htk)
      obtain ⟨b, off, rfl, c0, c1, c2, c3⟩ := (HL.out.below HB.out).at_ k hlt
      obtain ⟨b', off', rfl, d0, d1, d2, d3⟩ := (HM.out.below HB.out).at_ k hkm
      have hk0 : (0 : Int) ≤ (k : Int) := by omega
      have hk1 : (k : Int) < (l.length : Int) := by omega
      have hk2 : (k : Int) < (m.length : Int) := by omega
      clear hlen htk
      generalize l[k] = x at *
      generalize m[k] = y at *
      have heq := eql_node x y
      simp only [nodeCells] at heq
      go_upto_region 5 with (fail)
      go_quiet (fail)
      go_wp2_with fail
      have HDr := below_drewN wr nq
      refine ⟨⟨HB.out.trans (HDr.mono HB.out.size), k + 1, hlt, by go_num, ?_⟩, by simp [intOf]; omega⟩
      rw [HT.out, decide_eq_true HE.out.1, decide_eq_true HE.out.2, Bool.true_and, Bool.true_and]


set_option maxRecDepth 100000 in
set_option maxHeartbeats 2000000 in
theorem ref_right (l : List NodeC) (v : Value) (w : World) (hl : NodesL w v l) (hlen : l.length ≤ 1000000000) : Calls Tryz.prog 70 #[v] w (Gives w (.bool (rightB l))) := by
  obtain ⟨A, ac, rfl, hm, -⟩ := hl.form
  have HL := Lib.hid hl
  clear hl
  go_enter Tryz.func70, Tryz.ntmps70
  go_wp2_with fail
  go_loopw [3, 4] (fun i _ wr => Below w.heap.size w wr ∧ ∃ k : Nat, k ≤ l.length ∧ i = .int .i64 k ∧ ∀ j, j < k → rightAt l j = true) (fun i _ _ => l.length - (intOf i).toNat)
  case atStart => exact ⟨Below.refl _ _, 0, Nat.zero_le _, rfl, fun j h => absurd h (by omega)⟩
  case round =>
  obtain ⟨hb, k, hk, rfl, hall⟩ := hrel
  have HB := Lib.hid hb
  have HAll := Lib.hid hall
  clear hb hall
  by_cases hlt : k < l.length
  case neg =>
    obtain rfl : k = l.length := by omega
    have hy := rightB_yes HAll.out
    have HY := Lib.hid hy
    clear hy
    go_wp2_with fail
    go_ret
    rw [HY.out]
    exact ⟨rfl, HB.out⟩
  case pos =>
    obtain ⟨b, off, rfl, c0, c1, c2, c3⟩ := (HL.out.below HB.out).at_ k hlt
    have hpre : ∀ (h : 0 < k), wr.cell? ⟨b, off + (k - 1) * 4, none⟩ = some (.int .i64 (l.getD (k - 1) ⟨0, 0, 0, 0⟩).node) := fun h => by
      obtain ⟨b', off', e, d0, -⟩ := (HL.out.below HB.out).at_ (k - 1) (by omega)
      cases e
      rw [List.getD_eq_getElem?_getD, List.getElem?_eq_getElem (by omega)]
      exact d0
    have hra : rightAt l k = rightC k l[k] (l.getD (k - 1) ⟨0, 0, 0, 0⟩).node := by unfold rightAt; rw [List.getD_eq_getElem?_getD, List.getElem?_eq_getElem hlt]; rfl
    have HRa := Lib.hid hra
    have HPre := Lib.hid hpre
    have HNo := Lib.hid (fun h => rightB_no (l := l) hlt h)
    generalize (l.getD (k - 1) ⟨0, 0, 0, 0⟩).node = z at *
    generalize l[k] = x at *
    have hbx := below1 wr (.cells #[.int .i64 x.node, .int .i64 x.count, .int .i64 x.work, .int .i64 x.cycles] 73)
    have hq := Lib.hid (alloc_new wr (.cells #[.int .i64 x.node, .int .i64 x.count, .int .i64 x.work, .int .i64 x.cycles] 73))
    have HBW := Lib.hid (below_step HB.out hbx)
    have hk0 : (0 : Int) ≤ (k : Int) := by omega
    have hk1 : (k : Int) < (l.length : Int) := by omega
    clear hra hpre
    go_upto_region 5 with (fail)
    clear c0 c1 c2 c3
    have hpre2 : Hid (∀ (h : 0 < k), (wr.alloc (.cells #[.int .i64 x.node, .int .i64 x.count, .int .i64 x.work, .int .i64 x.cycles] 73)).cell? ⟨b, off + (k - 1) * 4, none⟩ = some (.int .i64 z)) := fun h => cell_alloc (HPre.out h) _
    clear HPre hbx
    generalize wr.alloc (.cells #[.int .i64 x.node, .int .i64 x.count, .int .i64 x.work, .int .i64 x.cycles] 73) = wx at *
    generalize hqb : wr.heap.size = q at *
    have q0 := (block_cell hq.out 0 (by simp)).1
    have q1 := (block_cell hq.out 1 (by simp)).1
    have q2 := (block_cell hq.out 2 (by simp)).1
    have q3 := (block_cell hq.out 3 (by simp)).1
    simp only [List.getElem_toArray, List.getElem_cons_zero, List.getElem_cons_succ] at q0 q1 q2 q3
    by_cases h1 : x.node < -1
    · go_quiet (fail)
      go_wp2_with fail
      go_ret
      rw [HNo.out (by rw [HRa.out]; unfold rightC; simp; omega)]
      exact ⟨rfl, HBW.out.trans ((below_drewN wx nq).mono HBW.out.size)⟩
    by_cases h2 : x.count < 0
    · go_quiet (fail)
      go_wp2_with fail
      go_ret
      rw [HNo.out (by rw [HRa.out]; unfold rightC; simp; omega)]
      exact ⟨rfl, HBW.out.trans ((below_drewN wx nq).mono HBW.out.size)⟩
    by_cases h3 : x.work < 0
    · go_quiet (fail)
      go_wp2_with fail
      go_ret
      rw [HNo.out (by rw [HRa.out]; unfold rightC; simp; omega)]
      exact ⟨rfl, HBW.out.trans ((below_drewN wx nq).mono HBW.out.size)⟩
    by_cases h4 : x.cycles < 0
    · go_quiet (fail)
      go_wp2_with fail
      go_ret
      rw [HNo.out (by rw [HRa.out]; unfold rightC; simp; omega)]
      exact ⟨rfl, HBW.out.trans ((below_drewN wx nq).mono HBW.out.size)⟩
    by_cases h5 : 0 < k
    · have p0 := hpre2.out h5
      have hp5 : (0 : Int) < (k : Int) := by omega
      have hp6 : (0 : Int) ≤ (k : Int) - 1 := by omega
      have hp7 : (k : Int) - 1 < (l.length : Int) := by omega
      have hp8 : ((k : Int) - 1).toNat = k - 1 := by omega
      by_cases h6 : x.node ≤ z
      · go_quiet (fail)
        go_wp2_with fail
        go_ret
        rw [HNo.out (by rw [HRa.out]; unfold rightC; simp; omega)]
        exact ⟨rfl, HBW.out.trans ((below_drewN wx nq).mono HBW.out.size)⟩
      · go_quiet (fail)
        go_wp2_with fail
        go_roundw
        case rel =>
          refine ⟨HBW.out.trans ((below_drewN wx nq).mono HBW.out.size), k + 1, hlt, by go_num, fun j h => ?_⟩
          by_cases e : j = k
          · subst e; rw [HRa.out]; unfold rightC; simp; omega
          · exact HAll.out j (by omega)
        case measure => simp [intOf]; omega
    · have hp5 : ¬ (0 : Int) < (k : Int) := by omega
      go_quiet (fail)
      go_wp2_with fail
      go_roundw
      case rel =>
        refine ⟨HBW.out.trans ((below_drewN wx nq).mono HBW.out.size), k + 1, hlt, by go_num, fun j h => ?_⟩
        by_cases e : j = k
        · subst e; rw [HRa.out]; unfold rightC; simp; omega
        · exact HAll.out j (by omega)
      case measure => simp [intOf]; omega
end Go.Proofs.YtdkcjeaabbkdeaaGreatDoor
end
section
namespace Go.Proofs.YtdkcjeaabbkdeaaGreatDoor
open Go.RowKit Go.Shelf
set_option linter.unusedVariables false
set_option linter.unusedSimpArgs false
/-- What stands in the row that is made. -/
def AddR (w : World) (x : NodeC) (s : List NodeC × Bool) (v : Value) (W : World) : Prop := RowKit.Below w.heap.size w W ∧ W.heap[w.heap.size]? = some (.cells (nodeCells x).toArray 73) ∧ W.ownsRow (w.heap.size + 1) 73 4 v s.1.length (nodeVals s.1) ∧ w.heap.size + 1 ≤ W.heap.size
theorem AddR.below {w W W' : World} {x : NodeC} {s : List NodeC × Bool} {v : Value} (h : AddR w x s v W) (hb : RowKit.Below W.heap.size W W') : AddR w x s v W' := by
  obtain ⟨h1, h2, h3, h4⟩ := h
  exact ⟨below_into h1 h1.size hb, heap_keep hb h2, h3.kept (row := none) ⟨hb.os, hb.tape, hb.output, hb.size, fun k hk _ => hb.block k hk⟩ (by cases v.ownBlock <;> simp), Nat.le_trans h4 hb.size⟩
theorem AddR.push {w W W7 : World} {x y : NodeC} {s : List NodeC × Bool} {v v' : Value} {t : Bool} (h : AddR w x s v W) (hg : W.grownBy W7 v.ownBlock) (ho : W7.ownsRow (w.heap.size + 1) 73 4 v' (s.1.length + 1) (nodeVals s.1 ++ nodeCells y)) : AddR w x (s.1 ++ [y], t) v' W7 := by
  obtain ⟨h1, h2, h3, h4⟩ := h
  have hlt : ∀ k, v.ownBlock = some k → w.heap.size + 1 ≤ k := fun k hk => (h3.lt k hk).1
  refine ⟨h1.grown hg h1.size (fun j hj => by have := hlt j hj; omega), (hg.block _ (Array.getElem?_eq_some_iff.1 h2).1 (fun e => by have := hlt _ e.symm; omega)).trans h2, ?_, Nat.le_trans h4 hg.size⟩
  have e1 : (s.1 ++ [y]).length = s.1.length + 1 := by simp
  have e2 : nodeVals (s.1 ++ [y]) = nodeVals s.1 ++ nodeCells y := by simp [nodeVals]
  show W7.ownsRow _ _ _ v' (s.1 ++ [y]).length (nodeVals (s.1 ++ [y]))
  rw [e1, e2]; exact ho
theorem own_empty {W : World} {base e k g : Nat} (h : W.heap[g]? = some (.cells #[] e)) (hb : base ≤ g) : W.ownsRow base e k (.slice (some ⟨g, 0, none⟩) 0 0) 0 [] :=
  ⟨by simp, .inr ⟨g, 0, #[], rfl, hb, h, Nat.le_refl _, by unfold maxLen; omega, by simp, by simp⟩⟩
theorem one_nodes (x : NodeC) : ∀ u ∈ nodeCells x, u.oneCell' = true := by intro u hu; simp [nodeCells] at hu; rcases hu with rfl | rfl | rfl | rfl <;> rfl
theorem wpList_append_own_at {P : Program} {ops : Array Oper} {rest : List Oper} {o : Oper} {a : Act} {w : World} {Q : Exit → Act → World → Prop} (hgd : o.guard = none) (s x : Operand) (t : TypeId) (ho : o.op = .call { callee := .builtin .append, args := #[s, x], argTypes := #[t, t] })
    (base : Nat) (e : TypeId) (i : TypeInfo) (z : Value) (size bytes : Nat) (ht : P.underlying t = some (.slice e)) (hi : P.info? e = some i) (hz : i.zero = some z)
    (hsize : i.size = size) (hby : i.bytes = bytes) (hzs : z.cells.size = size) (hsz : 0 < size)
    (v : Value) (n : Nat) (xs : List Value) (hs : a.eval s = v) (hown : w.ownsRow base e size v n xs)
    (ad : Addr) (m c : Nat) (news : List Value) (hx : a.eval x = .slice (some ad) m c) (hl : news.length = m * size) (hnews : ∀ j u, news[j]? = some u → w.cell? (ad.add j) = some u) (h1 : ∀ u ∈ news, u.oneCell' = true)
    (h63 : n + m ≤ maxLen) (hbytes : (n + m) * bytes ≤ 140737488355328) (hbase : base ≤ w.heap.size)
    (h : ∀ v' w', w'.ownsRow base e size v' (n + m) (xs ++ news) → w.grownBy w' v.ownBlock → (v' = .slice none 0 0 ↔ v = .slice none 0 0 ∧ m = 0) → (v'.ownBlock = v.ownBlock ∨ v'.ownBlock = some w.heap.size) → wpList P ops Q rest (a.put o.dst v') w') :
    wpList P ops Q (o :: rest) a w := wpList_plain hgd fun K hK => by
  have hw : Region.wanted o (yielded #[] a.tmps) = true := by simp [Region.wanted, hgd]
  have := step_append_own_at (P := P) (ops := #[]) (o := o) (a := a) (w := w) (K := K) (Q := Q) (E := True) hgd s x t ho base e i z size bytes ht hi hz hsize hby hzs hsz v n xs hs hown ad m c news hx hl hnews h1 h63 hbytes hbase (fun v' w' h2 h3 h4 h5 => hK _ _ (h v' w' h2 h3 h4 h5))
  rwa [if_pos hw] at this
theorem AddR.setQ {w W : World} {x : NodeC} {s : List NodeC × Bool} {v : Value} {q i : Nat} {u : Value} (h : AddR w x s v W) (hq : w.heap.size < q) (hr : ∀ k, v.ownBlock = some k → k ≠ q) : AddR w x s v (W.setCell ⟨q, i, none⟩ u) := by
  obtain ⟨h1, h2, h3, h4⟩ := h
  refine ⟨h1.setCell (p := ⟨q, i, none⟩) (by show w.heap.size ≤ q; omega) _, (Below.heap_setCell _ _ _ _ (by simp; omega)).trans h2, ?_, by rw [World.size_setCell]; exact h4⟩
  refine ⟨h3.1, ?_⟩
  rcases h3.2 with h | ⟨g, cap, cur, rfl, hg, hc, r⟩
  · exact .inl h
  · exact .inr ⟨g, cap, cur, rfl, hg, (Below.heap_setCell _ _ _ _ (hr g rfl)).trans hc, r⟩
theorem nodes_own {w : World} {base : Nat} {v : Value} {l : List NodeC} (h : w.ownsRow base 73 4 v l.length (nodeVals l)) (hl : l.length ≤ 1000000000) : NodesL w v l := by
  rcases h.2 with ⟨rfl, h0⟩ | ⟨g, cap, cur, rfl, -, hh, hc1, -⟩
  · have : l = [] := List.eq_nil_of_length_eq_zero h0
    subst this
    exact nodesL_nil _ _ _
  · refine ⟨some ⟨g, 0, none⟩, cap, rfl, by omega, fun j hj => ⟨g, 0, nodeCells l[j], rfl, rfl, fun i hi => ?_, rfl⟩⟩
    have hi4 : i < 4 := by simpa [nodeCells] using hi
    have hc := h.cellAt (j * 4 + i) (by omega)
    have := flat4_get nodeCells (fun _ => rfl) l j i hj hi4
    unfold nodeVals at hc
    rw [this, List.getElem?_eq_getElem hi] at hc
    simpa using hc
def addS1 (x : NodeC) (s : List NodeC × Bool) (y : NodeC) : List NodeC × Bool := if s.2 = false ∧ x.node < y.node then (s.1 ++ [x], true) else s
def addY (x y : NodeC) : NodeC := if x.node = y.node then plusN y x else y
theorem addStep_eq (x : NodeC) (s : List NodeC × Bool) (y : NodeC) : addStep x s y = ((addS1 x s y).1 ++ [addY x y], decide (x.node = y.node) || (addS1 x s y).2) := by
  unfold addStep addY
  show (if x.node = y.node then ((addS1 x s y).1 ++ [plusN y x], true) else ((addS1 x s y).1 ++ [y], (addS1 x s y).2)) = _
  split <;> simp_all
theorem addS1_length (x : NodeC) (s : List NodeC × Bool) (y : NodeC) : (addS1 x s y).1.length ≤ s.1.length + 1 := by unfold addS1; split <;> simp
set_option maxRecDepth 100000 in
set_option maxHeartbeats 2000000 in
theorem ref_added (l : List NodeC) (x : NodeC) (v : Value) (w : World) (hl : NodesL w v l) (hlen : l.length ≤ 1000000) : Calls Tryz.prog 54 #[v, .agg (nodeCells x).toArray] w fun e w' => RowKit.Below w.heap.size w w' ∧ ∃ v', e = .returned v' ∧ NodesL w' v' (addedL l x) := by
  obtain ⟨A, ac, rfl, hm, -⟩ := hl.form
  have HL := Lib.hid hl
  clear hl
  have hb1 := below2 w (.cells (nodeCells x).toArray 73) (.cells #[] 73)
  have HR1 : Hid (AddR w x ([], false) (.slice (some ⟨w.heap.size + 1, 0, none⟩) 0 0) ((w.alloc (.cells (nodeCells x).toArray 73)).alloc (.cells #[] 73))) := by
    have h := alloc_new (w.alloc (.cells (nodeCells x).toArray 73)) (.cells #[] 73)
    rw [World.size_alloc] at h
    exact ⟨hb1, heap_alloc (alloc_new _ _) _, own_empty h (Nat.le_refl _), by simp⟩
  obtain ⟨i0, hi, hzz⟩ := Option.map_eq_some_iff.1 infoNode
  simp only [Prod.mk.injEq] at hzz
  obtain ⟨hz0, hz1, hz2⟩ := hzz
  clear hb1
  simp only [nodeCells] at HR1 ⊢
  go_enter Tryz.func54, Tryz.ntmps54
  go_wp2_with fail
  generalize (w.alloc (.cells #[.int .i64 x.node, .int .i64 x.count, .int .i64 x.work, .int .i64 x.cycles] 73)).alloc (.cells #[] 73) = w1 at *
  go_loopw [5, 6, 7, 8] (fun v d i _ wr => ∃ k : Nat, k ≤ l.length ∧ i = .int .i64 k ∧ d = .bool ((l.take k).foldl (addStep x) ([], false)).2 ∧ ((l.take k).foldl (addStep x) ([], false)).1.length ≤ 2 * k ∧ AddR w x ((l.take k).foldl (addStep x) ([], false)) v wr) (fun _ _ i _ _ => l.length - (intOf i).toNat)
  case atStart => exact ⟨0, Nat.zero_le _, rfl, rfl, Nat.le_refl _, HR1.out⟩
  case round =>
  obtain ⟨k, hk, rfl, rfl, hsl, hr⟩ := hrel
  have HR := Lib.hid hr
  clear hr HR1
  by_cases hlt : k < l.length
  case neg =>
    obtain rfl : k = l.length := by omega
    have hls := hsl
    have hfin : addedL l x = if ((l.take l.length).foldl (addStep x) ([], false)).2 = true then ((l.take l.length).foldl (addStep x) ([], false)).1 else ((l.take l.length).foldl (addStep x) ([], false)).1 ++ [x] := by rw [List.take_length]; rfl
    have HFin := Lib.hid hfin
    clear hfin
    generalize (l.take l.length).foldl (addStep x) ([], false) = s at *
    have hln : s.1.length ≤ 2000001 := by omega
    cases hsb : s.2 with
    | true =>
      have HFin := Lib.hid (show addedL l x = s.1 by have := HFin.out; rw [hsb, if_pos rfl] at this; exact this)
      have hnl := nodes_own HR.out.2.2.1 (by omega)
      have HNl := Lib.hid hnl
      clear hnl
      go_wp2_with fail
      go_ret
      rw [HFin.out]
      exact ⟨HR.out.1, _, rfl, HNl.out⟩
    | false =>
      have HFin := Lib.hid (show addedL l x = s.1 ++ [x] by have := HFin.out; rw [hsb, if_neg (by simp)] at this; exact this)
      have x0 := (block_cell HR.out.2.1 0 (by simp [nodeCells])).1
      have x1 := (block_cell HR.out.2.1 1 (by simp [nodeCells])).1
      have x2 := (block_cell HR.out.2.1 2 (by simp [nodeCells])).1
      have x3 := (block_cell HR.out.2.1 3 (by simp [nodeCells])).1
      simp only [nodeCells, List.getElem_toArray, List.getElem_cons_zero, List.getElem_cons_succ] at x0 x1 x2 x3
      go_wp2_with (at_builtin; refine wpList_append_own_at rfl _ _ 29 rfl (w.heap.size + 1) 73 i0 _ 4 32 Tryz.underlying29 hi hz0 hz1 hz2 rfl (by omega) u5 _ _ rfl (HR.out.2.2.1.alloc _) ⟨wr.heap.size, 0, none⟩ 1 1 (nodeCells x) rfl rfl (news_row wr (nodeCells x) 73) (one_nodes x) (by unfold maxLen; omega) (by omega) (by have := HR.out.2.2.2; simp; omega) ?_; intro v' w3' ho' hg' hn' hat'; have HO2 := Lib.hid ho'; have HG2 := Lib.hid hg'; clear ho' hg' hn' hat')
      have hp := (HR.out.below (below1 wr (.cells #[.int .i64 x.node, .int .i64 x.count, .int .i64 x.work, .int .i64 x.cycles] 73))).push (y := x) (t := true) HG2.out HO2.out
      have HP := Lib.hid hp
      have hnl := nodes_own hp.2.2.1 (by simp; omega)
      have HNl := Lib.hid hnl
      clear hp x0 x1 x2 x3 hnl
      go_ret
      rw [HFin.out]
      exact ⟨HP.out.1, _, rfl, HNl.out⟩
  case pos =>
    obtain ⟨b, off, rfl, c0, c1, c2, c3⟩ := (HL.out.below HR.out.1).at_ k hlt
    have htk : (l.take (k + 1)).foldl (addStep x) ([], false) = addStep x ((l.take k).foldl (addStep x) ([], false)) l[k] := foldl_take_succ _ _ _ _ hlt
    have HTk := Lib.hid htk
    clear htk
    generalize (l.take k).foldl (addStep x) ([], false) = s at *
    generalize l[k] = y at *
    have hk0 : (0 : Int) ≤ (k : Int) := by omega
    have hk1 : (k : Int) < (l.length : Int) := by omega
    have hby := below1 wr (.cells (nodeCells y).toArray 73)
    have HRy := Lib.hid (HR.out.below hby)
    have HQy := Lib.hid (alloc_new wr (.cells (nodeCells y).toArray 73))
    simp only [nodeCells] at HRy HQy
    clear hby
    go_upto_region 6 with (fail)
    clear c0 c1 c2 c3
    generalize wr.alloc (.cells #[.int .i64 y.node, .int .i64 y.count, .int .i64 y.work, .int .i64 y.cycles] 73) = wy at *
    generalize hq : wr.heap.size = q at *
    have HNx : Hid (w.heap.size < q) := by unfold Hid; have := (Array.getElem?_eq_some_iff.1 HR.out.2.1).1; omega
    have HNq : Hid (∀ k, u5.ownBlock = some k → k ≠ q) := fun k hk => by have := (HR.out.2.2.1.lt k hk).2; omega
    clear hq
    have HSl := Lib.hid hsl
    clear hsl
    have x0 := (block_cell HRy.out.2.1 0 (by simp [nodeCells])).1
    have y0 := (block_cell HQy.out 0 (by simp)).1
    simp only [nodeCells, List.getElem_toArray, List.getElem_cons_zero, List.getElem_cons_succ] at x0 y0
    have hs1 : addS1 x s y = if s.2 = false ∧ x.node < y.node then (s.1 ++ [x], true) else s := rfl
    have HS1 := Lib.hid hs1
    clear hs1
    generalize hs2 : s.2 = sb at *
    have HSb := Lib.hid hs2
    clear hs2
    go_cut [28] from 67 (fun v28 wx => v28 = .bool (!sb && decide (x.node < y.node)) ∧ wx = wy)
    case first =>
      cases sb
      · by_cases hc : x.node < y.node
        · go_wp2_with fail
          go_meet
          case rel => exact ⟨by simp [hc], rfl⟩
        · go_wp2_with fail
          go_meet
          case rel => exact ⟨by simp [hc], rfl⟩
      · go_wp2_with fail
        go_meet
        case rel => exact ⟨by simp, rfl⟩
    case rest =>
    obtain ⟨rfl, rfl⟩ := hcut
    clear x0 y0
    go_upto_if 28 with (fail)
    go_cut [5, 6, 28] from 67 (fun v6 d6 _ wx => d6 = .bool (addS1 x s y).2 ∧ AddR w x (addS1 x s y) v6 wx ∧ wx.heap[q]? = some (.cells #[.int .i64 y.node, .int .i64 y.count, .int .i64 y.work, .int .i64 y.cycles] 73) ∧ ∀ k, v6.ownBlock = some k → k ≠ q)
    case first =>
      cases hcb : (!sb && decide (x.node < y.node)) with
      | false =>
        have hs : addS1 x s y = s := by
          rw [HS1.out, if_neg]
          rintro ⟨a, b⟩
          subst a
          simp [b] at hcb
        go_wp2_with fail
        go_meet
        case rel => exact ⟨by rw [hs, HSb.out], by rw [hs]; exact HRy.out, HQy.out, HNq.out⟩
      | true =>
        have hs : addS1 x s y = (s.1 ++ [x], true) := by
          rw [HS1.out, if_pos]
          simp only [Bool.and_eq_true, Bool.not_eq_true', decide_eq_true_eq] at hcb
          exact hcb
        have hln : s.1.length ≤ 2000000 := by have := HSl.out; omega
        have x0 := (block_cell HRy.out.2.1 0 (by simp [nodeCells])).1
        have x1 := (block_cell HRy.out.2.1 1 (by simp [nodeCells])).1
        have x2 := (block_cell HRy.out.2.1 2 (by simp [nodeCells])).1
        have x3 := (block_cell HRy.out.2.1 3 (by simp [nodeCells])).1
        simp only [nodeCells, List.getElem_toArray, List.getElem_cons_zero, List.getElem_cons_succ] at x0 x1 x2 x3
        go_wp2_with (at_builtin; refine wpList_append_own_at rfl _ _ 29 rfl (w.heap.size + 1) 73 i0 _ 4 32 Tryz.underlying29 hi hz0 hz1 hz2 rfl (by omega) u5 _ _ rfl (HRy.out.2.2.1.alloc _) ⟨wc.heap.size, 0, none⟩ 1 1 (nodeCells x) rfl rfl (news_row wc (nodeCells x) 73) (one_nodes x) (by unfold maxLen; omega) (by omega) (by have := HRy.out.2.2.2; simp; omega) ?_; intro v' w3' ho' hg' hn' hat'; have HO2 := Lib.hid ho'; have HG2 := Lib.hid hg'; have HAt := Lib.hid hat'; clear ho' hg' hn' hat')
        have hp := (HRy.out.below (below1 wc (.cells #[.int .i64 x.node, .int .i64 x.count, .int .i64 x.work, .int .i64 x.cycles] 73))).push (y := x) (t := true) HG2.out HO2.out
        have hq3 := (HG2.out.block q (by have := (Array.getElem?_eq_some_iff.1 HQy.out).1; simp; omega) (fun e => HNq.out q e.symm rfl)).trans (heap_alloc HQy.out _)
        have HP := Lib.hid hp
        have HQ3 := Lib.hid hq3
        clear hp hq3 x0 x1 x2 x3
        go_meet
        case rel => exact ⟨by rw [hs], by rw [hs]; exact HP.out, HQ3.out, fun k hk => by
          rcases HAt.out with h | h
          · exact HNq.out k (h ▸ hk)
          · rw [h] at hk; injection hk with hk; have := (Array.getElem?_eq_some_iff.1 HQy.out).1; simp at hk; omega⟩
    case rest =>
    obtain ⟨hd6, hr6, hq6, hn6⟩ := hcut
    have HN6 := Lib.hid hn6
    clear hn6
    subst hd6
    have hs1l := addS1_length x s y
    have HR6 := Lib.hid hr6
    have HQ6 := Lib.hid hq6
    have HSt : Hid ((l.take (k + 1)).foldl (addStep x) ([], false) = ((addS1 x s y).1 ++ [addY x y], decide (x.node = y.node) || (addS1 x s y).2)) := by unfold Hid; rw [HTk.out]; exact addStep_eq x s y
    clear hr6 hq6 HR HRy HQy HS1 HSb HTk
    generalize addS1 x s y = s1 at *
    have x0 := (block_cell HR6.out.2.1 0 (by simp [nodeCells])).1
    have x1 := (block_cell HR6.out.2.1 1 (by simp [nodeCells])).1
    have x2 := (block_cell HR6.out.2.1 2 (by simp [nodeCells])).1
    have x3 := (block_cell HR6.out.2.1 3 (by simp [nodeCells])).1
    obtain ⟨y0, g0⟩ := block_cell HQ6.out 0 (by simp)
    obtain ⟨y1, g1⟩ := block_cell HQ6.out 1 (by simp)
    obtain ⟨y2, g2⟩ := block_cell HQ6.out 2 (by simp)
    obtain ⟨y3, g3⟩ := block_cell HQ6.out 3 (by simp)
    simp only [nodeCells, List.getElem_toArray, List.getElem_cons_zero, List.getElem_cons_succ] at x0 x1 x2 x3 y0 y1 y2 y3
    go_upto_if 37 with (fail)
    generalize hebq : (x.node == y.node) = eb at *
    have HEb := Lib.hid hebq
    clear hebq
    go_cut [6, 37] from 67 (fun d6 _ wx => d6 = .bool (decide (x.node = y.node) || s1.2) ∧ AddR w x s1 u5 wx ∧ wx.heap[q]? = some (.cells (nodeCells (addY x y)).toArray 73))
    case first =>
      cases eb
      case false =>
        have HE : Hid (¬ x.node = y.node) := by have := HEb.out; unfold Hid; simpa using this
        have hy : addY x y = y := by unfold addY; rw [if_neg HE.out]
        go_wp2_with fail
        go_meet
        case rel => exact ⟨by simp [HE.out], HR6.out, by rw [hy]; exact HQ6.out⟩
      case true =>
        have HE : Hid (x.node = y.node) := by have := HEb.out; unfold Hid; simpa using this
        have hy : addY x y = plusN y x := by unfold addY; rw [if_pos HE.out]
        have a1 : IntKind.i64.wrap (y.count + x.count) = wrap64 (y.count + x.count) := wrapIs _
        have a2 : IntKind.i64.wrap (y.work + x.work) = wrap64 (y.work + x.work) := wrapIs _
        have a3 : IntKind.i64.wrap (y.cycles + x.cycles) = wrap64 (y.cycles + x.cycles) := wrapIs _
        have HY := Lib.hid hy
        clear x0 hy
        have hne1 : w.heap.size ≠ q := by have := HNx.out; omega
        go_upto_region 9 with (fail)
        go_region
        all_goals
          clear a1 a2 a3 x1 x2 x3 y0 y1 y2 y3 g0 g1 g2 g3
          go_wp2_with fail
          go_meet
        all_goals
          have hz := heap_setCell (heap_setCell (heap_setCell HQ6.out 1 (.int .i64 (wrap64 (y.count + x.count)))) 2 (.int .i64 (wrap64 (y.work + x.work)))) 3 (.int .i64 (wrap64 (y.cycles + x.cycles)))
          exact ⟨by simp [HE.out], (((HR6.out.setQ HNx.out HN6.out).setQ HNx.out HN6.out).setQ HNx.out HN6.out).below (below_drew _), by
            rw [HY.out]
            simp only [List.setIfInBounds_toArray, List.set_cons_zero, List.set_cons_succ] at hz
            exact hz⟩
    case rest =>
    obtain ⟨hd7, hr7, hq7⟩ := hcut
    subst hd7
    have HR7 := Lib.hid hr7
    clear hr7 HR6 HQ6 x0 x1 x2 x3 y0 y1 y2 y3 g0 g1 g2 g3
    generalize addY x y = z at *
    have z0 := (block_cell hq7 0 (by simp [nodeCells])).1
    have z1 := (block_cell hq7 1 (by simp [nodeCells])).1
    have z2 := (block_cell hq7 2 (by simp [nodeCells])).1
    have z3 := (block_cell hq7 3 (by simp [nodeCells])).1
    simp only [nodeCells, List.getElem_toArray, List.getElem_cons_zero, List.getElem_cons_succ] at z0 z1 z2 z3
    have hln : s1.1.length ≤ 2000001 := by have := HSl.out; omega
    clear hq7
    go_wp2_with (at_builtin; refine wpList_append_own_at rfl _ _ 29 rfl (w.heap.size + 1) 73 i0 _ 4 32 Tryz.underlying29 hi hz0 hz1 hz2 rfl (by omega) u5 _ _ rfl (HR7.out.2.2.1.alloc _) ⟨wc.heap.size, 0, none⟩ 1 1 (nodeCells z) rfl rfl (news_row wc (nodeCells z) 73) (one_nodes z) (by unfold maxLen; omega) (by omega) (by have := HR7.out.2.2.2; simp; omega) ?_; intro v' w3' ho' hg' hn' hat'; have HO2 := Lib.hid ho'; have HG2 := Lib.hid hg'; clear ho' hg' hn' hat')
    have hp := (HR7.out.below (below1 wc (.cells #[.int .i64 z.node, .int .i64 z.count, .int .i64 z.work, .int .i64 z.cycles] 73))).push (y := z) (t := decide (x.node = y.node) || s1.2) HG2.out HO2.out
    have HP := Lib.hid hp
    clear hp z0 z1 z2 z3
    go_roundw
    case rel => exact ⟨k + 1, hlt, by go_num, by rw [HSt.out], by rw [HSt.out]; have := HSl.out; simp; omega, by rw [HSt.out]; exact HP.out⟩
    case measure => simp [intOf]; omega
end Go.Proofs.YtdkcjeaabbkdeaaGreatDoor
end
