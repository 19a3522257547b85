/- slices.Grow of nothing, slices.Concat, at []int. Package vec: is an instruction valid in itself. Package vec: is code in order. -/
import Derived.Test.YtdkcjeaabbkdeaaGreatDoorZVecA
import Derived.Test.YtdkcjeaabbkdeaaGreatDoorZMaker
import Derived.Test.YtdkcjeaabbkdeaaGreatDoorZShapes
import Derived.Test.YtdkcjeaabbkdeaaGreatDoorZMapv
import Derived.Lib.AppendZeros
import Derived.Laws.AppendOwnNone
set_option linter.unusedVariables false
set_option linter.unusedSimpArgs false
set_option linter.unnecessarySimpa false
set_option linter.unusedSectionVars false
section
namespace Go.Proofs.YtdkcjeaabbkdeaaGreatDoor
open Go.RowKit
set_option linter.unusedVariables false
set_option linter.unusedSimpArgs false

/-- A list of numbers of the call's own, from base on, as a value. -/
abbrev Own (base : Nat) (w : World) (v : Value) (xs : List Int) : Prop := w.ownsRow base 3 1 v xs.length (nums xs)
theorem own_kept {base : Nat} {w w' : World} {v : Value} {xs : List Int} (h : Own base w v xs) (hb : Below w.heap.size w w') : Own base w' v xs :=
  h.kept (row := none) ⟨hb.os, hb.tape, hb.output, hb.size, fun i hi _ => hb.block i hi⟩ (by cases v.ownBlock <;> simp)

set_option maxRecDepth 100000 in
set_option maxHeartbeats 400000 in
theorem slices_grow0 (w : World) : Calls Tryz.prog 245 #[.slice none 0 0, .int .i64 0] w fun e w' => e = .returned (.slice none 0 0) ∧ w' = w := by
  go_enter Tryz.func245, Tryz.ntmps245
  go_wp2
  go_ret
  exact ⟨rfl, rfl⟩
set_option maxRecDepth 100000 in
set_option maxHeartbeats 400000 in
theorem slices_grow (n : Nat) (w : World) (h0 : 0 < n) (hn : n ≤ 17592186044416) : Calls Tryz.prog 245 #[.slice none 0 0, .int .i64 n] w fun e w' => ∃ v, e = .returned v ∧ Own w.heap.size w' v [] ∧ Below w.heap.size w w' ∧ ∃ A c, v = .slice A 0 c := by
  obtain ⟨i0, hi, hzz⟩ := Option.map_eq_some_iff.1 infoInt
  simp only [Prod.mk.injEq] at hzz
  obtain ⟨hz0, hz1, hz2⟩ := hzz
  have hap : ∀ ty W, (Builtin.append_ #[22, 3] ty #[.slice none 0 0, .int .i64 n]).run Tryz.prog W = .ok (.slice (some ⟨W.heap.size, 0, none⟩) n (grownCap W n 0 3)) (W.drew.alloc (.cells (Builtin.zeroCells #[.int .i64 0] n ++ Builtin.zeroCells #[.int .i64 0] (grownCap W n 0 3 - n)) 3)) := fun ty W =>
    Lib.run_append_nil_zeros (P := Tryz.prog) W 22 3 ty 3 i0 (.int .i64 0) .i64 .i64 Tryz.underlying22 Tryz.underlying3 hi hz0 n h0 (by omega) (by omega) (by rw [hz2]; omega)
  have hge : n ≤ grownCap w n 0 3 := grownCap_ge w _ _ _
  have hle := grownCap_le_maxLen w n 0 3 (by unfold maxLen; omega)
  have hpos : (0 : Int) < n := by omega
  have hw1 : wrap64 ((n : Int) - 0) = n := by unfold wrap64; omega
  have hcap : (0 : Int) ≤ grownCap w n 0 3 := by omega
  generalize hG : grownCap w n 0 3 = G at *
  go_enter Tryz.func245, Tryz.ntmps245
  go_wp2_with (at_builtin; refine Lib.wpList_append_run _ rfl _ _ _ _ rfl _ _ rfl rfl _ _ (hap _ _) ?_)
  go_ret
  refine ⟨_, rfl, ⟨by simp [nums], .inr ⟨w.heap.size, G, _, rfl, Nat.le_refl _, by exact World.alloc_heap_new w _, Nat.zero_le _, hle, ?_, by simp [nums]⟩⟩, (below1 _ _).drew, _, _, rfl⟩
  simp [Builtin.zeroCells]
  omega

section
variable {w : World} {ops : Array Oper} {rest : List Oper} {o : Oper} {a : Act} {Q : Exit → Act → World → Prop}
theorem run_append_own_empty {base : Nat} {ty : TypeId} {v : Value} {n c : Nat} {xs : List Value} (hown : w.ownsRow base 3 1 v n xs) : (Builtin.append_ #[22, 22] ty #[v, .slice none 0 c]).run Tryz.prog w = .ok v w := by
  obtain ⟨i0, hi, -⟩ := Option.map_eq_some_iff.1 infoInt
  rcases hown.2 with ⟨rfl, rfl⟩ | ⟨g, cap, cur, rfl, _, _, hnc, _⟩
  · simp [Builtin.append_, run_underlying Tryz.underlying22, sizeOf, typeInfo, hi, Builtin.lenOf, Builtin.firstCells]
  · simp [Builtin.append_, run_underlying Tryz.underlying22, sizeOf, typeInfo, hi, Builtin.lenOf, Builtin.firstCells, hnc, storeCells]
/-- What a list's cells hold, as append asks for it. -/
theorem news_ints {A : Addr} {n c : Nat} {ys : List Int} (h : Ints w (.slice (some A) n c) ys) : ∀ (j : Nat) (u : Value), (nums ys)[j]? = some u → w.cell? (A.add j) = some u := by
  intro j u hj
  obtain ⟨hlt, hu⟩ := List.getElem?_eq_some_iff.1 hj
  have hlt' : j < ys.length := by simpa [nums] using hlt
  obtain ⟨b, off, he, hc⟩ := h.at_ j hlt'
  cases he
  rw [show (⟨b, off, none⟩ : Addr).add j = ⟨b, off + j, none⟩ by unfold Addr.add; split <;> simp_all, hc, ← hu]
  simp [nums]
theorem nums_oneCell (ys : List Int) : ∀ u ∈ nums ys, u.oneCell' = true := by
  intro u hu
  obtain ⟨y, -, rfl⟩ := List.mem_map.1 hu
  rfl
/-- A list behind another one that is of the call's own. -/
theorem wpList_append_ints (hgd : o.guard = none) (s x : Operand) (ho : o.op = .call { callee := .builtin .append, args := #[s, x], argTypes := #[22, 22] })
    (base : Nat) (v : Value) (xs : List Int) (hs : a.eval s = v) (hown : Own base w v xs) (u : Value) (ys : List Int) (hx : a.eval x = u) (hu : Ints w u ys) (h63 : xs.length + ys.length ≤ 17592186044416) (hbase : base ≤ w.heap.size)
    (h : ∀ v' w', Own base w' v' (xs ++ ys) → w.grownBy w' v.ownBlock → wpList Tryz.prog ops Q rest (a.put o.dst v') w') : wpList Tryz.prog ops Q (o :: rest) a w := by
  obtain ⟨i0, hi, hzz⟩ := Option.map_eq_some_iff.1 infoInt
  simp only [Prod.mk.injEq] at hzz
  obtain ⟨hz0, hz1, hz2⟩ := hzz
  obtain ⟨A, c, rfl, -⟩ := hu.form
  cases A with
  | none =>
    obtain rfl : ys = [] := by
      cases ys with
      | nil => rfl
      | cons y ys => obtain ⟨b, off, he, -⟩ := hu.at_ 0 (by simp); cases he
    refine wpList_plain hgd fun K hK => ?_
    have hrun := run_append_own_empty (ty := o.type) (c := c) hown
    unfold Oper.wp
    simp [execOp, ho, resolve, invoke, builtin, hs, hx, hrun, Result.andThen]
    refine hK _ _ (h v w (by simpa using hown) ⟨rfl, rfl, rfl, Nat.le_refl _, fun _ _ _ => rfl⟩)
  | some A =>
    refine wpList_append_own w hgd s x 22 ho base 3 i0 (.int .i64 0) 1 8 Tryz.underlying22 hi hz0 hz1 hz2 rfl (by omega) v xs.length (nums xs) hs hown A ys.length c (nums ys) hx (by simp [nums]) (news_ints hu) (nums_oneCell ys) (by unfold maxLen; omega) (by omega) hbase ?_
    intro v' w' h1 h2 h3
    refine h v' w' ?_ h2
    unfold Own
    rw [nums_append, List.length_append]
    exact h1
end

theorem Own.grow {base : Nat} {w w' : World} {v : Value} {xs : List Int} (h : Own base w v xs) (hg : w.grownBy w' v.ownBlock) (hb : base ≤ w.heap.size) : Below base w w' :=
  (Below.refl base w).grown hg hb (fun k hk => (h.lt k hk).1)

set_option maxRecDepth 100000 in
set_option maxHeartbeats 800000 in
theorem slices_concat (v : Value) (ls : List (List Int)) (w : World) (h : Lists w v ls) (hs : (ls.map List.length).sum ≤ 17592186044416) :
    Calls Tryz.prog 191 #[v] w (GivesInts w ls.flatten) := by
  obtain ⟨A, c, rfl, hm⟩ := h.form
  have HI := Lib.hid h; clear h
  have hp : ∀ k (hk : k < ls.length), ((ls.take k).map List.length).sum + ls[k].length ≤ 17592186044416 ∧ ((ls.take (k + 1)).map List.length).sum = ((ls.take k).map List.length).sum + ls[k].length := fun k hk => by
    have e : ((ls.take (k + 1)).map List.length).sum = ((ls.take k).map List.length).sum + ls[k].length := by
      rw [List.take_succ_eq_append_getElem hk, List.map_append, List.sum_append_nat]; simp
    have e2 : (ls.map List.length).sum = ((ls.take (k + 1)).map List.length).sum + ((ls.drop (k + 1)).map List.length).sum := by
      rw [← List.sum_append_nat, ← List.map_append, List.take_append_drop]
    omega
  have HP := Lib.hid hp; clear hp
  have HS := Lib.hid hs
  go_enter Tryz.func191, Tryz.ntmps191
  go_wp2
  go_loopw [3, 5, 11] (fun n _ i wr => wr = w ∧ ∃ k : Nat, k ≤ ls.length ∧ i = .int .i64 k ∧ n = .int .i64 (((ls.take k).map List.length).sum : Nat)) (fun _ _ i _ => ls.length - (intOf i).toNat)
  case atStart => exact ⟨rfl, 0, Nat.zero_le _, rfl, rfl⟩
  case round =>
    obtain ⟨rfl, k, hk, rfl, rfl⟩ := hrel
    by_cases hlt : k < ls.length
    · obtain ⟨b, off, u, rfl, hcell, hu⟩ := HI.out.at_ k hlt
      obtain ⟨B, d, rfl, -⟩ := hu.form
      obtain ⟨h1, h2⟩ := HP.out k hlt
      have H2 := Lib.hid h2
      clear hu h2
      generalize hsk : ((ls.take k).map List.length).sum = s at *
      generalize hlk : ls[k].length = m at *
      have hw1 : wrap64 ((s : Int) + (m : Int)) = ((s + m : Nat) : Int) := by unfold wrap64; omega
      have hw2 : ¬ (((s + m : Nat) : Int) < 0) := by omega
      go_wp2_with fail
      go_roundw
      case rel => exact ⟨trivial, k + 1, hlt, by go_num, by rw [H2.out, Int.natCast_add]⟩
      case measure => simp [intOf]; omega
    · obtain rfl : k = ls.length := by omega
      rw [List.take_length]
      have hgr : Calls Tryz.prog 245 #[.slice none 0 0, .int .i64 ((ls.map List.length).sum : Nat)] wr fun e w' => ∃ v, e = .returned v ∧ Own wr.heap.size w' v [] ∧ Below wr.heap.size wr w' := by
        by_cases h0 : (ls.map List.length).sum = 0
        · rw [h0]
          refine (slices_grow0 wr).mono ?_
          rintro e w' ⟨rfl, rfl⟩
          exact ⟨_, rfl, World.ownsRow_nil _ _ _ _, Below.refl _ _⟩
        · refine (slices_grow _ wr (by omega) HS.out).mono ?_
          rintro e w' ⟨v, rfl, h1, h2, -⟩
          exact ⟨v, rfl, h1, h2⟩
      generalize hsum : (ls.map List.length).sum = n at *
      have hn : ¬ ((n : Int) < 0) := by omega
      clear hn
      go_wp2_with fail
      refine hgr.mono ?_
      rintro e w1 ⟨v1, rfl, ho1, hb1⟩
      have HB1 := Lib.hid hb1
      have HO1 := Lib.hid ho1
      clear hgr ho1 hb1
      go_wp2_with fail
      generalize wr = wo at *
      go_loopw [6, 8, 27] (fun v _ i wr => ∃ k : Nat, k ≤ ls.length ∧ i = .int .i64 k ∧ Own wo.heap.size wr v (ls.take k).flatten ∧ Below wo.heap.size wo wr) (fun _ _ i _ => ls.length - (intOf i).toNat)
      case atStart => exact ⟨0, Nat.zero_le _, rfl, HO1.out, HB1.out⟩
      case round =>
        obtain ⟨k, hk, rfl, ho, hb⟩ := hrel
        have HO := Lib.hid ho
        have HB := Lib.hid hb
        clear ho hb
        by_cases hlt : k < ls.length
        · obtain ⟨b, off, u, rfl, hcell, hu⟩ := (HI.out.below HB.out).at_ k hlt
          have HU := Lib.hid hu
          have hle : ((ls.take k).flatten).length + ls[k].length ≤ 17592186044416 := by
            rw [List.length_flatten]; exact (HP.out k hlt).1
          clear hu
          go_wp2_with (at_builtin; refine wpList_append_ints rfl _ _ rfl wo.heap.size _ _ rfl HO.out _ _ rfl HU.out hle HB.out.size ?_; intro v' w' ho' hg'; have HO2 := Lib.hid ho'; have HG2 := Lib.hid hg'; clear ho' hg')
          go_roundw
          case rel =>
            refine ⟨k + 1, hlt, by go_num, ?_, HB.out.trans (HO.out.grow HG2.out HB.out.size)⟩
            rw [List.take_succ_eq_append_getElem hlt, List.flatten_append]
            simpa using HO2.out
          case measure => simp [intOf]; omega
        · obtain rfl : k = ls.length := by omega
          go_wp2_with fail
          go_ret
          refine ⟨_, rfl, ?_, HB.out⟩
          have := ints_of_own HO.out
          rwa [List.take_length] at this
end Go.Proofs.YtdkcjeaabbkdeaaGreatDoor
end
section
namespace Go.Proofs.YtdkcjeaabbkdeaaGreatDoor
open Go.RowKit Go.Great
set_option linter.unusedVariables false
set_option linter.unusedSimpArgs false

def lowOf (k : Nat) : Int := ([1, 2, 3, 2, 3, 2, 2, 1, 2, 2, 2, 2, 2, 1, 1, 1, 1, 1] : List Int).getD k 0
def highOf (k : Nat) : Int := ([1, 2, 3, 2, 3, 2, 2, 1, 2, 2, 2, 2, 2, 1, 100, 1, 100, 100] : List Int).getD k 0
def toOf (k : Nat) : Int := ([1, 1, 1, 1, 1, 1, 1, 1, 1, 1, 1, 1, 1, 1, 1, 0, -1, -1] : List Int).getD k 0
def numFn (k : Nat) : Nat := ([152, 219, 224, 224, 224, 224, 224, 224, 224, 235, 235, 224, 224, 224, 224, 224, 224, 224] : List Nat).getD k 0
def numOk (k : Nat) (n : Int) : Bool := if k = 0 then isWord n else if k = 1 then decide (0 ≤ n) && decide (n ≤ 11) else if k = 9 ∨ k = 10 then joinOps.contains n else true
def isReg (n : Int) : Bool := decide (0 ≤ n) && decide (n ≤ 3999)
def inBetween (n low high : Int) : Bool := decide (low ≤ n) && decide (n ≤ high)
theorem shapeCells_length (q : Nat) : (shapeCells q).length = 90 := by kernel_rfl
/-- The cells of the table's row. -/
theorem shape_cell (q k : Nat) (hk : k < 18) : ∃ d, (shapeCells q)[k * 5]? = some (.int .i64 (lowOf k)) ∧ (shapeCells q)[k * 5 + 1]? = some (.int .i64 (highOf k)) ∧ (shapeCells q)[k * 5 + 2]? = some (.int .i64 (toOf k)) ∧ (shapeCells q)[k * 5 + 3]? = some (.func (.func (numFn k)) #[] #[]) ∧ (shapeCells q)[k * 5 + 4]? = some d ∧ d.oneCell' = true := by
  have h : k = 0 ∨ k = 1 ∨ k = 2 ∨ k = 3 ∨ k = 4 ∨ k = 5 ∨ k = 6 ∨ k = 7 ∨ k = 8 ∨ k = 9 ∨ k = 10 ∨ k = 11 ∨ k = 12 ∨ k = 13 ∨ k = 14 ∨ k = 15 ∨ k = 16 ∨ k = 17 := by omega
  rcases h with rfl | rfl | rfl | rfl | rfl | rfl | rfl | rfl | rfl | rfl | rfl | rfl | rfl | rfl | rfl | rfl | rfl | rfl
  all_goals
    refine ⟨_, ?_, ?_, ?_, ?_, (List.getElem?_eq_getElem (by have := shapeCells_length q; omega)), ?_⟩
    · show _ = _; kernel_rfl
    · show _ = _; kernel_rfl
    · show _ = _; kernel_rfl
    · show _ = _; kernel_rfl
    · show _ = _; kernel_rfl

def fitsB (x : Ins) : Bool :=
  inBetween x.op 0 17 && (inBetween x.from_.length (lowOf x.op.toNat) (highOf x.op.toNat) && ((decide (toOf x.op.toNat < 0) || (x.to.length : Int) == toOf x.op.toNat) && (numOk x.op.toNat x.n && (x.from_ ++ x.to).all isReg)))

theorem enters152 : Enters Tryz.prog 152 := enters_of Tryz.func152 (by kernel_rfl) rfl
theorem enters219 : Enters Tryz.prog 219 := enters_of Tryz.func219 (by kernel_rfl) rfl
theorem enters224 : Enters Tryz.prog 224 := enters_of Tryz.func224 (by kernel_rfl) rfl
theorem enters235 : Enters Tryz.prog 235 := enters_of Tryz.func235 (by kernel_rfl) rfl
/-- What the function of N returns. -/
theorem num_call (k : Nat) (hk : k < 18) (n : Int) (w : World) : (∀ args w, (callFunc (numFn k) args).run Tryz.prog w = .ok (.enter (numFn k) args) w) ∧ Calls Tryz.prog (numFn k) #[.int .i64 n] w (Gives w (.bool (numOk k n))) := by
  have h : k = 0 ∨ k = 1 ∨ k = 2 ∨ k = 3 ∨ k = 4 ∨ k = 5 ∨ k = 6 ∨ k = 7 ∨ k = 8 ∨ k = 9 ∨ k = 10 ∨ k = 11 ∨ k = 12 ∨ k = 13 ∨ k = 14 ∨ k = 15 ∨ k = 16 ∨ k = 17 := by omega
  have hany : (∀ args w, (callFunc 224 args).run Tryz.prog w = .ok (.enter 224 args) w) ∧ Calls Tryz.prog 224 #[.int .i64 n] w (Gives w (.bool true)) := ⟨enters224, vec_anything n w⟩
  have hj : (∀ args w, (callFunc 235 args).run Tryz.prog w = .ok (.enter 235 args) w) ∧ Calls Tryz.prog 235 #[.int .i64 n] w (Gives w (.bool (joinOps.contains n))) := ⟨enters235, vec_joins n w⟩
  have hw : (∀ args w, (callFunc 152 args).run Tryz.prog w = .ok (.enter 152 args) w) ∧ Calls Tryz.prog 152 #[.int .i64 n] w (Gives w (.bool (isWord n))) := ⟨enters152, (word_is n w).mono fun e w' ⟨he, hw⟩ => ⟨he, hw ▸ Below.refl _ _⟩⟩
  have ho : (∀ args w, (callFunc 219 args).run Tryz.prog w = .ok (.enter 219 args) w) ∧ Calls Tryz.prog 219 #[.int .i64 n] w (Gives w (.bool (decide (0 ≤ n) && decide (n ≤ 11)))) := ⟨enters219, vec_operation n w⟩
  rcases h with rfl | rfl | rfl | rfl | rfl | rfl | rfl | rfl | rfl | rfl | rfl | rfl | rfl | rfl | rfl | rfl | rfl | rfl
  · rw [show numFn 0 = 152 from rfl, show numOk 0 n = (isWord n) from rfl]; exact hw
  · rw [show numFn 1 = 219 from rfl, show numOk 1 n = (decide (0 ≤ n) && decide (n ≤ 11)) from rfl]; exact ho
  · rw [show numFn 2 = 224 from rfl, show numOk 2 n = (true) from rfl]; exact hany
  · rw [show numFn 3 = 224 from rfl, show numOk 3 n = (true) from rfl]; exact hany
  · rw [show numFn 4 = 224 from rfl, show numOk 4 n = (true) from rfl]; exact hany
  · rw [show numFn 5 = 224 from rfl, show numOk 5 n = (true) from rfl]; exact hany
  · rw [show numFn 6 = 224 from rfl, show numOk 6 n = (true) from rfl]; exact hany
  · rw [show numFn 7 = 224 from rfl, show numOk 7 n = (true) from rfl]; exact hany
  · rw [show numFn 8 = 224 from rfl, show numOk 8 n = (true) from rfl]; exact hany
  · rw [show numFn 9 = 235 from rfl, show numOk 9 n = (joinOps.contains n) from rfl]; exact hj
  · rw [show numFn 10 = 235 from rfl, show numOk 10 n = (joinOps.contains n) from rfl]; exact hj
  · rw [show numFn 11 = 224 from rfl, show numOk 11 n = (true) from rfl]; exact hany
  · rw [show numFn 12 = 224 from rfl, show numOk 12 n = (true) from rfl]; exact hany
  · rw [show numFn 13 = 224 from rfl, show numOk 13 n = (true) from rfl]; exact hany
  · rw [show numFn 14 = 224 from rfl, show numOk 14 n = (true) from rfl]; exact hany
  · rw [show numFn 15 = 224 from rfl, show numOk 15 n = (true) from rfl]; exact hany
  · rw [show numFn 16 = 224 from rfl, show numOk 16 n = (true) from rfl]; exact hany
  · rw [show numFn 17 = 224 from rfl, show numOk 17 n = (true) from rfl]; exact hany

/-- Where the cells of the call's own box and of the table lie. -/
structure FitsAt (w : World) (q : Nat) (xc tab : Array Value) (w2 : World) : Prop where
  box : w2.heap[w.heap.size]? = some (.cells xc 63)
  tab : w2.heap[q]? = some (.cells tab 264)
  below : Below w.heap.size w w2
  le : w.heap.size < q

structure ShapeAt (w : World) (r : Nat) (xc row : Array Value) (w3 : World) : Prop where
  box : w3.heap[w.heap.size]? = some (.cells xc 63)
  row : w3.heap[r]? = some (.cells row 263)
  below : Below w.heap.size w w3

set_option maxRecDepth 100000 in
set_option maxHeartbeats 1600000 in
theorem vec_fits (x : Ins) (cs : List Value) (w : World) (hx : RIns w cs x) (h17 : x.op ≠ 17) (hl : x.from_.length + x.to.length ≤ 17592186044416) :
    Calls Tryz.prog 148 #[.agg cs.toArray] w (Gives w (.bool (fitsB x))) := by
  obtain ⟨⟨op, n, to, from_⟩, body⟩ := x
  obtain ⟨vt, vf, vb, rfl, ht, hf, hb⟩ := hx
  simp only at ht hf h17 hl ⊢
  obtain ⟨T, tc, rfl, htm⟩ := ht.form
  obtain ⟨F, fc, rfl, hfm⟩ := hf.form
  have HT := Lib.hid ht
  have HF := Lib.hid hf
  clear ht hf hb
  have hz0 := Lib.hid (below1 w (.cells #[.int .i64 op, .int .i64 n, .slice T to.length tc, .slice F from_.length fc, vb] 63))
  have hz1 := Lib.hid (alloc_new w (.cells #[.int .i64 op, .int .i64 n, .slice T to.length tc, .slice F from_.length fc, vb] 63))
  go_enter Tryz.func148, Tryz.ntmps148
  go_wp2_with fail
  refine (vec_shapes _).mono ?_
  rintro e w1 ⟨rfl, hb1, -⟩
  rw [show (w.alloc (.cells #[.int .i64 op, .int .i64 n, .slice T to.length tc, .slice F from_.length fc, vb] 63)).heap.size = w.heap.size + 1 by simp]
  have hcell := shape_cell (w.heap.size + 1)
  have H90 : Hid ((Tryz.prog.info? 264).map (·.size) = some (shapeCells (w.heap.size + 1)).toArray.size) := by
    unfold Hid; rw [info264, List.size_toArray, shapeCells_length]
  have HZ : Hid (Tryz.zeroCells264.size = (shapeCells (w.heap.size + 1)).toArray.size) := by
    exact (show Tryz.zeroCells264.size = 90 by kernel_rfl).trans (by rw [List.size_toArray, shapeCells_length])
  have HO : Hid ((shapeCells (w.heap.size + 1)).toArray.all (·.oneCell') = true) := by unfold Hid; kernel_rfl
  have hat : FitsAt w w1.heap.size #[.int .i64 op, .int .i64 n, .slice T to.length tc, .slice F from_.length fc, vb] (shapeCells (w.heap.size + 1)).toArray ((w1.alloc (.cells Tryz.zeroCells264 264)).setRow w1.heap.size (shapeCells (w.heap.size + 1)).toArray) := by
    have hs := hb1.size
    simp at hs
    refine ⟨(heap_setRow_ne (by omega)).trans (heap_keep (below1 _ _) (heap_keep hb1 hz1.out)), heap_setRow (alloc_new w1 _), below_setRow (below_step (below_step hz0.out hb1) (below1 _ _)) (by omega), by omega⟩
  have HN := Lib.hid (alloc_new w1 (.cells Tryz.zeroCells264 264))
  have HAt := Lib.hid hat
  have HCell := Lib.hid hcell
  clear hcell hat hb1 hz0 hz1
  generalize shapeCells (w.heap.size + 1) = tab at *
  go_wp2_with (refine wpList_store_rowTo rfl 264 _ _ rfl rfl w1.heap.size tab.toArray rfl rfl 264 Tryz.zeroCells264 HN.out H90.out HZ.out HO.out ?_; have hat := HAt.out; have HA2 := Lib.hid hat; clear HAt HN H90 HZ HO; generalize (w1.alloc (.cells Tryz.zeroCells264 264)).setRow w1.heap.size tab.toArray = w2 at hat HA2 ⊢; generalize w1.heap.size = q at hat HA2 ⊢; have c0 := (block_cell hat.box 0 (by simp)).1; have c1 := (block_cell hat.box 1 (by simp)).1; have c2 := (block_cell hat.box 2 (by simp)).1; have c3 := (block_cell hat.box 3 (by simp)).1; simp only [List.getElem_toArray, List.getElem_cons_zero, List.getElem_cons_succ] at c0 c1 c2 c3; clear hat w1)
  by_cases hop : 0 ≤ op ∧ op ≤ 17
  case neg =>
    have HV : Hid (fitsB ⟨⟨op, n, to, from_⟩, body⟩ = false) := by unfold Hid fitsB inBetween; simp; intro a b; omega
    have hop' : (decide (0 ≤ op) && decide (op ≤ 17)) = false := by simp; omega
    refine (vec_within _ _ _ _).mono ?_
    rintro e w' ⟨rfl, rfl⟩
    rw [hop']
    clear hop hop'
    go_wp2_with fail
    go_ret
    rw [HV.out]
    exact ⟨rfl, HA2.out.below⟩
  obtain ⟨hop0, hop1⟩ := hop
  obtain ⟨k, rfl⟩ : ∃ k : Nat, op = (k : Int) := ⟨op.toNat, by omega⟩
  have hk : k < 18 := by omega
  refine (vec_within _ _ _ _).mono ?_
  rintro e w' ⟨rfl, rfl⟩
  rw [show (decide (0 ≤ (k : Int)) && decide ((k : Int) ≤ 17)) = true by simp; omega]
  obtain ⟨d, t0, t1, t2, t3, t4, td⟩ := HCell.out k hk
  have ct : ∀ j v, tab[j]? = some v → w2.cell? ⟨q, j, none⟩ = some v := fun j v h => by rw [cell_of_heap HA2.out.tab]; simpa using h
  have d0 := ct _ _ t0
  have d1 := ct _ _ t1
  have d2 := ct _ _ t2
  have d3 := ct _ _ t3
  have d4 := ct _ _ t4
  have TD := Lib.hid td
  clear ct t0 t1 t2 t3 t4 HCell td
  have I263 : Hid ((Tryz.prog.info? 263).map (·.size) = some #[.int .i64 (lowOf k), .int .i64 (highOf k), .int .i64 (toOf k), .func (.func (numFn k)) #[] #[], d].size) := by
    have h : (Tryz.prog.info? 263).map (·.size) = some 5 := by kernel_rfl
    exact h
  have A263 : Hid (#[.int .i64 (lowOf k), .int .i64 (highOf k), .int .i64 (toOf k), .func (.func (numFn k)) #[] #[], d].all (·.oneCell') = true) := by
    unfold Hid; simp only [List.all_toArray, List.all_cons, List.all_nil, TD.out, Bool.and_true]; rfl
  have Z263 := Lib.hid (alloc_new w2 (.cells #[.int .i64 0, .int .i64 0, .int .i64 0, .nilFunc, .nilFunc] 263))
  have hrow : ShapeAt w w2.heap.size #[.int .i64 k, .int .i64 n, .slice T to.length tc, .slice F from_.length fc, vb] #[.int .i64 (lowOf k), .int .i64 (highOf k), .int .i64 (toOf k), .func (.func (numFn k)) #[] #[], d] ((w2.alloc (.cells #[.int .i64 0, .int .i64 0, .int .i64 0, .nilFunc, .nilFunc] 263)).setRow w2.heap.size #[.int .i64 (lowOf k), .int .i64 (highOf k), .int .i64 (toOf k), .func (.func (numFn k)) #[] #[], d]) := by
    have hlt := (Array.getElem?_eq_some_iff.1 HA2.out.box).1
    have hs := HA2.out.below.size
    exact ⟨(heap_setRow_ne (by omega)).trans (heap_keep (below1 _ _) HA2.out.box), heap_setRow (alloc_new w2 _), below_setRow (below_step HA2.out.below (below1 _ _)) hs⟩
  have HRow := Lib.hid hrow
  clear hrow
  go_wp2_with (refine wpList_store_rowTo rfl 263 _ _ rfl rfl w2.heap.size #[.int .i64 (lowOf k), .int .i64 (highOf k), .int .i64 (toOf k), .func (.func (numFn k)) #[] #[], d] rfl rfl 263 #[.int .i64 0, .int .i64 0, .int .i64 0, .nilFunc, .nilFunc] Z263.out I263.out rfl A263.out ?_; have hrow := HRow.out; have HR := Lib.hid hrow; clear HRow Z263 I263 A263 HA2 c0 c1 c2 c3 d0 d1 d2 d3 d4; generalize (w2.alloc (.cells #[.int .i64 0, .int .i64 0, .int .i64 0, .nilFunc, .nilFunc] 263)).setRow w2.heap.size #[.int .i64 (lowOf k), .int .i64 (highOf k), .int .i64 (toOf k), .func (.func (numFn k)) #[] #[], d] = w3 at hrow HR ⊢; generalize w2.heap.size = r at hrow HR ⊢; have c0 := (block_cell hrow.box 0 (by simp)).1; have c1 := (block_cell hrow.box 1 (by simp)).1; have c2 := (block_cell hrow.box 2 (by simp)).1; have c3 := (block_cell hrow.box 3 (by simp)).1; simp only [List.getElem_toArray, List.getElem_cons_zero, List.getElem_cons_succ] at c0 c1 c2 c3; have d0 := (block_cell hrow.row 0 (by simp)).1; have d1 := (block_cell hrow.row 1 (by simp)).1; have d2 := (block_cell hrow.row 2 (by simp)).1; have d3 := (block_cell hrow.row 3 (by simp)).1; simp only [List.getElem_toArray, List.getElem_cons_zero, List.getElem_cons_succ] at d0 d1 d2 d3; clear hrow w2)
  refine (vec_within _ _ _ _).mono ?_
  rintro e w' ⟨rfl, rfl⟩
  have hk17 : inBetween (k : Int) 0 17 = true := by unfold inBetween; simp; omega
  have hkt : (k : Int).toNat = k := by simp
  by_cases hA : inBetween from_.length (lowOf k) (highOf k) = true
  case neg =>
    have HV : Hid (fitsB ⟨⟨k, n, to, from_⟩, body⟩ = false) := by unfold Hid fitsB; simp only [hkt]; simp [hA]
    have hA' : (decide (lowOf k ≤ (from_.length : Int)) && decide ((from_.length : Int) ≤ highOf k)) = false := by simpa [inBetween] using hA
    rw [hA']
    clear hA hA' hk17 hkt
    go_wp2_with fail
    go_ret
    rw [HV.out]
    exact ⟨rfl, HR.out.below⟩
  have hA' : (decide (lowOf k ≤ (from_.length : Int)) && decide ((from_.length : Int) ≤ highOf k)) = true := by simpa [inBetween] using hA
  rw [hA']
  have HA := Lib.hid hA
  clear hA hA'
  by_cases hB : (decide (toOf k < 0) || (to.length : Int) == toOf k) = true
  case neg =>
    have HV : Hid (fitsB ⟨⟨k, n, to, from_⟩, body⟩ = false) := by
      unfold Hid fitsB; simp only [hkt]
      rw [show (decide (toOf k < 0) || (to.length : Int) == toOf k) = false by simpa using hB]; simp
    have hB1 : 0 ≤ toOf k := by simp at hB; omega
    have hB2 : ((to.length : Int) != toOf k) = true := by simp at hB ⊢; exact hB.2
    clear hB hk17 hkt
    go_wp2_with fail
    go_ret
    rw [HV.out]
    exact ⟨rfl, HR.out.below⟩
  have HB := Lib.hid hB
  clear hk17 hkt
  have HN := Lib.hid (num_call k hk n w3)
  have hN1 := HN.out.1
  have hgo : 0 ≤ toOf k → ((to.length : Int) != toOf k) = false := fun h0 => by
    have hB := HB.out
    simp at hB ⊢; omega
  have HGo := Lib.hid hgo
  clear hB hgo
  have hfit : fitsB ⟨⟨k, n, to, from_⟩, body⟩ = (numOk k n && (from_ ++ to).all isReg) := by
    unfold fitsB
    simp only [show (k : Int).toNat = k by simp, HA.out, HB.out]
    rw [show inBetween (k : Int) 0 17 = true by unfold inBetween; simp; omega]
    simp
  have HFit := Lib.hid hfit
  clear hfit
  have h17' : ((k : Int) != 17) = true := by simpa using h17
  have H17 := Lib.hid h17'
  clear h17'
  by_cases h0 : 0 ≤ toOf k
  · have h1 := HGo.out h0
    go_wp2_with fail
    refine HN.out.2.mono ?_
    rintro e w4 ⟨rfl, hb4⟩
    cases hnum : numOk k n
    · rw [hnum] at HFit
      clear hnum
      go_wp2_with fail
      go_ret
      rw [HFit.out]
      exact ⟨rfl, below_step HR.out.below hb4⟩
    rw [hnum] at HFit
    have HB4 := Lib.hid (below_step HR.out.below hb4)
    have hbx := heap_keep hb4 HR.out.box
    have f0 := (block_cell hbx 0 (by simp)).1
    have f2 := (block_cell hbx 2 (by simp)).1
    have f3 := (block_cell hbx 3 (by simp)).1
    simp only [List.getElem_toArray, List.getElem_cons_zero, List.getElem_cons_succ] at f0 f2 f3
    have HBX := Lib.hid hbx
    clear hb4 hbx hnum HN hN1 HR c0 c1 c2 c3 d0 d1 d2 d3
    have hl2 : Lists (w4.alloc (.cells #[.slice F from_.length fc, .slice T to.length tc] 22)) (.slice (some ⟨w4.heap.size, 0, none⟩) 2 2) [from_, to] := by
      have := lists_lit w4 [.slice F from_.length fc, .slice T to.length tc] [from_, to] 22 rfl (by simp) (fun j h1 h2 => by
        have hj : j = 0 ∨ j = 1 := by simp at h1; omega
        rcases hj with rfl | rfl
        · exact HF.out.below HB4.out
        · exact HT.out.below HB4.out)
      simpa using this
    have HL2 := Lib.hid (slices_concat _ [from_, to] _ hl2 (by simp; omega))
    clear hl2
    go_wp2_with fail
    refine HL2.out.mono ?_
    rintro e w5 ⟨v5, rfl, hv5, hb5⟩
    rw [show ([from_, to] : List (List Int)).flatten = from_ ++ to by simp] at hv5
    have HB5 := Lib.hid (below_step HB4.out (below_step (below1 _ _) hb5))
    have f5 : Hid (w5.cell? ⟨w.heap.size, 0, none⟩ = some (.int .i64 k)) := cell_keep hb5 (cell_keep (below1 _ _) f0)
    obtain ⟨V5, vc5, rfl, hm5⟩ := hv5.form
    have HV5 := Lib.hid hv5
    clear hb5 hv5 HL2 f0 f2 f3 HBX HB4
    generalize hfs : from_ ++ to = fs at *
    go_wp2_with fail
    go_loopw [6, 53] (fun _ i wr => wr = w5 ∧ ∃ j : Nat, j ≤ fs.length ∧ i = .int .i64 j ∧ ∀ m (hm : m < fs.length), m < j → isReg fs[m] = true) (fun _ i _ => fs.length - (intOf i).toNat)
    case atStart => exact ⟨rfl, 0, Nat.zero_le _, rfl, fun m _ h => absurd h (by omega)⟩
    case round =>
      obtain ⟨rfl, j, hj, rfl, hall⟩ := hrel
      have HAll := Lib.hid hall; clear hall
      by_cases hlt : j < fs.length
      · obtain ⟨b, off, rfl, hcell⟩ := HV5.out.at_ j hlt
        cases hreg : isReg fs[j]
        · have hreg' : (decide (0 ≤ fs[j]) && decide (fs[j] ≤ 3999)) = false := hreg
          have hno : fs.all isReg = false := by
            rw [List.all_eq_false]
            exact ⟨fs[j], List.getElem_mem hlt, by simp [hreg]⟩
          have HNo := Lib.hid hno
          have HReg := Lib.hid hreg'
          clear hno hreg hreg'
          go_wp2_with fail
          refine (vec_register _ _).mono ?_
          rintro e w6 ⟨rfl, rfl⟩
          rw [HReg.out]
          go_wp2_with fail
          go_ret
          rw [HFit.out, HNo.out]
          exact ⟨rfl, HB5.out⟩
        · have hreg' : (decide (0 ≤ fs[j]) && decide (fs[j] ≤ 3999)) = true := hreg
          have HReg := Lib.hid hreg'
          have HReg2 := Lib.hid hreg
          clear hreg hreg'
          go_wp2_with fail
          refine (vec_register _ _).mono ?_
          rintro e w6 ⟨rfl, rfl⟩
          rw [HReg.out]
          go_wp2_with fail
          go_roundw
          case rel => exact ⟨trivial, j + 1, hlt, by go_num, fun m hm hmj => if e : m = j then by subst e; exact HReg2.out else HAll.out m hm (by omega)⟩
          case measure => simp [intOf]; omega
      · obtain rfl : j = fs.length := by omega
        have hyes : fs.all isReg = true := by
          rw [List.all_eq_true]
          intro x hx
          obtain ⟨m, hm, rfl⟩ := List.getElem_of_mem hx
          exact HAll.out m hm hm
        have HYes := Lib.hid hyes; clear hyes
        have f5' := f5.out
        have h17' := H17.out
        go_wp2_with fail
        go_ret
        rw [HFit.out, HYes.out]
        exact ⟨rfl, HB5.out⟩
  · go_wp2_with fail
    refine HN.out.2.mono ?_
    rintro e w4 ⟨rfl, hb4⟩
    cases hnum : numOk k n
    · rw [hnum] at HFit
      clear hnum
      go_wp2_with fail
      go_ret
      rw [HFit.out]
      exact ⟨rfl, below_step HR.out.below hb4⟩
    rw [hnum] at HFit
    have HB4 := Lib.hid (below_step HR.out.below hb4)
    have hbx := heap_keep hb4 HR.out.box
    have f0 := (block_cell hbx 0 (by simp)).1
    have f2 := (block_cell hbx 2 (by simp)).1
    have f3 := (block_cell hbx 3 (by simp)).1
    simp only [List.getElem_toArray, List.getElem_cons_zero, List.getElem_cons_succ] at f0 f2 f3
    have HBX := Lib.hid hbx
    clear hb4 hbx hnum HN hN1 HR c0 c1 c2 c3 d0 d1 d2 d3
    have hl2 : Lists (w4.alloc (.cells #[.slice F from_.length fc, .slice T to.length tc] 22)) (.slice (some ⟨w4.heap.size, 0, none⟩) 2 2) [from_, to] := by
      have := lists_lit w4 [.slice F from_.length fc, .slice T to.length tc] [from_, to] 22 rfl (by simp) (fun j h1 h2 => by
        have hj : j = 0 ∨ j = 1 := by simp at h1; omega
        rcases hj with rfl | rfl
        · exact HF.out.below HB4.out
        · exact HT.out.below HB4.out)
      simpa using this
    have HL2 := Lib.hid (slices_concat _ [from_, to] _ hl2 (by simp; omega))
    clear hl2
    go_wp2_with fail
    refine HL2.out.mono ?_
    rintro e w5 ⟨v5, rfl, hv5, hb5⟩
    rw [show ([from_, to] : List (List Int)).flatten = from_ ++ to by simp] at hv5
    have HB5 := Lib.hid (below_step HB4.out (below_step (below1 _ _) hb5))
    have f5 : Hid (w5.cell? ⟨w.heap.size, 0, none⟩ = some (.int .i64 k)) := cell_keep hb5 (cell_keep (below1 _ _) f0)
    obtain ⟨V5, vc5, rfl, hm5⟩ := hv5.form
    have HV5 := Lib.hid hv5
    clear hb5 hv5 HL2 f0 f2 f3 HBX HB4
    generalize hfs : from_ ++ to = fs at *
    go_wp2_with fail
    go_loopw [6, 53] (fun _ i wr => wr = w5 ∧ ∃ j : Nat, j ≤ fs.length ∧ i = .int .i64 j ∧ ∀ m (hm : m < fs.length), m < j → isReg fs[m] = true) (fun _ i _ => fs.length - (intOf i).toNat)
    case atStart => exact ⟨rfl, 0, Nat.zero_le _, rfl, fun m _ h => absurd h (by omega)⟩
    case round =>
      obtain ⟨rfl, j, hj, rfl, hall⟩ := hrel
      have HAll := Lib.hid hall; clear hall
      by_cases hlt : j < fs.length
      · obtain ⟨b, off, rfl, hcell⟩ := HV5.out.at_ j hlt
        cases hreg : isReg fs[j]
        · have hreg' : (decide (0 ≤ fs[j]) && decide (fs[j] ≤ 3999)) = false := hreg
          have hno : fs.all isReg = false := by
            rw [List.all_eq_false]
            exact ⟨fs[j], List.getElem_mem hlt, by simp [hreg]⟩
          have HNo := Lib.hid hno
          have HReg := Lib.hid hreg'
          clear hno hreg hreg'
          go_wp2_with fail
          refine (vec_register _ _).mono ?_
          rintro e w6 ⟨rfl, rfl⟩
          rw [HReg.out]
          go_wp2_with fail
          go_ret
          rw [HFit.out, HNo.out]
          exact ⟨rfl, HB5.out⟩
        · have hreg' : (decide (0 ≤ fs[j]) && decide (fs[j] ≤ 3999)) = true := hreg
          have HReg := Lib.hid hreg'
          have HReg2 := Lib.hid hreg
          clear hreg hreg'
          go_wp2_with fail
          refine (vec_register _ _).mono ?_
          rintro e w6 ⟨rfl, rfl⟩
          rw [HReg.out]
          go_wp2_with fail
          go_roundw
          case rel => exact ⟨trivial, j + 1, hlt, by go_num, fun m hm hmj => if e : m = j then by subst e; exact HReg2.out else HAll.out m hm (by omega)⟩
          case measure => simp [intOf]; omega
      · obtain rfl : j = fs.length := by omega
        have hyes : fs.all isReg = true := by
          rw [List.all_eq_true]
          intro x hx
          obtain ⟨m, hm, rfl⟩ := List.getElem_of_mem hx
          exact HAll.out m hm hm
        have HYes := Lib.hid hyes; clear hyes
        have f5' := f5.out
        have h17' := H17.out
        go_wp2_with fail
        go_ret
        rw [HFit.out, HYes.out]
        exact ⟨rfl, HB5.out⟩
end Go.Proofs.YtdkcjeaabbkdeaaGreatDoor
end
section
namespace Go.Proofs.YtdkcjeaabbkdeaaGreatDoor
open Go.RowKit Go.Maps
set_option linter.unusedVariables false
set_option linter.unusedSimpArgs false

/-- A set of numbers, one more. -/
def addTo (W : Int → Bool) (n : Int) : Int → Bool := fun k => k == n || W k
def writeAll (W : Int → Bool) : List Int → Option (Int → Bool)
  | [] => some W
  | n :: ns => if W n then none else writeAll (addTo W n) ns
def orderedC (W : Int → Bool) : List Ins → Option (Int → Bool)
  | [] => some W
  | x :: xs => if x.from_.all W then (match writeAll W x.to with | none => none | some W' => orderedC W' xs) else none
def firstN (n : Nat) : Int → Bool := fun k => decide (0 ≤ k) && decide (k < n)
def orderedB (many : Nat) (code : List Ins) (out : List Int) : Bool := match orderedC (firstN many) code with | none => false | some W => out.all W

/-- One number in one cell, no greater than a cell takes. -/
def RIntB (w : World) (cs : List Value) (x : Int) : Prop := RInt w cs x ∧ inInt x
theorem stays_intB : Stays RIntB := fun _ _ _ _ h ⟨a, b⟩ => ⟨stays_int _ _ _ _ h a, b⟩
theorem ints_b {w : World} {v : Value} {xs : List Int} (h : Ints w v xs) (hx : ∀ x ∈ xs, inInt x) : Sl 1 RIntB w v xs := by
  obtain ⟨A, c, rfl, hm, hc⟩ := h
  refine ⟨A, c, rfl, hm, fun j hj => ?_⟩
  obtain ⟨b, off, cs, hA, hl, hcs, hr⟩ := hc j hj
  exact ⟨b, off, cs, hA, hl, hcs, hr, hx _ (List.getElem_mem hj)⟩

/-- Block b is the set W, of at most n numbers. -/
def SetAt (w : World) (b n : Nat) (W : Int → Bool) : Prop := ∃ M, MapV Tryz.prog 3 w b n M ∧ ∀ k : Int, M (.int .i64 k) = if W k then some (.bool true) else none
theorem zero4 (w : World) : (zeroValue 4).run Tryz.prog w = .ok (.bool false) w := by kernel_rfl
theorem SetAt.look {w : World} {b n : Nat} {W : Int → Bool} (h : SetAt w b n W) {k : Int} (hk : inInt k) : (Instr.lookup 267 (.map (some b)) (.int .i64 k) false).run Tryz.prog w = .ok (.bool (W k)) w := by
  obtain ⟨M, h1, h2⟩ := h
  rw [h1.lookup keyed3 Tryz.underlying267 (zero4 w) (keyOf_num k hk), h2 k]
  cases W k <;> rfl
theorem SetAt.put {w : World} {b n : Nat} {W : Int → Bool} (h : SetAt w b n W) (hn : n < maxLen) {k : Int} (hk : inInt k) : ∃ w', (Instr.mapUpdate 267 (.map (some b)) (.int .i64 k) (.bool true)).run Tryz.prog w = .ok () w' ∧ SetAt w' b (n + 1) (addTo W k) ∧ w.mapTurned w' b := by
  obtain ⟨M, h1, h2⟩ := h
  obtain ⟨w', hr, hm, ht⟩ := h1.update keyed3 Tryz.underlying267 hn (keyOf_num k hk) (val := .bool true)
  refine ⟨w', hr, ⟨_, hm, fun j => ?_⟩, ht⟩
  unfold upd addTo
  by_cases e : j = k
  · subst e; simp
  · rw [if_neg (by intro h; cases h; exact e rfl), h2 j]
    simp [e]
theorem SetAt.kept {w w' : World} {b n : Nat} {W : Int → Bool} (h : SetAt w b n W) (hb : Below w.heap.size w w') : SetAt w' b n W := by
  obtain ⟨M, h1, h2⟩ := h
  exact ⟨M, h1.of_heap (hb.block b h1.lt), h2⟩
theorem SetAt.lt {w : World} {b n : Nat} {W : Int → Bool} (h : SetAt w b n W) : b < w.heap.size := by
  obtain ⟨M, h1, h2⟩ := h; exact h1.lt

theorem enters194 : Enters Tryz.prog 194 := enters_of Tryz.func194 (by kernel_rfl) rfl
theorem enters195 : Enters Tryz.prog 195 := enters_of Tryz.func195 (by kernel_rfl) rfl
set_option maxRecDepth 100000 in
theorem vec_notIn (q b n : Nat) (W : Int → Bool) (k : Int) (hk : inInt k) (w : World) (hc : w.cell? ⟨q, 0, none⟩ = some (.map (some b))) (h : SetAt w b n W) :
    Calls Tryz.prog 195 #[.int .i64 k, .pointer (some ⟨q, 0, none⟩)] w (Gives w (.bool (!W k))) := by
  have hl := h.look hk
  clear h
  go_enter Tryz.func195, Tryz.ntmps195
  go_wp2
  go_ret
  exact ⟨rfl, Below.refl _ _⟩
set_option maxRecDepth 100000 in
theorem vec_allIn (q b n : Nat) (W : Int → Bool) (v : Value) (xs : List Int) (hx : ∀ x ∈ xs, inInt x) (w : World) (hv : Ints w v xs) (hc : w.cell? ⟨q, 0, none⟩ = some (.map (some b))) (h : SetAt w b n W) :
    Calls Tryz.prog 194 #[v, .pointer (some ⟨q, 0, none⟩)] w (Gives w (.bool (xs.all W))) := by
  have ht : Tests RIntB 195 #[.pointer (some ⟨q, 0, none⟩)] (fun k => !W k) w := ⟨enters195, fun u x w1 hb ⟨hr, hi⟩ => by
    obtain rfl : u = .int .i64 x := by simpa [RInt] using hr
    exact vec_notIn q b n W x hi w1 (cell_keep hb hc) (h.kept hb)⟩
  have hcall := Lib.hid (containsFunc111 stays_intB v xs 195 #[.pointer (some ⟨q, 0, none⟩)] _ w (ints_b hv hx) ht)
  obtain ⟨A, c, rfl, -⟩ := hv.form
  clear hv h ht hc
  go_enter Tryz.func194, Tryz.ntmps194
  go_wp2_with fail
  refine hcall.out.mono ?_
  rintro e w1 ⟨rfl, hb⟩
  go_wp2_with fail
  go_ret
  exact ⟨ret_bool (by rw [List.all_eq_not_any_not]), hb⟩

/-- What the walk through code keeps: the set in block b, its variable in the block behind. -/
structure OrdAt (w : World) (n : Nat) (W : Int → Bool) (wr : World) : Prop where
  set : SetAt wr w.heap.size n W
  box : wr.heap[w.heap.size + 1]? = some (.cells #[.map (some w.heap.size)] 267)
  below : Below w.heap.size w wr
theorem OrdAt.kept {w wr w' : World} {n : Nat} {W : Int → Bool} (h : OrdAt w n W wr) (hb : Below wr.heap.size wr w') : OrdAt w n W w' :=
  ⟨h.set.kept hb, heap_keep hb h.box, below_step h.below hb⟩
theorem OrdAt.cell {w wr : World} {n : Nat} {W : Int → Bool} (h : OrdAt w n W wr) : wr.cell? ⟨w.heap.size + 1, 0, none⟩ = some (.map (some w.heap.size)) := by rw [cell_of_heap h.box]; rfl
theorem OrdAt.put {w wr : World} {n : Nat} {W : Int → Bool} (h : OrdAt w n W wr) (hn : n < maxLen) {k : Int} (hk : inInt k) :
    ∃ w', (Instr.mapUpdate 267 (.map (some w.heap.size)) (.int .i64 k) (.bool true)).run Tryz.prog wr = .ok () w' ∧ OrdAt w (n + 1) (addTo W k) w' := by
  obtain ⟨w', hr, hs, ht⟩ := h.set.put hn hk
  have hg := ht.grown
  have hlt := (Array.getElem?_eq_some_iff.1 h.box).1
  refine ⟨w', hr, hs, (hg.block _ hlt (by simp)).trans h.box, h.below.grown hg h.below.size (fun k hk => ?_)⟩
  cases hk; exact Nat.le_refl _
theorem firstN_succ (k : Nat) : addTo (firstN k) k = firstN (k + 1) := by
  funext j
  unfold addTo firstN
  rw [Bool.eq_iff_iff]
  simp
  omega
theorem orderedC_drop (W : Int → Bool) (code : List Ins) (k : Nat) (h : k < code.length) : orderedC W (code.drop k) = if code[k].from_.all W then (match writeAll W code[k].to with | none => none | some W' => orderedC W' (code.drop (k + 1))) else none := by
  rw [List.drop_eq_getElem_cons h]; rfl
theorem writeAll_drop (W : Int → Bool) (xs : List Int) (k : Nat) (h : k < xs.length) : writeAll W (xs.drop k) = if W xs[k] then none else writeAll (addTo W xs[k]) (xs.drop (k + 1)) := by
  rw [List.drop_eq_getElem_cons h]; rfl

/-- The cells of an instruction of a list. -/
theorem ins_at {w : World} {A : Option Addr} {n c : Nat} {code : List Ins} (h : Sl 5 RIns w (.slice A n c) code) (k : Nat) (hk : k < code.length) : ∃ b off vt vf vb, A = some ⟨b, off, none⟩ ∧
    w.cell? ⟨b, off + k * 5, none⟩ = some (.int .i64 code[k].op) ∧ w.cell? ⟨b, off + k * 5 + 1, none⟩ = some (.int .i64 code[k].n) ∧ w.cell? ⟨b, off + k * 5 + 2, none⟩ = some vt ∧ w.cell? ⟨b, off + k * 5 + 3, none⟩ = some vf ∧ w.cell? ⟨b, off + k * 5 + 4, none⟩ = some vb ∧
    Ints w vt code[k].to ∧ Ints w vf code[k].from_ ∧ Sl 5 RFlat w vb code[k].body := by
  obtain ⟨A', c', he, hm, hc⟩ := h
  cases he
  obtain ⟨b, off, cs, hA, hl, hcs, vt, vf, vb, rfl, h1, h2, h3⟩ := hc k hk
  exact ⟨b, off, vt, vf, vb, hA, hcs 0 (by simp), hcs 1 (by simp), hcs 2 (by simp), hcs 3 (by simp), hcs 4 (by simp), h1, h2, h3⟩
theorem Sl.form {α : Type} {k : Nat} {R : World → List Value → α → Prop} {w : World} {v : Value} {xs : List α} (h : Sl k R w v xs) : ∃ A c, v = .slice A xs.length c ∧ xs.length ≤ 9223372036854775807 ∧ xs.length ≤ c := by
  obtain ⟨A, c, rfl, hm, _⟩ := h; exact ⟨A, c, rfl, hm⟩

set_option maxRecDepth 100000 in
set_option maxHeartbeats 1600000 in
theorem vec_ordered (many : Nat) (code : List Ins) (out : List Int) (vc vo : Value) (w : World) (hm : many ≤ 1000) (hc : Sl 5 RIns w vc code) (ho : Ints w vo out) (hlen : code.length ≤ 4000) (hout : ∀ x ∈ out, inInt x)
    (hf : ∀ x ∈ code, x.from_.length ≤ 1000000000 ∧ x.to.length ≤ 1000000000 ∧ (∀ n ∈ x.from_, inInt n) ∧ ∀ n ∈ x.to, inInt n) :
    Calls Tryz.prog 150 #[.int .i64 many, vc, vo] w (Gives w (.bool (orderedB many code out))) := by
  obtain ⟨C, cc, rfl, hcm, -⟩ := hc.form
  obtain ⟨O, oc, rfl, -⟩ := ho.form
  have HC := Lib.hid hc
  have HOut := Lib.hid ho
  have HF := Lib.hid hf
  have HOI := Lib.hid hout
  have hg := enters194
  clear hc ho hf hout
  have h0 : OrdAt w 0 (firstN 0) ((w.alloc (.map #[] 0)).alloc (.cells #[.map (some w.heap.size)] 267)) := by
    have s0 : SetAt (w.alloc (.map #[] 0)) w.heap.size 0 (firstN 0) := by
      refine ⟨_, mapV_made w Tryz.prog 3, fun k => ?_⟩
      rw [show firstN 0 k = false by unfold firstN; simp]; rfl
    exact ⟨s0.kept (below1 _ _), by simpa using alloc_new (w.alloc (.map #[] 0)) (.cells #[.map (some w.heap.size)] 267), below2 _ _ _⟩
  have H0 := Lib.hid h0
  clear h0
  have hmm := @run_makeMap Tryz.prog
  go_enter Tryz.func150, Tryz.ntmps150
  go_wp2_with fail
  go_loopw [8, 16] (fun _ i wr => ∃ k : Nat, k ≤ many ∧ i = .int .i64 k ∧ OrdAt w k (firstN k) wr) (fun _ i _ => many - (intOf i).toNat)
  case atStart => exact ⟨0, Nat.zero_le _, rfl, H0.out⟩
  case round =>
    obtain ⟨k, hk, rfl, hat⟩ := hrel
    have HAt := Lib.hid hat
    have hcell := hat.cell
    clear hat H0
    by_cases hlt : k < many
    · obtain ⟨w', hr, hat'⟩ := HAt.out.put (k := (k : Int)) (by unfold maxLen; omega) (by unfold inInt; omega)
      have HAt' := Lib.hid hat'; clear hat'
      go_wp2_with fail
      go_roundw
      case rel => exact ⟨k + 1, hlt, by go_num, by rw [← firstN_succ]; exact HAt'.out⟩
      case measure => simp [intOf]; omega
    · obtain rfl : k = many := by omega
      go_wp2_with fail
      generalize wr = wo at *
      clear hcell
      go_loopw [25] (fun i wr => ∃ (j n : Nat) (W : Int → Bool), j ≤ code.length ∧ i = .int .i64 j ∧ OrdAt w n W wr ∧ n ≤ k + 1000000000 * j ∧ orderedC (firstN k) code = orderedC W (code.drop j)) (fun i _ => code.length - (intOf i).toNat)
      case atStart => exact ⟨0, k, firstN k, Nat.zero_le _, rfl, HAt.out, by omega, rfl⟩
      case round =>
        obtain ⟨j, n, W, hj, rfl, hat, hnj, hord⟩ := hrel
        have HA := Lib.hid hat
        have HO := Lib.hid hord
        have hcell := hat.cell
        clear hord HAt
        by_cases hlt : j < code.length
        · obtain ⟨b, off, vt, vf, vb, rfl, e0, e1, e2, e3, e4, ht, hf, hb⟩ := ins_at HC.out j hlt
          have HT0 := Lib.hid ht
          replace e0 := cell_keep hat.below e0
          replace e1 := cell_keep hat.below e1
          replace e2 := cell_keep hat.below e2
          replace e3 := cell_keep hat.below e3
          replace e4 := cell_keep hat.below e4
          replace ht := ht.below hat.below
          replace hf := hf.below hat.below
          replace hb := hb.reads stays_flat (reads_below hat.below)
          obtain ⟨B, bc, rfl, -⟩ := Sl.form hb
          obtain ⟨T, tc, rfl, -⟩ := ht.form
          obtain ⟨F, fc, rfl, -⟩ := hf.form
          obtain ⟨hf1, hf2, hf3, hf4⟩ := HF.out code[j] (List.getElem_mem hlt)
          have HD := Lib.hid (orderedC_drop W code j hlt)
          have hall := Lib.hid (vec_allIn (w.heap.size + 1) w.heap.size n W (.slice F code[j].from_.length fc) code[j].from_ hf3 _ (hf.below (below1 wr (.cells #[.int .i64 code[j].op, .int .i64 code[j].n, .slice T code[j].to.length tc, .slice F code[j].from_.length fc, .slice B code[j].body.length bc] 63))) (hat.kept (below1 wr (.cells #[.int .i64 code[j].op, .int .i64 code[j].n, .slice T code[j].to.length tc, .slice F code[j].from_.length fc, .slice B code[j].body.length bc] 63))).cell (hat.kept (below1 wr (.cells #[.int .i64 code[j].op, .int .i64 code[j].n, .slice T code[j].to.length tc, .slice F code[j].from_.length fc, .slice B code[j].body.length bc] 63))).set)
          have HA1 := Lib.hid (hat.kept (below1 wr (.cells #[.int .i64 code[j].op, .int .i64 code[j].n, .slice T code[j].to.length tc, .slice F code[j].from_.length fc, .slice B code[j].body.length bc] 63)))
          have hx := Lib.hid (alloc_new wr (.cells #[.int .i64 code[j].op, .int .i64 code[j].n, .slice T code[j].to.length tc, .slice F code[j].from_.length fc, .slice B code[j].body.length bc] 63))
          have HTo := Lib.hid ht
          have HT4 := Lib.hid hf4
          clear hat hcell ht hf hb hf3 hf4
          generalize hxj : code[j] = x at *
          clear hxj
          go_wp2_with fail
          refine hall.out.mono ?_
          rintro e w2 ⟨rfl, hb2⟩
          have HA2 := Lib.hid (HA1.out.kept hb2)
          have hx2 := (block_cell (heap_keep hb2 hx.out) 2 (by simp)).1
          simp only [List.getElem_toArray, List.getElem_cons_zero, List.getElem_cons_succ] at hx2
          have HTo2 := Lib.hid ((HTo.out.below (below1 _ _)).below hb2)
          clear hall HA1 hx hb2 HTo e0 e1 e2 e3 e4
          cases hfa : x.from_.all W
          · rw [hfa] at HD
            have hno : Hid (orderedB k code out = false) := by unfold Hid orderedB; rw [HO.out, HD.out]; rfl
            clear hfa
            go_wp2_with fail
            go_ret
            rw [hno.out]
            exact ⟨rfl, HA2.out.below⟩
          · rw [hfa] at HD
            clear hfa
            go_wp2_with fail
            generalize wr = wq at *
            go_loopw [37] (fun i wr => ∃ (m n' : Nat) (W' : Int → Bool), m ≤ x.to.length ∧ i = .int .i64 m ∧ OrdAt w n' W' wr ∧ n' ≤ n + m ∧ writeAll W x.to = writeAll W' (x.to.drop m) ∧ Below w2.heap.size w2 w2) (fun i _ => x.to.length - (intOf i).toNat)
            case atStart => exact ⟨0, n, W, Nat.zero_le _, rfl, HA2.out, by omega, rfl, Below.refl _ _⟩
            case round =>
              obtain ⟨m, n', W', hm', rfl, hat', hnm, hwa, -⟩ := hrel
              have HWA := Lib.hid hwa
              have hcell := hat'.cell
              clear hwa
              by_cases hlt' : m < x.to.length
              · obtain ⟨b', off', rfl, hce⟩ := (HT0.out.below hat'.below).at_ m hlt'
                have hin := HT4.out x.to[m] (List.getElem_mem hlt')
                have hlk := hat'.set.look hin
                obtain ⟨w', hr, hput⟩ := hat'.put (k := x.to[m]) (by unfold maxLen; omega) hin
                have HPut := Lib.hid hput
                have HD2 := Lib.hid (writeAll_drop W' x.to m hlt')
                have HB' := Lib.hid hat'.below
                clear hat' hput hin
                cases hw : W' x.to[m]
                · rw [hw] at hlk HD2
                  clear hw
                  go_wp2_with fail
                  go_roundw
                  case rel => exact ⟨m + 1, n' + 1, addTo W' x.to[m], hlt', by go_num, HPut.out, by omega, by rw [HWA.out, HD2.out]; rfl, Below.refl _ _⟩
                  case measure => simp [intOf]; omega
                · rw [hw] at hlk HD2
                  clear hw hr
                  have hno : Hid (orderedB k code out = false) := by unfold Hid orderedB; rw [HO.out, HD.out, if_pos trivial, HWA.out, HD2.out]; rfl
                  go_wp2_with fail
                  go_ret
                  rw [hno.out]
                  exact ⟨rfl, HB'.out⟩
              · obtain rfl : m = x.to.length := by omega
                have HAt' := Lib.hid hat'
                clear hat' hcell
                go_wp2_with fail
                go_roundw
                case rel =>
                  refine ⟨j + 1, n', W', hlt, by go_num, HAt'.out, by omega, ?_⟩
                  rw [HO.out, HD.out, if_pos trivial, HWA.out, List.drop_length]
                  rfl
                case measure => simp [intOf]; omega
        · obtain rfl : j = code.length := by omega
          have hall := Lib.hid (vec_allIn (w.heap.size + 1) w.heap.size n W (.slice O out.length oc) out HOI.out wr (HOut.out.below hat.below) hat.cell hat.set)
          clear hat hcell
          go_wp2_with fail
          refine hall.out.mono ?_
          rintro e w2 ⟨rfl, hb2⟩
          have hyes : Hid (orderedB k code out = out.all W) := by unfold Hid orderedB; rw [HO.out, List.drop_length]; rfl
          go_wp2_with fail
          go_ret
          rw [hyes.out]
          exact ⟨rfl, below_step HA.out.below hb2⟩
end Go.Proofs.YtdkcjeaabbkdeaaGreatDoor
end
