/- The law's program and its arguments. What package prof gives for the law's program: in plain terms. What the calls of profiled give. -/
import Derived.Test.YtdkcjeaabbkdeaaGreatDoorZStop
import Derived.Test.YtdkcjeaabbkdeaaGreatDoorZSortN
import Derived.Test.YtdkcjeaabbkdeaaGreatDoorZDiffW
import Derived.Test.YtdkcjeaabbkdeaaGreatDoorZStkW
import Derived.Test.YtdkcjeaabbkdeaaGreatDoorZReadD
import Derived.Test.YtdkcjeaabbkdeaaGreatDoorZTextW
import Derived.Test.YtdkcjeaabbkdeaaGreatDoorZProfA
import Derived.Test.YtdkcjeaabbkdeaaGreatDoorZMapF
set_option linter.unusedVariables false
set_option linter.unusedSimpArgs false
set_option linter.unnecessarySimpa false
set_option linter.unusedSectionVars false
section
namespace Go.Proofs.YtdkcjeaabbkdeaaGreatDoor
open Go.RowKit Go.Sort Go.Shelf
set_option linter.unusedVariables false
set_option linter.unusedSimpArgs false
theorem flatk_get {k : Nat} (css : List (List Value)) (hk : ∀ cs ∈ css, cs.length = k) (j i : Nat) (hj : j < css.length) (hi : i < k) : css.flatten[j * k + i]? = (css[j])[i]? := by
  induction css generalizing j with
  | nil => simp at hj
  | cons s l ih =>
    have hs : s.length = k := hk s (by simp)
    rw [List.flatten_cons]
    cases j with
    | zero => rw [List.getElem?_append_left (by omega)]; simp
    | succ j =>
      rw [List.getElem?_append_right (by rw [hs, Nat.succ_mul]; omega)]
      have : (j + 1) * k + i - s.length = j * k + i := by rw [hs, Nat.succ_mul]; omega
      rw [this, ih (fun cs h => hk cs (by simp [h])) j (by simpa using hj)]; rfl
/-- A list that lies in a block as it was written out. -/
theorem sl_block {α : Type} {k : Nat} {R : World → List Value → α → Prop} {W : World} {g t : Nat} (css : List (List Value)) (xs : List α) (h : W.heap[g]? = some (.cells css.flatten.toArray t)) (hk : ∀ cs ∈ css, cs.length = k) (hl : css.length = xs.length) (hm : xs.length ≤ 9223372036854775807)
    (hR : ∀ j (h1 : j < css.length) (h2 : j < xs.length), R W css[j] xs[j]) : Sl k R W (.slice (some ⟨g, 0, none⟩) xs.length xs.length) xs := by
  refine ⟨_, _, rfl, ⟨hm, Nat.le_refl _⟩, fun j hj => ⟨g, 0, css[j]'(by omega), rfl, hk _ (List.getElem_mem _), fun i hi => ?_, hR j (by omega) hj⟩⟩
  have hk' := hk _ (List.getElem_mem (show j < css.length by omega))
  rw [cell_of_heap h, List.getElem?_toArray, Nat.zero_add, flatk_get css hk j i (by omega) (by omega)]
  exact List.getElem?_eq_getElem hi
theorem ints_block {W : World} {g t : Nat} (xs : List Int) (h : W.heap[g]? = some (.cells (nums xs).toArray t)) (hm : xs.length ≤ 9223372036854775807) : Ints W (.slice (some ⟨g, 0, none⟩) xs.length xs.length) xs := by
  have e : (xs.map fun x => [Value.int .i64 x]).flatten = nums xs := by
    clear h hm
    induction xs with
    | nil => rfl
    | cons x xs ih => simp [nums] at ih ⊢; exact ih
  refine sl_block (t := t) (xs.map fun x => [.int .i64 x]) xs (by rw [e]; exact h) (fun cs hc => by obtain ⟨x, -, rfl⟩ := List.mem_map.1 hc; rfl) (by simp) hm (fun j h1 h2 => by simp [RInt])

def progObjs (B : Nat) : List Obj :=
  [.cells #[.slice (some ⟨B + 18, 0, none⟩) 2 2, .int .i64 0] 25,
   .cells (nums [2]).toArray 3, .cells (nums [0, 1]).toArray 3, .cells (nums [3]).toArray 3, .cells (nums [2]).toArray 3, .cells (nums [4]).toArray 3, .cells (nums [2, 3]).toArray 3,
   .cells (nums [5]).toArray 3, .cells (nums [1, 2]).toArray 3, .cells (nums [6]).toArray 3, .cells (nums [5]).toArray 3,
   .cells (([[.int .i64 1, .int .i64 0, .slice (some ⟨B + 1, 0, none⟩) 1 1, .slice (some ⟨B + 2, 0, none⟩) 2 2, .slice none 0 0],
      [.int .i64 13, .int .i64 0, .slice (some ⟨B + 3, 0, none⟩) 1 1, .slice (some ⟨B + 4, 0, none⟩) 1 1, .slice none 0 0],
      [.int .i64 9, .int .i64 0, .slice (some ⟨B + 5, 0, none⟩) 1 1, .slice (some ⟨B + 6, 0, none⟩) 2 2, .slice none 0 0],
      [.int .i64 3, .int .i64 0, .slice (some ⟨B + 7, 0, none⟩) 1 1, .slice (some ⟨B + 8, 0, none⟩) 2 2, .slice none 0 0],
      [.int .i64 16, .int .i64 1, .slice (some ⟨B + 9, 0, none⟩) 1 1, .slice (some ⟨B + 10, 0, none⟩) 1 1, .slice none 0 0]] : List (List Value)).flatten).toArray 63,
   .cells (nums [1]).toArray 3, .cells (nums [0, 0]).toArray 3,
   .cells (([[.int .i64 1, .int .i64 2, .slice (some ⟨B + 12, 0, none⟩) 1 1, .slice (some ⟨B + 13, 0, none⟩) 2 2, .slice none 0 0]] : List (List Value)).flatten).toArray 63,
   .cells (nums [4, 6]).toArray 3, .cells (nums [7, 7, 2, 9, 4]).toArray 3, .cells (nums [1]).toArray 3,
   .cells (([[.int .i64 2, .slice (some ⟨B + 11, 0, none⟩) 5 5, .slice (some ⟨B + 15, 0, none⟩) 2 2, .slice (some ⟨B + 16, 0, none⟩) 5 5],
      [.int .i64 1, .slice (some ⟨B + 14, 0, none⟩) 1 1, .slice (some ⟨B + 17, 0, none⟩) 1 1, .slice none 0 0]] : List (List Value)).flatten).toArray 61]
theorem flat_nil (W : World) : Sl 5 RFlat W (.slice none 0 0) [] := ⟨none, 0, rfl, by simp, fun j hj => absurd hj (by simp)⟩
theorem prog_reads (W : World) (B : Nat) (h : ∀ i o, (progObjs B)[i]? = some o → W.heap[B + i]? = some o) : RPr W [.slice (some ⟨B + 18, 0, none⟩) 2 2, .int .i64 0] lawP := by
  have i1 := ints_block [2] (h 1 _ rfl) (by simp)
  have i2 := ints_block [0, 1] (h 2 _ rfl) (by simp)
  have i3 := ints_block [3] (h 3 _ rfl) (by simp)
  have i4 := ints_block [2] (h 4 _ rfl) (by simp)
  have i5 := ints_block [4] (h 5 _ rfl) (by simp)
  have i6 := ints_block [2, 3] (h 6 _ rfl) (by simp)
  have i7 := ints_block [5] (h 7 _ rfl) (by simp)
  have i8 := ints_block [1, 2] (h 8 _ rfl) (by simp)
  have i9 := ints_block [6] (h 9 _ rfl) (by simp)
  have i10 := ints_block [5] (h 10 _ rfl) (by simp)
  have i12 := ints_block [1] (h 12 _ rfl) (by simp)
  have i13 := ints_block [0, 0] (h 13 _ rfl) (by simp)
  have i15 := ints_block [4, 6] (h 15 _ rfl) (by simp)
  have i16 := ints_block [7, 7, 2, 9, 4] (h 16 _ rfl) (by simp)
  have i17 := ints_block [1] (h 17 _ rfl) (by simp)
  have hc1 : Sl 5 RIns W (.slice (some ⟨B + 11, 0, none⟩) 5 5) lawMain := sl_block (R := RIns) _ lawMain (h 11 _ rfl) (by simp) (by simp [lawMain]) (by simp [lawMain]) (fun j h1 h2 => by
    match j, h1, h2 with
    | 0, _, _ => exact ⟨_, _, _, rfl, i1, i2, flat_nil W⟩
    | 1, _, _ => exact ⟨_, _, _, rfl, i3, i4, flat_nil W⟩
    | 2, _, _ => exact ⟨_, _, _, rfl, i5, i6, flat_nil W⟩
    | 3, _, _ => exact ⟨_, _, _, rfl, i7, i8, flat_nil W⟩
    | 4, _, _ => exact ⟨_, _, _, rfl, i9, i10, flat_nil W⟩)
  have hc2 : Sl 5 RIns W (.slice (some ⟨B + 14, 0, none⟩) 1 1) lawSquare := sl_block (R := RIns) _ lawSquare (h 14 _ rfl) (by simp) (by simp [lawSquare]) (by simp [lawSquare]) (fun j h1 h2 => by
    match j, h1, h2 with
    | 0, _, _ => exact ⟨_, _, _, rfl, i12, i13, flat_nil W⟩)
  exact ⟨_, rfl, sl_block (R := RFn) _ lawP.funs (h 18 _ rfl) (by simp) (by simp [lawP]) (by simp [lawP]) (fun j h1 h2 => by
    match j, h1, h2 with
    | 0, _, _ => exact ⟨_, _, _, rfl, hc1, i15, i16⟩
    | 1, _, _ => exact ⟨_, _, _, rfl, hc2, i17, ints_nil W none 0⟩)⟩
theorem below_grow0 (w : World) (os : Array Obj) : RowKit.Below w.heap.size w (grow w os) := ⟨rfl, rfl, rfl, by rw [size_grow]; exact Nat.le_add_right _ _, fun k hk => heap_grow_old _ _ hk⟩
theorem grow_get (w : World) (os : List Obj) (i : Nat) (o : Obj) (h : os[i]? = some o) : (grow w os.toArray).heap[w.heap.size + i]? = some o := by
  show (w.heap ++ os.toArray)[w.heap.size + i]? = _
  rw [Array.getElem?_append_right (by omega)]
  simpa using h
set_option maxRecDepth 100000 in
set_option maxHeartbeats 1000000 in
theorem law_program (w : World) : Calls Tryz.prog 45 #[] w fun e w' => RowKit.Below w.heap.size w w' ∧ ∃ cp : List Value, e = .returned (.agg cp.toArray) ∧ RPr w' cp lawP := by
  have hfin : RowKit.Below w.heap.size w (grow w (progObjs w.heap.size).toArray) := below_grow0 w _
  have hrd := prog_reads _ _ (grow_get w (progObjs w.heap.size))
  have h0 := grow_get w (progObjs w.heap.size) 0 _ rfl
  have n0 := (block_cell h0 0 (by simp)).1
  have n1 := (block_cell h0 1 (by simp)).1
  simp only [List.getElem_toArray, List.getElem_cons_zero, List.getElem_cons_succ, Nat.add_zero] at n0 n1
  have HF := Lib.hid (And.intro hfin hrd)
  have HN := Lib.hid (And.intro n0 n1)
  clear hfin hrd h0 n0 n1
  go_enter Tryz.func45, Tryz.ntmps45
  go_wp2_with fail
  simp only [alloc_eq_grow, grow_grow, List.append_toArray, List.cons_append, List.nil_append]
  have hw := HN.out
  have hF := HF.out
  simp only [progObjs, nums, List.map_cons, List.map_nil, List.flatten_cons, List.flatten_nil, List.cons_append, List.nil_append, List.append_nil] at hw hF
  simp only [Nat.add_assoc, Nat.reduceAdd]
  obtain ⟨n0, n1⟩ := hw
  clear HN HF
  generalize grow w _ = W9 at *
  refine bodyPost_ret (v := .agg #[.slice (some ⟨w.heap.size + 18, 0, none⟩) 2 2, .int .i64 0]) ?_ rfl ?_
  · simp [results, Tryz.results45, go_sem, n0, n1]
  · exact ⟨hF.1, _, rfl, hF.2⟩
set_option maxRecDepth 100000 in
theorem law_args (w : World) : Calls Tryz.prog 46 #[] w fun e w' => RowKit.Below w.heap.size w w' ∧ ∃ v, e = .returned v ∧ Lists w' v lawArgs := by
  have hl : Lists (((w.alloc (.cells (nums [1, 2, 3]).toArray 3)).alloc (.cells (nums [0, 1, 0]).toArray 3)).alloc (.cells #[.slice (some ⟨w.heap.size, 0, none⟩) 3 3, .slice (some ⟨w.heap.size + 1, 0, none⟩) 3 3] 22)) (.slice (some ⟨w.heap.size + 1 + 1, 0, none⟩) 2 2) lawArgs := by
    have h1 := ints_lit w [1, 2, 3] 3 (by simp)
    have h2 := ints_lit (w.alloc (.cells (nums [1, 2, 3]).toArray 3)) [0, 1, 0] 3 (by simp)
    rw [World.size_alloc] at h2
    have h := lists_lit ((w.alloc (.cells (nums [1, 2, 3]).toArray 3)).alloc (.cells (nums [0, 1, 0]).toArray 3)) [.slice (some ⟨w.heap.size, 0, none⟩) 3 3, .slice (some ⟨w.heap.size + 1, 0, none⟩) 3 3] lawArgs 22 rfl (by simp [lawArgs]) (fun j h3 h4 => by
      match j, h3, h4 with
      | 0, _, _ => exact h1.below (below1 _ _)
      | 1, _, _ => exact h2)
    rw [World.size_alloc, World.size_alloc] at h
    exact h
  have HL := Lib.hid hl
  have HB := Lib.hid (below3 w (.cells (nums [1, 2, 3]).toArray 3) (.cells (nums [0, 1, 0]).toArray 3) (.cells #[.slice (some ⟨w.heap.size, 0, none⟩) 3 3, .slice (some ⟨w.heap.size + 1, 0, none⟩) 3 3] 22))
  clear hl
  go_enter Tryz.func46, Tryz.ntmps46
  go_wp2_with fail
  go_ret
  exact ⟨HB.out, _, rfl, HL.out⟩
end Go.Proofs.YtdkcjeaabbkdeaaGreatDoor
end
section
namespace Go.Proofs.YtdkcjeaabbkdeaaGreatDoor
open Go.RowKit Go.Shelf
set_option linter.unusedVariables false
set_option linter.unusedSimpArgs false

theorem nodes_want (lanes : Int) (want : List NodeC) (h : ∀ y ∈ want, putS lawP lanes lawSteps y.node = some y) (hn : ∀ s ∈ lawSteps, ∃ y ∈ want, y.node = nodeOf lawP s) (ha : Asc want) (d : List NodeC) (hd : NodesIs lawP lanes lawSteps d) : d = want := by
  refine asc_ext hd.1 ha fun x => (hd.2 x).trans ⟨fun hx => ?_, fun hx => h x hx⟩
  obtain ⟨-, s, hs, e⟩ := putS_in lawP lanes lawSteps _ _ hx
  obtain ⟨y, hy, ey⟩ := hn s hs
  have := h y hy
  rw [ey, e, hx] at this
  cases this
  exact hy
def wantA : List NodeC := [⟨-1, 1, 4, 4⟩, ⟨2, 1, 6, 6⟩, ⟨4, 1, 1, 1⟩, ⟨7, 2, 12, 12⟩, ⟨9, 1, 8, 8⟩]
def wantB : List NodeC := [⟨-1, 1, 4, 2⟩, ⟨2, 1, 6, 3⟩, ⟨4, 1, 1, 1⟩, ⟨7, 2, 12, 6⟩, ⟨9, 1, 8, 3⟩]
theorem nodes_A (d : List NodeC) (hd : NodesIs lawP 1 lawSteps d) : d = wantA := by
  refine nodes_want 1 wantA ?_ ?_ (by unfold Asc wantA; decide) d hd
  · intro y hy
    simp only [wantA, List.mem_cons, List.not_mem_nil, or_false] at hy
    rcases hy with rfl | rfl | rfl | rfl | rfl <;> kernel_rfl
  · intro s hs
    simp only [lawSteps, List.mem_cons, List.not_mem_nil, or_false] at hs
    rcases hs with rfl | rfl | rfl | rfl | rfl | rfl
    · exact ⟨⟨7, 2, 12, 12⟩, by simp [wantA], by kernel_rfl⟩
    · exact ⟨⟨7, 2, 12, 12⟩, by simp [wantA], by kernel_rfl⟩
    · exact ⟨⟨2, 1, 6, 6⟩, by simp [wantA], by kernel_rfl⟩
    · exact ⟨⟨9, 1, 8, 8⟩, by simp [wantA], by kernel_rfl⟩
    · exact ⟨⟨4, 1, 1, 1⟩, by simp [wantA], by kernel_rfl⟩
    · exact ⟨⟨-1, 1, 4, 4⟩, by simp [wantA], by kernel_rfl⟩
theorem nodes_B (d : List NodeC) (hd : NodesIs lawP 4 lawSteps d) : d = wantB := by
  refine nodes_want 4 wantB ?_ ?_ (by unfold Asc wantB; decide) d hd
  · intro y hy
    simp only [wantB, List.mem_cons, List.not_mem_nil, or_false] at hy
    rcases hy with rfl | rfl | rfl | rfl | rfl <;> kernel_rfl
  · intro s hs
    simp only [lawSteps, List.mem_cons, List.not_mem_nil, or_false] at hs
    rcases hs with rfl | rfl | rfl | rfl | rfl | rfl
    · exact ⟨⟨7, 2, 12, 6⟩, by simp [wantB], by kernel_rfl⟩
    · exact ⟨⟨7, 2, 12, 6⟩, by simp [wantB], by kernel_rfl⟩
    · exact ⟨⟨2, 1, 6, 3⟩, by simp [wantB], by kernel_rfl⟩
    · exact ⟨⟨9, 1, 8, 3⟩, by simp [wantB], by kernel_rfl⟩
    · exact ⟨⟨4, 1, 1, 1⟩, by simp [wantB], by kernel_rfl⟩
    · exact ⟨⟨-1, 1, 4, 2⟩, by simp [wantB], by kernel_rfl⟩
theorem law_stepOK : ∀ s ∈ lawSteps, StepOK lawP s := by
  intro s hs
  simp only [lawSteps, List.mem_cons, List.not_mem_nil, or_false] at hs
  rcases hs with rfl | rfl | rfl | rfl | rfl | rfl <;> exact ⟨by decide, by decide, by decide, by decide⟩
theorem law_stepIn : ∀ s ∈ lawSteps, StepIn lawP s := by
  intro s hs
  simp only [lawSteps, List.mem_cons, List.not_mem_nil, or_false] at hs
  rcases hs with rfl | rfl | rfl | rfl | rfl | rfl <;> exact ⟨by decide, by decide, by decide, by decide⟩
theorem law_funs : funsAt lawP lawSteps 6 = [0, 1, 27, 31, 1, 1, 4, 4] := by kernel_rfl
theorem key0 : keyT [0] = [48] := by kernel_rfl
theorem key1 : keyT [0, 1] = [48, 59, 49] := by kernel_rfl
def wantS : List StackC := [⟨[0], 27⟩, ⟨[0, 1], 4⟩]
theorem law_text : textOfStacks wantS = ([[48, 32, 50, 55], [48, 59, 49, 32, 52]], 0) := by kernel_rfl
theorem law_read1 : readS [[49, 32, 50], [48, 32, 49]] = none := by kernel_rfl
theorem law_read2 : readS [[48, 59, 48, 49, 32, 50]] = none := by kernel_rfl
theorem law_read3 : readS [[48, 32]] = none := by kernel_rfl
theorem stk1 : stkAt lawSteps 1 = [0] := by kernel_rfl
theorem stk2 : stkAt lawSteps 2 = [0] := by kernel_rfl
theorem stk3 : stkAt lawSteps 3 = [0] := by kernel_rfl
theorem stk4 : stkAt lawSteps 4 = [0] := by kernel_rfl
theorem stk5 : stkAt lawSteps 5 = [0] := by kernel_rfl
theorem stk6 : stkAt lawSteps 6 = [0, 1] := by kernel_rfl
theorem fir_eq (key : List UInt8) : firK lawSteps 6 key = if key = [48, 59, 49] then some [0, 1] else if key = [48] then some [0] else none := by
  have e1 : firK lawSteps 1 = fupd (fun _ => none) [48] [0] := by
    rw [firK, if_neg (by rw [stk1, key0]; simp [sumK]), stk1, key0]; rfl
  have step : ∀ k, stkAt lawSteps (k + 1) = [0] → (firK lawSteps k [48]).isSome = true → firK lawSteps (k + 1) = firK lawSteps k := fun k h1 h2 => by
    rw [firK, if_pos (by rw [h1, key0, sum_fir]; exact h2)]
  have e2 : firK lawSteps 2 = firK lawSteps 1 := step 1 stk2 (by rw [e1]; rfl)
  have e3 : firK lawSteps 3 = firK lawSteps 1 := (step 2 stk3 (by rw [e2, e1]; rfl)).trans e2
  have e4 : firK lawSteps 4 = firK lawSteps 1 := (step 3 stk4 (by rw [e3, e1]; rfl)).trans e3
  have e5 : firK lawSteps 5 = firK lawSteps 1 := (step 4 stk5 (by rw [e4, e1]; rfl)).trans e4
  have e6 : firK lawSteps 6 = fupd (firK lawSteps 5) [48, 59, 49] [0, 1] := by
    rw [firK, if_neg (by rw [stk6, key1, sum_fir, e5, e1]; simp [fupd]), stk6, key1]
  rw [e6, e5, e1]
  unfold fupd
  split <;> rename_i h
  · rfl
  · rfl
theorem sum0 : sumK lawSteps 6 [48] = some 27 := by kernel_rfl
theorem sum1 : sumK lawSteps 6 [48, 59, 49] = some 4 := by kernel_rfl
theorem stks_want (d : List StackC) (h : StksIs lawSteps d) : d = wantS := by
  obtain ⟨ks, hnd, h1, h2, hp, hs⟩ := h
  have hl : lawSteps.length = 6 := rfl
  rw [hl] at h1 h2 hp
  have hk : ks.Perm [([48], [0]), ([48, 59, 49], [0, 1])] := by
    have hkn : ks.Nodup := by
      unfold List.Nodup at hnd ⊢
      rw [List.pairwise_map] at hnd
      exact hnd.imp fun h e => h (by rw [e])
    rw [List.perm_ext_iff_of_nodup hkn (by decide)]
    rintro ⟨key, l⟩
    constructor
    · intro hm
      have := h1 _ hm
      simp only [fir_eq] at this
      split at this
      · next e => cases this; rw [e]; simp
      · split at this
        · next e => cases this; rw [e]; simp
        · cases this
    · intro hm
      refine h2 key l ?_
      simp only [List.mem_cons, List.not_mem_nil, or_false, Prod.mk.injEq] at hm
      rw [fir_eq]
      rcases hm with ⟨rfl, rfl⟩ | ⟨rfl, rfl⟩
      · rw [if_neg (by decide), if_pos rfl]
      · rw [if_pos rfl]
  have hd : d.Perm wantS := by
    refine hp.trans ((hk.map _).trans ?_)
    simp only [List.map_cons, List.map_nil, sum0, sum1]
    exact List.Perm.refl _
  have hlen := hd.length_eq
  match d, hlen, hd, hs with
  | [a, b], _, hd, hs =>
    have ha : a ∈ wantS := hd.mem_iff.1 (by simp)
    simp only [wantS, List.mem_cons, List.not_mem_nil, or_false] at ha
    rcases ha with rfl | rfl
    · have := (List.perm_cons _).1 hd
      rw [List.perm_singleton.1 this]; rfl
    · have h3 := hs 0 1 (by omega) (by simp)
      have hb : b = ⟨[0], 27⟩ := by
        have h4 : [b, (⟨[0, 1], 4⟩ : StackC)].Perm [⟨[0], 27⟩, ⟨[0, 1], 4⟩] := (List.Perm.swap _ _ _).trans hd
        have h5 := List.perm_append_right_iff [(⟨[0, 1], 4⟩ : StackC)] |>.1 (show ([b] ++ [(⟨[0, 1], 4⟩ : StackC)]).Perm ([(⟨[0], 27⟩ : StackC)] ++ [(⟨[0, 1], 4⟩ : StackC)]) from h4)
        have := List.perm_singleton.1 h5
        simpa using this
      subst hb
      exact absurd (show cmpL [0] [0, 1] < 0 by decide) h3
end Go.Proofs.YtdkcjeaabbkdeaaGreatDoor
end
section
namespace Go.Proofs.YtdkcjeaabbkdeaaGreatDoor
open Go.RowKit Go.Shelf
set_option linter.unusedVariables false
set_option linter.unusedSimpArgs false

/-- The package's variables, as they were laid. -/
structure AllG (w : World) : Prop where
  glob : Glob w
  prof : PGlob w
  tab : Tab w
  err : EGlob w
  none : NGlob w
theorem AllG.below {w w' : World} (h : AllG w) (hb : Below w.heap.size w w') : AllG w' := ⟨h.glob.below hb, h.prof.below hb, h.tab.below hb, h.err.below hb, cell_keep hb h.none⟩
theorem law_nodesA (w : World) (hG : AllG w) (cp : List Value) (va : Value) (hp : RPr w cp lawP) (ha : Lists w va lawArgs) : Calls Tryz.prog 13 #[.agg cp.toArray, va, .int .i64 100, .int .i64 1] w fun e w' => Below w.heap.size w w' ∧ ∃ A c, e = .returned (.tuple #[.slice A 5 c, .int .i64 0]) ∧ NodesL w' (.slice A 5 c) wantA ∧ A ≠ none := by
  have h := prof_nodes lawP semL cp lawArgs va 100 1 w hp lawP_sane lawP_does hG.glob ha (by rw [law_trace]; exact law_stepOK) (by rw [law_trace]; decide)
  rw [law_trace] at h
  refine h.mono ?_
  rintro e w' ⟨hb, v, err, rfl, hr⟩
  rw [if_neg (by simp), if_neg (by omega)] at hr
  obtain ⟨rfl, d, A, c, rfl, hd, hn, hnone⟩ := hr
  obtain rfl := nodes_A d hd
  exact ⟨hb, A, c, rfl, hn, fun e => by have := (hnone e).1; cases this⟩
theorem law_nodesB (w : World) (hG : AllG w) (cp : List Value) (va : Value) (hp : RPr w cp lawP) (ha : Lists w va lawArgs) : Calls Tryz.prog 13 #[.agg cp.toArray, va, .int .i64 100, .int .i64 4] w fun e w' => Below w.heap.size w w' ∧ ∃ A c, e = .returned (.tuple #[.slice A 5 c, .int .i64 0]) ∧ NodesL w' (.slice A 5 c) wantB := by
  have h := prof_nodes lawP semL cp lawArgs va 100 4 w hp lawP_sane lawP_does hG.glob ha (by rw [law_trace]; exact law_stepOK) (by rw [law_trace]; decide)
  rw [law_trace] at h
  refine h.mono ?_
  rintro e w' ⟨hb, v, err, rfl, hr⟩
  rw [if_neg (by simp), if_neg (by omega)] at hr
  obtain ⟨rfl, d, A, c, rfl, hd, hn, hnone⟩ := hr
  obtain rfl := nodes_B d hd
  exact ⟨hb, A, c, rfl, hn⟩
theorem law_funsS (w : World) (hG : AllG w) (cp : List Value) (va : Value) (hp : RPr w cp lawP) (ha : Lists w va lawArgs) : Calls Tryz.prog 15 #[.agg cp.toArray, va, .int .i64 100] w fun e w' => Below w.heap.size w w' ∧ ∃ g, e = .returned (.tuple #[.slice (some ⟨g, 0, none⟩) 2 2, .int .i64 0]) ∧ w'.heap[g]? = some (.cells (nums [0, 1, 27, 31, 1, 1, 4, 4]).toArray 68) := by
  have h := prof_funs lawP semL cp lawArgs va 100 w hp lawP_sane lawP_does hG.glob ha (by rw [law_trace]; exact law_stepIn) (by rw [law_trace]; decide) (by decide) (by decide)
  rw [law_trace] at h
  refine h.mono ?_
  rintro e w' ⟨hb, v, err, rfl, hr⟩
  rw [if_neg (by simp)] at hr
  obtain ⟨rfl, g, rfl, hg, -⟩ := hr
  have e6 : funsAt lawP lawSteps lawSteps.length = [0, 1, 27, 31, 1, 1, 4, 4] := law_funs
  rw [e6] at hg
  exact ⟨hb, g, rfl, hg⟩
theorem law_stacksS (w : World) (hG : AllG w) (cp : List Value) (va : Value) (hp : RPr w cp lawP) (ha : Lists w va lawArgs) : Calls Tryz.prog 17 #[.agg cp.toArray, va, .int .i64 100] w fun e w' => Below w.heap.size w w' ∧ ∃ v, e = .returned (.tuple #[v, .int .i64 0]) ∧ StksL w' v wantS := by
  have h := prof_stacks lawP semL cp lawArgs va 100 w hp lawP_sane lawP_does hG.glob ha hG.tab hG.none (by rw [law_trace]; exact law_stepIn) (by rw [law_trace]; decide) (by decide) (fun _ => by rw [law_trace]; decide)
  rw [law_trace] at h
  refine h.mono ?_
  rintro e w' ⟨hb, v, err, rfl, hr⟩
  rw [if_neg (by simp)] at hr
  obtain ⟨rfl, d, hd, hn⟩ := hr
  obtain rfl := stks_want d hd
  exact ⟨hb, v, rfl, hn⟩
theorem want_fits : ∀ x ∈ wantS, StackFits x := by
  intro x hx
  simp only [wantS, List.mem_cons, List.not_mem_nil, or_false] at hx
  rcases hx with rfl | rfl
  · exact ⟨by unfold inInt; decide, fun n hn => by simp at hn; subst hn; unfold inInt; decide, by decide⟩
  · exact ⟨by unfold inInt; decide, fun n hn => by simp at hn; rcases hn with rfl | rfl <;> (unfold inInt; decide), by decide⟩
theorem law_textS (w : World) (hG : AllG w) (v : Value) (hv : StksL w v wantS) : Calls Tryz.prog 27 #[v] w fun e w' => Below w.heap.size w w' ∧ ∃ v', e = .returned (.tuple #[v', .int .i64 0]) ∧ TextsL w' v' [[48, 32, 50, 55], [48, 59, 49, 32, 52]] := by
  have h := prof_text wantS v w hv want_fits (by decide) hG.tab
  rw [law_text] at h
  refine h.mono ?_
  rintro e w' ⟨hb, v', rfl, ht⟩
  exact ⟨hb, v', rfl, ht⟩
theorem law_topS (w : World) (hG : AllG w) (A : Option Addr) (c : Nat) (hA : A ≠ none) (hv : NodesL w (.slice A 5 c) wantA) : Calls Tryz.prog 23 #[.slice A 5 c, .int .i64 2] w fun e w' => Below w.heap.size w w' ∧ ∃ v', e = .returned (.tuple #[v', .int .i64 0]) ∧ NodesL w' v' [⟨7, 2, 12, 12⟩, ⟨9, 1, 8, 8⟩] := by
  have h := prof_top wantA A c 2 w hG.prof hv (fun e => absurd e hA) (by decide) (by decide)
  refine h.mono ?_
  rintro e w' ⟨hb, v, err, rfl, hr⟩
  rw [if_neg (by decide), if_neg (by decide)] at hr
  obtain ⟨rfl, m, hp, hs, hn⟩ := hr
  have hm := top_unique wantA m (by unfold Asc wantA; decide) hp hs
  have hr : refTopAll wantA = [⟨7, 2, 12, 12⟩, ⟨9, 1, 8, 8⟩, ⟨2, 1, 6, 6⟩, ⟨-1, 1, 4, 4⟩, ⟨4, 1, 1, 1⟩] := by decide
  rw [hm, hr] at hn
  exact ⟨hb, v, rfl, hn⟩
theorem diff_want : DiffL wantA (wantA.take 4) [⟨9, -1, -8, -8⟩] := by
  refine ⟨by unfold Asc; decide, fun x => ⟨fun hx => ?_, fun ⟨hn, hx⟩ => ?_⟩⟩
  · simp only [List.mem_cons, List.not_mem_nil, or_false] at hx
    subst hx
    decide
  · have hsp : wantA = wantA.take 4 ++ [⟨9, 1, 8, 8⟩] := rfl
    by_cases h9 : x.node = 9
    · rw [h9] at hx
      have : moreN (ofN wantA 9) (ofN (wantA.take 4) 9) = ⟨9, -1, -8, -8⟩ := by decide
      rw [this] at hx
      rw [hx]; simp
    · have heq : ofN wantA x.node = ofN (wantA.take 4) x.node := by
        unfold ofN
        rw [hsp, List.find?_append]
        have : ([(⟨9, 1, 8, 8⟩ : NodeC)].find? fun y => y.node == x.node) = none := by
          simp; exact fun e => h9 e.symm
        rw [this, Option.or_none]
        rfl
      rw [heq] at hx
      have h1 := congrArg NodeC.count hx
      have h2 := congrArg NodeC.work hx
      have h3 := congrArg NodeC.cycles hx
      simp only [moreN, Int.sub_self] at h1 h2 h3
      unfold nonzero at hn
      rw [h1, h2, h3] at hn
      simp at hn
theorem law_diffS (w : World) (hG : AllG w) (A : Option Addr) (c : Nat) (hv : NodesL w (.slice A 5 c) wantA) : Calls Tryz.prog 25 #[.slice A 5 c, .slice A 4 c] w fun e w' => Below w.heap.size w w' ∧ ∃ v', e = .returned (.tuple #[v', .int .i64 0]) ∧ NodesL w' v' [⟨9, -1, -8, -8⟩] := by
  have h4 := nodesL_take hv 4 (by decide) c (by obtain ⟨A', c', he, hm, -⟩ := hv; cases he; have := hm.2; simp [wantA] at this; omega)
  have h := prof_diff wantA (wantA.take 4) _ _ w hG.prof hv h4 (by unfold Fits wantA; decide) (by unfold Fits wantA; decide) (by decide) (by decide)
  refine h.mono ?_
  rintro e w' ⟨hb, v, err, rfl, hr⟩
  rw [if_neg (by decide)] at hr
  obtain ⟨rfl, d, hd, hn⟩ := hr
  obtain rfl := diffL_unique hd diff_want
  exact ⟨hb, v, rfl, hn⟩
theorem law_readS (ls : List (List UInt8)) (hn : readS ls = none) (ha : ∀ l ∈ ls, Ascii l ∧ l.length ≤ 1000000) (hlen : ls.length ≤ 1000000) (w : World) (hG : AllG w) (v : Value) (hv : TextsL w v ls) : Calls Tryz.prog 29 #[v] w fun e w' => Below w.heap.size w w' ∧ e = .returned (.tuple #[.slice none 0 0, .int .i64 8]) := by
  refine (prof_read ls v w hv ha hlen hG.err hG.tab).mono ?_
  rintro e w' ⟨hb, v, err, rfl, hr⟩
  rw [hn] at hr
  obtain ⟨rfl, rfl⟩ := hr
  exact ⟨hb, rfl⟩
end Go.Proofs.YtdkcjeaabbkdeaaGreatDoor
end
