/- Package vec: the table of shapes. Package vec: what is done with one list, two, three, and with a number. Package vec: instructions as they lie in cells; plain.do. What a run of a vector program is, as plain functions: no program in sight. -/
import Derived.Test.YtdkcjeaabbkdeaaGreatDoorZVecA
import Derived.Test.YtdkcjeaabbkdeaaGreatDoorZMaker
import Derived.Great.BuildSlice
set_option linter.unusedVariables false
set_option linter.unusedSimpArgs false
set_option linter.unnecessarySimpa false
set_option linter.unusedSectionVars false
section
namespace Go.Proofs.YtdkcjeaabbkdeaaGreatDoor
open Go.RowKit Go.Great
set_option linter.unusedVariables false
set_option linter.unusedSimpArgs false
set_option maxRecDepth 100000 in
theorem vec_numbered (g : FuncId) (w : World) : Calls Tryz.prog 222 #[.func (.func g) #[] #[]] w fun e w' => e = .returned (.func (.func 265) #[] #[.pointer (some ⟨w.heap.size, 0, none⟩)]) ∧ w' = w.alloc (.cells #[.func (.func g) #[] #[]] 231) := by
  go_enter Tryz.func222, Tryz.ntmps222
  go_wp2
  go_ret
  exact ⟨rfl, rfl⟩
set_option maxRecDepth 100000 in
theorem vec_three (g : FuncId) (w : World) : Calls Tryz.prog 225 #[.func (.func g) #[] #[]] w fun e w' => e = .returned (.func (.func 268) #[] #[.pointer (some ⟨w.heap.size, 0, none⟩)]) ∧ w' = w.alloc (.cells #[.func (.func g) #[] #[]] 295) := by
  go_enter Tryz.func225, Tryz.ntmps225
  go_wp2
  go_ret
  exact ⟨rfl, rfl⟩
set_option maxRecDepth 100000 in
theorem vec_two (g : FuncId) (w : World) : Calls Tryz.prog 227 #[.func (.func g) #[] #[]] w fun e w' => e = .returned (.func (.func 272) #[] #[.pointer (some ⟨w.heap.size, 0, none⟩)]) ∧ w' = w.alloc (.cells #[.func (.func g) #[] #[]] 297) := by
  go_enter Tryz.func227, Tryz.ntmps227
  go_wp2
  go_ret
  exact ⟨rfl, rfl⟩
set_option maxRecDepth 100000 in
theorem vec_one (g : FuncId) (w : World) : Calls Tryz.prog 232 #[.func (.func g) #[] #[]] w fun e w' => e = .returned (.func (.func 275) #[] #[.pointer (some ⟨w.heap.size, 0, none⟩)]) ∧ w' = w.alloc (.cells #[.func (.func g) #[] #[]] 299) := by
  go_enter Tryz.func232, Tryz.ntmps232
  go_wp2
  go_ret
  exact ⟨rfl, rfl⟩

/-- A call of these, the world a letter. -/
def Boxed (k t : Nat) (g : FuncId) (w : World) (e : Ending) (w' : World) : Prop := e = .returned (.func (.func k) #[] #[.pointer (some ⟨w.heap.size, 0, none⟩)]) ∧ Below w.heap.size w w' ∧ w'.heap.size = w.heap.size + 1 ∧ w'.heap[w.heap.size]? = some (.cells #[.func (.func g) #[] #[]] t)
theorem boxed {f k t : Nat} {g : FuncId} {w : World} (h : Calls Tryz.prog f #[.func (.func g) #[] #[]] w fun e w' => e = .returned (.func (.func k) #[] #[.pointer (some ⟨w.heap.size, 0, none⟩)]) ∧ w' = w.alloc (.cells #[.func (.func g) #[] #[]] t)) :
    Calls Tryz.prog f #[.func (.func g) #[] #[]] w (Boxed k t g w) := h.mono fun e w' ⟨he, hw⟩ => by
  subst hw
  exact ⟨he, below1 _ _, by simp, alloc_new _ _⟩
/-- The table's rows: how many are read at least and at most, how many are written, the function of N, what is done. -/
def shapeRow (low high to : Int) (num : FuncId) (d : Value) : List Value := [.int .i64 low, .int .i64 high, .int .i64 to, .func (.func num) #[] #[], d]
def boxFn (k q : Nat) : Value := .func (.func k) #[] #[.pointer (some ⟨q, 0, none⟩)]
def plainFn (k : Nat) : Value := .func (.func k) #[] #[]
def shapeCells (q : Nat) : List Value :=
  shapeRow 1 1 1 152 (plainFn 220) ++
  shapeRow 2 2 1 219 (boxFn 265 (q + 1)) ++
  shapeRow 3 3 1 224 (boxFn 268 (q + 2)) ++
  shapeRow 2 2 1 224 (boxFn 272 (q + 3)) ++
  shapeRow 3 3 1 224 (boxFn 268 (q + 4)) ++
  shapeRow 2 2 1 224 (boxFn 272 (q + 5)) ++
  shapeRow 2 2 1 224 (boxFn 272 (q + 6)) ++
  shapeRow 1 1 1 224 (boxFn 275 (q + 7)) ++
  shapeRow 2 2 1 224 (boxFn 272 (q + 8)) ++
  shapeRow 2 2 1 235 (boxFn 265 (q + 9)) ++
  shapeRow 2 2 1 235 (boxFn 265 (q + 10)) ++
  shapeRow 2 2 1 224 (boxFn 272 (q + 11)) ++
  shapeRow 2 2 1 224 (boxFn 272 (q + 12)) ++
  shapeRow 1 1 1 224 (boxFn 275 (q + 13)) ++
  shapeRow 1 100 1 224 (plainFn 241) ++
  shapeRow 1 1 0 224 (plainFn 243) ++
  shapeRow 1 100 (-1) 224 .nilFunc ++
  shapeRow 1 100 (-1) 224 .nilFunc
def shapeRowOf (q k : Nat) : List Value := ((shapeCells q).drop (k * 5)).take 5
set_option maxRecDepth 100000 in
theorem index264 (q k : Nat) (hk : k < 18) (w : World) : (Instr.index 264 (.agg (shapeCells q).toArray) (.int .i64 k)).run Tryz.prog w = .ok (.agg (shapeRowOf q k).toArray) w := by
  have h : k = 0 ∨ k = 1 ∨ k = 2 ∨ k = 3 ∨ k = 4 ∨ k = 5 ∨ k = 6 ∨ k = 7 ∨ k = 8 ∨ k = 9 ∨ k = 10 ∨ k = 11 ∨ k = 12 ∨ k = 13 ∨ k = 14 ∨ k = 15 ∨ k = 16 ∨ k = 17 := by omega
  rcases h with rfl | rfl | rfl | rfl | rfl | rfl | rfl | rfl | rfl | rfl | rfl | rfl | rfl | rfl | rfl | rfl | rfl | rfl
  all_goals (show _ = _; kernel_rfl)
theorem info264 : (Tryz.prog.info? 264).map (·.size) = some 90 := by kernel_rfl
theorem results_cell {P : Program} {fn : Func} {a : Nat} {t : TypeId} (hf : fn.results = #[.cell a t]) (tmps : Array Value) (w : World) {p : Addr} {v : Value} (hx : tmps.getD a undef = .pointer (some p)) (hl : (loadVar t p).run P w = .ok v w) : (results fn tmps).run P w = .ok v w := by
  simp only [results, hf]
  have hx' : tmps[a]?.getD undef = .pointer (some p) := by rw [← hx]; simp
  simp [hx', hl, asAddr]
theorem heap_setRow {w : World} {B t : Nat} {c cs : Array Value} (h : w.heap[B]? = some (.cells c t)) : (w.setRow B cs).heap[B]? = some (.cells cs t) := by
  obtain ⟨hlt, hk'⟩ := Array.getElem?_eq_some_iff.1 h
  show (w.heap.modify B _)[B]? = _
  rw [Array.getElem?_eq_getElem (by rw [Array.size_modify]; exact hlt), Array.getElem_modify_self, hk']
theorem heap_setRow_ne {w : World} {B k : Nat} {cs : Array Value} (hk : k ≠ B) : (w.setRow B cs).heap[k]? = w.heap[k]? := by
  show (w.heap.modify B _)[k]? = _
  rw [Array.getElem?_modify, if_neg (fun e => hk e.symm)]
theorem below_setRow {n B : Nat} {w w' : World} {cs : Array Value} (h : Below n w w') (hB : n ≤ B) : Below n w (w'.setRow B cs) :=
  ⟨h.os, h.tape, h.output, by show _ ≤ (w'.heap.modify B _).size; rw [Array.size_modify]; exact h.size, fun k hk => (heap_setRow_ne (by omega)).trans (h.block k hk)⟩
/-- What the boxes hold. -/
def innerFn (k : Nat) : Nat := ([220, 223, 226, 228, 229, 230, 231, 233, 234, 236, 237, 238, 239, 240] : List Nat).getD k 0
def GivesShapes (w : World) (e : Ending) (w' : World) : Prop := e = .returned (.agg (shapeCells w.heap.size).toArray) ∧ Below w.heap.size w w' ∧ ∀ k, 1 ≤ k → k ≤ 13 → w'.cell? ⟨w.heap.size + k, 0, none⟩ = some (plainFn (innerFn k))
set_option maxRecDepth 100000 in
set_option maxHeartbeats 1600000 in
theorem vec_shapes (w : World) : Calls Tryz.prog 190 #[] w (GivesShapes w) := by
  go_enter Tryz.func190, Tryz.ntmps190
  go_wp2_with fail
  refine (boxed (vec_numbered _ _)).mono ?_
  rintro e w1 ⟨rfl, hb1, hs1, hh1⟩
  have H1 := Lib.hid (And.intro hb1 (And.intro hs1 hh1)); clear hb1 hs1 hh1
  go_wp2_with fail
  refine (boxed (vec_three _ _)).mono ?_
  rintro e w2 ⟨rfl, hb2, hs2, hh2⟩
  have H2 := Lib.hid (And.intro hb2 (And.intro hs2 hh2)); clear hb2 hs2 hh2
  go_wp2_with fail
  refine (boxed (vec_two _ _)).mono ?_
  rintro e w3 ⟨rfl, hb3, hs3, hh3⟩
  have H3 := Lib.hid (And.intro hb3 (And.intro hs3 hh3)); clear hb3 hs3 hh3
  go_wp2_with fail
  refine (boxed (vec_three _ _)).mono ?_
  rintro e w4 ⟨rfl, hb4, hs4, hh4⟩
  have H4 := Lib.hid (And.intro hb4 (And.intro hs4 hh4)); clear hb4 hs4 hh4
  go_wp2_with fail
  refine (boxed (vec_two _ _)).mono ?_
  rintro e w5 ⟨rfl, hb5, hs5, hh5⟩
  have H5 := Lib.hid (And.intro hb5 (And.intro hs5 hh5)); clear hb5 hs5 hh5
  go_wp2_with fail
  refine (boxed (vec_two _ _)).mono ?_
  rintro e w6 ⟨rfl, hb6, hs6, hh6⟩
  have H6 := Lib.hid (And.intro hb6 (And.intro hs6 hh6)); clear hb6 hs6 hh6
  go_wp2_with fail
  refine (boxed (vec_one _ _)).mono ?_
  rintro e w7 ⟨rfl, hb7, hs7, hh7⟩
  have H7 := Lib.hid (And.intro hb7 (And.intro hs7 hh7)); clear hb7 hs7 hh7
  go_wp2_with fail
  refine (boxed (vec_two _ _)).mono ?_
  rintro e w8 ⟨rfl, hb8, hs8, hh8⟩
  have H8 := Lib.hid (And.intro hb8 (And.intro hs8 hh8)); clear hb8 hs8 hh8
  go_wp2_with fail
  refine (boxed (vec_numbered _ _)).mono ?_
  rintro e w9 ⟨rfl, hb9, hs9, hh9⟩
  have H9 := Lib.hid (And.intro hb9 (And.intro hs9 hh9)); clear hb9 hs9 hh9
  go_wp2_with fail
  refine (boxed (vec_numbered _ _)).mono ?_
  rintro e w10 ⟨rfl, hb10, hs10, hh10⟩
  have H10 := Lib.hid (And.intro hb10 (And.intro hs10 hh10)); clear hb10 hs10 hh10
  go_wp2_with fail
  refine (boxed (vec_two _ _)).mono ?_
  rintro e w11 ⟨rfl, hb11, hs11, hh11⟩
  have H11 := Lib.hid (And.intro hb11 (And.intro hs11 hh11)); clear hb11 hs11 hh11
  go_wp2_with fail
  refine (boxed (vec_two _ _)).mono ?_
  rintro e w12 ⟨rfl, hb12, hs12, hh12⟩
  have H12 := Lib.hid (And.intro hb12 (And.intro hs12 hh12)); clear hb12 hs12 hh12
  go_wp2_with fail
  refine (boxed (vec_one _ _)).mono ?_
  rintro e w13 ⟨rfl, hb13, hs13, hh13⟩
  have H13 := Lib.hid (And.intro hb13 (And.intro hs13 hh13)); clear hb13 hs13 hh13
  have e0 := H1.out.2.1
  simp at e0
  have e1 := H2.out.2.1
  have e2 := H3.out.2.1
  have e3 := H4.out.2.1
  have e4 := H5.out.2.1
  have e5 := H6.out.2.1
  have e6 := H7.out.2.1
  have e7 := H8.out.2.1
  have e8 := H9.out.2.1
  have e9 := H10.out.2.1
  have e10 := H11.out.2.1
  have e11 := H12.out.2.1
  have e12 := H13.out.2.1
  have s1 : w1.heap.size = w.heap.size + 2 := by omega
  have s2 : w2.heap.size = w.heap.size + 3 := by omega
  have s3 : w3.heap.size = w.heap.size + 4 := by omega
  have s4 : w4.heap.size = w.heap.size + 5 := by omega
  have s5 : w5.heap.size = w.heap.size + 6 := by omega
  have s6 : w6.heap.size = w.heap.size + 7 := by omega
  have s7 : w7.heap.size = w.heap.size + 8 := by omega
  have s8 : w8.heap.size = w.heap.size + 9 := by omega
  have s9 : w9.heap.size = w.heap.size + 10 := by omega
  have s10 : w10.heap.size = w.heap.size + 11 := by omega
  have s11 : w11.heap.size = w.heap.size + 12 := by omega
  have s12 : w12.heap.size = w.heap.size + 13 := by omega
  have r0 := heap_keep H1.out.1 (alloc_new w (.cells Tryz.zeroCells264 264))
  have r1 := heap_keep H2.out.1 r0
  have r2 := heap_keep H3.out.1 r1
  have r3 := heap_keep H4.out.1 r2
  have r4 := heap_keep H5.out.1 r3
  have r5 := heap_keep H6.out.1 r4
  have r6 := heap_keep H7.out.1 r5
  have r7 := heap_keep H8.out.1 r6
  have r8 := heap_keep H9.out.1 r7
  have r9 := heap_keep H10.out.1 r8
  have r10 := heap_keep H11.out.1 r9
  have r11 := heap_keep H12.out.1 r10
  have r12 := heap_keep H13.out.1 r11
  have HR := Lib.hid r12
  have g0 := below_step (below1 w (.cells Tryz.zeroCells264 264)) H1.out.1
  have g1 := below_step g0 H2.out.1
  have g2 := below_step g1 H3.out.1
  have g3 := below_step g2 H4.out.1
  have g4 := below_step g3 H5.out.1
  have g5 := below_step g4 H6.out.1
  have g6 := below_step g5 H7.out.1
  have g7 := below_step g6 H8.out.1
  have g8 := below_step g7 H9.out.1
  have g9 := below_step g8 H10.out.1
  have g10 := below_step g9 H11.out.1
  have g11 := below_step g10 H12.out.1
  have g12 := below_step g11 H13.out.1
  have HG := Lib.hid g12
  simp only [s1, s2, s3, s4, s5, s6, s7, s8, s9, s10, s11, s12]
  clear r0 r1 r2 r3 r4 r5 r6 r7 r8 r9 r10 r11 r12 g0 g1 g2 g3 g4 g5 g6 g7 g8 g9 g10 g11 g12 s1 s2 s3 s4 s5 s6 s7 s8 s9 s10 s11 s12 e0 e1 e2 e3 e4 e5 e6 e7 e8 e9 e10 e11 e12
  have hz : Tryz.zeroCells264.size = 90 := by kernel_rfl
  go_wp2_with (first | (refine wpList_buildTo rfl 264 _ rfl (some 34) rfl (shapeCells w.heap.size).toArray (by kernel_rfl) ?_; refine wpList_store_rowTo rfl 264 _ _ rfl rfl w.heap.size (shapeCells w.heap.size).toArray (by kernel_rfl) (by kernel_rfl) 264 Tryz.zeroCells264 HR.out (by kernel_rfl) (by kernel_rfl) (by kernel_rfl) ?_; generalize hcs : (shapeCells w.heap.size).toArray = cs))
  refine bodyPost_ret (v := .agg (shapeCells w.heap.size).toArray) ?_ rfl ⟨rfl, below_setRow HG.out (Nat.le_refl _), ?_⟩
  · have hl := run_loadVar_row (P := Tryz.prog) _ w.heap.size 264 264 cs (0, 0) _ (heap_setRow HR.out) Tryz.underlying264 rfl (by rw [← hcs]; kernel_rfl)
    rw [hcs]
    exact results_cell rfl _ _ (by rfl) hl
  · intro k h1 h13
    have hk : k = 1 ∨ k = 2 ∨ k = 3 ∨ k = 4 ∨ k = 5 ∨ k = 6 ∨ k = 7 ∨ k = 8 ∨ k = 9 ∨ k = 10 ∨ k = 11 ∨ k = 12 ∨ k = 13 := by omega
    rcases hk with rfl | rfl | rfl | rfl | rfl | rfl | rfl | rfl | rfl | rfl | rfl | rfl | rfl
    · have hh := H1.out.2.2
      rw [show (w.alloc (.cells Tryz.zeroCells264 264)).heap.size = w.heap.size + 1 by simp] at hh
      replace hh := heap_keep H2.out.1 hh
      replace hh := heap_keep H3.out.1 hh
      replace hh := heap_keep H4.out.1 hh
      replace hh := heap_keep H5.out.1 hh
      replace hh := heap_keep H6.out.1 hh
      replace hh := heap_keep H7.out.1 hh
      replace hh := heap_keep H8.out.1 hh
      replace hh := heap_keep H9.out.1 hh
      replace hh := heap_keep H10.out.1 hh
      replace hh := heap_keep H11.out.1 hh
      replace hh := heap_keep H12.out.1 hh
      replace hh := heap_keep H13.out.1 hh
      rw [cell_of_heap ((heap_setRow_ne (by omega)).trans hh)]; rfl
    · have hh := H2.out.2.2
      rw [show w1.heap.size = w.heap.size + 2 by have := H1.out.2.1; simp at this; omega] at hh
      replace hh := heap_keep H3.out.1 hh
      replace hh := heap_keep H4.out.1 hh
      replace hh := heap_keep H5.out.1 hh
      replace hh := heap_keep H6.out.1 hh
      replace hh := heap_keep H7.out.1 hh
      replace hh := heap_keep H8.out.1 hh
      replace hh := heap_keep H9.out.1 hh
      replace hh := heap_keep H10.out.1 hh
      replace hh := heap_keep H11.out.1 hh
      replace hh := heap_keep H12.out.1 hh
      replace hh := heap_keep H13.out.1 hh
      rw [cell_of_heap ((heap_setRow_ne (by omega)).trans hh)]; rfl
    · have hh := H3.out.2.2
      rw [show w2.heap.size = w.heap.size + 3 by have := H1.out.2.1; simp at this; have := H2.out.2.1; omega] at hh
      replace hh := heap_keep H4.out.1 hh
      replace hh := heap_keep H5.out.1 hh
      replace hh := heap_keep H6.out.1 hh
      replace hh := heap_keep H7.out.1 hh
      replace hh := heap_keep H8.out.1 hh
      replace hh := heap_keep H9.out.1 hh
      replace hh := heap_keep H10.out.1 hh
      replace hh := heap_keep H11.out.1 hh
      replace hh := heap_keep H12.out.1 hh
      replace hh := heap_keep H13.out.1 hh
      rw [cell_of_heap ((heap_setRow_ne (by omega)).trans hh)]; rfl
    · have hh := H4.out.2.2
      rw [show w3.heap.size = w.heap.size + 4 by have := H1.out.2.1; simp at this; have := H2.out.2.1; have := H3.out.2.1; omega] at hh
      replace hh := heap_keep H5.out.1 hh
      replace hh := heap_keep H6.out.1 hh
      replace hh := heap_keep H7.out.1 hh
      replace hh := heap_keep H8.out.1 hh
      replace hh := heap_keep H9.out.1 hh
      replace hh := heap_keep H10.out.1 hh
      replace hh := heap_keep H11.out.1 hh
      replace hh := heap_keep H12.out.1 hh
      replace hh := heap_keep H13.out.1 hh
      rw [cell_of_heap ((heap_setRow_ne (by omega)).trans hh)]; rfl
    · have hh := H5.out.2.2
      rw [show w4.heap.size = w.heap.size + 5 by have := H1.out.2.1; simp at this; have := H2.out.2.1; have := H3.out.2.1; have := H4.out.2.1; omega] at hh
      replace hh := heap_keep H6.out.1 hh
      replace hh := heap_keep H7.out.1 hh
      replace hh := heap_keep H8.out.1 hh
      replace hh := heap_keep H9.out.1 hh
      replace hh := heap_keep H10.out.1 hh
      replace hh := heap_keep H11.out.1 hh
      replace hh := heap_keep H12.out.1 hh
      replace hh := heap_keep H13.out.1 hh
      rw [cell_of_heap ((heap_setRow_ne (by omega)).trans hh)]; rfl
    · have hh := H6.out.2.2
      rw [show w5.heap.size = w.heap.size + 6 by have := H1.out.2.1; simp at this; have := H2.out.2.1; have := H3.out.2.1; have := H4.out.2.1; have := H5.out.2.1; omega] at hh
      replace hh := heap_keep H7.out.1 hh
      replace hh := heap_keep H8.out.1 hh
      replace hh := heap_keep H9.out.1 hh
      replace hh := heap_keep H10.out.1 hh
      replace hh := heap_keep H11.out.1 hh
      replace hh := heap_keep H12.out.1 hh
      replace hh := heap_keep H13.out.1 hh
      rw [cell_of_heap ((heap_setRow_ne (by omega)).trans hh)]; rfl
    · have hh := H7.out.2.2
      rw [show w6.heap.size = w.heap.size + 7 by have := H1.out.2.1; simp at this; have := H2.out.2.1; have := H3.out.2.1; have := H4.out.2.1; have := H5.out.2.1; have := H6.out.2.1; omega] at hh
      replace hh := heap_keep H8.out.1 hh
      replace hh := heap_keep H9.out.1 hh
      replace hh := heap_keep H10.out.1 hh
      replace hh := heap_keep H11.out.1 hh
      replace hh := heap_keep H12.out.1 hh
      replace hh := heap_keep H13.out.1 hh
      rw [cell_of_heap ((heap_setRow_ne (by omega)).trans hh)]; rfl
    · have hh := H8.out.2.2
      rw [show w7.heap.size = w.heap.size + 8 by have := H1.out.2.1; simp at this; have := H2.out.2.1; have := H3.out.2.1; have := H4.out.2.1; have := H5.out.2.1; have := H6.out.2.1; have := H7.out.2.1; omega] at hh
      replace hh := heap_keep H9.out.1 hh
      replace hh := heap_keep H10.out.1 hh
      replace hh := heap_keep H11.out.1 hh
      replace hh := heap_keep H12.out.1 hh
      replace hh := heap_keep H13.out.1 hh
      rw [cell_of_heap ((heap_setRow_ne (by omega)).trans hh)]; rfl
    · have hh := H9.out.2.2
      rw [show w8.heap.size = w.heap.size + 9 by have := H1.out.2.1; simp at this; have := H2.out.2.1; have := H3.out.2.1; have := H4.out.2.1; have := H5.out.2.1; have := H6.out.2.1; have := H7.out.2.1; have := H8.out.2.1; omega] at hh
      replace hh := heap_keep H10.out.1 hh
      replace hh := heap_keep H11.out.1 hh
      replace hh := heap_keep H12.out.1 hh
      replace hh := heap_keep H13.out.1 hh
      rw [cell_of_heap ((heap_setRow_ne (by omega)).trans hh)]; rfl
    · have hh := H10.out.2.2
      rw [show w9.heap.size = w.heap.size + 10 by have := H1.out.2.1; simp at this; have := H2.out.2.1; have := H3.out.2.1; have := H4.out.2.1; have := H5.out.2.1; have := H6.out.2.1; have := H7.out.2.1; have := H8.out.2.1; have := H9.out.2.1; omega] at hh
      replace hh := heap_keep H11.out.1 hh
      replace hh := heap_keep H12.out.1 hh
      replace hh := heap_keep H13.out.1 hh
      rw [cell_of_heap ((heap_setRow_ne (by omega)).trans hh)]; rfl
    · have hh := H11.out.2.2
      rw [show w10.heap.size = w.heap.size + 11 by have := H1.out.2.1; simp at this; have := H2.out.2.1; have := H3.out.2.1; have := H4.out.2.1; have := H5.out.2.1; have := H6.out.2.1; have := H7.out.2.1; have := H8.out.2.1; have := H9.out.2.1; have := H10.out.2.1; omega] at hh
      replace hh := heap_keep H12.out.1 hh
      replace hh := heap_keep H13.out.1 hh
      rw [cell_of_heap ((heap_setRow_ne (by omega)).trans hh)]; rfl
    · have hh := H12.out.2.2
      rw [show w11.heap.size = w.heap.size + 12 by have := H1.out.2.1; simp at this; have := H2.out.2.1; have := H3.out.2.1; have := H4.out.2.1; have := H5.out.2.1; have := H6.out.2.1; have := H7.out.2.1; have := H8.out.2.1; have := H9.out.2.1; have := H10.out.2.1; have := H11.out.2.1; omega] at hh
      replace hh := heap_keep H13.out.1 hh
      rw [cell_of_heap ((heap_setRow_ne (by omega)).trans hh)]; rfl
    · have hh := H13.out.2.2
      rw [show w12.heap.size = w.heap.size + 13 by have := H1.out.2.1; simp at this; have := H2.out.2.1; have := H3.out.2.1; have := H4.out.2.1; have := H5.out.2.1; have := H6.out.2.1; have := H7.out.2.1; have := H8.out.2.1; have := H9.out.2.1; have := H10.out.2.1; have := H11.out.2.1; have := H12.out.2.1; omega] at hh
      rw [cell_of_heap ((heap_setRow_ne (by omega)).trans hh)]; rfl
end Go.Proofs.YtdkcjeaabbkdeaaGreatDoor
end
section
namespace Go.Proofs.YtdkcjeaabbkdeaaGreatDoor
open Go.RowKit
set_option linter.unusedVariables false
set_option linter.unusedSimpArgs false

set_option maxRecDepth 100000 in
set_option maxHeartbeats 800000 in
theorem vec_one1 (g : FuncId) (hg : ∀ args w, (callFunc g args).run Tryz.prog w = .ok (.enter g args) w) (q : Nat) (v : Value) (a : List Int) (r : List Int × Int) (n : Int) (w : World) (hc : w.cell? ⟨q, 0, none⟩ = some (.func (.func g) #[] #[])) (hl : Lists w v [a])
    (hd : ∀ w1 ua, Below w.heap.size w w1 → Ints w1 ua a → Calls Tryz.prog g #[ua] w1 (GivesList w1 r)) : Calls Tryz.prog 275 #[.int .i64 n, v, .pointer (some ⟨q, 0, none⟩)] w (GivesList w r) := by
  obtain ⟨A, cp, rfl, -⟩ := hl.form
  have HD := Lib.hid hd; clear hd
  obtain ⟨B, off, ua, rfl, cla, ia⟩ := hl.at_ 0 (by simp)
  simp only [Nat.add_zero, List.getElem_cons_zero, List.getElem_cons_succ, List.length_cons, List.length_nil, Nat.zero_add, Nat.reduceAdd] at cla ia
  have hst : ∀ W, Below w.heap.size w W → Below w.heap.size w W ∧ W.cell? ⟨q, 0, none⟩ = some (.func (.func g) #[] #[]) ∧ W.cell? ⟨B, off, none⟩ = some ua := fun W hb => ⟨hb, cell_keep hb hc, cell_keep hb cla⟩
  have Ia := Lib.hid ia; clear ia
  clear hl
  simp only [List.length_cons, List.length_nil, Nat.zero_add, Nat.reduceAdd]
  go_enter Tryz.func275, Tryz.ntmps275
  go_wp2_with fail
  go_region_held3 (fun W => Below w.heap.size w W ∧ W.cell? ⟨q, 0, none⟩ = some (.func (.func g) #[] #[]) ∧ W.cell? ⟨B, off, none⟩ = some ua) (first | assumption | exact hst _ (below_drew _) | exact hst _ (by assumption)) (first | (refine (HD.out _ ua (by go_split_ands; assumption) (Ia.out.below (by go_split_ands; assumption))).mono ?_; rintro e w2 ⟨v2, rfl, hv2, hb2⟩; have hb0 : Below w.heap.size w _ := (by go_split_ands; assumption); have hb3 : Below w.heap.size w w2 := below_step hb0 hb2; have hv3 := hv2.reads (reads_above _ hb0.size)))
  go_wp2
  go_ret2
  exact ⟨_, rfl, hv3, hb3⟩

set_option maxRecDepth 100000 in
set_option maxHeartbeats 800000 in
theorem vec_two1 (g : FuncId) (hg : ∀ args w, (callFunc g args).run Tryz.prog w = .ok (.enter g args) w) (q : Nat) (v : Value) (a b : List Int) (r : List Int × Int) (n : Int) (w : World) (hc : w.cell? ⟨q, 0, none⟩ = some (.func (.func g) #[] #[])) (hl : Lists w v [a, b])
    (hd : ∀ w1 ua ub, Below w.heap.size w w1 → Ints w1 ua a → Ints w1 ub b → Calls Tryz.prog g #[ua, ub] w1 (GivesList w1 r)) : Calls Tryz.prog 272 #[.int .i64 n, v, .pointer (some ⟨q, 0, none⟩)] w (GivesList w r) := by
  obtain ⟨A, cp, rfl, -⟩ := hl.form
  have HD := Lib.hid hd; clear hd
  obtain ⟨B, off, ua, rfl, cla, ia⟩ := hl.at_ 0 (by simp)
  obtain ⟨B1, off1, ub, eb, clb, ib⟩ := hl.at_ 1 (by simp)
  injection eb with eb; injection eb with e1 e2; subst e1; subst e2
  simp only [Nat.add_zero, List.getElem_cons_zero, List.getElem_cons_succ, List.length_cons, List.length_nil, Nat.zero_add, Nat.reduceAdd] at cla ia
  simp only [Nat.add_zero, List.getElem_cons_zero, List.getElem_cons_succ, List.length_cons, List.length_nil, Nat.zero_add, Nat.reduceAdd] at clb ib
  have hst : ∀ W, Below w.heap.size w W → Below w.heap.size w W ∧ W.cell? ⟨q, 0, none⟩ = some (.func (.func g) #[] #[]) ∧ W.cell? ⟨B, off, none⟩ = some ua ∧ W.cell? ⟨B, off + 1, none⟩ = some ub := fun W hb => ⟨hb, cell_keep hb hc, cell_keep hb cla, cell_keep hb clb⟩
  have Ia := Lib.hid ia; clear ia
  have Ib := Lib.hid ib; clear ib
  clear hl
  simp only [List.length_cons, List.length_nil, Nat.zero_add, Nat.reduceAdd]
  go_enter Tryz.func272, Tryz.ntmps272
  go_wp2_with fail
  go_region_held3 (fun W => Below w.heap.size w W ∧ W.cell? ⟨q, 0, none⟩ = some (.func (.func g) #[] #[]) ∧ W.cell? ⟨B, off, none⟩ = some ua ∧ W.cell? ⟨B, off + 1, none⟩ = some ub) (first | assumption | exact hst _ (below_drew _) | exact hst _ (by assumption)) (first | (refine (HD.out _ ua ub (by go_split_ands; assumption) (Ia.out.below (by go_split_ands; assumption)) (Ib.out.below (by go_split_ands; assumption))).mono ?_; rintro e w2 ⟨v2, rfl, hv2, hb2⟩; have hb0 : Below w.heap.size w _ := (by go_split_ands; assumption); have hb3 : Below w.heap.size w w2 := below_step hb0 hb2; have hv3 := hv2.reads (reads_above _ hb0.size)))
  go_wp2
  go_ret2
  exact ⟨_, rfl, hv3, hb3⟩

set_option maxRecDepth 100000 in
set_option maxHeartbeats 800000 in
theorem vec_three1 (g : FuncId) (hg : ∀ args w, (callFunc g args).run Tryz.prog w = .ok (.enter g args) w) (q : Nat) (v : Value) (a b c : List Int) (r : List Int × Int) (n : Int) (w : World) (hc : w.cell? ⟨q, 0, none⟩ = some (.func (.func g) #[] #[])) (hl : Lists w v [a, b, c])
    (hd : ∀ w1 ua ub uc, Below w.heap.size w w1 → Ints w1 ua a → Ints w1 ub b → Ints w1 uc c → Calls Tryz.prog g #[ua, ub, uc] w1 (GivesList w1 r)) : Calls Tryz.prog 268 #[.int .i64 n, v, .pointer (some ⟨q, 0, none⟩)] w (GivesList w r) := by
  obtain ⟨A, cp, rfl, -⟩ := hl.form
  have HD := Lib.hid hd; clear hd
  obtain ⟨B, off, ua, rfl, cla, ia⟩ := hl.at_ 0 (by simp)
  obtain ⟨B1, off1, ub, eb, clb, ib⟩ := hl.at_ 1 (by simp)
  injection eb with eb; injection eb with e1 e2; subst e1; subst e2
  obtain ⟨B2, off2, uc, ec, clc, ic⟩ := hl.at_ 2 (by simp)
  injection ec with ec; injection ec with e1 e2; subst e1; subst e2
  simp only [Nat.add_zero, List.getElem_cons_zero, List.getElem_cons_succ, List.length_cons, List.length_nil, Nat.zero_add, Nat.reduceAdd] at cla ia
  simp only [Nat.add_zero, List.getElem_cons_zero, List.getElem_cons_succ, List.length_cons, List.length_nil, Nat.zero_add, Nat.reduceAdd] at clb ib
  simp only [Nat.add_zero, List.getElem_cons_zero, List.getElem_cons_succ, List.length_cons, List.length_nil, Nat.zero_add, Nat.reduceAdd] at clc ic
  have hst : ∀ W, Below w.heap.size w W → Below w.heap.size w W ∧ W.cell? ⟨q, 0, none⟩ = some (.func (.func g) #[] #[]) ∧ W.cell? ⟨B, off, none⟩ = some ua ∧ W.cell? ⟨B, off + 1, none⟩ = some ub ∧ W.cell? ⟨B, off + 2, none⟩ = some uc := fun W hb => ⟨hb, cell_keep hb hc, cell_keep hb cla, cell_keep hb clb, cell_keep hb clc⟩
  have Ia := Lib.hid ia; clear ia
  have Ib := Lib.hid ib; clear ib
  have Ic := Lib.hid ic; clear ic
  clear hl
  simp only [List.length_cons, List.length_nil, Nat.zero_add, Nat.reduceAdd]
  go_enter Tryz.func268, Tryz.ntmps268
  go_wp2_with fail
  go_region_held3 (fun W => Below w.heap.size w W ∧ W.cell? ⟨q, 0, none⟩ = some (.func (.func g) #[] #[]) ∧ W.cell? ⟨B, off, none⟩ = some ua ∧ W.cell? ⟨B, off + 1, none⟩ = some ub ∧ W.cell? ⟨B, off + 2, none⟩ = some uc) (first | assumption | exact hst _ (below_drew _) | exact hst _ (by assumption)) (first | (refine (HD.out _ ua ub uc (by go_split_ands; assumption) (Ia.out.below (by go_split_ands; assumption)) (Ib.out.below (by go_split_ands; assumption)) (Ic.out.below (by go_split_ands; assumption))).mono ?_; rintro e w2 ⟨v2, rfl, hv2, hb2⟩; have hb0 : Below w.heap.size w _ := (by go_split_ands; assumption); have hb3 : Below w.heap.size w w2 := below_step hb0 hb2; have hv3 := hv2.reads (reads_above _ hb0.size)))
  go_wp2
  go_ret2
  exact ⟨_, rfl, hv3, hb3⟩

set_option maxRecDepth 100000 in
set_option maxHeartbeats 800000 in
theorem vec_numbered1 (g : FuncId) (hg : ∀ args w, (callFunc g args).run Tryz.prog w = .ok (.enter g args) w) (q : Nat) (v : Value) (a b : List Int) (r : List Int × Int) (n : Int) (w : World) (hc : w.cell? ⟨q, 0, none⟩ = some (.func (.func g) #[] #[])) (hl : Lists w v [a, b])
    (hd : ∀ w1 ua ub, Below w.heap.size w w1 → Ints w1 ua a → Ints w1 ub b → Calls Tryz.prog g #[.int .i64 n, ua, ub] w1 (GivesList w1 r)) : Calls Tryz.prog 265 #[.int .i64 n, v, .pointer (some ⟨q, 0, none⟩)] w (GivesList w r) := by
  obtain ⟨A, cp, rfl, -⟩ := hl.form
  have HD := Lib.hid hd; clear hd
  obtain ⟨B, off, ua, rfl, cla, ia⟩ := hl.at_ 0 (by simp)
  obtain ⟨B1, off1, ub, eb, clb, ib⟩ := hl.at_ 1 (by simp)
  injection eb with eb; injection eb with e1 e2; subst e1; subst e2
  simp only [Nat.add_zero, List.getElem_cons_zero, List.getElem_cons_succ, List.length_cons, List.length_nil, Nat.zero_add, Nat.reduceAdd] at cla ia
  simp only [Nat.add_zero, List.getElem_cons_zero, List.getElem_cons_succ, List.length_cons, List.length_nil, Nat.zero_add, Nat.reduceAdd] at clb ib
  have hst : ∀ W, Below w.heap.size w W → Below w.heap.size w W ∧ W.cell? ⟨q, 0, none⟩ = some (.func (.func g) #[] #[]) ∧ W.cell? ⟨B, off, none⟩ = some ua ∧ W.cell? ⟨B, off + 1, none⟩ = some ub := fun W hb => ⟨hb, cell_keep hb hc, cell_keep hb cla, cell_keep hb clb⟩
  have Ia := Lib.hid ia; clear ia
  have Ib := Lib.hid ib; clear ib
  clear hl
  simp only [List.length_cons, List.length_nil, Nat.zero_add, Nat.reduceAdd]
  go_enter Tryz.func265, Tryz.ntmps265
  go_wp2_with fail
  go_region_held3 (fun W => Below w.heap.size w W ∧ W.cell? ⟨q, 0, none⟩ = some (.func (.func g) #[] #[]) ∧ W.cell? ⟨B, off, none⟩ = some ua ∧ W.cell? ⟨B, off + 1, none⟩ = some ub) (first | assumption | exact hst _ (below_drew _) | exact hst _ (by assumption)) (first | (refine (HD.out _ ua ub (by go_split_ands; assumption) (Ia.out.below (by go_split_ands; assumption)) (Ib.out.below (by go_split_ands; assumption))).mono ?_; rintro e w2 ⟨v2, rfl, hv2, hb2⟩; have hb0 : Below w.heap.size w _ := (by go_split_ands; assumption); have hb3 : Below w.heap.size w w2 := below_step hb0 hb2; have hv3 := hv2.reads (reads_above _ hb0.size)))
  go_wp2
  go_ret2
  exact ⟨_, rfl, hv3, hb3⟩
end Go.Proofs.YtdkcjeaabbkdeaaGreatDoor
end
section
namespace Go.Proofs.YtdkcjeaabbkdeaaGreatDoor
open Go.RowKit
set_option linter.unusedVariables false
set_option linter.unusedSimpArgs false

/-- An instruction of a body; its own body is not looked at. -/
structure Flat where
  op : Int
  n : Int
  to : List Int
  from_ : List Int
/-- An instruction. -/
structure Ins extends Flat where
  body : List Flat
structure Fn' where
  params : Int
  code : List Ins
  out : List Int
  at_ : List Int
structure Pr where
  funs : List Fn'
  main : Int
def RFlat (w : World) (cs : List Value) (x : Flat) : Prop := ∃ vt vf vb, cs = [.int .i64 x.op, .int .i64 x.n, vt, vf, vb] ∧ Ints w vt x.to ∧ Ints w vf x.from_
theorem stays_flat : Stays RFlat := fun _ _ _ _ hb ⟨a, b, c, h, i, j⟩ => ⟨a, b, c, h, i.reads hb, j.reads hb⟩
def RIns (w : World) (cs : List Value) (x : Ins) : Prop := ∃ vt vf vb, cs = [.int .i64 x.op, .int .i64 x.n, vt, vf, vb] ∧ Ints w vt x.to ∧ Ints w vf x.from_ ∧ Sl 5 RFlat w vb x.body
theorem stays_ins : Stays RIns := fun _ _ _ _ hb ⟨a, b, c, h, i, j, k⟩ => ⟨a, b, c, h, i.reads hb, j.reads hb, k.reads stays_flat hb⟩
def RFn (w : World) (cs : List Value) (x : Fn') : Prop := ∃ vc vo va, cs = [.int .i64 x.params, vc, vo, va] ∧ Sl 5 RIns w vc x.code ∧ Ints w vo x.out ∧ Ints w va x.at_
theorem stays_fn : Stays RFn := fun _ _ _ _ hb ⟨a, b, c, h, i, j, k⟩ => ⟨a, b, c, h, i.reads stays_ins hb, j.reads hb, k.reads hb⟩
def RPr (w : World) (cs : List Value) (p : Pr) : Prop := ∃ vf, cs = [vf, .int .i64 p.main] ∧ Sl 4 RFn w vf p.funs
theorem stays_pr : Stays RPr := fun _ _ _ _ hb ⟨a, h, i⟩ => ⟨a, h, i.reads stays_fn hb⟩

/-- A call that makes memory of its own, and returns lists, or stops with an error. -/
def GivesLists (w : World) (r : List (List Int) × Int) (e : Ending) (w' : World) : Prop := Below w.heap.size w w' ∧ if r.2 = 0 then ∃ v, e = .returned v ∧ Lists (above w.heap.size w') v r.1 else e = .panicked (stopE r.2)
/-- What plain.do makes of what is done. -/
def plainOut (r : List Int × Int) (to : List Int) : List (List Int) × Int := if r.2 ≠ 0 then ([], r.2) else if to.length = 0 then ([], 0) else ([r.1], 0)

theorem field263 (lo hi too nf d : Value) (W : World) : (Instr.field 263 (.agg #[lo, hi, too, nf, d]) 4).run Tryz.prog W = .ok d W := by kernel_rfl
set_option maxRecDepth 100000 in
set_option maxHeartbeats 800000 in
theorem plain_do (k n : Nat) (num : Int) (vt vf vb vl : Value) (to : List Int) (r : List Int × Int) (g : FuncId) (cb : Array Value) (lo hi too nf : Value) (w : World)
    (hg : ∀ args w, (callFunc g args).run Tryz.prog w = .ok (.enter g args) w) (hk : k < 18)
    (hrow : shapeRowOf (w.heap.size + 1) k = [lo, hi, too, nf, .func (.func g) #[] cb]) (ht : Ints w vt to)
    (hdo : ∀ W, Below w.heap.size w W → (∀ k, 1 ≤ k → k ≤ 13 → W.cell? ⟨w.heap.size + 1 + k, 0, none⟩ = some (plainFn (innerFn k))) → Calls Tryz.prog g (#[.int .i64 num, vl] ++ cb) W (GivesList W r)) :
    Calls Tryz.prog 327 #[.agg #[.int .i64 k, .int .i64 num, vt, vf, vb], vl] w (GivesLists w (plainOut r to)) := by
  have HDo := Lib.hid hdo; clear hdo
  have hix : ∀ W, (Instr.index 264 (.agg (shapeCells (w.heap.size + 1)).toArray) (.int .i64 k)).run Tryz.prog W = .ok (.agg #[lo, hi, too, nf, .func (.func g) #[] cb]) W := fun W => by rw [index264 _ k hk W, hrow]
  have hfd := field263 lo hi too nf (.func (.func g) #[] cb)
  have HT := Lib.hid ht
  obtain ⟨T, tc, rfl, -⟩ := ht.form
  clear ht hrow
  have hst : ∀ W, Below w.heap.size w W → W.heap[w.heap.size]? = some (.cells #[.int .i64 k, .int .i64 num, .slice T to.length tc, vf, vb] 225) → (Below w.heap.size w W ∧ W.heap[w.heap.size]? = some (.cells #[.int .i64 k, .int .i64 num, .slice T to.length tc, vf, vb] 225)) ∧ W.cell? ⟨w.heap.size, 0, none⟩ = some (.int .i64 k) ∧ W.cell? ⟨w.heap.size, 1, none⟩ = some (.int .i64 num) := fun W h1 h2 => ⟨⟨h1, h2⟩, (block_cell h2 0 (by simp)).1, (block_cell h2 1 (by simp)).1⟩
  have HSt := Lib.hid hst; clear hst
  have hb0 := Lib.hid (below1 w (.cells #[.int .i64 k, .int .i64 num, .slice T to.length tc, vf, vb] 225))
  have hh0 := Lib.hid (alloc_new w (.cells #[.int .i64 k, .int .i64 num, .slice T to.length tc, vf, vb] 225))
  go_enter Tryz.func327, Tryz.ntmps327
  go_wp2_with fail
  generalize hcs : (shapeCells (w.heap.size + 1)).toArray = cs at *
  go_region_held3 (fun W => (Below w.heap.size w W ∧ W.heap[w.heap.size]? = some (.cells #[.int .i64 k, .int .i64 num, .slice T to.length tc, vf, vb] 225)) ∧ W.cell? ⟨w.heap.size, 0, none⟩ = some (.int .i64 k) ∧ W.cell? ⟨w.heap.size, 1, none⟩ = some (.int .i64 num)) (first | assumption | exact HSt.out _ (below_step hb0.out (below_drew _)) (heap_keep (below_drew _) hh0.out) | exact HSt.out _ (by assumption) (by assumption)) (first | (go_at_call 190; refine (vec_shapes _).mono ?_; rintro e w2 ⟨he, hb2, hbx⟩; rw [show (w.alloc (.cells #[.int .i64 k, .int .i64 num, .slice T to.length tc, vf, vb] 225)).drew.heap.size = w.heap.size + 1 by simp] at he hbx; rw [hcs] at he; subst he; have hb3 := Lib.hid (below_step (below_step hb0.out (below_drew _)) hb2); have hh3 := Lib.hid (heap_keep hb2 (heap_keep (below_drew _) hh0.out)); have hbx2 := Lib.hid hbx; clear hb2 hbx; have hb4 := hb3.out; have hh4 := hh3.out) | (refine (HDo.out _ hb3.out hbx2.out).mono ?_; rintro e w3 ⟨v3, rfl, hv3, hb5⟩; have hb6 := Lib.hid (below_step hb3.out hb5); have hh6 := Lib.hid (heap_keep hb5 hh3.out); have hv6 := Lib.hid (hv3.reads (reads_above _ hb3.out.size)); clear hv3 hb5; have hb7 := hb6.out; have hh7 := hh6.out))
  have hcell2 := (block_cell hh6.out 2 (by simp)).1
  simp only [List.getElem_toArray, List.getElem_cons_zero, List.getElem_cons_succ] at hcell2
  clear hb4 hh4 hb7 hh7 hbx2 hix hfd HSt hb0 hh0 hb3 hh3 hh6
  obtain ⟨r1, r2⟩ := r
  simp only at hv6
  obtain ⟨V, vc, rfl, -⟩ := hv6.out.form
  by_cases hr : r2 = 0
  · subst hr
    go_wp2_with fail
    refine (vec_need_yes _ _).mono ?_
    rintro e w4 ⟨rfl, rfl⟩
    by_cases ht0 : to.length = 0
    · have HV : Hid (plainOut (r1, 0) to = ([], 0)) := by unfold Hid plainOut; simp [ht0]
      rw [ht0] at hcell2
      clear ht0
      go_wp2_with fail
      go_ret
      rw [HV.out]
      exact ⟨hb6.out, _, rfl, lists_nil _ _ _⟩
    · have HV : Hid (plainOut (r1, 0) to = ([r1], 0)) := by unfold Hid plainOut; simp [ht0]
      have ht1 : ((to.length : Int) == 0) = false := by rw [beq_eq_false_iff_ne]; omega
      go_wp2_with fail
      go_ret
      rw [HV.out]
      refine ⟨below_step hb6.out (below1 _ _), _, rfl, ?_⟩
      exact lists_lit_above w4 [.slice V r1.length vc] [r1] 22 hb6.out.size rfl (by simp) (fun j h1 h2 => by
        obtain rfl : j = 0 := by simp at h1; omega
        exact hv6.out)
  · have hr' : (r2 == 0) = false := by simpa using hr
    have HV : Hid (plainOut (r1, r2) to = ([], r2)) := by unfold Hid plainOut; simp [hr]
    have HR := Lib.hid hr; clear hr
    go_wp2_with fail
    refine (vec_need_no _ _).mono ?_
    rintro e w4 ⟨rfl, rfl⟩
    refine ⟨rfl, ?_⟩
    rw [HV.out]
    refine ⟨hb6.out, ?_⟩
    rw [if_neg HR.out]
end Go.Proofs.YtdkcjeaabbkdeaaGreatDoor
end
section
namespace Go.Proofs.YtdkcjeaabbkdeaaGreatDoor

/-- A step of a run. -/
structure Step where
  deep : Int
  fn : Int
  ins : Int
  work : Int
deriving DecidableEq
/-- What a run has done so far: how many calls, steps, their work, all steps, the longest vector. -/
structure St where
  calls : Nat
  count : Nat
  work : Int
  steps : List Step
  wide : Nat

def lens (l : List (List Int)) : Nat := (l.map List.length).sum
/-- The work of an instruction. -/
def workOf (x : Ins) (f t : List (List Int)) : Int :=
  if x.op = 16 then 1 else if x.op = 11 ∨ x.op = 12 ∨ x.op = 13 then 2
  else if x.op = 5 then 1 + (f.getD 1 []).length + lens t
  else 1 + lens f + lens t
/-- One register more. -/
def setReg (regs : Int → List Int) (n : Int) (l : List Int) : Int → List Int := fun k => if k = n then l else regs k
def setRegs (regs : Int → List Int) : List Int → List (List Int) → Int → List Int
  | n :: ns, l :: ls => setRegs (setReg regs n l) ns ls
  | _, _ => regs
/-- The parameters' registers. -/
def params (args : List (List Int)) : Int → List Int := setRegs (fun _ => []) ((List.range args.length).map fun (i : Nat) => (i : Int)) args
def St.note (st : St) (deep fn ins work : Int) : St := { st with count := st.count + 1, work := st.work + work, steps := st.steps ++ [⟨deep, fn, ins, work⟩] }
def St.wider (st : St) (ls : List (List Int)) : St := { st with wide := ls.foldl (fun w l => max w l.length) st.wide }

section
variable (sem : Ins → List (List Int) → List (List Int) × Int) (left : Nat)
/-- The code of a function from an instruction on. -/
def codeF (rec : Int → List (List Int) → St → Except Int (St × List (List Int))) (deep fn : Int) : Nat → List Ins → (Int → List Int) → St → Except Int (St × (Int → List Int))
  | _, [], regs, st => .ok (st, regs)
  | i, x :: xs, regs, st =>
    if st.count < left then
      let from_ := x.from_.map regs
      if x.op ≠ 16 then
        if (sem x from_).2 ≠ 0 then .error (sem x from_).2
        else codeF rec deep fn (i + 1) xs (setRegs regs x.to (sem x from_).1) ((st.note deep fn i (workOf x from_ (sem x from_).1)).wider (sem x from_).1)
      else if (from_.headD []).length = 0 then
        codeF rec deep fn (i + 1) xs (setRegs regs x.to (List.replicate x.to.length [])) (st.note deep fn i 1)
      else match rec x.n from_ (st.note deep fn i 1) with
        | .error e => .error e
        | .ok (st', out) => codeF rec deep fn (i + 1) xs (setRegs regs x.to out) (st'.wider out)
    else .error 12
/-- A function that is called: d calls more may go deeper. -/
def callF (p : Pr) : Nat → Int → Int → List (List Int) → St → Except Int (St × List (List Int))
  | 0, fn, deep, args, st =>
    match p.funs[fn.toNat]? with
    | none => .error 1
    | some f =>
      match codeF sem left (fun _ _ _ => .error 9) deep fn 0 f.code (params args) { st with calls := st.calls + 1 } with
      | .error e => .error e
      | .ok (st', regs) => .ok (st', f.out.map regs)
  | d + 1, fn, deep, args, st =>
    match p.funs[fn.toNat]? with
    | none => .error 1
    | some f =>
      match codeF sem left (fun n l st => callF p d n (deep + 1) l st) deep fn 0 f.code (params args) { st with calls := st.calls + 1 } with
      | .error e => .error e
      | .ok (st', regs) => .ok (st', f.out.map regs)
def St.zero : St := ⟨0, 0, 0, [], 0⟩
end
end Go.Proofs.YtdkcjeaabbkdeaaGreatDoor
end
