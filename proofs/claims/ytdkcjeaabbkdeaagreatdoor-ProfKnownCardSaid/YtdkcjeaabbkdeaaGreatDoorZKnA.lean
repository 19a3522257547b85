/- The law ProfKnown: errors of single programs. The law ProfKnown: stacks that are not right, and lines that are none. The law ProfKnown: the longest line, and the greatest work. -/
import Derived.Test.YtdkcjeaabbkdeaaGreatDoorZLawG
set_option linter.unusedVariables false
set_option linter.unusedSimpArgs false
set_option linter.unnecessarySimpa false
set_option linter.unusedSectionVars false
section
namespace Go.Proofs.YtdkcjeaabbkdeaaGreatDoor
open Go.RowKit Go.Shelf
set_option linter.unusedVariables false
set_option linter.unusedSimpArgs false
theorem known_nobody (w : World) : RPr w [.slice none 0 0, .int .i64 0] ⟨[], 0⟩ := ⟨.slice none 0 0, rfl, none, 0, rfl, by simp, fun j hj => absurd hj (by simp)⟩
theorem known_noargs (w : World) : Lists w (.slice none 0 0) [] := ⟨none, 0, rfl, by simp, fun j hj => absurd hj (by simp)⟩
theorem known_a (w : World) (hG : AllG w) : Calls Tryz.prog 13 #[.agg #[.slice none 0 0, .int .i64 0], .slice none 0 0, .int .i64 (-1), .int .i64 0] w fun e w' => Below w.heap.size w w' ∧ ∃ v, e = .returned (.tuple #[v, .int .i64 1]) := by
  have h := prof_nodes ⟨[], 0⟩ semL [.slice none 0 0, .int .i64 0] [] (.slice none 0 0) (-1) 0 w (known_nobody w) (fun f hf => by cases hf) (fun f hf => by cases hf) hG.glob (known_noargs w) (by rw [law_none]; intro s hs; cases hs) (by rw [law_none]; simp)
  rw [law_none] at h
  refine h.mono ?_
  rintro e w' ⟨hb, v, err, rfl, hr⟩
  rw [if_pos (by simp)] at hr
  obtain ⟨rfl, -⟩ := hr
  exact ⟨hb, v, rfl⟩
theorem known_b (w : World) (hG : AllG w) (cp : List Value) (hp : RPr w cp lawP) : Calls Tryz.prog 13 #[.agg cp.toArray, .slice none 0 0, .int .i64 100, .int .i64 0] w fun e w' => Below w.heap.size w w' ∧ ∃ v, e = .returned (.tuple #[v, .int .i64 2]) := by
  have h := prof_nodes lawP semL cp [] (.slice none 0 0) 100 0 w hp lawP_sane lawP_does hG.glob (known_noargs w) (by rw [law_nil]; intro s hs; cases hs) (by rw [law_nil]; simp)
  rw [law_nil] at h
  refine h.mono ?_
  rintro e w' ⟨hb, v, err, rfl, hr⟩
  rw [if_pos (by simp)] at hr
  obtain ⟨rfl, -⟩ := hr
  exact ⟨hb, v, rfl⟩
theorem known_cd (w : World) (hG : AllG w) (cp : List Value) (va : Value) (hp : RPr w cp lawP) (ha : Lists w va lawArgs) (lanes : Int) (hl : lanes < 1 ∨ 64 < lanes) : Calls Tryz.prog 13 #[.agg cp.toArray, va, .int .i64 100, .int .i64 lanes] w fun e w' => Below w.heap.size w w' ∧ ∃ v, e = .returned (.tuple #[v, .int .i64 2]) := by
  have h := prof_nodes lawP semL cp lawArgs va 100 lanes w hp lawP_sane lawP_does hG.glob ha (by rw [law_trace]; exact law_stepOK) (by rw [law_trace]; decide)
  rw [law_trace] at h
  refine h.mono ?_
  rintro e w' ⟨hb, v, err, rfl, hr⟩
  rw [if_neg (by simp), if_pos hl] at hr
  obtain ⟨rfl, -⟩ := hr
  exact ⟨hb, v, rfl⟩
theorem known_e (w : World) (hG : AllG w) (cp : List Value) (va : Value) (hp : RPr w cp lawP) (ha : Lists w va lawArgs) : Calls Tryz.prog 15 #[.agg cp.toArray, va, .int .i64 5] w fun e w' => Below w.heap.size w w' ∧ ∃ v, e = .returned (.tuple #[v, .int .i64 12]) := by
  have h := prof_funs lawP semL cp lawArgs va 5 w hp lawP_sane lawP_does hG.glob ha (by rw [law_fuel]; intro s hs; cases hs) (by rw [law_fuel]; simp) (by decide) (by decide)
  rw [law_fuel] at h
  refine h.mono ?_
  rintro e w' ⟨hb, v, err, rfl, hr⟩
  rw [if_pos (by simp)] at hr
  obtain ⟨rfl, rfl⟩ := hr
  exact ⟨hb, _, rfl⟩
theorem known_f (w : World) (hG : AllG w) (cp : List Value) (va : Value) (hp : RPr w cp lawP) (ha : Lists w va lawArgs) : Calls Tryz.prog 17 #[.agg cp.toArray, va, .int .i64 (-1)] w fun e w' => Below w.heap.size w w' ∧ ∃ v, e = .returned (.tuple #[v, .int .i64 2]) := by
  have h := prof_stacks lawP semL cp lawArgs va (-1) w hp lawP_sane lawP_does hG.glob ha hG.tab hG.none (by rw [law_range]; intro s hs; cases hs) (by rw [law_range]; simp) (by decide) (by rw [law_range]; simp)
  rw [law_range] at h
  refine h.mono ?_
  rintro e w' ⟨hb, v, err, rfl, hr⟩
  rw [if_pos (by simp)] at hr
  obtain ⟨rfl, rfl⟩ := hr
  exact ⟨hb, _, rfl⟩
/-- A list that is not right: Top and Diff refuse it. -/
theorem known_top (w : World) (hG : AllG w) (l : List NodeC) (A : Option Addr) (c : Nat) (hl : NodesL w (.slice A l.length c) l) (hA : A ≠ none) (hr : rightB l = false) (hlen : l.length ≤ 1000) (hw : ∀ x ∈ l, x.work ≤ 9223372036854775807) : Calls Tryz.prog 23 #[.slice A l.length c, .int .i64 (-1)] w fun e w' => Below w.heap.size w w' ∧ ∃ v, e = .returned (.tuple #[v, .int .i64 1]) := by
  refine (prof_top l A c (-1) w hG.prof hl (fun h => absurd h hA) (by omega) hw).mono ?_
  rintro e w' ⟨hb, v, err, rfl, h⟩
  rw [if_pos hr] at h
  obtain ⟨rfl, -⟩ := h
  exact ⟨hb, v, rfl⟩
theorem known_diff (w : World) (hG : AllG w) (l m : List NodeC) (vl vm : Value) (hl : NodesL w vl l) (hm : NodesL w vm m) (fl : Fits l) (fm : Fits m) (hr : rightB l = false ∨ rightB m = false) (h1 : l.length ≤ 1000) (h2 : m.length ≤ 1000) : Calls Tryz.prog 25 #[vl, vm] w fun e w' => Below w.heap.size w w' ∧ ∃ v, e = .returned (.tuple #[v, .int .i64 1]) := by
  refine (prof_diff l m vl vm w hG.prof hl hm fl fm (by omega) (by omega)).mono ?_
  rintro e w' ⟨hb, v, err, rfl, h⟩
  rw [if_pos hr] at h
  obtain ⟨rfl, -⟩ := h
  exact ⟨hb, v, rfl⟩
end Go.Proofs.YtdkcjeaabbkdeaaGreatDoor
end
section
namespace Go.Proofs.YtdkcjeaabbkdeaaGreatDoor
open Go.RowKit Go.Shelf
set_option linter.unusedVariables false
set_option linter.unusedSimpArgs false
def wrongL (k : Nat) : List StackC := ([[⟨[], 0⟩], [⟨[400], 0⟩], [⟨[-1], 0⟩], [⟨[0], -1⟩], [⟨[0], 0⟩, ⟨[0], 0⟩], [⟨[0, 1], 0⟩, ⟨[0], 0⟩], [⟨[1], 0⟩, ⟨[0, 1], 0⟩]] : List (List StackC)).getD k []
def wrongObjs (B : Nat) : List Obj :=
  [.cells (([[.slice none 0 0, .int .i64 0]] : List (List Value)).flatten).toArray 65,
   .cells (nums [400]).toArray 3, .cells (([[.slice (some ⟨B + 1, 0, none⟩) 1 1, .int .i64 0]] : List (List Value)).flatten).toArray 65,
   .cells (nums [-1]).toArray 3, .cells (([[.slice (some ⟨B + 3, 0, none⟩) 1 1, .int .i64 0]] : List (List Value)).flatten).toArray 65,
   .cells (nums [0]).toArray 3, .cells (([[.slice (some ⟨B + 5, 0, none⟩) 1 1, .int .i64 (-1)]] : List (List Value)).flatten).toArray 65,
   .cells (nums [0]).toArray 3, .cells (nums [0]).toArray 3, .cells (([[.slice (some ⟨B + 7, 0, none⟩) 1 1, .int .i64 0], [.slice (some ⟨B + 8, 0, none⟩) 1 1, .int .i64 0]] : List (List Value)).flatten).toArray 65,
   .cells (nums [0, 1]).toArray 3, .cells (nums [0]).toArray 3, .cells (([[.slice (some ⟨B + 10, 0, none⟩) 2 2, .int .i64 0], [.slice (some ⟨B + 11, 0, none⟩) 1 1, .int .i64 0]] : List (List Value)).flatten).toArray 65,
   .cells (nums [1]).toArray 3, .cells (nums [0, 1]).toArray 3, .cells (([[.slice (some ⟨B + 13, 0, none⟩) 1 1, .int .i64 0], [.slice (some ⟨B + 14, 0, none⟩) 2 2, .int .i64 0]] : List (List Value)).flatten).toArray 65,
   .cells #[.slice (some ⟨B, 0, none⟩) 1 1, .slice (some ⟨B + 2, 0, none⟩) 1 1, .slice (some ⟨B + 4, 0, none⟩) 1 1, .slice (some ⟨B + 6, 0, none⟩) 1 1, .slice (some ⟨B + 9, 0, none⟩) 2 2, .slice (some ⟨B + 12, 0, none⟩) 2 2, .slice (some ⟨B + 15, 0, none⟩) 2 2] 36]
/-- The lists of stacks that are not right, as the law writes them. -/
def Wrongs (g : Nat) (w : World) : Prop := ∀ k, k < 7 → ∃ A c, w.cell? ⟨g, k, none⟩ = some (.slice A (wrongL k).length c) ∧ StksL w (.slice A (wrongL k).length c) (wrongL k)
theorem Wrongs.below {g : Nat} {w w' : World} (h : Wrongs g w) (hb : Below w.heap.size w w') : Wrongs g w' := fun k hk => by
  obtain ⟨A, c, h2, h3⟩ := h k hk
  exact ⟨A, c, cell_keep hb h2, StksL.below h3 hb⟩
theorem none_ints (W : World) : Ints W (.slice none 0 0) [] := ⟨none, 0, rfl, by simp, fun j hj => absurd hj (by simp)⟩
theorem one_stk {W : World} {g : Nat} (v : Value) (x : StackC) (h : W.heap[g]? = some (.cells (([[v, .int .i64 x.work]] : List (List Value)).flatten).toArray 65)) (hi : Ints W v x.stack) : StksL W (.slice (some ⟨g, 0, none⟩) 1 1) [x] :=
  sl_block (R := RStk) _ [x] h (by simp) (by simp) (by simp) (fun j h1 h2 => by
    match j, h1, h2 with
    | 0, _, _ => exact ⟨_, rfl, hi⟩)
theorem two_stk {W : World} {g : Nat} (v u : Value) (x y : StackC) (h : W.heap[g]? = some (.cells (([[v, .int .i64 x.work], [u, .int .i64 y.work]] : List (List Value)).flatten).toArray 65)) (hi : Ints W v x.stack) (hj : Ints W u y.stack) : StksL W (.slice (some ⟨g, 0, none⟩) 2 2) [x, y] :=
  sl_block (R := RStk) _ [x, y] h (by simp) (by simp) (by simp) (fun j h1 h2 => by
    match j, h1, h2 with
    | 0, _, _ => exact ⟨_, rfl, hi⟩
    | 1, _, _ => exact ⟨_, rfl, hj⟩)
theorem wrong_reads (W : World) (B : Nat) (h : ∀ i o, (wrongObjs B)[i]? = some o → W.heap[B + i]? = some o) : Wrongs (B + 16) W := by
  have i1 := ints_block [400] (h 1 _ rfl) (by simp)
  have i3 := ints_block [-1] (h 3 _ rfl) (by simp)
  have i5 := ints_block [0] (h 5 _ rfl) (by simp)
  have i7 := ints_block [0] (h 7 _ rfl) (by simp)
  have i8 := ints_block [0] (h 8 _ rfl) (by simp)
  have i10 := ints_block [0, 1] (h 10 _ rfl) (by simp)
  have i11 := ints_block [0] (h 11 _ rfl) (by simp)
  have i13 := ints_block [1] (h 13 _ rfl) (by simp)
  have i14 := ints_block [0, 1] (h 14 _ rfl) (by simp)
  have s0 := one_stk _ ⟨[], 0⟩ (h 0 _ rfl) (none_ints W)
  have s1 := one_stk _ ⟨[400], 0⟩ (h 2 _ rfl) i1
  have s2 := one_stk _ ⟨[-1], 0⟩ (h 4 _ rfl) i3
  have s3 := one_stk _ ⟨[0], -1⟩ (h 6 _ rfl) i5
  have s4 := two_stk _ _ ⟨[0], 0⟩ ⟨[0], 0⟩ (h 9 _ rfl) i7 i8
  have s5 := two_stk _ _ ⟨[0, 1], 0⟩ ⟨[0], 0⟩ (h 12 _ rfl) i10 i11
  have s6 := two_stk _ _ ⟨[1], 0⟩ ⟨[0, 1], 0⟩ (h 15 _ rfl) i13 i14
  have hb := h 16 _ rfl
  intro k hk
  have : k = 0 ∨ k = 1 ∨ k = 2 ∨ k = 3 ∨ k = 4 ∨ k = 5 ∨ k = 6 := by omega
  rcases this with rfl | rfl | rfl | rfl | rfl | rfl | rfl
  · exact ⟨_, _, by rw [cell_of_heap hb]; rfl, s0⟩
  · exact ⟨_, _, by rw [cell_of_heap hb]; rfl, s1⟩
  · exact ⟨_, _, by rw [cell_of_heap hb]; rfl, s2⟩
  · exact ⟨_, _, by rw [cell_of_heap hb]; rfl, s3⟩
  · exact ⟨_, _, by rw [cell_of_heap hb]; rfl, s4⟩
  · exact ⟨_, _, by rw [cell_of_heap hb]; rfl, s5⟩
  · exact ⟨_, _, by rw [cell_of_heap hb]; rfl, s6⟩
theorem wrongL_fits (k : Nat) (hk : k < 7) : (∀ x ∈ wrongL k, StackFits x) ∧ (wrongL k).length ≤ 2 ∧ (textOfStacks (wrongL k)).2 = 1 := by
  have : k = 0 ∨ k = 1 ∨ k = 2 ∨ k = 3 ∨ k = 4 ∨ k = 5 ∨ k = 6 := by omega
  have key : ∀ x : StackC, inInt x.work → (∀ n ∈ x.stack, inInt n) → x.stack.length ≤ 2 → StackFits x := fun x a b c => ⟨a, b, by omega⟩
  rcases this with rfl | rfl | rfl | rfl | rfl | rfl | rfl <;> refine ⟨fun x hx => ?_, by decide, by kernel_rfl⟩ <;> simp [wrongL] at hx <;> (try rcases hx with rfl | rfl) <;> (try subst hx) <;> exact key _ (by unfold inInt; simp) (by unfold inInt; simp) (by simp)
theorem known_text (w : World) (hG : AllG w) (k : Nat) (hk : k < 7) (v : Value) (hv : StksL w v (wrongL k)) : Calls Tryz.prog 27 #[v] w fun e w' => Below w.heap.size w w' ∧ ∃ v', e = .returned (.tuple #[v', .int .i64 1]) := by
  obtain ⟨h1, h2, h3⟩ := wrongL_fits k hk
  refine (prof_text (wrongL k) v w hv h1 (by omega) hG.tab).mono ?_
  rintro e w' ⟨hb, v', rfl, -⟩
  rw [h3]
  exact ⟨hb, v', rfl⟩
/-- The lines that are none. -/
def lineL : List (List UInt8) := [[], [32], [48], [48, 32, 32, 49], [32, 48, 32, 49], [48, 32, 49, 32], [48, 32, 49, 32, 50], [59, 32, 49], [48, 59, 32, 49], [59, 48, 32, 49], [52, 48, 48, 32, 49], [45, 49, 32, 49], [48, 32, 45, 49], [48, 48, 32, 49], [48, 32, 48, 49], [48, 32, 52, 54, 49, 49, 54, 56, 54, 48, 49, 56, 52, 50, 55, 51, 56, 55, 57, 48, 53], [48, 32, 120], [48, 44, 49, 32, 50], [43, 49, 32, 50], [48, 32, 57, 57, 57, 57, 57, 57, 57, 57, 57, 57, 57, 57, 57, 57, 57, 57, 57, 57, 57, 57]]
def lineAt (k : Nat) : List UInt8 := lineL.getD k []
theorem lineAt_bad (k : Nat) (hk : k < 20) : readS [lineAt k] = none ∧ (Ascii (lineAt k) ∧ (lineAt k).length ≤ 100) := by
  have h : ∀ k < 20, readS [lineAt k] = none ∧ ((lineAt k).all fun c => decide (c.toNat < 128)) = true ∧ (lineAt k).length ≤ 100 := by
    intro k hk
    have : k = 0 ∨ k = 1 ∨ k = 2 ∨ k = 3 ∨ k = 4 ∨ k = 5 ∨ k = 6 ∨ k = 7 ∨ k = 8 ∨ k = 9 ∨ k = 10 ∨ k = 11 ∨ k = 12 ∨ k = 13 ∨ k = 14 ∨ k = 15 ∨ k = 16 ∨ k = 17 ∨ k = 18 ∨ k = 19 := by omega
    rcases this with rfl | rfl | rfl | rfl | rfl | rfl | rfl | rfl | rfl | rfl | rfl | rfl | rfl | rfl | rfl | rfl | rfl | rfl | rfl | rfl <;> exact ⟨by kernel_rfl, by kernel_rfl, by decide⟩
  obtain ⟨a, b, c⟩ := h k hk
  exact ⟨a, fun c hc => by simpa using List.all_eq_true.1 b c hc, c⟩
/-- One line out of a row of lines. -/
theorem line_one {W : World} {g : Nat} {t : TypeId} (h : W.heap[g]? = some (.cells (lineL.map fun x => Value.string ⟨x.toArray⟩).toArray t)) (k : Nat) (hk : k < 20) (c : Nat) (hc : 1 ≤ c) : TextsL W (.slice (some ⟨g, k, none⟩) 1 c) [lineAt k] := by
  refine ⟨some ⟨g, k, none⟩, c, rfl, ⟨by simp, hc⟩, fun j hj => ?_⟩
  obtain rfl : j = 0 := by simpa using hj
  refine ⟨g, k, [.string ⟨(lineAt k).toArray⟩], rfl, rfl, fun i hi => ?_, rfl⟩
  obtain rfl : i = 0 := by simpa using hi
  have hl : k < lineL.length := hk
  rw [cell_of_heap h]
  simp [lineAt, hl]
theorem known_read (w : World) (hG : AllG w) (k : Nat) (hk : k < 20) (v : Value) (hv : TextsL w v [lineAt k]) : Calls Tryz.prog 29 #[v] w fun e w' => Below w.heap.size w w' ∧ e = .returned (.tuple #[.slice none 0 0, .int .i64 8]) :=
  law_readS [lineAt k] (lineAt_bad k hk).1 (fun l hl => by simp at hl; subst hl; exact ⟨(lineAt_bad k hk).2.1, by have := (lineAt_bad k hk).2.2; omega⟩) (by simp) w hG v hv
end Go.Proofs.YtdkcjeaabbkdeaaGreatDoor
end
section
namespace Go.Proofs.YtdkcjeaabbkdeaaGreatDoor
open Go.RowKit Go.Shelf
set_option linter.unusedVariables false
set_option linter.unusedSimpArgs false
def longS : StackC := ⟨List.replicate 1999 0, 0⟩
def longerS : StackC := ⟨List.replicate 2000 0, 1⟩
def longT : List UInt8 := lineT longS
def mostT : List (List UInt8) := [[48, 32, 52, 54, 49, 49, 54, 56, 54, 48, 49, 56, 52, 50, 55, 51, 56, 55, 57, 48, 52], [48, 59, 51, 57, 57, 32, 48], [49, 32, 48]]
def mostS : List StackC := [⟨[0], 4611686018427387904⟩, ⟨[0, 399], 0⟩, ⟨[1], 0⟩]
set_option maxRecDepth 100000
theorem long_text : (textOfStacks [longS]).2 = 0 := by kernel_rfl
theorem longer_text : (textOfStacks [longerS]).2 = 3 := by kernel_rfl
theorem long_texts : (textOfStacks [longS]).1 = [longT] := by
  unfold textOfStacks
  rw [if_neg (by rw [show ordB [longS] = true by kernel_rfl]; simp), if_neg (by rw [show ([longS].any fun x => decide (4000 < (lineT x).length)) = false by kernel_rfl]; simp)]
  rfl
theorem long_len : longT.length = 3999 := by kernel_rfl
theorem long_ascii : Ascii longT := fun c hc => by
  have h : (longT.all fun c => decide (c.toNat < 128)) = true := by kernel_rfl
  simpa using List.all_eq_true.1 h c hc
theorem long_read : readS [longT] = some [longS] := by kernel_rfl
theorem most_read : readS mostT = some mostS := by kernel_rfl
theorem most_ascii : ∀ l ∈ mostT, Ascii l ∧ l.length ≤ 1000000 := by
  have h : ∀ l ∈ mostT, (l.all fun c => decide (c.toNat < 128)) = true ∧ l.length ≤ 100 := by decide
  intro l hl
  obtain ⟨a, b⟩ := h l hl
  exact ⟨fun c hc => by simpa using List.all_eq_true.1 a c hc, by omega⟩
theorem long_fits : ∀ x ∈ [longS], StackFits x := fun x hx => by
  simp at hx; subst hx
  exact ⟨by unfold inInt longS; simp, fun n hn => by have := List.eq_of_mem_replicate hn; subst this; unfold inInt; simp, by simp [longS]⟩
theorem longer_fits : ∀ x ∈ [longerS], StackFits x := fun x hx => by
  simp at hx; subst hx
  exact ⟨by unfold inInt longerS; simp, fun n hn => by have := List.eq_of_mem_replicate hn; subst this; unfold inInt; simp, by simp [longerS]⟩
theorem known_long (w : World) (hG : AllG w) (v : Value) (hv : StksL w v [longS]) : Calls Tryz.prog 27 #[v] w fun e w' => Below w.heap.size w w' ∧ ∃ v', e = .returned (.tuple #[v', .int .i64 0]) ∧ TextsL w' v' [longT] := by
  refine (prof_text [longS] v w hv long_fits (by simp) hG.tab).mono ?_
  rintro e w' ⟨hb, v', rfl, ht⟩
  rw [long_text]
  rw [long_texts] at ht
  exact ⟨hb, v', rfl, ht⟩
theorem known_longer (w : World) (hG : AllG w) (v : Value) (hv : StksL w v [longerS]) : Calls Tryz.prog 27 #[v] w fun e w' => Below w.heap.size w w' ∧ ∃ v', e = .returned (.tuple #[v', .int .i64 3]) := by
  refine (prof_text [longerS] v w hv longer_fits (by simp) hG.tab).mono ?_
  rintro e w' ⟨hb, v', rfl, ht⟩
  rw [longer_text]
  exact ⟨hb, v', rfl⟩
theorem known_back (ls : List (List UInt8)) (d : List StackC) (hd : readS ls = some d) (ha : ∀ l ∈ ls, Ascii l ∧ l.length ≤ 1000000) (hl : ls.length ≤ 1000) (w : World) (hG : AllG w) (v : Value) (hv : TextsL w v ls) : Calls Tryz.prog 29 #[v] w fun e w' => Below w.heap.size w w' ∧ ∃ v', e = .returned (.tuple #[v', .int .i64 0]) ∧ StksL w' v' d := by
  refine (prof_read ls v w hv ha (by omega) hG.err hG.tab).mono ?_
  rintro e w' ⟨hb, v', err, rfl, hr⟩
  rw [hd] at hr
  obtain ⟨rfl, hs⟩ := hr
  exact ⟨hb, v', rfl, hs⟩
def mostObjs (B : Nat) : List Obj :=
  [.cells (nums [0]).toArray 3, .cells (nums [0, 399]).toArray 3, .cells (nums [1]).toArray 3,
   .cells (([[.slice (some ⟨B, 0, none⟩) 1 1, .int .i64 4611686018427387904], [.slice (some ⟨B + 1, 0, none⟩) 2 2, .int .i64 0], [.slice (some ⟨B + 2, 0, none⟩) 1 1, .int .i64 0]] : List (List Value)).flatten).toArray 65]
theorem most_reads (W : World) (B : Nat) (h : ∀ i o, (mostObjs B)[i]? = some o → W.heap[B + i]? = some o) : StksL W (.slice (some ⟨B + 3, 0, none⟩) 3 3) mostS := by
  have i0 := ints_block [0] (h 0 _ rfl) (by simp)
  have i1 := ints_block [0, 399] (h 1 _ rfl) (by simp)
  have i2 := ints_block [1] (h 2 _ rfl) (by simp)
  exact sl_block (R := RStk) _ mostS (h 3 _ rfl) (by simp) (by simp [mostS]) (by simp [mostS]) (fun j h1 h2 => by
    match j, h1, h2 with
    | 0, _, _ => exact ⟨_, rfl, i0⟩
    | 1, _, _ => exact ⟨_, rfl, i1⟩
    | 2, _, _ => exact ⟨_, rfl, i2⟩)
end Go.Proofs.YtdkcjeaabbkdeaaGreatDoor
end
