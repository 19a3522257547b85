/- Arguments that are lists of entries: opened. -/
import Derived.Test.YtdkcjeaabbkdeaaGreatDoorZMapF
import Derived.Deep.Slices
import Derived.Lib.SmallJoins
import Derived.ProofKit
set_option linter.unusedVariables false
set_option linter.unusedSimpArgs false
set_option linter.unnecessarySimpa false
set_option linter.unusedSectionVars false
namespace Go.Proofs.YtdkcjeaabbkdeaaGreatDoor
open Go.ChangeShapes Go.WideShapes Go.ChangeAt Go.RowKit Go.Shelf Go.Deep Go.Joins
set_option linter.unusedVariables false
set_option linter.unusedSimpArgs false
theorem cells73 : Tryz.prog.cellsOf 73 = 4 := by kernel_rfl
theorem cells3 : Tryz.prog.cellsOf 3 = 1 := by kernel_rfl
instance : Inhabited NodeC := ⟨⟨0, 0, 0, 0⟩⟩
set_option maxRecDepth 100000 in
/-- A list of entries that comes in. -/
theorem nodes_arg {H : Type} {enc : TypeId × Value → H} {W : World} {base : Nat} {v : Value} {d : DataW H} {p : List MemPlace} (hv : Value.okWide Tryz.prog W .any base 29 v)
    (h : DataW.Trod enc Tryz.prog W 0 (fun _ => true) true 29 v d p) :
    ∃ (A : Option Addr) (c : Nat) (l : List NodeC), v = .slice A l.length c ∧ NodesL W (.slice A l.length c) l ∧ Fits l ∧ (A = none → l = [] ∧ c = 0) := by
  obtain ⟨a0, len, cap, rfl⟩ := okWide_slice Tryz.underlying29 hv
  obtain ⟨fuel, hf⟩ := h
  rcases open_slice Tryz.underlying29 (by simpa [Value.cells] using hf) with ⟨hcs, hx⟩ | ⟨a, len', cap', m, n, D, Pl, hcs, hb, hl, hm, hmm, hx0, hx⟩
  · simp only [List.cons.injEq, Value.slice.injEq, and_true] at hcs
    obtain ⟨rfl, rfl, rfl⟩ := hcs
    exact ⟨none, 0, [], rfl, ⟨none, 0, rfl, by simp, fun j hj => absurd hj (by simp)⟩, fun x hx => by simp at hx, fun _ => ⟨rfl, rfl⟩⟩
  · simp only [List.cons.injEq, Value.slice.injEq, and_true] at hcs
    obtain ⟨rfl, rfl, rfl⟩ := hcs
    simp only [if_true] at hmm
    subst hmm
    rw [cells73] at hx
    have each : ∀ i, i < len → ∃ x : NodeC, (∀ j (hj : j < 4), W.cell? (a.add (i * 4 + j)) = (nodeCells x)[j]?) ∧ x.node ≤ 9223372036854775807 ∧ x.count ≤ 9223372036854775807 ∧ x.work ≤ 9223372036854775807 ∧ x.cycles ≤ 9223372036854775807 := by
      intro i hi
      obtain ⟨cs', h1, h2⟩ := hx i (by omega)
      obtain ⟨_, hlen, hcell⟩ := World.cells?_some h1
      obtain ⟨y0, y1, y2, y3, n', -, -, t0, t1, t2, t3⟩ := trod_struct4 Tryz.underlying73 h2
      match cs', hlen with
      | [c0, c1, c2, c3], _ =>
        simp [cells3] at t0 t1 t2 t3
        obtain ⟨n0, e0, -, w0⟩ := DataW.trod_int Tryz.underlying3 t0
        obtain ⟨n1, e1, -, w1⟩ := DataW.trod_int Tryz.underlying3 t1
        obtain ⟨n2, e2, -, w2⟩ := DataW.trod_int Tryz.underlying3 t2
        obtain ⟨n3, e3, -, w3⟩ := DataW.trod_int Tryz.underlying3 t3
        simp only [List.cons.injEq, and_true] at e0 e1 e2 e3
        subst e0 e1 e2 e3
        refine ⟨⟨n0, n1, n2, n3⟩, fun j hj => ?_, (bounds_i64 w0).2, (bounds_i64 w1).2, (bounds_i64 w2).2, (bounds_i64 w3).2⟩
        have := hcell j hj
        rw [Deep.add_add] at this
        exact this
    obtain ⟨f, hfn⟩ := choose_lt each
    refine ⟨some a, m, (List.range len).map f, by simp, ?_, ?_, fun e => by cases e⟩
    · refine ⟨some a, m, rfl, ⟨by simp; have := hm; unfold maxLen at this; omega, by simpa using hl⟩, fun j hj => ?_⟩
      have hj' : j < len := by simpa using hj
      have hc := (hfn j hj').1
      have hs := World.cell?_spot (((hfn 0 (by omega)).1 0 (by omega)).trans rfl)
      obtain ⟨b, off, spot⟩ := a
      obtain rfl : spot = none := by simpa [Addr.add] using hs
      refine ⟨b, off, nodeCells (f j), rfl, rfl, fun i hi => ?_, by simp [RNode]⟩
      have hi4 : i < 4 := by simpa [nodeCells] using hi
      have := hc i hi4
      rw [List.getElem?_eq_getElem hi] at this
      rw [← this, add_plain, Nat.add_assoc]
    · intro x hx
      obtain ⟨j, hj, rfl⟩ := List.mem_map.1 hx
      exact (hfn j (List.mem_range.1 hj)).2
end Go.Proofs.YtdkcjeaabbkdeaaGreatDoor
