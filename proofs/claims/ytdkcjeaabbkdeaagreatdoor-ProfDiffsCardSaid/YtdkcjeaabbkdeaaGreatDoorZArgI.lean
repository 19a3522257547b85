/- Arguments that are lists of numbers: opened. -/
import Derived.Test.YtdkcjeaabbkdeaaGreatDoorZArgN
import Derived.Test.YtdkcjeaabbkdeaaGreatDoorZMapv
set_option linter.unusedVariables false
set_option linter.unusedSimpArgs false
set_option linter.unnecessarySimpa false
set_option linter.unusedSectionVars false
namespace Go.Proofs.YtdkcjeaabbkdeaaGreatDoor
open Go.ChangeShapes Go.WideShapes Go.ChangeAt Go.RowKit Go.Shelf Go.Deep Go.Joins
set_option linter.unusedVariables false
set_option linter.unusedSimpArgs false
set_option maxRecDepth 100000 in
/-- A list of numbers that comes in. -/
theorem ints_arg {H : Type} {enc : TypeId × Value → H} {W : World} {base : Nat} {v : Value} {d : DataW H} {p : List MemPlace} (hv : Value.okWide Tryz.prog W .any base 22 v)
    (h : DataW.Trod enc Tryz.prog W 0 (fun _ => true) true 22 v d p) : ∃ L : List Int, Ints W v L ∧ ∀ x ∈ L, inInt x := by
  obtain ⟨a0, len, cap, rfl⟩ := okWide_slice Tryz.underlying22 hv
  obtain ⟨fuel, hf⟩ := h
  rcases open_ints Tryz.underlying22 Tryz.underlying3 cells3 (by simpa [Value.cells] using hf) with ⟨hcs, hx⟩ | ⟨a, len', cap', zs, hcs, hb, hl, hm, hz, hx, hcell, hwz⟩
  · simp only [List.cons.injEq, Value.slice.injEq, and_true] at hcs
    obtain ⟨rfl, rfl, rfl⟩ := hcs
    exact ⟨[], ⟨none, 0, rfl, by simp, fun j hj => absurd hj (by simp)⟩, fun x hx => by simp at hx⟩
  · simp only [List.cons.injEq, Value.slice.injEq, and_true] at hcs
    obtain ⟨rfl, rfl, rfl⟩ := hcs
    have hzl : len ≤ zs.length := by
      try simp only [if_true] at hz
      omega
    refine ⟨zs.take len, ⟨some a, cap, by rw [List.length_take]; congr 1; omega, by rw [List.length_take]; unfold maxLen at hm; omega, fun j hj => ?_⟩, fun x hx => ?_⟩
    · rw [List.length_take] at hj
      have h0 := hcell 0 (by omega)
      have hs := World.cell?_spot h0
      obtain ⟨b, off, spot⟩ := a
      obtain rfl : spot = none := by simpa [Addr.add] using hs
      have hc := hcell j (by omega)
      rw [add_plain] at hc
      refine ⟨b, off, [.int .i64 (zs.getD j 0)], rfl, rfl, fun i hi => ?_, ?_⟩
      · obtain rfl : i = 0 := by simpa using hi
        simpa using hc
      · simp [RInt, List.getD_eq_getElem?_getD, List.getElem?_eq_getElem (show j < zs.length by omega)]
    · have := bounds_i64 (hwz x (List.mem_of_mem_take hx))
      exact ⟨this.1, this.2⟩
end Go.Proofs.YtdkcjeaabbkdeaaGreatDoor
