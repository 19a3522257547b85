/- Rows of entries that a call makes for itself. -/
import Derived.Test.YtdkcjeaabbkdeaaGreatDoorZSortN
import Derived.Test.YtdkcjeaabbkdeaaGreatDoorZRunA
set_option linter.unusedVariables false
set_option linter.unusedSimpArgs false
set_option linter.unnecessarySimpa false
set_option linter.unusedSectionVars false
namespace Go.Proofs.YtdkcjeaabbkdeaaGreatDoor
open Go.RowKit Go.Shelf
set_option linter.unusedVariables false
set_option linter.unusedSimpArgs false
theorem own_empty {W : World} {base e k g : Nat} (h : W.heap[g]? = some (.cells #[] e)) (hb : base ≤ g) : W.ownsRow base e k (.slice (some ⟨g, 0, none⟩) 0 0) 0 [] :=
  ⟨by simp, .inr ⟨g, 0, #[], rfl, hb, h, Nat.le_refl _, by unfold maxLen; omega, by simp, by simp⟩⟩
theorem one_nodes (x : NodeC) : ∀ u ∈ nodeCells x, u.oneCell' = true := by intro u hu; simp [nodeCells] at hu; rcases hu with rfl | rfl | rfl | rfl <;> rfl
theorem nodes_own {w : World} {base : Nat} {v : Value} {l : List NodeC} (h : w.ownsRow base 73 4 v l.length (nodeVals l)) (hl : l.length ≤ 1000000000) : NodesL w v l := by
  rcases h.2 with ⟨rfl, h0⟩ | ⟨g, cap, cur, rfl, -, hh, hc1, -⟩
  · have : l = [] := List.eq_nil_of_length_eq_zero h0
    subst this
    exact nodesL_nil _ _ _
  · refine ⟨some ⟨g, 0, none⟩, cap, rfl, by omega, fun j hj => ⟨g, 0, nodeCells l[j], rfl, rfl, fun i hi => ?_, rfl⟩⟩
    have hi4 : i < 4 := by simpa [nodeCells] using hi
    have hc := h.cellAt (j * 4 + i) (by omega)
    have := flat4_get nodeCells (fun _ => rfl) l j i hj hi4
    unfold nodeVals at hc
    rw [this, List.getElem?_eq_getElem hi] at hc
    simpa using hc
theorem nodeVals_append (a b : List NodeC) : nodeVals (a ++ b) = nodeVals a ++ nodeVals b := by simp [nodeVals]
theorem nodeVals_one : ∀ (l : List NodeC), ∀ u ∈ nodeVals l, u.oneCell' = true := by
  intro l u hu
  unfold nodeVals at hu
  obtain ⟨x, -, hx⟩ := List.mem_flatMap.1 hu
  exact one_nodes x u hx
theorem addr_plain (b off i : Nat) : (⟨b, off, none⟩ : Addr).add i = ⟨b, off + i, none⟩ := by unfold Addr.add; split <;> simp_all
/-- A part of a row: what stands at its place. -/
theorem own_part {w : World} {base g cap j : Nat} {l : List NodeC} (h : w.ownsRow base 73 4 (.slice (some ⟨g, 0, none⟩) l.length cap) l.length (nodeVals l)) (hj : j ≤ l.length) :
    (∀ i u, (nodeVals (l.take j))[i]? = some u → w.cell? ((⟨g, 0, none⟩ : Addr).add i) = some u) ∧ (∀ i u, (nodeVals (l.drop j))[i]? = some u → w.cell? ((⟨g, j * 4, none⟩ : Addr).add i) = some u) := by
  have e : nodeVals l = nodeVals (l.take j) ++ nodeVals (l.drop j) := by rw [← nodeVals_append, List.take_append_drop]
  have h1 : (nodeVals (l.take j)).length = j * 4 := by rw [nodeVals_length, List.length_take]; omega
  refine ⟨fun i u hu => ?_, fun i u hu => ?_⟩
  · have hi := (List.getElem?_eq_some_iff.1 hu).1
    have hc := h.cellAt i (by have := nodeVals_length l; rw [e, List.length_append] at this; omega)
    rw [e, List.getElem?_append_left hi, hu] at hc
    rw [addr_plain, Nat.zero_add]; exact hc
  · have hi := (List.getElem?_eq_some_iff.1 hu).1
    have hc := h.cellAt (j * 4 + i) (by have := nodeVals_length l; rw [e, List.length_append] at this; omega)
    rw [e, List.getElem?_append_right (by omega), h1, Nat.add_sub_cancel_left, hu] at hc
    rw [addr_plain]; exact hc

/-- A row of the call's own. -/
def Ow (n : Nat) (W : World) (v : Value) (xs : List NodeC) : Prop := W.ownsRow n 73 4 v xs.length (nodeVals xs) ∧ n ≤ W.heap.size ∧ v ≠ .slice none 0 0
theorem Ow.alloc {n : Nat} {W : World} {v : Value} {xs : List NodeC} (h : Ow n W v xs) (o : Obj) : Ow n (W.alloc o) v xs := ⟨h.1.alloc o, by rw [World.size_alloc]; exact Nat.le_succ_of_le h.2.1, h.2.2⟩
theorem ow_empty (n : Nat) (W : World) (h : n ≤ W.heap.size) : Ow n (W.alloc (.cells #[] 73)) (.slice (some ⟨W.heap.size, 0, none⟩) 0 0) [] :=
  ⟨own_empty (alloc_new W _) h, by rw [World.size_alloc]; exact Nat.le_succ_of_le h, by simp⟩
theorem bel1 {R W : World} {o : Obj} (h : RowKit.Below R.heap.size R W) : RowKit.Below R.heap.size R (W.alloc o) := h.alloc h.size o
theorem Ow.form {n : Nat} {W : World} {v : Value} {xs : List NodeC} (h : Ow n W v xs) : ∃ g cap, v = .slice (some ⟨g, 0, none⟩) xs.length cap ∧ n ≤ g ∧ g < W.heap.size ∧ xs.length ≤ cap := by
  rcases h.1.2 with ⟨e, -⟩ | ⟨g, cap, cur, rfl, h1, h2, h3, -⟩
  · exact absurd e h.2.2
  · exact ⟨g, cap, rfl, h1, (Array.getElem?_eq_some_iff.1 h2).1, h3⟩
theorem news_block {W : World} {b : Nat} {x : NodeC} (h : W.heap[b]? = some (.cells (nodeCells x).toArray 73)) : ∀ (j : Nat) (u : Value), (nodeVals [x])[j]? = some u → W.cell? ((⟨b, 0, none⟩ : Addr).add j) = some u := by
  intro j u hj
  rw [show (⟨b, 0, none⟩ : Addr).add j = ⟨b, j, none⟩ by unfold Addr.add; split <;> simp_all, cell_of_heap h]
  simpa [nodeVals] using hj
theorem step_app {ops : Array Oper} {o : Oper} {a : Act} {w : World} {K : Act → World → Prop} {Q : Exit → Act → World → Prop} {E : Prop} (hgd : o.guard = none) (s x : Operand) (ho : o.op = .call { callee := .builtin .append, args := #[s, x], argTypes := #[29, 29] })
    {R : World} (v : Value) (xs ys : List NodeC) (hs : a.eval s = v) (hO : Ow R.heap.size w v xs) (hR : RowKit.Below R.heap.size R w) (ad : Addr) (m c : Nat) (hm : ys.length = m) (hx : a.eval x = .slice (some ad) m c)
    (hnews : ∀ j u, (nodeVals ys)[j]? = some u → w.cell? (ad.add j) = some u) (hlen : xs.length + m ≤ 1000000)
    (h : ∀ v' w', Ow R.heap.size w' v' (xs ++ ys) → RowKit.Below R.heap.size R w' → (∀ k ob, w.heap[k]? = some ob → v.ownBlock ≠ some k → w'.heap[k]? = some ob) → (∀ k, v'.ownBlock = some k → v.ownBlock = some k ∨ w.heap.size ≤ k) → K (a.put o.dst v') w') :
    if Region.wanted o (yielded ops a.tmps) = true then Oper.wp Tryz.prog o a w K Q else E := by
  obtain ⟨i0, hi, hzz⟩ := Option.map_eq_some_iff.1 infoNode
  simp only [Prod.mk.injEq] at hzz
  obtain ⟨hz0, hz1, hz2⟩ := hzz
  refine step_append_own_at hgd s x 29 ho R.heap.size 73 i0 _ 4 32 Tryz.underlying29 hi hz0 hz1 hz2 rfl (by omega) v xs.length (nodeVals xs) hs hO.1 ad m c (nodeVals ys) hx (by rw [nodeVals_length, hm]) hnews (nodeVals_one ys) (by unfold maxLen; omega) (by omega) hO.2.1 ?_
  intro v' w' h1 h2 h3 h4
  refine h v' w' ⟨?_, Nat.le_trans hO.2.1 h2.size, fun e => hO.2.2 (h3.1 e).1⟩ (hR.grown h2 hO.2.1 (fun k hk => (hO.1.lt k hk).1)) (fun k ob hk hne => (h2.block k (Array.getElem?_eq_some_iff.1 hk).1 (fun e => hne e.symm)).trans hk) (fun k hk => ?_)
  · have e1 : (xs ++ ys).length = xs.length + m := by rw [List.length_append, hm]
    rw [e1, nodeVals_append]; exact h1
  · rcases h4 with h4 | h4
    · exact .inl (h4 ▸ hk)
    · rw [h4] at hk; injection hk with hk; exact .inr (by omega)
theorem Ow.nodes {n : Nat} {W : World} {v : Value} {xs : List NodeC} (h : Ow n W v xs) (hl : xs.length ≤ 1000000000) : NodesL W v xs := nodes_own h.1 hl
theorem Ow.below {n : Nat} {W W' : World} {v : Value} {xs : List NodeC} (h : Ow n W v xs) (hb : RowKit.Below W.heap.size W W') : Ow n W' v xs :=
  ⟨h.1.kept (row := none) ⟨hb.os, hb.tape, hb.output, hb.size, fun k hk _ => hb.block k hk⟩ (by cases v.ownBlock <;> simp), Nat.le_trans h.2.1 hb.size, h.2.2⟩
theorem Ow.mono {n n' : Nat} {W : World} {v : Value} {xs : List NodeC} (h : Ow n W v xs) (hn : n' ≤ n) : Ow n' W v xs := by
  obtain ⟨⟨h1, h2⟩, h3, h4⟩ := h
  refine ⟨⟨h1, ?_⟩, Nat.le_trans hn h3, h4⟩
  rcases h2 with h | ⟨g, cap, cur, e, hg, r⟩
  · exact .inl h
  · exact .inr ⟨g, cap, cur, e, Nat.le_trans hn hg, r⟩
end Go.Proofs.YtdkcjeaabbkdeaaGreatDoor
