/- The law ProfKnown: what it gives. -/
import Derived.Test.YtdkcjeaabbkdeaaGreatDoorZKnA
import Derived.Test.YtdkcjeaabbkdeaaGreatDoorZKnC
import Derived.Test.YtdkcjeaabbkdeaaGreatDoorZLawW
import Derived.Deep.OwnRows
set_option linter.unusedVariables false
set_option linter.unusedSimpArgs false
set_option linter.unnecessarySimpa false
set_option linter.unusedSectionVars false
namespace Go.Proofs.YtdkcjeaabbkdeaaGreatDoor
open Go.RowKit Go.Shelf
set_option linter.unusedVariables false
set_option linter.unusedSimpArgs false
def badL (k : Nat) : List NodeC := ([[⟨-2, 0, 0, 0⟩], [⟨1, 0, 0, 0⟩, ⟨1, 0, 0, 0⟩], [⟨2, 0, 0, 0⟩, ⟨1, 0, 0, 0⟩], [⟨0, -1, 0, 0⟩], [⟨0, 0, -1, 0⟩], [⟨0, 0, 0, -1⟩]] : List (List NodeC)).getD k []
/-- The lists that are not right, as the law writes them. -/
def Bads (g : Nat) (w : World) : Prop := ∀ k, k < 6 → ∃ A c, A ≠ none ∧ w.cell? ⟨g, k, none⟩ = some (.slice A (badL k).length c) ∧ NodesL w (.slice A (badL k).length c) (badL k)
theorem Bads.below {g : Nat} {w w' : World} (h : Bads g w) (hb : Below w.heap.size w w') : Bads g w' := fun k hk => by
  obtain ⟨A, c, h1, h2, h3⟩ := h k hk
  exact ⟨A, c, h1, cell_keep hb h2, NodesL.below h3 hb⟩
theorem badL_right (k : Nat) (hk : k < 6) : rightB (badL k) = false := by
  have : k = 0 ∨ k = 1 ∨ k = 2 ∨ k = 3 ∨ k = 4 ∨ k = 5 := by omega
  rcases this with rfl | rfl | rfl | rfl | rfl | rfl <;> decide
theorem badL_fits (k : Nat) (hk : k < 6) : Fits (badL k) ∧ (badL k).length ≤ 2 := by
  have : k = 0 ∨ k = 1 ∨ k = 2 ∨ k = 3 ∨ k = 4 ∨ k = 5 := by omega
  rcases this with rfl | rfl | rfl | rfl | rfl | rfl <;> exact ⟨fun x hx => by simp [badL] at hx; try (rcases hx with rfl | rfl); all_goals (try subst hx); all_goals simp, by decide⟩
theorem bads_mk (w : World) (v0 v1 v2 v3 v4 v5 : Value) (t : TypeId) (h : ∀ k (hk : k < 6), ∃ A c, A ≠ none ∧ [v0, v1, v2, v3, v4, v5][k] = .slice A (badL k).length c ∧ NodesL w (.slice A (badL k).length c) (badL k)) :
    Bads w.heap.size (w.alloc (.cells #[v0, v1, v2, v3, v4, v5] t)) := fun k hk => by
  obtain ⟨A, c, h1, h2, h3⟩ := h k hk
  refine ⟨A, c, h1, ?_, NodesL.below h3 (below1 _ _)⟩
  rw [cell_of_heap (alloc_new w _), ← h2]
  simp
theorem law_node' (a b c d : Int) (w : World) : Calls Tryz.prog 42 #[.int .i64 a, .int .i64 b, .int .i64 c, .int .i64 d] w (Gives w (.agg #[.int .i64 a, .int .i64 b, .int .i64 c, .int .i64 d])) := law_node a b c d w
theorem bel1 {R W : World} {o : Obj} (h : Below R.heap.size R W) : Below R.heap.size R (W.alloc o) := h.alloc h.size o
theorem ints_made {W : World} {g n : Nat} (h : W.heap[g]? = some (.cells (madeCells #[.int .i64 0] n) 3)) (hn : n ≤ 1000000) : Ints W (.slice (some ⟨g, 0, none⟩) n n) (List.replicate n 0) := by
  have e : (nums (List.replicate n 0)).toArray = madeCells #[.int .i64 0] n := by
    apply Array.ext'
    rw [toList_madeCells_one]
    simp [nums]
  have h2 := ints_block (W := W) (g := g) (t := 3) (List.replicate n 0) (by rw [e]; exact h) (by simp; omega)
  rw [List.length_replicate] at h2
  exact h2
theorem known_topr (w : World) (hG : AllG w) : Calls Tryz.prog 23 #[.slice none 0 0, .int .i64 (-1)] w fun e w' => Below w.heap.size w w' ∧ ∃ v, e = .returned (.tuple #[v, .int .i64 2]) := by
  refine (prof_top [] none 0 (-1) w hG.prof (nodesL_nil _ _ _) (fun _ => ⟨rfl, rfl⟩) (by simp) (fun x hx => by cases hx)).mono ?_
  rintro e w' ⟨hb, v, err, rfl, h⟩
  rw [if_neg (by decide), if_pos (by omega)] at h
  obtain ⟨rfl, -⟩ := h
  exact ⟨hb, v, rfl⟩
theorem known_topn (w : World) (hG : AllG w) : Calls Tryz.prog 23 #[.slice none 0 0, .int .i64 9] w fun e w' => Below w.heap.size w w' ∧ ∃ A c, e = .returned (.tuple #[.slice A 0 c, .int .i64 0]) := by
  refine (prof_top [] none 0 9 w hG.prof (nodesL_nil _ _ _) (fun _ => ⟨rfl, rfl⟩) (by simp) (fun x hx => by cases hx)).mono ?_
  rintro e w' ⟨hb, v, err, rfl, h⟩
  rw [if_neg (by decide), if_neg (by omega)] at h
  obtain ⟨rfl, m, hp, -, hn⟩ := h
  obtain rfl : m = [] := List.Perm.eq_nil hp
  obtain ⟨A, c, rfl, -⟩ := hn
  exact ⟨hb, A, c, rfl⟩
set_option maxRecDepth 100000 in
set_option maxHeartbeats 8000000 in
theorem law_known (w : World) (hG : AllG w) : Calls Tryz.prog 10 #[] w (Gives w (.bool true)) := by
  have HG := Lib.hid hG
  have HK0 := Lib.hid (known_a w hG)
  clear hG
  go_enter Tryz.func10, Tryz.ntmps10
  go_wp2_with fail
  refine HK0.out.mono ?_
  rintro e w1 ⟨hb1, v1, rfl⟩
  have HB1 := Lib.hid hb1
  clear hb1 HK0
  go_wp2_with fail
  refine (law_program _).mono ?_
  rintro e w2 ⟨hb2, cp, rfl, hp⟩
  have HB2 := Lib.hid (HB1.out.trans (hb2.mono HB1.out.size))
  have HK := Lib.hid (known_b w2 (HG.out.below HB2.out) cp hp)
  clear hb2 hp HB1
  go_wp2_with fail
  refine HK.out.mono ?_
  rintro e w3 ⟨hb3, v2, rfl⟩
  have HB3 := Lib.hid (HB2.out.trans (hb3.mono HB2.out.size))
  clear hb3 HK HB2
  go_wp2_with fail
  refine (law_program _).mono ?_
  rintro e w4 ⟨hb4, cp, rfl, hp⟩
  have HP := Lib.hid hp
  have HB4 := Lib.hid (HB3.out.trans (hb4.mono HB3.out.size))
  clear hb4 hp HB3
  go_wp2_with fail
  refine (law_args _).mono ?_
  rintro e w5 ⟨hb5, va, rfl, ha⟩
  have HB5 := Lib.hid (HB4.out.trans (hb5.mono HB4.out.size))
  have HK := Lib.hid (known_cd w5 (HG.out.below HB5.out) cp va (stays_pr _ _ _ _ (reads_below hb5) HP.out) ha 0 (by omega))
  clear hb5 ha HP HB4
  go_wp2_with fail
  refine HK.out.mono ?_
  rintro e w6 ⟨hb6, v3, rfl⟩
  have HB6 := Lib.hid (HB5.out.trans (hb6.mono HB5.out.size))
  clear hb6 HK HB5
  go_wp2_with fail
  refine (law_program _).mono ?_
  rintro e w7 ⟨hb7, cp, rfl, hp⟩
  have HP := Lib.hid hp
  have HB7 := Lib.hid (HB6.out.trans (hb7.mono HB6.out.size))
  clear hb7 hp HB6
  go_wp2_with fail
  refine (law_args _).mono ?_
  rintro e w8 ⟨hb8, va, rfl, ha⟩
  have HB8 := Lib.hid (HB7.out.trans (hb8.mono HB7.out.size))
  have HK := Lib.hid (known_cd w8 (HG.out.below HB8.out) cp va (stays_pr _ _ _ _ (reads_below hb8) HP.out) ha 65 (by omega))
  clear hb8 ha HP HB7
  go_wp2_with fail
  refine HK.out.mono ?_
  rintro e w9 ⟨hb9, v4, rfl⟩
  have HB9 := Lib.hid (HB8.out.trans (hb9.mono HB8.out.size))
  clear hb9 HK HB8
  go_wp2_with fail
  refine (law_program _).mono ?_
  rintro e w10 ⟨hb10, cp, rfl, hp⟩
  have HP := Lib.hid hp
  have HB10 := Lib.hid (HB9.out.trans (hb10.mono HB9.out.size))
  clear hb10 hp HB9
  go_wp2_with fail
  refine (law_args _).mono ?_
  rintro e w11 ⟨hb11, va, rfl, ha⟩
  have HB11 := Lib.hid (HB10.out.trans (hb11.mono HB10.out.size))
  have HK := Lib.hid (known_e w11 (HG.out.below HB11.out) cp va (stays_pr _ _ _ _ (reads_below hb11) HP.out) ha)
  clear hb11 ha HP HB10
  go_wp2_with fail
  refine HK.out.mono ?_
  rintro e w12 ⟨hb12, v5, rfl⟩
  have HB12 := Lib.hid (HB11.out.trans (hb12.mono HB11.out.size))
  clear hb12 HK HB11
  go_wp2_with fail
  refine (law_program _).mono ?_
  rintro e w13 ⟨hb13, cp, rfl, hp⟩
  have HP := Lib.hid hp
  have HB13 := Lib.hid (HB12.out.trans (hb13.mono HB12.out.size))
  clear hb13 hp HB12
  go_wp2_with fail
  refine (law_args _).mono ?_
  rintro e w14 ⟨hb14, va, rfl, ha⟩
  have HB14 := Lib.hid (HB13.out.trans (hb14.mono HB13.out.size))
  have HK := Lib.hid (known_f w14 (HG.out.below HB14.out) cp va (stays_pr _ _ _ _ (reads_below hb14) HP.out) ha)
  clear hb14 ha HP HB13
  go_wp2_with fail
  refine HK.out.mono ?_
  rintro e w15 ⟨hb15, v6, rfl⟩
  have HB15 := Lib.hid (HB14.out.trans (hb15.mono HB14.out.size))
  clear hb15 HK HB14
  go_wp2_with fail
  -- the lists that are not right
  refine (law_node' _ _ _ _ _).mono ?_
  rintro e w16 ⟨rfl, hb16⟩
  have HB16 := Lib.hid (HB15.out.trans (hb16.mono HB15.out.size))
  have HN0 := Lib.hid (nodes_lit w16 [⟨-2, 0, 0, 0⟩] 73 (by simp))
  have HC := Lib.hid (bel1 (o := .cells #[.int .i64 (-2), .int .i64 0, .int .i64 0, .int .i64 0] 73) (Below.refl w16.heap.size w16))
  clear hb16 HB15
  go_wp2_with fail
  refine (law_node' _ _ _ _ _).mono ?_
  rintro e w17 ⟨rfl, hb17⟩
  replace HN0 := Lib.hid (NodesL.below HN0.out hb17)
  replace HC := Lib.hid (HC.out.trans (hb17.mono HC.out.size))
  clear hb17
  go_wp2_with fail
  refine (law_node' _ _ _ _ _).mono ?_
  rintro e w18 ⟨rfl, hb18⟩
  replace HN0 := Lib.hid (NodesL.below HN0.out hb18)
  replace HC := Lib.hid (HC.out.trans (hb18.mono HC.out.size))
  clear hb18
  replace HN0 := Lib.hid (NodesL.below HN0.out (below1 w18 (.cells #[.int .i64 1, .int .i64 0, .int .i64 0, .int .i64 0, .int .i64 1, .int .i64 0, .int .i64 0, .int .i64 0] 73)))
  have HN1 := Lib.hid (nodes_lit w18 [⟨1, 0, 0, 0⟩, ⟨1, 0, 0, 0⟩] 73 (by simp))
  replace HC := Lib.hid (bel1 (o := .cells #[.int .i64 1, .int .i64 0, .int .i64 0, .int .i64 0, .int .i64 1, .int .i64 0, .int .i64 0, .int .i64 0] 73) HC.out)
  go_wp2_with fail
  refine (law_node' _ _ _ _ _).mono ?_
  rintro e w19 ⟨rfl, hb19⟩
  replace HN0 := Lib.hid (NodesL.below HN0.out hb19)
  replace HN1 := Lib.hid (NodesL.below HN1.out hb19)
  replace HC := Lib.hid (HC.out.trans (hb19.mono HC.out.size))
  clear hb19
  go_wp2_with fail
  refine (law_node' _ _ _ _ _).mono ?_
  rintro e w20 ⟨rfl, hb20⟩
  replace HN0 := Lib.hid (NodesL.below HN0.out hb20)
  replace HN1 := Lib.hid (NodesL.below HN1.out hb20)
  replace HC := Lib.hid (HC.out.trans (hb20.mono HC.out.size))
  clear hb20
  replace HN0 := Lib.hid (NodesL.below HN0.out (below1 w20 (.cells #[.int .i64 2, .int .i64 0, .int .i64 0, .int .i64 0, .int .i64 1, .int .i64 0, .int .i64 0, .int .i64 0] 73)))
  replace HN1 := Lib.hid (NodesL.below HN1.out (below1 w20 (.cells #[.int .i64 2, .int .i64 0, .int .i64 0, .int .i64 0, .int .i64 1, .int .i64 0, .int .i64 0, .int .i64 0] 73)))
  have HN2 := Lib.hid (nodes_lit w20 [⟨2, 0, 0, 0⟩, ⟨1, 0, 0, 0⟩] 73 (by simp))
  replace HC := Lib.hid (bel1 (o := .cells #[.int .i64 2, .int .i64 0, .int .i64 0, .int .i64 0, .int .i64 1, .int .i64 0, .int .i64 0, .int .i64 0] 73) HC.out)
  go_wp2_with fail
  refine (law_node' _ _ _ _ _).mono ?_
  rintro e w21 ⟨rfl, hb21⟩
  replace HN0 := Lib.hid (NodesL.below HN0.out hb21)
  replace HN1 := Lib.hid (NodesL.below HN1.out hb21)
  replace HN2 := Lib.hid (NodesL.below HN2.out hb21)
  replace HC := Lib.hid (HC.out.trans (hb21.mono HC.out.size))
  clear hb21
  replace HN0 := Lib.hid (NodesL.below HN0.out (below1 w21 (.cells #[.int .i64 0, .int .i64 (-1), .int .i64 0, .int .i64 0] 73)))
  replace HN1 := Lib.hid (NodesL.below HN1.out (below1 w21 (.cells #[.int .i64 0, .int .i64 (-1), .int .i64 0, .int .i64 0] 73)))
  replace HN2 := Lib.hid (NodesL.below HN2.out (below1 w21 (.cells #[.int .i64 0, .int .i64 (-1), .int .i64 0, .int .i64 0] 73)))
  have HN3 := Lib.hid (nodes_lit w21 [⟨0, -1, 0, 0⟩] 73 (by simp))
  replace HC := Lib.hid (bel1 (o := .cells #[.int .i64 0, .int .i64 (-1), .int .i64 0, .int .i64 0] 73) HC.out)
  go_wp2_with fail
  refine (law_node' _ _ _ _ _).mono ?_
  rintro e w22 ⟨rfl, hb22⟩
  replace HN0 := Lib.hid (NodesL.below HN0.out hb22)
  replace HN1 := Lib.hid (NodesL.below HN1.out hb22)
  replace HN2 := Lib.hid (NodesL.below HN2.out hb22)
  replace HN3 := Lib.hid (NodesL.below HN3.out hb22)
  replace HC := Lib.hid (HC.out.trans (hb22.mono HC.out.size))
  clear hb22
  replace HN0 := Lib.hid (NodesL.below HN0.out (below1 w22 (.cells #[.int .i64 0, .int .i64 0, .int .i64 (-1), .int .i64 0] 73)))
  replace HN1 := Lib.hid (NodesL.below HN1.out (below1 w22 (.cells #[.int .i64 0, .int .i64 0, .int .i64 (-1), .int .i64 0] 73)))
  replace HN2 := Lib.hid (NodesL.below HN2.out (below1 w22 (.cells #[.int .i64 0, .int .i64 0, .int .i64 (-1), .int .i64 0] 73)))
  replace HN3 := Lib.hid (NodesL.below HN3.out (below1 w22 (.cells #[.int .i64 0, .int .i64 0, .int .i64 (-1), .int .i64 0] 73)))
  have HN4 := Lib.hid (nodes_lit w22 [⟨0, 0, -1, 0⟩] 73 (by simp))
  replace HC := Lib.hid (bel1 (o := .cells #[.int .i64 0, .int .i64 0, .int .i64 (-1), .int .i64 0] 73) HC.out)
  go_wp2_with fail
  refine (law_node' _ _ _ _ _).mono ?_
  rintro e w23 ⟨rfl, hb23⟩
  replace HN0 := Lib.hid (NodesL.below HN0.out hb23)
  replace HN1 := Lib.hid (NodesL.below HN1.out hb23)
  replace HN2 := Lib.hid (NodesL.below HN2.out hb23)
  replace HN3 := Lib.hid (NodesL.below HN3.out hb23)
  replace HN4 := Lib.hid (NodesL.below HN4.out hb23)
  replace HC := Lib.hid (HC.out.trans (hb23.mono HC.out.size))
  clear hb23
  replace HN0 := Lib.hid (NodesL.below HN0.out (below1 w23 (.cells #[.int .i64 0, .int .i64 0, .int .i64 0, .int .i64 (-1)] 73)))
  replace HN1 := Lib.hid (NodesL.below HN1.out (below1 w23 (.cells #[.int .i64 0, .int .i64 0, .int .i64 0, .int .i64 (-1)] 73)))
  replace HN2 := Lib.hid (NodesL.below HN2.out (below1 w23 (.cells #[.int .i64 0, .int .i64 0, .int .i64 0, .int .i64 (-1)] 73)))
  replace HN3 := Lib.hid (NodesL.below HN3.out (below1 w23 (.cells #[.int .i64 0, .int .i64 0, .int .i64 0, .int .i64 (-1)] 73)))
  replace HN4 := Lib.hid (NodesL.below HN4.out (below1 w23 (.cells #[.int .i64 0, .int .i64 0, .int .i64 0, .int .i64 (-1)] 73)))
  have HN5 := Lib.hid (nodes_lit w23 [⟨0, 0, 0, -1⟩] 73 (by simp))
  replace HC := Lib.hid (bel1 (o := .cells #[.int .i64 0, .int .i64 0, .int .i64 0, .int .i64 (-1)] 73) HC.out)
  go_wp2_with fail
  have hsz : (w23.alloc (.cells #[.int .i64 0, .int .i64 0, .int .i64 0, .int .i64 (-1)] 73)).heap.size = w23.heap.size + 1 := World.size_alloc _ _
  have hbd := bads_mk (w23.alloc (.cells #[.int .i64 0, .int .i64 0, .int .i64 0, .int .i64 (-1)] 73)) (.slice (some ⟨w16.heap.size, 0, none⟩) 1 1) (.slice (some ⟨w18.heap.size, 0, none⟩) 2 2) (.slice (some ⟨w20.heap.size, 0, none⟩) 2 2) (.slice (some ⟨w21.heap.size, 0, none⟩) 1 1) (.slice (some ⟨w22.heap.size, 0, none⟩) 1 1) (.slice (some ⟨w23.heap.size, 0, none⟩) 1 1) 29 (fun k hk => by
    have : k = 0 ∨ k = 1 ∨ k = 2 ∨ k = 3 ∨ k = 4 ∨ k = 5 := by omega
    rcases this with rfl | rfl | rfl | rfl | rfl | rfl
    · exact ⟨some ⟨w16.heap.size, 0, none⟩, 1, by simp, rfl, HN0.out⟩
    · exact ⟨some ⟨w18.heap.size, 0, none⟩, 2, by simp, rfl, HN1.out⟩
    · exact ⟨some ⟨w20.heap.size, 0, none⟩, 2, by simp, rfl, HN2.out⟩
    · exact ⟨some ⟨w21.heap.size, 0, none⟩, 1, by simp, rfl, HN3.out⟩
    · exact ⟨some ⟨w22.heap.size, 0, none⟩, 1, by simp, rfl, HN4.out⟩
    · exact ⟨some ⟨w23.heap.size, 0, none⟩, 1, by simp, rfl, HN5.out⟩)
  rw [hsz] at hbd
  have HBd := Lib.hid hbd
  have HBb := Lib.hid (HB16.out.trans ((bel1 (o := .cells #[.slice (some ⟨w16.heap.size, 0, none⟩) 1 1, .slice (some ⟨w18.heap.size, 0, none⟩) 2 2, .slice (some ⟨w20.heap.size, 0, none⟩) 2 2, .slice (some ⟨w21.heap.size, 0, none⟩) 1 1, .slice (some ⟨w22.heap.size, 0, none⟩) 1 1, .slice (some ⟨w23.heap.size, 0, none⟩) 1 1] 29) HC.out).mono HB16.out.size))
  clear hbd hsz HN0 HN1 HN2 HN3 HN4 HN5 HC
  generalize (w23.alloc (.cells #[.int .i64 0, .int .i64 0, .int .i64 0, .int .i64 (-1)] 73)).alloc (.cells #[.slice (some ⟨w16.heap.size, 0, none⟩) 1 1, .slice (some ⟨w18.heap.size, 0, none⟩) 2 2, .slice (some ⟨w20.heap.size, 0, none⟩) 2 2, .slice (some ⟨w21.heap.size, 0, none⟩) 1 1, .slice (some ⟨w22.heap.size, 0, none⟩) 1 1, .slice (some ⟨w23.heap.size, 0, none⟩) 1 1] 29) = wb at *
  generalize w23.heap.size + 1 = gb at *
  clear HB16
  go_loopw [14] (fun i W => ∃ k : Nat, k ≤ 6 ∧ i = .int .i64 k ∧ Below wb.heap.size wb W) (fun i _ => 6 - (intOf i).toNat)
  case atStart => exact ⟨0, Nat.zero_le _, rfl, Below.refl _ _⟩
  case round =>
  obtain ⟨k, hk, rfl, hbr⟩ := hrel
  have HBr := Lib.hid hbr
  by_cases hlt : k < 6
  case pos =>
    obtain ⟨A, c, hA, hc, hn⟩ := HBd.out.below hbr k hlt
    have HG1 := Lib.hid (HG.out.below (HBb.out.trans (hbr.mono HBb.out.size)))
    have HN := Lib.hid hn
    have HFt := Lib.hid (badL_fits k hlt)
    have HRt := Lib.hid (badL_right k hlt)
    have HK1 := Lib.hid (known_top wr HG1.out (badL k) A c hn hA (badL_right k hlt) (by have := (badL_fits k hlt).2; omega) (fun x hx => ((badL_fits k hlt).1 x hx).2.2.1))
    have hk0 : (0 : Int) ≤ (k : Int) := by omega
    have hk1 : (k : Int) < 6 := by omega
    have HCk := Lib.hid (fun W (h : Below wr.heap.size wr W) => cell_keep h hc)
    clear hbr hn
    generalize badL k = b at *
    go_wp2_with fail
    refine HK1.out.mono ?_
    rintro e w30 ⟨hb30, v7, rfl⟩
    have HB30 := Lib.hid hb30
    have hc30 := HCk.out w30 hb30
    have HK2 := Lib.hid (known_diff w30 (HG1.out.below hb30) b [] _ (.slice none 0 0) (NodesL.below HN.out hb30) (nodesL_nil _ _ _) HFt.out.1 (fun x hx => by cases hx) (.inl HRt.out) (by have := HFt.out.2; omega) (by simp))
    clear hb30 HK1 hc
    go_wp2_with fail
    refine HK2.out.mono ?_
    rintro e w31 ⟨hb31, v8, rfl⟩
    have HB31 := Lib.hid (HB30.out.trans (hb31.mono HB30.out.size))
    have hc31 := HCk.out w31 HB31.out
    have HK3 := Lib.hid (known_diff w31 (HG1.out.below HB31.out) [] b (.slice none 0 0) _ (nodesL_nil _ _ _) (NodesL.below HN.out HB31.out) (fun x hx => by cases hx) HFt.out.1 (.inr HRt.out) (by simp) (by have := HFt.out.2; omega))
    clear hb31 HK2 hc30
    go_wp2_with fail
    refine HK3.out.mono ?_
    rintro e w32 ⟨hb32, v9, rfl⟩
    have HB32 := Lib.hid (HBr.out.trans ((HB31.out.trans (hb32.mono HB31.out.size)).mono HBr.out.size))
    clear hb32 HK3 hc31
    go_wp2_with fail
    go_roundw
    case rel => exact ⟨k + 1, hlt, by go_num, HB32.out⟩
    case measure => simp [intOf]; omega
  case neg =>
  obtain rfl : k = 6 := by omega
  have HB40 := Lib.hid (HBb.out.trans (hbr.mono HBb.out.size))
  clear HBb HBd HBr hbr hk hlt
  generalize wr = wa at *
  have HF := Lib.hid (And.intro (below_grow0 wa (wrongObjs wa.heap.size).toArray) (wrong_reads _ _ (grow_get wa (wrongObjs wa.heap.size))))
  go_wp2_with fail
  simp only [Sort.alloc_eq_grow, Sort.grow_grow, List.append_toArray, List.cons_append, List.nil_append]
  have hF := HF.out
  simp only [wrongObjs, nums, List.map_cons, List.map_nil, List.flatten_cons, List.flatten_nil, List.cons_append, List.nil_append, List.append_nil] at hF
  simp only [Nat.add_assoc, Nat.reduceAdd]
  clear HF
  generalize Sort.grow wa _ = wb2 at *
  obtain ⟨hb41, hwr⟩ := hF
  have HWr := Lib.hid hwr
  have HB41 := Lib.hid (HB40.out.trans (hb41.mono HB40.out.size))
  generalize wa.heap.size + 16 = gw at *
  clear hb41 hwr HB40
  go_loopw [22] (fun i W => ∃ k : Nat, k ≤ 7 ∧ i = .int .i64 k ∧ Below wb2.heap.size wb2 W) (fun i _ => 7 - (intOf i).toNat)
  case atStart => exact ⟨0, Nat.zero_le _, rfl, Below.refl _ _⟩
  case round =>
  obtain ⟨k, hk, rfl, hbr⟩ := hrel
  have HBr := Lib.hid hbr
  by_cases hlt : k < 7
  case pos =>
    obtain ⟨A, c, hc, hn⟩ := HWr.out.below hbr k hlt
    have HK1 := Lib.hid (known_text wr (HG.out.below (HB41.out.trans (hbr.mono HB41.out.size))) k hlt _ hn)
    have hk0 : (0 : Int) ≤ (k : Int) := by omega
    have hk1 : (k : Int) < 7 := by omega
    clear hbr hn
    generalize wrongL k = b at *
    go_wp2_with fail
    refine HK1.out.mono ?_
    rintro e w50 ⟨hb50, v7, rfl⟩
    have HB50 := Lib.hid (HBr.out.trans (hb50.mono HBr.out.size))
    clear hb50 HK1 hc
    go_wp2_with fail
    go_roundw
    case rel => exact ⟨_, _, _, _, _, _, _, _, _, _, _, _, _, _, _, _, _, _, _, _, ⟨k + 1, hlt, by go_num, HB50.out⟩, rfl⟩
    case measure => simp [intOf]; omega
  case neg =>
  obtain rfl : k = 7 := by omega
  have HB51 := Lib.hid (HB41.out.trans (hbr.mono HB41.out.size))
  clear HB41 HWr HBr hbr hk hlt
  generalize wr = wa2 at *
  have hq := alloc_new wa2 (.cells (lineL.map fun x => Value.string ⟨x.toArray⟩).toArray 9)
  have hbq := below1 wa2 (.cells (lineL.map fun x => Value.string ⟨x.toArray⟩).toArray 9)
  simp only [lineL, List.map_cons, List.map_nil] at hq hbq
  have HQ := Lib.hid (And.intro hq hbq)
  clear hq hbq
  go_wp2_with fail
  have hQ := HQ.out
  clear HQ
  generalize wa2.alloc _ = w60 at *
  have HQ := Lib.hid hQ.1
  have HB60 := Lib.hid (HB51.out.trans (hQ.2.mono HB51.out.size))
  clear hQ
  generalize wa2.heap.size = gq at *
  clear HB51
  go_loopw [26] (fun i W => ∃ k : Nat, k ≤ 20 ∧ i = .int .i64 k ∧ Below w60.heap.size w60 W) (fun i _ => 20 - (intOf i).toNat)
  case atStart => exact ⟨0, Nat.zero_le _, rfl, Below.refl _ _⟩
  case round =>
  obtain ⟨k, hk, rfl, hbr⟩ := hrel
  have HBr := Lib.hid hbr
  by_cases hlt : k < 20
  case pos =>
    have hk0 : (0 : Int) ≤ (k : Int) := by omega
    have hk1 : (k : Int) < 20 := by omega
    have hk2 : (k : Int) + 1 ≤ 20 := by omega
    have hk3 : (k : Int) ≤ (k : Int) + 1 := by omega
    have hk4 : ¬ (20 = k) := by omega
    have HR := Lib.hid (fun c (hc : 1 ≤ c) => known_read wr (HG.out.below (HB60.out.trans (hbr.mono HB60.out.size))) k hlt _ (TextsL.below (line_one (t := 9) HQ.out k hlt c hc) hbr))
    clear hbr
    go_wp2_with fail
    refine (HR.out _ (by omega)).mono ?_
    rintro e w70 ⟨hb70, rfl⟩
    have HB70 := Lib.hid (HBr.out.trans (hb70.mono HBr.out.size))
    clear hb70 HR
    go_wp2_with fail
    go_roundw
    case rel => exact ⟨_, _, _, _, _, _, _, _, _, _, _, _, _, _, _, _, _, _, _, _, _, ⟨k + 1, hlt, by go_num, HB70.out⟩, rfl⟩
    case measure => simp [intOf]; omega
  case neg =>
  obtain rfl : k = 20 := by omega
  have HB71 := Lib.hid (HB60.out.trans (hbr.mono HB60.out.size))
  clear HB60 HQ HBr hbr hk hlt
  generalize wr = wa3 at *
  have hmk1 : ∀ W, (Instr.makeSlice 22 (.int .i64 1999) (.int .i64 1999)).run Tryz.prog W = .ok (.slice (some ⟨W.heap.size, 0, none⟩) 1999 1999) (W.alloc (.cells (madeCells #[.int .i64 0] 1999) 3)) := fun W => run_make_row' 22 3 (.int .i64 0) 8 Tryz.underlying22 infoInt rfl .i64 .i64 1999 (by omega) (by omega) W
  have hmk2 : ∀ W, (Instr.makeSlice 22 (.int .i64 2000) (.int .i64 2000)).run Tryz.prog W = .ok (.slice (some ⟨W.heap.size, 0, none⟩) 2000 2000) (W.alloc (.cells (madeCells #[.int .i64 0] 2000) 3)) := fun W => run_make_row' 22 3 (.int .i64 0) 8 Tryz.underlying22 infoInt rfl .i64 .i64 2000 (by omega) (by omega) W
  have hi1 := ints_made (n := 1999) (heap_alloc (alloc_new wa3 (.cells (madeCells #[.int .i64 0] 1999) 3)) (.cells #[.slice (some ⟨wa3.heap.size, 0, none⟩) 1999 1999, .int .i64 0] 65)) (by omega)
  have hp1 := alloc_new (wa3.alloc (.cells (madeCells #[.int .i64 0] 1999) 3)) (.cells #[.slice (some ⟨wa3.heap.size, 0, none⟩) 1999 1999, .int .i64 0] 65)
  rw [World.size_alloc] at hp1
  have hb1 := below2 wa3 (.cells (madeCells #[.int .i64 0] 1999) 3) (.cells #[.slice (some ⟨wa3.heap.size, 0, none⟩) 1999 1999, .int .i64 0] 65)
  have hM2e : ∀ W : World, W.heap.size = W.heap.size := fun _ => rfl
  generalize hM1 : madeCells #[.int .i64 0] 1999 = M1 at *
  have HF := Lib.hid (And.intro hi1 (And.intro hp1 hb1))
  clear hi1 hp1 hb1 hM1 hM2e
  go_upto_region 33 with (fail)
  have hF := HF.out
  clear HF hmk1
  generalize (wa3.alloc (.cells M1 3)).alloc _ = wc at *
  have HI1 := Lib.hid hF.1
  have HP1 := Lib.hid hF.2.1
  have HBc := Lib.hid (HB71.out.trans (hF.2.2.mono HB71.out.size))
  clear hF HB71
  generalize wa3.heap.size = g1 at *
  have hi2 := ints_made (n := 2000) (heap_alloc (alloc_new wc (.cells (madeCells #[.int .i64 0] 2000) 3)) (.cells #[.slice (some ⟨wc.heap.size, 0, none⟩) 2000 2000, .int .i64 1] 65)) (by omega)
  have hp2 := alloc_new (wc.alloc (.cells (madeCells #[.int .i64 0] 2000) 3)) (.cells #[.slice (some ⟨wc.heap.size, 0, none⟩) 2000 2000, .int .i64 1] 65)
  rw [World.size_alloc] at hp2
  have hb2 := below2 wc (.cells (madeCells #[.int .i64 0] 2000) 3) (.cells #[.slice (some ⟨wc.heap.size, 0, none⟩) 2000 2000, .int .i64 1] 65)
  generalize hM2 : madeCells #[.int .i64 0] 2000 = M2 at *
  have HF := Lib.hid (And.intro hi2 (And.intro hp2 hb2))
  clear hi2 hp2 hb2 hM2
  go_upto_region 34 with (fail)
  have hF := HF.out
  clear HF hmk2
  generalize (wc.alloc (.cells M2 3)).alloc _ = wd at *
  have HI2 := Lib.hid hF.1
  have HP2 := Lib.hid hF.2.1
  have HBd := Lib.hid (HBc.out.trans (hF.2.2.mono HBc.out.size))
  replace HI1 := Lib.hid (Ints.below HI1.out hF.2.2)
  replace HP1 := Lib.hid (heap_keep hF.2.2 HP1.out)
  clear hF HBc
  generalize wc.heap.size = g2 at *
  -- the longest line
  have p0 := (block_cell HP1.out 0 (by simp)).1
  have p1 := (block_cell HP1.out 1 (by simp)).1
  simp only [List.getElem_toArray, List.getElem_cons_zero, List.getElem_cons_succ] at p0 p1
  have HS1 := Lib.hid (one_stk (g := wd.heap.size) (.slice (some ⟨g1, 0, none⟩) 1999 1999) longS (alloc_new wd (.cells #[.slice (some ⟨g1, 0, none⟩) 1999 1999, .int .i64 0] 65)) (Ints.below HI1.out (below1 wd _)))
  have HBe := Lib.hid (HBd.out.alloc HBd.out.size (.cells #[.slice (some ⟨g1, 0, none⟩) 1999 1999, .int .i64 0] 65))
  have hbe := below1 wd (.cells #[.slice (some ⟨g1, 0, none⟩) 1999 1999, .int .i64 0] 65)
  have HK := Lib.hid (known_long _ (HG.out.below HBe.out) _ HS1.out)
  replace HI1 := Lib.hid (Ints.below HI1.out hbe)
  replace HP1 := Lib.hid (heap_keep hbe HP1.out)
  replace HI2 := Lib.hid (Ints.below HI2.out hbe)
  replace HP2 := Lib.hid (heap_keep hbe HP2.out)
  clear hbe HBd HS1
  go_wp2_with fail
  refine HK.out.mono ?_
  rintro e w80 ⟨hb80, vo, rfl, ho⟩
  have HB80 := Lib.hid (HBe.out.trans (hb80.mono HBe.out.size))
  replace HI1 := Lib.hid (Ints.below HI1.out hb80)
  replace HP1 := Lib.hid (heap_keep hb80 HP1.out)
  replace HI2 := Lib.hid (Ints.below HI2.out hb80)
  replace HP2 := Lib.hid (heap_keep hb80 HP2.out)
  have HO := Lib.hid ho
  obtain ⟨Ao, co, rfl⟩ := textsForm ho
  clear hb80 HK HBe p0 p1 ho
  -- the line that is too long
  have p0 := (block_cell HP2.out 0 (by simp)).1
  have p1 := (block_cell HP2.out 1 (by simp)).1
  simp only [List.getElem_toArray, List.getElem_cons_zero, List.getElem_cons_succ] at p0 p1
  have HS1 := Lib.hid (one_stk (g := w80.heap.size) (.slice (some ⟨g2, 0, none⟩) 2000 2000) longerS (alloc_new w80 (.cells #[.slice (some ⟨g2, 0, none⟩) 2000 2000, .int .i64 1] 65)) (Ints.below HI2.out (below1 w80 _)))
  have HBe := Lib.hid (HB80.out.alloc HB80.out.size (.cells #[.slice (some ⟨g2, 0, none⟩) 2000 2000, .int .i64 1] 65))
  have hbe := below1 w80 (.cells #[.slice (some ⟨g2, 0, none⟩) 2000 2000, .int .i64 1] 65)
  have HK := Lib.hid (known_longer _ (HG.out.below HBe.out) _ HS1.out)
  replace HI1 := Lib.hid (Ints.below HI1.out hbe)
  replace HP1 := Lib.hid (heap_keep hbe HP1.out)
  replace HO := Lib.hid (TextsL.below HO.out hbe)
  clear hbe HB80 HS1 HI2 HP2
  simp only [List.length_cons, List.length_nil, Nat.zero_add]
  go_wp2_with fail
  refine HK.out.mono ?_
  rintro e w81 ⟨hb81, vl, rfl⟩
  have HB81 := Lib.hid (HBe.out.trans (hb81.mono HBe.out.size))
  replace HI1 := Lib.hid (Ints.below HI1.out hb81)
  replace HP1 := Lib.hid (heap_keep hb81 HP1.out)
  replace HO := Lib.hid (TextsL.below HO.out hb81)
  clear hb81 HK HBe p0 p1
  -- read again
  have HK := Lib.hid (known_back [longT] [longS] long_read (fun l hl => by simp at hl; subst hl; exact ⟨long_ascii, by rw [long_len]; omega⟩) (by simp) _ (HG.out.below HB81.out) _ HO.out)
  go_wp2_with fail
  refine HK.out.mono ?_
  rintro e w82 ⟨hb82, vb, rfl, hbk⟩
  have HB82 := Lib.hid (HB81.out.trans (hb82.mono HB81.out.size))
  replace HI1 := Lib.hid (Ints.below HI1.out hb82)
  replace HP1 := Lib.hid (heap_keep hb82 HP1.out)
  replace HO := Lib.hid (TextsL.below HO.out hb82)
  have HBk := Lib.hid hbk
  obtain ⟨Ab, cb, rfl⟩ := stksForm hbk
  clear hb82 HK HB81 hbk
  simp only [List.length_cons, List.length_nil, Nat.zero_add]
  have htl := texts_lit w82 mostT 9 (by simp [mostT])
  have hbe := below1 w82 (.cells (mostT.map fun x => Value.string ⟨x.toArray⟩).toArray 9)
  have hK := known_back mostT mostS most_read most_ascii (by simp [mostT]) _ (HG.out.below (HB82.out.trans (hbe.mono HB82.out.size))) _ htl
  replace HI1 := Lib.hid (Ints.below HI1.out hbe)
  replace HP1 := Lib.hid (heap_keep hbe HP1.out)
  replace HO := Lib.hid (TextsL.below HO.out hbe)
  replace HBk := Lib.hid (StksL.below HBk.out hbe)
  have HBe := Lib.hid (HB82.out.trans (hbe.mono HB82.out.size))
  have HK := Lib.hid hK
  clear hK htl hbe HB82
  go_wp2_with fail
  refine HK.out.mono ?_
  rintro e w83 ⟨hb83, vm, rfl, hm⟩
  have HB83 := Lib.hid (HBe.out.trans (hb83.mono HBe.out.size))
  replace HI1 := Lib.hid (Ints.below HI1.out hb83)
  replace HP1 := Lib.hid (heap_keep hb83 HP1.out)
  replace HO := Lib.hid (TextsL.below HO.out hb83)
  replace HBk := Lib.hid (StksL.below HBk.out hb83)
  have HMo := Lib.hid hm
  obtain ⟨Am, cm, rfl⟩ := stksForm hm
  clear hb83 HK HBe hm
  have hml : mostS.length = 3 := rfl
  rw [hml]
  go_wp2_with fail
  refine (known_topr _ (HG.out.below HB83.out)).mono ?_
  rintro e w84 ⟨hb84, vr, rfl⟩
  have HB84 := Lib.hid (HB83.out.trans (hb84.mono HB83.out.size))
  replace HI1 := Lib.hid (Ints.below HI1.out hb84)
  replace HP1 := Lib.hid (heap_keep hb84 HP1.out)
  replace HO := Lib.hid (TextsL.below HO.out hb84)
  replace HBk := Lib.hid (StksL.below HBk.out hb84)
  replace HMo := Lib.hid (StksL.below HMo.out hb84)
  clear hb84 HB83
  go_wp2_with fail
  refine (known_topn _ (HG.out.below HB84.out)).mono ?_
  rintro e w85 ⟨hb85, An, cn, rfl⟩
  have HB85 := Lib.hid (HB84.out.trans (hb85.mono HB84.out.size))
  replace HI1 := Lib.hid (Ints.below HI1.out hb85)
  replace HP1 := Lib.hid (heap_keep hb85 HP1.out)
  replace HO := Lib.hid (TextsL.below HO.out hb85)
  replace HBk := Lib.hid (StksL.below HBk.out hb85)
  replace HMo := Lib.hid (StksL.below HMo.out hb85)
  clear hb85 HB84
  obtain ⟨bo, oo, rfl, o0⟩ := HO.out.at_ 0 (by simp)
  have hsz : (⟨([longT][0]).toArray⟩ : ByteArray).size = 3999 := long_len
  simp only [Nat.add_zero] at o0
  generalize (⟨([longT][0]).toArray⟩ : ByteArray) = so at *
  have p0 := (block_cell HP1.out 0 (by simp)).1
  have p1 := (block_cell HP1.out 1 (by simp)).1
  simp only [List.getElem_toArray, List.getElem_cons_zero, List.getElem_cons_succ] at p0 p1
  have HS1 := Lib.hid (one_stk (g := w85.heap.size) (.slice (some ⟨g1, 0, none⟩) 1999 1999) longS (alloc_new w85 (.cells #[.slice (some ⟨g1, 0, none⟩) 1999 1999, .int .i64 0] 65)) (Ints.below HI1.out (below1 w85 _)))
  have HBe := Lib.hid (HB85.out.alloc HB85.out.size (.cells #[.slice (some ⟨g1, 0, none⟩) 1999 1999, .int .i64 0] 65))
  have hbe := below1 w85 (.cells #[.slice (some ⟨g1, 0, none⟩) 1999 1999, .int .i64 0] 65)
  have hK := law_alike [longS] [longS] _ _ _ (StksL.below HBk.out hbe) HS1.out
  rw [decide_eq_true rfl] at hK
  replace HMo := Lib.hid (StksL.below HMo.out hbe)
  have HK := Lib.hid hK
  clear hK hbe HB85 HS1 HI1 HP1 HO HBk
  go_wp2_with fail
  refine HK.out.mono ?_
  rintro e w86 ⟨rfl, hb86⟩
  have HB86 := Lib.hid (HBe.out.trans (hb86.mono HBe.out.size))
  replace HMo := Lib.hid (StksL.below HMo.out hb86)
  clear hb86 HK HBe p0 p1 o0 hsz
  have hbg := below_grow0 w86 (mostObjs w86.heap.size).toArray
  have hK := law_alike mostS mostS _ _ _ (StksL.below HMo.out hbg) (most_reads _ _ (grow_get w86 (mostObjs w86.heap.size)))
  rw [decide_eq_true rfl, hml] at hK
  have HF := Lib.hid (And.intro hK (HB86.out.trans (hbg.mono HB86.out.size)))
  clear hK hbg HMo hml
  go_wp2_with fail
  simp only [Sort.alloc_eq_grow, Sort.grow_grow, List.append_toArray, List.cons_append, List.nil_append]
  have hF := HF.out
  simp only [mostObjs, nums, List.map_cons, List.map_nil, List.flatten_cons, List.flatten_nil, List.cons_append, List.nil_append, List.append_nil] at hF
  simp only [Nat.add_assoc, Nat.reduceAdd]
  clear HF
  generalize Sort.grow w86 _ = w87 at *
  refine hF.1.mono ?_
  rintro e w88 ⟨rfl, hb88⟩
  have HB88 := Lib.hid (hF.2.trans (hb88.mono hF.2.size))
  clear hb88 hF HB86
  go_wp2_with fail
  refine (law_profiled _ (HG.out.below HB88.out)).mono ?_
  rintro e w89 ⟨rfl, hb89⟩
  have HB89 := Lib.hid (HB88.out.trans (hb89.mono HB88.out.size))
  clear hb89
  go_wp2_with fail
  go_ret
  exact ⟨rfl, HB89.out⟩
end Go.Proofs.YtdkcjeaabbkdeaaGreatDoor
