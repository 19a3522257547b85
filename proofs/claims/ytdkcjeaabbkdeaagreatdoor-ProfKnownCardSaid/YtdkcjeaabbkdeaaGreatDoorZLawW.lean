/- The law's profiled. -/
import Derived.Test.YtdkcjeaabbkdeaaGreatDoorZLawG
import Derived.Deep.CutRange
set_option linter.unusedVariables false
set_option linter.unusedSimpArgs false
set_option linter.unnecessarySimpa false
set_option linter.unusedSectionVars false
namespace Go.Proofs.YtdkcjeaabbkdeaaGreatDoor
open Go.RowKit Go.Shelf
set_option linter.unusedVariables false
set_option linter.unusedSimpArgs false

theorem stksForm {w : World} {v : Value} {xs : List StackC} (h : StksL w v xs) : ∃ A c, v = .slice A xs.length c := by
  obtain ⟨A, c, rfl, -⟩ := h; exact ⟨A, c, rfl⟩
theorem nodesForm {w : World} {v : Value} {xs : List NodeC} (h : NodesL w v xs) : ∃ A c, v = .slice A xs.length c := by
  obtain ⟨A, c, rfl, -⟩ := h; exact ⟨A, c, rfl⟩
theorem textsForm {w : World} {v : Value} {xs : List (List UInt8)} (h : TextsL w v xs) : ∃ A c, v = .slice A xs.length c := by
  obtain ⟨A, c, rfl, -⟩ := h; exact ⟨A, c, rfl⟩
theorem texts_lit (w : World) (xs : List (List UInt8)) (t : TypeId) (hm : xs.length ≤ 9223372036854775807) : TextsL (w.alloc (.cells (xs.map fun x => Value.string ⟨x.toArray⟩).toArray t)) (.slice (some ⟨w.heap.size, 0, none⟩) xs.length xs.length) xs := by
  have e : (xs.map fun x => [Value.string ⟨x.toArray⟩]).flatten = xs.map fun x => Value.string ⟨x.toArray⟩ := by
    induction xs with
    | nil => rfl
    | cons x xs ih => simp at ih ⊢; exact ih (by simp at hm; omega)
  refine sl_block (t := t) (xs.map fun x => [Value.string ⟨x.toArray⟩]) xs (by rw [e]; exact alloc_new _ _) (fun cs hc => by obtain ⟨x, -, rfl⟩ := List.mem_map.1 hc; rfl) (by simp) hm (fun j h1 h2 => by simp [RText])
theorem nodes_lit (w : World) (xs : List NodeC) (t : TypeId) (hm : xs.length ≤ 9223372036854775807) : NodesL (w.alloc (.cells (xs.map nodeCells).flatten.toArray t)) (.slice (some ⟨w.heap.size, 0, none⟩) xs.length xs.length) xs :=
  sl_block (t := t) (xs.map nodeCells) xs (alloc_new _ _) (fun cs hc => by obtain ⟨x, -, rfl⟩ := List.mem_map.1 hc; rfl) (by simp) hm (fun j h1 h2 => by simp [RNode])
theorem ascii_of (l : List UInt8) (h : l.all (fun c => decide (c.toNat < 128)) = true) : Ascii l := fun c hc => by simpa using List.all_eq_true.1 h c hc
set_option maxRecDepth 100000 in
set_option maxHeartbeats 4000000 in
theorem law_profiled (w : World) (hG : AllG w) : Calls Tryz.prog 22 #[] w (Gives w (.bool true)) := by
  have HG := Lib.hid hG
  clear hG
  go_enter Tryz.func22, Tryz.ntmps22
  go_wp2_with fail
  -- Nodes, one lane
  refine (law_program _).mono ?_
  rintro e w1 ⟨hb1, cp, rfl, hp⟩
  have HP := Lib.hid hp
  have HB1 := Lib.hid hb1
  clear hp hb1
  go_wp2_with fail
  refine (law_args _).mono ?_
  rintro e w2 ⟨hb2, va, rfl, ha⟩
  have HN := Lib.hid (law_nodesA w2 (HG.out.below (HB1.out.trans (hb2.mono HB1.out.size))) cp va (stays_pr _ _ _ _ (reads_below hb2) HP.out) ha)
  have HB2 := Lib.hid (HB1.out.trans (hb2.mono HB1.out.size))
  clear hb2 ha HP HB1
  go_wp2_with fail
  refine HN.out.mono ?_
  rintro e w3 ⟨hb3, A1, c1, rfl, hA, hA0⟩
  have HB3 := Lib.hid (HB2.out.trans (hb3.mono HB2.out.size))
  have HA := Lib.hid hA
  have HA0 := Lib.hid hA0
  have hc5 : 5 ≤ c1 := by obtain ⟨A', c', he, hm, -⟩ := hA; cases he; have := hm.2; simp [wantA] at this; omega
  have hc4 : (4 : Int) ≤ (c1 : Int) := by omega
  clear hb3 hA hA0 HN HB2
  go_wp2_with fail
  refine (law_program _).mono ?_
  rintro e w4 ⟨hb4, cp, rfl, hp⟩
  have HP := Lib.hid hp
  have HB4 := Lib.hid (HB3.out.trans (hb4.mono HB3.out.size))
  replace HA := Lib.hid (NodesL.below HA.out hb4)
  clear hp hb4 HB3
  go_wp2_with fail
  refine (law_args _).mono ?_
  rintro e w5 ⟨hb5, va, rfl, ha⟩
  have HB5 := Lib.hid (HB4.out.trans (hb5.mono HB4.out.size))
  have HP2 := Lib.hid (stays_pr _ _ _ _ (reads_below hb5) HP.out)
  have HAr := Lib.hid ha
  replace HA := Lib.hid (NodesL.below HA.out hb5)
  clear hb5 ha HP HB4
  go_wp2_with fail
  refine (law_nodesB w5 (HG.out.below HB5.out) cp va HP2.out HAr.out).mono ?_
  rintro e w6 ⟨hb6, A2, c2, rfl, hB⟩
  have HB6 := Lib.hid (HB5.out.trans (hb6.mono HB5.out.size))
  replace HA := Lib.hid (NodesL.below HA.out hb6)
  have HBn := Lib.hid hB
  clear hb6 hB HB5
  go_wp2_with fail
  refine (law_program _).mono ?_
  rintro e w7 ⟨hb7, cp, rfl, hp⟩
  have HP := Lib.hid hp
  have HB7 := Lib.hid (HB6.out.trans (hb7.mono HB6.out.size))
  replace HA := Lib.hid (NodesL.below HA.out hb7)
  replace HBn := Lib.hid (NodesL.below HBn.out hb7)
  clear hp hb7 HB6
  go_wp2_with fail
  refine (law_args _).mono ?_
  rintro e w8 ⟨hb8, va, rfl, ha⟩
  have HB8 := Lib.hid (HB7.out.trans (hb8.mono HB7.out.size))
  have HP3 := Lib.hid (stays_pr _ _ _ _ (reads_below hb8) HP.out)
  have HAr3 := Lib.hid ha
  replace HA := Lib.hid (NodesL.below HA.out hb8)
  replace HBn := Lib.hid (NodesL.below HBn.out hb8)
  clear hb8 ha HP HB7
  go_wp2_with fail
  refine (law_funsS w8 (HG.out.below HB8.out) cp va HP3.out HAr3.out).mono ?_
  rintro e w9 ⟨hb9, gF, rfl, hF⟩
  have HB9 := Lib.hid (HB8.out.trans (hb9.mono HB8.out.size))
  replace HA := Lib.hid (NodesL.below HA.out hb9)
  replace HBn := Lib.hid (NodesL.below HBn.out hb9)
  have HFn := Lib.hid hF
  clear hb9 hF HB8
  go_wp2_with fail
  refine (law_program _).mono ?_
  rintro e w10 ⟨hb10, cp, rfl, hp⟩
  have HP := Lib.hid hp
  have HB10 := Lib.hid (HB9.out.trans (hb10.mono HB9.out.size))
  replace HA := Lib.hid (NodesL.below HA.out hb10)
  replace HBn := Lib.hid (NodesL.below HBn.out hb10)
  replace HFn := Lib.hid (heap_keep hb10 HFn.out)
  clear hp hb10 HB9
  go_wp2_with fail
  refine (law_args _).mono ?_
  rintro e w11 ⟨hb11, va, rfl, ha⟩
  have HB11 := Lib.hid (HB10.out.trans (hb11.mono HB10.out.size))
  have HP4 := Lib.hid (stays_pr _ _ _ _ (reads_below hb11) HP.out)
  have HAr4 := Lib.hid ha
  replace HA := Lib.hid (NodesL.below HA.out hb11)
  replace HBn := Lib.hid (NodesL.below HBn.out hb11)
  replace HFn := Lib.hid (heap_keep hb11 HFn.out)
  clear hb11 ha HP HB10
  go_wp2_with fail
  refine (law_stacksS w11 (HG.out.below HB11.out) cp va HP4.out HAr4.out).mono ?_
  rintro e w12 ⟨hb12, vS, rfl, hS⟩
  obtain ⟨AS, cS, rfl⟩ := stksForm hS
  simp only [wantS, List.length_cons, List.length_nil, Nat.zero_add, Nat.reduceAdd] at hS ⊢
  have HB12 := Lib.hid (HB11.out.trans (hb12.mono HB11.out.size))
  replace HA := Lib.hid (NodesL.below HA.out hb12)
  replace HBn := Lib.hid (NodesL.below HBn.out hb12)
  replace HFn := Lib.hid (heap_keep hb12 HFn.out)
  have HSn := Lib.hid hS
  clear hb12 hS HB11
  go_wp2_with fail
  refine (law_textS w12 (HG.out.below HB12.out) _ HSn.out).mono ?_
  rintro e w13 ⟨hb13, vT, rfl, hT⟩
  obtain ⟨AT, cT, rfl⟩ := textsForm hT
  simp only [List.length_cons, List.length_nil, Nat.zero_add, Nat.reduceAdd] at hT ⊢
  have HB13 := Lib.hid (HB12.out.trans (hb13.mono HB12.out.size))
  replace HA := Lib.hid (NodesL.below HA.out hb13)
  replace HBn := Lib.hid (NodesL.below HBn.out hb13)
  replace HFn := Lib.hid (heap_keep hb13 HFn.out)
  have HTn := Lib.hid hT
  clear hb13 hT HB12
  go_wp2_with fail
  refine (law_topS w13 (HG.out.below HB13.out) A1 c1 HA0.out HA.out).mono ?_
  rintro e w14 ⟨hb14, vP, rfl, hP⟩
  obtain ⟨AP, cP, rfl⟩ := nodesForm hP
  simp only [List.length_cons, List.length_nil, Nat.zero_add, Nat.reduceAdd] at hP ⊢
  have HB14 := Lib.hid (HB13.out.trans (hb14.mono HB13.out.size))
  replace HA := Lib.hid (NodesL.below HA.out hb14)
  replace HBn := Lib.hid (NodesL.below HBn.out hb14)
  replace HFn := Lib.hid (heap_keep hb14 HFn.out)
  replace HTn := Lib.hid (TextsL.below HTn.out hb14)
  have HPn := Lib.hid hP
  clear hb14 hP HB13
  go_wp2_with fail
  refine (law_diffS w14 (HG.out.below HB14.out) A1 c1 HA.out).mono ?_
  rintro e w15 ⟨hb15, vD, rfl, hD⟩
  obtain ⟨AD, cD, rfl⟩ := nodesForm hD
  simp only [List.length_cons, List.length_nil, Nat.zero_add] at hD ⊢
  have HB15 := Lib.hid (HB14.out.trans (hb15.mono HB14.out.size))
  replace HA := Lib.hid (NodesL.below HA.out hb15)
  replace HBn := Lib.hid (NodesL.below HBn.out hb15)
  replace HFn := Lib.hid (heap_keep hb15 HFn.out)
  replace HTn := Lib.hid (TextsL.below HTn.out hb15)
  replace HPn := Lib.hid (NodesL.below HPn.out hb15)
  have HDn := Lib.hid hD
  clear hb15 hD HB14
  go_wp2_with fail
  have hx15 := texts_lit w15 [[49, 32, 50], [48, 32, 49]] 9 (by simp)
  simp only [List.map_cons, List.map_nil, List.length_cons, List.length_nil, Nat.zero_add, Nat.reduceAdd] at hx15
  refine (law_readS [[49, 32, 50], [48, 32, 49]] law_read1 (by intro l hl; simp only [List.mem_cons, List.not_mem_nil, or_false] at hl; rcases hl with rfl | rfl <;> exact ⟨ascii_of _ (by decide), by simp⟩) (by simp) _ (HG.out.below (HB15.out.trans ((below1 w15 _).mono HB15.out.size))) _ hx15).mono ?_
  rintro e w16 ⟨hc15, rfl⟩
  have hb16 := below_step (below1 w15 _) hc15
  have HB16 := Lib.hid (HB15.out.trans (hb16.mono HB15.out.size))
  replace HA := Lib.hid (NodesL.below HA.out hb16)
  replace HBn := Lib.hid (NodesL.below HBn.out hb16)
  replace HFn := Lib.hid (heap_keep hb16 HFn.out)
  replace HTn := Lib.hid (TextsL.below HTn.out hb16)
  replace HPn := Lib.hid (NodesL.below HPn.out hb16)
  replace HDn := Lib.hid (NodesL.below HDn.out hb16)
  clear hx15 hc15 hb16 HB15
  go_wp2_with fail
  have hx16 := texts_lit w16 [[48, 59, 48, 49, 32, 50]] 9 (by simp)
  simp only [List.map_cons, List.map_nil, List.length_cons, List.length_nil, Nat.zero_add, Nat.reduceAdd] at hx16
  refine (law_readS [[48, 59, 48, 49, 32, 50]] law_read2 (by intro l hl; simp only [List.mem_cons, List.not_mem_nil, or_false] at hl; subst hl; exact ⟨ascii_of _ (by decide), by simp⟩) (by simp) _ (HG.out.below (HB16.out.trans ((below1 w16 _).mono HB16.out.size))) _ hx16).mono ?_
  rintro e w17 ⟨hc16, rfl⟩
  have hb17 := below_step (below1 w16 _) hc16
  have HB17 := Lib.hid (HB16.out.trans (hb17.mono HB16.out.size))
  replace HA := Lib.hid (NodesL.below HA.out hb17)
  replace HBn := Lib.hid (NodesL.below HBn.out hb17)
  replace HFn := Lib.hid (heap_keep hb17 HFn.out)
  replace HTn := Lib.hid (TextsL.below HTn.out hb17)
  replace HPn := Lib.hid (NodesL.below HPn.out hb17)
  replace HDn := Lib.hid (NodesL.below HDn.out hb17)
  clear hx16 hc16 hb17 HB16
  go_wp2_with fail
  have hx17 := texts_lit w17 [[48, 32]] 9 (by simp)
  simp only [List.map_cons, List.map_nil, List.length_cons, List.length_nil, Nat.zero_add, Nat.reduceAdd] at hx17
  refine (law_readS [[48, 32]] law_read3 (by intro l hl; simp only [List.mem_cons, List.not_mem_nil, or_false] at hl; subst hl; exact ⟨ascii_of _ (by decide), by simp⟩) (by simp) _ (HG.out.below (HB17.out.trans ((below1 w17 _).mono HB17.out.size))) _ hx17).mono ?_
  rintro e w18 ⟨hc17, rfl⟩
  have hb18 := below_step (below1 w17 _) hc17
  have HB18 := Lib.hid (HB17.out.trans (hb18.mono HB17.out.size))
  replace HA := Lib.hid (NodesL.below HA.out hb18)
  replace HBn := Lib.hid (NodesL.below HBn.out hb18)
  replace HFn := Lib.hid (heap_keep hb18 HFn.out)
  replace HTn := Lib.hid (TextsL.below HTn.out hb18)
  replace HPn := Lib.hid (NodesL.below HPn.out hb18)
  replace HDn := Lib.hid (NodesL.below HDn.out hb18)
  clear hx17 hc17 hb18 HB17
  go_wp2_with fail
  refine (law_node _ _ _ _ _).mono ?_
  rintro e w19 ⟨rfl, hb19⟩
  have HB19 := Lib.hid (HB18.out.trans (hb19.mono HB18.out.size))
  replace HA := Lib.hid (NodesL.below HA.out hb19)
  replace HBn := Lib.hid (NodesL.below HBn.out hb19)
  replace HFn := Lib.hid (heap_keep hb19 HFn.out)
  replace HTn := Lib.hid (TextsL.below HTn.out hb19)
  replace HPn := Lib.hid (NodesL.below HPn.out hb19)
  replace HDn := Lib.hid (NodesL.below HDn.out hb19)
  clear hb19 HB18
  simp only [nodeCells]
  go_wp2_with fail
  refine (law_node _ _ _ _ _).mono ?_
  rintro e w20 ⟨rfl, hb20⟩
  have HB20 := Lib.hid (HB19.out.trans (hb20.mono HB19.out.size))
  replace HA := Lib.hid (NodesL.below HA.out hb20)
  replace HBn := Lib.hid (NodesL.below HBn.out hb20)
  replace HFn := Lib.hid (heap_keep hb20 HFn.out)
  replace HTn := Lib.hid (TextsL.below HTn.out hb20)
  replace HPn := Lib.hid (NodesL.below HPn.out hb20)
  replace HDn := Lib.hid (NodesL.below HDn.out hb20)
  clear hb20 HB19
  simp only [nodeCells]
  go_wp2_with fail
  refine (law_node _ _ _ _ _).mono ?_
  rintro e w21 ⟨rfl, hb21⟩
  have HB21 := Lib.hid (HB20.out.trans (hb21.mono HB20.out.size))
  replace HA := Lib.hid (NodesL.below HA.out hb21)
  replace HBn := Lib.hid (NodesL.below HBn.out hb21)
  replace HFn := Lib.hid (heap_keep hb21 HFn.out)
  replace HTn := Lib.hid (TextsL.below HTn.out hb21)
  replace HPn := Lib.hid (NodesL.below HPn.out hb21)
  replace HDn := Lib.hid (NodesL.below HDn.out hb21)
  clear hb21 HB20
  simp only [nodeCells]
  go_wp2_with fail
  refine (law_node _ _ _ _ _).mono ?_
  rintro e w22 ⟨rfl, hb22⟩
  have HB22 := Lib.hid (HB21.out.trans (hb22.mono HB21.out.size))
  replace HA := Lib.hid (NodesL.below HA.out hb22)
  replace HBn := Lib.hid (NodesL.below HBn.out hb22)
  replace HFn := Lib.hid (heap_keep hb22 HFn.out)
  replace HTn := Lib.hid (TextsL.below HTn.out hb22)
  replace HPn := Lib.hid (NodesL.below HPn.out hb22)
  replace HDn := Lib.hid (NodesL.below HDn.out hb22)
  clear hb22 HB21
  simp only [nodeCells]
  go_wp2_with fail
  refine (law_node _ _ _ _ _).mono ?_
  rintro e w23 ⟨rfl, hb23⟩
  have HB23 := Lib.hid (HB22.out.trans (hb23.mono HB22.out.size))
  replace HA := Lib.hid (NodesL.below HA.out hb23)
  replace HBn := Lib.hid (NodesL.below HBn.out hb23)
  replace HFn := Lib.hid (heap_keep hb23 HFn.out)
  replace HTn := Lib.hid (TextsL.below HTn.out hb23)
  replace HPn := Lib.hid (NodesL.below HPn.out hb23)
  replace HDn := Lib.hid (NodesL.below HDn.out hb23)
  clear hb23 HB22
  simp only [nodeCells]
  go_wp2_with fail
  have hwl := nodes_lit w23 wantA 73 (by simp [wantA])
  simp only [wantA, nodeCells, List.map_cons, List.map_nil, List.flatten_cons, List.flatten_nil, List.cons_append, List.nil_append, List.append_nil, List.length_cons, List.length_nil, Nat.zero_add, Nat.reduceAdd] at hwl
  have hsm := law_same wantA wantA _ _ _ (HA.out.below (below1 w23 _)) hwl
  rw [show decide (wantA = wantA) = true by simp] at hsm
  refine hsm.mono ?_
  rintro e w24 ⟨rfl, hb24⟩
  replace hb24 := below_step (below1 w23 _) hb24
  have HB24 := Lib.hid (HB23.out.trans (hb24.mono HB23.out.size))
  replace HA := Lib.hid (NodesL.below HA.out hb24)
  replace HBn := Lib.hid (NodesL.below HBn.out hb24)
  replace HFn := Lib.hid (heap_keep hb24 HFn.out)
  replace HTn := Lib.hid (TextsL.below HTn.out hb24)
  replace HPn := Lib.hid (NodesL.below HPn.out hb24)
  replace HDn := Lib.hid (NodesL.below HDn.out hb24)
  clear hwl hsm hb24 HB23
  have hB' := HBn.out
  obtain ⟨bb, bo, rfl, -, -, -, hB0⟩ := hB'.at_ 0 (by decide)
  obtain ⟨bb', bo', e1, -, -, -, hB1⟩ := hB'.at_ 1 (by decide)
  cases e1
  obtain ⟨bb', bo', e1, -, -, -, hB2⟩ := hB'.at_ 2 (by decide)
  cases e1
  obtain ⟨bb', bo', e1, -, -, -, hB3⟩ := hB'.at_ 3 (by decide)
  cases e1
  obtain ⟨bb', bo', e1, -, -, -, hB4⟩ := hB'.at_ 4 (by decide)
  cases e1
  obtain ⟨pb, po, rfl, hP0, -, -, -⟩ := HPn.out.at_ 0 (by decide)
  obtain ⟨pb', po', e1, hP1, -, -, -⟩ := HPn.out.at_ 1 (by decide)
  cases e1
  have f0 := (block_cell HFn.out 0 (by decide)).1
  have f1 := (block_cell HFn.out 1 (by decide)).1
  have f2 := (block_cell HFn.out 2 (by decide)).1
  have f3 := (block_cell HFn.out 3 (by decide)).1
  have f4 := (block_cell HFn.out 4 (by decide)).1
  have f5 := (block_cell HFn.out 5 (by decide)).1
  have f6 := (block_cell HFn.out 6 (by decide)).1
  have f7 := (block_cell HFn.out 7 (by decide)).1
  simp only [wantB, nums, List.map_cons, List.map_nil, List.getElem_toArray, List.getElem_cons_zero, List.getElem_cons_succ, Nat.zero_mul, Nat.add_zero, Nat.one_mul, Nat.reduceMul, Nat.add_assoc, Nat.reduceAdd] at hB0 hB1 hB2 hB3 hB4 hP0 hP1 f0 f1 f2 f3 f4 f5 f6 f7
  have q1 := eql_four 68 (.inr rfl) 0 1 27 31 0 1 27 31
  have q2 := eql_four 68 (.inr rfl) 1 1 4 4 1 1 4 4
  go_wp2_with fail
  have htl := texts_lit w24 [[48, 32, 50, 55], [48, 59, 49, 32, 52]] 9 (by simp)
  simp only [List.map_cons, List.map_nil, List.length_cons, List.length_nil, Nat.zero_add, Nat.reduceAdd] at htl
  have heq := law_equalTexts _ _ _ _ _ (HTn.out.below (below1 w24 _)) htl
  rw [show decide (([[48, 32, 50, 55], [48, 59, 49, 32, 52]] : List (List UInt8)) = [[48, 32, 50, 55], [48, 59, 49, 32, 52]]) = true by decide] at heq
  refine heq.mono ?_
  rintro e w25 ⟨rfl, hb25⟩
  replace hb25 := below_step (below1 w24 _) hb25
  have HB25 := Lib.hid (HB24.out.trans (hb25.mono HB24.out.size))
  have p0 := cell_keep hb25 hP0
  have p1 := cell_keep hb25 hP1
  replace HDn := Lib.hid (HDn.out.below hb25)
  clear hb25 htl heq hP0 hP1 HB24 hB0 hB1 hB2 hB3 hB4 f0 f1 f2 f3 f4 f5 f6 f7 q1 q2 HA HBn HFn HTn HPn hB'
  go_wp2_with fail
  refine (law_node _ _ _ _ _).mono ?_
  rintro e w26 ⟨rfl, hb26⟩
  have HB26 := Lib.hid (HB25.out.trans (hb26.mono HB25.out.size))
  replace HDn := Lib.hid (HDn.out.below hb26)
  clear hb26 HB25 p0 p1
  simp only [nodeCells]
  go_wp2_with fail
  have hwl := nodes_lit w26 [⟨9, -1, -8, -8⟩] 73 (by simp)
  simp only [nodeCells, List.map_cons, List.map_nil, List.flatten_cons, List.flatten_nil, List.cons_append, List.nil_append, List.append_nil, List.length_cons, List.length_nil, Nat.zero_add] at hwl
  have hsm := law_same _ _ _ _ _ (HDn.out.below (below1 w26 _)) hwl
  rw [show decide (([⟨9, -1, -8, -8⟩] : List NodeC) = [⟨9, -1, -8, -8⟩]) = true by decide] at hsm
  refine hsm.mono ?_
  rintro e w27 ⟨rfl, hb27⟩
  replace hb27 := below_step (below1 w26 _) hb27
  have HB27 := Lib.hid (HB26.out.trans (hb27.mono HB26.out.size))
  clear hwl hsm hb27 HB26 HDn
  go_wp2_with fail
  go_ret
  exact ⟨rfl, HB27.out⟩
end Go.Proofs.YtdkcjeaabbkdeaaGreatDoor
