/- Package prof: costs of nodes, put in order. Package prof: nothing, put in order; the comparisons as the sort asks for them. Package prof: Top. -/
import Derived.Test.YtdkcjeaabbkdeaaGreatDoorZShelf
import Derived.Test.YtdkcjeaabbkdeaaGreatDoorZProfA
import Derived.Laws.AppendOwn
set_option linter.unusedVariables false
set_option linter.unusedSimpArgs false
set_option linter.unnecessarySimpa false
set_option linter.unusedSectionVars false
section
namespace Go.Proofs.YtdkcjeaabbkdeaaGreatDoor
open Go.RowKit Go.Sort Go.Shelf
set_option linter.unusedVariables false
set_option linter.unusedSimpArgs false

theorem flat4_get {α : Type} (f : α → List Value) (hf : ∀ x, (f x).length = 4) (l : List α) (j i : Nat) (hj : j < l.length) (hi : i < 4) : (l.flatMap f)[j * 4 + i]? = (f l[j])[i]? := by
  induction l generalizing j with
  | nil => simp at hj
  | cons s l ih =>
    rw [List.flatMap_cons]
    cases j with
    | zero =>
      rw [List.getElem?_append_left (by rw [hf]; omega)]; simp
    | succ j =>
      rw [List.getElem?_append_right (by rw [hf]; omega)]
      have : (j + 1) * 4 + i - (f s).length = j * 4 + i := by rw [hf]; omega
      rw [this, ih j (by simpa using hj)]; rfl
def encN {P : NodeC → Prop} (x : {x : NodeC // P x}) : List Value := nodeCells x.1
section
variable {P : NodeC → Prop} [Inhabited {x : NodeC // P x}]
theorem nodes_of_holds {w : World} {blk off cap : Nat} {d : Array {x : NodeC // P x}} (h : HoldsK encN 4 w blk off d) (hm : d.size ≤ 9223372036854775807 ∧ d.size ≤ cap) : NodesL w (.slice (some ⟨blk, off, none⟩) d.size cap) (d.toList.map Subtype.val) := by
  refine ⟨some ⟨blk, off, none⟩, cap, by simp, by simpa using hm, fun j hj => ⟨blk, off, nodeCells ((d.toList.map Subtype.val)[j]), rfl, rfl, fun i hi => ?_, rfl⟩⟩
  have hj' : j < d.size := by simpa using hj
  have hi4 : i < 4 := by simpa [nodeCells] using hi
  have hc := (h.cell hj' hi4).1
  rw [getElem!_pos d j hj'] at hc
  have e : (d.toList.map Subtype.val)[j] = d[j].1 := by simp
  rw [getElem!_pos _ i (by simpa [encN, nodeCells] using hi4)] at hc
  simp only [e]
  simpa [encN, Nat.add_assoc] using hc
theorem holds_of_own {w : World} {base g cap : Nat} {d : Array {x : NodeC // P x}} (h : w.ownsRow base 73 4 (.slice (some ⟨g, 0, none⟩) d.size cap) d.size (d.toList.flatMap encN)) : HoldsK encN 4 w g 0 d := by
  intro j hj
  have hj' : j < d.size * 4 := by simpa using hj
  refine ⟨?_, h.frozenAt _⟩
  rw [Nat.zero_add, h.cellAt j hj', get_flatK _ _ _ _ hj']
  have hd : j / 4 < d.size := by omega
  have e : j = j / 4 * 4 + j % 4 := by omega
  have := flat4_get encN (fun _ => rfl) d.toList (j / 4) (j % 4) (by simpa using hd) (by omega)
  rw [← e] at this
  rw [this, getElem!_pos d (j / 4) hd, getElem!_pos _ (j % 4) (by simp [encN, nodeCells]; omega), List.getElem?_eq_getElem (by simp [encN, nodeCells]; omega)]
  rfl
/-- What is asked of a comparison. -/
def CmpN (g : Nat) (P : NodeC → Prop) (cf : NodeC → NodeC → Int) : Prop := ∀ x y, P x → P y → ∀ W : World, Calls Tryz.prog g #[.agg (nodeCells x).toArray, .agg (nodeCells y).toArray] W fun e w' => e = .returned (.int .i64 (cf x y)) ∧ ∃ q os', w' = grow (W.drewN q) os'

set_option maxHeartbeats 1000000 in
theorem sort_nodes (g : Nat) (cf : NodeC → NodeC → Int) (hg : Enters Tryz.prog g) (hc : CmpN g P cf) (hO : SWO (ltOf fun x y : {x : NodeC // P x} => cf x.1 y.1)) (d : Array {x : NodeC // P x}) (blk cap base : Nat) (w : World)
    (hsz : d.size < 4611686018427387904) (h : w.ownsRow base 73 4 (.slice (some ⟨blk, 0, none⟩) d.size cap) d.size (d.toList.flatMap encN)) :
    Calls Tryz.prog 98 #[.slice (some ⟨blk, 0, none⟩) d.size cap, .func (.func g) #[] #[]] w fun e w' => e = .returned (.tuple #[]) ∧ ∃ l : List NodeC, l.Perm (d.toList.map Subtype.val) ∧ (∀ i j (h1 : i < j) (h2 : j < l.length), ¬ cf l[j] l[i] < 0) ∧ RowKit.Below base w w' ∧ NodesL w' (.slice (some ⟨blk, 0, none⟩) d.size cap) l := by
  obtain ⟨hb, hlt⟩ := h.lt blk rfl
  have hcap : d.size ≤ cap ∧ cap ≤ maxLen := by
    rcases h.2 with ⟨h', _⟩ | ⟨g', cap', cur, h', _, hg, h1, h2, _⟩
    · simp at h'
    · cases h'; exact ⟨h1, h2⟩
  have hH := holds_of_own h
  have hcon := AnyQ.slices_SortFunc Tryz.sortNode 4 Tryz.isAgg73 Tryz.sizeOf73 (encN (P := P)) (fun _ => rfl) (fun x v hv => by simp [encN, nodeCells] at hv; rcases hv with rfl | rfl | rfl | rfl <;> rfl) (fun x y => cf x.1 y.1) hO g #[] blk 0 cap d w hg (fun m os dk _ x y => hc x.1 y.1 x.2 y.2 _) hH hlt hsz
  change Calls Tryz.prog 98 _ _ _ at hcon
  refine hcon.mono ?_
  rintro e w' ⟨rfl, d', n, os, hp, hs, rfl⟩
  have hex : ∀ a : Array {x : NodeC // P x}, a.size = d.size → (a.extract 0 d.size).toList = a.toList := fun a ha => by rw [← ha, Array.extract_size]
  refine ⟨rfl, d'.toList.map Subtype.val, ?_, fun i j h1 h2 => ?_, ?_, ?_⟩
  · have := hp.2.2
    rw [hex d' hp.1, hex d rfl] at this
    exact this.map _
  · have hj : j < d'.size := by simpa using h2
    have hi : i < d'.size := by omega
    have := hs i j (Nat.zero_le _) h1 (by rw [← hp.1]; exact hj)
    rw [getElem!_pos d' j hj, getElem!_pos d' i hi] at this
    unfold ltOf at this
    simpa using this
  · have hps : (putRowK encN 4 (Sort.ahead w n) blk 0 d').heap.size = w.heap.size := by
      show (w.heap.modify blk _).size = _
      rw [Array.size_modify]
    refine ⟨rfl, rfl, rfl, ?_, fun k hk => ?_⟩
    · show w.heap.size ≤ (grow (putRowK encN 4 (Sort.ahead w n) blk 0 d') os).heap.size
      rw [size_grow, hps]; omega
    · show (grow (putRowK encN 4 (Sort.ahead w n) blk 0 d') os).heap[k]? = _
      rw [heap_grow_old _ _ (by rw [hps]; omega)]
      show (w.heap.modify blk _)[k]? = _
      rw [Array.getElem?_modify, if_neg (by omega)]
  · have hps : (putRowK encN 4 (Sort.ahead w n) blk 0 d').heap.size = w.heap.size := by
      show (w.heap.modify blk _).size = _
      rw [Array.size_modify]
    have := nodes_of_holds (cap := cap) (holdsK_grow encN 4 (putRowK encN 4 (Sort.ahead w n) blk 0 d') os blk 0 d' (by rw [hps]; exact hlt) (holdsK_putRowK encN 4 (Sort.ahead w n) blk 0 d d' (holdsK_ahead encN 4 w n blk 0 d hH) hp.1)) ⟨by have := hp.1; omega, by rw [hp.1]; exact hcap.1⟩
    rw [hp.1] at this
    exact this
end
end Go.Proofs.YtdkcjeaabbkdeaaGreatDoor
end
section
namespace Go.Proofs.YtdkcjeaabbkdeaaGreatDoor
open Go.RowKit Go.Sort Go.Shelf
set_option linter.unusedVariables false
set_option linter.unusedSimpArgs false

theorem bits_len0 (w : World) : Calls Tryz.prog 137 #[.int .u64 0] w fun e w' => (∃ k : Int, e = .returned (.int .i64 k)) ∧ w' = w := by
  have h := Any.bits_Len (SlLaysF0.n15.bits (P := Tryz.prog) { Tryz.sortNode with }) (0 : Int) w (by omega) (by omega)
  change Calls Tryz.prog 137 _ _ _ at h
  exact h.mono fun e w' ⟨h1, h2⟩ => ⟨⟨_, h1⟩, h2⟩
set_option maxRecDepth 100000 in
theorem insertion0 (f : Value) (w : World) : Calls Tryz.prog 164 #[.slice none 0 0, .int .i64 0, .int .i64 0, f] w fun e w' => e = .returned (.tuple #[]) ∧ w' = w := by
  go_enter Tryz.func164, Tryz.ntmps164
  go_wp2_with fail
  go_loopw [8, 9] (fun i _ wr => wr = w ∧ i = .int .i64 1) (fun _ _ _ => 0)
  case atStart => exact ⟨rfl, rfl⟩
  case round =>
    obtain ⟨rfl, rfl⟩ := hrel
    go_wp2
    go_end0
    exact ⟨rfl, rfl⟩
set_option maxRecDepth 100000 in
theorem pdq0 (k : Int) (f : Value) (w : World) : Calls Tryz.prog 136 #[.slice none 0 0, .int .i64 0, .int .i64 0, .int .i64 k, f] w fun e w' => e = .returned (.tuple #[]) ∧ w' = w := by
  go_enter Tryz.func136, Tryz.ntmps136
  go_wp2_with fail
  go_loopw [1, 2, 3, 10, 11, 12, 13, 14, 15, 16, 17, 18, 19, 20] (fun a b _ _ _ _ _ _ _ _ _ _ _ _ wr => wr = w ∧ a = .int .i64 0 ∧ b = .int .i64 0) (fun _ _ _ _ _ _ _ _ _ _ _ _ _ _ _ => 0)
  case atStart => exact ⟨rfl, rfl, rfl⟩
  case round =>
  obtain ⟨rfl, rfl, rfl⟩ := hrel
  go_wp2_with fail
  refine (insertion0 f wr).mono ?_
  rintro e w1 ⟨rfl, rfl⟩
  go_wp2
  first
  | go_end0
  | exact bodyPost_ret (results_none rfl _ _ _) rfl ⟨rfl, rfl⟩
set_option maxRecDepth 100000 in
theorem sort_nil (f : Value) (w : World) : Calls Tryz.prog 98 #[.slice none 0 0, f] w fun e w' => e = .returned (.tuple #[]) ∧ w' = w := by
  go_enter Tryz.func98, Tryz.ntmps98
  go_wp2_with fail
  refine (bits_len0 w).mono ?_
  rintro e w1 ⟨⟨k, rfl⟩, rfl⟩
  go_wp2_with fail
  refine (pdq0 k f w1).mono ?_
  rintro e w1 ⟨rfl, rfl⟩
  go_wp2
  go_end0
  exact ⟨rfl, rfl⟩

set_option maxRecDepth 100000 in
theorem cmp_top : CmpN 67 (fun x => 0 ≤ x.work ∧ x.work ≤ 9223372036854775807) (fun x y => if x.work ≠ y.work then wrap64 (y.work - x.work) else cmpI x.node y.node) := by
  intro x y hx hy w
  go_enter Tryz.func67, Tryz.ntmps67
  simp only [nodeCells]
  by_cases h1 : x.work = y.work
  · go_wp2_with fail
    refine (prof_cmp _ _ _).mono ?_
    rintro e w1 ⟨rfl, rfl⟩
    go_wp2
    go_ret
    exact ⟨by simp [h1], 0, _, by rw [alloc_eq_grow, alloc_eq_grow, grow_grow]; rfl⟩
  · go_wp2
    go_ret
    exact ⟨by simp [h1]; unfold wrap64; omega, 0, _, by rw [alloc_eq_grow, alloc_eq_grow, grow_grow]; rfl⟩
set_option maxRecDepth 100000 in
theorem cmp_diff : CmpN 73 (fun _ => True) (fun x y => cmpI x.node y.node) := by
  intro x y hx hy w
  go_enter Tryz.func73, Tryz.ntmps73
  simp only [nodeCells]
  go_wp2_with fail
  refine (prof_cmp _ _ _).mono ?_
  rintro e w1 ⟨rfl, rfl⟩
  go_wp2
  go_ret
  exact ⟨rfl, 0, _, by rw [alloc_eq_grow, alloc_eq_grow, grow_grow]; rfl⟩
set_option maxRecDepth 100000 in
theorem cmp_nodes : CmpN 52 (fun x => -4611686018427387904 ≤ x.node ∧ x.node ≤ 4611686018427387903) (fun x y => x.node - y.node) := by
  intro x y hx hy w
  go_enter Tryz.func52, Tryz.ntmps52
  simp only [nodeCells]
  go_wp2
  go_ret
  exact ⟨rfl, 0, _, by rw [alloc_eq_grow, alloc_eq_grow, grow_grow]; rfl⟩

theorem cmpI_lt (x y : Int) : cmpI x y < 0 ↔ x < y := by
  unfold cmpI
  by_cases h1 : x < y
  · simp [h1]
  · by_cases h2 : y < x
    · simp [h1, h2]
    · simp [h1, h2]
/-- What comes first of two, by their work. -/
theorem top_lt (x y : NodeC) (hx : 0 ≤ x.work ∧ x.work ≤ 9223372036854775807) (hy : 0 ≤ y.work ∧ y.work ≤ 9223372036854775807) : (if x.work ≠ y.work then wrap64 (y.work - x.work) else cmpI x.node y.node) < 0 ↔ y.work < x.work ∨ (x.work = y.work ∧ x.node < y.node) := by
  by_cases h : x.work = y.work
  · simp [h, cmpI_lt]
  · have e : wrap64 (y.work - x.work) = y.work - x.work := by unfold wrap64; omega
    rw [if_pos h, e]; omega
theorem swo_top : SWO (ltOf fun x y : {x : NodeC // 0 ≤ x.work ∧ x.work ≤ 9223372036854775807} => if x.1.work ≠ y.1.work then wrap64 (y.1.work - x.1.work) else cmpI x.1.node y.1.node) := by
  have e : ∀ x y : {x : NodeC // 0 ≤ x.work ∧ x.work ≤ 9223372036854775807}, ltOf (fun x y : {x : NodeC // 0 ≤ x.work ∧ x.work ≤ 9223372036854775807} => if x.1.work ≠ y.1.work then wrap64 (y.1.work - x.1.work) else cmpI x.1.node y.1.node) x y = decide (y.1.work < x.1.work ∨ (x.1.work = y.1.work ∧ x.1.node < y.1.node)) := fun x y => by
    unfold ltOf
    exact decide_eq_decide.2 (top_lt x.1 y.1 x.2 y.2)
  refine ⟨fun x => ?_, fun x y z h1 h2 => ?_, fun x y z h1 h2 => ?_⟩
  · rw [e]; simp
  · rw [e] at *; simp only [decide_eq_true_eq] at *; omega
  · rw [e] at *; simp only [decide_eq_false_iff_not] at *; omega
theorem swo_diff : SWO (ltOf fun x y : {x : NodeC // True} => cmpI x.1.node y.1.node) := by
  have e : ∀ x y : {x : NodeC // True}, ltOf (fun x y : {x : NodeC // True} => cmpI x.1.node y.1.node) x y = decide (x.1.node < y.1.node) := fun x y => by
    unfold ltOf
    exact decide_eq_decide.2 (cmpI_lt _ _)
  refine ⟨fun x => ?_, fun x y z h1 h2 => ?_, fun x y z h1 h2 => ?_⟩
  · rw [e]; simp
  · rw [e] at *; simp only [decide_eq_true_eq] at *; omega
  · rw [e] at *; simp only [decide_eq_false_iff_not] at *; omega
theorem swo_nodes : SWO (ltOf fun x y : {x : NodeC // -4611686018427387904 ≤ x.node ∧ x.node ≤ 4611686018427387903} => x.1.node - y.1.node) := by
  refine ⟨fun x => ?_, fun x y z h1 h2 => ?_, fun x y z h1 h2 => ?_⟩ <;> unfold ltOf at *
  · simp
  · simp only [decide_eq_true_eq] at *; omega
  · simp only [decide_eq_false_iff_not] at *; omega
end Go.Proofs.YtdkcjeaabbkdeaaGreatDoor
end
section
namespace Go.Proofs.YtdkcjeaabbkdeaaGreatDoor
open Go.RowKit Go.Sort Go.Shelf
set_option linter.unusedVariables false
set_option linter.unusedSimpArgs false

theorem infoNode : (Tryz.prog.info? 73).map (fun i => (i.zero, i.size, i.bytes)) = some (some (.agg #[.int .i64 0, .int .i64 0, .int .i64 0, .int .i64 0]), 4, 32) := by kernel_rfl
def nodeVals (l : List NodeC) : List Value := l.flatMap nodeCells
theorem nodeVals_length (l : List NodeC) : (nodeVals l).length = l.length * 4 := by
  induction l with
  | nil => rfl
  | cons s l ih => simp [nodeVals, nodeCells] at ih ⊢; omega
theorem news_nodes {w : World} {A : Addr} {n c : Nat} {ys : List NodeC} (h : NodesL w (.slice (some A) n c) ys) : ∀ (j : Nat) (u : Value), (nodeVals ys)[j]? = some u → w.cell? (A.add j) = some u := by
  intro j u hj
  obtain ⟨hlt, -⟩ := List.getElem?_eq_some_iff.1 hj
  rw [nodeVals_length] at hlt
  have hk : j / 4 < ys.length := by omega
  have hg := flat4_get nodeCells (fun _ => rfl) ys (j / 4) (j % 4) hk (by omega)
  rw [show j / 4 * 4 + j % 4 = j by omega] at hg
  rw [show nodeVals ys = ys.flatMap nodeCells from rfl, hg] at hj
  obtain ⟨A', c', he, hm, hc⟩ := h
  cases he
  obtain ⟨b, off, cs, hA, hl, hcs, hr⟩ := hc (j / 4) hk
  cases hA
  obtain rfl : cs = nodeCells ys[j / 4] := hr
  have := hcs (j % 4) (by simp [nodeCells]; omega)
  rw [List.getElem?_eq_getElem (by simp [nodeCells]; omega)] at hj
  rw [show (⟨b, off, none⟩ : Addr).add j = ⟨b, off + j / 4 * 4 + j % 4, none⟩ by unfold Addr.add; split <;> (simp_all; try omega)]
  rw [this]; exact hj
theorem nodes_oneCell (ys : List NodeC) : ∀ u ∈ nodeVals ys, u.oneCell' = true := by
  intro u hu
  obtain ⟨y, -, hy⟩ := List.mem_flatMap.1 hu
  simp [nodeCells] at hy
  rcases hy with rfl | rfl | rfl | rfl <;> rfl

set_option maxRecDepth 100000 in
set_option maxHeartbeats 400000 in
theorem prof_clone (l : List NodeC) (A : Addr) (c : Nat) (w : World) (hl : NodesL w (.slice (some A) l.length c) l) (hlen : l.length ≤ 1000000000) : Calls Tryz.prog 69 #[.slice (some A) l.length c] w fun e w' => ∃ v', e = .returned v' ∧ RowKit.Below w.heap.size w w' ∧ w'.ownsRow w.heap.size 73 4 v' l.length (nodeVals l) ∧ ∃ g cap, v' = .slice (some ⟨g, 0, none⟩) l.length cap := by
  obtain ⟨i0, hi, hzz⟩ := Option.map_eq_some_iff.1 infoNode
  simp only [Prod.mk.injEq] at hzz
  obtain ⟨hz0, hz1, hz2⟩ := hzz
  have HL := Lib.hid hl
  have heq : ∀ (A : Addr) (n c : Nat) (W : World), (binOp .eql 29 (.slice (some A) n c) (.slice none 0 0)).run Tryz.prog W = .ok (.bool false) W := fun _ _ _ _ => by kernel_rfl
  clear hl
  have hown : (w.alloc (.cells #[] 73)).ownsRow w.heap.size 73 4 (.slice (some ⟨w.heap.size, 0, none⟩) 0 0) 0 [] := ⟨rfl, .inr ⟨w.heap.size, 0, #[], rfl, Nat.le_refl _, by simpa using World.alloc_heap_new w (.cells #[] 73), Nat.le_refl _, Nat.zero_le _, rfl, rfl⟩⟩
  have hb1 := below1 w (.cells #[] 73)
  have hnews := news_nodes (HL.out.below hb1)
  have HOwn := Lib.hid hown
  have HB1 := Lib.hid hb1
  have HNews := Lib.hid hnews
  clear hown hb1 hnews
  go_enter Tryz.func69, Tryz.ntmps69
  go_wp2_with (at_builtin; refine wpList_append_own _ rfl _ _ 29 rfl w.heap.size 73 i0 _ 4 32 Tryz.underlying29 hi hz0 hz1 hz2 rfl (by omega) _ 0 [] rfl HOwn.out A l.length c (nodeVals l) rfl (nodeVals_length l) HNews.out (nodes_oneCell l) (by unfold maxLen; omega) (by omega) HB1.out.size ?_; intro v' w' ho' hg' hn'; have HO2 := Lib.hid ho'; have HG2 := Lib.hid hg'; have HN2 := Lib.hid hn'; clear ho' hg' hn')
  go_ret
  have ho := HO2.out
  rw [Nat.zero_add, List.nil_append] at ho
  refine ⟨v', rfl, HB1.out.grown HG2.out HB1.out.size (fun k hk => (HOwn.out.lt k hk).1), ho, ?_⟩
  rcases ho.2 with ⟨h1, -⟩ | ⟨g, cap, cur, h1, -⟩
  · have h2 := (HN2.out.1 h1).1
    cases h2
  · exact ⟨g, cap, h1⟩
/-- What Top gives: all that came, the greatest work first. -/
def TopPost (l : List NodeC) (k : Int) (w : World) (e : Ending) (w' : World) : Prop := RowKit.Below w.heap.size w w' ∧ ∃ v err, e = .returned (.tuple #[v, .int .i64 err]) ∧
  if rightB l = false then err = 1 ∧ NodesL w' v [] else if k < 0 then err = 2 ∧ NodesL w' v [] else
    err = 0 ∧ ∃ m : List NodeC, m.Perm l ∧ (∀ i j (h1 : i < j) (h2 : j < m.length), ¬ (m[i].work < m[j].work ∨ (m[j].work = m[i].work ∧ m[j].node < m[i].node))) ∧ NodesL w' v (m.take k.toNat)
set_option maxRecDepth 100000 in
theorem prof_sorted (g : Nat) (A : Option Addr) (n c : Nat) (w : World) (Q : World → Prop) (h : Calls Tryz.prog 98 #[.slice A n c, .func (.func g) #[] #[]] (w.alloc (.cells #[.func (.func g) #[] #[]] 95)) fun e w' => e = .returned (.tuple #[]) ∧ Q w') :
    Calls Tryz.prog 51 #[.agg #[.func (.func g) #[] #[]], .slice A n c] w fun e w' => e = .returned (.slice A n c) ∧ Q w' := by
  have HH := Lib.hid h
  clear h
  go_enter Tryz.func51, Tryz.ntmps51
  go_wp2_with fail
  refine HH.out.mono ?_
  rintro e w1 ⟨rfl, hq⟩
  go_wp2_with fail
  go_ret
  exact ⟨rfl, hq⟩

theorem nodesL_take {w : World} {A : Option Addr} {n c : Nat} {xs : List NodeC} (h : NodesL w (.slice A n c) xs) (j : Nat) (hj : j ≤ xs.length) (c' : Nat) (hc' : j ≤ c') : NodesL w (.slice A j c') (xs.take j) := by
  obtain ⟨A', c0, he, hm, hc⟩ := h
  cases he
  have hl : (xs.take j).length = j := by rw [List.length_take]; omega
  refine ⟨A, c', by rw [hl], by rw [hl]; omega, fun i hi => ?_⟩
  rw [hl] at hi
  obtain ⟨b, off, cs, hA, hlen, hcs, hr⟩ := hc i (by omega)
  exact ⟨b, off, cs, hA, hlen, hcs, by rw [List.getElem_take]; exact hr⟩
theorem enters67 : Enters Tryz.prog 67 := enters_of Tryz.func67 (by kernel_rfl) rfl
theorem nodesL_nil (w : World) (A : Option Addr) (c : Nat) : NodesL w (.slice A 0 c) [] := ⟨A, c, rfl, by simp, fun j hj => absurd hj (by simp)⟩
theorem rightB_pos {l : List NodeC} (h : rightB l = true) : ∀ x ∈ l, 0 ≤ x.work ∧ 0 ≤ x.count ∧ 0 ≤ x.cycles ∧ -1 ≤ x.node := by
  intro x hx
  obtain ⟨i, hi, rfl⟩ := List.getElem_of_mem hx
  unfold rightB at h
  rw [List.all_eq_true] at h
  have := h i (List.mem_range.2 hi)
  unfold rightAt rightC at this
  rw [List.getD_eq_getElem?_getD, List.getElem?_eq_getElem hi] at this
  simp at this
  exact ⟨this.2.2.1, this.2.1, this.2.2.2, this.1.1⟩
/-- The list as one of nodes that are right. -/
def asTop (l : List NodeC) (h : ∀ x ∈ l, 0 ≤ x.work ∧ x.work ≤ 9223372036854775807) : Array {x : NodeC // 0 ≤ x.work ∧ x.work ≤ 9223372036854775807} := (l.attach.map fun x => ⟨x.1, h x.1 x.2⟩).toArray
theorem asTop_size {l : List NodeC} (h) : (asTop l h).size = l.length := by simp [asTop]
theorem asTop_val {l : List NodeC} (h) : (asTop l h).toList.map Subtype.val = l := by simp [asTop]
theorem asTop_vals {l : List NodeC} (h) : (asTop l h).toList.flatMap encN = nodeVals l := by
  have e : ∀ m : List {x : NodeC // 0 ≤ x.work ∧ x.work ≤ 9223372036854775807}, m.flatMap encN = (m.map Subtype.val).flatMap nodeCells := fun m => by rw [List.flatMap_map]; rfl
  rw [e, asTop_val]; rfl
set_option maxRecDepth 100000 in
set_option maxHeartbeats 1000000 in
theorem prof_top (l : List NodeC) (A : Option Addr) (c : Nat) (k : Int) (w : World) (hg : PGlob w) (hl : NodesL w (.slice A l.length c) l) (hnil : A = none → l = [] ∧ c = 0) (hlen : l.length ≤ 1000000000) (hwork : ∀ x ∈ l, x.work ≤ 9223372036854775807) :
    Calls Tryz.prog 23 #[.slice A l.length c, .int .i64 k] w (TopPost l k w) := by
  have HR := Lib.hid (prof_right l (.slice A l.length c) w hg hl)
  have HL := Lib.hid hl
  have HW := Lib.hid hwork
  clear hg hl hwork
  go_enter Tryz.func23, Tryz.ntmps23
  go_wp2_with fail
  refine HR.out.mono ?_
  rintro e w1 ⟨rfl, hb1⟩
  have HB1 := Lib.hid hb1
  clear hb1
  cases hr : rightB l
  case false =>
    go_wp2
    go_ret2
    refine ⟨HB1.out, _, 1, rfl, ?_⟩
    rw [if_pos hr]
    exact ⟨rfl, nodesL_nil _ _ _⟩
  by_cases hk : k < 0
  case pos =>
    go_wp2
    go_ret2
    refine ⟨HB1.out, _, 2, rfl, ?_⟩
    rw [if_neg (by simp [hr]), if_pos hk]
    exact ⟨rfl, nodesL_nil _ _ _⟩
  obtain ⟨K, rfl⟩ : ∃ K : Nat, k = (K : Int) := ⟨k.toNat, by omega⟩
  have hwk : ∀ x ∈ l, 0 ≤ x.work ∧ x.work ≤ 9223372036854775807 := fun x hx => ⟨(rightB_pos hr x hx).1, HW.out x hx⟩
  have HWk := Lib.hid hwk
  clear hwk
  cases A with
  | none =>
    obtain ⟨rfl, rfl⟩ := hnil rfl
    simp only [List.length_nil]
    have heq : ∀ (W : World), (binOp .eql 29 (.slice none 0 0) (.slice none 0 0)).run Tryz.prog W = .ok (.bool true) W := fun _ => by kernel_rfl
    have hcl : Calls Tryz.prog 69 #[.slice none 0 0] w1 fun e w' => e = .returned (.slice none 0 0) ∧ w' = w1 := by
      go_enter Tryz.func69, Tryz.ntmps69
      go_wp2
      go_ret
      exact ⟨rfl, rfl⟩
    have hsrt := prof_sorted 67 none 0 0 w1 (fun w' => RowKit.Below w1.heap.size w1 w') ((sort_nil _ _).mono fun e w' ⟨h1, h2⟩ => ⟨h1, by rw [h2]; exact below1 _ _⟩)
    have HC := Lib.hid hcl
    have HS := Lib.hid hsrt
    clear hcl hsrt hnil heq
    go_wp2_with fail
    refine HC.out.mono ?_
    rintro e w2 ⟨rfl, rfl⟩
    go_wp2_with fail
    refine HS.out.mono ?_
    rintro e w3 ⟨rfl, hb3⟩
    have HB3 := Lib.hid hb3
    clear hb3
    go_wp2_with fail
    go_ret2
    refine ⟨HB1.out.trans (HB3.out.mono HB1.out.size), _, 0, rfl, ?_⟩
    rw [if_neg (by simp [hr]), if_neg (by omega)]
    refine ⟨rfl, [], List.Perm.refl _, fun i j h1 h2 => by simp at h2, ?_⟩
    have h0 : (min (K : Int) 0).toNat = 0 := by omega
    show NodesL w3 (.slice none (min (K : Int) 0).toNat (min (K : Int) 0).toNat) _
    rw [h0]
    simpa using nodesL_nil w3 none 0
  | some A =>
    have hcl := prof_clone l A c w1 (HL.out.below HB1.out) hlen
    have HC := Lib.hid hcl
    clear hcl hnil
    go_wp2_with fail
    refine HC.out.mono ?_
    rintro e w2 ⟨v2, rfl, hb2, hown, g, cap, rfl⟩
    have hd : (asTop l HWk.out).size = l.length := asTop_size _
    have hown2 := hown.alloc (.cells #[.func (.func 67) #[] #[]] 95)
    haveI : Inhabited {x : NodeC // 0 ≤ x.work ∧ x.work ≤ 9223372036854775807} := ⟨⟨⟨0, 0, 0, 0⟩, by simp⟩⟩
    have hs := sort_nodes 67 _ enters67 cmp_top swo_top (asTop l HWk.out) g cap w1.heap.size (w2.alloc (.cells #[.func (.func 67) #[] #[]] 95)) (by rw [hd]; omega) (by rw [hd, asTop_vals]; exact hown2)
    rw [hd, asTop_val] at hs
    have hsrt := prof_sorted 67 (some ⟨g, 0, none⟩) l.length cap w2 _ hs
    have hcap : l.length ≤ cap := by
      rcases hown.2 with ⟨h', _⟩ | ⟨g', cap', cur, h', _, hg, h1, h2, _⟩
      · simp at h'
      · cases h'; exact h1
    have HS := Lib.hid hsrt
    have HB2 := Lib.hid hb2
    clear hs hsrt hown hown2 hb2
    go_wp2_with fail
    refine HS.out.mono ?_
    rintro e w3 ⟨rfl, m, hperm, hsorted, hb3, hm⟩
    have HB3 := Lib.hid hb3
    have HM := Lib.hid hm
    have HP := Lib.hid hperm
    have HO := Lib.hid hsorted
    clear hb3 hm hperm hsorted
    go_wp2_with fail
    go_ret2
    have hml : m.length = l.length := HP.out.length_eq
    refine ⟨(HB1.out.trans (HB2.out.mono HB1.out.size)).trans ((below1 w2 (.cells #[.func (.func 67) #[] #[]] 95)).mono (by have := HB1.out.size; have := HB2.out.size; omega) |>.trans (HB3.out.mono HB1.out.size)), _, 0, rfl, ?_⟩
    rw [if_neg (by simp [hr]), if_neg (by omega)]
    refine ⟨rfl, m, HP.out, fun i j h1 h2 => ?_, ?_⟩
    · have hj := HWk.out m[j] (HP.out.mem_iff.1 (List.getElem_mem h2))
      have hi := HWk.out (m[i]'(by omega)) (HP.out.mem_iff.1 (List.getElem_mem _))
      rw [← top_lt _ _ hj hi]
      exact Int.not_lt.2 (HO.out i j h1 h2)
    · have h0 : (min (K : Int) (l.length : Int)).toNat = min K l.length := by omega
      show NodesL w3 (.slice (some ⟨g, 0, none⟩) (min (K : Int) (l.length : Int)).toNat (min (K : Int) (l.length : Int)).toNat) _
      rw [h0, Int.toNat_natCast]
      have := nodesL_take HM.out (min K l.length) (by omega) (min K l.length) (Nat.le_refl _)
      rw [← hml] at this ⊢
      have e : m.take (min K m.length) = m.take K := by rw [List.take_eq_take_iff]; omega
      rwa [e] at this
end Go.Proofs.YtdkcjeaabbkdeaaGreatDoor
end
