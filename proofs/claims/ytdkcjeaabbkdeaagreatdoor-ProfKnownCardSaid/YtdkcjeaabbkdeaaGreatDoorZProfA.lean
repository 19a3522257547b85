/- Package prof: costs of nodes; which lists are right; what comes first. Package prof: does a difference say anything? The law's own small functions. Package prof: sums. Package prof: the iterator over steps. Package prof: is a number in a list; which list comes first. Package prof: which list comes first. -/
import Derived.Test.YtdkcjeaabbkdeaaGreatDoorZBase
import Derived.Test.YtdkcjeaabbkdeaaGreatDoorZMaker
import Derived.Test.YtdkcjeaabbkdeaaGreatDoorZSet
set_option linter.unusedVariables false
set_option linter.unusedSimpArgs false
set_option linter.unnecessarySimpa false
set_option linter.unusedSectionVars false
section
namespace Go.Proofs.YtdkcjeaabbkdeaaGreatDoor
open Go.RowKit
set_option linter.unusedVariables false
set_option linter.unusedSimpArgs false

/-- The costs of a node. -/
structure NodeC where
  node : Int
  count : Int
  work : Int
  cycles : Int
deriving DecidableEq
def nodeCells (x : NodeC) : List Value := [.int .i64 x.node, .int .i64 x.count, .int .i64 x.work, .int .i64 x.cycles]
def RNode (_ : World) (cs : List Value) (x : NodeC) : Prop := cs = nodeCells x
theorem stays_node : Stays RNode := fun _ _ _ _ _ h => h
abbrev NodesL := Sl 4 RNode
theorem NodesL.reads {w w1 : World} {v : Value} {xs : List NodeC} (h : NodesL w v xs) (hb : Reads w w1) : NodesL w1 v xs := Sl.reads stays_node h hb
theorem NodesL.below {w w1 : World} {v : Value} {xs : List NodeC} (h : NodesL w v xs) (hb : Below w.heap.size w w1) : NodesL w1 v xs := Sl.below stays_node h hb
theorem NodesL.form {w : World} {v : Value} {xs : List NodeC} (h : NodesL w v xs) : ∃ A c, v = .slice A xs.length c ∧ (xs.length ≤ 9223372036854775807 ∧ xs.length ≤ c) := by
  obtain ⟨A, c, rfl, hm, _⟩ := h; exact ⟨A, c, rfl, hm⟩
theorem NodesL.at_ {w : World} {A : Option Addr} {n c : Nat} {xs : List NodeC} (h : NodesL w (.slice A n c) xs) (j : Nat) (hj : j < xs.length) : ∃ b off, A = some ⟨b, off, none⟩ ∧ w.cell? ⟨b, off + j * 4, none⟩ = some (.int .i64 xs[j].node) ∧ w.cell? ⟨b, off + j * 4 + 1, none⟩ = some (.int .i64 xs[j].count) ∧ w.cell? ⟨b, off + j * 4 + 2, none⟩ = some (.int .i64 xs[j].work) ∧ w.cell? ⟨b, off + j * 4 + 3, none⟩ = some (.int .i64 xs[j].cycles) := by
  obtain ⟨A', c', he, hm, hc⟩ := h
  cases he
  obtain ⟨b, off, cs, hA, hl, hcs, hr⟩ := hc j hj
  obtain rfl : cs = nodeCells xs[j] := hr
  exact ⟨b, off, hA, by simpa [nodeCells] using hcs 0 (by simp [nodeCells]), by simpa [nodeCells] using hcs 1 (by simp [nodeCells]), by simpa [nodeCells] using hcs 2 (by simp [nodeCells]), by simpa [nodeCells] using hcs 3 (by simp [nodeCells])⟩

/-- The package's own table. -/
structure PGlob (w : World) : Prop where
  f0 : w.cell? ⟨1, 0, none⟩ = some (.func (.func 325) #[] #[])
  f1 : w.cell? ⟨1, 1, none⟩ = some (.func (.func 336) #[] #[])
  f2 : w.cell? ⟨1, 2, none⟩ = some (.func (.func 337) #[] #[])
theorem PGlob.reads {w w1 : World} (h : PGlob w) (hb : Reads w w1) : PGlob w1 := ⟨hb _ _ h.f0, hb _ _ h.f1, hb _ _ h.f2⟩
theorem PGlob.below {w w1 : World} (h : PGlob w) (hb : Below w.heap.size w w1) : PGlob w1 := h.reads (reads_below hb)

def sumL (l : List Int) : Int := l.foldl (fun n x => wrap64 (n + x)) 0
/-- Which of two numbers comes first. -/
def cmpI (x y : Int) : Int := if x < y then -1 else if y < x then 1 else 0
set_option maxRecDepth 100000 in
theorem prof_cmp (x y : Int) (w : World) : Calls Tryz.prog 68 #[.int .i64 x, .int .i64 y] w fun e w' => e = .returned (.int .i64 (cmpI x y)) ∧ w' = w := by
  go_enter Tryz.func68, Tryz.ntmps68
  unfold cmpI
  by_cases h1 : x < y
  · go_wp2
    go_ret
    simp [h1]
  · by_cases h2 : y < x
    · go_wp2
      go_ret
      simp [h1, h2]
    · go_wp2
      go_ret
      simp [h1, h2]
set_option maxRecDepth 100000 in
theorem prof_topcmp (x y : NodeC) (w : World) : Calls Tryz.prog 67 #[.agg (nodeCells x).toArray, .agg (nodeCells y).toArray] w (Gives w (.int .i64 (if x.work ≠ y.work then wrap64 (y.work - x.work) else cmpI x.node y.node))) := by
  go_enter Tryz.func67, Tryz.ntmps67
  simp only [nodeCells]
  by_cases h1 : x.work = y.work
  · go_wp2_with fail
    refine (prof_cmp _ _ _).mono ?_
    rintro e w1 ⟨rfl, rfl⟩
    go_wp2
    go_ret
    exact ⟨by simp [h1], below2 _ _ _⟩
  · go_wp2
    go_ret
    exact ⟨by simp [h1], below2 _ _ _⟩
set_option maxRecDepth 100000 in
theorem prof_diffcmp (x y : NodeC) (w : World) : Calls Tryz.prog 73 #[.agg (nodeCells x).toArray, .agg (nodeCells y).toArray] w (Gives w (.int .i64 (cmpI x.node y.node))) := by
  go_enter Tryz.func73, Tryz.ntmps73
  simp only [nodeCells]
  go_wp2_with fail
  refine (prof_cmp _ _ _).mono ?_
  rintro e w1 ⟨rfl, rfl⟩
  go_wp2
  go_ret
  exact ⟨rfl, below2 _ _ _⟩
set_option maxRecDepth 100000 in
theorem prof_nodecmp (x y : NodeC) (w : World) : Calls Tryz.prog 52 #[.agg (nodeCells x).toArray, .agg (nodeCells y).toArray] w (Gives w (.int .i64 (wrap64 (x.node - y.node)))) := by
  go_enter Tryz.func52, Tryz.ntmps52
  simp only [nodeCells]
  go_wp2
  go_ret
  exact ⟨rfl, below2 _ _ _⟩
/-- What of costs is compared. -/
def fieldOf (k : Nat) (x : NodeC) : Int := if k = 0 then x.count else if k = 1 then x.work else x.cycles
def fieldFn (k : Nat) : Nat := if k = 0 then 325 else if k = 1 then 336 else 337
set_option maxRecDepth 100000 in
theorem prof_count (x : NodeC) (w : World) : Calls Tryz.prog 325 #[.agg (nodeCells x).toArray] w (Gives w (.int .i64 x.count)) := by
  go_enter Tryz.func325, Tryz.ntmps325
  simp only [nodeCells]
  go_wp2
  go_ret
  exact ⟨rfl, below1 _ _⟩
set_option maxRecDepth 100000 in
theorem prof_work (x : NodeC) (w : World) : Calls Tryz.prog 336 #[.agg (nodeCells x).toArray] w (Gives w (.int .i64 x.work)) := by
  go_enter Tryz.func336, Tryz.ntmps336
  simp only [nodeCells]
  go_wp2
  go_ret
  exact ⟨rfl, below1 _ _⟩
set_option maxRecDepth 100000 in
theorem prof_cycles (x : NodeC) (w : World) : Calls Tryz.prog 337 #[.agg (nodeCells x).toArray] w (Gives w (.int .i64 x.cycles)) := by
  go_enter Tryz.func337, Tryz.ntmps337
  simp only [nodeCells]
  go_wp2
  go_ret
  exact ⟨rfl, below1 _ _⟩
theorem enters325 : Enters Tryz.prog 325 := enters_of Tryz.func325 (by kernel_rfl) rfl
theorem enters336 : Enters Tryz.prog 336 := enters_of Tryz.func336 (by kernel_rfl) rfl
theorem enters337 : Enters Tryz.prog 337 := enters_of Tryz.func337 (by kernel_rfl) rfl

/-- Is an entry of a list right? -/
def rightC (i : Nat) (x : NodeC) (z : Int) : Bool := !(decide (x.node < -1) || (decide (0 < i) && decide (x.node ≤ z))) && (decide (0 ≤ x.count) && (decide (0 ≤ x.work) && decide (0 ≤ x.cycles)))
def rightAt (l : List NodeC) (i : Nat) : Bool := rightC i (l.getD i ⟨0, 0, 0, 0⟩) (l.getD (i - 1) ⟨0, 0, 0, 0⟩).node
def rightB (l : List NodeC) : Bool := (List.range l.length).all (rightAt l)
theorem rightB_no {l : List NodeC} {k : Nat} (hk : k < l.length) (h : rightAt l k = false) : rightB l = false := by
  unfold rightB; rw [List.all_eq_false]; exact ⟨k, List.mem_range.2 hk, by simp [h]⟩
theorem rightB_yes {l : List NodeC} (h : ∀ j, j < l.length → rightAt l j = true) : rightB l = true := by
  unfold rightB; rw [List.all_eq_true]; exact fun j hj => h j (List.mem_range.1 hj)

theorem fields_at0 : ∀ W, (Instr.index 121 (.agg #[.func (.func 325) #[] #[], .func (.func 336) #[] #[], .func (.func 337) #[] #[]]) (.int .i64 0)).run Tryz.prog W = .ok (.func (.func 325) #[] #[]) W := fun _ => by kernel_rfl
theorem fields_at1 : ∀ W, (Instr.index 121 (.agg #[.func (.func 325) #[] #[], .func (.func 336) #[] #[], .func (.func 337) #[] #[]]) (.int .i64 1)).run Tryz.prog W = .ok (.func (.func 336) #[] #[]) W := fun _ => by kernel_rfl
theorem fields_at2 : ∀ W, (Instr.index 121 (.agg #[.func (.func 325) #[] #[], .func (.func 336) #[] #[], .func (.func 337) #[] #[]]) (.int .i64 2)).run Tryz.prog W = .ok (.func (.func 337) #[] #[]) W := fun _ => by kernel_rfl
set_option maxRecDepth 100000 in
set_option maxHeartbeats 1000000 in
theorem prof_right (l : List NodeC) (v : Value) (w : World) (hg : PGlob w) (hl : NodesL w v l) : Calls Tryz.prog 66 #[v] w (Gives w (.bool (rightB l))) := by
  obtain ⟨A, ac, rfl, hm, -⟩ := hl.form
  have HL := Lib.hid hl
  have HG := Lib.hid hg
  have ix0 := fields_at0
  have ix1 := fields_at1
  have ix2 := fields_at2
  clear hl hg
  go_enter Tryz.func66, Tryz.ntmps66
  go_wp2_with fail
  go_loopw [3, 6, 9] (fun _ _ i wr => Below w.heap.size w wr ∧ ∃ k : Nat, k ≤ l.length ∧ i = .int .i64 k ∧ ∀ j, j < k → rightAt l j = true) (fun _ _ i _ => l.length - (intOf i).toNat)
  case atStart => exact ⟨Below.refl _ _, 0, Nat.zero_le _, rfl, fun j h => absurd h (by omega)⟩
  case round =>
    obtain ⟨hb, k, hk, rfl, hall⟩ := hrel
    have HB := Lib.hid hb
    have HAll := Lib.hid hall
    clear hb hall
    by_cases hlt : k < l.length
    · obtain ⟨b, off, rfl, c0, c1, c2, c3⟩ := (HL.out.below HB.out).at_ k hlt
      have hpre : ∀ (h : 0 < k), wr.cell? ⟨b, off + (k - 1) * 4, none⟩ = some (.int .i64 (l[k - 1]'(by omega)).node) := fun h => by
        obtain ⟨b', off', e, d0, -⟩ := (HL.out.below HB.out).at_ (k - 1) (by omega)
        cases e; exact d0
      have hkd : l.getD k ⟨0, 0, 0, 0⟩ = l[k] := by rw [List.getD_eq_getElem?_getD, List.getElem?_eq_getElem hlt]; rfl
      have hpd : ∀ (h : 0 < k), l.getD (k - 1) ⟨0, 0, 0, 0⟩ = l[k - 1]'(by omega) := fun h => by rw [List.getD_eq_getElem?_getD, List.getElem?_eq_getElem (by omega)]; rfl
      have HK := Lib.hid hkd
      have HPD := Lib.hid hpd
      have HPre := Lib.hid hpre
      have hg1 := HG.out.below HB.out
      obtain ⟨f0, f1, f2⟩ := hg1
      generalize hx : l[k] = x at *
      have hbx := below1 wr (.cells #[.int .i64 x.node, .int .i64 x.count, .int .i64 x.work, .int .i64 x.cycles] 73)
      have hq := Lib.hid (alloc_new wr (.cells #[.int .i64 x.node, .int .i64 x.count, .int .i64 x.work, .int .i64 x.cycles] 73))
      have HBx := Lib.hid hbx
      have HBW := Lib.hid (below_step HB.out hbx)
      have HF := Lib.hid (And.intro (cell_keep hbx f0) (And.intro (cell_keep hbx f1) (cell_keep hbx f2)))
      clear hkd hpd hpre hx f0 f1 f2
      go_wp2_with fail
      clear c0 c1 c2 c3
      have hpre2 : Hid (∀ (h : 0 < k), (wr.alloc (.cells #[.int .i64 x.node, .int .i64 x.count, .int .i64 x.work, .int .i64 x.cycles] 73)).cell? ⟨b, off + (k - 1) * 4, none⟩ = some (.int .i64 (l[k - 1]'(by omega)).node)) := fun h => cell_alloc (HPre.out h) _
      generalize wr.alloc (.cells #[.int .i64 x.node, .int .i64 x.count, .int .i64 x.work, .int .i64 x.cycles] 73) = wx at *
      generalize hqb : wr.heap.size = q at *
      have q0 := (block_cell hq.out 0 (by simp)).1
      have q1 := (block_cell hq.out 1 (by simp)).1
      have q2 := (block_cell hq.out 2 (by simp)).1
      have q3 := (block_cell hq.out 3 (by simp)).1
      simp only [List.getElem_toArray, List.getElem_cons_zero, List.getElem_cons_succ] at q0 q1 q2 q3
      by_cases hn : x.node < -1
      case pos =>
        have hV : rightB l = false := rightB_no hlt (by unfold rightAt rightC; rw [HK.out]; simp [hn])
        go_quiet (fail)
        go_wp2
        go_ret
        try rw [hV]
        exact ⟨rfl, below_into HBW.out HBW.out.size (below_drewN _ _)⟩
      obtain ⟨f0, f1, f2⟩ := HF.out
      by_cases hk0 : k = 0
      case pos =>
        subst hk0
        go_quiet (fail)
        have hsz := HBW.out.size
        clear q0 q1 q2 q3
        go_wp2_with fail
        go_loopw [6, 33] (fun _ i w3 => Below wx.heap.size wx w3 ∧ ∃ m : Nat, m ≤ 3 ∧ i = .int .i64 m ∧ ∀ j, j < m → 0 ≤ fieldOf j x) (fun _ i _ => 3 - (intOf i).toNat)
        case atStart => exact ⟨below_drewN _ _, 0, by omega, rfl, fun j h => absurd h (by omega)⟩
        case round =>
          obtain ⟨hb3, m, hm3, rfl, hall⟩ := hrel
          have HB3 := Lib.hid hb3
          have HAll3 := Lib.hid hall
          have h3 := heap_keep hb3 hq.out
          have q0 := (block_cell h3 0 (by simp)).1
          have q1 := (block_cell h3 1 (by simp)).1
          have q2 := (block_cell h3 2 (by simp)).1
          have q3 := (block_cell h3 3 (by simp)).1
          simp only [List.getElem_toArray, List.getElem_cons_zero, List.getElem_cons_succ] at q0 q1 q2 q3
          clear hb3 hall h3
          by_cases hm0 : m < 3
          · have hcases : m = 0 ∨ m = 1 ∨ m = 2 := by omega
            rcases hcases with rfl | rfl | rfl
            · by_cases hc : x.count < 0
              · have hV : rightB l = false := rightB_no hlt (by
                  unfold rightAt rightC; rw [HK.out]
                  have : ¬ 0 ≤ x.count := by omega
                  simp [this])
                go_wp2_with fail
                refine (prof_count x _).mono ?_
                rintro e w4 ⟨rfl, hb4⟩
                go_wp2
                go_ret
                try rw [hV]
                exact ⟨rfl, below_into HBW.out hsz (below_into HB3.out HB3.out.size hb4)⟩
              · go_wp2_with fail
                refine (prof_count x _).mono ?_
                rintro e w4 ⟨rfl, hb4⟩
                go_wp2_with fail
                go_roundw
                case rel => exact ⟨below_into HB3.out HB3.out.size hb4, 1, by omega, by go_num, fun j hj => by
                  have : fieldOf 0 x = x.count := rfl
                  by_cases e : j = 0
                  · subst e; rw [this]; omega
                  · exact HAll3.out j (by omega)⟩
                case measure => simp [intOf]
            · by_cases hc : x.work < 0
              · have hV : rightB l = false := rightB_no hlt (by
                  unfold rightAt rightC; rw [HK.out]
                  have : ¬ 0 ≤ x.work := by omega
                  simp [this])
                go_wp2_with fail
                refine (prof_work x _).mono ?_
                rintro e w4 ⟨rfl, hb4⟩
                go_wp2
                go_ret
                try rw [hV]
                exact ⟨rfl, below_into HBW.out hsz (below_into HB3.out HB3.out.size hb4)⟩
              · go_wp2_with fail
                refine (prof_work x _).mono ?_
                rintro e w4 ⟨rfl, hb4⟩
                go_wp2_with fail
                go_roundw
                case rel => exact ⟨below_into HB3.out HB3.out.size hb4, 2, by omega, by go_num, fun j hj => by
                  have : fieldOf 1 x = x.work := rfl
                  by_cases e : j = 1
                  · subst e; rw [this]; omega
                  · exact HAll3.out j (by omega)⟩
                case measure => simp [intOf]
            · by_cases hc : x.cycles < 0
              · have hV : rightB l = false := rightB_no hlt (by
                  unfold rightAt rightC; rw [HK.out]
                  have : ¬ 0 ≤ x.cycles := by omega
                  simp [this])
                go_wp2_with fail
                refine (prof_cycles x _).mono ?_
                rintro e w4 ⟨rfl, hb4⟩
                go_wp2
                go_ret
                try rw [hV]
                exact ⟨rfl, below_into HBW.out hsz (below_into HB3.out HB3.out.size hb4)⟩
              · go_wp2_with fail
                refine (prof_cycles x _).mono ?_
                rintro e w4 ⟨rfl, hb4⟩
                go_wp2_with fail
                go_roundw
                case rel => exact ⟨below_into HB3.out HB3.out.size hb4, 3, by omega, by go_num, fun j hj => by
                  have : fieldOf 2 x = x.cycles := rfl
                  by_cases e : j = 2
                  · subst e; rw [this]; omega
                  · exact HAll3.out j (by omega)⟩
                case measure => simp [intOf]
          · have h3m : m = 3 := by omega
            subst h3m
            have g0 := HAll3.out 0 (by omega)
            have g1 := HAll3.out 1 (by omega)
            have g2 := HAll3.out 2 (by omega)
            change 0 ≤ x.count at g0
            change 0 ≤ x.work at g1
            change 0 ≤ x.cycles at g2
            have hAt : rightAt l 0 = true := by
              unfold rightAt rightC; rw [HK.out]
              simp [hn, g0, g1, g2]
            go_wp2_with fail
            go_roundw
            case rel => exact ⟨below_into HBW.out hsz HB3.out, 1, hlt, by go_num, fun j hj => by
              by_cases e : j = 0
              · subst e; exact hAt
              · exact HAll.out j (by omega)⟩
            case measure => simp [intOf]; omega
      case neg =>
        have hk1 : 0 < k := by omega
        have hkz : (0 : Int) < (k : Int) := by omega
        have hd := hpre2.out hk1
        generalize hpz : (l[k - 1]'(by omega)).node = z at *
        by_cases hz : x.node ≤ z
        case pos =>
          have hV : rightB l = false := rightB_no hlt (by unfold rightAt rightC; rw [HK.out, HPD.out hk1, hpz]; simp [hz, hk1])
          go_quiet (fail)
          go_wp2
          go_ret
          try rw [hV]
          exact ⟨rfl, below_into HBW.out HBW.out.size (below_drewN _ _)⟩
        case neg =>
          go_quiet (fail)
          have hsz := HBW.out.size
          clear q0 q1 q2 q3
          go_wp2_with fail
          go_loopw [6, 33] (fun _ i w3 => Below wx.heap.size wx w3 ∧ ∃ m : Nat, m ≤ 3 ∧ i = .int .i64 m ∧ ∀ j, j < m → 0 ≤ fieldOf j x) (fun _ i _ => 3 - (intOf i).toNat)
          case atStart => exact ⟨below_drewN _ _, 0, by omega, rfl, fun j h => absurd h (by omega)⟩
          case round =>
            obtain ⟨hb3, m, hm3, rfl, hall⟩ := hrel
            have HB3 := Lib.hid hb3
            have HAll3 := Lib.hid hall
            have h3 := heap_keep hb3 hq.out
            have q0 := (block_cell h3 0 (by simp)).1
            have q1 := (block_cell h3 1 (by simp)).1
            have q2 := (block_cell h3 2 (by simp)).1
            have q3 := (block_cell h3 3 (by simp)).1
            simp only [List.getElem_toArray, List.getElem_cons_zero, List.getElem_cons_succ] at q0 q1 q2 q3
            clear hb3 hall h3
            by_cases hm0 : m < 3
            · have hcases : m = 0 ∨ m = 1 ∨ m = 2 := by omega
              rcases hcases with rfl | rfl | rfl
              · by_cases hc : x.count < 0
                · have hV : rightB l = false := rightB_no hlt (by
                    unfold rightAt rightC; rw [HK.out]
                    have : ¬ 0 ≤ x.count := by omega
                    simp [this])
                  go_wp2_with fail
                  refine (prof_count x _).mono ?_
                  rintro e w4 ⟨rfl, hb4⟩
                  go_wp2
                  go_ret
                  try rw [hV]
                  exact ⟨rfl, below_into HBW.out hsz (below_into HB3.out HB3.out.size hb4)⟩
                · go_wp2_with fail
                  refine (prof_count x _).mono ?_
                  rintro e w4 ⟨rfl, hb4⟩
                  go_wp2_with fail
                  go_roundw
                  case rel => exact ⟨below_into HB3.out HB3.out.size hb4, 1, by omega, by go_num, fun j hj => by
                    have : fieldOf 0 x = x.count := rfl
                    by_cases e : j = 0
                    · subst e; rw [this]; omega
                    · exact HAll3.out j (by omega)⟩
                  case measure => simp [intOf]
              · by_cases hc : x.work < 0
                · have hV : rightB l = false := rightB_no hlt (by
                    unfold rightAt rightC; rw [HK.out]
                    have : ¬ 0 ≤ x.work := by omega
                    simp [this])
                  go_wp2_with fail
                  refine (prof_work x _).mono ?_
                  rintro e w4 ⟨rfl, hb4⟩
                  go_wp2
                  go_ret
                  try rw [hV]
                  exact ⟨rfl, below_into HBW.out hsz (below_into HB3.out HB3.out.size hb4)⟩
                · go_wp2_with fail
                  refine (prof_work x _).mono ?_
                  rintro e w4 ⟨rfl, hb4⟩
                  go_wp2_with fail
                  go_roundw
                  case rel => exact ⟨below_into HB3.out HB3.out.size hb4, 2, by omega, by go_num, fun j hj => by
                    have : fieldOf 1 x = x.work := rfl
                    by_cases e : j = 1
                    · subst e; rw [this]; omega
                    · exact HAll3.out j (by omega)⟩
                  case measure => simp [intOf]
              · by_cases hc : x.cycles < 0
                · have hV : rightB l = false := rightB_no hlt (by
                    unfold rightAt rightC; rw [HK.out]
                    have : ¬ 0 ≤ x.cycles := by omega
                    simp [this])
                  go_wp2_with fail
                  refine (prof_cycles x _).mono ?_
                  rintro e w4 ⟨rfl, hb4⟩
                  go_wp2
                  go_ret
                  try rw [hV]
                  exact ⟨rfl, below_into HBW.out hsz (below_into HB3.out HB3.out.size hb4)⟩
                · go_wp2_with fail
                  refine (prof_cycles x _).mono ?_
                  rintro e w4 ⟨rfl, hb4⟩
                  go_wp2_with fail
                  go_roundw
                  case rel => exact ⟨below_into HB3.out HB3.out.size hb4, 3, by omega, by go_num, fun j hj => by
                    have : fieldOf 2 x = x.cycles := rfl
                    by_cases e : j = 2
                    · subst e; rw [this]; omega
                    · exact HAll3.out j (by omega)⟩
                  case measure => simp [intOf]
            · have h3m : m = 3 := by omega
              subst h3m
              have g0 := HAll3.out 0 (by omega)
              have g1 := HAll3.out 1 (by omega)
              have g2 := HAll3.out 2 (by omega)
              change 0 ≤ x.count at g0
              change 0 ≤ x.work at g1
              change 0 ≤ x.cycles at g2
              have hAt : rightAt l k = true := by
                unfold rightAt rightC; rw [HK.out, HPD.out hk1, hpz]
                simp [hn, g0, g1, g2]
                omega
              go_wp2_with fail
              go_roundw
              case rel => exact ⟨below_into HBW.out hsz HB3.out, k + 1, hlt, by go_num, fun j hj => by
                by_cases e : j = k
                · subst e; exact hAt
                · exact HAll.out j (by omega)⟩
              case measure => simp [intOf]; omega
    · obtain rfl : k = l.length := by omega
      have hV : rightB l = true := rightB_yes HAll.out
      go_wp2
      go_ret
      try rw [hV]
      exact ⟨rfl, HB.out⟩
end Go.Proofs.YtdkcjeaabbkdeaaGreatDoor
end
section
namespace Go.Proofs.YtdkcjeaabbkdeaaGreatDoor
open Go.RowKit
set_option linter.unusedVariables false
set_option linter.unusedSimpArgs false

theorem enters72 : Enters Tryz.prog 72 := enters_of Tryz.func72 (by kernel_rfl) rfl
theorem prof_field (k : Nat) (hk : k < 3) (x : NodeC) (w : World) : Calls Tryz.prog (fieldFn k) #[.agg (nodeCells x).toArray] w (Gives w (.int .i64 (fieldOf k x))) := by
  have : k = 0 ∨ k = 1 ∨ k = 2 := by omega
  rcases this with rfl | rfl | rfl
  · exact prof_count x w
  · exact prof_work x w
  · exact prof_cycles x w
theorem enters_field (k : Nat) (hk : k < 3) : Enters Tryz.prog (fieldFn k) := by
  have : k = 0 ∨ k = 1 ∨ k = 2 := by omega
  rcases this with rfl | rfl | rfl
  · exact enters325
  · exact enters336
  · exact enters337
set_option maxRecDepth 100000 in
theorem prof_isNonzero (k : Nat) (hk : k < 3) (x : NodeC) (q t : Nat) (w : World) (hq : w.heap[q]? = some (.cells (nodeCells x).toArray t)) : Calls Tryz.prog 72 #[.func (.func (fieldFn k)) #[] #[], .pointer (some ⟨q, 0, none⟩)] w (Gives w (.bool (fieldOf k x != 0))) := by
  have q0 := (block_cell hq 0 (by simp [nodeCells])).1
  have q1 := (block_cell hq 1 (by simp [nodeCells])).1
  have q2 := (block_cell hq 2 (by simp [nodeCells])).1
  have q3 := (block_cell hq 3 (by simp [nodeCells])).1
  simp only [nodeCells, List.getElem_toArray, List.getElem_cons_zero, List.getElem_cons_succ] at q0 q1 q2 q3
  clear hq
  have hk3 : k = 0 ∨ k = 1 ∨ k = 2 := by omega
  rcases hk3 with rfl | rfl | rfl
  · have HF := Lib.hid (prof_count x w)
    have hz : Hid ((x.count != 0) = (x.count != 0)) := rfl
    change Calls Tryz.prog 72 #[.func (.func 325) #[] #[], .pointer (some ⟨q, 0, none⟩)] w (Gives w (.bool (x.count != 0)))
    simp only [nodeCells] at HF
    go_enter Tryz.func72, Tryz.ntmps72
    go_wp2_with fail
    refine HF.out.mono ?_
    rintro e w1 ⟨rfl, hb⟩
    go_wp2_with fail
    go_ret
    exact ⟨rfl, hb⟩
  · have HF := Lib.hid (prof_work x w)
    have hz : Hid ((x.work != 0) = (x.work != 0)) := rfl
    change Calls Tryz.prog 72 #[.func (.func 336) #[] #[], .pointer (some ⟨q, 0, none⟩)] w (Gives w (.bool (x.work != 0)))
    simp only [nodeCells] at HF
    go_enter Tryz.func72, Tryz.ntmps72
    go_wp2_with fail
    refine HF.out.mono ?_
    rintro e w1 ⟨rfl, hb⟩
    go_wp2_with fail
    go_ret
    exact ⟨rfl, hb⟩
  · have HF := Lib.hid (prof_cycles x w)
    have hz : Hid ((x.cycles != 0) = (x.cycles != 0)) := rfl
    change Calls Tryz.prog 72 #[.func (.func 337) #[] #[], .pointer (some ⟨q, 0, none⟩)] w (Gives w (.bool (x.cycles != 0)))
    simp only [nodeCells] at HF
    go_enter Tryz.func72, Tryz.ntmps72
    go_wp2_with fail
    refine HF.out.mono ?_
    rintro e w1 ⟨rfl, hb⟩
    go_wp2_with fail
    go_ret
    exact ⟨rfl, hb⟩
def nonzero (x : NodeC) : Bool := x.count != 0 || (x.work != 0 || x.cycles != 0)
set_option maxRecDepth 100000 in
set_option maxHeartbeats 1000000 in
theorem prof_nonzeroAt (x : NodeC) (q t : Nat) (w : World) (hg : PGlob w) (hq : w.heap[q]? = some (.cells (nodeCells x).toArray t)) : Calls Tryz.prog 110 #[.slice (some ⟨1, 0, none⟩) 3 3, .func (.func 72) #[] #[.pointer (some ⟨q, 0, none⟩)]] w fun e w' => ∃ k : Int, e = .returned (.int .i64 k) ∧ (decide (0 ≤ k)) = nonzero x ∧ Below w.heap.size w w' := by
  have HC := Lib.hid (fun (W : World) (hb : Below w.heap.size w W) (k : Nat) (hk : k < 3) => prof_isNonzero k hk x q t W (heap_keep hb hq))
  have HG := Lib.hid hg
  have he := enters72
  clear hg hq
  go_enter Tryz.func110, Tryz.ntmps110
  go_wp2_with fail
  go_loopw [5, 8] (fun _ i wr => Below w.heap.size w wr ∧ ∃ m : Nat, m ≤ 3 ∧ i = .int .i64 m ∧ ∀ j, j < m → fieldOf j x = 0) (fun _ i _ => 3 - (intOf i).toNat)
  case atStart => exact ⟨Below.refl _ _, 0, by omega, rfl, fun j h => absurd h (by omega)⟩
  case round =>
    obtain ⟨hb, m, hm, rfl, hall⟩ := hrel
    have HB := Lib.hid hb
    have HAll := Lib.hid hall
    obtain ⟨f0, f1, f2⟩ := HG.out.below hb
    clear hb hall
    by_cases hm3 : m < 3
    · have hc : wr.cell? ⟨1, 0 + m, none⟩ = some (.func (.func (fieldFn m)) #[] #[]) := by
        have : m = 0 ∨ m = 1 ∨ m = 2 := by omega
        rcases this with rfl | rfl | rfl
        · exact f0
        · exact f1
        · exact f2
      simp only [Nat.zero_add] at hc
      have HCm := Lib.hid (HC.out wr HB.out m hm3)
      clear f0 f1 f2
      go_wp2_with fail
      refine HCm.out.mono ?_
      rintro e w2 ⟨rfl, hb2⟩
      have hnz : fieldOf m x ≠ 0 → nonzero x = true := fun h => by
        have : m = 0 ∨ m = 1 ∨ m = 2 := by omega
        unfold nonzero
        rcases this with rfl | rfl | rfl <;> (simp [fieldOf] at h; simp [h])
      by_cases hf : fieldOf m x = 0
      · have hf' : (fieldOf m x != 0) = false := by simp [hf]
        simp only [hf']
        go_wp2_with fail
        go_roundw
        case rel => exact ⟨below_step HB.out hb2, m + 1, hm3, by go_num, fun j hj => by
          by_cases e : j = m
          · subst e; exact hf
          · exact HAll.out j (by omega)⟩
        case measure => simp [intOf]; omega
      · have hf' : (fieldOf m x != 0) = true := by simp [hf]
        simp only [hf']
        go_wp2_with fail
        go_ret
        exact ⟨m, rfl, by rw [hnz hf]; simp, below_step HB.out hb2⟩
    · have h3 : m = 3 := by omega
      subst h3
      have g0 : x.count = 0 := HAll.out 0 (by omega)
      have g1 : x.work = 0 := HAll.out 1 (by omega)
      have g2 : x.cycles = 0 := HAll.out 2 (by omega)
      clear f0 f1 f2
      go_wp2_with fail
      go_ret
      exact ⟨-1, rfl, by unfold nonzero; simp [g0, g1, g2], HB.out⟩
set_option maxRecDepth 100000 in
theorem prof_nonzero (x : NodeC) (q t : Nat) (w : World) (hg : PGlob w) (hq : w.heap[q]? = some (.cells (nodeCells x).toArray t)) : Calls Tryz.prog 71 #[.slice (some ⟨1, 0, none⟩) 3 3, .func (.func 72) #[] #[.pointer (some ⟨q, 0, none⟩)]] w (Gives w (.bool (nonzero x))) := by
  have HC := Lib.hid (prof_nonzeroAt x q t w hg hq)
  clear hg hq
  go_enter Tryz.func71, Tryz.ntmps71
  go_wp2_with fail
  refine HC.out.mono ?_
  rintro e w1 ⟨k, rfl, hk, hb⟩
  go_wp2_with fail
  go_ret
  exact ⟨by rw [← hk]; rfl, hb⟩
end Go.Proofs.YtdkcjeaabbkdeaaGreatDoor
end
section
namespace Go.Proofs.YtdkcjeaabbkdeaaGreatDoor
open Go.RowKit
set_option maxRecDepth 100000 in
theorem law_node (a b c d : Int) (w : World) : Calls Tryz.prog 42 #[.int .i64 a, .int .i64 b, .int .i64 c, .int .i64 d] w (Gives w (.agg (nodeCells ⟨a, b, c, d⟩).toArray)) := by
  go_enter Tryz.func42, Tryz.ntmps42
  go_wp2
  refine bodyPost_ret (v := .agg #[.int .i64 a, .int .i64 b, .int .i64 c, .int .i64 d]) ?_ rfl ⟨rfl, below1 _ _⟩
  simp [results, Tryz.results42, go_sem]
set_option maxRecDepth 100000 in
theorem law_differ (x y : NodeC) (w : World) : Calls Tryz.prog 43 #[.agg (nodeCells x).toArray, .agg (nodeCells y).toArray] w (Gives w (.agg (nodeCells ⟨x.node, wrap64 (y.count - x.count), wrap64 (y.work - x.work), wrap64 (y.cycles - x.cycles)⟩).toArray)) := by
  have HN := Lib.hid (fun W => law_node x.node (wrap64 (y.count - x.count)) (wrap64 (y.work - x.work)) (wrap64 (y.cycles - x.cycles)) W)
  simp only [nodeCells] at HN ⊢
  generalize hA : wrap64 (y.count - x.count) = A at *
  generalize hB : wrap64 (y.work - x.work) = B at *
  generalize hC : wrap64 (y.cycles - x.cycles) = C at *
  go_enter Tryz.func43, Tryz.ntmps43
  go_wp2_with fail
  refine (HN.out _).mono ?_
  rintro e w1 ⟨rfl, hb⟩
  have hn := heap_keep hb (alloc_new ((w.alloc (.cells #[.int .i64 x.node, .int .i64 x.count, .int .i64 x.work, .int .i64 x.cycles] 73)).alloc (.cells #[.int .i64 y.node, .int .i64 y.count, .int .i64 y.work, .int .i64 y.cycles] 73)) (.cells #[.int .i64 0, .int .i64 0, .int .i64 0, .int .i64 0] 73))
  have HB := Lib.hid (RowKit.Below.trans (below3 w _ _ _) (hb.mono (below3 w _ _ _).size))
  rw [show ((w.alloc (.cells #[.int .i64 x.node, .int .i64 x.count, .int .i64 x.work, .int .i64 x.cycles] 73)).alloc (.cells #[.int .i64 y.node, .int .i64 y.count, .int .i64 y.work, .int .i64 y.cycles] 73)).heap.size = w.heap.size + 1 + 1 by simp] at hn
  obtain ⟨n0, m0⟩ := block_cell hn 0 (by simp)
  obtain ⟨n1, m1⟩ := block_cell hn 1 (by simp)
  obtain ⟨n2, m2⟩ := block_cell hn 2 (by simp)
  obtain ⟨n3, m3⟩ := block_cell hn 3 (by simp)
  simp only [List.getElem_toArray, List.getElem_cons_zero, List.getElem_cons_succ] at n0 n1 n2 n3
  clear hb hn
  go_wp2
  refine bodyPost_ret (v := .agg #[.int .i64 x.node, .int .i64 A, .int .i64 B, .int .i64 C]) ?_ rfl ⟨rfl, ?_⟩
  · simp [results, Tryz.results43, go_sem, n0, n1, n2, n3]
  · exact (((HB.out.setCell (p := ⟨w.heap.size + 1 + 1, 0, none⟩) (by simp; omega) _).setCell (p := ⟨w.heap.size + 1 + 1, 1, none⟩) (by simp; omega) _).setCell (p := ⟨w.heap.size + 1 + 1, 2, none⟩) (by simp; omega) _).setCell (p := ⟨w.heap.size + 1 + 1, 3, none⟩) (by simp; omega) _
/-- What a list has for a node. -/
def ofN (l : List NodeC) (at_ : Int) : NodeC := (l.find? fun x => x.node == at_).getD ⟨at_, 0, 0, 0⟩
theorem ofN_yes {l : List NodeC} {at_ : Int} {k : Nat} (hk : k < l.length) (h : l[k].node = at_) (hn : ∀ j (hj : j < l.length), j < k → l[j].node ≠ at_) : ofN l at_ = l[k] := by
  unfold ofN
  have : l.find? (fun x => x.node == at_) = some l[k] := by
    rw [List.find?_eq_some_iff_getElem]
    refine ⟨by simp [h], k, hk, rfl, fun j hj => ?_⟩
    have := hn j (by omega) hj
    simp [this]
  rw [this]; rfl
theorem ofN_no {l : List NodeC} {at_ : Int} (hn : ∀ j (hj : j < l.length), l[j].node ≠ at_) : ofN l at_ = ⟨at_, 0, 0, 0⟩ := by
  unfold ofN
  have : l.find? (fun x => x.node == at_) = none := by
    rw [List.find?_eq_none]
    intro x hx
    obtain ⟨j, hj, rfl⟩ := List.getElem_of_mem hx
    simp [hn j hj]
  rw [this]; rfl
set_option maxRecDepth 100000 in
set_option maxHeartbeats 400000 in
theorem law_of (l : List NodeC) (at_ : Int) (v : Value) (w : World) (hl : NodesL w v l) : Calls Tryz.prog 44 #[v, .int .i64 at_] w (Gives w (.agg (nodeCells (ofN l at_)).toArray)) := by
  obtain ⟨A, ac, rfl, hm, -⟩ := hl.form
  have hb1 := below1 w (.cells #[.int .i64 0, .int .i64 0, .int .i64 0, .int .i64 0] 73)
  have hq := alloc_new w (.cells #[.int .i64 0, .int .i64 0, .int .i64 0, .int .i64 0] 73)
  have HL := Lib.hid (hl.below hb1)
  have HB1 := Lib.hid hb1
  have HQ := Lib.hid hq
  have HN := Lib.hid (fun W => law_node at_ 0 0 0 W)
  clear hl hb1 hq
  go_enter Tryz.func44, Tryz.ntmps44
  go_wp2_with fail
  generalize w.alloc (.cells #[.int .i64 0, .int .i64 0, .int .i64 0, .int .i64 0] 73) = w1 at *
  go_loopw [5] (fun i wr => wr = w1 ∧ ∃ k : Nat, k ≤ l.length ∧ i = .int .i64 k ∧ ∀ j (hj : j < l.length), j < k → l[j].node ≠ at_) (fun i _ => l.length - (intOf i).toNat)
  case atStart => exact ⟨rfl, 0, Nat.zero_le _, rfl, fun j _ h => absurd h (by omega)⟩
  case round =>
    obtain ⟨rfl, k, hk, rfl, hall⟩ := hrel
    have HAll := Lib.hid hall
    clear hall
    obtain ⟨n0, m0⟩ := block_cell HQ.out 0 (by simp)
    obtain ⟨n1, m1⟩ := block_cell HQ.out 1 (by simp)
    obtain ⟨n2, m2⟩ := block_cell HQ.out 2 (by simp)
    obtain ⟨n3, m3⟩ := block_cell HQ.out 3 (by simp)
    simp only [List.getElem_toArray, List.getElem_cons_zero, List.getElem_cons_succ] at n0 n1 n2 n3
    by_cases hlt : k < l.length
    · obtain ⟨b, off, rfl, c0, c1, c2, c3⟩ := HL.out.at_ k hlt
      by_cases hx : l[k].node = at_
      · have hV := ofN_yes hlt hx HAll.out
        have HV := Lib.hid hV
        clear hV
        generalize l[k] = x at *
        go_wp2
        rw [HV.out]
        refine bodyPost_ret (v := .agg #[.int .i64 at_, .int .i64 x.count, .int .i64 x.work, .int .i64 x.cycles]) ?_ rfl ⟨by simp [nodeCells, hx], ?_⟩
        · simp [results, Tryz.results44, go_sem, n0, n1, n2, n3]
        · exact (((HB1.out.setCell (p := ⟨w.heap.size, 0, none⟩) (Nat.le_refl _) _).setCell (p := ⟨w.heap.size, 1, none⟩) (Nat.le_refl _) _).setCell (p := ⟨w.heap.size, 2, none⟩) (Nat.le_refl _) _).setCell (p := ⟨w.heap.size, 3, none⟩) (Nat.le_refl _) _
      · go_wp2_with fail
        go_roundw
        case rel =>
          refine ⟨trivial, k + 1, hlt, by go_num, fun j h1 h2 => ?_⟩
          by_cases e : j = k
          · subst e; exact hx
          · exact HAll.out j h1 (by omega)
        case measure => simp [intOf]; omega
    · have hV := Lib.hid (ofN_no (l := l) (at_ := at_) fun j hj => HAll.out j hj (by omega))
      clear n0 n1 n2 n3 m0 m1 m2 m3
      go_wp2_with fail
      refine (HN.out wr).mono ?_
      rintro e w2 ⟨rfl, hb2⟩
      have hq2 := heap_keep hb2 HQ.out
      have HB2 := Lib.hid (HB1.out.trans (hb2.mono HB1.out.size))
      obtain ⟨n0, m0⟩ := block_cell hq2 0 (by simp)
      obtain ⟨n1, m1⟩ := block_cell hq2 1 (by simp)
      obtain ⟨n2, m2⟩ := block_cell hq2 2 (by simp)
      obtain ⟨n3, m3⟩ := block_cell hq2 3 (by simp)
      simp only [List.getElem_toArray, List.getElem_cons_zero, List.getElem_cons_succ] at n0 n1 n2 n3
      clear hb2 hq2
      simp only [nodeCells]
      go_wp2
      rw [hV.out]
      refine bodyPost_ret (v := .agg #[.int .i64 at_, .int .i64 0, .int .i64 0, .int .i64 0]) ?_ rfl ⟨rfl, ?_⟩
      · simp [results, Tryz.results44, go_sem, n0, n1, n2, n3]
      · exact (((HB2.out.setCell (p := ⟨w.heap.size, 0, none⟩) (Nat.le_refl _) _).setCell (p := ⟨w.heap.size, 1, none⟩) (Nat.le_refl _) _).setCell (p := ⟨w.heap.size, 2, none⟩) (Nat.le_refl _) _).setCell (p := ⟨w.heap.size, 3, none⟩) (Nat.le_refl _) _
end Go.Proofs.YtdkcjeaabbkdeaaGreatDoor
end
section
namespace Go.Proofs.YtdkcjeaabbkdeaaGreatDoor
open Go.RowKit
set_option linter.unusedVariables false
set_option linter.unusedSimpArgs false
theorem sumL_snoc (l : List Int) (x : Int) : sumL (l ++ [x]) = wrap64 (sumL l + x) := by simp [sumL]
set_option maxRecDepth 100000 in
set_option maxHeartbeats 400000 in
theorem prof_sum (l : List Int) (v : Value) (w : World) (hl : Ints w v l) (hlen : l.length ≤ 1000000000) : Calls Tryz.prog 50 #[v] w fun e w' => e = .returned (.int .i64 (sumL l)) ∧ w' = w := by
  obtain ⟨A, c, rfl, hm⟩ := hl.form
  have HL := Lib.hid hl
  clear hl
  go_enter Tryz.func50, Tryz.ntmps50
  go_wp2_with fail
  go_loopw [3, 5, 8] (fun s _ i wr => wr = w ∧ ∃ k : Nat, k ≤ l.length ∧ i = .int .i64 k ∧ s = .int .i64 (sumL (l.take k))) (fun _ _ i _ => l.length - (intOf i).toNat)
  case atStart => exact ⟨rfl, 0, Nat.zero_le _, rfl, rfl⟩
  case round =>
    obtain ⟨rfl, k, hk, rfl, rfl⟩ := hrel
    by_cases hlt : k < l.length
    · obtain ⟨b, off, rfl, hc⟩ := HL.out.at_ k hlt
      have hs : sumL (l.take (k + 1)) = wrap64 (sumL (l.take k) + l[k]) := by rw [List.take_succ_eq_append_getElem hlt, sumL_snoc]
      have HS := Lib.hid hs
      clear hs
      generalize sumL (l.take k) = s at *
      go_wp2_with fail
      go_roundw
      case rel =>
        refine ⟨trivial, k + 1, hlt, by go_num, ?_⟩
        rw [HS.out]
      case measure => simp [intOf]; omega
    · have e : k = l.length := by omega
      subst e
      rw [List.take_length]
      go_wp2_with fail
      go_ret
      exact ⟨rfl, rfl⟩
end Go.Proofs.YtdkcjeaabbkdeaaGreatDoor
end
section
namespace Go.Proofs.YtdkcjeaabbkdeaaGreatDoor
open Go.RowKit
set_option linter.unusedVariables false
set_option linter.unusedSimpArgs false
set_option maxRecDepth 100000 in
theorem prof_steps (A : Option Addr) (n c : Nat) (w : World) : Calls Tryz.prog 57 #[.slice A n c] w fun e w' => e = .returned (.func (.func 101) #[] #[.pointer (some ⟨w.heap.size, 0, none⟩)]) ∧ w' = w.alloc (.cells #[.slice A n c] 53) := by
  go_enter Tryz.func57, Tryz.ntmps57
  go_wp2
  go_ret
  exact ⟨rfl, rfl⟩
theorem enters101 : Enters Tryz.prog 101 := enters_of Tryz.func101 (by kernel_rfl) rfl
end Go.Proofs.YtdkcjeaabbkdeaaGreatDoor
end
section
namespace Go.Proofs.YtdkcjeaabbkdeaaGreatDoor
open Go.RowKit
set_option linter.unusedVariables false
set_option linter.unusedSimpArgs false
set_option maxRecDepth 100000 in
set_option maxHeartbeats 400000 in
theorem prof_index (l : List Int) (x : Int) (v : Value) (w : World) (hl : Ints w v l) : Calls Tryz.prog 102 #[v, .int .i64 x] w fun e w' => ∃ k : Int, e = .returned (.int .i64 k) ∧ decide (0 ≤ k) = l.contains x ∧ w' = w := by
  obtain ⟨A, c, rfl, hm⟩ := hl.form
  have HL := Lib.hid hl
  clear hl
  go_enter Tryz.func102, Tryz.ntmps102
  go_wp2_with fail
  go_loopw [5, 8] (fun _ i wr => wr = w ∧ ∃ k : Nat, k ≤ l.length ∧ i = .int .i64 k ∧ ∀ j (h : j < l.length), j < k → x ≠ l[j]) (fun _ i _ => l.length - (intOf i).toNat)
  case atStart => exact ⟨rfl, 0, Nat.zero_le _, rfl, fun j _ h => absurd h (by omega)⟩
  case round =>
    obtain ⟨rfl, k, hk, rfl, hall⟩ := hrel
    have HAll := Lib.hid hall
    clear hall
    by_cases hlt : k < l.length
    · obtain ⟨b, off, rfl, hc⟩ := HL.out.at_ k hlt
      by_cases hx : x = l[k]
      · have hV : Hid (l.contains x = true) := by unfold Hid; rw [List.contains_iff_mem, hx]; exact List.getElem_mem hlt
        go_wp2_with fail
        go_ret
        exact ⟨k, rfl, by rw [hV.out]; simp, rfl⟩
      · go_wp2_with fail
        go_roundw
        case rel =>
          refine ⟨trivial, k + 1, hlt, by go_num, fun j h1 h2 => ?_⟩
          by_cases e : j = k
          · subst e; exact hx
          · exact HAll.out j h1 (by omega)
        case measure => simp [intOf]; omega
    · have hV : Hid (l.contains x = false) := by
        unfold Hid
        rw [Bool.eq_false_iff]
        intro h
        rw [List.contains_iff_mem] at h
        obtain ⟨j, hj, he⟩ := List.getElem_of_mem h
        exact HAll.out j hj (by omega) he.symm
      go_wp2_with fail
      go_ret
      exact ⟨-1, rfl, by rw [hV.out]; rfl, rfl⟩
set_option maxRecDepth 100000 in
theorem prof_contains (l : List Int) (x : Int) (v : Value) (w : World) (hl : Ints w v l) : Calls Tryz.prog 58 #[v, .int .i64 x] w fun e w' => e = .returned (.bool (l.contains x)) ∧ w' = w := by
  have HC := Lib.hid (prof_index l x v w hl)
  obtain ⟨A, c, rfl, hm⟩ := hl.form
  clear hl
  go_enter Tryz.func58, Tryz.ntmps58
  go_wp2_with fail
  refine HC.out.mono ?_
  rintro e w1 ⟨k, rfl, hk, rfl⟩
  go_wp2_with fail
  go_ret
  exact ⟨ret_bool (by simp), rfl⟩
end Go.Proofs.YtdkcjeaabbkdeaaGreatDoor
end
section
namespace Go.Proofs.YtdkcjeaabbkdeaaGreatDoor
open Go.RowKit
set_option linter.unusedVariables false
set_option linter.unusedSimpArgs false
/-- Which of two lists comes first. -/
def cmpL : List Int → List Int → Int
  | [], [] => 0
  | [], _ :: _ => -1
  | _ :: _, [] => 1
  | x :: xs, y :: ys => if cmpI x y ≠ 0 then cmpI x y else cmpL xs ys
theorem cmpL_three : ∀ x y : List Int, cmpL x y = -1 ∨ cmpL x y = 0 ∨ cmpL x y = 1 := by
  intro x
  induction x with
  | nil => intro y; cases y <;> simp [cmpL]
  | cons a x ih =>
    intro y
    cases y with
    | nil => simp [cmpL]
    | cons b y =>
      rw [cmpL]
      by_cases h : cmpI a b ≠ 0
      · rw [if_pos h]; unfold cmpI; split
        · left; rfl
        · split
          · right; right; rfl
          · right; left; rfl
      · rw [if_neg h]; exact ih y
set_option maxRecDepth 100000 in
set_option maxHeartbeats 800000 in
theorem prof_compareL (a b : List Int) (va vb : Value) (w : World) (ha : Ints w va a) (hb : Ints w vb b) : Calls Tryz.prog 108 #[va, vb] w fun e w' => e = .returned (.int .i64 (cmpL a b)) ∧ w' = w := by
  obtain ⟨A, ca, rfl, hma⟩ := ha.form
  obtain ⟨B, cb, rfl, hmb⟩ := hb.form
  have HA := Lib.hid ha
  have HB := Lib.hid hb
  clear ha hb
  go_enter Tryz.func108, Tryz.ntmps108
  go_wp2_with fail
  go_loopw [5, 6, 7, 8, 11] (fun _ _ _ _ i wr => wr = w ∧ ∃ k : Nat, k ≤ a.length ∧ k ≤ b.length ∧ i = .int .i64 k ∧ cmpL a b = cmpL (a.drop k) (b.drop k)) (fun _ _ _ _ i _ => a.length - (intOf i).toNat)
  case atStart => exact ⟨rfl, 0, Nat.zero_le _, Nat.zero_le _, rfl, rfl⟩
  case round =>
    obtain ⟨rfl, k, hk, hk2, rfl, heq⟩ := hrel
    have HE := Lib.hid heq
    clear heq
    by_cases hlt : k < a.length
    · obtain ⟨ba, oa, rfl, c1⟩ := HA.out.at_ k hlt
      by_cases hlt2 : k < b.length
      · obtain ⟨bb, ob, rfl, c2⟩ := HB.out.at_ k hlt2
        have hst : cmpL a b = if cmpI a[k] b[k] ≠ 0 then cmpI a[k] b[k] else cmpL (a.drop (k + 1)) (b.drop (k + 1)) := by
          rw [HE.out, List.drop_eq_getElem_cons hlt, List.drop_eq_getElem_cons hlt2, cmpL]
        have HS := Lib.hid hst
        clear hst
        have HC := Lib.hid (prof_cmp a[k] b[k] wr)
        generalize hz : cmpI a[k] b[k] = z at *
        clear hz
        go_wp2_with fail
        refine HC.out.mono ?_
        rintro e w1 ⟨rfl, rfl⟩
        by_cases h0 : z = 0
        · subst h0
          go_wp2_with fail
          go_roundw
          case rel =>
            refine ⟨trivial, k + 1, hlt, hlt2, by go_num, ?_⟩
            rw [HS.out]; simp
          case measure => simp [intOf]; omega
        · go_wp2_with fail
          go_ret
          have hv : Hid (cmpL a b = z) := by unfold Hid; rw [HS.out, if_pos h0]
          rw [hv.out]
          exact ⟨rfl, rfl⟩
      · have hkb : k = b.length := by omega
        have hv : Hid (cmpL a b = 1) := by
          unfold Hid
          rw [HE.out, List.drop_eq_getElem_cons hlt, List.drop_eq_nil_of_le (by omega : b.length ≤ k), cmpL]
        clear hk2
        subst hkb
        go_wp2_with fail
        go_ret
        rw [hv.out]
        exact ⟨rfl, rfl⟩
    · have hka : k = a.length := by omega
      by_cases hl : a.length < b.length
      · have hv : Hid (cmpL a b = -1) := by
          unfold Hid
          rw [HE.out, hka, List.drop_length, List.drop_eq_getElem_cons hl, cmpL]
        subst hka
        go_wp2_with fail
        go_ret
        rw [hv.out]
        exact ⟨rfl, rfl⟩
      · have hkb : a.length = b.length := by omega
        have hv : Hid (cmpL a b = 0) := by
          unfold Hid
          rw [HE.out, hka, List.drop_length, hkb, List.drop_length, cmpL]
        subst hka
        go_wp2_with fail
        go_ret
        rw [hv.out]
        exact ⟨rfl, rfl⟩
end Go.Proofs.YtdkcjeaabbkdeaaGreatDoor
end
