/- Package vec: the iterator over a function's code. Package vec: what a call of a function asks, and what it leaves. Package vec: the steps of a run, as plain functions. -/
import Derived.Test.YtdkcjeaabbkdeaaGreatDoorZCheck
import Derived.Test.YtdkcjeaabbkdeaaGreatDoorZRngY
import Derived.Sort.QuietIn
import Derived.Sort.CutIn
import Derived.Deep.OwnRows
set_option linter.unusedVariables false
set_option linter.unusedSimpArgs false
set_option linter.unnecessarySimpa false
set_option linter.unusedSectionVars false
section
namespace Go.Proofs.YtdkcjeaabbkdeaaGreatDoor
open Go.RowKit Go.Shelf
set_option linter.unusedVariables false
set_option linter.unusedSimpArgs false
attribute [local go_sem] Oper.semAt_some

theorem enters153 : Enters Tryz.prog 153 := enters_of Tryz.func153 (by kernel_rfl) rfl
set_option maxRecDepth 100000 in
theorem vec_code (R : Nat) (fn deep : Int) (w : World) : Calls Tryz.prog 124 #[.pointer (some ⟨R, 0, none⟩), .int .i64 fn, .int .i64 deep] w fun e w' => e = .returned (.func (.func 153) #[] #[.pointer (some ⟨w.heap.size, 0, none⟩), .pointer (some ⟨w.heap.size + 1, 0, none⟩), .pointer (some ⟨w.heap.size + 1 + 1, 0, none⟩)]) ∧
    w' = ((w.alloc (.cells #[.pointer (some ⟨R, 0, none⟩)] 137)).alloc (.cells #[.int .i64 fn] 3)).alloc (.cells #[.int .i64 deep] 3) := by
  go_enter Tryz.func124, Tryz.ntmps124
  go_wp2
  go_ret
  exact ⟨rfl, rfl⟩

/-- The rows of code, as cells. -/
theorem code_rows {w : World} {A : Option Addr} {n c : Nat} {code : List Ins} (h : Sl 5 RIns w (.slice A n c) code) : ∃ cs : Nat → List Value, ∀ k (hk : k < code.length), ∃ b off T tc F fc B bc, A = some ⟨b, off, none⟩ ∧
    cs k = [.int .i64 code[k].op, .int .i64 code[k].n, .slice T code[k].to.length tc, .slice F code[k].from_.length fc, .slice B code[k].body.length bc] ∧
    w.cell? ⟨b, off + k * 5, none⟩ = some (.int .i64 code[k].op) ∧ w.cell? ⟨b, off + k * 5 + 1, none⟩ = some (.int .i64 code[k].n) ∧ w.cell? ⟨b, off + k * 5 + 2, none⟩ = some (.slice T code[k].to.length tc) ∧ w.cell? ⟨b, off + k * 5 + 3, none⟩ = some (.slice F code[k].from_.length fc) ∧ w.cell? ⟨b, off + k * 5 + 4, none⟩ = some (.slice B code[k].body.length bc) ∧
    Ints w (.slice T code[k].to.length tc) code[k].to ∧ Ints w (.slice F code[k].from_.length fc) code[k].from_ := by
  have hrow : ∀ k, ∃ cs : List Value, ∀ (hk : k < code.length), ∃ b off T tc F fc B bc, A = some ⟨b, off, none⟩ ∧
    cs = [.int .i64 code[k].op, .int .i64 code[k].n, .slice T code[k].to.length tc, .slice F code[k].from_.length fc, .slice B code[k].body.length bc] ∧
    w.cell? ⟨b, off + k * 5, none⟩ = some (.int .i64 code[k].op) ∧ w.cell? ⟨b, off + k * 5 + 1, none⟩ = some (.int .i64 code[k].n) ∧ w.cell? ⟨b, off + k * 5 + 2, none⟩ = some (.slice T code[k].to.length tc) ∧ w.cell? ⟨b, off + k * 5 + 3, none⟩ = some (.slice F code[k].from_.length fc) ∧ w.cell? ⟨b, off + k * 5 + 4, none⟩ = some (.slice B code[k].body.length bc) ∧
    Ints w (.slice T code[k].to.length tc) code[k].to ∧ Ints w (.slice F code[k].from_.length fc) code[k].from_ := by
    intro k
    by_cases hk : k < code.length
    · obtain ⟨b, off, vt, vf, vb, hA, e0, e1, e2, e3, e4, ht, hf, hb⟩ := ins_at h k hk
      obtain ⟨B, bc, rfl, -⟩ := Sl.form hb
      obtain ⟨T, tc, rfl, -⟩ := ht.form
      obtain ⟨F, fc, rfl, -⟩ := hf.form
      exact ⟨[.int .i64 code[k].op, .int .i64 code[k].n, .slice T code[k].to.length tc, .slice F code[k].from_.length fc, .slice B code[k].body.length bc], fun _ => ⟨b, off, T, tc, F, fc, B, bc, hA, rfl, e0, e1, e2, e3, e4, ht, hf⟩⟩
    · exact ⟨[], fun h => absurd h hk⟩
  exact ⟨fun k => (hrow k).choose, fun k => (hrow k).choose_spec⟩

/-- No book of a loop is written by a turn of the run. -/
theorem books_turn {c : Cfg} {E : Int → Int → Option (List Int)} {n : Nat} {st : St} {now : Step} {w w' : World} (h : RunAt c E n st now w) (hT : Turn c.R c.M w w') : Books w w' := fun k o hk ho => by
  refine (hT.block k (Array.getElem?_eq_some_iff.1 hk).1 ?_).trans hk
  obtain ⟨vs, h1, h2⟩ := h.cells
  obtain ⟨M, h3, -⟩ := h.regs
  obtain ⟨es, cl, h4⟩ := h3.heap
  rintro (e | e | e)
  · subst e; rw [h1] at hk; cases hk; cases ho
  · subst e; rw [h4] at hk; cases hk; cases ho
  · rw [stepsBlock_eq h1] at e
    rcases h2.2 with ⟨rfl, -⟩ | ⟨g, cap, cur, rfl, -, hh, -⟩
    · cases e
    · simp only [Value.ownBlock, Option.some.injEq] at e
      subst e
      rw [hh] at hk; cases hk; cases ho

set_option maxRecDepth 100000 in
set_option maxHeartbeats 1600000 in
theorem code_iter (l : Nat) (c : Cfg) (w0 : World) (q0 q1 q2 : Nat) (fn : Nat) (deep : Int) (code : List Ins) (fb foff cc : Nat) (C : Option Addr) (cs : Nat → List Value)
    (hS : c.S = some ⟨fb, foff, none⟩) (hfn : fn < c.fl) (hcap : c.fl ≤ 9223372036854775807) (hcl : (pub c.R c.M w0).cell? ⟨fb, foff + fn * 4 + 1, none⟩ = some (.slice C code.length cc)) (hcm : code.length ≤ 9223372036854775807)
    (hrows : ∀ k (hk : k < code.length), ∃ b off T tc F fc B bc, C = some ⟨b, off, none⟩ ∧
      cs k = [.int .i64 code[k].op, .int .i64 code[k].n, .slice T code[k].to.length tc, .slice F code[k].from_.length fc, .slice B code[k].body.length bc] ∧
      (pub c.R c.M w0).cell? ⟨b, off + k * 5, none⟩ = some (.int .i64 code[k].op) ∧ (pub c.R c.M w0).cell? ⟨b, off + k * 5 + 1, none⟩ = some (.int .i64 code[k].n) ∧ (pub c.R c.M w0).cell? ⟨b, off + k * 5 + 2, none⟩ = some (.slice T code[k].to.length tc) ∧ (pub c.R c.M w0).cell? ⟨b, off + k * 5 + 3, none⟩ = some (.slice F code[k].from_.length fc) ∧ (pub c.R c.M w0).cell? ⟨b, off + k * 5 + 4, none⟩ = some (.slice B code[k].body.length bc) ∧
      Ints (pub c.R c.M w0) (.slice T code[k].to.length tc) code[k].to ∧ Ints (pub c.R c.M w0) (.slice F code[k].from_.length fc) code[k].from_)
    (J JY : Nat → World → Prop) (Jx : World → Prop) (Jp : List PanicEntry → World → Prop)
    (hJ : ∀ i W, J i W → (∃ E n st now, RunAt c E n st now W) ∧ Turn c.R c.M w0 W ∧ W.cell? ⟨q0, 0, none⟩ = some (.pointer (some ⟨c.R, 0, none⟩)) ∧ W.cell? ⟨q1, 0, none⟩ = some (.int .i64 fn) ∧ W.cell? ⟨q2, 0, none⟩ = some (.int .i64 deep))
    (hJB : ∀ i W W', J i W → Below W.heap.size W W' → J i W')
    (hstep : ∀ i W W', i < code.length → J i W → Turn c.R c.M W W' → (∀ E n st now, RunAt c E n st now W → RunAt c E n st ⟨deep, fn, i, 0⟩ W') → JY i W')
    (hY : ∀ i W (hi : i < code.length), JY i W → YieldAt Fence.wide 5 Tryz.prog l #[.agg (cs i).toArray] W fun e W' => (e = .returned (.bool true) ∧ J (i + 1) W') ∨ (e = .returned (.bool false) ∧ Jx W') ∨ ∃ c, e = .panicked c ∧ Jp c W')
    (W1 : World) (h0 : J 0 W1) :
    Calls Tryz.prog 153 #[.func (.yield l) #[] #[], .pointer (some ⟨q0, 0, none⟩), .pointer (some ⟨q1, 0, none⟩), .pointer (some ⟨q2, 0, none⟩)] W1 fun e W' => ((∃ v, e = .returned v) ∧ (J code.length W' ∨ Jx W')) ∨ ∃ c, e = .panicked c ∧ Jp c W' := by
  have HY := Lib.hid hY; clear hY
  have HJ := Lib.hid hJ; clear hJ
  have H0 := Lib.hid h0
  have HSt := Lib.hid hstep; clear hstep
  have HRows := Lib.hid hrows; clear hrows
  obtain ⟨⟨E, n, st, now, hrun⟩, hT, c0, c1, c2⟩ := HJ.out _ _ h0
  obtain ⟨vs, hR, -⟩ := hrun.cells
  have r0 := (block_cell hR 0 (by simp [runCells])).1
  simp only [runCells, List.getElem_toArray, List.getElem_cons_zero, hS] at r0
  have hcl1 := (hide_some (hT.reads _ _ hcl)).2
  have hf0 : (0 : Int) ≤ (fn : Int) := by omega
  have hf1 : (fn : Int) < (c.fl : Int) := by omega
  clear h0 hrun hT hR hcl
  refine (callsIn_wide (n := 6)).1 (callsIn_of_wp Tryz.func153 rfl trivial ?_)
  simp only [Tryz.ntmps153, List.size_toArray, List.length_cons, List.length_nil, Nat.reduceAdd, Nat.reduceSub, Array.replicate_succ, Array.replicate_zero, List.push_toArray, List.append_toArray, List.nil_append, List.cons_append]
  gi_wp2
  gi_quiet (fail)
  gi_wp2
  have H1 : Hid (J 0 (W1.drewN nq)) := hJB _ _ _ H0.out (below_drewN _ _)
  have HJB := Lib.hid hJB
  clear hJB r0 hcl1 c0 c1 c2 H0
  gi_loopw [5, 17] (fun _ i wr => ∃ k : Nat, k ≤ code.length ∧ i = .int .i64 k ∧ J k wr) (fun _ i _ => code.length - (intOf i).toNat)
  case atStart => exact ⟨0, Nat.zero_le _, rfl, H1.out⟩
  case round =>
    obtain ⟨k, hk, rfl, hj⟩ := hrel
    have HJk := Lib.hid hj
    by_cases hlt : k < code.length
    · obtain ⟨⟨E, n, st, now, hrun⟩, hT, c0, c1, c2⟩ := HJ.out _ _ hj
      obtain ⟨b, off, T, tc, F, fc, B, bc, rfl, hcs, e0, e1, e2, e3, e4, -, -⟩ := HRows.out k hlt
      obtain ⟨hs0, e0⟩ := hide_some (hT.reads _ _ e0)
      obtain ⟨-, e1⟩ := hide_some (hT.reads _ _ e1)
      obtain ⟨-, e2⟩ := hide_some (hT.reads _ _ e2)
      obtain ⟨-, e3⟩ := hide_some (hT.reads _ _ e3)
      obtain ⟨-, e4⟩ := hide_some (hT.reads _ _ e4)
      have HYk := Lib.hid (HY.out k)
      rw [hcs] at HYk
      have HRun := Lib.hid hrun
      obtain ⟨vs, hR, -⟩ := hrun.cells
      clear hj hrun hT
      have hRlt := (Array.getElem?_eq_some_iff.1 hR).1
      have HR := Lib.hid hR
      have hne2 : wr.heap.size ≠ c.R := by omega
      have HC := Lib.hid (And.intro c0 (And.intro c1 c2))
      have hT0 := Lib.hid (Turn.of_below (M := c.M) hRlt (below1 wr (.cells #[.int .i64 code[k].op, .int .i64 code[k].n, .slice T code[k].to.length tc, .slice F code[k].from_.length fc, .slice B code[k].body.length bc] 63)))
      have hb1 := Lib.hid (below1 wr (.cells #[.int .i64 code[k].op, .int .i64 code[k].n, .slice T code[k].to.length tc, .slice F code[k].from_.length fc, .slice B code[k].body.length bc] 63))
      have hX := Lib.hid (alloc_new wr (.cells #[.int .i64 code[k].op, .int .i64 code[k].n, .slice T code[k].to.length tc, .slice F code[k].from_.length fc, .slice B code[k].body.length bc] 63))
      clear hR c0 c1 c2
      gi_upto_region 3 with (fail)
      clear e0 e1 e2 e3 e4
      generalize hW2 : wr.alloc (.cells #[.int .i64 code[k].op, .int .i64 code[k].n, .slice T code[k].to.length tc, .slice F code[k].from_.length fc, .slice B code[k].body.length bc] 63) = W2 at *
      generalize hbx : wr.heap.size = bx at *
      clear hW2
      obtain ⟨c0, c1, c2⟩ := HC.out
      replace c0 := cell_keep (w := wr) (by rw [hbx]; exact hb1.out) c0
      replace c1 := cell_keep (w := wr) (by rw [hbx]; exact hb1.out) c1
      replace c2 := cell_keep (w := wr) (by rw [hbx]; exact hb1.out) c2
      have hR := heap_keep (w := wr) (by rw [hbx]; exact hb1.out) HR.out
      have r6 := block_cell hR 6 (by simp [runCells])
      have r7 := block_cell hR 7 (by simp [runCells])
      have r8 := block_cell hR 8 (by simp [runCells])
      have r9 := block_cell hR 9 (by simp [runCells])
      simp only [runCells, List.getElem_toArray, List.getElem_cons_zero, List.getElem_cons_succ] at r6 r7 r8 r9
      obtain ⟨r6, f6⟩ := r6
      obtain ⟨r7, f7⟩ := r7
      obtain ⟨r8, f8⟩ := r8
      obtain ⟨r9, f9⟩ := r9
      have HR2 := Lib.hid hR
      clear hR
      gi_upto_region 4 with (fail)
      have hb1' : Below wr.heap.size wr W2 := by rw [hbx]; exact hb1.out
      have htr : ∀ E n st now, RunAt c E n st now wr → RunAt c E n st ⟨deep, fn, k, 0⟩ ((((W2.setCell ⟨c.R, 6, none⟩ (.int .i64 deep)).setCell ⟨c.R, 7, none⟩ (.int .i64 fn)).setCell ⟨c.R, 8, none⟩ (.int .i64 k)).setCell ⟨c.R, 9, none⟩ (.int .i64 0)) ∧
          Turn c.R c.M wr ((((W2.setCell ⟨c.R, 6, none⟩ (.int .i64 deep)).setCell ⟨c.R, 7, none⟩ (.int .i64 fn)).setCell ⟨c.R, 8, none⟩ (.int .i64 k)).setCell ⟨c.R, 9, none⟩ (.int .i64 0)) := fun E n st now h => by
        have t0 := Turn.of_below (M := c.M) h.ltR hb1'
        obtain ⟨g1, t1⟩ := (h.below hb1').setR (j := 6) (v := .int .i64 deep) (st' := st) (now' := ⟨deep, now.fn, now.ins, now.work⟩) (by decide) (fun vs => rfl) rfl
        obtain ⟨g2, t2⟩ := g1.setR (j := 7) (v := .int .i64 fn) (st' := st) (now' := ⟨deep, fn, now.ins, now.work⟩) (by decide) (fun vs => rfl) rfl
        obtain ⟨g3, t3⟩ := g2.setR (j := 8) (v := .int .i64 k) (st' := st) (now' := ⟨deep, fn, k, now.work⟩) (by decide) (fun vs => rfl) rfl
        obtain ⟨g4, t4⟩ := g3.setR (j := 9) (v := .int .i64 0) (st' := st) (now' := ⟨deep, fn, k, 0⟩) (by decide) (fun vs => rfl) rfl
        exact ⟨g4, (((t0.trans t1).trans t2).trans t3).trans t4⟩
      have hx3 : ((((W2.setCell ⟨c.R, 6, none⟩ (.int .i64 deep)).setCell ⟨c.R, 7, none⟩ (.int .i64 fn)).setCell ⟨c.R, 8, none⟩ (.int .i64 k)).setCell ⟨c.R, 9, none⟩ (.int .i64 0)).heap[bx]? = _ := (heap_setCell_ne hne2 _).trans ((heap_setCell_ne hne2 _).trans ((heap_setCell_ne hne2 _).trans ((heap_setCell_ne hne2 _).trans hX.out)))
      have hjy : JY k _ := HSt.out k wr _ hlt HJk.out (htr _ _ _ _ HRun.out).2 (fun E n st now h => (htr E n st now h).1)
      clear htr hb1' r6 r7 r8 r9 f6 f7 f8 f9 c0 c1 c2
      generalize ((((W2.setCell ⟨c.R, 6, none⟩ (.int .i64 deep)).setCell ⟨c.R, 7, none⟩ (.int .i64 fn)).setCell ⟨c.R, 8, none⟩ (.int .i64 k)).setCell ⟨c.R, 9, none⟩ (.int .i64 0)) = W3 at *
      obtain ⟨fn', tmps, assign, body, hy, hR⟩ := HYk.out W3 hlt hjy
      have HRR := Lib.hid hR; clear hR
      have x0 := (block_cell hx3 0 (by simp)).1
      have x1 := (block_cell hx3 1 (by simp)).1
      have x2 := (block_cell hx3 2 (by simp)).1
      have x3 := (block_cell hx3 3 (by simp)).1
      have x4 := (block_cell hx3 4 (by simp)).1
      simp only [List.getElem_toArray, List.getElem_cons_zero, List.getElem_cons_succ] at x0 x1 x2 x3 x4
      clear hx3 hjy HYk
      gi_wp2
      refine HRR.out.mono ?_
      rintro e W4 (⟨rfl, hJ3⟩ | ⟨rfl, hJx⟩ | ⟨ch, rfl, hJp⟩)
      · have HJ3 := Lib.hid hJ3; clear hJ3 hy
        gi_wp2
        go_roundw
        case rel => exact ⟨k + 1, hlt, by go_num, HJ3.out⟩
        case measure => simp [intOf]; omega
      · have HJ3 := Lib.hid hJx; clear hJx hy
        gi_wp2
        refine bodyPost_ret (results_none rfl _ _ _) rfl ?_
        exact .inl ⟨⟨_, rfl⟩, .inr HJ3.out⟩
      · exact ⟨rfl, .inr ⟨ch, rfl, hJp⟩⟩
    · obtain rfl : k = code.length := by omega
      clear hj
      gi_wp2
      go_end0
      exact .inl ⟨⟨_, rfl⟩, .inl HJk.out⟩
end Go.Proofs.YtdkcjeaabbkdeaaGreatDoor
end
section
namespace Go.Proofs.YtdkcjeaabbkdeaaGreatDoor
open Go.RowKit Go.Maps
set_option linter.unusedVariables false
set_option linter.unusedSimpArgs false

theorem stepsBlock_book {R l : Nat} {w : World} {o b : Obj} (hl : w.heap[l]? = some b) (hb : isBook b = true) (hR : R ≠ l) : stepsBlock R (w.putObj l o) = stepsBlock R w := by
  unfold stepsBlock; rw [World.cell?_of_block (a := ⟨R, 5, none⟩) (World.putObj_heap_other hR)]
theorem Turn.putBook {R M l : Nat} {w W : World} {o b : Obj} (h : Turn R M w W) (hl : W.heap[l]? = some b) (hb : isBook b = true) (hR : R ≠ l) (hlw : w.heap.size ≤ l) : Turn R M w (W.putObj l o) := by
  refine ⟨h.os, h.tape, h.output, by rw [World.putObj_size]; exact h.size, fun k hk hs => (World.putObj_heap_other (by omega)).trans (h.block k hk hs), ?_⟩
  rw [stepsBlock_book hl hb hR]; exact h.steps
theorem ownsRow_put {w : World} {l base : Nat} {o b : Obj} {e : TypeId} {size n : Nat} {v : Value} {xs : List Value} (hl : w.heap[l]? = some b) (hb : isBook b = true) (h : w.ownsRow base e size v n xs) : (w.putObj l o).ownsRow base e size v n xs := by
  obtain ⟨h1, h2⟩ := h
  refine ⟨h1, ?_⟩
  rcases h2 with h2 | ⟨g, cap, cur, hv, hg, hh, r⟩
  · exact Or.inl h2
  · exact Or.inr ⟨g, cap, cur, hv, hg, heap_putBook hl hb hh rfl, r⟩
theorem RunAt.neBook {c : Cfg} {E : Int → Int → Option (List Int)} {n : Nat} {st : St} {now : Step} {w : World} {l : Nat} {b : Obj} (h : RunAt c E n st now w) (hl : w.heap[l]? = some b) (hb : isBook b = true) : c.R ≠ l ∧ c.M ≠ l := by
  obtain ⟨vs, h1, -⟩ := h.cells
  obtain ⟨M, h3, -⟩ := h.regs
  obtain ⟨es, cl, h4⟩ := h3.heap
  constructor
  · rintro rfl; rw [h1] at hl; cases hl; cases hb
  · rintro rfl; rw [h4] at hl; cases hl; cases hb
theorem RunAt.readsPut {c : Cfg} {E : Int → Int → Option (List Int)} {n : Nat} {st : St} {now : Step} {w : World} {l : Nat} {o b : Obj} (h : RunAt c E n st now w) (hl : w.heap[l]? = some b) (hb : isBook b = true) : Reads (pub c.R c.M w) (pub c.R c.M (w.putObj l o)) := by
  obtain ⟨hR, hM⟩ := h.neBook hl hb
  exact reads_hide fun a v hs hc => by
    refine ⟨?_, reads_putBook hl hb _ _ hc⟩
    rintro (e | e | e)
    · exact hs (.inl e)
    · exact hs (.inr (.inl e))
    · rw [stepsBlock_book hl hb hR] at e; exact hs (.inr (.inr e))
theorem RunAt.putBook {c : Cfg} {E : Int → Int → Option (List Int)} {n : Nat} {st : St} {now : Step} {w : World} {l : Nat} {o b : Obj} (h : RunAt c E n st now w) (hl : w.heap[l]? = some b) (hb : isBook b = true) : RunAt c E n st now (w.putObj l o) := by
  obtain ⟨hR, hM⟩ := h.neBook hl hb
  obtain ⟨vs, h1, h2⟩ := h.cells
  obtain ⟨M, h3, h4⟩ := h.regs
  have hrd : Reads (pub c.R c.M w) (pub c.R c.M (w.putObj l o)) := reads_hide fun a v hs hc => by
    refine ⟨?_, reads_putBook hl hb _ _ hc⟩
    rintro (e | e | e)
    · exact hs (.inl e)
    · exact hs (.inr (.inl e))
    · rw [stepsBlock_book hl hb hR] at e; exact hs (.inr (.inr e))
  refine ⟨⟨vs, (World.putObj_heap_other hR).trans h1, ownsRow_put hl hb h2⟩, ⟨M, h3.of_heap (World.putObj_heap_other hM), fun a r ha hr => ?_⟩, h.base⟩
  have := h4 a r ha hr
  cases hE : E a r with
  | none => rw [hE] at this; exact this
  | some l => rw [hE] at this; obtain ⟨v, hv, hi⟩ := this; exact ⟨v, hv, hi.reads hrd⟩

/-- A register is struck. -/
def delE (E : Int → Int → Option (List Int)) (a r : Int) : Int → Int → Option (List Int) := fun a' r' => if a' = a ∧ r' = r then none else E a' r'
theorem RunAt.drop {c : Cfg} {E : Int → Int → Option (List Int)} {n : Nat} {st : St} {now : Step} {w : World} (h : RunAt c E n st now w) {a r : Int} (ha : inInt a) (hr : inInt r) (ty : TypeId) :
    ∃ w', (Builtin.delete_ #[139, 194] ty #[.map (some c.M), .agg #[.int .i64 a, .int .i64 r]]).run Tryz.prog w = .ok (.tuple #[]) w' ∧ RunAt c (delE E a r) n st now w' ∧ Turn c.R c.M w w' ∧ ∀ k, k ≠ c.M → w'.heap[k]? = w.heap[k]? := by
  obtain ⟨Mf, h3, h4⟩ := h.regs
  obtain ⟨kl, hkl⟩ := keyOf_held a r ha hr
  obtain ⟨w', hrun, hm, ht⟩ := h3.delete keyed194 Tryz.underlying139 hkl ty
  have hg := ht.grown
  have hT : Turn c.R c.M w w' := (Turn.refl _ _ w).map ht h.ltR h.ne
  have hb : ∀ k, k ≠ c.M → w'.heap[k]? = w.heap[k]? := fun k hk => by
    obtain ⟨es, cl, es', cl', h1, rfl⟩ := ht
    exact ChangeMaps.heap_setBlock_other h1 _ hk
  obtain ⟨vs, h1, h2⟩ := h.cells
  refine ⟨w', hrun, ⟨⟨vs, (hb _ h.ne).trans h1, h2.kept hg (.inr (RunAt.own_neM h3 h2))⟩, ⟨_, hm, fun a' r' ha' hr' => ?_⟩, h.base⟩, hT, hb⟩
  unfold delE del
  by_cases e : a' = a ∧ r' = r
  · obtain ⟨rfl, rfl⟩ := e
    simp
  · rw [if_neg e, if_neg (fun e2 => e (by simp [hkey] at e2; exact e2))]
    have := h4 a' r' ha' hr'
    cases hE : E a' r' with
    | none => rw [hE] at this; exact this
    | some l => rw [hE] at this; obtain ⟨u, hu, hi⟩ := this; exact ⟨u, hu, hi.reads hT.reads⟩

/-- delete, as one step of a region that draws. -/
theorem step_delete_run {P : Program} {ops : Array Oper} {o : Oper} {a : Act} {w : World} {K : Act → World → Prop} {Q : Exit → Act → World → Prop} {Z : Prop}
    (hgd : o.guard = none) (m x : Operand) (t k : TypeId) (ho : o.op = .call { callee := .builtin .delete, args := #[m, x], argTypes := #[t, k] }) (vm vx : Value) (hm : a.eval m = vm) (hx : a.eval x = vx)
    (v' : Value) (w' : World) (hr : (Builtin.delete_ #[t, k] o.type #[vm, vx]).run P w = .ok v' w') (h : K (a.put o.dst v') w') : if Region.wanted o (yielded ops a.tmps) = true then Oper.wp P o a w K Q else Z := by
  have hw : Region.wanted o (yielded ops a.tmps) = true := by simp [Region.wanted, hgd]
  rw [if_pos hw]
  unfold Oper.wp execOp
  simp only [ho, resolve, invoke, builtin, Sem.run_bind, Sem.run_pure, Result.andThen_ok, List.map_toArray, List.map_cons, List.map_nil, hm, hx, hr]
  exact h
/-- The registers of the call that is at work: E0: those of the calls ahead of it. -/
structure Regs (E0 E : Int → Int → Option (List Int)) (own : Int) (regs : Int → List Int) (W : Int → Prop) : Prop where
  reg : ∀ r, (E own r).getD [] = regs r
  other : ∀ a, a ≠ own → E a = E0 a
  written : ∀ r, E own r ≠ none → W r
  short : ∀ r, (regs r).length ≤ 1048576
theorem Regs.put {E0 E : Int → Int → Option (List Int)} {own : Int} {regs : Int → List Int} {W W' : Int → Prop} (h : Regs E0 E own regs W) (r : Int) (l : List Int) (hl : l.length ≤ 1048576) (hW : ∀ x, W x → W' x) (hr : W' r) : Regs E0 (setE E own r l) own (setReg regs r l) W' := by
  refine ⟨fun x => ?_, fun a ha => ?_, fun x hx => ?_, fun x => ?_⟩
  · unfold setE setReg; by_cases e : x = r <;> simp [e, h.reg]
  · funext x; unfold setE; rw [if_neg (fun e => ha e.1), h.other a ha]
  · by_cases e : x = r
    · subst e; exact hr
    · unfold setE at hx; rw [if_neg (fun e2 => e e2.2)] at hx; exact hW x (h.written x hx)
  · unfold setReg; split
    · exact hl
    · exact h.short x
theorem Regs.puts {E0 : Int → Int → Option (List Int)} {own : Int} {W W' : Int → Prop} (hW : ∀ x, W x → W' x) : ∀ (to : List Int) (ls : List (List Int)) (E : Int → Int → Option (List Int)) (regs : Int → List Int), Regs E0 E own regs W → (∀ l ∈ ls, l.length ≤ 1048576) → (∀ r ∈ to, W' r) → Regs E0 (setsE E own to ls) own (setRegs regs to ls) W'
  | [], ls, E, regs, h, _, _ => by
    simp only [setsE, setRegs]
    exact ⟨h.reg, h.other, fun x hx => hW x (h.written x hx), h.short⟩
  | n :: ns, [], E, regs, h, _, _ => by
    simp only [setsE, setRegs]
    exact ⟨h.reg, h.other, fun x hx => hW x (h.written x hx), h.short⟩
  | n :: ns, l :: ls, E, regs, h, hl, hr => by
    simp only [setsE, setRegs]
    have := h.put n l (hl l (by simp)) hW (hr n (by simp))
    exact Regs.puts (W := W') (fun x hx => hx) ns ls _ _ this (fun x hx => hl x (by simp [hx])) (fun x hx => hr x (by simp [hx]))

/-- What an instruction that is no call does is known. -/
def Does (sem : Ins → List (List Int) → List (List Int) × Int) (x : Ins) : Prop := ∀ (w : World) (vt vf vb vl : Value) (l : List (List Int)), Glob w → Ints w vt x.to → Lists w vl l → l.length = x.from_.length → (∀ a ∈ l, a.length ≤ 1048576) →
  Calls Tryz.prog 327 #[.agg #[.int .i64 x.op, .int .i64 x.n, vt, vf, vb], vl] w (GivesLists w (sem x l)) ∧ ((sem x l).2 = 0 → (sem x l).1.length = x.to.length ∧ ∀ a ∈ (sem x l).1, a.length ≤ 1048576)
/-- The numbers of a run stay small. -/
structure Good (c : Cfg) (n : Nat) (st : St) : Prop where
  left : c.left ≤ 1000000
  count : st.count ≤ c.left
  calls : st.calls ≤ st.count + 1
  size : n ≤ 300 * (st.count + st.calls)
  work : 0 ≤ st.work ∧ st.work ≤ st.count * 1000000000000
  told : st.steps.length = st.count
  wide : st.wide ≤ 1048576

theorem Good.swap {c : Cfg} {n a b : Nat} {st : St} (h : Good c (n + a + b) st) : Good c (n + b + a) st := by
  rw [show n + b + a = n + a + b by omega]; exact h
/-- What stays the same from call to call. -/
structure Fixed (c : Cfg) (p : Pr) (sem : Ins → List (List Int) → List (List Int) × Int) (br bs bc : Nat) (w : World) : Prop where
  run : (pub c.R c.M w).cell? ⟨br, 0, none⟩ = some (.pointer (some ⟨c.R, 0, none⟩))
  step : (pub c.R c.M w).cell? ⟨bs, 0, none⟩ = some (.func (.func 121) #[.pointer (some ⟨c.R, 0, none⟩)] #[])
  call : (pub c.R c.M w).cell? ⟨bc, 0, none⟩ = some (.func (.func 122) #[] #[.pointer (some ⟨br, 0, none⟩), .pointer (some ⟨bs, 0, none⟩), .pointer (some ⟨bc, 0, none⟩)])
  funs : Sl 4 RFn (pub c.R c.M w) (.slice c.S c.fl c.sc) p.funs
  glob : Glob (pub c.R c.M w)
theorem Fixed.turn {c : Cfg} {p : Pr} {sem : Ins → List (List Int) → List (List Int) × Int} {br bs bc : Nat} {w w' : World} (h : Fixed c p sem br bs bc w) (hT : Turn c.R c.M w w') : Fixed c p sem br bs bc w' :=
  ⟨hT.reads _ _ h.run, hT.reads _ _ h.step, hT.reads _ _ h.call, h.funs.reads stays_fn hT.reads, h.glob.reads hT.reads⟩
/-- The program is one that can be run. -/
structure Fit (p : Pr) (sem : Ins → List (List Int) → List (List Int) × Int) : Prop where
  check : checkB p = true
  sane : Sane p
  does : ∀ f ∈ p.funs, ∀ x ∈ f.code, x.op ≠ 16 → Does sem x
structure InsFit (p : Pr) (x : Ins) : Prop where
  op : x.op ≠ 17
  low : 1 ≤ x.from_.length
  low5 : x.op = 5 → 2 ≤ x.from_.length
  high : x.from_.length ≤ 100
  to : x.to.length ≤ 100
  fromI : ∀ n ∈ x.from_, inInt n
  toI : ∀ n ∈ x.to, inInt n
  call : x.op = 16 → ∃ k : Nat, x.n = k ∧ ∃ hk : k < p.funs.length, p.funs[k].params = (x.from_.length : Int) ∧ p.funs[k].out.length = x.to.length
structure FnFit (p : Pr) (f : Fn') : Prop where
  params : 0 ≤ f.params ∧ f.params ≤ 100
  code : f.code.length ≤ 4000
  out : f.out.length ≤ 100
  outI : ∀ n ∈ f.out, inInt n
  ins : ∀ x ∈ f.code, InsFit p x
theorem low_high (k : Nat) (h : k < 18) : 1 ≤ lowOf k ∧ highOf k ≤ 100 ∧ (k = 5 → 2 ≤ lowOf k) ∧ (k ≠ 16 → k ≠ 17 → 0 ≤ toOf k ∧ toOf k ≤ 1) := by
  have h : k = 0 ∨ k = 1 ∨ k = 2 ∨ k = 3 ∨ k = 4 ∨ k = 5 ∨ k = 6 ∨ k = 7 ∨ k = 8 ∨ k = 9 ∨ k = 10 ∨ k = 11 ∨ k = 12 ∨ k = 13 ∨ k = 14 ∨ k = 15 ∨ k = 16 ∨ k = 17 := by omega
  rcases h with rfl | rfl | rfl | rfl | rfl | rfl | rfl | rfl | rfl | rfl | rfl | rfl | rfl | rfl | rfl | rfl | rfl | rfl <;> decide
theorem fit_fn {p : Pr} {sem : Ins → List (List Int) → List (List Int) × Int} (h : Fit p sem) {f : Fn'} (hf : f ∈ p.funs) : FnFit p f := by
  have hc := h.check
  unfold checkB at hc
  simp only [Bool.and_eq_true, List.all_eq_true] at hc
  have hok := hc.2.2
  have hall : ∀ g ∈ p.funs, g.out.length ≤ 100 := fun g hg => by
    have := hok g hg
    unfold fnOk fnHead at this
    simp only [Bool.and_eq_true, decide_eq_true_eq] at this
    exact this.1.2.2.1
  have h1 := hok f hf
  unfold fnOk fnHead at h1
  simp only [Bool.and_eq_true, decide_eq_true_eq, List.all_eq_true] at h1
  obtain ⟨⟨hP, hC, hO, -⟩, -, hI, -⟩ := h1
  simp only [inBetween, Bool.and_eq_true, decide_eq_true_eq] at hP
  refine ⟨hP, hC, hO, (h.sane f hf).2, fun x hx => ?_⟩
  have hi := hI x hx
  have hsx := (h.sane f hf).1 x hx
  unfold insOk at hi
  simp only [Bool.and_eq_true] at hi
  obtain ⟨hfit, hcall⟩ := hi
  have hregs := fits_regs hfit
  unfold fitsB at hfit
  simp only [Bool.and_eq_true, inBetween, decide_eq_true_eq] at hfit
  obtain ⟨⟨o1, o2⟩, ⟨l1, l2⟩, ht, -⟩ := hfit
  obtain ⟨k, hk⟩ : ∃ k : Nat, x.op = (k : Int) := ⟨x.op.toNat, by omega⟩
  rw [hk] at l1 l2 ht
  simp only [Int.toNat_natCast] at l1 l2 ht
  obtain ⟨a1, a2, a3, a4⟩ := low_high k (by omega)
  have hop := hsx.op
  have hcl : x.op = 16 → ∃ k : Nat, x.n = k ∧ ∃ hk : k < p.funs.length, p.funs[k].params = (x.from_.length : Int) ∧ p.funs[k].out.length = x.to.length := fun h16 => by
    rw [h16] at hcall
    have hcb : calledB p x = true := by simpa using hcall
    unfold calledB inBetween at hcb
    simp only [Bool.and_eq_true, decide_eq_true_eq] at hcb
    obtain ⟨⟨n1, n2⟩, hm⟩ := hcb
    refine ⟨x.n.toNat, by omega, by omega, ?_⟩
    rw [List.getElem?_eq_getElem (by omega)] at hm
    simpa using hm
  refine ⟨hop, by omega, fun h5 => ?_, by omega, ?_, hregs.1, hregs.2, hcl⟩
  · have := a3 (by omega); omega
  · by_cases h16 : k = 16
    · obtain ⟨j, -, hj, -, h2⟩ := hcl (by omega)
      have := hall p.funs[j] (List.getElem_mem hj)
      omega
    · have := a4 h16 (by omega)
      simp only [Bool.or_eq_true, decide_eq_true_eq, beq_iff_eq] at ht
      omega
/-- How a call ends; pad: registers that its caller has yet to write. -/
def CallPost (c : Cfg) (E : Int → Int → Option (List Int)) (pad k0 : Nat) (w : World) (r : Except Int (St × List (List Int))) (e : Ending) (w' : World) : Prop :=
  Turn c.R c.M w w' ∧ match r with
    | .error k => e = .panicked (stopE k)
    | .ok (st', out) => ∃ v n' now', e = .returned v ∧ Lists (pub c.R c.M w') v out ∧ (∀ l ∈ out, l.length ≤ 1048576) ∧ RunAt c E n' st' now' w' ∧ Good c (n' + pad) st' ∧ k0 ≤ st'.calls
end Go.Proofs.YtdkcjeaabbkdeaaGreatDoor
end
section
namespace Go.Proofs.YtdkcjeaabbkdeaaGreatDoor
set_option linter.unusedVariables false
set_option linter.unusedSimpArgs false
section
variable {sem : Ins → List (List Int) → List (List Int) × Int} {left : Nat} {rec : Int → List (List Int) → St → Except Int (St × List (List Int))} {deep fn : Int} {i : Nat} {x : Ins} {xs : List Ins} {regs : Int → List Int} {st : St}
theorem codeF_err (hc : st.count < left) (hop : x.op ≠ 16) (he : (sem x (x.from_.map regs)).2 ≠ 0) : codeF sem left rec deep fn i (x :: xs) regs st = .error (sem x (x.from_.map regs)).2 := by
  rw [codeF]; simp only [hc, hop, he, if_true, ne_eq, not_false_eq_true]
theorem codeF_plain (hc : st.count < left) (hop : x.op ≠ 16) (he : (sem x (x.from_.map regs)).2 = 0) : codeF sem left rec deep fn i (x :: xs) regs st =
    codeF sem left rec deep fn (i + 1) xs (setRegs regs x.to (sem x (x.from_.map regs)).1) ((st.note deep fn i (workOf x (x.from_.map regs) (sem x (x.from_.map regs)).1)).wider (sem x (x.from_.map regs)).1) := by
  rw [codeF]; simp only [hc, hop, he, if_true, ne_eq, not_false_eq_true, not_true_eq_false, if_false]
theorem codeF_empty (hc : st.count < left) (hop : x.op = 16) (he : ((x.from_.map regs).headD []).length = 0) : codeF sem left rec deep fn i (x :: xs) regs st =
    codeF sem left rec deep fn (i + 1) xs (setRegs regs x.to (List.replicate x.to.length [])) (st.note deep fn i 1) := by
  rw [codeF]; simp only [hc, hop, he, if_true, ne_eq, not_true_eq_false, if_false]
theorem codeF_callerr {k : Int} (hc : st.count < left) (hop : x.op = 16) (he : ((x.from_.map regs).headD []).length ≠ 0) (hr : rec x.n (x.from_.map regs) (st.note deep fn i 1) = .error k) : codeF sem left rec deep fn i (x :: xs) regs st = .error k := by
  rw [codeF]; simp only [hc, hop, he, hr, if_true, ne_eq, not_true_eq_false, if_false]
theorem codeF_call {st' : St} {out : List (List Int)} (hc : st.count < left) (hop : x.op = 16) (he : ((x.from_.map regs).headD []).length ≠ 0) (hr : rec x.n (x.from_.map regs) (st.note deep fn i 1) = .ok (st', out)) : codeF sem left rec deep fn i (x :: xs) regs st =
    codeF sem left rec deep fn (i + 1) xs (setRegs regs x.to out) (st'.wider out) := by
  rw [codeF]; simp only [hc, hop, he, hr, if_true, ne_eq, not_true_eq_false, if_false]
end
theorem wider_le (st : St) (ls : List (List Int)) (h : st.wide ≤ 1048576) (hl : ∀ l ∈ ls, l.length ≤ 1048576) : (st.wider ls).wide ≤ 1048576 := by
  have : ∀ (ls : List (List Int)) (a : Nat), a ≤ 1048576 → (∀ l ∈ ls, l.length ≤ 1048576) → ls.foldl (fun w l => max w l.length) a ≤ 1048576 := by
    intro ls
    induction ls with
    | nil => intro a ha _; exact ha
    | cons l ls ih =>
      intro a ha hl
      have := hl l (by simp)
      exact ih _ (by show max a l.length ≤ 1048576; omega) (fun x hx => hl x (by simp [hx]))
  exact this ls _ h hl
theorem lens_le (ls : List (List Int)) (hl : ∀ l ∈ ls, l.length ≤ 1048576) : lens ls ≤ ls.length * 1048576 := by
  induction ls with
  | nil => simp [lens]
  | cons l ls ih =>
    have h1 := ih (fun x hx => hl x (by simp [hx]))
    have h2 := hl l (by simp)
    simp only [lens, List.map_cons, List.sum_cons, List.length_cons] at h1 ⊢
    omega
theorem workOf_le (x : Ins) (f t : List (List Int)) (hf : f.length ≤ 100) (ht : t.length ≤ 100) (hf2 : ∀ l ∈ f, l.length ≤ 1048576) (ht2 : ∀ l ∈ t, l.length ≤ 1048576) : 0 ≤ workOf x f t ∧ workOf x f t ≤ 1000000000 := by
  have h1 := lens_le f hf2
  have h2 := lens_le t ht2
  have h3 : (f.getD 1 []).length ≤ 1048576 := by
    by_cases h : 1 < f.length
    · rw [List.getD_eq_getElem?_getD, List.getElem?_eq_getElem h]; exact hf2 _ (List.getElem_mem h)
    · rw [List.getD_eq_getElem?_getD, List.getElem?_eq_none (by omega)]; simp
  unfold workOf
  split
  · omega
  · split
    · omega
    · split <;> omega
/-- Behind a step. -/
theorem Good.note {c : Cfg} {n : Nat} {st : St} (h : Good c n st) (hc : st.count < c.left) {k : Int} (hk : 0 ≤ k ∧ k ≤ 1000000000) (d f i : Int) (m : Nat) (hm : m ≤ 100) : Good c (n + m) (st.note d f i k) ∧ (st.note d f i k).calls ≤ (st.note d f i k).count := by
  have h1 := h.size
  have h2 := h.work
  have h3 := h.calls
  have h4 := h.told
  refine ⟨⟨h.left, hc, ?_, ?_, ?_, ?_, h.wide⟩, ?_⟩
  · simp only [St.note]; omega
  · simp only [St.note]; omega
  · simp only [St.note]; constructor
    · omega
    · push_cast; omega
  · simp only [St.note, List.length_append, List.length_cons, List.length_nil]; omega
  · simp only [St.note]; omega
theorem Good.wider {c : Cfg} {n : Nat} {st : St} (h : Good c n st) (ls : List (List Int)) (hl : ∀ l ∈ ls, l.length ≤ 1048576) : Good c n (st.wider ls) :=
  ⟨h.left, h.count, h.calls, h.size, h.work, h.told, wider_le st ls h.wide hl⟩
theorem wider_nils (st : St) (n : Nat) : st.wider (List.replicate n []) = st := by
  have : ∀ (n : Nat) (a : Nat), (List.replicate n ([] : List Int)).foldl (fun w l => max w l.length) a = a := by
    intro n
    induction n with
    | zero => intro a; rfl
    | succ n ih => intro a; rw [List.replicate_succ, List.foldl_cons]; simpa using ih a
  unfold St.wider; rw [this]
open Go.Maps in
/-- A new row of nothing reads as empty lists. -/
theorem lists_made {S : Nat → Prop} {W : World} {q n t : Nat} (hn : n ≤ 9223372036854775807) (h : W.heap[q]? = some (.cells (Go.madeCells #[.slice none 0 0] n) t)) (hs : ¬ S q) : Lists (hide S W) (.slice (some ⟨q, 0, none⟩) n n) (List.replicate n []) := by
  refine ⟨some ⟨q, 0, none⟩, n, by simp, by simp; exact hn, fun j hj => ⟨q, 0, [.slice none 0 0], rfl, rfl, fun i hi => ?_, .slice none 0 0, rfl, ?_⟩⟩
  · have hi0 : i = 0 := by simpa using hi
    subst hi0
    have hj' : j < n := by simpa using hj
    rw [hide_cell S W (a := ⟨q, 0 + j * 1 + 0, none⟩) hs, cell_of_heap h]
    simp [Go.madeCells, hj', Nat.mod_one]
  · rw [List.getElem_replicate]; exact ints_nil _ none 0
end Go.Proofs.YtdkcjeaabbkdeaaGreatDoor
end
