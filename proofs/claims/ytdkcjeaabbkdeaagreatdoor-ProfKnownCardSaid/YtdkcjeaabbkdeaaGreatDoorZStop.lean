/- Package vec: what becomes of a panic. The law's own program: what its run gives. -/
import Derived.Test.YtdkcjeaabbkdeaaGreatDoorZCallC
import Derived.Test.YtdkcjeaabbkdeaaGreatDoorZScanB
import Derived.Defers
import Derived.Recover
set_option linter.unusedVariables false
set_option linter.unusedSimpArgs false
set_option linter.unnecessarySimpa false
set_option linter.unusedSectionVars false
section
namespace Go.Proofs.YtdkcjeaabbkdeaaGreatDoor
open Go.RowKit Go.Maps Go.Shelf
set_option linter.unusedVariables false
set_option linter.unusedSimpArgs false

set_option maxRecDepth 100000 in
theorem stopped_nil (p : Value) (w : World) : Calls Tryz.prog 83 #[.nilIface, p] w fun e w' => e = .returned (.tuple #[]) ∧ w' = w := by
  go_enter Tryz.func83, Tryz.ntmps83
  go_wp2_with fail
  first
  | go_end0
  | exact bodyPost_ret (results_none rfl _ _ _) rfl ⟨rfl, rfl⟩
set_option maxRecDepth 100000 in
theorem stopped_some (q : Nat) (k x : Int) (w : World) (hc : w.cell? ⟨q, 0, none⟩ = some (.int .i64 x)) (hf : w.frozen? ⟨q, 0, none⟩ = false) : Calls Tryz.prog 83 #[.iface 186 (.agg #[.int .i64 k]), .pointer (some ⟨q, 0, none⟩)] w fun e w' => e = .returned (.tuple #[]) ∧ w' = (w.setCell ⟨q, 0, none⟩ (.int .i64 k)).alloc (.cells #[.int .i64 k] 186) := by
  have hta : ∀ (v : Value) (W : World), (Instr.typeAssert (.iface 186 v) 20 186 true).run Tryz.prog W = .ok (.tuple #[v, .bool true]) W := fun v W => by kernel_rfl
  have hq := World.block_lt_of_cell? w _ hc
  go_enter Tryz.func83, Tryz.ntmps83
  go_wp2_with fail
  go_end0
  exact ⟨rfl, rfl⟩

theorem catch_idle (q : Nat) (w : World) : CallsD Tryz.prog 82 #[.pointer (some ⟨q, 0, none⟩)] .returning w fun e u' w' => e = .returned (.tuple #[]) ∧ u' = .returning ∧ w' = w := by
  refine callsD_of_wpS Tryz.func82 rfl fun c₀ cs hu => ?_
  apply wpS_region
  simp [wpOpsS, go_sem, recoverD, hu, Tryz.ntmps82, Exit.thenS]
  refine (stopped_nil _ _).mono ?_
  rintro e w' ⟨rfl, rfl⟩
  cases c₀
  simp_all [bodyPostS, results, Tryz.results82]
theorem catch_panicking (q : Nat) (k x : Int) (older : List PanicEntry) (w : World) (hc : w.cell? ⟨q, 0, none⟩ = some (.int .i64 x)) (hf : w.frozen? ⟨q, 0, none⟩ = false) :
    CallsD Tryz.prog 82 #[.pointer (some ⟨q, 0, none⟩)] (.panicking ({ v := .iface 186 (.agg #[.int .i64 k]), recovered := false } :: older)) w fun e u' w' =>
      e = .returned (.tuple #[]) ∧ u' = .panicking ({ v := .iface 186 (.agg #[.int .i64 k]), recovered := true } :: older) ∧ w' = (w.setCell ⟨q, 0, none⟩ (.int .i64 k)).alloc (.cells #[.int .i64 k] 186) := by
  refine callsD_of_wpS Tryz.func82 rfl fun c₀ cs hu => ?_
  apply wpS_region
  simp [wpOpsS, go_sem, recoverD, hu, Tryz.ntmps82, Exit.thenS]
  refine (stopped_some _ _ x _ hc hf).mono ?_
  rintro e w' ⟨rfl, rfl⟩
  cases c₀
  simp_all [bodyPostS, results, Tryz.results82]

/-- What a run gives: its steps, and an error. -/
def traceF (sem : Ins → List (List Int) → List (List Int) × Int) (p : Pr) (args : List (List Int)) (left : Int) : List Step × Int :=
  if startedB p args left = 0 then match callF sem left.toNat p 1999 p.main 1 args St.zero with
    | .error k => ([], k)
    | .ok (st, _) => (st.steps, 0)
  else ([], startedB p args left)
def RStep (_ : World) (cs : List Value) (s : Step) : Prop := cs = stepCells s
theorem stays_step : Stays RStep := fun _ _ _ _ _ h => h
def TracePost (r : List Step × Int) (w : World) (e : Ending) (w' : World) : Prop := Below w.heap.size w w' ∧ ∃ v, e = .returned (.tuple #[v, .int .i64 r.2]) ∧ Sl 4 RStep w' v r.1

theorem stepVals_get (l : List Step) (j i : Nat) (hj : j < l.length) (hi : i < 4) : (stepVals l)[j * 4 + i]? = (stepCells l[j])[i]? := by
  induction l generalizing j with
  | nil => simp at hj
  | cons s l ih =>
    have e : stepVals (s :: l) = stepCells s ++ stepVals l := rfl
    cases j with
    | zero =>
      rw [e, List.getElem?_append_left (by simp [stepCells]; omega)]; simp
    | succ j =>
      rw [e, List.getElem?_append_right (by simp [stepCells]; omega)]
      have : (j + 1) * 4 + i - (stepCells s).length = j * 4 + i := by simp [stepCells]; omega
      rw [this, ih j (by simpa using hj)]; rfl
theorem steps_of_own {w : World} {base : Nat} {v : Value} {l : List Step} (h : w.ownsRow base 58 4 v l.length (stepVals l)) : Sl 4 RStep w v l := by
  rcases h.2 with ⟨rfl, h0⟩ | ⟨g, cap, cur, rfl, hb, hh, hn, hm, hs, ht⟩
  · obtain rfl : l = [] := List.eq_nil_of_length_eq_zero h0
    exact ⟨none, 0, rfl, by simp, fun j hj => absurd hj (by simp)⟩
  · refine ⟨_, cap, rfl, ⟨by simp only [maxLen] at hm; omega, hn⟩, fun j hj => ⟨g, 0, stepCells l[j], rfl, rfl, fun i hi => ?_, rfl⟩⟩
    have hi4 : i < 4 := by simpa [stepCells] using hi
    have hc := h.cells (g := g) rfl (j * 4 + i) (stepCells l[j])[i] ((stepVals_get l j i hj hi4).trans (List.getElem?_eq_getElem hi))
    have ha : (⟨g, 0, none⟩ : Addr).add (j * 4 + i) = ⟨g, 0 + j * 4 + i, none⟩ := by unfold Addr.add; split <;> simp_all [Nat.add_assoc]
    rw [ha] at hc
    exact hc
theorem RunAt.spec_low {c : Cfg} {E : Int → Int → Option (List Int)} {n : Nat} {st : St} {now : Step} {w : World} (h : RunAt c E n st now w) {k : Nat} (hk : k < c.base) : ¬ spec c.R c.M w k := by
  obtain ⟨vs, h1, h2⟩ := h.cells
  have hb := h.base
  rintro (e | e | e)
  · omega
  · omega
  · rw [stepsBlock_eq h1] at e
    have := (h2.lt k e).1
    omega
theorem RunAt.reads_low {c : Cfg} {E : Int → Int → Option (List Int)} {n : Nat} {st : St} {now : Step} {w0 w : World} (h : RunAt c E n st now w) (hb : Below w0.heap.size w0 w) (hl : w0.heap.size ≤ c.base) : Reads w0 (pub c.R c.M w) := fun a v hc => by
  have hlt := World.block_lt_of_cell? w0 a hc
  rw [hide_cell _ _ (h.spec_low (by omega))]
  exact cell_keep hb hc
theorem RunAt.below_turn {c : Cfg} {E : Int → Int → Option (List Int)} {n : Nat} {st : St} {now : Step} {w0 w w' : World} (h : RunAt c E n st now w) (hb : Below w0.heap.size w0 w) (hl : w0.heap.size ≤ c.base) (hT : Turn c.R c.M w w') : Below w0.heap.size w0 w' := by
  have hsz := hb.size
  exact ⟨hT.os.trans hb.os, hT.tape.trans hb.tape, hT.output.trans hb.output, Nat.le_trans hsz hT.size, fun k hk => (hT.block k (by omega) (h.spec_low (by omega))).trans (hb.block k hk)⟩
theorem RunAt.tell {c : Cfg} {now : Step} {w : World} (h : RunAt c (fun _ _ => none) 0 St.zero now w) : RunAt { c with tell := true } (fun _ _ => none) 0 St.zero now (w.setCell ⟨c.R, 11, none⟩ (.bool true)) ∧ Turn c.R c.M w (w.setCell ⟨c.R, 11, none⟩ (.bool true)) := by
  obtain ⟨vs, h1, h2⟩ := h.cells
  obtain ⟨M, h3, h4⟩ := h.regs
  have ht0 : told c St.zero = [] := by unfold told; split <;> rfl
  rw [ht0] at h2
  have hT : Turn c.R c.M w (w.setCell ⟨c.R, 11, none⟩ (.bool true)) := (Turn.refl _ _ w).setR (.inl (by
    unfold stepsBlock
    rw [World.cell?_setCell_other w ⟨c.R, 11, none⟩ ⟨c.R, 5, none⟩ _ (by intro e; injection e with _ e _; cases e)]))
  refine ⟨⟨⟨vs, ?_, ?_⟩, ⟨M, h3.of_heap (Below.heap_setCell _ _ _ _ (fun e => h.ne e.symm)), fun a r ha hr => h4 a r ha hr⟩, h.base⟩, hT⟩
  · have := heap_setCell h1 11 (.bool true)
    exact this
  · show World.ownsRow _ c.base 58 4 vs 0 []
    rcases h2.2 with ⟨rfl, -⟩ | ⟨g, cap, cur, rfl, hg, hh, r⟩
    · exact World.ownsRow_nil _ _ _ _
    · refine ⟨rfl, Or.inr ⟨g, cap, cur, rfl, hg, ?_, r⟩⟩
      rw [Below.heap_setCell _ _ _ _ (fun e => ?_)]; exact hh
      subst e
      rw [h1] at hh; cases hh

set_option maxRecDepth 100000 in
set_option maxHeartbeats 1000000 in
theorem vec_trace (p : Pr) (sem : Ins → List (List Int) → List (List Int) × Int) (cp : List Value) (args : List (List Int)) (va : Value) (left : Int) (w : World) (hp : RPr w cp p) (hs : Sane p) (hd : ∀ f ∈ p.funs, ∀ x ∈ f.code, x.op ≠ 16 → Does sem x) (hg : Glob w) (ha : Lists w va args) :
    Calls Tryz.prog 32 #[.agg cp.toArray, va, .int .i64 left] w (TracePost (traceF sem p args left) w) := by
  have hmf : ∀ (fn : Fn) (first cap : Array Value) (w : World), (Instr.makeFunc fn first cap).run Tryz.prog w = .ok (.func fn first cap) w := fun _ _ _ _ => rfl
  have HSt := Lib.hid (fun W (hb : Below w.heap.size w W) => vec_started p cp args va left W (stays_pr _ _ _ _ (reads_below hb) hp) hs (ha.below hb))
  have HP := Lib.hid hp
  have HS := Lib.hid hs
  have HD := Lib.hid hd
  have HG := Lib.hid hg
  have HA := Lib.hid ha
  obtain ⟨vfs, rfl, hfs⟩ := hp
  obtain ⟨S, sc, rfl, hsm, -⟩ := hfs.form
  obtain ⟨A, ac, rfl, ham⟩ := ha.form
  have HFs := Lib.hid hfs
  clear hs hd hg ha hfs
  have hb2 := below2 w (.cells #[.slice S p.funs.length sc, .int .i64 p.main] 25) (.cells #[.int .i64 0] 30)
  have k0 := heap_alloc (alloc_new w (.cells #[.slice S p.funs.length sc, .int .i64 p.main] 25)) (.cells #[.int .i64 0] 30)
  have k1 := alloc_new (w.alloc (.cells #[.slice S p.funs.length sc, .int .i64 p.main] 25)) (.cells #[.int .i64 0] 30)
  rw [show (w.alloc (.cells #[.slice S p.funs.length sc, .int .i64 p.main] 25)).heap.size = w.heap.size + 1 by simp] at k1
  have HB2 := Lib.hid hb2
  have HK0 := Lib.hid k0
  have HK1 := Lib.hid k1
  have hsz2 : ((w.alloc (.cells #[.slice S p.funs.length sc, .int .i64 p.main] 25)).alloc (.cells #[.int .i64 0] 30)).heap.size = w.heap.size + 1 + 1 := by simp
  clear hb2 k0 k1
  go_enter_defers Tryz.func32, Tryz.ntmps32
  go_wp2_with fail
  generalize (w.alloc (.cells #[.slice S p.funs.length sc, .int .i64 p.main] 25)).alloc (.cells #[.int .i64 0] 30) = w2 at *
  refine (HSt.out w2 HB2.out).mono ?_
  rintro e w3 ⟨hb3, hr⟩
  have HB3 := Lib.hid hb3
  have HBw3 := Lib.hid (HB2.out.trans (hb3.mono HB2.out.size))
  have k1 := heap_keep hb3 HK1.out
  have k0 := heap_keep hb3 HK0.out
  have HK3 := Lib.hid k1
  have HKb3 := Lib.hid k0
  clear hb3 k0 k1
  by_cases h0 : startedB p args left = 0
  case neg =>
    rw [if_neg h0] at hr
    subst hr
    have hq := block_cell HK3.out 0 (by simp)
    refine leaves_cons (f := 82) (args := #[.pointer (some ⟨w.heap.size + 1, 0, none⟩)]) (by simp) (by simp [go_sem]) ?_
    refine (catch_panicking (w.heap.size + 1) (startedB p args left) 0 [] w3 hq.1 hq.2).mono ?_
    rintro e u' w'' ⟨rfl, rfl, rfl⟩
    have hV : traceF sem p args left = ([], startedB p args left) := by unfold traceF; rw [if_neg h0]
    rw [hV]
    have hfin : Below w.heap.size w ((w3.setCell ⟨w.heap.size + 1, 0, none⟩ (.int .i64 (startedB p args left))).alloc (.cells #[.int .i64 (startedB p args left)] 186)) := (HBw3.out.setCell (p := ⟨w.heap.size + 1, 0, none⟩) (Nat.le_succ _) _).alloc (by have := HBw3.out.size; simpa [World.setCell] using this) _
    have hlast := cell_alloc (block_cell (heap_setCell HK3.out 0 (.int .i64 (startedB p args left))) 0 (by simp)).1 (.cells #[.int .i64 (startedB p args left)] 186)
    simp only [List.setIfInBounds_toArray, List.set_cons_zero, List.getElem_toArray, List.getElem_cons_zero] at hlast
    simp [Leaves, settle, results, Tryz.results32, go_sem, hlast]
    exact ⟨hfin, _, rfl, ⟨none, 0, rfl, by simp, fun j hj => absurd hj (by simp)⟩⟩
  rw [if_pos h0] at hr
  obtain ⟨S', sc', R, M, hcp, rfl, hrun⟩ := hr
  cases hcp
  have hck : checkB p = true := by
    by_cases h : checkB p = true
    · exact h
    · unfold startedB at h0; rw [if_neg h] at h0; exact absurd h0 (by decide)
  have hrest : ((args.length : Int) == (p.funs.getD p.main.toNat ⟨0, [], [], []⟩).params && (args.all isVec && (decide (0 ≤ left) && decide (left ≤ 1000000)))) = true := by
    apply Classical.byContradiction
    intro h
    unfold startedB at h0; rw [if_pos hck, if_neg h] at h0; exact absurd h0 (by decide)
  simp only [Bool.and_eq_true, decide_eq_true_eq, beq_iff_eq, List.all_eq_true] at hrest
  obtain ⟨hpar, hvec, hl0, hl1⟩ := hrest
  have hm : 0 ≤ p.main ∧ p.main < p.funs.length := by
    unfold checkB inBetween at hck
    simp only [Bool.and_eq_true, decide_eq_true_eq] at hck
    omega
  obtain ⟨m, hmm⟩ : ∃ m : Nat, p.main = (m : Int) := ⟨p.main.toNat, by omega⟩
  have hshort : ∀ l ∈ args, l.length ≤ 1048576 := fun l hl => by
    have := hvec l hl
    unfold isVec at this
    simp only [Bool.and_eq_true, decide_eq_true_eq] at this
    exact this.1
  obtain ⟨hrun4, hT4⟩ := hrun.tell
  have hbase : w.heap.size + 1 + 1 ≤ R ∧ w.heap.size + 1 + 1 ≤ M := by have := hrun.base; simp only at this; omega
  have hcall := vec_runcall { base := w2.heap.size, R := R, M := M, S := S, fl := p.funs.length, sc := sc, main := p.main, left := left.toNat, tell := true } p sem ⟨hck, HS.out, HD.out⟩ rfl m args (.slice A args.length ac) _ _ hrun4 (by simp only; omega) (by omega)
    ((HFs.out.reads stays_fn (hrun.reads_low HBw3.out (by simp only; omega))).reads stays_fn hT4.reads) ((HG.out.reads (hrun.reads_low HBw3.out (by simp only; omega))).reads hT4.reads) ((HA.out.reads (hrun.reads_low HBw3.out (by simp only; omega))).reads hT4.reads)
    (by rw [hmm, Int.toNat_natCast] at hpar; exact hpar.symm) hshort
  have hk04 : (w3.setCell ⟨R, 11, none⟩ (.bool true)).heap[w.heap.size]? = _ := (Below.heap_setCell _ _ _ _ (by simp only; omega)).trans HKb3.out
  have hk14 : (w3.setCell ⟨R, 11, none⟩ (.bool true)).heap[w.heap.size + 1]? = _ := (Below.heap_setCell _ _ _ _ (by simp only; omega)).trans HK3.out
  have hB4 := hrun.below_turn HBw3.out (by simp only; omega) hT4
  obtain ⟨vs, hR, -⟩ := hrun.cells
  have r11 := block_cell hR 11 (by simp [runCells])
  simp only [runCells, List.getElem_toArray, List.getElem_cons_zero, List.getElem_cons_succ] at r11
  obtain ⟨r11, f11⟩ := r11
  have m1 := (block_cell hk04 1 (by simp)).1
  simp only [List.getElem_toArray, List.getElem_cons_zero, List.getElem_cons_succ] at m1
  have HCall := Lib.hid hcall
  have HRun4 := Lib.hid hrun4
  have HK04 := Lib.hid hk04
  have HK14 := Lib.hid hk14
  have HB4 := Lib.hid hB4
  clear hcall hrun4 hk04 hk14 hB4 hrun hT4 hR hpar hvec hshort hck
  have hV : traceF sem p args left = match callF sem left.toNat p 1999 (m : Int) 1 args St.zero with
    | .error k => ([], k)
    | .ok (st, _) => (st.steps, 0) := by unfold traceF; rw [if_pos h0, hmm]
  have HV := Lib.hid hV
  clear hV
  go_wp2_with fail
  refine HCall.out.mono ?_
  rintro e w5 ⟨hT5, hr⟩
  have hB5 : Below w.heap.size w w5 := HRun4.out.below_turn HB4.out (by simp only; omega) hT5
  have hk15 := hT5.heap HK14.out (HRun4.out.spec_low (by simp only; omega))
  have HB5 := Lib.hid hB5
  have HK15 := Lib.hid hk15
  clear hT5 hB5 hk15 r11 f11 m1
  cases hrr : callF sem left.toNat p 1999 (m : Int) 1 args St.zero with
  | error k =>
    rw [hrr] at hr
    obtain rfl : e = .panicked (stopE k) := hr
    have hq := block_cell HK15.out 0 (by simp)
    refine leaves_cons (f := 82) (args := #[.pointer (some ⟨w.heap.size + 1, 0, none⟩)]) (by simp) (by simp [go_sem]) ?_
    refine (catch_panicking (w.heap.size + 1) k 0 [] w5 hq.1 hq.2).mono ?_
    rintro e u' w'' ⟨rfl, rfl, rfl⟩
    have hV2 : traceF sem p args left = ([], k) := by rw [HV.out, hrr]
    rw [hV2]
    have hfin : Below w.heap.size w ((w5.setCell ⟨w.heap.size + 1, 0, none⟩ (.int .i64 k)).alloc (.cells #[.int .i64 k] 186)) := (HB5.out.setCell (p := ⟨w.heap.size + 1, 0, none⟩) (Nat.le_succ _) _).alloc (by have := HB5.out.size; simpa [World.setCell] using this) _
    have hlast := cell_alloc (block_cell (heap_setCell HK15.out 0 (.int .i64 k)) 0 (by simp)).1 (.cells #[.int .i64 k] 186)
    simp only [List.setIfInBounds_toArray, List.set_cons_zero, List.getElem_toArray, List.getElem_cons_zero] at hlast
    simp [Leaves, settle, results, Tryz.results32, go_sem, hlast]
    exact ⟨hfin, _, rfl, ⟨none, 0, rfl, by simp, fun j hj => absurd hj (by simp)⟩⟩
  | ok r =>
    obtain ⟨st2, out⟩ := r
    rw [hrr] at hr
    obtain ⟨v, n', now', rfl, hv, -, hrun5, hgood, -⟩ := hr
    obtain ⟨V, vc, rfl, -⟩ := hv.form
    obtain ⟨vs5, hR5, hown⟩ := hrun5.cells
    have r5 := (block_cell hR5 5 (by simp [runCells])).1
    simp only [runCells, List.getElem_toArray, List.getElem_cons_zero, List.getElem_cons_succ] at r5
    have hst : told { base := w2.heap.size, R := R, M := M, S := S, fl := p.funs.length, sc := sc, main := p.main, left := left.toNat, tell := true } st2 = st2.steps := rfl
    rw [hst] at hown
    obtain ⟨hq0, hqf⟩ := block_cell HK15.out 0 (by simp)
    simp only [List.getElem_toArray, List.getElem_cons_zero] at hq0
    have hown6 := ownsRow_setCell_below hown (a := ⟨w.heap.size + 1, 0, none⟩) (by simp only; omega) (.int .i64 0)
    have hsl := steps_of_own hown6
    have hfin : Below w.heap.size w (w5.setCell ⟨w.heap.size + 1, 0, none⟩ (.int .i64 0)) := HB5.out.setCell (p := ⟨w.heap.size + 1, 0, none⟩) (Nat.le_succ _) _
    have hlast := (block_cell (heap_setCell HK15.out 0 (.int .i64 0)) 0 (by simp)).1
    simp only [List.setIfInBounds_toArray, List.set_cons_zero, List.getElem_toArray, List.getElem_cons_zero] at hlast
    have HV2 : Hid (traceF sem p args left = (st2.steps, 0)) := by unfold Hid; rw [HV.out, hrr]
    have HSl := Lib.hid hsl
    have HFin := Lib.hid hfin
    have HLast := Lib.hid hlast
    obtain ⟨V5, c5, rfl, -⟩ := hsl.form
    clear hv hR5 hrun5 hgood hown hown6 hsl hfin hlast hst
    go_wp2_with fail
    refine leaves_cons (f := 82) (args := #[.pointer (some ⟨w.heap.size + 1, 0, none⟩)]) (by simp) (by simp [go_sem]) ?_
    refine (catch_idle (w.heap.size + 1) _).mono ?_
    rintro e u' w'' ⟨rfl, rfl, rfl⟩
    simp [Leaves, settle, results, Tryz.results32, go_sem, HLast.out]
    rw [HV2.out]
    exact ⟨HFin.out, _, rfl, HSl.out⟩
end Go.Proofs.YtdkcjeaabbkdeaaGreatDoor
end
section
namespace Go.Proofs.YtdkcjeaabbkdeaaGreatDoor
open Go.RowKit
set_option linter.unusedVariables false
set_option linter.unusedSimpArgs false

/-- What the instructions of the law's program do. -/
def semL (x : Ins) : List (List Int) → List (List Int) × Int
  | [a, b] => if x.op = 1 then plainOut (primBin x.n a b) x.to else if x.op = 9 then plainOut (scanFold x.n a b) x.to else plainOut (primPack a b) x.to
  | [a] => plainOut (primLen a) x.to
  | _ => ([], 0)
theorem plainOut_ok {r : List Int × Int} {to : List Int} (hto : to.length = 1) (hr : r.1.length ≤ 1048576) (h : (plainOut r to).2 = 0) : (plainOut r to).1.length = to.length ∧ ∀ a ∈ (plainOut r to).1, a.length ≤ 1048576 := by
  unfold plainOut at h ⊢
  by_cases h1 : r.2 = 0
  · simp [h1, hto, hr]
  · simp [h1] at h
theorem allOf_le (d : Nat → Int × Bool) (n : Nat) : (allOf d n).1.length ≤ n := by
  unfold allOf; split <;> simp
theorem primBin_le (n : Int) (a b : List Int) : (primBin n a b).1.length ≤ a.length := by
  unfold primBin
  split
  · simp
  · split
    · simp
    · exact allOf_le _ _
theorem scanFold_le (n : Int) (a b : List Int) : (scanFold n a b).1.length ≤ b.length := by
  unfold scanFold; split <;> simp
theorem primPack_le (a b : List Int) : (primPack a b).1.length ≤ a.length := by
  unfold primPack; split
  · simp
  · exact packed_le _ _ _
theorem primLen_le (a : List Int) : (primLen a).1.length ≤ 1 := by
  unfold primLen; split <;> simp
structure LawIns (x : Ins) : Prop where
  to : x.to.length = 1
  ok : ((x.op = 1 ∨ x.op = 9 ∨ x.op = 3) ∧ x.from_.length = 2) ∨ (x.op = 13 ∧ x.from_.length = 1)
theorem does_law (x : Ins) (h : LawIns x) : Does semL x := by
  intro w vt vf vb vl l hg ht hl hlen hsh
  rcases h.ok with ⟨hop, hf⟩ | ⟨hop, hf⟩
  · obtain ⟨a, b, rfl⟩ : ∃ a b, l = [a, b] := by
      rw [hf] at hlen
      match l, hlen with
      | [a, b], _ => exact ⟨a, b, rfl⟩
    have ha := hsh a (by simp)
    have hb := hsh b (by simp)
    rcases hop with e | e | e
    · have hs : semL x [a, b] = plainOut (primBin x.n a b) x.to := by simp [semL, e]
      rw [hs, e]
      exact ⟨does_bin x.n a b w vt vf vb vl x.to hg ht hl, plainOut_ok h.to (by have := primBin_le x.n a b; omega)⟩
    · have hs : semL x [a, b] = plainOut (scanFold x.n a b) x.to := by simp [semL, e]
      rw [hs, e]
      exact ⟨does_fold x.n a b w vt vf vb vl x.to hg ht hl, plainOut_ok h.to (by have := scanFold_le x.n a b; omega)⟩
    · have hs : semL x [a, b] = plainOut (primPack a b) x.to := by simp [semL, e]
      rw [hs, e]
      exact ⟨does_pack x.n a b w vt vf vb vl x.to hg ht hl, plainOut_ok h.to (by have := primPack_le a b; omega)⟩
  · obtain ⟨a, rfl⟩ : ∃ a, l = [a] := by
      rw [hf] at hlen
      match l, hlen with
      | [a], _ => exact ⟨a, rfl⟩
    have hs : semL x [a] = plainOut (primLen a) x.to := rfl
    rw [hs, hop]
    exact ⟨does_len x.n a w vt vf vb vl x.to hg ht hl, plainOut_ok h.to (by have := primLen_le a; omega)⟩

/-- The law's program. -/
def lawMain : List Ins := [⟨⟨1, 0, [2], [0, 1]⟩, []⟩, ⟨⟨13, 0, [3], [2]⟩, []⟩, ⟨⟨9, 0, [4], [2, 3]⟩, []⟩, ⟨⟨3, 0, [5], [1, 2]⟩, []⟩, ⟨⟨16, 1, [6], [5]⟩, []⟩]
def lawSquare : List Ins := [⟨⟨1, 2, [1], [0, 0]⟩, []⟩]
def lawP : Pr := ⟨[⟨2, lawMain, [4, 6], [7, 7, 2, 9, 4]⟩, ⟨1, lawSquare, [1], []⟩], 0⟩
def lawArgs : List (List Int) := [[1, 2, 3], [0, 1, 0]]
def lawSteps : List Step := [⟨1, 0, 0, 10⟩, ⟨1, 0, 1, 2⟩, ⟨1, 0, 2, 6⟩, ⟨1, 0, 3, 8⟩, ⟨1, 0, 4, 1⟩, ⟨2, 1, 0, 4⟩]
theorem lawP_check : checkB lawP = true := by decide
theorem lawP_sane : Sane lawP := by
  intro f hf
  simp only [lawP, List.mem_cons, List.not_mem_nil, or_false] at hf
  rcases hf with rfl | rfl
  · refine ⟨fun x hx => ?_, fun n hn => ?_⟩
    · simp only [lawMain, List.mem_cons, List.not_mem_nil, or_false] at hx
      rcases hx with rfl | rfl | rfl | rfl | rfl <;> exact ⟨by decide, by simp, by simp⟩
    · simp only [List.mem_cons, List.not_mem_nil, or_false] at hn
      rcases hn with rfl | rfl <;> (unfold inInt; omega)
  · refine ⟨fun x hx => ?_, fun n hn => ?_⟩
    · simp only [lawSquare, List.mem_cons, List.not_mem_nil, or_false] at hx
      subst hx; exact ⟨by decide, by simp, by simp⟩
    · simp only [List.mem_cons, List.not_mem_nil, or_false] at hn
      subst hn; unfold inInt; omega
theorem lawP_does : ∀ f ∈ lawP.funs, ∀ x ∈ f.code, x.op ≠ 16 → Does semL x := by
  intro f hf x hx h16
  refine does_law x ?_
  simp only [lawP, List.mem_cons, List.not_mem_nil, or_false] at hf
  rcases hf with rfl | rfl
  · simp only [lawMain, List.mem_cons, List.not_mem_nil, or_false] at hx
    rcases hx with rfl | rfl | rfl | rfl | rfl
    · exact ⟨rfl, .inl ⟨.inl rfl, rfl⟩⟩
    · exact ⟨rfl, .inr ⟨rfl, rfl⟩⟩
    · exact ⟨rfl, .inl ⟨.inr (.inl rfl), rfl⟩⟩
    · exact ⟨rfl, .inl ⟨.inr (.inr rfl), rfl⟩⟩
    · exact absurd rfl h16
  · simp only [lawSquare, List.mem_cons, List.not_mem_nil, or_false] at hx
    subst hx
    exact ⟨rfl, .inl ⟨.inl rfl, rfl⟩⟩
theorem law_trace : traceF semL lawP lawArgs 100 = (lawSteps, 0) := by kernel_rfl
theorem law_fuel : traceF semL lawP lawArgs 5 = ([], 12) := by kernel_rfl
theorem law_range : traceF semL lawP lawArgs (-1) = ([], 2) := by kernel_rfl
theorem law_none (l : Int) : traceF semL ⟨[], 0⟩ [] l = ([], 1) := by
  unfold traceF startedB
  have h : checkB ⟨[], 0⟩ = false := by decide
  simp [h]
theorem law_nil : traceF semL lawP [] 100 = ([], 2) := by kernel_rfl
end Go.Proofs.YtdkcjeaabbkdeaaGreatDoor
end
