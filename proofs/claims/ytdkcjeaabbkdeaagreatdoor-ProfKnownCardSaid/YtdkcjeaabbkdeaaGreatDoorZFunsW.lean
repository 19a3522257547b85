/- Package prof: Funs. -/
import Derived.Test.YtdkcjeaabbkdeaaGreatDoorZStepsI
set_option linter.unusedVariables false
set_option linter.unusedSimpArgs false
set_option linter.unnecessarySimpa false
set_option linter.unusedSectionVars false
namespace Go.Proofs.YtdkcjeaabbkdeaaGreatDoor
open Go.RowKit Go.Sort Go.Shelf
set_option linter.unusedVariables false
set_option linter.unusedSimpArgs false
attribute [local go_sem] Oper.semAt_some

theorem infoFun : (Tryz.prog.info? 68).map (fun i => (i.zero, i.size, i.bytes)) = some (some (.agg #[.int .i64 0, .int .i64 0, .int .i64 0, .int .i64 0]), 4, 32) := by kernel_rfl
theorem made4 (n : Nat) : madeCells (Value.cells (.agg #[.int .i64 0, .int .i64 0, .int .i64 0, .int .i64 0])) n = (nums (List.replicate n 0)).toArray := by
  have hc : Value.cells (.agg #[.int .i64 0, .int .i64 0, .int .i64 0, .int .i64 0]) = #[.int .i64 0, .int .i64 0, .int .i64 0, .int .i64 0] := by kernel_rfl
  rw [hc]
  apply Array.ext
  · simp [size_madeCells, nums]
  · intro i h1 h2
    simp only [madeCells, nums, List.map_replicate, List.getElem_toArray, List.getElem_replicate, Array.getElem_map, Array.getElem_range]
    have : i % 4 = 0 ∨ i % 4 = 1 ∨ i % 4 = 2 ∨ i % 4 = 3 := by omega
    simp only [List.size_toArray, List.length_cons, List.length_nil, Nat.reduceAdd]
    rcases this with h | h | h | h <;> rw [h] <;> rfl

def FunsPost (p : Pr) (r : List Step × Int) (w : World) (e : Ending) (w' : World) : Prop := RowKit.Below w.heap.size w w' ∧ ∃ v err, e = .returned (.tuple #[v, .int .i64 err]) ∧
  if r.2 ≠ 0 then err = r.2 ∧ v = .slice none 0 0 else
    err = 0 ∧ ∃ g, v = .slice (some ⟨g, 0, none⟩) p.funs.length p.funs.length ∧ w'.heap[g]? = some (.cells (nums (funsAt p r.1 r.1.length)).toArray 68) ∧ w.heap.size ≤ g

set_option maxRecDepth 100000 in
set_option maxHeartbeats 2000000 in
theorem prof_funs (p : Pr) (sem : Ins → List (List Int) → List (List Int) × Int) (cp : List Value) (args : List (List Int)) (va : Value) (left : Int) (w : World) (hp : RPr w cp p) (hs : Sane p) (hd : ∀ f ∈ p.funs, ∀ x ∈ f.code, x.op ≠ 16 → Does sem x) (hg : Glob w) (ha : Lists w va args)
    (hok : ∀ s ∈ (traceF sem p args left).1, StepIn p s) (hlen : (traceF sem p args left).1.length ≤ 1000000) (hfl : p.funs.length ≤ 1000) (hmain : 0 ≤ p.main ∧ p.main < p.funs.length) :
    Calls Tryz.prog 15 #[.agg cp.toArray, va, .int .i64 left] w (FunsPost p (traceF sem p args left) w) := by
  have HT := Lib.hid (fun W (hb : RowKit.Below w.heap.size w W) => vec_trace p sem cp args va left W (stays_pr _ _ _ _ (reads_below hb) hp) hs hd (hg.below hb) (ha.below hb))
  have HP := Lib.hid hp
  have HOK := Lib.hid hok
  generalize hr : traceF sem p args left = r at *
  clear hr
  obtain ⟨r1, r2⟩ := r
  obtain ⟨vfs, rfl, hfs⟩ := hp
  obtain ⟨S, sc, rfl, hsm, -⟩ := hfs.form
  obtain ⟨A, ac, rfl, ham⟩ := ha.form
  have HFs := Lib.hid hfs
  have hlen' : r1.length ≤ 1000000 := hlen
  have HIn := Lib.hid (stkAt_in p r1 HOK.out)
  clear hs hd hg ha hfs hok hlen
  have hb1 := below1 w (.cells #[.slice S p.funs.length sc, .int .i64 p.main] 25)
  have HQ := Lib.hid (alloc_new w (.cells #[.slice S p.funs.length sc, .int .i64 p.main] 25))
  have HB1 := Lib.hid hb1
  have HT1 := Lib.hid (HT.out _ hb1)
  clear hb1
  refine calls_of_wpV Tryz.func15 rfl ?_
  simp only [Tryz.ntmps15, List.size_toArray, List.length_cons, List.length_nil, Nat.reduceAdd, Nat.reduceSub, Array.replicate_succ, Array.replicate_zero, List.push_toArray, List.append_toArray, List.nil_append, List.cons_append]
  refine wpV_seq (wpV_of_wp ?_)
  go_wp2
  refine wpV_seq (wpV_of_wp ?_)
  go_wp2_with fail
  refine HT1.out.mono ?_
  rintro e w1 ⟨hb1, vt, rfl, hst⟩
  have HB1' := Lib.hid (RowKit.Below.trans HB1.out (hb1.mono HB1.out.size))
  have HQ1 := Lib.hid (heap_keep hb1 HQ.out)
  have HSt := Lib.hid hst
  obtain ⟨T, tc, rfl, htm⟩ := hst.form
  clear hb1 hst
  by_cases hr2 : r2 = 0
  case neg =>
    go_wp2_with fail
    refine wpV_seq (wpV_of_wp ?_)
    go_wp2_with fail
    refine leaveM_nil (results_tmp2 rfl _ _ _) ?_
    refine ⟨HB1'.out, _, r2, rfl, ?_⟩
    rw [if_pos hr2]
    exact ⟨rfl, rfl⟩
  subst hr2
  go_wp2_with fail
  refine wpV_seq (wpV_of_wp ?_)
  go_wp2_with fail
  obtain ⟨i0, hi, hzz⟩ := Option.map_eq_some_iff.1 infoFun
  simp only [Prod.mk.injEq] at hzz
  obtain ⟨hz0, hz1, hz2⟩ := hzz
  have hmk := run_make (P := Tryz.prog) w1 33 68 i0 _ Tryz.underlying33 hi hz0 .i64 .i64 p.funs.length p.funs.length (by omega) (Int.le_refl _) (by rw [hz2]; omega) (by omega)
  simp only [Int.toNat_natCast] at hmk
  rw [hz1, made4] at hmk
  have k0 := (block_cell HQ1.out 0 (by simp)).1
  simp only [List.getElem_toArray, List.getElem_cons_zero] at k0
  clear hz0 hz1 hz2 hi
  refine wpV_seq (wpV_of_wp ?_)
  go_wp2_with fail
  have HSt1 := Lib.hid HSt.out
  have hlow : RowKit.Below w1.heap.size w1 ((w1.alloc (.cells (nums (List.replicate (p.funs.length * 4) 0)).toArray 68)).alloc (.cells #[.slice (some ⟨w1.heap.size, 0, none⟩) p.funs.length p.funs.length] 33)) := below2 _ _ _
  have hrow := heap_alloc (alloc_new w1 (.cells (nums (List.replicate (p.funs.length * 4) 0)).toArray 68)) (.cells #[.slice (some ⟨w1.heap.size, 0, none⟩) p.funs.length p.funs.length] 33)
  have hbox := alloc_new (w1.alloc (.cells (nums (List.replicate (p.funs.length * 4) 0)).toArray 68)) (.cells #[.slice (some ⟨w1.heap.size, 0, none⟩) p.funs.length p.funs.length] 33)
  rw [World.size_alloc] at hbox
  have hsz : ((w1.alloc (.cells (nums (List.replicate (p.funs.length * 4) 0)).toArray 68)).alloc (.cells #[.slice (some ⟨w1.heap.size, 0, none⟩) p.funs.length p.funs.length] 33)).heap.size = w1.heap.size + 2 := by simp
  generalize hw2 : (w1.alloc (.cells (nums (List.replicate (p.funs.length * 4) 0)).toArray 68)).alloc (.cells #[.slice (some ⟨w1.heap.size, 0, none⟩) p.funs.length p.funs.length] 33) = w2 at *
  have hF0 : RowKit.Below w1.heap.size w1 w2 ∧ w2.heap.size = w1.heap.size + 2 ∧ w2.heap[w1.heap.size]? = some (.cells (nums (fillS p.funs.length 0)).toArray 68) ∧ w2.heap[w1.heap.size + 1]? = some (.cells #[.slice (some ⟨w1.heap.size, 0, none⟩) p.funs.length p.funs.length] 33) := ⟨hlow, hsz, hrow, hbox⟩
  have HF0 := Lib.hid hF0
  have HQlt : Hid (w.heap.size < w1.heap.size) := by unfold Hid; exact (Array.getElem?_eq_some_iff.1 HQ1.out).1
  have b0 := (block_cell hbox 0 (by simp)).1
  simp only [List.getElem_toArray, List.getElem_cons_zero] at b0
  clear hmk hlow hrow hbox hw2 hF0 hsz k0
  generalize hR : w1.heap.size = R at *
  refine wpV_seq (wpV_of_wp ?_)
  go_wp2_with fail
  clear b0
  go_loopw [11, 32] (fun _ i wr => ∃ k : Nat, k ≤ p.funs.length ∧ i = .int .i64 k ∧ RowKit.Below R w1 wr ∧ wr.heap.size = R + 2 ∧ wr.heap[R]? = some (.cells (nums (fillS p.funs.length k)).toArray 68) ∧ wr.heap[R + 1]? = some (.cells #[.slice (some ⟨R, 0, none⟩) p.funs.length p.funs.length] 33)) (fun _ i _ => p.funs.length - (intOf i).toNat)
  case atStart => exact ⟨0, Nat.zero_le _, rfl, HF0.out⟩
  case round =>
  obtain ⟨k, hk, rfl, hlow, hsz, hrow, hbox⟩ := hrel
  have b0 := (block_cell hbox 0 (by simp)).1
  simp only [List.getElem_toArray, List.getElem_cons_zero] at b0
  have HL := Lib.hid (And.intro hlow (And.intro hsz (And.intro hrow hbox)))
  by_cases hlt : k < p.funs.length
  case pos =>
    have rk := block_cell hrow (k * 4) (by rw [List.size_toArray, nums_length, fillS_length]; omega)
    obtain ⟨rk1, rk2⟩ := rk
    clear hlow hsz hrow hbox
    go_wp2_with fail
    go_roundw
    case rel =>
      obtain ⟨hlow, hsz, hrow, hbox⟩ := HL.out
      refine ⟨k + 1, hlt, by go_num, hlow.setCell (p := ⟨R, _, none⟩) (Nat.le_refl _) _, by rw [World.size_setCell]; exact hsz, ?_, ?_⟩
      · have := heap_setCell hrow (k * 4) (.int .i64 (k : Int))
        unfold fillS
        rw [nums_set]; simpa using this
      · rw [Below.heap_setCell _ _ _ _ (by simp)]; exact hbox
    case measure => simp [intOf]; omega
  obtain rfl : k = p.funs.length := by omega
  clear hlt hlow hsz hrow hbox
  go_wp2_with fail
  obtain ⟨hlow, hsz, hrow, hbox⟩ := HL.out
  obtain ⟨M, hM⟩ : ∃ M : Nat, p.main = M := ⟨p.main.toNat, by omega⟩
  have hML : M < p.funs.length := by omega
  have hm0 : (0 : Int) ≤ (M : Int) := by omega
  have hm1 : (M : Int) < (p.funs.length : Int) := by omega
  have hq1 : wr.heap[w.heap.size]? = some (.cells #[.slice S p.funs.length sc, .int .i64 p.main] 25) := (hlow.block _ HQlt.out).trans HQ1.out
  have k1 := (block_cell hq1 1 (by simp)).1
  simp only [List.getElem_toArray, List.getElem_cons_zero, List.getElem_cons_succ] at k1
  rw [hM] at k1
  obtain ⟨rk1, rk2⟩ := block_cell hrow (M * 4 + 1) (by rw [List.size_toArray, nums_length, fillS_length]; omega)
  clear hlow hsz hrow hbox hq1 hk
  refine wpV_seq (wpV_of_wp ?_)
  go_wp2_with fail
  have hF : RowKit.Below R w1 (wr.setCell ⟨R, M * 4 + 1, none⟩ (.int .i64 1)) ∧ (wr.setCell ⟨R, M * 4 + 1, none⟩ (.int .i64 1)).heap.size = R + 2 ∧ (wr.setCell ⟨R, M * 4 + 1, none⟩ (.int .i64 1)).heap[R]? = some (.cells (nums (funs0 p)).toArray 68) ∧ (wr.setCell ⟨R, M * 4 + 1, none⟩ (.int .i64 1)).heap[R + 1]? = some (.cells #[.slice (some ⟨R, 0, none⟩) p.funs.length p.funs.length] 33) := by
    obtain ⟨hlow, hsz, hrow, hbox⟩ := HL.out
    refine ⟨hlow.setCell (p := ⟨R, _, none⟩) (Nat.le_refl _) _, by rw [World.size_setCell]; exact hsz, ?_, ?_⟩
    · have := heap_setCell hrow (M * 4 + 1) (.int .i64 1)
      unfold funs0
      rw [nums_set, hM, Int.toNat_natCast]; simpa using this
    · rw [Below.heap_setCell _ _ _ _ (by simp)]; exact hbox
  clear HL k1 rk1 rk2
  generalize wr.setCell ⟨R, M * 4 + 1, none⟩ (.int .i64 1) = w3 at *
  have HF := Lib.hid hF
  have HM := Lib.hid hM
  clear hF hM
  refine wpV_seq (wpV_seq (wpV_of_wp ?_))
  go_wp2_with fail
  refine (prof_steps _ _ _ _).mono ?_
  rintro e w4 ⟨rfl, rfl⟩
  go_wp2_with fail
  refine wpV_block ?_
  obtain ⟨hlow, hsz, hrow, hbox⟩ := HF.out
  have hs4 : (w3.alloc (.cells #[.slice T r1.length tc] 53)).heap.size = R + 3 := by simp [hsz]
  have hq4 : (w3.alloc (.cells #[.slice T r1.length tc] 53)).heap[R + 2]? = some (.cells #[.slice T r1.length tc] 53) := by have := alloc_new w3 (.cells #[.slice T r1.length tc] 53); rwa [hsz] at this
  have hF4 : FnAt w1 R (R + 1) (R + 2) p.funs.length T r1.length tc (R + 3) (funsAt p r1 0) (.slice none 0 0) (stkAt r1 0) (w3.alloc (.cells #[.slice T r1.length tc] 53)) :=
    ⟨by rw [hR]; exact hlow.alloc (by omega) _, by omega, by omega, heap_alloc hrow _, heap_alloc hbox _, hq4, World.ownsRow_nil _ _ _ _⟩
  have HF4 := Lib.hid hF4
  have hsz' : w3.heap.size = R + 2 := hsz
  rw [hsz']
  clear hlow hsz hrow hbox hq4 hF4 HF
  generalize w3.alloc (.cells #[.slice T r1.length tc] 53) = w4 at *
  clear hsz' w3
  refine rngZ (gf := 101) (lb := #[.pointer (some ⟨R + 2, 0, none⟩)]) (by simp [Act.eval]) enters101 ⟨_, Tryz.func15⟩ r1.length (fun i v => stepArg r1 i v) (fun i v => rfl) (.slice none 0 0)
    (fun k v W => FnAt w1 R (R + 1) (R + 2) p.funs.length T r1.length tc (R + 3) (funsAt p r1 k) v (stkAt r1 k) W)
    (fun k v W => FnAt w1 R (R + 1) (R + 2) p.funs.length T r1.length tc (R + 3) (funsAt p r1 k) v (stkAt r1 (k + 1)) W)
    (fun _ _ => False) (fun _ _ => False) ?hI ?hYp ?hIB ?hIx ?h0 ?hround ?hiter ?hdone ?hstop ?hpanic
  case hI => exact fun i v W o hl h => h.putObj hl (by omega)
  case hYp => exact fun i v W o hl h => h.putObj hl (by omega)
  case hIB => exact fun i v W W' h hb => h.below hb
  case hIx => exact fun _ _ _ _ h => h.elim
  case h0 => exact fun o => HF4.out.below (below2 _ _ _)
  case hiter =>
    rintro J JY Jx Jp W1 hJI hJB hJY hY h0 hb hlt
    refine steps_iter _ (R + 2) r1 T tc (R + 3) hlen' J JY Jx Jp (fun i v W hj => ?_) (fun i v v' W W' hi hj hg hloc ho => ?_) (fun i v W hi hj => hY i v W hi hj) (fun s hs => (HOK.out s hs).deep) W1 h0
    · have h := hJI i v W hj
      exact ⟨h.above, (block_cell h.seq 0 (by simp)).1, Sl.reads stays_step HSt.out (reads_below h.low), h.own⟩
    · have h := hJI i v W hj
      refine hJY i v v' W W' hj (h.grown hg ho) (Books.of_grown hg fun k hk => ?_)
      rcases h.own.2 with ⟨rfl, -⟩ | ⟨g, cap, cur, rfl, -, hh, -⟩
      · cases hk
      · simp only [Value.ownBlock, Option.some.injEq] at hk
        subst hk
        exact ⟨_, hh, rfl⟩
  case hdone =>
    rintro v W hF5 hD
    have HF5 := Lib.hid hF5
    have c0 := (block_cell hF5.box 0 (by simp)).1
    simp only [List.getElem_toArray, List.getElem_cons_zero, List.getElem_cons_succ] at c0
    have HD := Lib.hid hD
    clear hF5 hD
    refine wpV_of_wp ?_
    simp only [marked]
    go_wp2_with fail
    have hD := HD.out
    refine leaveM_mark (by simp) hD (leaveM_nil (results_tmp2 rfl _ _ _) ?_)
    have hl := HF5.out.low
    refine ⟨below_putObj (RowKit.Below.trans HB1'.out (hl.mono (by have := HQlt.out; omega))) (by have := HQlt.out; omega), _, 0, rfl, ?_⟩
    rw [if_neg (by simp)]
    exact ⟨rfl, R, rfl, heap_putBook hD rfl HF5.out.row rfl, by have := HQlt.out; omega⟩
  case hstop => exact fun _ _ h => h.elim
  case hpanic => exact fun _ _ h => h.elim
  case hround =>
    rintro i v W hi hY hsz
    obtain ⟨U, uc, rfl⟩ : ∃ U uc, v = .slice U (stkAt r1 (i + 1)).length uc := by
      rcases hY.own.2 with ⟨rfl, h0⟩ | ⟨g, cap, cur, rfl, -, -, -⟩
      · exact ⟨none, 0, by rw [h0]⟩
      · exact ⟨_, _, rfl⟩
    have hst : r1.getD i ⟨0, 0, 0, 0⟩ = r1[i] := by rw [List.getD_eq_getElem?_getD, List.getElem?_eq_getElem hi]; rfl
    have hok := HOK.out r1[i] (List.getElem_mem hi)
    have hsu : funsAt p r1 (i + 1) = wholeS (stkAt r1 (i + 1)) r1[i] (ownS r1[i] (callS p r1[i] (funsAt p r1 i))) (stkAt r1 (i + 1)).length := by show funS p (stkAt r1 (i + 1)) (r1.getD i ⟨0, 0, 0, 0⟩) (funsAt p r1 i) = _; rw [hst]; rfl
    have hin := HIn.out (i + 1)
    have hstl := stkAt_length r1 (i + 1)
    have hcl := funsAt_length p r1 i
    simp only [stepArg, hst, cutV]
    rw [hsu]
    generalize funsAt p r1 i = cs at *
    generalize stkAt r1 (i + 1) = st at *
    generalize hs : r1[i] = s at *
    clear hs hst hsu
    have HY := Lib.hid hY
    have HIn2 := Lib.hid hin
    have HOk := Lib.hid hok
    clear hY hin hok
    gi_wp2
    refine ⟨Books.of_below (below1 W _), ?_⟩
    rintro W₂ ⟨r, hW₂⟩ ⟨r', hl⟩
    have hY2 : FnAt w1 R (R + 1) (R + 2) p.funs.length T r1.length tc (R + 3) cs (.slice U st.length uc) st W₂ := by rw [hW₂]; exact (HY.out.below (below1 W _)).putObj ⟨_, hl⟩ (by omega)
    have hx : W₂.heap[W.heap.size]? = some (.cells #[.int .i64 s.deep, .int .i64 s.fn, .int .i64 s.ins, .int .i64 s.work, .slice U st.length st.length] 101) := by rw [hW₂]; exact heap_putObj ⟨_, hl⟩ (alloc_new W _) rfl
    have hXR : R + 3 ≤ W.heap.size := HY.out.above
    clear hW₂ hl r r' HY hsz
    generalize W.heap.size = X at *
    have hlow : RowKit.Below R w1 W₂ := by have := hY2.low; rwa [hR] at this
    have hq2 : W₂.heap[w.heap.size]? = some (.cells #[.slice S p.funs.length sc, .int .i64 p.main] 25) := (hlow.block _ HQlt.out).trans HQ1.out
    have k0 := (block_cell hq2 0 (by simp)).1
    have x1 := (block_cell hx 1 (by simp)).1
    have x2 := (block_cell hx 2 (by simp)).1
    have x3 := (block_cell hx 3 (by simp)).1
    have x4 := (block_cell hx 4 (by simp)).1
    simp only [List.getElem_toArray, List.getElem_cons_zero, List.getElem_cons_succ] at k0 x1 x2 x3 x4
    obtain ⟨F, hF⟩ : ∃ F : Nat, s.fn = F := ⟨s.fn.toNat, by have := HOk.out.fn; omega⟩
    obtain ⟨I, hI⟩ : ∃ I : Nat, s.ins = I := ⟨s.ins.toNat, by have := HOk.out.ins; omega⟩
    have hFl : F < p.funs.length := by have := HOk.out.fn; omega
    have hfn : fnOf p s = p.funs[F] := by unfold fnOf; rw [hF, Int.toNat_natCast, List.getD_eq_getElem?_getD, List.getElem?_eq_getElem hFl]; rfl
    have hIl : I < p.funs[F].code.length := by have := HOk.out.ins; rw [hfn] at this; omega
    have hins : insOf p s = p.funs[F].code[I] := by unfold insOf; rw [hfn, hI, Int.toNat_natCast, List.getD_eq_getElem?_getD, List.getElem?_eq_getElem hIl]; rfl
    obtain ⟨fb, foff, vc, vo, vat, hSe, -, d1, -, -, hcode, -, -⟩ := fn_at (Sl.reads stays_fn HFs.out ((reads_below HB1'.out).trans (reads_below (by rw [hR]; exact hlow)))) F hFl
    obtain ⟨C, cc, rfl, hcm, -⟩ := hcode.form
    obtain ⟨rows, hrows⟩ := code_rows hcode
    obtain ⟨b, off, To, toc, Fr, frc, Bo, boc, hCe, -, e0, e1, e2, e3, e4, -, -⟩ := hrows I hIl
    rw [← hins] at e0 e1 e2 e3 e4
    have HCall := Lib.hid (HOk.out.call)
    have HCs : Hid (callS p s cs = if (insOf p s).op = 16 then addAt cs ((insOf p s).n.toNat * 4 + 1) 1 else cs) := rfl
    generalize insOf p s = x at *
    subst hSe hCe
    rw [hF] at x1
    rw [hI] at x2
    have hcl2 : (I : Int) < (p.funs[F].code.length : Int) := by omega
    clear hcode hrows hins hfn
    generalize p.funs[F].code.length = cl at *
    have hf0 : (0 : Int) ≤ (F : Int) := by omega
    have hf1 : (F : Int) < (p.funs.length : Int) := by omega
    have hi0 : (0 : Int) ≤ (I : Int) := by omega
    have hHF := Lib.hid hF
    have H2 := Lib.hid hY2
    have HX := Lib.hid hx
    have HLow := Lib.hid hlow
    have hS : ∀ W', RowKit.Below W₂.heap.size W₂ W' → RowKit.Below W₂.heap.size W₂ W' ∧ W'.cell? ⟨w.heap.size, 0, none⟩ = some (.slice (some ⟨fb, foff, none⟩) p.funs.length sc) ∧ W'.cell? ⟨X, 1, none⟩ = some (.int .i64 F) ∧ W'.cell? ⟨X, 2, none⟩ = some (.int .i64 I) ∧ W'.cell? ⟨fb, foff + F * 4 + 1, none⟩ = some (.slice (some ⟨b, off, none⟩) cl cc) ∧
        W'.cell? ⟨b, off + I * 5, none⟩ = some (.int .i64 x.op) ∧ W'.cell? ⟨b, off + I * 5 + 1, none⟩ = some (.int .i64 x.n) ∧ W'.cell? ⟨b, off + I * 5 + 2, none⟩ = some (.slice To x.to.length toc) ∧ W'.cell? ⟨b, off + I * 5 + 3, none⟩ = some (.slice Fr x.from_.length frc) ∧ W'.cell? ⟨b, off + I * 5 + 4, none⟩ = some (.slice Bo x.body.length boc) := fun W' h =>
      ⟨h, cell_keep h k0, cell_keep h x1, cell_keep h x2, cell_keep h d1, cell_keep h e0, cell_keep h e1, cell_keep h e2, cell_keep h e3, cell_keep h e4⟩
    have HS := Lib.hid hS
    have hHeld0 := hS _ (below_drew W₂)
    clear hS hY2 hx hlow hq2 k0 x1 x2 x3 x4 d1 e0 e1 e2 e3 e4 hF hI hFl hIl hcm
    gi_wp2
    refine wpIn_scope ?_
    gi_upto_region 13 with (fail)
    refine round_region (S := fun W' => RowKit.Below W₂.heap.size W₂ W' ∧ W'.cell? ⟨w.heap.size, 0, none⟩ = some (.slice (some ⟨fb, foff, none⟩) p.funs.length sc) ∧ W'.cell? ⟨X, 1, none⟩ = some (.int .i64 F) ∧ W'.cell? ⟨X, 2, none⟩ = some (.int .i64 I) ∧ W'.cell? ⟨fb, foff + F * 4 + 1, none⟩ = some (.slice (some ⟨b, off, none⟩) cl cc) ∧
        W'.cell? ⟨b, off + I * 5, none⟩ = some (.int .i64 x.op) ∧ W'.cell? ⟨b, off + I * 5 + 1, none⟩ = some (.int .i64 x.n) ∧ W'.cell? ⟨b, off + I * 5 + 2, none⟩ = some (.slice To x.to.length toc) ∧ W'.cell? ⟨b, off + I * 5 + 3, none⟩ = some (.slice Fr x.from_.length frc) ∧ W'.cell? ⟨b, off + I * 5 + 4, none⟩ = some (.slice Bo x.body.length boc)) followsMixed (by kernel_rfl) (fun ⟨_, _, h⟩ => h) hHeld0 (fun hHeld => ?_)
    clear hHeld0
    refine wpAnyH_take (i := 0) (oi := _) (v := ?_) rfl (by kernel_rfl) (by kernel_rfl) (by kernel_rfl) (fun _ _ _ h => h) (Or.inl ⟨by rfl, ?_⟩) (by assumption) ?_
    rotate_left
    · intro w hSw
      go_split_ands
      go_simp
      try with_reducible rfl
    try simp only [Act.put, List.setIfInBounds_toArray, List.set_cons_zero, List.set_cons_succ]
    refine wpAnyH_take (i := 1) (oi := _) (v := ?_) rfl (by kernel_rfl) (by kernel_rfl) (by kernel_rfl) (fun _ _ _ h => h) (Or.inl ⟨by rfl, ?_⟩) (by assumption) ?_
    rotate_left
    · intro w hSw
      go_split_ands
      go_simp
      try with_reducible rfl
    try simp only [Act.put, List.setIfInBounds_toArray, List.set_cons_zero, List.set_cons_succ]
    refine wpAnyH_take (i := 2) (oi := _) (v := ?_) rfl (by kernel_rfl) (by kernel_rfl) (by kernel_rfl) (fun _ _ _ h => h) (Or.inl ⟨by rfl, ?_⟩) (by assumption) ?_
    rotate_left
    · intro w hSw
      go_split_ands
      go_simp
      try with_reducible rfl
    try simp only [Act.put, List.setIfInBounds_toArray, List.set_cons_zero, List.set_cons_succ]
    refine wpAnyH_take (i := 3) (oi := _) (v := ?_) rfl (by kernel_rfl) (by kernel_rfl) (by kernel_rfl) (fun _ _ _ h => h) (Or.inl ⟨by rfl, ?_⟩) (by assumption) ?_
    rotate_left
    · intro w hSw
      go_split_ands
      go_simp
      try with_reducible rfl
    try simp only [Act.put, List.setIfInBounds_toArray, List.set_cons_zero, List.set_cons_succ]
    refine wpAnyH_take (i := 4) (oi := _) (v := ?_) rfl (by kernel_rfl) (by kernel_rfl) (by kernel_rfl) (fun _ _ _ h => h) (Or.inl ⟨by rfl, ?_⟩) (by assumption) ?_
    rotate_left
    · intro w hSw
      go_split_ands
      go_simp
      try with_reducible rfl
    try simp only [Act.put, List.setIfInBounds_toArray, List.set_cons_zero, List.set_cons_succ]
    refine wpAnyH_take (i := 5) (oi := _) (v := ?_) rfl (by kernel_rfl) (by kernel_rfl) (by kernel_rfl) (fun _ _ _ h => h) (Or.inl ⟨by rfl, ?_⟩) (by assumption) ?_
    rotate_left
    · intro w hSw
      go_split_ands
      go_simp
      try with_reducible rfl
    try simp only [Act.put, List.setIfInBounds_toArray, List.set_cons_zero, List.set_cons_succ]
    refine wpAnyH_take (i := 6) (oi := _) (v := ?_) rfl (by kernel_rfl) (by kernel_rfl) (by kernel_rfl) (fun _ _ _ h => h) (Or.inl ⟨by rfl, ?_⟩) (by assumption) ?_
    rotate_left
    · intro w hSw
      go_split_ands
      go_simp
      try with_reducible rfl
    try simp only [Act.put, List.setIfInBounds_toArray, List.set_cons_zero, List.set_cons_succ]
    refine wpAnyH_take (i := 7) (oi := _) (v := ?_) rfl (by kernel_rfl) (by kernel_rfl) (by kernel_rfl) (fun _ _ _ h => h) (Or.inl ⟨by rfl, ?_⟩) (by assumption) ?_
    rotate_left
    · intro w hSw
      go_split_ands
      go_simp
      try with_reducible rfl
    try simp only [Act.put, List.setIfInBounds_toArray, List.set_cons_zero, List.set_cons_succ]
    refine wpAnyH_take (i := 8) (oi := _) (v := ?_) rfl (by kernel_rfl) (by kernel_rfl) (by kernel_rfl) (fun _ _ _ h => h) (Or.inl ⟨by rfl, ?_⟩) (by assumption) ?_
    rotate_left
    · intro w hSw
      go_split_ands
      go_simp
      try with_reducible rfl
    try simp only [Act.put, List.setIfInBounds_toArray, List.set_cons_zero, List.set_cons_succ]
    refine wpAnyH_take (i := 9) (oi := _) (v := ?_) rfl (by kernel_rfl) (by kernel_rfl) (by kernel_rfl) (fun _ _ _ h => h) (Or.inl ⟨by rfl, ?_⟩) (by assumption) ?_
    rotate_left
    · intro w hSw
      go_split_ands
      go_simp
      try with_reducible rfl
    try simp only [Act.put, List.setIfInBounds_toArray, List.set_cons_zero, List.set_cons_succ]
    refine wpAnyH_take (i := 10) (oi := _) (v := ?_) rfl (by kernel_rfl) (by kernel_rfl) (by kernel_rfl) (fun _ _ _ h => h) (Or.inl ⟨by rfl, ?_⟩) (by assumption) ?_
    rotate_left
    · intro w hSw
      go_split_ands
      go_simp
      try with_reducible rfl
    try simp only [Act.put, List.setIfInBounds_toArray, List.set_cons_zero, List.set_cons_succ]
    refine wpAnyH_take (i := 11) (oi := _) (v := ?_) rfl (by kernel_rfl) (by kernel_rfl) (by kernel_rfl) (fun _ _ _ h => h) (Or.inl ⟨by rfl, ?_⟩) (by assumption) ?_
    rotate_left
    · intro w hSw
      go_split_ands
      go_simp
      try with_reducible rfl
    try simp only [Act.put, List.setIfInBounds_toArray, List.set_cons_zero, List.set_cons_succ]
    refine wpAnyH_take (i := 12) (oi := _) (v := ?_) rfl (by kernel_rfl) (by kernel_rfl) (by kernel_rfl) (fun _ _ _ h => h) (Or.inl ⟨by rfl, ?_⟩) (by assumption) ?_
    rotate_left
    · intro w hSw
      go_split_ands
      go_simp
      try with_reducible rfl
    try simp only [Act.put, List.setIfInBounds_toArray, List.set_cons_zero, List.set_cons_succ]
    refine wpAnyH_ready (rs := [13]) (by kernel_rfl) (by simp) ?_
    refine AllReadyH.cons (o := _) rfl (fun K hK => ?_) AllReadyH.nil
    have HK := Lib.hid hK; clear hK
    go_simp
    refine HK.out _ _ (HS.out _ (below_into (below_drew W₂) (by simp) (below1 _ _))) (fun hHeld => ?_)
    clear HK K
    try simp only [Act.put, List.setIfInBounds_toArray, List.set_cons_zero, List.set_cons_succ]
    refine wpAnyH_ready (rs := [14]) (by kernel_rfl) (by simp) ?_
    refine AllReadyH.cons (o := _) rfl (fun K hK => ?_) AllReadyH.nil
    have HK := Lib.hid hK; clear hK
    go_simp
    refine HK.out _ _ (HS.out _ (below1 _ _).drew) (fun hHeld => ?_)
    refine wpAnyH_done (by kernel_rfl) ?_ _
    clear HK K hHeld HS
    have hb5 : RowKit.Below W₂.heap.size W₂ (W₂.alloc (.cells #[.int .i64 x.op, .int .i64 x.n, .slice To x.to.length toc, .slice Fr x.from_.length frc, .slice Bo x.body.length boc] 63)).drew := (below1 _ _).drew
    have hz : (W₂.alloc (.cells #[.int .i64 x.op, .int .i64 x.n, .slice To x.to.length toc, .slice Fr x.from_.length frc, .slice Bo x.body.length boc] 63)).drew.heap[W₂.heap.size]? = some (.cells #[.int .i64 x.op, .int .i64 x.n, .slice To x.to.length toc, .slice Fr x.from_.length frc, .slice Bo x.body.length boc] 63) := alloc_new _ _
    have H5 := Lib.hid (H2.out.below hb5)
    have HX5 := Lib.hid (heap_keep hb5 HX.out)
    have HBk := Lib.hid (Books.of_below hb5)
    clear HX HLow hb5
    generalize (W₂.alloc (.cells #[.int .i64 x.op, .int .i64 x.n, .slice To x.to.length toc, .slice Fr x.from_.length frc, .slice Bo x.body.length boc] 63)).drew = W5 at *
    generalize W₂.heap.size = Z at *
    have z0 := (block_cell hz 0 (by simp)).1
    have z1 := (block_cell hz 1 (by simp)).1
    simp only [List.getElem_toArray, List.getElem_cons_zero, List.getElem_cons_succ] at z0 z1
    have c0 := (block_cell H5.out.box 0 (by simp)).1
    simp only [List.getElem_toArray, List.getElem_cons_zero, List.getElem_cons_succ] at c0
    clear hz
    gi_upto_if 64 with (fail)
    gi_cut [] from 65 (fun wx => FnAt w1 R (R + 1) (R + 2) p.funs.length T r1.length tc (R + 3) (callS p s cs) (.slice U st.length uc) st wx ∧ wx.heap[X]? = some (.cells #[.int .i64 s.deep, .int .i64 s.fn, .int .i64 s.ins, .int .i64 s.work, .slice U st.length st.length] 101) ∧ Books W₂ wx)
    case first =>
      by_cases hop : x.op = 16
      case neg =>
        gi_wp2
        gi_meet
        case rel =>
          rw [HCs.out, if_neg hop]
          exact ⟨H5.out, HX5.out, HBk.out⟩
      case pos =>
        obtain ⟨N, hN⟩ : ∃ N : Nat, x.n = N := ⟨x.n.toNat, by have := HCall.out hop; omega⟩
        have hNl : N < p.funs.length := by have := HCall.out hop; omega
        have hn0 : (0 : Int) ≤ (N : Int) := by omega
        have hn1 : (N : Int) < (p.funs.length : Int) := by omega
        have r1' := H5.out.cell (N * 4 + 1) (by rw [hcl]; omega)
        have r2' := (block_cell H5.out.row (N * 4 + 1) (by rw [List.size_toArray, nums_length, hcl]; omega)).2
        have hset := H5.out.set (N * 4 + 1) (wrap64 (cs.getD (N * 4 + 1) 0 + 1))
        have hcall : callS p s cs = cs.set (N * 4 + 1) (wrap64 (cs.getD (N * 4 + 1) 0 + 1)) := by rw [HCs.out, if_pos hop, hN, Int.toNat_natCast]; rfl
        rw [← hcall] at hset
        have HSet := Lib.hid hset
        have hXr : X ≠ R := by omega
        have hx6 := (heap_setCell_ne (j := N * 4 + 1) hXr (.int .i64 (wrap64 (cs.getD (N * 4 + 1) 0 + 1)))).trans HX5.out
        have HX6 := Lib.hid hx6
        have HBk6 := Lib.hid (HBk.out.trans (Books.setCell W5 ⟨R, N * 4 + 1, none⟩ (.int .i64 (wrap64 (cs.getD (N * 4 + 1) 0 + 1)))))
        have a5 : IntKind.i64.wrap (cs.getD (N * 4 + 1) 0 + 1) = wrap64 (cs.getD (N * 4 + 1) 0 + 1) := wrapIs _
        clear hset hcall hx6 hXr
        generalize cs.getD (N * 4 + 1) 0 = c1 at *
        rw [hN] at z1
        gi_wp2
        gi_meet
        case rel => exact ⟨HSet.out, HX6.out, HBk6.out⟩
    case rest =>
    obtain ⟨h6, hx6, hbk⟩ := hcut
    clear c0 z0 z1 H5 HX5 HBk HCall HCs H2
    have hcl6 := callS_length p s cs
    rw [hcl] at hcl6
    generalize hc6 : callS p s cs = cs6 at *
    have HE6 := Lib.hid hc6
    clear hc6
    have HF := Lib.hid hHF.out
    have H6 := Lib.hid h6
    have HX6 := Lib.hid hx6
    have HBk := Lib.hid hbk
    have x1 := (block_cell hx6 1 (by simp)).1
    have x3 := (block_cell hx6 3 (by simp)).1
    simp only [List.getElem_toArray, List.getElem_cons_zero, List.getElem_cons_succ] at x1 x3
    rw [HF.out] at x1
    have c0 := (block_cell h6.box 0 (by simp)).1
    simp only [List.getElem_toArray, List.getElem_cons_zero, List.getElem_cons_succ] at c0
    clear h6 hx6 hbk
    gi_upto_region 16 with (fail)
    have r1' := H6.out.cell (F * 4 + 2) (by rw [hcl6]; omega)
    have r2' := (block_cell H6.out.row (F * 4 + 2) (by rw [List.size_toArray, nums_length, hcl6]; omega)).2
    have hset := (H6.out.below (below_drew wc)).set (F * 4 + 2) (wrap64 (cs6.getD (F * 4 + 2) 0 + s.work))
    have hown : ownS s cs6 = cs6.set (F * 4 + 2) (wrap64 (cs6.getD (F * 4 + 2) 0 + s.work)) := by unfold ownS; rw [HF.out, Int.toNat_natCast]; rfl
    rw [← hown] at hset
    have HSet := Lib.hid hset
    have hXr : X ≠ R := by omega
    have hx7 := (heap_setCell_ne (w := wc.drew) (j := F * 4 + 2) hXr (.int .i64 (wrap64 (cs6.getD (F * 4 + 2) 0 + s.work)))).trans HX6.out
    have HX7 := Lib.hid hx7
    have hx7a := (block_cell hx7 1 (by simp)).1
    have hx7b := (block_cell hx7 3 (by simp)).1
    have hx7c := (block_cell hset.box 0 (by simp)).1
    simp only [List.getElem_toArray, List.getElem_cons_zero, List.getElem_cons_succ] at hx7a hx7b hx7c
    rw [HF.out] at hx7a
    have HS7 := Lib.hid (And.intro hx7c (And.intro hx7a hx7b))
    have HBk7 := Lib.hid (HBk.out.trans ((Books.of_below (below_drew wc)).trans (Books.setCell wc.drew ⟨R, F * 4 + 2, none⟩ (.int .i64 (wrap64 (cs6.getD (F * 4 + 2) 0 + s.work))))))
    have a5 : IntKind.i64.wrap (cs6.getD (F * 4 + 2) 0 + s.work) = wrap64 (cs6.getD (F * 4 + 2) 0 + s.work) := wrapIs _
    clear hset hown hx7 hXr hx7a hx7b hx7c
    refine round_region (S := fun W' => W'.cell? ⟨R + 1, 0, none⟩ = some (.slice (some ⟨R, 0, none⟩) p.funs.length p.funs.length) ∧ W'.cell? ⟨X, 1, none⟩ = some (.int .i64 F) ∧ W'.cell? ⟨X, 3, none⟩ = some (.int .i64 s.work)) followsMixed (by kernel_rfl) (fun ⟨_, _, h⟩ => h) ⟨c0, x1, x3⟩ (fun hHeld => ?_)
    generalize cs6.getD (F * 4 + 2) 0 = c1 at *
    clear c0 x1 x3
    refine wpAnyH_take (i := 0) (oi := _) (v := ?_) rfl (by kernel_rfl) (by kernel_rfl) (by kernel_rfl) (fun _ _ _ h => h) (Or.inl ⟨by rfl, ?_⟩) (by assumption) ?_
    rotate_left
    · intro w hSw
      go_split_ands
      go_simp
      try with_reducible rfl
    try simp only [Act.put, List.setIfInBounds_toArray, List.set_cons_zero, List.set_cons_succ]
    refine wpAnyH_take (i := 1) (oi := _) (v := ?_) rfl (by kernel_rfl) (by kernel_rfl) (by kernel_rfl) (fun _ _ _ h => h) (Or.inl ⟨by rfl, ?_⟩) (by assumption) ?_
    rotate_left
    · intro w hSw
      go_split_ands
      go_simp
      try with_reducible rfl
    try simp only [Act.put, List.setIfInBounds_toArray, List.set_cons_zero, List.set_cons_succ]
    refine wpAnyH_take (i := 2) (oi := _) (v := ?_) rfl (by kernel_rfl) (by kernel_rfl) (by kernel_rfl) (fun _ _ _ h => h) (Or.inl ⟨by rfl, ?_⟩) (by assumption) ?_
    rotate_left
    · intro w hSw
      go_split_ands
      go_simp
      try with_reducible rfl
    try simp only [Act.put, List.setIfInBounds_toArray, List.set_cons_zero, List.set_cons_succ]
    refine wpAnyH_take (i := 3) (oi := _) (v := ?_) rfl (by kernel_rfl) (by kernel_rfl) (by kernel_rfl) (fun _ _ _ h => h) (Or.inl ⟨by rfl, ?_⟩) (by assumption) ?_
    rotate_left
    · intro w hSw
      go_split_ands
      go_simp
      try with_reducible rfl
    try simp only [Act.put, List.setIfInBounds_toArray, List.set_cons_zero, List.set_cons_succ]
    refine wpAnyH_take (i := 4) (oi := _) (v := ?_) rfl (by kernel_rfl) (by kernel_rfl) (by kernel_rfl) (fun _ _ _ h => h) (Or.inl ⟨by rfl, ?_⟩) (by assumption) ?_
    rotate_left
    · intro w hSw
      go_split_ands
      go_simp
      try with_reducible rfl
    try simp only [Act.put, List.setIfInBounds_toArray, List.set_cons_zero, List.set_cons_succ]
    refine wpAnyH_take (i := 5) (oi := _) (v := ?_) rfl (by kernel_rfl) (by kernel_rfl) (by kernel_rfl) (fun _ _ _ h => h) (Or.inl ⟨by rfl, ?_⟩) (by assumption) ?_
    rotate_left
    · intro w hSw
      go_split_ands
      go_simp
      try with_reducible rfl
    try simp only [Act.put, List.setIfInBounds_toArray, List.set_cons_zero, List.set_cons_succ]
    refine wpAnyH_take (i := 7) (oi := _) (v := ?_) rfl (by kernel_rfl) (by kernel_rfl) (by kernel_rfl) (fun _ _ _ h => h) (Or.inl ⟨by rfl, ?_⟩) (by assumption) ?_
    rotate_left
    · intro w hSw
      go_split_ands
      go_simp
      try with_reducible rfl
    try simp only [Act.put, List.setIfInBounds_toArray, List.set_cons_zero, List.set_cons_succ]
    refine wpAnyH_take (i := 8) (oi := _) (v := ?_) rfl (by kernel_rfl) (by kernel_rfl) (by kernel_rfl) (fun _ _ _ h => h) (Or.inl ⟨by rfl, ?_⟩) (by assumption) ?_
    rotate_left
    · intro w hSw
      go_split_ands
      go_simp
      try with_reducible rfl
    try simp only [Act.put, List.setIfInBounds_toArray, List.set_cons_zero, List.set_cons_succ]
    refine wpAnyH_take (i := 9) (oi := _) (v := ?_) rfl (by kernel_rfl) (by kernel_rfl) (by kernel_rfl) (fun _ _ _ h => h) (Or.inl ⟨by rfl, ?_⟩) (by assumption) ?_
    rotate_left
    · intro w hSw
      go_split_ands
      go_simp
      try with_reducible rfl
    try simp only [Act.put, List.setIfInBounds_toArray, List.set_cons_zero, List.set_cons_succ]
    refine wpAnyH_ready (rs := [6]) (by kernel_rfl) (by simp) ?_
    refine AllReadyH.cons (o := _) rfl (fun K hK => ?_) AllReadyH.nil
    have HK := Lib.hid hK; clear hK
    go_simp
    refine HK.out _ _ hHeld (fun hHeld => ?_)
    clear HK K
    try simp only [Act.put, List.setIfInBounds_toArray, List.set_cons_zero, List.set_cons_succ]
    refine wpAnyH_take (i := 10) (oi := _) (v := ?_) rfl (by kernel_rfl) (by kernel_rfl) (by kernel_rfl) (fun _ _ _ h => h) (Or.inl ⟨by rfl, ?_⟩) (by assumption) ?_
    rotate_left
    · intro w hSw
      go_split_ands
      go_simp
      try with_reducible rfl
    try simp only [Act.put, List.setIfInBounds_toArray, List.set_cons_zero, List.set_cons_succ]
    refine wpAnyH_take (i := 11) (oi := _) (v := ?_) rfl (by kernel_rfl) (by kernel_rfl) (by kernel_rfl) (fun _ _ _ h => h) (Or.inl ⟨by rfl, ?_⟩) (by assumption) ?_
    rotate_left
    · intro w hSw
      go_split_ands
      go_simp
      try with_reducible rfl
    try simp only [Act.put, List.setIfInBounds_toArray, List.set_cons_zero, List.set_cons_succ]
    refine wpAnyH_take (i := 12) (oi := _) (v := ?_) rfl (by kernel_rfl) (by kernel_rfl) (by kernel_rfl) (fun _ _ _ h => h) (Or.inl ⟨by rfl, ?_⟩) (by assumption) ?_
    rotate_left
    · intro w hSw
      go_split_ands
      go_simp
      try with_reducible rfl
    try simp only [Act.put, List.setIfInBounds_toArray, List.set_cons_zero, List.set_cons_succ]
    refine wpAnyH_ready (rs := [13]) (by kernel_rfl) (by simp) ?_
    refine AllReadyH.cons (o := _) rfl (fun K hK => ?_) AllReadyH.nil
    have HK := Lib.hid hK; clear hK
    go_simp
    refine HK.out _ _ HS7.out (fun hHeld => ?_)
    refine wpAnyH_done (by kernel_rfl) ?_ _
    clear HK K hHeld r1' r2' HS7 H6 HX6 HBk a5
    generalize hW7 : (wc.setCell ⟨R, F * 4 + 2, none⟩ (.int .i64 (wrap64 (c1 + s.work)))).drew = W7 at *
    have hw7 : wc.drew.setCell ⟨R, F * 4 + 2, none⟩ (.int .i64 (wrap64 (c1 + s.work))) = W7 := hW7
    rw [hw7] at HSet HX7 HBk7
    clear hw7 hW7
    have hcl7 := ownS_length s cs6
    rw [hcl6] at hcl7
    generalize hc7 : ownS s cs6 = cs7 at *
    have HE7 := Lib.hid hc7
    clear hc7
    gi_upto_region 17 with (fail)
    refine wpIn_label ?_
    have x4 := (block_cell HX7.out 4 (by simp)).1
    simp only [List.getElem_toArray, List.getElem_cons_zero, List.getElem_cons_succ] at x4
    gi_upto_region 17 with (fail)
    gi_wp2
    clear x4
    gi_loopw [14, 15, 90] (fun _ _ i wr => ∃ j : Nat, j ≤ st.length ∧ i = .int .i64 j ∧ FnAt w1 R (R + 1) (R + 2) p.funs.length T r1.length tc (R + 3) (wholeS st s cs7 j) (.slice U st.length uc) st wr ∧ wr.heap[X]? = some (.cells #[.int .i64 s.deep, .int .i64 s.fn, .int .i64 s.ins, .int .i64 s.work, .slice U st.length st.length] 101) ∧ Books W₂ wr) (fun _ _ i _ => st.length - (intOf i).toNat)
    case atStart => exact ⟨0, Nat.zero_le _, rfl, HSet.out, HX7.out, HBk7.out⟩
    case round =>
      obtain ⟨j, hj, rfl, h8, hx8, hb8⟩ := hrel
      have H8 := Lib.hid h8
      have HX8 := Lib.hid hx8
      have HB8 := Lib.hid hb8
      clear h8 hx8 hb8 HSet HX7 HBk7
      by_cases hlt : j < st.length
      case pos =>
        have hints : Ints wr (.slice U st.length uc) st := ints_of_own H8.out.own
        obtain ⟨ub, uoff, hU, u0⟩ := hints.at_ j hlt
        subst hU
        have hgx := HIn2.out st[j] (List.getElem_mem hlt)
        obtain ⟨G, hG⟩ : ∃ G : Nat, st[j] = G := ⟨st[j].toNat, by omega⟩
        have hpre : Ints wr (.slice (some ⟨ub, uoff, none⟩) j st.length) (st.take j) := ints_prefix hints j (by omega) (by omega)
        have hcon := prof_contains (st.take j) G _ _ hpre
        have HCon := Lib.hid hcon
        have hgd : st.getD j 0 = G := by rw [List.getD_eq_getElem?_getD, List.getElem?_eq_getElem hlt]; exact hG
        have hwh : wholeS st s cs7 (j + 1) = if (st.take j).contains (G : Int) then wholeS st s cs7 j else addAt (wholeS st s cs7 j) (G * 4 + 3) s.work := by
          show (if (st.take j).contains (st.getD j 0) then wholeS st s cs7 j else addAt (wholeS st s cs7 j) ((st.getD j 0).toNat * 4 + 3) s.work) = _
          rw [hgd, Int.toNat_natCast]
        have HWh := Lib.hid hwh
        rw [hG] at u0
        have hGl : G < p.funs.length := by rw [hG] at hgx; omega
        have hcl8 := wholeS_length st s cs7 j
        rw [hcl7] at hcl8
        have x3 := (block_cell HX8.out 3 (by simp)).1
        have x4 := (block_cell HX8.out 4 (by simp)).1
        simp only [List.getElem_toArray, List.getElem_cons_zero, List.getElem_cons_succ] at x3 x4
        have c0 := (block_cell H8.out.box 0 (by simp)).1
        simp only [List.getElem_toArray, List.getElem_cons_zero, List.getElem_cons_succ] at c0
        have hg0 : (0 : Int) ≤ (G : Int) := by omega
        have hg1 : (G : Int) < (p.funs.length : Int) := by omega
        have hj0 : (0 : Int) ≤ (j : Int) := by omega
        have hj1 : (j : Int) < (st.length : Int) := by omega
        have hj2 : (j : Int) ≤ (st.length : Int) := by omega
        clear hints hgx hG hpre hcon hgd hwh
        by_cases hco : (st.take j).contains (G : Int) = true
        case pos =>
          gi_wp2
          refine ⟨trivial, (CallsIn.inRound _ ((callsIn_wide (n := 4)).2 HCon.out)).mono ?_⟩
          rintro e w9 ⟨he, rfl⟩
          rw [hco] at he
          subst he
          gi_wp2
          go_roundw
          case rel => exact ⟨j + 1, hlt, by go_num, by rw [HWh.out, if_pos hco]; exact H8.out, HX8.out, HB8.out⟩
          case measure => simp [intOf]; omega
        case neg =>
          have hco' : (st.take j).contains (G : Int) = false := by simpa using hco
          have r1' := H8.out.cell (G * 4 + 3) (by rw [hcl8]; omega)
          have r2' := (block_cell H8.out.row (G * 4 + 3) (by rw [List.size_toArray, nums_length, hcl8]; omega)).2
          have hset := (H8.out.below (below_drew wr)).set (G * 4 + 3) (wrap64 ((wholeS st s cs7 j).getD (G * 4 + 3) 0 + s.work))
          have hwh : wholeS st s cs7 (j + 1) = (wholeS st s cs7 j).set (G * 4 + 3) (wrap64 ((wholeS st s cs7 j).getD (G * 4 + 3) 0 + s.work)) := by rw [HWh.out, if_neg hco]; rfl
          rw [← hwh] at hset
          have HSet := Lib.hid hset
          have hXr : X ≠ R := by omega
          have hx9 := (heap_setCell_ne (w := wr.drew) (j := G * 4 + 3) hXr (.int .i64 (wrap64 ((wholeS st s cs7 j).getD (G * 4 + 3) 0 + s.work)))).trans HX8.out
          have HX9 := Lib.hid hx9
          have hx9b := (block_cell hx9 3 (by simp)).1
          have hx9c := (block_cell hset.box 0 (by simp)).1
          simp only [List.getElem_toArray, List.getElem_cons_zero, List.getElem_cons_succ] at hx9b hx9c
          have HS9 := Lib.hid (And.intro hx9c hx9b)
          have HB9 := Lib.hid (HB8.out.trans ((Books.of_below (below_drew wr)).trans (Books.setCell wr.drew ⟨R, G * 4 + 3, none⟩ (.int .i64 (wrap64 ((wholeS st s cs7 j).getD (G * 4 + 3) 0 + s.work))))))
          have a5 : IntKind.i64.wrap ((wholeS st s cs7 j).getD (G * 4 + 3) 0 + s.work) = wrap64 ((wholeS st s cs7 j).getD (G * 4 + 3) 0 + s.work) := wrapIs _
          clear hset hwh hx9 hXr hx9b hx9c HWh hcl8
          generalize (wholeS st s cs7 j).getD (G * 4 + 3) 0 = c1 at *
          have HR1 := Lib.hid (And.intro r1' r2')
          have HC := Lib.hid (And.intro c0 x3)
          clear r1' r2'
          gi_wp2
          refine ⟨trivial, (CallsIn.inRound _ ((callsIn_wide (n := 4)).2 HCon.out)).mono ?_⟩
          rintro e w9 ⟨he, rfl⟩
          rw [hco'] at he
          subst he
          gi_upto_region 21 with (fail)
          obtain ⟨r1', r2'⟩ := HR1.out
          clear x4 u0 HR1 c0 x3
          refine round_region (S := fun W' => W'.cell? ⟨R + 1, 0, none⟩ = some (.slice (some ⟨R, 0, none⟩) p.funs.length p.funs.length) ∧ W'.cell? ⟨X, 3, none⟩ = some (.int .i64 s.work)) followsMixed (by kernel_rfl) (fun ⟨_, _, h⟩ => h) HC.out (fun hHeld => ?_)
          refine wpAnyH_take (i := 0) (oi := _) (v := ?_) rfl (by kernel_rfl) (by kernel_rfl) (by kernel_rfl) (fun _ _ _ h => h) (Or.inl ⟨by rfl, ?_⟩) (by assumption) ?_
          rotate_left
          · intro w hSw
            go_split_ands
            go_simp
            try with_reducible rfl
          try simp only [Act.put, List.setIfInBounds_toArray, List.set_cons_zero, List.set_cons_succ]
          refine wpAnyH_take (i := 1) (oi := _) (v := ?_) rfl (by kernel_rfl) (by kernel_rfl) (by kernel_rfl) (fun _ _ _ h => h) (Or.inl ⟨by rfl, ?_⟩) (by assumption) ?_
          rotate_left
          · intro w hSw
            go_split_ands
            go_simp
            try with_reducible rfl
          try simp only [Act.put, List.setIfInBounds_toArray, List.set_cons_zero, List.set_cons_succ]
          refine wpAnyH_take (i := 2) (oi := _) (v := ?_) rfl (by kernel_rfl) (by kernel_rfl) (by kernel_rfl) (fun _ _ _ h => h) (Or.inl ⟨by rfl, ?_⟩) (by assumption) ?_
          rotate_left
          · intro w hSw
            go_split_ands
            go_simp
            try with_reducible rfl
          try simp only [Act.put, List.setIfInBounds_toArray, List.set_cons_zero, List.set_cons_succ]
          refine wpAnyH_take (i := 3) (oi := _) (v := ?_) rfl (by kernel_rfl) (by kernel_rfl) (by kernel_rfl) (fun _ _ _ h => h) (Or.inl ⟨by rfl, ?_⟩) (by assumption) ?_
          rotate_left
          · intro w hSw
            go_split_ands
            go_simp
            try with_reducible rfl
          try simp only [Act.put, List.setIfInBounds_toArray, List.set_cons_zero, List.set_cons_succ]
          refine wpAnyH_take (i := 5) (oi := _) (v := ?_) rfl (by kernel_rfl) (by kernel_rfl) (by kernel_rfl) (fun _ _ _ h => h) (Or.inl ⟨by rfl, ?_⟩) (by assumption) ?_
          rotate_left
          · intro w hSw
            go_split_ands
            go_simp
            try with_reducible rfl
          try simp only [Act.put, List.setIfInBounds_toArray, List.set_cons_zero, List.set_cons_succ]
          refine wpAnyH_take (i := 6) (oi := _) (v := ?_) rfl (by kernel_rfl) (by kernel_rfl) (by kernel_rfl) (fun _ _ _ h => h) (Or.inl ⟨by rfl, ?_⟩) (by assumption) ?_
          rotate_left
          · intro w hSw
            go_split_ands
            go_simp
            try with_reducible rfl
          try simp only [Act.put, List.setIfInBounds_toArray, List.set_cons_zero, List.set_cons_succ]
          refine wpAnyH_take (i := 7) (oi := _) (v := ?_) rfl (by kernel_rfl) (by kernel_rfl) (by kernel_rfl) (fun _ _ _ h => h) (Or.inl ⟨by rfl, ?_⟩) (by assumption) ?_
          rotate_left
          · intro w hSw
            go_split_ands
            go_simp
            try with_reducible rfl
          try simp only [Act.put, List.setIfInBounds_toArray, List.set_cons_zero, List.set_cons_succ]
          refine wpAnyH_ready (rs := [4]) (by kernel_rfl) (by simp) ?_
          refine AllReadyH.cons (o := _) rfl (fun K hK => ?_) AllReadyH.nil
          have HK := Lib.hid hK; clear hK
          go_simp
          refine HK.out _ _ hHeld (fun hHeld => ?_)
          clear HK K
          try simp only [Act.put, List.setIfInBounds_toArray, List.set_cons_zero, List.set_cons_succ]
          refine wpAnyH_take (i := 8) (oi := _) (v := ?_) rfl (by kernel_rfl) (by kernel_rfl) (by kernel_rfl) (fun _ _ _ h => h) (Or.inl ⟨by rfl, ?_⟩) (by assumption) ?_
          rotate_left
          · intro w hSw
            go_split_ands
            go_simp
            try with_reducible rfl
          try simp only [Act.put, List.setIfInBounds_toArray, List.set_cons_zero, List.set_cons_succ]
          refine wpAnyH_take (i := 9) (oi := _) (v := ?_) rfl (by kernel_rfl) (by kernel_rfl) (by kernel_rfl) (fun _ _ _ h => h) (Or.inl ⟨by rfl, ?_⟩) (by assumption) ?_
          rotate_left
          · intro w hSw
            go_split_ands
            go_simp
            try with_reducible rfl
          try simp only [Act.put, List.setIfInBounds_toArray, List.set_cons_zero, List.set_cons_succ]
          refine wpAnyH_take (i := 10) (oi := _) (v := ?_) rfl (by kernel_rfl) (by kernel_rfl) (by kernel_rfl) (fun _ _ _ h => h) (Or.inl ⟨by rfl, ?_⟩) (by assumption) ?_
          rotate_left
          · intro w hSw
            go_split_ands
            go_simp
            try with_reducible rfl
          try simp only [Act.put, List.setIfInBounds_toArray, List.set_cons_zero, List.set_cons_succ]
          refine wpAnyH_ready (rs := [11]) (by kernel_rfl) (by simp) ?_
          refine AllReadyH.cons (o := _) rfl (fun K hK => ?_) AllReadyH.nil
          have HK := Lib.hid hK; clear hK
          go_simp
          refine HK.out _ _ HS9.out (fun hHeld => ?_)
          refine wpAnyH_done (by kernel_rfl) ?_ _
          clear HK K hHeld r1' r2' HS9 a5
          gi_wp2
          go_roundw
          case rel => exact ⟨j + 1, hlt, by go_num, HSet.out, HX9.out, HB9.out⟩
          case measure => simp [intOf]; omega
      case neg =>
        obtain rfl : j = st.length := by omega
        clear hlt hj
        gi_wp2
        have h9 := H8.out
        rw [← HE7.out, ← HE6.out] at h9
        exact ⟨HB8.out, h9⟩
end Go.Proofs.YtdkcjeaabbkdeaaGreatDoor
