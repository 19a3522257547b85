/- Package prof: a line's closure, and what becomes of its panic. Package prof: Read. -/
import Derived.Test.YtdkcjeaabbkdeaaGreatDoorZReadC
import Derived.Test.YtdkcjeaabbkdeaaGreatDoorZStop
import Derived.Test.YtdkcjeaabbkdeaaGreatDoorZTextW
import Derived.Test.YtdkcjeaabbkdeaaGreatDoorZOrdS
set_option linter.unusedVariables false
set_option linter.unusedSimpArgs false
set_option linter.unnecessarySimpa false
set_option linter.unusedSectionVars false
section
namespace Go.Proofs.YtdkcjeaabbkdeaaGreatDoor
open Go.RowKit Go.Shelf
set_option linter.unusedVariables false
set_option linter.unusedSimpArgs false

def LinePost (s : List UInt8) (w : World) (e : Ending) (w' : World) : Prop := Below w.heap.size w w' ∧ match lineS s with
  | some x => ∃ g c, e = .returned (.agg #[.slice (some ⟨g, 0, none⟩) x.stack.length c, .int .i64 x.work]) ∧ Ints w' (.slice (some ⟨g, 0, none⟩) x.stack.length c) x.stack ∧ w.heap.size ≤ g
  | none => e = .panicked badE
set_option maxRecDepth 100000 in
theorem line_of (s : List UInt8) (w : World) (ha : Ascii s) (hs : s.length ≤ 1000000) (hg : EGlob w) (ht : Tab w) :
    Calls Tryz.prog 78 #[.string (bytesOf s)] w (LinePost s w) := by
  have hb2 := below2 w (.cells #[.slice none 0 0, .int .i64 0] 65) (.cells #[.string (bytesOf s)] 129)
  have h2 := heap_alloc (alloc_new w (.cells #[.slice none 0 0, .int .i64 0] 65)) (.cells #[.string (bytesOf s)] 129)
  have hq := alloc_new (w.alloc (.cells #[.slice none 0 0, .int .i64 0] 65)) (.cells #[.string (bytesOf s)] 129)
  rw [World.size_alloc] at hq
  have hst := prof_stack s (w.heap.size + 1) w _ hb2 (Nat.le_succ _) hq ha hs hg ht
  have HB2 := Lib.hid hb2
  have H2 := Lib.hid h2
  have HSt := Lib.hid hst
  have hsz2 : ((w.alloc (.cells #[.slice none 0 0, .int .i64 0] 65)).alloc (.cells #[.string (bytesOf s)] 129)).heap.size = w.heap.size + 2 := by simp
  clear hb2 h2 hst hg ht ha hq
  go_enter Tryz.func78, Tryz.ntmps78
  go_wp2_with fail
  generalize (w.alloc (.cells #[.slice none 0 0, .int .i64 0] 65)).alloc (.cells #[.string (bytesOf s)] 129) = w2 at *
  refine HSt.out.mono ?_
  rintro e w3 ⟨hg3, he⟩
  have hb3 : Below w.heap.size w w3 := HB2.out.grown hg3 (by omega) (fun j hj => by cases hj; omega)
  have h3 := (hg3.block _ (Array.getElem?_eq_some_iff.1 H2.out).1 (by simp)).trans H2.out
  have HB3 := Lib.hid hb3
  have H3 := Lib.hid h3
  cases hl : lineS s with
  | none =>
    rw [hl] at he
    obtain rfl : e = .panicked badE := he
    refine ⟨rfl, hb3, ?_⟩
    rw [hl]
  | some x =>
    rw [hl] at he
    obtain ⟨g, c, rfl, hi, hgg⟩ := he
    obtain ⟨a0, f0⟩ := block_cell h3 0 (by simp)
    obtain ⟨a1, f1⟩ := block_cell h3 1 (by simp)
    simp only [List.getElem_toArray, List.getElem_cons_zero, List.getElem_cons_succ] at a0 a1
    have hh : ((w3.setCell ⟨w.heap.size, 0, none⟩ (.slice (some ⟨g, 0, none⟩) x.stack.length c)).setCell ⟨w.heap.size, 1, none⟩ (.int .i64 x.work)).heap[w.heap.size]? = some (.cells #[.slice (some ⟨g, 0, none⟩) x.stack.length c, .int .i64 x.work] 65) := by
      have h2 := heap_setCell (heap_setCell h3 0 (.slice (some ⟨g, 0, none⟩) x.stack.length c)) 1 (.int .i64 x.work)
      simpa using h2
    have hb9 : Below w.heap.size w ((w3.setCell ⟨w.heap.size, 0, none⟩ (.slice (some ⟨g, 0, none⟩) x.stack.length c)).setCell ⟨w.heap.size, 1, none⟩ (.int .i64 x.work)) := (hb3.setCell (p := ⟨w.heap.size, 0, none⟩) (Nat.le_refl _) _).setCell (p := ⟨w.heap.size, 1, none⟩) (Nat.le_refl _) _
    have hi9 : Ints ((w3.setCell ⟨w.heap.size, 0, none⟩ (.slice (some ⟨g, 0, none⟩) x.stack.length c)).setCell ⟨w.heap.size, 1, none⟩ (.int .i64 x.work)) (.slice (some ⟨g, 0, none⟩) x.stack.length c) x.stack :=
      Ints.of_block1 hi (by rw [Below.heap_setCell _ _ _ _ (by simp; omega), Below.heap_setCell _ _ _ _ (by simp; omega)])
    obtain ⟨n0, -⟩ := block_cell hh 0 (by simp)
    obtain ⟨n1, -⟩ := block_cell hh 1 (by simp)
    simp only [List.getElem_toArray, List.getElem_cons_zero, List.getElem_cons_succ] at n0 n1
    have HB9 := Lib.hid hb9
    have HI9 := Lib.hid hi9
    have HL := Lib.hid hl
    clear hh hb9 hi9 hi hg3 hb3 h3 hl
    go_wp2_with fail
    refine bodyPost_ret (v := .agg #[.slice (some ⟨g, 0, none⟩) x.stack.length c, .int .i64 x.work]) ?_ rfl ?_
    · simp [results, Tryz.results78, go_sem, n0, n1]
    · refine ⟨HB9.out, ?_⟩
      rw [HL.out]
      exact ⟨g, c, rfl, HI9.out, by omega⟩

/-! ### What becomes of the panic -/
theorem ta126 (v : Value) (W : World) : (Instr.typeAssert (.iface 126 v) 20 126 true).run Tryz.prog W = .ok (.tuple #[v, .bool true]) W := by kernel_rfl
theorem catch_none (q p : Nat) (w : World) : CallsD Tryz.prog 77 #[.pointer (some ⟨q, 0, none⟩), .pointer (some ⟨p, 0, none⟩)] .returning w fun e u' w' => e = .returned (.tuple #[]) ∧ u' = .returning ∧ w' = w := by
  refine callsD_of_wpS Tryz.func77 rfl fun c₀ cs hu => ?_
  apply wpS_seq
  apply wpS_region
  simp [wpOpsS, go_sem, recoverD, hu, Tryz.ntmps77, Exit.thenS]
  refine wpS_of_wp ?_
  simp only [Array.replicate_succ, Array.replicate_zero, List.push_toArray, List.append_toArray, List.nil_append, List.cons_append, List.setIfInBounds_toArray, List.set_cons_zero, List.set_cons_succ]
  go_wp2_with fail
  cases c₀
  simp_all [bodyPostS, results, Tryz.results77]
theorem catch_bad (q p : Nat) (v0 v1 : Value) (older : List PanicEntry) (w : World) (hq : w.cell? ⟨q, 0, none⟩ = some v0) (hqf : w.frozen? ⟨q, 0, none⟩ = false) (hp : w.cell? ⟨p, 0, none⟩ = some v1) (hpf : w.frozen? ⟨p, 0, none⟩ = false) (hpq : p ≠ q) :
    CallsD Tryz.prog 77 #[.pointer (some ⟨q, 0, none⟩), .pointer (some ⟨p, 0, none⟩)] (.panicking ({ v := .iface 126 (.agg #[]), recovered := false } :: older)) w fun e u' w' =>
      e = .returned (.tuple #[]) ∧ u' = .panicking ({ v := .iface 126 (.agg #[]), recovered := true } :: older) ∧ w' = ((w.setCell ⟨q, 0, none⟩ (.slice none 0 0)).setCell ⟨p, 0, none⟩ (.int .i64 8)).alloc (.cells #[] 126) := by
  have hql := World.block_lt_of_cell? w _ hq
  have hpl := World.block_lt_of_cell? w _ hp
  have hta := ta126
  refine callsD_of_wpS Tryz.func77 rfl fun c₀ cs hu => ?_
  apply wpS_seq
  apply wpS_region
  simp [wpOpsS, go_sem, recoverD, hu, Tryz.ntmps77, Exit.thenS]
  refine wpS_of_wp ?_
  simp only [Array.replicate_succ, Array.replicate_zero, List.push_toArray, List.append_toArray, List.nil_append, List.cons_append, List.setIfInBounds_toArray, List.set_cons_zero, List.set_cons_succ]
  go_wp2_with fail
  cases c₀
  simp_all [bodyPostS, results, Tryz.results77]

/-! ### A region that may panic, in a function that defers -/
/-- Q, but at a panic for whatever temporaries, but for those of the results. -/
def FreePanic (Q : Exit → Act → World → Prop) : Exit → Act → World → Prop
  | .panic c, a, w => ∀ tm : Array Value, tm.getD 2 undef = a.tmps.getD 2 undef → tm.getD 3 undef = a.tmps.getD 3 undef → Q (.panic c) { a with tmps := tm } w
  | e, a, w => Q e a w
theorem wp_region_free {P : Program} {id : Nat} {ops : Array Oper} {b : Bool} {Q : Exit → Act → World → Prop} {a : Act} {w : World} (h : (Code.region id ops b).wp P (FreePanic Q) a w) : (Code.region id ops b).wp P Q a w :=
  Code.wp_mono (fun e a w h => by
    cases e with
    | panic c => exact h a.tmps rfl rfl
    | _ => exact h) h
theorem free_put {Q : Exit → Act → World → Prop} {c : List PanicEntry} {a : Act} {d : Tmp} {v : Value} {w : World} (h2 : d ≠ 2) (h3 : d ≠ 3) (h : FreePanic Q (.panic c) (a.put (some d) v) w) : FreePanic Q (.panic c) a w := by
  have e : ∀ i, d ≠ i → (a.put (some d) v).tmps.getD i undef = a.tmps.getD i undef := fun i hi => by
    show (a.tmps.setIfInBounds d v).getD i undef = _
    rw [Array.getD_eq_getD_getElem?, Array.getElem?_setIfInBounds, if_neg hi, ← Array.getD_eq_getD_getElem?]
  intro tm t2 t3
  exact h tm (t2.trans (e 2 h2).symm) (t3.trans (e 3 h3).symm)
/-- The lines' stacks. -/
def linesS : List (List UInt8) → Option (List StackC)
  | [] => some []
  | l :: ls => match lineS l with
    | none => none
    | some x => (linesS ls).map (x :: ·)
def readS (ls : List (List UInt8)) : Option (List StackC) := match linesS ls with
  | none => none
  | some d => if ordB d then some d else none
def ReadLPost (ls : List (List UInt8)) (w : World) (e : Ending) (w' : World) : Prop := Below w.heap.size w w' ∧ ∃ v err, e = .returned (.tuple #[v, .int .i64 err]) ∧ match readS ls with
  | some d => err = 0 ∧ StksL w' v d
  | none => err = 8 ∧ v = .slice none 0 0
theorem linesS_snoc (ls : List (List UInt8)) (l : List UInt8) : linesS (ls ++ [l]) = match linesS ls with | none => none | some d => (lineS l).map (d ++ [·]) := by
  induction ls with
  | nil =>
    simp only [List.nil_append, linesS]
    cases lineS l <;> rfl
  | cons a ls ih =>
    simp only [List.cons_append, linesS]
    cases lineS a with
    | none => rfl
    | some x =>
      simp only [ih]
      cases linesS ls with
      | none => rfl
      | some d => cases lineS l <;> rfl
theorem linesS_bad (ls : List (List UInt8)) (k : Nat) (h : k < ls.length) (hb : lineS ls[k] = none) : linesS ls = none := by
  induction ls generalizing k with
  | nil => simp at h
  | cons a ls ih =>
    unfold linesS
    cases k with
    | zero => simp at hb; rw [hb]
    | succ k =>
      cases lineS a with
      | none => rfl
      | some x => simp only []; rw [ih k (by simpa using h) (by simpa using hb)]; rfl
end Go.Proofs.YtdkcjeaabbkdeaaGreatDoor
end
section
namespace Go.Proofs.YtdkcjeaabbkdeaaGreatDoor
open Go.RowKit Go.Shelf
set_option linter.unusedVariables false
set_option linter.unusedSimpArgs false

/-- What has been read. -/
def ReadR (w : World) (L : List StkV) (hdr : Value) (W : World) : Prop := Below w.heap.size w W ∧ W.heap[w.heap.size]? = some (.cells #[hdr] 36) ∧ W.heap[w.heap.size + 1]? = some (.cells #[.int .i64 0] 30) ∧
  W.ownsRow (w.heap.size + 2) 65 2 hdr L.length (L.flatMap stkCells) ∧ w.heap.size + 2 ≤ W.heap.size ∧ ∀ y ∈ L, ∃ g c, y.1 = .slice (some ⟨g, 0, none⟩) y.2.stack.length c ∧ Ints W y.1 y.2.stack ∧ hdr.ownBlock ≠ some g ∧ g < W.heap.size ∧ w.heap.size + 2 ≤ g
theorem infoStk2 : (Tryz.prog.info? 65).map (fun i => (i.zero, i.size, i.bytes)) = some (some (.agg #[.slice none 0 0, .int .i64 0]), 2, 32) := by kernel_rfl
theorem ReadR.below {w W W' : World} {L : List StkV} {hdr : Value} (h : ReadR w L hdr W) (hb : Below W.heap.size W W') : ReadR w L hdr W' := by
  obtain ⟨h1, h2, h3, h4, h5, h6⟩ := h
  refine ⟨below_into h1 h1.size hb, heap_keep hb h2, heap_keep hb h3, h4.kept (row := none) (grown_of_below hb) (by cases hdr.ownBlock <;> simp), Nat.le_trans h5 hb.size, fun y hy => ?_⟩
  obtain ⟨g, c, e1, e2, e3, e4, e5⟩ := h6 y hy
  exact ⟨g, c, e1, e2.below hb, e3, Nat.lt_of_lt_of_le e4 hb.size, e5⟩
/-- The row, as a list of stacks. -/
theorem ReadR.stks {w W : World} {L : List StkV} {hdr : Value} (h : ReadR w L hdr W) (hl : L.length ≤ 1000000000) : StksL W hdr (L.map Prod.snd) := by
  obtain ⟨h1, h2, h3, h4, h5, h6⟩ := h
  rcases h4.2 with ⟨rfl, h0⟩ | ⟨g, cap, cur, rfl, -, hh, hc1, -⟩
  · have : L = [] := List.eq_nil_of_length_eq_zero h0
    subst this
    exact stksL_nil _ _ _
  · refine ⟨some ⟨g, 0, none⟩, cap, by simp, by simp; omega, fun j hj => ?_⟩
    have hj' : j < L.length := by simpa using hj
    refine ⟨g, 0, stkCells L[j], rfl, rfl, fun i hi => ?_, ⟨L[j].1, by simp [stkCells], ?_⟩⟩
    · have hi2 : i < 2 := by simpa [stkCells] using hi
      have hc := h4.cellAt (j * 2 + i) (by omega)
      have := flat2_get stkCells (fun _ => rfl) L j i hj' hi2
      rw [this, List.getElem?_eq_getElem (by simpa [stkCells] using hi2)] at hc
      simpa using hc
    · obtain ⟨g', c', e1, e2, -⟩ := h6 L[j] (List.getElem_mem hj')
      simpa using e2
/-- One stack more. -/
theorem ReadR.push {w W W6 W7 : World} {L : List StkV} {hdr v' : Value} {y : StkV} {g c : Nat} (h : ReadR w L hdr W) (hb : Below W.heap.size W W6) (hy : y.1 = .slice (some ⟨g, 0, none⟩) y.2.stack.length c) (hi : Ints W6 y.1 y.2.stack) (hgg : W.heap.size ≤ g) (hgl : g < W6.heap.size)
    (hg : W6.grownBy W7 hdr.ownBlock) (hloc : v'.ownBlock = hdr.ownBlock ∨ v'.ownBlock = some W6.heap.size) (ho : W7.ownsRow (w.heap.size + 2) 65 2 v' (L.length + 1) (L.flatMap stkCells ++ stkCells y)) :
    ReadR w (L ++ [y]) v' (W7.setCell ⟨w.heap.size, 0, none⟩ v') := by
  have hh := h
  obtain ⟨h1, h2, h3, h4, h5, h6⟩ := h.below hb
  have hlt : ∀ k, hdr.ownBlock = some k → w.heap.size + 2 ≤ k ∧ k < W.heap.size := fun k hk => hh.2.2.2.1.lt k hk
  have hsz := hb.size
  have key : ∀ i o, i < w.heap.size + 2 → W6.heap[i]? = some o → W7.heap[i]? = some o := fun i o hi hoo => (hg.block i (Array.getElem?_eq_some_iff.1 hoo).1 (fun e => by have := hlt i e.symm; omega)).trans hoo
  have hne : ∀ i o, i ≠ w.heap.size → W7.heap[i]? = some o → (W7.setCell ⟨w.heap.size, 0, none⟩ v').heap[i]? = some o := fun i o hi hoo => by
    rw [Below.heap_setCell _ _ _ _ hi]; exact hoo
  have row : ∀ (z : StkV) g' c', z.1 = .slice (some ⟨g', 0, none⟩) z.2.stack.length c' → Ints W6 z.1 z.2.stack → hdr.ownBlock ≠ some g' → g' < W6.heap.size → w.heap.size + 2 ≤ g' → ∃ g c, z.1 = .slice (some ⟨g, 0, none⟩) z.2.stack.length c ∧ Ints (W7.setCell ⟨w.heap.size, 0, none⟩ v') z.1 z.2.stack ∧ v'.ownBlock ≠ some g ∧ g < (W7.setCell ⟨w.heap.size, 0, none⟩ v').heap.size ∧ w.heap.size + 2 ≤ g := by
    intro z g' c' e1 e2 e3 e4 e5
    refine ⟨g', c', e1, ?_, fun e => ?_, by rw [World.size_setCell]; exact Nat.lt_of_lt_of_le e4 hg.size, e5⟩
    · rw [e1] at e2 ⊢
      refine Ints.of_block1 e2 ?_
      rw [Below.heap_setCell _ _ _ _ (by simp; omega)]
      exact hg.block g' e4 (fun e => e3 e.symm)
    · rcases hloc with hl | hl
      · exact e3 (hl ▸ e)
      · rw [hl] at e; injection e with e; omega
  have h27 := key _ _ (by omega) h2
  refine ⟨(h1.grown hg h1.size (fun j hj => by have := hlt j hj; omega)).setCell (p := ⟨w.heap.size, 0, none⟩) (Nat.le_refl _) _, ?_, hne _ _ (by omega) (key _ _ (by omega) h3), ?_, by rw [World.size_setCell]; exact Nat.le_trans h5 hg.size, fun z hz => ?_⟩
  · simpa using heap_setCell h27 0 v'
  · have : (L ++ [y]).length = L.length + 1 := by simp
    rw [this, List.flatMap_append, List.flatMap_singleton]
    refine ownsRow_cells ho fun g o hg2 hoo => hne _ _ (fun e => ?_) hoo
    have := (ho.lt g hg2).1; omega
  · rcases List.mem_append.1 hz with hz | hz
    · obtain ⟨g', c', e1, e2, e3, e4, e5⟩ := h6 z hz
      exact row z g' c' e1 e2 e3 e4 e5
    · obtain rfl := List.mem_singleton.1 hz
      exact row z g c hy hi (fun e => by have := hlt g e; omega) hgl (by have := hh.2.2.2.2.1; omega)
theorem ReadR.head7 {w W W6 W7 : World} {L : List StkV} {hdr : Value} (h : ReadR w L hdr W) (hb : Below W.heap.size W W6) (hg : W6.grownBy W7 hdr.ownBlock) : W7.heap[w.heap.size]? = some (.cells #[hdr] 36) := by
  have hlt : ∀ k, hdr.ownBlock = some k → w.heap.size + 2 ≤ k ∧ k < W.heap.size := fun k hk => h.2.2.2.1.lt k hk
  have h2 := (h.below hb).2.1
  exact (hg.block _ (Array.getElem?_eq_some_iff.1 h2).1 (fun e => by have := hlt _ e.symm; omega)).trans h2

/-- What is no list of lines ends so. -/
theorem leaves_bad (ls : List (List UInt8)) (w W : World) (L : List StkV) (hdr : Value) (h : ReadR w L hdr W) (hn : readS ls = none) (tm : Array Value) (ht2 : tm.getD 2 undef = .pointer (some ⟨w.heap.size, 0, none⟩)) (ht3 : tm.getD 3 undef = .pointer (some ⟨w.heap.size + 1, 0, none⟩)) :
    Leaves Tryz.prog Tryz.f29 tm (ReadLPost ls w) [{ target := .fn (.func 77) #[.pointer (some ⟨w.heap.size, 0, none⟩), .pointer (some ⟨w.heap.size + 1, 0, none⟩)], args := #[] }] (.panicking badE) W := by
  obtain ⟨c2, f2⟩ := block_cell h.2.1 0 (by simp)
  obtain ⟨c3, f3⟩ := block_cell h.2.2.1 0 (by simp)
  simp only [List.getElem_toArray, List.getElem_cons_zero] at c2 c3
  refine leaves_cons (f := 77) (args := #[.pointer (some ⟨w.heap.size, 0, none⟩), .pointer (some ⟨w.heap.size + 1, 0, none⟩)]) (by simp) (by simp [go_sem]) ?_
  refine (catch_bad w.heap.size (w.heap.size + 1) _ _ [] W c2 f2 c3 f3 (by omega)).mono ?_
  rintro e u' w'' ⟨rfl, rfl, rfl⟩
  have hw : Below w.heap.size w (((W.setCell ⟨w.heap.size, 0, none⟩ (.slice none 0 0)).setCell ⟨w.heap.size + 1, 0, none⟩ (.int .i64 8)).alloc (.cells #[] 126)) :=
    (((h.1.setCell (p := ⟨w.heap.size, 0, none⟩) (Nat.le_refl _) _).setCell (p := ⟨w.heap.size + 1, 0, none⟩) (Nat.le_succ _) _)).alloc (by rw [World.size_setCell, World.size_setCell]; exact h.1.size) _
  have k2 : (((W.setCell ⟨w.heap.size, 0, none⟩ (.slice none 0 0)).setCell ⟨w.heap.size + 1, 0, none⟩ (.int .i64 8)).alloc (.cells #[] 126)).cell? ⟨w.heap.size, 0, none⟩ = some (.slice none 0 0) := by
    refine cell_alloc ?_ _
    have h1 := heap_setCell h.2.1 0 (.slice none 0 0)
    have h2 := (Below.heap_setCell (W.setCell ⟨w.heap.size, 0, none⟩ (.slice none 0 0)) ⟨w.heap.size + 1, 0, none⟩ (.int .i64 8) w.heap.size (by simp)).trans h1
    simpa using (block_cell h2 0 (by simp)).1
  have k3 : (((W.setCell ⟨w.heap.size, 0, none⟩ (.slice none 0 0)).setCell ⟨w.heap.size + 1, 0, none⟩ (.int .i64 8)).alloc (.cells #[] 126)).cell? ⟨w.heap.size + 1, 0, none⟩ = some (.int .i64 8) := by
    refine cell_alloc ?_ _
    have h1 := (Below.heap_setCell W ⟨w.heap.size, 0, none⟩ (.slice none 0 0) (w.heap.size + 1) (by simp)).trans h.2.2.1
    have h2 := heap_setCell h1 0 (.int .i64 8)
    simpa using (block_cell h2 0 (by simp)).1
  generalize ((W.setCell ⟨w.heap.size, 0, none⟩ (.slice none 0 0)).setCell ⟨w.heap.size + 1, 0, none⟩ (.int .i64 8)).alloc (.cells #[] 126) = W9 at *
  rw [Array.getD_eq_getD_getElem?] at ht2 ht3
  simp [Leaves, settle, results, Tryz.results29, go_sem, k2, k3, ht2, ht3]
  refine ⟨hw, _, _, rfl, ?_⟩
  rw [hn]
  exact ⟨rfl, rfl⟩
/-- What is a list of lines ends so. -/
theorem leaves_good (ls : List (List UInt8)) (w W : World) (L : List StkV) (hdr : Value) (h : ReadR w L hdr W) (hL : L.length ≤ 1000000000) (hn : readS ls = some (L.map Prod.snd)) (t0 t1 : Value) (rest : List Value) :
    Leaves Tryz.prog Tryz.f29 (t0 :: t1 :: .pointer (some ⟨w.heap.size, 0, none⟩) :: .pointer (some ⟨w.heap.size + 1, 0, none⟩) :: rest).toArray (ReadLPost ls w) [{ target := .fn (.func 77) #[.pointer (some ⟨w.heap.size, 0, none⟩), .pointer (some ⟨w.heap.size + 1, 0, none⟩)], args := #[] }] .returning ((W.setCell ⟨w.heap.size, 0, none⟩ hdr).setCell ⟨w.heap.size + 1, 0, none⟩ (.int .i64 0)) := by
  have hw : Below w.heap.size w ((W.setCell ⟨w.heap.size, 0, none⟩ hdr).setCell ⟨w.heap.size + 1, 0, none⟩ (.int .i64 0)) :=
    (h.1.setCell (p := ⟨w.heap.size, 0, none⟩) (Nat.le_refl _) _).setCell (p := ⟨w.heap.size + 1, 0, none⟩) (Nat.le_succ _) _
  have k2 : ((W.setCell ⟨w.heap.size, 0, none⟩ hdr).setCell ⟨w.heap.size + 1, 0, none⟩ (.int .i64 0)).cell? ⟨w.heap.size, 0, none⟩ = some hdr := by
    have h1 := heap_setCell h.2.1 0 hdr
    have h2 := (Below.heap_setCell (W.setCell ⟨w.heap.size, 0, none⟩ hdr) ⟨w.heap.size + 1, 0, none⟩ (.int .i64 0) w.heap.size (by simp)).trans h1
    simpa using (block_cell h2 0 (by simp)).1
  have k3 : ((W.setCell ⟨w.heap.size, 0, none⟩ hdr).setCell ⟨w.heap.size + 1, 0, none⟩ (.int .i64 0)).cell? ⟨w.heap.size + 1, 0, none⟩ = some (.int .i64 0) := by
    have h1 := (Below.heap_setCell W ⟨w.heap.size, 0, none⟩ hdr (w.heap.size + 1) (by simp)).trans h.2.2.1
    have h2 := heap_setCell h1 0 (.int .i64 0)
    simpa using (block_cell h2 0 (by simp)).1
  have hrd : Reads W ((W.setCell ⟨w.heap.size, 0, none⟩ hdr).setCell ⟨w.heap.size + 1, 0, none⟩ (.int .i64 0)) := by
    intro a x hc
    by_cases e1 : a.block = w.heap.size + 1
    · have : W.heap[a.block]? = some (.cells #[.int .i64 0] 30) := by rw [e1]; exact h.2.2.1
      have h1 := (Below.heap_setCell W ⟨w.heap.size, 0, none⟩ hdr (w.heap.size + 1) (by simp)).trans h.2.2.1
      have h2 := heap_setCell h1 0 (.int .i64 0)
      refine (World.cell?_of_block (w := W) ?_).trans hc
      rw [this, e1]; simpa using h2
    · by_cases e2 : a.block = w.heap.size
      · have : W.heap[a.block]? = some (.cells #[hdr] 36) := by rw [e2]; exact h.2.1
        have h1 := heap_setCell h.2.1 0 hdr
        have h2 := (Below.heap_setCell (W.setCell ⟨w.heap.size, 0, none⟩ hdr) ⟨w.heap.size + 1, 0, none⟩ (.int .i64 0) w.heap.size (by simp)).trans h1
        refine (World.cell?_of_block (w := W) ?_).trans hc
        rw [this, e2]; simpa using h2
      · refine (World.cell?_of_block (w := W) ?_).trans hc
        rw [Below.heap_setCell _ _ _ _ e1, Below.heap_setCell _ _ _ _ e2]
  have hst := (h.stks hL).reads hrd
  generalize (W.setCell ⟨w.heap.size, 0, none⟩ hdr).setCell ⟨w.heap.size + 1, 0, none⟩ (.int .i64 0) = W9 at *
  refine leaves_cons (f := 77) (args := #[.pointer (some ⟨w.heap.size, 0, none⟩), .pointer (some ⟨w.heap.size + 1, 0, none⟩)]) (by simp) (by simp [go_sem]) ?_
  refine (catch_none w.heap.size (w.heap.size + 1) W9).mono ?_
  rintro e u' w'' ⟨rfl, rfl, rfl⟩
  simp [Leaves, settle, results, Tryz.results29, go_sem, k2, k3]
  refine ⟨hw, _, _, rfl, ?_⟩
  rw [hn]
  exact ⟨rfl, hst⟩
theorem stackS_some (f : Nat) (s : List UInt8) (acc : List Int) (x : StackC) (h : stackS f s acc = some x) : x.stack ≠ [] := by
  induction f generalizing s acc with
  | zero => cases h
  | succ f ih =>
    unfold stackS at h
    split at h
    · cases h
    · split at h
      · split at h
        · cases h
        · cases h; simp
      · exact ih _ _ h
theorem lineS_some (s : List UInt8) (x : StackC) (h : lineS s = some x) : x.stack ≠ [] := by
  unfold lineS at h
  split at h
  · exact stackS_some _ _ _ _ h
  · cases h
theorem textsL_form {w : World} {v : Value} {xs : List (List UInt8)} (h : TextsL w v xs) : ∃ A c, v = .slice A xs.length c ∧ (xs.length ≤ 9223372036854775807 ∧ xs.length ≤ c) := by
  obtain ⟨A, c, rfl, hm, _⟩ := h; exact ⟨A, c, rfl, hm⟩
set_option maxRecDepth 100000 in
set_option maxHeartbeats 2000000 in
theorem prof_read (ls : List (List UInt8)) (v : Value) (w : World) (hl : TextsL w v ls) (ha : ∀ l ∈ ls, Ascii l ∧ l.length ≤ 1000000) (hlen : ls.length ≤ 1000000) (hg : EGlob w) (ht : Tab w) : Calls Tryz.prog 29 #[v] w (ReadLPost ls w) := by
  have hmf : ∀ (fn : Fn) (first cap : Array Value) (w : World), (Instr.makeFunc fn first cap).run Tryz.prog w = .ok (.func fn first cap) w := fun _ _ _ _ => rfl
  obtain ⟨A, ac, rfl, hm, -⟩ := textsL_form hl
  have HL := Lib.hid hl
  have HA := Lib.hid ha
  have HG := Lib.hid hg
  have HT := Lib.hid ht
  have hb2 := below2 w (.cells #[.slice none 0 0] 36) (.cells #[.int .i64 0] 30)
  have h2 := heap_alloc (alloc_new w (.cells #[.slice none 0 0] 36)) (.cells #[.int .i64 0] 30)
  have h3 := alloc_new (w.alloc (.cells #[.slice none 0 0] 36)) (.cells #[.int .i64 0] 30)
  rw [World.size_alloc] at h3
  have hsz2 : ((w.alloc (.cells #[.slice none 0 0] 36)).alloc (.cells #[.int .i64 0] 30)).heap.size = w.heap.size + 2 := by simp
  have HR2 : Hid (ReadR w [] (.slice none 0 0) ((w.alloc (.cells #[.slice none 0 0] 36)).alloc (.cells #[.int .i64 0] 30))) := ⟨hb2, h2, h3, World.ownsRow_nil _ _ _ _, by rw [hsz2]; exact Nat.le_refl _, fun y hy => by cases hy⟩
  clear hl ha hg ht hb2 h2 h3 hsz2
  go_enter_defers Tryz.func29, Tryz.ntmps29
  go_wp2_with fail
  generalize (w.alloc (.cells #[.slice none 0 0] 36)).alloc (.cells #[.int .i64 0] 30) = w2 at *
  go_loopw [6, 10] (fun _ i wr => ∃ (k : Nat) (L : List StkV) (hdr : Value), k ≤ ls.length ∧ i = .int .i64 k ∧ linesS (ls.take k) = some (L.map Prod.snd) ∧ L.length = k ∧ ReadR w L hdr wr) (fun _ i _ => ls.length - (intOf i).toNat)
  case atStart => exact ⟨0, [], _, Nat.zero_le _, rfl, rfl, rfl, HR2.out⟩
  case round =>
  obtain ⟨k, L, hdr, hk, rfl, hls, hlk, hrr⟩ := hrel
  have HR := Lib.hid hrr
  have HLs := Lib.hid hls
  have c2 := (block_cell hrr.2.1 0 (by simp)).1
  simp only [List.getElem_toArray, List.getElem_cons_zero] at c2
  clear HR2 hls
  by_cases hlt : k < ls.length
  case neg =>
    obtain rfl : k = ls.length := by omega
    have hst := hrr.stks (by omega)
    have hor := prof_ordered (L.map Prod.snd) hdr wr hst
    obtain ⟨V, vc, hV, -⟩ := hst.form
    rw [List.length_map, hlk] at hV
    subst hV
    have HOr := Lib.hid hor
    have HSk := Lib.hid hst
    have hrd : readS ls = if ordB (L.map Prod.snd) then some (L.map Prod.snd) else none := by
      have := HLs.out
      rw [List.take_length] at this
      unfold readS; rw [this]
    have HRd := Lib.hid hrd
    clear hst hor hrr hrd
    go_wp2_with fail
    refine HOr.out.mono ?_
    rintro e w5 ⟨rfl, hb5⟩
    have HR5 := Lib.hid (HR.out.below hb5)
    have HS5 := Lib.hid (HSk.out.below hb5)
    cases hob : ordB (L.map Prod.snd) with
    | false =>
      have hn : readS ls = none := by rw [HRd.out, hob]; rfl
      have HN := Lib.hid hn
      go_wp2_with fail
      refine (must_no _).mono ?_
      rintro e w6 ⟨rfl, rfl⟩
      exact leaves_bad ls w w6 _ _ HR5.out HN.out _ rfl rfl
    | true =>
      have hn : readS ls = some (L.map Prod.snd) := by rw [HRd.out, hob]; rfl
      have HN := Lib.hid hn
      clear hn
      obtain ⟨a2, f2⟩ := block_cell HR5.out.2.1 0 (by simp)
      obtain ⟨a3, f3⟩ := block_cell HR5.out.2.2.1 0 (by simp)
      simp only [List.getElem_toArray, List.getElem_cons_zero] at a2 a3
      go_wp2_with fail
      refine (must_yes _).mono ?_
      rintro e w6 ⟨rfl, rfl⟩
      go_wp2_with fail
      exact leaves_good ls w w6 _ _ HR5.out (by omega) HN.out _ _ _
  case pos =>
    obtain ⟨tb, toff, rfl, e0⟩ := (HL.out.below hrr.1).at_ k hlt
    have hak := HA.out ls[k] (List.getElem_mem hlt)
    have hlo := line_of ls[k] wr.drew hak.1 hak.2 (HG.out.below (hrr.below (below_drew wr)).1) (HT.out.below (hrr.below (below_drew wr)).1)
    have HLo := Lib.hid hlo
    have hks := linesS_snoc (ls.take k) ls[k]
    have htk : ls.take (k + 1) = ls.take k ++ [ls[k]] := List.take_succ_eq_append_getElem hlt
    rw [← htk, HLs.out] at hks
    have HKs := Lib.hid hks
    have HBd := Lib.hid (linesS_bad ls k hlt)
    have hb63 : (bytesOf ls[k]) = ⟨ls[k].toArray⟩ := rfl
    rw [hb63] at HLo
    clear hak hlo hks htk hrr hb63
    generalize hlk' : ls[k] = l at *
    go_upto_region 6 with (fail)
    refine wp_region_free ?_
    cases hl : lineS l with
    | none =>
      have hn : readS ls = none := by unfold readS; rw [HBd.out hl]
      refine wp_region_held_drew (S := fun W => W.cell? ⟨w.heap.size, 0, none⟩ = some hdr) (by kernel_rfl) c2 (fun hHeld => ?_)
      refine wpAnyH_take (i := 0) (oi := _) (v := ?_) rfl (by kernel_rfl) (by kernel_rfl) (by kernel_rfl) (fun _ _ _ h => free_put (d := 14) (by decide) (by decide) h) (Or.inl ⟨by rfl, ?_⟩) (by assumption) ?_
      rotate_left
      · intro w hSw
        go_split_ands
        go_simp
        try with_reducible rfl
      try simp only [Act.put, List.setIfInBounds_toArray, List.set_cons_zero, List.set_cons_succ]
      refine wpAnyH_take (i := 1) (oi := _) (v := ?_) rfl (by kernel_rfl) (by kernel_rfl) (by kernel_rfl) (fun _ _ _ h => free_put (d := 15) (by decide) (by decide) h) (Or.inl ⟨by rfl, ?_⟩) (by assumption) ?_
      rotate_left
      · intro w hSw
        go_split_ands
        go_simp
        try with_reducible rfl
      try simp only [Act.put, List.setIfInBounds_toArray, List.set_cons_zero, List.set_cons_succ]
      refine wpAnyH_take (i := 2) (oi := _) (v := ?_) rfl (by kernel_rfl) (by kernel_rfl) (by kernel_rfl) (fun _ _ _ h => free_put (d := 16) (by decide) (by decide) h) (Or.inl ⟨by rfl, ?_⟩) (by assumption) ?_
      rotate_left
      · intro w hSw
        go_split_ands
        go_simp
        try with_reducible rfl
      try simp only [Act.put, List.setIfInBounds_toArray, List.set_cons_zero, List.set_cons_succ]
      refine wpAnyH_ready (rs := [3]) (by kernel_rfl) (by simp) ?_
      refine AllReadyH.cons (o := _) rfl (fun K hK => ?_) AllReadyH.nil
      have HK := Lib.hid hK; clear hK
      go_simp
      refine HLo.out.mono ?_
      rintro e w5 ⟨hb5, he⟩
      rw [hl] at he
      obtain rfl : e = .panicked badE := he
      exact fun tm h2 h3 => leaves_bad ls w w5 L hdr (HR.out.below (below_step (below_drew wr) hb5)) hn tm h2 h3
    | some x =>
      obtain ⟨i0, hi, hzz⟩ := Option.map_eq_some_iff.1 infoStk2
      simp only [Prod.mk.injEq] at hzz
      obtain ⟨hz0, hz1, hz2⟩ := hzz
      have HGl : Hid (∀ (g c : Nat) (W : World), Ints W (.slice (some ⟨g, 0, none⟩) x.stack.length c) x.stack → g < W.heap.size) := fun g c W h => by
        have hne := List.length_pos_iff.2 (lineS_some l x hl)
        obtain ⟨b', off', e', c'⟩ := h.at_ 0 hne
        cases e'
        exact World.block_lt_of_cell? W _ c'
      refine wp_region_held_drew (S := fun W => True) (by kernel_rfl) trivial (fun hHeld => ?_)
      refine wpAnyH_take (i := 1) (oi := _) (v := ?_) rfl (by kernel_rfl) (by kernel_rfl) (by kernel_rfl) (fun _ _ _ h => free_put (d := 15) (by decide) (by decide) h) (Or.inl ⟨by rfl, ?_⟩) (by assumption) ?_
      rotate_left
      · intro w hSw
        go_split_ands
        go_simp
        try with_reducible rfl
      try simp only [Act.put, List.setIfInBounds_toArray, List.set_cons_zero, List.set_cons_succ]
      refine wpAnyH_take (i := 2) (oi := _) (v := ?_) rfl (by kernel_rfl) (by kernel_rfl) (by kernel_rfl) (fun _ _ _ h => free_put (d := 16) (by decide) (by decide) h) (Or.inl ⟨by rfl, ?_⟩) (by assumption) ?_
      rotate_left
      · intro w hSw
        go_split_ands
        go_simp
        try with_reducible rfl
      try simp only [Act.put, List.setIfInBounds_toArray, List.set_cons_zero, List.set_cons_succ]
      refine wpAnyH_ready (rs := [0, 3]) (by kernel_rfl) (by simp) ?_
      refine AllReadyH.cons (o := _) rfl (fun K hK => ?_) (AllReadyH.cons (o := _) rfl (fun K hK => ?_) AllReadyH.nil)
      all_goals (have HK := Lib.hid hK; clear hK)
      · go_simp
        refine HK.out _ _ trivial (fun hHeld => ?_)
        clear HK K
        try simp only [Act.put, List.setIfInBounds_toArray, List.set_cons_zero, List.set_cons_succ]
        refine wpAnyH_ready (rs := [3]) (by kernel_rfl) (by simp) ?_
        refine AllReadyH.cons (o := _) rfl (fun K hK => ?_) AllReadyH.nil
        have HK := Lib.hid hK; clear hK
        go_simp
        refine HLo.out.mono ?_
        rintro e w5 ⟨hb5, he⟩
        rw [hl] at he
        obtain ⟨g, c, rfl, hi5, hgg⟩ := he
        have hbw5 : Below wr.heap.size wr w5 := below_step (below_drew wr) hb5
        have hgl : g < w5.heap.size := HGl.out _ _ _ hi5
        have hgg' : wr.heap.size ≤ g := hgg
        have c5 := cell_keep hbw5 c2
        have hb6 := below1 w5 (.cells #[.slice (some ⟨g, 0, none⟩) x.stack.length c, .int .i64 x.work] 65)
        have c6 := cell_keep hb6 c5
        have hown6 := ((HR.out.below hbw5).below hb6).2.2.2.1
        have hsz6 := ((HR.out.below hbw5).below hb6).2.2.2.2.1
        rw [hlk] at hown6
        refine HK.out _ _ trivial (fun hHeld => ?_)
        clear HK K
        try simp only [Act.put, List.setIfInBounds_toArray, List.set_cons_zero, List.set_cons_succ]
        refine wpAnyH_ready (rs := [4]) (by kernel_rfl) (by simp) ?_
        refine AllReadyH.cons (o := _) rfl (fun K hK => ?_) AllReadyH.nil
        have HK := Lib.hid hK; clear hK
        go_simp
        refine HK.out _ _ trivial (fun hHeld => ?_)
        clear HK K
        try simp only [Act.put, List.setIfInBounds_toArray, List.set_cons_zero, List.set_cons_succ]
        refine wpAnyH_ready (rs := [5]) (by kernel_rfl) (by simp) ?_
        refine AllReadyH.cons (o := _) rfl (fun K hK => ?_) AllReadyH.nil
        have HK := Lib.hid hK; clear hK
        refine step_append_own_at rfl _ _ 36 rfl (w.heap.size + 2) 65 i0 _ 2 32 Tryz.underlying36 hi hz0 hz1 hz2 rfl (by omega) hdr k (L.flatMap stkCells) rfl hown6 ⟨w5.heap.size, 0, none⟩ 1 1 [.slice (some ⟨g, 0, none⟩) x.stack.length c, .int .i64 x.work] rfl rfl (news_row w5 _ 65) (by simp [Value.oneCell']) (by unfold maxLen; omega) (by omega) (by omega) ?_
        intro v' w7 hown' hg' hnil' hat'
        obtain ⟨g', cap', rfl⟩ := ownsRow_succ hown'
        have hb56 := below_step hbw5 hb6
        have hp := HR.out.push (y := (.slice (some ⟨g, 0, none⟩) x.stack.length c, x)) hb56 rfl (Ints.below hi5 hb6) hgg' (by simp; omega) hg' hat' (by rw [hlk]; exact hown')
        obtain ⟨c7, f7⟩ := block_cell (HR.out.head7 hb56 hg') 0 (by simp)
        simp only [List.getElem_toArray, List.getElem_cons_zero] at c7
        have HP := Lib.hid hp
        clear hp hown' hg' hnil' hat' c5 c6 hown6
        refine HK.out _ _ trivial (fun hHeld => ?_)
        clear HK K
        try simp only [Act.put, List.setIfInBounds_toArray, List.set_cons_zero, List.set_cons_succ]
        refine wpAnyH_ready (rs := [6]) (by kernel_rfl) (by simp) ?_
        refine AllReadyH.cons (o := _) rfl (fun K hK => ?_) AllReadyH.nil
        have HK := Lib.hid hK; clear hK
        go_simp
        refine HK.out _ _ trivial (fun hHeld => ?_)
        refine wpAnyH_done (by kernel_rfl) ?_ _
        clear HK K hHeld c7 f7 c2 e0
        simp only [FreePanic]
        go_wp2_with fail
        go_roundw
        case rel => exact ⟨k + 1, L ++ [(.slice (some ⟨g, 0, none⟩) x.stack.length c, x)], _, hlt, by go_num, by rw [HKs.out, hl, List.map_append]; rfl, by simp [hlk], HP.out⟩
        case measure => simp [intOf]; omega
      · go_simp
        refine HLo.out.mono ?_
        rintro e w5 ⟨hb5, he⟩
        rw [hl] at he
        obtain ⟨g, c, rfl, hi5, hgg⟩ := he
        have hbw5 : Below wr.heap.size wr w5 := below_step (below_drew wr) hb5
        have hgl : g < w5.heap.size := HGl.out _ _ _ hi5
        have hgg' : wr.heap.size ≤ g := hgg
        have c5 := cell_keep hbw5 c2
        have hb6 := below1 w5 (.cells #[.slice (some ⟨g, 0, none⟩) x.stack.length c, .int .i64 x.work] 65)
        have c6 := cell_keep hb6 c5
        have hown6 := ((HR.out.below hbw5).below hb6).2.2.2.1
        have hsz6 := ((HR.out.below hbw5).below hb6).2.2.2.2.1
        rw [hlk] at hown6
        refine HK.out _ _ trivial (fun hHeld => ?_)
        clear HK K
        try simp only [Act.put, List.setIfInBounds_toArray, List.set_cons_zero, List.set_cons_succ]
        refine wpAnyH_ready (rs := [0, 4]) (by kernel_rfl) (by simp) ?_
        refine AllReadyH.cons (o := _) rfl (fun K hK => ?_) (AllReadyH.cons (o := _) rfl (fun K hK => ?_) AllReadyH.nil)
        all_goals (have HK := Lib.hid hK; clear hK)
        · go_simp
          refine HK.out _ _ trivial (fun hHeld => ?_)
          clear HK K
          try simp only [Act.put, List.setIfInBounds_toArray, List.set_cons_zero, List.set_cons_succ]
          refine wpAnyH_ready (rs := [4]) (by kernel_rfl) (by simp) ?_
          refine AllReadyH.cons (o := _) rfl (fun K hK => ?_) AllReadyH.nil
          have HK := Lib.hid hK; clear hK
          go_simp
          refine HK.out _ _ trivial (fun hHeld => ?_)
          clear HK K
          try simp only [Act.put, List.setIfInBounds_toArray, List.set_cons_zero, List.set_cons_succ]
          refine wpAnyH_ready (rs := [5]) (by kernel_rfl) (by simp) ?_
          refine AllReadyH.cons (o := _) rfl (fun K hK => ?_) AllReadyH.nil
          have HK := Lib.hid hK; clear hK
          refine step_append_own_at rfl _ _ 36 rfl (w.heap.size + 2) 65 i0 _ 2 32 Tryz.underlying36 hi hz0 hz1 hz2 rfl (by omega) hdr k (L.flatMap stkCells) rfl hown6 ⟨w5.heap.size, 0, none⟩ 1 1 [.slice (some ⟨g, 0, none⟩) x.stack.length c, .int .i64 x.work] rfl rfl (news_row w5 _ 65) (by simp [Value.oneCell']) (by unfold maxLen; omega) (by omega) (by omega) ?_
          intro v' w7 hown' hg' hnil' hat'
          obtain ⟨g', cap', rfl⟩ := ownsRow_succ hown'
          have hb56 := below_step hbw5 hb6
          have hp := HR.out.push (y := (.slice (some ⟨g, 0, none⟩) x.stack.length c, x)) hb56 rfl (Ints.below hi5 hb6) hgg' (by simp; omega) hg' hat' (by rw [hlk]; exact hown')
          obtain ⟨c7, f7⟩ := block_cell (HR.out.head7 hb56 hg') 0 (by simp)
          simp only [List.getElem_toArray, List.getElem_cons_zero] at c7
          have HP := Lib.hid hp
          clear hp hown' hg' hnil' hat' c5 c6 hown6
          refine HK.out _ _ trivial (fun hHeld => ?_)
          clear HK K
          try simp only [Act.put, List.setIfInBounds_toArray, List.set_cons_zero, List.set_cons_succ]
          refine wpAnyH_ready (rs := [6]) (by kernel_rfl) (by simp) ?_
          refine AllReadyH.cons (o := _) rfl (fun K hK => ?_) AllReadyH.nil
          have HK := Lib.hid hK; clear hK
          go_simp
          refine HK.out _ _ trivial (fun hHeld => ?_)
          refine wpAnyH_done (by kernel_rfl) ?_ _
          clear HK K hHeld c7 f7 c2 e0
          simp only [FreePanic]
          go_wp2_with fail
          go_roundw
          case rel => exact ⟨k + 1, L ++ [(.slice (some ⟨g, 0, none⟩) x.stack.length c, x)], _, hlt, by go_num, by rw [HKs.out, hl, List.map_append]; rfl, by simp [hlk], HP.out⟩
          case measure => simp [intOf]; omega
        · go_simp
          refine HK.out _ _ trivial (fun hHeld => ?_)
          clear HK K
          try simp only [Act.put, List.setIfInBounds_toArray, List.set_cons_zero, List.set_cons_succ]
          refine wpAnyH_ready (rs := [0]) (by kernel_rfl) (by simp) ?_
          refine AllReadyH.cons (o := _) rfl (fun K hK => ?_) AllReadyH.nil
          have HK := Lib.hid hK; clear hK
          go_simp
          refine HK.out _ _ trivial (fun hHeld => ?_)
          clear HK K
          try simp only [Act.put, List.setIfInBounds_toArray, List.set_cons_zero, List.set_cons_succ]
          refine wpAnyH_ready (rs := [5]) (by kernel_rfl) (by simp) ?_
          refine AllReadyH.cons (o := _) rfl (fun K hK => ?_) AllReadyH.nil
          have HK := Lib.hid hK; clear hK
          refine step_append_own_at rfl _ _ 36 rfl (w.heap.size + 2) 65 i0 _ 2 32 Tryz.underlying36 hi hz0 hz1 hz2 rfl (by omega) hdr k (L.flatMap stkCells) rfl hown6 ⟨w5.heap.size, 0, none⟩ 1 1 [.slice (some ⟨g, 0, none⟩) x.stack.length c, .int .i64 x.work] rfl rfl (news_row w5 _ 65) (by simp [Value.oneCell']) (by unfold maxLen; omega) (by omega) (by omega) ?_
          intro v' w7 hown' hg' hnil' hat'
          obtain ⟨g', cap', rfl⟩ := ownsRow_succ hown'
          have hb56 := below_step hbw5 hb6
          have hp := HR.out.push (y := (.slice (some ⟨g, 0, none⟩) x.stack.length c, x)) hb56 rfl (Ints.below hi5 hb6) hgg' (by simp; omega) hg' hat' (by rw [hlk]; exact hown')
          obtain ⟨c7, f7⟩ := block_cell (HR.out.head7 hb56 hg') 0 (by simp)
          simp only [List.getElem_toArray, List.getElem_cons_zero] at c7
          have HP := Lib.hid hp
          clear hp hown' hg' hnil' hat' c5 c6 hown6
          refine HK.out _ _ trivial (fun hHeld => ?_)
          clear HK K
          try simp only [Act.put, List.setIfInBounds_toArray, List.set_cons_zero, List.set_cons_succ]
          refine wpAnyH_ready (rs := [6]) (by kernel_rfl) (by simp) ?_
          refine AllReadyH.cons (o := _) rfl (fun K hK => ?_) AllReadyH.nil
          have HK := Lib.hid hK; clear hK
          go_simp
          refine HK.out _ _ trivial (fun hHeld => ?_)
          refine wpAnyH_done (by kernel_rfl) ?_ _
          clear HK K hHeld c7 f7 c2 e0
          simp only [FreePanic]
          go_wp2_with fail
          go_roundw
          case rel => exact ⟨k + 1, L ++ [(.slice (some ⟨g, 0, none⟩) x.stack.length c, x)], _, hlt, by go_num, by rw [HKs.out, hl, List.map_append]; rfl, by simp [hlk], HP.out⟩
          case measure => simp [intOf]; omega
end Go.Proofs.YtdkcjeaabbkdeaaGreatDoor
end
