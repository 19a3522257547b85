/- Package vec: the run as it lies in memory; what its methods keep. Package vec: run.write. Package vec: how a call reads its registers. -/
import Derived.Test.YtdkcjeaabbkdeaaGreatDoorZShapes
import Derived.Test.YtdkcjeaabbkdeaaGreatDoorZMapv
import Derived.Test.YtdkcjeaabbkdeaaGreatDoorZSet
import Derived.Deep.RegionLaw
set_option linter.unusedVariables false
set_option linter.unusedSimpArgs false
set_option linter.unnecessarySimpa false
set_option linter.unusedSectionVars false
section
namespace Go.Proofs.YtdkcjeaabbkdeaaGreatDoor
open Go.RowKit Go.Maps
set_option linter.unusedVariables false
set_option linter.unusedSimpArgs false

/-- Where the steps of the run in block R lie. -/
def stepsBlock (R : Nat) (w : World) : Option Nat := match w.cell? ⟨R, 5, none⟩ with | some v => v.ownBlock | none => none
/-- The run's own blocks: its cells, its map, its steps. -/
def spec (R M : Nat) (w : World) : Nat → Prop := fun k => k = R ∨ k = M ∨ stepsBlock R w = some k
noncomputable abbrev pub (R M : Nat) (w : World) : World := hide (spec R M w) w

/-- Nothing turns but the run's own blocks. -/
structure Turn (R M : Nat) (w w' : World) : Prop where
  os : w'.os = w.os
  tape : w'.tape = w.tape
  output : w'.output = w.output
  size : w.heap.size ≤ w'.heap.size
  block : ∀ k, k < w.heap.size → ¬ spec R M w k → w'.heap[k]? = w.heap[k]?
  steps : stepsBlock R w' = stepsBlock R w ∨ ∃ g, stepsBlock R w' = some g ∧ w.heap.size ≤ g
theorem Turn.refl (R M : Nat) (w : World) : Turn R M w w := ⟨rfl, rfl, rfl, Nat.le_refl _, fun _ _ _ => rfl, .inl rfl⟩
theorem Turn.spec {R M : Nat} {w w' : World} (h : Turn R M w w') {k : Nat} (hk : k < w.heap.size) (hs : ¬ spec R M w k) : ¬ spec R M w' k := by
  rintro (e | e | e)
  · exact hs (.inl e)
  · exact hs (.inr (.inl e))
  · rcases h.steps with h1 | ⟨g, h1, h2⟩
    · rw [h1] at e; exact hs (.inr (.inr e))
    · rw [h1] at e; cases e; omega
theorem Turn.trans {R M : Nat} {a b c : World} (h : Turn R M a b) (k : Turn R M b c) : Turn R M a c := by
  refine ⟨k.os.trans h.os, k.tape.trans h.tape, k.output.trans h.output, Nat.le_trans h.size k.size, fun i hi hs => ?_, ?_⟩
  · exact (k.block i (Nat.lt_of_lt_of_le hi h.size) (h.spec hi hs)).trans (h.block i hi hs)
  · rcases k.steps with e | ⟨g, e, hg⟩
    · rw [e]; exact h.steps
    · exact .inr ⟨g, e, Nat.le_trans h.size hg⟩
theorem Turn.of_below {R M : Nat} {w w' : World} (hR : R < w.heap.size) (h : Below w.heap.size w w') : Turn R M w w' := by
  refine ⟨h.os, h.tape, h.output, h.size, fun k hk _ => h.block k hk, .inl ?_⟩
  unfold stepsBlock
  rw [h.cell (p := ⟨R, 5, none⟩) hR]
theorem Turn.reads {R M : Nat} {w w' : World} (h : Turn R M w w') : Reads (pub R M w) (pub R M w') := reads_hide fun a v hs hc => by
  have hlt := World.block_lt_of_cell? w a hc
  exact ⟨h.spec hlt hs, (World.cell?_of_block (h.block _ hlt hs)).trans hc⟩
theorem Turn.heap {R M : Nat} {w w' : World} (h : Turn R M w w') {k : Nat} {o : Obj} (ho : w.heap[k]? = some o) (hs : ¬ Go.Proofs.YtdkcjeaabbkdeaaGreatDoor.spec R M w k) : w'.heap[k]? = some o :=
  (h.block k (Array.getElem?_eq_some_iff.1 ho).1 hs).trans ho
/-- What is in sight above a world's end lies in none of the run's blocks. -/
theorem reads_pub {R M : Nat} {w w' : World} (hR : R < w.heap.size) (hM : M < w.heap.size) (hs : ∀ g, stepsBlock R w = some g → g < w.heap.size) (h : Below w.heap.size w w') : Reads (above w.heap.size w') (pub R M w') := reads_hide fun a v ha hc => by
  refine ⟨?_, hc⟩
  have e : stepsBlock R w' = stepsBlock R w := by unfold stepsBlock; rw [h.cell (p := ⟨R, 5, none⟩) hR]
  rintro (h1 | h1 | h1)
  · omega
  · omega
  · rw [e] at h1; have := hs _ h1; omega

/-- What of a run stays. -/
structure Cfg where
  base : Nat
  R : Nat
  M : Nat
  S : Option Addr
  fl : Nat
  sc : Nat
  main : Int
  left : Nat
  tell : Bool
def told (c : Cfg) (st : St) : List Step := if c.tell then st.steps else []
def stepCells (s : Step) : List Value := [.int .i64 s.deep, .int .i64 s.fn, .int .i64 s.ins, .int .i64 s.work]
def stepVals (l : List Step) : List Value := l.flatMap stepCells
def runCells (c : Cfg) (vs : Value) (st : St) (now : Step) : List Value :=
  [.slice c.S c.fl c.sc, .int .i64 c.main, .map (some c.M), .int .i64 st.calls, .int .i64 c.left, vs, .int .i64 now.deep, .int .i64 now.fn, .int .i64 now.ins, .int .i64 now.work, .int .i64 st.wide, .bool c.tell, .int .i64 st.count, .int .i64 st.work]
/-- The map of the registers: E: what each call's registers hold. -/
def RegsAt (c : Cfg) (E : Int → Int → Option (List Int)) (n : Nat) (w : World) : Prop :=
  ∃ Mf, MapV Tryz.prog 194 w c.M n Mf ∧ ∀ a r, inInt a → inInt r → match E a r with
    | none => Mf (hkey a r) = none
    | some l => ∃ v, Mf (hkey a r) = some v ∧ Ints (pub c.R c.M w) v l
structure RunAt (c : Cfg) (E : Int → Int → Option (List Int)) (n : Nat) (st : St) (now : Step) (w : World) : Prop where
  cells : ∃ vs, w.heap[c.R]? = some (.cells (runCells c vs st now).toArray 141) ∧ w.ownsRow c.base 58 4 vs (told c st).length (stepVals (told c st))
  regs : RegsAt c E n w
  base : c.base ≤ c.R ∧ c.base ≤ c.M
theorem stepVals_length (l : List Step) : (stepVals l).length = l.length * 4 := by
  induction l with
  | nil => rfl
  | cons s l ih => simp [stepVals, stepCells] at ih ⊢; omega
theorem stepVals_append (l m : List Step) : stepVals (l ++ m) = stepVals l ++ stepVals m := by simp [stepVals]
theorem RunAt.ltR {c : Cfg} {E : Int → Int → Option (List Int)} {n : Nat} {st : St} {now : Step} {w : World} (h : RunAt c E n st now w) : c.R < w.heap.size := by
  obtain ⟨vs, h1, -⟩ := h.cells; exact (Array.getElem?_eq_some_iff.1 h1).1
theorem RunAt.ltM {c : Cfg} {E : Int → Int → Option (List Int)} {n : Nat} {st : St} {now : Step} {w : World} (h : RunAt c E n st now w) : c.M < w.heap.size := by
  obtain ⟨M, h1, -⟩ := h.regs; exact h1.lt
theorem RunAt.ne {c : Cfg} {E : Int → Int → Option (List Int)} {n : Nat} {st : St} {now : Step} {w : World} (h : RunAt c E n st now w) : c.R ≠ c.M := by
  intro e
  obtain ⟨vs, h1, -⟩ := h.cells
  obtain ⟨M, h2, -⟩ := h.regs
  obtain ⟨es, cl, h3⟩ := h2.heap
  rw [e, h3] at h1; cases h1
theorem stepsBlock_eq {c : Cfg} {st : St} {now : Step} {w : World} {vs : Value} (h : w.heap[c.R]? = some (.cells (runCells c vs st now).toArray 141)) : stepsBlock c.R w = vs.ownBlock := by
  unfold stepsBlock
  rw [cell_of_heap h]; rfl
theorem RunAt.ltG {c : Cfg} {E : Int → Int → Option (List Int)} {n : Nat} {st : St} {now : Step} {w : World} (h : RunAt c E n st now w) : ∀ g, stepsBlock c.R w = some g → g < w.heap.size := by
  intro g hg
  obtain ⟨vs, h1, h2⟩ := h.cells
  rw [stepsBlock_eq h1] at hg
  exact (h2.lt g hg).2
theorem RunAt.below {c : Cfg} {E : Int → Int → Option (List Int)} {n : Nat} {st : St} {now : Step} {w w' : World} (h : RunAt c E n st now w) (hb : Below w.heap.size w w') : RunAt c E n st now w' := by
  have hR := h.ltR
  obtain ⟨vs, h1, h2⟩ := h.cells
  obtain ⟨M, h3, h4⟩ := h.regs
  have ht := Turn.of_below (M := c.M) hR hb
  refine ⟨⟨vs, heap_keep hb h1, h2.kept (row := none) ⟨hb.os, hb.tape, hb.output, hb.size, fun i hi _ => hb.block i hi⟩ (by cases vs.ownBlock <;> simp)⟩, ⟨M, h3.of_heap (hb.block _ h3.lt), fun a r ha hr => ?_⟩, h.base⟩
  have := h4 a r ha hr
  cases hE : E a r with
  | none => rw [hE] at this; exact this
  | some l => rw [hE] at this; obtain ⟨v, hv, hi⟩ := this; exact ⟨v, hv, hi.reads ht.reads⟩

section
variable {R M : Nat} {w W : World}
theorem stepsBlock_heap {w w' : World} (h : w'.heap[R]? = w.heap[R]?) : stepsBlock R w' = stepsBlock R w := by
  unfold stepsBlock; rw [World.cell?_of_block (a := ⟨R, 5, none⟩) h]
theorem Turn.setNew (h : Turn R M w W) {q j : Nat} (hq : w.heap.size ≤ q) (hR : R ≠ q) (v : Value) : Turn R M w (W.setCell ⟨q, j, none⟩ v) := by
  refine ⟨h.os, h.tape, h.output, by show _ ≤ (W.heap.modify q _).size; rw [Array.size_modify]; exact h.size, fun k hk hs => (heap_setCell_ne (by omega) v).trans (h.block k hk hs), ?_⟩
  rw [stepsBlock_heap (heap_setCell_ne hR v)]; exact h.steps
theorem Turn.alloc (h : Turn R M w W) (hR : R < W.heap.size) (o : Obj) : Turn R M w (W.alloc o) := h.trans (Turn.of_below hR (below1 W o))
theorem Turn.drew (h : Turn R M w W) : Turn R M w W.drew := ⟨h.os, h.tape, h.output, h.size, h.block, h.steps⟩
theorem Turn.setR (h : Turn R M w W) {j : Nat} {v : Value} (hs : stepsBlock R (W.setCell ⟨R, j, none⟩ v) = stepsBlock R w ∨ ∃ g, stepsBlock R (W.setCell ⟨R, j, none⟩ v) = some g ∧ w.heap.size ≤ g) : Turn R M w (W.setCell ⟨R, j, none⟩ v) :=
  ⟨h.os, h.tape, h.output, by show _ ≤ (W.heap.modify R _).size; rw [Array.size_modify]; exact h.size, fun k hk hs => (heap_setCell_ne (fun e => hs (.inl e)) v).trans (h.block k hk hs), hs⟩
theorem Turn.grow (h : Turn R M w W) {W' : World} {row : Option Nat} (hg : W.grownBy W' row) (hR : R < W.heap.size) (hne : row ≠ some R) (hrow : ∀ g, row = some g → stepsBlock R w = some g ∨ w.heap.size ≤ g) : Turn R M w W' := by
  refine ⟨hg.os.trans h.os, hg.tape.trans h.tape, hg.output.trans h.output, Nat.le_trans h.size hg.size, fun k hk hs => (hg.block k (Nat.lt_of_lt_of_le hk h.size) (fun e => ?_)).trans (h.block k hk hs), ?_⟩
  · rcases hrow k e.symm with h1 | h1
    · exact hs (.inr (.inr h1))
    · omega
  · rw [stepsBlock_heap (hg.block R hR (fun e => hne e.symm))]; exact h.steps
theorem Turn.map (h : Turn R M w W) {W' : World} (hg : W.mapTurned W' M) (hR : R < W.heap.size) (hne : R ≠ M) : Turn R M w W' := by
  have hg := hg.grown
  refine ⟨hg.os.trans h.os, hg.tape.trans h.tape, hg.output.trans h.output, Nat.le_trans h.size hg.size, fun k hk hs => (hg.block k (Nat.lt_of_lt_of_le hk h.size) (fun e => ?_)).trans (h.block k hk hs), ?_⟩
  · cases e; exact hs (.inr (.inl rfl))
  · rw [stepsBlock_heap (hg.block R hR (fun e => hne (by cases e; rfl)))]; exact h.steps
end
/-- The run behind a turn, its own cells known anew. -/
theorem RunAt.make {c : Cfg} {E : Int → Int → Option (List Int)} {n : Nat} {st st' : St} {now now' : Step} {w w' : World} (h : RunAt c E n st now w) (hT : Turn c.R c.M w w')
    (hc : ∃ vs, w'.heap[c.R]? = some (.cells (runCells c vs st' now').toArray 141) ∧ w'.ownsRow c.base 58 4 vs (told c st').length (stepVals (told c st'))) (hM : w'.heap[c.M]? = w.heap[c.M]?) : RunAt c E n st' now' w' := by
  obtain ⟨M, h3, h4⟩ := h.regs
  refine ⟨hc, ⟨M, h3.of_heap hM, fun a r ha hr => ?_⟩, h.base⟩
  have := h4 a r ha hr
  cases hE : E a r with
  | none => rw [hE] at this; exact this
  | some l => rw [hE] at this; obtain ⟨v, hv, hi⟩ := this; exact ⟨v, hv, hi.reads hT.reads⟩
theorem RunAt.own_ne {c : Cfg} {vs : Value} {st : St} {now : Step} {w : World} {xs : List Value} {m : Nat} (h : w.heap[c.R]? = some (.cells (runCells c vs st now).toArray 141)) (ho : w.ownsRow c.base 58 4 vs m xs) : vs.ownBlock ≠ some c.R := by
  intro e
  rcases ho.2 with ⟨rfl, -⟩ | ⟨g, cap, cur, rfl, -, hh, -⟩
  · cases e
  · simp only [Value.ownBlock, Option.some.injEq] at e
    subst e
    rw [h] at hh
    simp at hh
theorem RunAt.own_neM {c : Cfg} {n : Nat} {Mf : Value → Option Value} {vs : Value} {w : World} {xs : List Value} {m : Nat} (h : MapV Tryz.prog 194 w c.M n Mf) (ho : w.ownsRow c.base 58 4 vs m xs) : vs.ownBlock ≠ some c.M := by
  intro e
  obtain ⟨es, cl, h⟩ := h.heap
  rcases ho.2 with ⟨rfl, -⟩ | ⟨g, cap, cur, rfl, -, hh, -⟩
  · cases e
  · simp only [Value.ownBlock, Option.some.injEq] at e
    subst e
    rw [h] at hh
    simp at hh

/-- append to a row of the call's own, as one step of a region that draws. -/
theorem step_append_own_at {P : Program} {ops : Array Oper} {o : Oper} {a : Act} {w : World} {K : Act → World → Prop} {Q : Exit → Act → World → Prop} {E : Prop}
    (hgd : o.guard = none) (s x : Operand) (t : TypeId) (ho : o.op = .call { callee := .builtin .append, args := #[s, x], argTypes := #[t, t] })
    (base : Nat) (e : TypeId) (i : TypeInfo) (z : Value) (size bytes : Nat) (ht : P.underlying t = some (.slice e)) (hi : P.info? e = some i) (hz : i.zero = some z)
    (hsize : i.size = size) (hby : i.bytes = bytes) (hzs : z.cells.size = size) (hsz : 0 < size)
    (v : Value) (n : Nat) (xs : List Value) (hs : a.eval s = v) (hown : w.ownsRow base e size v n xs)
    (ad : Addr) (m c : Nat) (news : List Value) (hx : a.eval x = .slice (some ad) m c) (hl : news.length = m * size) (hnews : ∀ j u, news[j]? = some u → w.cell? (ad.add j) = some u) (h1 : ∀ u ∈ news, u.oneCell' = true)
    (h63 : n + m ≤ maxLen) (hbytes : (n + m) * bytes ≤ 140737488355328) (hbase : base ≤ w.heap.size)
    (h : ∀ v' w', w'.ownsRow base e size v' (n + m) (xs ++ news) → w.grownBy w' v.ownBlock → (v' = .slice none 0 0 ↔ v = .slice none 0 0 ∧ m = 0) → (v'.ownBlock = v.ownBlock ∨ v'.ownBlock = some w.heap.size) → K (a.put o.dst v') w') :
    if Region.wanted o (yielded ops a.tmps) = true then Oper.wp P o a w K Q else E := by
  have hw : Region.wanted o (yielded ops a.tmps) = true := by simp [Region.wanted, hgd]
  rw [if_pos hw]
  obtain ⟨v', w', hr, h2, h3, h4, h5⟩ := run_append_own_at (P := P) w base t o.type e i z size bytes ht hi hz hsize hby hzs hsz v n xs hown ad m c news hl hnews h1 h63 hbytes hbase
  unfold Oper.wp execOp
  simp only [ho, resolve, invoke, builtin, Sem.run_bind, Sem.run_pure, Result.andThen_ok, List.map_toArray, List.map_cons, List.map_nil, hs, hx, hr]
  exact h v' w' h2 h3 h4 h5
/-- The cells of one new element, as append asks for them. -/
theorem news_row (w : World) (cs : List Value) (t : TypeId) : ∀ (j : Nat) (u : Value), cs[j]? = some u → (w.alloc (.cells cs.toArray t)).cell? ((⟨w.heap.size, 0, none⟩ : Addr).add j) = some u := by
  intro j u hj
  rw [show (⟨w.heap.size, 0, none⟩ : Addr).add j = ⟨w.heap.size, j, none⟩ by unfold Addr.add; split <;> simp_all, cell_of_heap (alloc_new w _)]
  simpa using hj
theorem infoStep : (Tryz.prog.info? 58).map (fun i => (i.zero, i.size, i.bytes)) = some (some (.agg #[.int .i64 0, .int .i64 0, .int .i64 0, .int .i64 0]), 4, 32) := by kernel_rfl
def RunPost (c : Cfg) (E : Int → Int → Option (List Int)) (n : Nat) (st : St) (now : Step) (w : World) (e : Ending) (w' : World) : Prop := e = .returned (.tuple #[]) ∧ RunAt c E n st now w' ∧ Turn c.R c.M w w'

/-- Behind the append of a step, and the store of what came. -/
theorem told_close {c : Cfg} {E : Int → Int → Option (List Int)} {n : Nat} {st st' : St} {now : Step} {w W W' : World} {vs : Value} {s : Step} {o : Obj} {g' cap' : Nat} (h : RunAt c E n st now w) (hT : Turn c.R c.M w W)
    (hR : W.heap[c.R]? = some (.cells (runCells c vs st' now).toArray 141)) (hM : W.heap[c.M]? = w.heap[c.M]?) (hb : vs.ownBlock = stepsBlock c.R w) (ho : W.ownsRow c.base 58 4 vs (told c st).length (stepVals (told c st)))
    (ht : told c st' = told c st ++ [s])
    (hown' : W'.ownsRow c.base 58 4 (.slice (some ⟨g', 0, none⟩) ((told c st).length + 1) cap') ((told c st).length + 1) (stepVals (told c st) ++ stepCells s)) (hg' : (W.alloc o).grownBy W' vs.ownBlock)
    (hat' : (Value.slice (some ⟨g', 0, none⟩) ((told c st).length + 1) cap').ownBlock = vs.ownBlock ∨ (Value.slice (some ⟨g', 0, none⟩) ((told c st).length + 1) cap').ownBlock = some (W.alloc o).heap.size) :
    RunAt c E n st' now (W'.setCell ⟨c.R, 5, none⟩ (.slice (some ⟨g', 0, none⟩) ((told c st).length + 1) cap')) ∧ Turn c.R c.M w (W'.setCell ⟨c.R, 5, none⟩ (.slice (some ⟨g', 0, none⟩) ((told c st).length + 1) cap')) := by
  have hWR := (Array.getElem?_eq_some_iff.1 hR).1
  have hMlt := h.ltM
  have hRM := h.ne
  have hTs := hT.size
  have hne := RunAt.own_ne hR ho
  obtain ⟨Mf, hMf, -⟩ := h.regs
  have hneM : vs.ownBlock ≠ some c.M := RunAt.own_neM (hMf.of_heap hM) ho
  have hR' : W'.heap[c.R]? = some (.cells (runCells c vs st' now).toArray 141) := (hg'.block c.R (by simp; omega) (fun e => hne e.symm)).trans (heap_alloc hR o)
  have hM' : W'.heap[c.M]? = w.heap[c.M]? := (hg'.block c.M (by simp; omega) (fun e => hneM e.symm)).trans (((below1 W o).block c.M (by omega)).trans hM)
  have hT' : Turn c.R c.M w W' := (hT.alloc hWR o).grow hg' (by simp; omega) hne (fun g e => .inl (by rw [← hb]; exact e))
  have hR5 := heap_setCell hR' 5 (.slice (some ⟨g', 0, none⟩) ((told c st).length + 1) cap')
  have hR5' : (W'.setCell ⟨c.R, 5, none⟩ (.slice (some ⟨g', 0, none⟩) ((told c st).length + 1) cap')).heap[c.R]? = some (.cells (runCells c (.slice (some ⟨g', 0, none⟩) ((told c st).length + 1) cap') st' now).toArray 141) := by
    rw [hR5]; simp [runCells]
  have hneR : (Value.slice (some ⟨g', 0, none⟩) ((told c st).length + 1) cap').ownBlock ≠ some c.R := by
    rcases hat' with e | e
    · rw [e]; exact hne
    · rw [e]; intro e2; injection e2 with e2; simp at e2; omega
  have hTf : Turn c.R c.M w (W'.setCell ⟨c.R, 5, none⟩ (.slice (some ⟨g', 0, none⟩) ((told c st).length + 1) cap')) := by
    refine hT'.setR ?_
    rw [stepsBlock_eq hR5']
    rcases hat' with e | e
    · rw [e, hb]; exact .inl rfl
    · rw [e]; exact .inr ⟨_, rfl, by simp; omega⟩
  refine ⟨h.make hTf ⟨_, hR5', ?_⟩ ((heap_setCell_ne (fun e => hRM e.symm) _).trans hM'), hTf⟩
  rw [ht, List.length_append, stepVals_append]
  have := ownsRow_setCell_other hown' (a := ⟨c.R, 5, none⟩) hneR (Value.slice (some ⟨g', 0, none⟩) ((told c st).length + 1) cap')
  simpa [stepVals] using this

set_option maxRecDepth 100000 in
set_option maxHeartbeats 1600000 in
theorem vec_step (c : Cfg) (E : Int → Int → Option (List Int)) (n : Nat) (st : St) (now : Step) (d f i x k : Int) (w : World) (h : RunAt c E n st now w) (hc : st.count < 4000000000000) (hw0 : 0 ≤ st.work ∧ st.work ≤ 4611686018427387904) (hk : 0 ≤ k ∧ k ≤ 4611686018427387903) (hs : (told c st).length ≤ st.count) :
    Calls Tryz.prog 121 #[.pointer (some ⟨c.R, 0, none⟩), .agg #[.int .i64 d, .int .i64 f, .int .i64 i, .int .i64 x], .int .i64 k] w (RunPost c E n (st.note d f i k) now w) := by
  have hR := h.ltR
  obtain ⟨vs, h1, h2⟩ := h.cells
  have HRun := Lib.hid h
  have HOwn := Lib.hid h2
  have hb := below1 w (.cells #[.int .i64 d, .int .i64 f, .int .i64 i, .int .i64 x] 58)
  have hbR := heap_keep hb h1
  have hbq := alloc_new w (.cells #[.int .i64 d, .int .i64 f, .int .i64 i, .int .i64 x] 58)
  have HBR := Lib.hid hbR
  have HBQ := Lib.hid hbq
  have r5 := block_cell hbR 5 (by simp [runCells])
  have r11 := block_cell hbR 11 (by simp [runCells])
  have r12 := block_cell hbR 12 (by simp [runCells])
  have r13 := block_cell hbR 13 (by simp [runCells])
  have q0 := block_cell hbq 0 (by simp)
  have q1 := block_cell hbq 1 (by simp)
  have q2 := block_cell hbq 2 (by simp)
  have q3 := block_cell hbq 3 (by simp)
  simp only [runCells, List.getElem_toArray, List.getElem_cons_zero, List.getElem_cons_succ] at r5 r11 r12 r13 q0 q1 q2 q3
  obtain ⟨r5, f5⟩ := r5
  obtain ⟨r11, f11⟩ := r11
  obtain ⟨r12, f12⟩ := r12
  obtain ⟨r13, f13⟩ := r13
  obtain ⟨q0, g0⟩ := q0
  obtain ⟨q1, g1⟩ := q1
  obtain ⟨q2, g2⟩ := q2
  obtain ⟨q3, g3⟩ := q3
  have hne1 : ¬ c.R = w.heap.size := by omega
  have hne2 : ¬ w.heap.size = c.R := by omega
  have HSB := Lib.hid (stepsBlock_eq h1).symm
  have hneq : vs.ownBlock ≠ some w.heap.size := fun e => by have := (h2.lt _ e).2; omega
  have HT0 := Lib.hid (Turn.of_below (M := c.M) hR hb)
  have HO0 := Lib.hid (h2.alloc (.cells #[.int .i64 d, .int .i64 f, .int .i64 i, .int .i64 x] 58))
  have hM0 := Lib.hid (hb.block _ HRun.out.ltM)
  have hsz : w.heap.size < (w.alloc (.cells #[.int .i64 d, .int .i64 f, .int .i64 i, .int .i64 x] 58)).heap.size := by simp
  clear h h1 h2 hb hbR hbq HOwn
  go_enter Tryz.func121, Tryz.ntmps121
  refine wp_seq_k (fun K hK => ?_)
  have HK := Lib.hid hK
  clear hK
  go_wp2_with fail
  refine HK.out _ _ ?_
  clear HK K
  generalize hw' : w.alloc (.cells #[.int .i64 d, .int .i64 f, .int .i64 i, .int .i64 x] 58) = w0 at *
  generalize hq : w.heap.size = q at *
  clear hw'
  have hR1 := heap_setCell (heap_setCell HBR.out 12 (.int .i64 ((st.count : Int) + 1))) 13 (.int .i64 (st.work + k))
  have hR3 : Hid ((((w0.setCell ⟨c.R, 12, none⟩ (.int .i64 ((st.count : Int) + 1))).setCell ⟨c.R, 13, none⟩ (.int .i64 (st.work + k))).setCell ⟨q, 3, none⟩ (.int .i64 k)).heap[c.R]? = some (.cells (runCells c vs (st.note d f i k) now).toArray 141)) := by
    refine (heap_setCell_ne hne1 _).trans (hR1.trans ?_)
    simp [runCells, St.note]
  have hq3 : Hid ((((w0.setCell ⟨c.R, 12, none⟩ (.int .i64 ((st.count : Int) + 1))).setCell ⟨c.R, 13, none⟩ (.int .i64 (st.work + k))).setCell ⟨q, 3, none⟩ (.int .i64 k)).heap[q]? = some (.cells #[.int .i64 d, .int .i64 f, .int .i64 i, .int .i64 k] 58)) :=
    heap_setCell ((heap_setCell_ne hne2 _).trans ((heap_setCell_ne hne2 _).trans HBQ.out)) 3 (.int .i64 k)
  have hb5 : ∀ (W : World) (v : Value), c.R < W.heap.size → ∀ j, j ≠ 5 → stepsBlock c.R (W.setCell ⟨c.R, j, none⟩ v) = stepsBlock c.R W := fun W v h j hj => by
    unfold stepsBlock
    rw [World.cell?_setCell_other W ⟨c.R, j, none⟩ ⟨c.R, 5, none⟩ v (by intro e; injection e with _ e _; exact hj e)]
  have hT3 : Hid (Turn c.R c.M w (((w0.setCell ⟨c.R, 12, none⟩ (.int .i64 ((st.count : Int) + 1))).setCell ⟨c.R, 13, none⟩ (.int .i64 (st.work + k))).setCell ⟨q, 3, none⟩ (.int .i64 k))) := by
    have s1 : stepsBlock c.R (w0.setCell ⟨c.R, 12, none⟩ (.int .i64 ((st.count : Int) + 1))) = stepsBlock c.R w0 := hb5 _ _ (by omega) _ (by decide)
    have s2 := (hb5 (w0.setCell ⟨c.R, 12, none⟩ (.int .i64 ((st.count : Int) + 1))) (.int .i64 (st.work + k)) (by show _ < (w0.heap.modify c.R _).size; rw [Array.size_modify]; omega) 13 (by decide)).trans s1
    refine ((HT0.out.setR (by rw [s1]; exact HT0.out.steps)).setR (by rw [s2]; exact HT0.out.steps)).setNew (by omega) hne1 _
  have hne5 := RunAt.own_ne HBR.out HO0.out
  have hO3 : Hid ((((w0.setCell ⟨c.R, 12, none⟩ (.int .i64 ((st.count : Int) + 1))).setCell ⟨c.R, 13, none⟩ (.int .i64 (st.work + k))).setCell ⟨q, 3, none⟩ (.int .i64 k)).ownsRow c.base 58 4 vs (told c st).length (stepVals (told c st))) :=
    ownsRow_setCell_other (ownsRow_setCell_other (ownsRow_setCell_other HO0.out (a := ⟨c.R, 12, none⟩) hne5 _) (a := ⟨c.R, 13, none⟩) hne5 _) (a := ⟨q, 3, none⟩) hneq _
  have hM3 : Hid ((((w0.setCell ⟨c.R, 12, none⟩ (.int .i64 ((st.count : Int) + 1))).setCell ⟨c.R, 13, none⟩ (.int .i64 (st.work + k))).setCell ⟨q, 3, none⟩ (.int .i64 k)).heap[c.M]? = w.heap[c.M]?) := by
    have h1 := HRun.out.ne
    have h2 := HRun.out.ltM
    exact (heap_setCell_ne (by omega) _).trans ((heap_setCell_ne (fun e => h1 e.symm) _).trans ((heap_setCell_ne (fun e => h1 e.symm) _).trans hM0.out))
  cases htell : c.tell
  · rw [htell] at r11
    go_wp2_with fail
    go_end0
    have ht0 : told c (st.note d f i k) = told c st := by unfold told; rw [htell]; rfl
    exact ⟨rfl, HRun.out.make hT3.out ⟨vs, hR3.out, by rw [ht0]; exact hO3.out⟩ hM3.out, hT3.out⟩
  · rw [htell] at r11
    have ht1 : told c (st.note d f i k) = told c st ++ [⟨d, f, i, k⟩] := by unfold told; rw [htell]; rfl
    go_wp2_with fail
    clear r5 f5 r11 f11 r12 f12 r13 f13 q0 g0 q1 g1 q2 g2 q3 g3 hR1 hb5
    generalize (((w0.setCell ⟨c.R, 12, none⟩ (.int .i64 ((st.count : Int) + 1))).setCell ⟨c.R, 13, none⟩ (.int .i64 (st.work + k))).setCell ⟨q, 3, none⟩ (.int .i64 k)) = W at *
    have r5 := block_cell hR3.out 5 (by simp [runCells])
    have q0 := (block_cell hq3.out 0 (by simp)).1
    have q1 := (block_cell hq3.out 1 (by simp)).1
    have q2 := (block_cell hq3.out 2 (by simp)).1
    have q3 := (block_cell hq3.out 3 (by simp)).1
    simp only [runCells, List.getElem_toArray, List.getElem_cons_zero, List.getElem_cons_succ] at r5 q0 q1 q2 q3
    obtain ⟨r5, f5⟩ := r5
    obtain ⟨i0, hi, hzz⟩ := Option.map_eq_some_iff.1 infoStep
    simp only [Prod.mk.injEq] at hzz
    obtain ⟨hz0, hz1, hz2⟩ := hzz
    have hu := Tryz.underlying53
    have hlen : ((told c st).length + 1) * 32 ≤ 140737488355328 := by omega
    have hbase := HRun.out.base.1
    have hWR := (Array.getElem?_eq_some_iff.1 hR3.out).1
    go_region_law (first | (refine step_append_own_at rfl _ _ 53 rfl c.base 58 i0 _ 4 32 hu hi hz0 hz1 hz2 rfl (by omega) vs (told c st).length (stepVals (told c st)) rfl (hO3.out.alloc _) ⟨W.heap.size, 0, none⟩ 1 1 [.int .i64 d, .int .i64 f, .int .i64 i, .int .i64 k] rfl rfl (news_row W _ 58) (by simp [Value.oneCell']) (by unfold maxLen; omega) hlen (by simp; omega) ?_; intro v' W' hown' hg' hnil' hat'; have hh' := (hg'.block c.R (by simp; omega) (fun e => hne5 e.symm)).trans (heap_alloc hR3.out (.cells #[.int .i64 d, .int .i64 f, .int .i64 i, .int .i64 k] 58)); have hc' := (block_cell hh' 5 (by simp [runCells])).1; have hf' := (block_cell hh' 5 (by simp [runCells])).2; simp only [runCells, List.getElem_toArray, List.getElem_cons_zero, List.getElem_cons_succ] at hc'; obtain ⟨g', cap', rfl⟩ := ownsRow_succ hown'))
    all_goals
      go_end0
      have hfin := told_close (s := ⟨d, f, i, k⟩) (o := .cells #[.int .i64 d, .int .i64 f, .int .i64 i, .int .i64 k] 58) HRun.out hT3.out hR3.out hM3.out HSB.out hO3.out ht1 hown' ⟨hg'.os, hg'.tape, hg'.output, hg'.size, hg'.block⟩ hat'
      exact ⟨rfl, hfin.1, hfin.2⟩
end Go.Proofs.YtdkcjeaabbkdeaaGreatDoor
end
section
namespace Go.Proofs.YtdkcjeaabbkdeaaGreatDoor
open Go.RowKit Go.Maps
set_option linter.unusedVariables false
set_option linter.unusedSimpArgs false

/-- One register of a call more. -/
def setE (E : Int → Int → Option (List Int)) (a r : Int) (l : List Int) : Int → Int → Option (List Int) := fun a' r' => if a' = a ∧ r' = r then some l else E a' r'
def setsE (E : Int → Int → Option (List Int)) (a : Int) : List Int → List (List Int) → Int → Int → Option (List Int)
  | n :: ns, l :: ls => setsE (setE E a n l) a ns ls
  | _, _ => E
theorem setsE_take (a : Int) : ∀ (k : Nat) (E : Int → Int → Option (List Int)) (to : List Int) (ls : List (List Int)) (h1 : k < to.length) (h2 : k < ls.length), setsE E a (to.take (k + 1)) (ls.take (k + 1)) = setE (setsE E a (to.take k) (ls.take k)) a to[k] ls[k]
  | 0, E, t :: to, l :: ls, _, _ => by simp [setsE]
  | k + 1, E, t :: to, l :: ls, h1, h2 => by
    simp only [List.take_succ_cons, setsE, List.getElem_cons_succ]
    exact setsE_take a k (setE E a t l) to ls (by simpa using h1) (by simpa using h2)
theorem zero22 (w : World) : (zeroValue 22).run Tryz.prog w = .ok (.slice none 0 0) w := by kernel_rfl

/-- A register is written. -/
theorem RunAt.put {c : Cfg} {E : Int → Int → Option (List Int)} {n : Nat} {st : St} {now : Step} {w : World} (h : RunAt c E n st now w) (hn : n < maxLen) {a r : Int} (ha : inInt a) (hr : inInt r) {v : Value} {l : List Int} (hv : Ints (pub c.R c.M w) v l) :
    ∃ w', (Instr.mapUpdate 139 (.map (some c.M)) (.agg #[.int .i64 a, .int .i64 r]) v).run Tryz.prog w = .ok () w' ∧ RunAt c (setE E a r l) (n + 1) st now w' ∧ Turn c.R c.M w w' ∧ ∀ k, k ≠ c.M → w'.heap[k]? = w.heap[k]? := by
  obtain ⟨Mf, h3, h4⟩ := h.regs
  obtain ⟨kl, hkl⟩ := keyOf_held a r ha hr
  obtain ⟨w', hrun, hm, ht⟩ := h3.update keyed194 Tryz.underlying139 hn hkl (val := v)
  have hg := ht.grown
  have hT : Turn c.R c.M w w' := (Turn.refl _ _ w).map ht h.ltR h.ne
  have hb : ∀ k, k ≠ c.M → w'.heap[k]? = w.heap[k]? := fun k hk => by
    obtain ⟨es, cl, es', cl', h1, rfl⟩ := ht
    exact ChangeMaps.heap_setBlock_other h1 _ hk
  obtain ⟨vs, h1, h2⟩ := h.cells
  refine ⟨w', hrun, ⟨⟨vs, (hb _ h.ne).trans h1, h2.kept hg (.inr (RunAt.own_neM h3 h2))⟩, ⟨_, hm, fun a' r' ha' hr' => ?_⟩, h.base⟩, hT, hb⟩
  unfold setE upd
  by_cases e : a' = a ∧ r' = r
  · obtain ⟨rfl, rfl⟩ := e
    simp only [and_self, if_true]
    exact ⟨v, rfl, hv.reads hT.reads⟩
  · rw [if_neg e, if_neg (fun e2 => e (by simp [hkey] at e2; exact e2))]
    have := h4 a' r' ha' hr'
    cases hE : E a' r' with
    | none => rw [hE] at this; exact this
    | some l => rw [hE] at this; obtain ⟨u, hu, hi⟩ := this; exact ⟨u, hu, hi.reads hT.reads⟩

/-- A cell of the run is written. -/
theorem RunAt.setR {c : Cfg} {E : Int → Int → Option (List Int)} {n : Nat} {st st' : St} {now now' : Step} {w : World} (h : RunAt c E n st now w) {j : Nat} {v : Value} (hj : j ≠ 5) (hset : ∀ vs, (runCells c vs st now).set j v = runCells c vs st' now') (ht : told c st' = told c st) :
    RunAt c E n st' now' (w.setCell ⟨c.R, j, none⟩ v) ∧ Turn c.R c.M w (w.setCell ⟨c.R, j, none⟩ v) := by
  obtain ⟨vs, h1, h2⟩ := h.cells
  have hs : stepsBlock c.R (w.setCell ⟨c.R, j, none⟩ v) = stepsBlock c.R w := by
    unfold stepsBlock
    rw [World.cell?_setCell_other w ⟨c.R, j, none⟩ ⟨c.R, 5, none⟩ v (by intro e; injection e with _ e _; exact hj e)]
  have hT : Turn c.R c.M w (w.setCell ⟨c.R, j, none⟩ v) := (Turn.refl _ _ w).setR (.inl hs)
  have hc := heap_setCell h1 j v
  rw [List.setIfInBounds_toArray, hset] at hc
  refine ⟨h.make hT ⟨vs, hc, ?_⟩ (heap_setCell_ne (fun e => h.ne e.symm) v), hT⟩
  rw [ht]
  exact ownsRow_setCell_other h2 (a := ⟨c.R, j, none⟩) (RunAt.own_ne h1 h2) v
theorem wider_take (st : St) (ls : List (List Int)) (k : Nat) (h : k < ls.length) : (st.wider (ls.take (k + 1))).wide = max (st.wider (ls.take k)).wide ls[k].length := by
  simp only [St.wider]
  rw [List.take_succ_eq_append_getElem h, List.foldl_append]; rfl

set_option maxRecDepth 100000 in
set_option maxHeartbeats 1600000 in
theorem vec_write (c : Cfg) (E : Int → Int → Option (List Int)) (n : Nat) (st : St) (now : Step) (own r0 : Int) (to : List Int) (ls : List (List Int)) (vt vl : Value) (w : World) (h : RunAt c E n st now w) (ht : Ints (pub c.R c.M w) vt to) (hl : Lists (pub c.R c.M w) vl ls)
    (hlen : to.length = ls.length) (hn : n + to.length < maxLen) (ho : inInt own) (hto : ∀ x ∈ to, inInt x) (hw : st.wide ≤ 9223372036854775807) :
    Calls Tryz.prog 127 #[.pointer (some ⟨c.R, 0, none⟩), .agg #[.int .i64 own, .int .i64 r0], vt, vl] w (RunPost c (setsE E own to ls) (n + to.length) (st.wider ls) now w) := by
  obtain ⟨T, tc, rfl, htm⟩ := ht.form
  obtain ⟨L, lc, rfl, hlm⟩ := hl.form
  have hR := h.ltR
  have hb := below1 w (.cells #[.int .i64 own, .int .i64 r0] 194)
  have HT0 := Lib.hid (Turn.of_below (M := c.M) hR hb)
  have HRun := Lib.hid (h.below hb)
  have HQ := Lib.hid (alloc_new w (.cells #[.int .i64 own, .int .i64 r0] 194))
  have HTo := Lib.hid (ht.reads HT0.out.reads)
  have HL := Lib.hid (hl.reads HT0.out.reads)
  have hqR : c.R ≠ w.heap.size := by omega
  have hqM : c.M ≠ w.heap.size := by have := h.ltM; omega
  have hqs : ¬ spec c.R c.M (w.alloc (.cells #[.int .i64 own, .int .i64 r0] 194)) w.heap.size := by
    rintro (e | e | e)
    · exact hqR e.symm
    · exact hqM e.symm
    · have h1 : stepsBlock c.R (w.alloc (.cells #[.int .i64 own, .int .i64 r0] 194)) = stepsBlock c.R w := by
        unfold stepsBlock; rw [hb.cell (p := ⟨c.R, 5, none⟩) hR]
      rw [h1] at e
      have := h.ltG _ e
      omega
  have HQS := Lib.hid hqs
  have HToI := Lib.hid hto
  clear ht hl h hb hqs hto
  have HLen := Lib.hid hlen
  clear hlen
  go_enter Tryz.func127, Tryz.ntmps127
  refine wp_seq_k (fun K hK => ?_)
  have HK := Lib.hid hK
  clear hK
  go_wp2_with fail
  refine HK.out _ _ ?_
  clear HK K
  generalize w.alloc (.cells #[.int .i64 own, .int .i64 r0] 194) = w0 at *
  generalize hq : w.heap.size = q at *
  go_wp2_with fail
  go_loopw [8, 9, 12] (fun _ _ i wr => ∃ k : Nat, k ≤ to.length ∧ i = .int .i64 k ∧ RunAt c (setsE E own (to.take k) (ls.take k)) (n + k) (st.wider (ls.take k)) now wr ∧ Turn c.R c.M w0 wr ∧ (st.wider (ls.take k)).wide ≤ 9223372036854775807) (fun _ _ i _ => to.length - (intOf i).toNat)
  case atStart => exact ⟨0, Nat.zero_le _, rfl, HRun.out, Turn.refl _ _ _, hw⟩
  case round =>
    obtain ⟨k, hk, rfl, hrun, hturn, hwide⟩ := hrel
    have HRk := Lib.hid hrun
    have HTk := Lib.hid hturn
    clear hrun hturn
    by_cases hlt : k < to.length
    · have hlt' : k < ls.length := by rw [← HLen.out]; exact hlt
      obtain ⟨b, off, rfl, hcell⟩ := (HTo.out.reads (HTk.out.reads)).at_ k hlt
      obtain ⟨b2, off2, u, rfl, hcl, hu⟩ := (HL.out.reads (HTk.out.reads)).at_ k hlt'
      have hkin := HToI.out to[k] (List.getElem_mem hlt)
      have hrd := HRk.out.below (below_drew wr)
      have htd : Turn c.R c.M wr wr.drew := Turn.of_below HRk.out.ltR (below_drew wr)
      obtain ⟨w2, hrun2, hput, hT2, hh2⟩ := hrd.put (by omega) ho hkin (hu.reads htd.reads)
      obtain ⟨hs1, hc1⟩ := hide_some hcell
      obtain ⟨hs2, hc2⟩ := hide_some hcl
      have hbq := HTk.out.heap HQ.out HQS.out
      obtain ⟨vs, hcR, -⟩ := HRk.out.cells
      have hm0 : ∀ W : World, (∀ k, k ≠ c.M → W.heap[k]? = wr.heap[k]?) → W.cell? ⟨c.R, 2, none⟩ = some (.map (some c.M)) ∧ W.cell? ⟨q, 0, none⟩ = some (.int .i64 own) ∧ W.cell? ⟨b2, off2 + k, none⟩ = some u := fun W hW => by
        refine ⟨?_, ?_, ?_⟩
        · rw [cell_of_heap ((hW _ HRk.out.ne).trans hcR)]; rfl
        · rw [cell_of_heap ((hW _ (fun e => hqM e.symm)).trans hbq)]; rfl
        · exact (World.cell?_of_block (hW _ (fun e => hs2 (.inr (.inl e))))).trans hc2
      have HM0 := Lib.hid hm0
      have HS1 := Lib.hid (hm0 w2 (fun k hk => (hh2 k hk).trans rfl))
      have HPut := Lib.hid hput
      have HT2 := Lib.hid (htd.trans hT2)
      clear hcell hcl hput hT2 hm0 hbq
      have hk0 : (0 : Int) ≤ (k : Int) := by omega
      have hk1 : (k : Int) < (ls.length : Int) := by omega
      obtain ⟨U, uc, rfl, hum⟩ := hu.form
      have HU := Lib.hid hu
      clear hu hrd htd
      go_wp2_with fail
      go_region_held3 (fun W => W.cell? ⟨c.R, 2, none⟩ = some (.map (some c.M)) ∧ W.cell? ⟨q, 0, none⟩ = some (.int .i64 own) ∧ W.cell? ⟨b2, off2 + k, none⟩ = some (.slice U ls[k].length uc)) (first | assumption | exact HM0.out _ (fun _ _ => rfl) | exact HS1.out) (first | fail)
      obtain ⟨vs2, hcR2, hO2⟩ := HPut.out.cells
      have hw10 := block_cell hcR2 10 (by simp [runCells])
      simp only [runCells, List.getElem_toArray, List.getElem_cons_zero, List.getElem_cons_succ] at hw10
      obtain ⟨hw10, hf10⟩ := hw10
      have hcl2 := HS1.out.2.2
      have HCR2 := Lib.hid hcR2
      have HO2 := Lib.hid hO2
      have hmax : ((st.wider (ls.take k)).wide : Int) ≤ 9223372036854775807 := by omega
      clear hc2 hcR2 hO2 hrun2 hc1 hcR
      go_wp2_with fail
      have hwd := wider_take st ls k hlt'
      have hst := HPut.out.setR (j := 10) (v := .int .i64 (if (st.wider (ls.take k)).wide < ls[k].length then (ls[k].length : Int) else ((st.wider (ls.take k)).wide : Int))) (st' := st.wider (ls.take (k + 1))) (now' := now) (by decide) (fun vs => by
        have e : (if (st.wider (ls.take k)).wide < ls[k].length then (ls[k].length : Int) else ((st.wider (ls.take k)).wide : Int)) = (((st.wider (ls.take (k + 1))).wide : Nat) : Int) := by
          rw [hwd]; split <;> omega
        rw [e]
        simp [runCells, St.wider]) rfl
      have hwd2 : (st.wider (ls.take (k + 1))).wide ≤ 9223372036854775807 := by rw [hwd]; omega
      have HSt := Lib.hid hst
      have HWd := Lib.hid hwd2
      clear hst hwd hwd2
      go_region_law (fail)
      all_goals
        go_wp2
        go_roundw
        case rel =>
          have hd := below_drew (w2.setCell ⟨c.R, 10, none⟩ (.int .i64 (if (st.wider (ls.take k)).wide < ls[k].length then (ls[k].length : Int) else ((st.wider (ls.take k)).wide : Int))))
          have hr := HSt.out.1.below hd
          refine ⟨k + 1, hlt, by go_num, ?_, (HTk.out.trans HT2.out).trans (HSt.out.2.trans (Turn.of_below HSt.out.1.ltR hd)), HWd.out⟩
          rw [setsE_take own k E to ls hlt hlt', ← Nat.add_assoc]
          exact hr
        case measure => simp [intOf]; omega
    · obtain rfl : k = to.length := by omega
      go_wp2_with fail
      go_end0
      have h1 : ls.take to.length = ls := by rw [HLen.out, List.take_length]
      have h2 := HRk.out
      rw [h1, List.take_length] at h2
      exact ⟨rfl, h2, HT0.out.trans HTk.out⟩
end Go.Proofs.YtdkcjeaabbkdeaaGreatDoor
end
section
namespace Go.Proofs.YtdkcjeaabbkdeaaGreatDoor
open Go.RowKit Go.Maps
set_option linter.unusedVariables false
set_option linter.unusedSimpArgs false

theorem info22 : (Tryz.prog.info? 22).map (fun i => (i.zero, i.size, i.bytes)) = some (some (.slice none 0 0), 1, 24) := by kernel_rfl
/-- A register that is looked up. -/
theorem RunAt.get {c : Cfg} {E : Int → Int → Option (List Int)} {n : Nat} {st : St} {now : Step} {w : World} (h : RunAt c E n st now w) {a r : Int} (ha : inInt a) (hr : inInt r) (W : World) (hW : W.heap[c.M]? = w.heap[c.M]?) :
    ∃ A k cp, (Instr.lookup 139 (.map (some c.M)) (.agg #[.int .i64 a, .int .i64 r]) false).run Tryz.prog W = .ok (.slice A k cp) W ∧ Ints (pub c.R c.M w) (.slice A k cp) ((E a r).getD []) := by
  obtain ⟨Mf, h3, h4⟩ := h.regs
  obtain ⟨kl, hkl⟩ := keyOf_held a r ha hr
  have hl := (h3.of_heap hW).lookup keyed194 Tryz.underlying139 (zero22 W) hkl
  have := h4 a r ha hr
  unfold hkey at hl this
  cases hE : E a r with
  | none =>
    rw [hE] at this
    rw [this] at hl
    exact ⟨_, _, _, hl, ints_nil _ _ _⟩
  | some l =>
    rw [hE] at this
    obtain ⟨v, hv, hi⟩ := this
    rw [hv] at hl
    obtain ⟨A, cp, rfl, -⟩ := hi.form
    exact ⟨_, _, _, hl, hi⟩
/-- A row of headers of the call's own reads as a list of lists. -/
theorem lists_of_own {S : Nat → Prop} {w : World} {base : Nat} {v : Value} {us : List Value} {ls : List (List Int)} (h : w.ownsRow base 22 1 v ls.length us) (hS : ∀ k, base ≤ k → ¬ S k) (hu : ∀ j (h1 : j < us.length) (h2 : j < ls.length), Ints (hide S w) us[j] ls[j]) : Lists (hide S w) v ls := by
  have hlen : us.length = ls.length := by have := h.1; omega
  rcases h.2 with ⟨rfl, h0⟩ | ⟨g, cap, cur, rfl, hb, hh, hn, hm, hs, ht⟩
  · obtain rfl : ls = [] := List.eq_nil_of_length_eq_zero h0
    exact lists_nil _ _ _
  · refine ⟨_, cap, rfl, ⟨by simp only [maxLen] at hm; omega, hn⟩, fun j hj => ⟨g, 0, [us[j]'(by omega)], rfl, rfl, ?_, ⟨_, rfl, hu j (by omega) hj⟩⟩⟩
    intro i hi
    obtain rfl : i = 0 := by simp at hi; omega
    have hc := h.cells (g := g) rfl j _ (List.getElem?_eq_getElem (by omega : j < us.length))
    have ha : (⟨g, 0, none⟩ : Addr).add j = ⟨g, 0 + j * 1 + 0, none⟩ := by unfold Addr.add; split <;> simp_all
    rw [ha] at hc
    rw [hide_cell _ _ (hS g hb)]
    simpa using hc

/-- The run's blocks, and those that were made between two worlds. -/
def specOr (c : Cfg) (lo hi : Nat) (w : World) : Nat → Prop := fun k => spec c.R c.M w k ∨ (lo ≤ k ∧ k < hi)
def ReadPost (c : Cfg) (lo : Nat) (w : World) (ls : List (List Int)) (e : Ending) (w' : World) : Prop := ∃ v, e = .returned v ∧ Lists (hide (specOr c lo w.heap.size w') w') v ls ∧ Below w.heap.size w w'
theorem reads_specOr (c : Cfg) (lo hi : Nat) (w : World) : Reads (hide (specOr c lo hi w) w) (pub c.R c.M w) := reads_hide fun a v hs hc => ⟨fun h => hs (.inl h), hc⟩
theorem spec_above {c : Cfg} {E : Int → Int → Option (List Int)} {n : Nat} {st : St} {now : Step} {w W : World} (h : RunAt c E n st now w) (hb : Below w.heap.size w W) : ∀ k, w.heap.size ≤ k → ¬ spec c.R c.M W k := by
  have hR := h.ltR
  have hM := h.ltM
  rintro k hk (e | e | e)
  · omega
  · omega
  · have e1 : stepsBlock c.R W = stepsBlock c.R w := by unfold stepsBlock; rw [hb.cell (p := ⟨c.R, 5, none⟩) hR]
    rw [e1] at e
    have := h.ltG _ e
    omega

set_option maxRecDepth 100000 in
set_option maxHeartbeats 1600000 in
theorem vec_read (c : Cfg) (E : Int → Int → Option (List Int)) (n : Nat) (st : St) (now : Step) (own : Int) (br bo : Nat) (l : List Int) (v : Value) (W0 w : World) (h : RunAt c E n st now W0) (h0 : Below W0.heap.size W0 w) (hl : Ints w v l)
    (hr : w.cell? ⟨br, 0, none⟩ = some (.pointer (some ⟨c.R, 0, none⟩))) (ho : w.cell? ⟨bo, 0, none⟩ = some (.int .i64 own)) (hoi : inInt own) (hli : ∀ x ∈ l, inInt x) (hlen : l.length ≤ 1000000000) :
    Calls Tryz.prog 123 #[v, .pointer (some ⟨br, 0, none⟩), .pointer (some ⟨bo, 0, none⟩)] w (ReadPost c W0.heap.size w (l.map fun x => (E own x).getD [])) := by
  obtain ⟨A, cp, rfl, -⟩ := hl.form
  have HRun := Lib.hid h
  have HL := Lib.hid hl
  have HLI := Lib.hid hli
  have H0 := Lib.hid h0
  obtain ⟨vs, hR, -⟩ := (h.below h0).cells
  have hm := (block_cell hR 2 (by simp [runCells])).1
  simp only [runCells, List.getElem_toArray, List.getElem_cons_zero, List.getElem_cons_succ] at hm
  have hS0 : ∀ W, Below w.heap.size w W → W.cell? ⟨br, 0, none⟩ = some (.pointer (some ⟨c.R, 0, none⟩)) ∧ W.cell? ⟨bo, 0, none⟩ = some (.int .i64 own) ∧ W.cell? ⟨c.R, 2, none⟩ = some (.map (some c.M)) := fun W hb => ⟨cell_keep hb hr, cell_keep hb ho, cell_keep hb hm⟩
  have HS := Lib.hid hS0
  obtain ⟨i0, hi, hzz⟩ := Option.map_eq_some_iff.1 info22
  simp only [Prod.mk.injEq] at hzz
  obtain ⟨hz0, hz1, hz2⟩ := hzz
  have hu26 := Tryz.underlying26
  clear h h0 hl hli hR hr ho hm hS0
  go_enter Tryz.func123, Tryz.ntmps123
  go_wp2_with fail
  go_loopw [4, 6, 9] (fun o _ i wr => ∃ (k : Nat) (us : List Value), k ≤ l.length ∧ i = .int .i64 k ∧ Below w.heap.size w wr ∧ wr.ownsRow w.heap.size 22 1 o k us ∧ us.length = k ∧ ∀ j (h1 : j < us.length) (h2 : j < l.length), Ints (pub c.R c.M W0) us[j] ((E own l[j]).getD [])) (fun _ _ i _ => l.length - (intOf i).toNat)
  case atStart => exact ⟨0, [], Nat.zero_le _, rfl, Below.refl _ _, World.ownsRow_nil _ _ _ _, rfl, fun j h => absurd h (by simp)⟩
  case round =>
    obtain ⟨k, us, hk, rfl, hb, hown, hul, hint⟩ := hrel
    have HB := Lib.hid hb
    have HOwn := Lib.hid hown
    have HInt := Lib.hid hint
    have HUL := Lib.hid hul
    clear hb hown hint hul
    by_cases hlt : k < l.length
    · obtain ⟨b, off, rfl, hcell⟩ := (HL.out.below HB.out).at_ k hlt
      obtain ⟨U, un, uc, hlk, hui⟩ := HRun.out.get hoi (HLI.out l[k] (List.getElem_mem hlt)) wr.drew ((below_step H0.out (HB.out.trans ((below_drew wr).mono HB.out.size))).block _ HRun.out.ltM)
      have HUI := Lib.hid hui
      clear hui
      have hbsz := HB.out.size
      have hk24 : (k + 1) * 24 ≤ 140737488355328 := by omega
      go_wp2_with fail
      go_region_held3 (fun W => Below w.heap.size w W ∧ W.cell? ⟨br, 0, none⟩ = some (.pointer (some ⟨c.R, 0, none⟩)) ∧ W.cell? ⟨bo, 0, none⟩ = some (.int .i64 own) ∧ W.cell? ⟨c.R, 2, none⟩ = some (.map (some c.M))) (first | assumption | exact ⟨HB.out.trans ((below_drew wr).mono hbsz), HS.out _ (HB.out.trans ((below_drew wr).mono hbsz))⟩ | exact ⟨hbw, HS.out _ hbw⟩ | (have hbv := HB.out.trans (((below_drew wr).trans (below1 wr.drew (.cells #[.slice U un uc] 22))).mono hbsz); exact ⟨hbv, HS.out _ hbv⟩)) (first | (refine step_append_own_at rfl _ _ 26 rfl w.heap.size 22 i0 _ 1 24 hu26 hi hz0 hz1 hz2 rfl (by omega) _ k us rfl (HOwn.out.alloc _) ⟨wr.heap.size, 0, none⟩ 1 1 [.slice U un uc] rfl rfl (news_row wr _ 22) (by simp [Value.oneCell']) (by unfold maxLen; omega) hk24 (by simp; omega) ?_; intro v' W' hown' hg' hnil' hat'; have hbw : Below w.heap.size w W' := (HB.out.trans ((below1 wr (.cells #[.slice U un uc] 22)).mono hbsz)).grown ⟨hg'.os, hg'.tape, hg'.output, hg'.size, hg'.block⟩ (by simp; omega) (fun g hg => (HOwn.out.lt g hg).1)))
      go_wp2
      go_roundw
      case rel =>
        refine ⟨k + 1, us ++ [.slice U un uc], hlt, by go_num, hbw, hown', by rw [List.length_append, HUL.out]; rfl, fun j h1 h2 => ?_⟩
        by_cases e : j < us.length
        · rw [List.getElem_append_left e]; exact HInt.out j e h2
        · have hj : j = k := by have := HUL.out; simp at h1; omega
          subst hj
          rw [List.getElem_append_right (by omega)]
          simpa using HUI.out
      case measure => simp [intOf]; omega
    · obtain rfl : k = l.length := by omega
      go_wp2_with fail
      go_ret
      refine ⟨_, rfl, ?_, HB.out⟩
      refine lists_of_own (us := us) (base := w.heap.size) (by rw [List.length_map]; exact HOwn.out) (fun k hk h => ?_) (fun j h1 h2 => ?_)
      · rcases h with h | h
        · exact spec_above (HRun.out.below H0.out) HB.out k hk h
        · omega
      rw [List.getElem_map]
      refine (HInt.out j h1 (by simpa using h2)).reads (reads_hide fun a v hs hc => ?_)
      have hlt := World.block_lt_of_cell? W0 a hc
      have hT := Turn.of_below (M := c.M) HRun.out.ltR (below_step H0.out HB.out)
      refine ⟨?_, cell_keep (below_step H0.out HB.out) hc⟩
      rintro (h | h)
      · exact hT.spec hlt hs h
      · omega
end Go.Proofs.YtdkcjeaabbkdeaaGreatDoor
end
