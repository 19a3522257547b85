/- A range over a function, whose body may panic: one law for the statement, in terms of what the caller keeps from round to round. -/
import Derived.Test.YtdkcjeaabbkdeaaGreatDoorZMaker
import Derived.RangeFuncNested
import Derived.RangeFuncBound
import Derived.RangeFuncCalls
import Derived.RangeFuncLeaves
import Derived.Shelf.RegionOpen
import Derived.OwnWalkIn
import Derived.TacticsInMore
import Derived.LoopNIn
import Derived.LoopIn
import Derived.Scope
set_option linter.unusedVariables false
set_option linter.unusedSimpArgs false
set_option linter.unnecessarySimpa false
set_option linter.unusedSectionVars false
namespace Go.Proofs.YtdkcjeaabbkdeaaGreatDoor
open Go.RowKit
set_option linter.unusedVariables false
set_option linter.unusedSimpArgs false

theorem Books.putObj {w w' : World} {l : Nat} {o : Obj} (h : Books w w') (hl : ∀ o, w.heap[l]? = some o → isBook o = false) : Books w (w'.putObj l o) := by
  intro k x hk hx
  by_cases e : k = l
  · subst e; rw [hl _ hk] at hx; cases hx
  · exact (World.putObj_heap_other e).trans (h k x hk hx)

/-- What is no book lies as it lay where a book is written. -/
theorem heap_putBook {w : World} {l k : Nat} {o x b : Obj} (hl : w.heap[l]? = some b) (hb : isBook b = true) (hk : w.heap[k]? = some x) (hx : isBook x = false) : (w.putObj l o).heap[k]? = some x := by
  refine (World.putObj_heap_other ?_).trans hk
  rintro rfl
  rw [hl] at hk; cases hk; rw [hb] at hx; cases hx
theorem reads_putBook {w : World} {l : Nat} {o b : Obj} (hl : w.heap[l]? = some b) (hb : isBook b = true) : Reads w (w.putObj l o) := by
  intro a v hc
  have hh : ∃ c t fr, w.heap[a.block]? = some (.cells c t fr) := by
    unfold World.cell? at hc
    cases ho : w.heap[a.block]? with
    | none => simp [ho] at hc
    | some o =>
      rw [ho] at hc
      cases o <;> first | exact ⟨_, _, _, rfl⟩ | simp at hc
  obtain ⟨c, t, fr, hh⟩ := hh
  exact (World.cell?_of_block ((heap_putBook hl hb hh rfl).trans hh.symm)).trans hc
theorem heap_putObj {w : World} {l k : Nat} {o x : Obj} (hl : ∃ r, w.heap[l]? = some (.loop r)) (hk : w.heap[k]? = some x) (hx : isBook x = false) : (w.putObj l o).heap[k]? = some x := by
  obtain ⟨r, hr⟩ := hl
  exact heap_putBook hr rfl hk hx
theorem reads_putObj {w : World} {l : Nat} {o : Obj} (hl : ∃ r, w.heap[l]? = some (.loop r)) : Reads w (w.putObj l o) := by
  obtain ⟨r, hr⟩ := hl
  exact reads_putBook hr rfl
theorem cell_putObj {w : World} {l : Nat} {o : Obj} {a : Addr} {v : Value} (hl : ∃ r, w.heap[l]? = some (.loop r)) (hc : w.cell? a = some v) : (w.putObj l o).cell? a = some v := reads_putObj hl _ _ hc
theorem below_putObj {B : Nat} {w w' : World} {l : Nat} {o : Obj} (h : Below B w w') (hB : B ≤ l) : Below B w (w'.putObj l o) :=
  ⟨h.os, h.tape, h.output, by rw [World.putObj_size]; exact h.size, fun k hk => (World.putObj_heap_other (by omega)).trans (h.block k hk)⟩
theorem ownsRow_book {w : World} {l : Nat} {o : Obj} {base : Nat} {e : TypeId} {size n : Nat} {v : Value} {xs : List Value} (hl : ∃ r, w.heap[l]? = some (.loop r)) (h : w.ownsRow base e size v n xs) : (w.putObj l o).ownsRow base e size v n xs := by
  obtain ⟨h1, h2⟩ := h
  refine ⟨h1, ?_⟩
  rcases h2 with h2 | ⟨g, cap, cur, hv, hg, hh, r⟩
  · exact Or.inl h2
  · exact Or.inr ⟨g, cap, cur, hv, hg, heap_putObj hl hh rfl, r⟩
theorem Maker.putObj {base B l : Nat} {w : World} {o : Obj} {xs : List Int} {f : Bool} (hl : ∃ r, w.heap[l]? = some (.loop r)) (h : Maker base B w xs f) : Maker base B (w.putObj l o) xs f := by
  obtain ⟨v, h1, h2, h3, h4⟩ := h.out
  exact ⟨v, h1, heap_putObj hl h2 rfl, ownsRow_book hl h3, h4⟩

/-- What is asked at a round's end. -/
def roundEnd (W : World) (J : World → Prop) (Ix : Code → World → Prop) (Ip : List PanicEntry → World → Prop) : Exit → Act → World → Prop
  | .normal, _, w => Books W w ∧ J w
  | .ret, _, w => Books W w ∧ Ix .ret w
  | .exit id, _, w => Books W w ∧ Ix (.exit id) w
  | .goto t, _, w => Books W w ∧ Ix (.goto t) w
  | .panic c, a, w => a.defers = [] ∧ Books W w ∧ Ip c w
  | .outgrown, _, _ => False

variable {P : Program}

/-- A round, out of its body's walk; the body may panic. -/
theorem round_of_wp {l : Nat} {f : FuncId} {tmps : Array Value} {assign body : Code} {w : World} {R : Ending → World → Prop} {n : Nat}
    (h : assign.wpIn (Fence.wide.inRound l) n P (Exit.then (fun a₁ w₁ => ∃ w₂, (Instr.beginRound l).run P w₁ = .ok () w₂ ∧ body.wpIn (Fence.wide.inRound l) n P (fun e a w =>
        match e with
        | .normal => ∃ v w', (Instr.endRound l none).run P w = .ok v w' ∧ R (.returned v) w'
        | .ret => ∃ v w', (Instr.endRound l (some .ret)).run P w = .ok v w' ∧ R (.returned v) w'
        | .exit id => ∃ v w', (Instr.endRound l (some (.exit id))).run P w = .ok v w' ∧ R (.returned v) w'
        | .goto t => ∃ v w', (Instr.endRound l (some (.goto t))).run P w = .ok v w' ∧ R (.returned v) w'
        | .panic c => a.defers = [] ∧ R (.panicked c) w
        | .outgrown => False) a₁ w₂) (fun _ _ _ => False)) { tmps := tmps, defers := [] } w)
    (hf : ∃ fn, P.funcs[f]? = some fn) :
    RoundIn Fence.wide n P l f tmps assign body w R := by
  refine ⟨trivial, fun c cs hr => ?_⟩
  let b : Frame := { (default : Frame) with fn := f, kind := .normal, roundOf := some l }
  have hb0 : Frame.round l f tmps assign body .normal = b.atR { tmps := tmps, defers := [] } [.code assign, .beginRound, .code body] := by
    simp [Frame.round, Frame.atR, b]
  have hr' : (Fence.wide.inRound l).room ((c :: cs).length + 1 + n) := hr
  obtain ⟨e, a₁, w₁, hq, harr⟩ := h b [.beginRound, .code body] (c :: cs) rfl trivial hr'
  rw [← hb0] at harr
  cases e with
  | normal =>
    obtain ⟨w₂, hbr, hbody⟩ := hq
    have s1 : StepsIn (Machine.fenced P (Fence.wide.inRound l)) P (lone (b.atR a₁ [.beginRound, .code body]) (c :: cs) w₁) (lone (b.atR a₁ [.code body]) (c :: cs) w₂) :=
      .one (fenced_calm (fr := b.atR a₁ [.beginRound, .code body]) trivial hr' rfl) (stepR_beginRound rfl hbr)
    obtain ⟨e₂, a₂, w₃, hq₂, harr₂⟩ := hbody b [] (c :: cs) rfl trivial hr'
    cases e₂ with
    | normal =>
      obtain ⟨v, w₄, hend, hR⟩ := hq₂
      exact ⟨.returned v, w₄, hR, (StepsIn.trans harr s1).trans (StepsIn.trans harr₂ (.one (fenced_calm (fr := b.atR a₂ []) trivial hr' rfl) (stepR_round_end rfl rfl hend)))⟩
    | ret =>
      obtain ⟨v, w₄, hend, hR⟩ := hq₂
      obtain ⟨k₁, hs⟩ := harr₂.2 rfl
      exact ⟨.returned v, w₄, hR, (StepsIn.trans harr s1).trans (StepsIn.trans hs (.one (fenced_calm (fr := b.atR a₂ (.code .ret :: k₁)) trivial hr' rfl) (stepR_round_ret rfl rfl hend)))⟩
    | exit id =>
      obtain ⟨v, w₄, hend, hR⟩ := hq₂
      obtain ⟨k₁, hk, hs⟩ := harr₂.2 rfl rfl
      exact ⟨.returned v, w₄, hR, (StepsIn.trans harr s1).trans (StepsIn.trans hs (.one (fenced_calm (fr := b.atR a₂ (.code (.exit id) :: k₁)) trivial hr' rfl) (stepR_round_exit rfl rfl hk hend)))⟩
    | goto t =>
      obtain ⟨v, w₄, hend, hR⟩ := hq₂
      obtain ⟨k₁, hk, hs⟩ := harr₂.2 rfl rfl
      exact ⟨.returned v, w₄, hR, (StepsIn.trans harr s1).trans (StepsIn.trans hs (.one (fenced_calm (fr := b.atR a₂ (.code (.goto t) :: k₁)) trivial hr' rfl) (stepR_round_goto rfl rfl hk hend)))⟩
    | panic chain =>
      obtain ⟨hd, hR⟩ := hq₂
      obtain ⟨todo, hs⟩ := harr₂
      refine ⟨.panicked chain, w₃, hR, (StepsIn.trans harr s1).trans (StepsIn.trans hs (.one (fenced_wide _ _) ?_))⟩
      obtain ⟨fn, hfn⟩ := hf
      exact step_leave_panicked (fr := { b.atR a₂ todo with mode := .panicking chain }) ⟨rfl, hd, fn, hfn⟩
    | outgrown => exact hq₂.elim
  | exit id => exact hq.elim
  | goto t => exact hq.elim
  | ret => exact hq.elim
  | panic chain => exact hq.elim
  | outgrown => exact hq.elim

/-! ### The walk of one known function's code -/
/-- 'Code.wp' for the frames of one function. -/
def wpV (P : Program) (f : FuncId) (c : Code) (Q : Exit → Act → World → Prop) (a : Act) (w : World) : Prop :=
  ∀ (b : Frame) (k : List Item) (cs : List Frame), b.fn = f → ∃ e a' w', Q e a' w' ∧ Arrives P (lone (b.at a (.code c :: k)) cs w) b k cs e a' w'
section
variable {f : FuncId} {Q : Exit → Act → World → Prop} {a : Act} {w : World}
theorem wpV_of_wp {c : Code} (h : c.wp P Q a w) : wpV P f c Q a w := fun b k cs _ => h b k cs
theorem wpV_mono {c : Code} {Q' : Exit → Act → World → Prop} (h : wpV P f c Q a w) (hq : ∀ e a w, Q e a w → Q' e a w) : wpV P f c Q' a w :=
  fun b k cs hf => let ⟨e, a', w', q, r⟩ := h b k cs hf; ⟨e, a', w', hq _ _ _ q, r⟩
theorem wpV_seq {x y : Code} (h : wpV P f x (Exit.then (wpV P f y Q) Q) a w) : wpV P f (Code.seq x y) Q a w := by
  intro b k cs hf
  obtain ⟨e, a₁, w₁, hq, harr⟩ := h b (.code y :: k) cs hf
  cases e with
  | normal =>
    obtain ⟨e₂, a₂, w₂, hq₂, harr₂⟩ := hq b k cs hf
    exact ⟨e₂, a₂, w₂, hq₂, .of_steps (.head step_seq harr) harr₂⟩
  | exit id => exact ⟨_, a₁, w₁, hq, .of_steps (.one step_seq) (.pass (x := .code y) rfl (fun _ _ => .inl (by simp)) harr)⟩
  | goto l => exact ⟨_, a₁, w₁, hq, .of_steps (.one step_seq) (.pass (x := .code y) rfl (fun _ _ => .inl (by simp)) harr)⟩
  | ret => exact ⟨_, a₁, w₁, hq, .of_steps (.one step_seq) (.pass (x := .code y) rfl (fun _ _ => .inl (by simp)) harr)⟩
  | panic ch => exact ⟨_, a₁, w₁, hq, .of_steps (.one step_seq) (.pass (x := .code y) rfl (fun _ _ => .inl (by simp)) harr)⟩
  | outgrown => exact ⟨_, a₁, w₁, hq, .of_steps (.one step_seq) (.pass (x := .code y) rfl (fun _ _ => .inl (by simp)) harr)⟩
theorem wpV_block {id : Nat} {c : Code} (h : wpV P f c (Exit.inBlock id Q) a w) : wpV P f (Code.block id c) Q a w := by
  intro b k cs hf
  obtain ⟨e, a₁, w₁, hq, harr⟩ := h b (.inBlock id :: k) cs hf
  cases e with
  | normal => exact ⟨.normal, a₁, w₁, hq, .head step_block (Steps.trans harr (.one step_inBlock))⟩
  | exit id' =>
    by_cases hid : id' = id
    · simp only [Exit.inBlock, hid, if_true] at hq
      exact ⟨.normal, a₁, w₁, hq, .head step_block (harr k (by simp [exitTo, hid]))⟩
    · simp only [Exit.inBlock, hid, if_false] at hq
      refine ⟨.exit id', a₁, w₁, hq, fun k' hk => .head step_block (harr k' ?_)⟩
      have : (id == id') = false := by simp; exact fun h => hid h.symm
      simp [exitTo, this, hk]
  | goto l => exact ⟨_, a₁, w₁, hq, fun k' hk => .head step_block (harr k' (by simp [gotoIn, hk]))⟩
  | ret => exact ⟨_, a₁, w₁, hq, .of_steps (.one step_block) harr⟩
  | panic ch => exact ⟨_, a₁, w₁, hq, .of_steps (.one step_block) harr⟩
  | outgrown => exact ⟨_, a₁, w₁, hq, .of_steps (b := b) (k := k) (cs := cs) (e := .outgrown) (.one step_block) harr⟩
theorem wpV_scope {c : Code} (h : wpV P f c (Exit.noGoto Q) a w) : wpV P f (Code.scope c) Q a w := by
  intro b k cs hf
  obtain ⟨e, a₁, w₁, hq, harr⟩ := h b (.inScope c :: k) cs hf
  cases e with
  | normal => exact ⟨.normal, a₁, w₁, hq, .head step_scope (Steps.trans harr (.one step_inScope))⟩
  | exit id => exact ⟨.exit id, a₁, w₁, hq, fun k' hk => .head step_scope (harr k' (by simp [exitTo, hk]))⟩
  | goto l => exact hq.elim
  | ret => exact ⟨_, a₁, w₁, hq, .of_steps (.one step_scope) harr⟩
  | panic ch => exact ⟨_, a₁, w₁, hq, .of_steps (.one step_scope) harr⟩
  | outgrown => exact ⟨_, a₁, w₁, hq, .of_steps (.one step_scope) harr⟩

/-- What is asked when the function that was ranged over has ended. -/
def rangeEnd (P : Program) (f : FuncId) (l : Nat) (Q : Exit → Act → World → Prop) (a' : Act) : Ending → World → Prop
  | .returned _, w₃ => ∃ jump w₄, (Instr.endLoop l).run P w₃ = .ok jump w₄ ∧
      (match jump with
       | none => Q .normal a' w₄
       | some c => wpV P f c Q a' w₄)
  | .panicked chain, w₃ => Q (.panic chain) a' w₃
  | .outgrown, _ => False

theorem wpV_rangeFunc {g : Operand} {ps : Array Tmp} {assign body : Code} {l : Nat} {mark : List Deferred} {w₁ w₁' w₂ : World} {d : Deferred} {gf : FuncId} {args : Array Value}
    (he : (Instr.enterLoop f a.tmps ps assign body none).run P w = .ok (l, mark) w₁) (hres : (resolve a.eval (rangeCall g l) 0).run P w₁ = .ok d w₁')
    (hinv : (invoke d.target d.args).run P w₁' = .ok (.enter gf args) w₂) (hcall : Calls P gf args w₂ (rangeEnd P f l Q { a with defers := mark ++ a.defers })) :
    wpV P f (Code.rangeFunc g ps assign body) Q a w := by
  intro b k cs hf
  let b' : Frame := { b with roundOf := none }
  have hat : ∀ (a : Act) (k : List Item), b.at a k = b'.atR a k := fun a k => by simp [Frame.at, Frame.atR, b']
  have henter := stepR_rangeFunc (P := P) (b := b') (a := a) (k := k) (cs := cs) (w := w) (show (Instr.enterLoop b'.fn a.tmps ps assign body b'.roundOf).run P w = _ by rw [show b'.fn = f from hf]; exact he) hres hinv
  rw [← hat] at henter
  obtain ⟨e, w₃, fr, hR, hsteps, hfn, hleave⟩ := hcall (b'.atR { a with defers := mark ++ a.defers } (.inRangeFunc l :: k) :: cs)
  cases e with
  | outgrown => exact hR.elim
  | returned v =>
    obtain ⟨jump, w₄, hend, hj⟩ := hR
    have sback : Steps P (lone (b.at a (.code (.rangeFunc g ps assign body) :: k)) cs w) (lone (b.at { a with defers := mark ++ a.defers } ((jump.map Item.code).toList ++ k)) cs w₄) := by
      have s1 : step P (lone fr (b'.atR { a with defers := mark ++ a.defers } (.inRangeFunc l :: k) :: cs) w₃) = .next (lone (b'.atR { a with defers := mark ++ a.defers } (.endRangeFunc l :: k)) cs w₃) := by
        rw [← finish_atR_inRangeFunc l v]; exact step_leave_returned hleave
      have s2 : step P (lone (b'.atR { a with defers := mark ++ a.defers } (.endRangeFunc l :: k)) cs w₃) = .next (lone (b.at { a with defers := mark ++ a.defers } ((jump.map Item.code).toList ++ k)) cs w₄) := by
        rw [hat]; exact stepR_endRangeFunc hend
      exact .head henter (Steps.trans hsteps (.head s1 (.one s2)))
    cases jump with
    | none => exact ⟨.normal, _, w₄, hj, sback⟩
    | some c =>
      obtain ⟨e', a'', w₅, hq, harr⟩ := hj b k cs hf
      exact ⟨e', a'', w₅, hq, .of_steps sback harr⟩
  | panicked chain =>
    refine ⟨.panic chain, _, w₃, hR, .inRangeFunc l :: k, .head henter (Steps.trans hsteps (.one ?_))⟩
    rw [hat, show ({ b'.atR { a with defers := mark ++ a.defers } (.inRangeFunc l :: k) with mode := .panicking chain } : Frame) = (b'.atR { a with defers := mark ++ a.defers } (.inRangeFunc l :: k)).raise chain from (Frame.raise_atR ..).symm]
    exact step_leave_panicked hleave

/-- A function's contract, marks and all. -/
theorem calls_of_wpV {fn : Func} {c : Code} {args : Array Value} {R : Ending → World → Prop} (hf : P.funcs[f]? = some fn) (hb : fn.body = some c)
    (h : wpV P f c (bodyPostM Fence.wide 5 P fn R) { tmps := args ++ Array.replicate (fn.ntmps - args.size) undef, defers := [] } w) : Calls P f args w R := by
  intro cs
  let b : Frame := { (default : Frame) with fn := f, kind := .normal }
  have henter : Frame.enter P f args .normal = b.at { tmps := args ++ Array.replicate (fn.ntmps - args.size) undef, defers := [] } [.code c] := by
    simp [Frame.enter, Frame.at, hf, hb, b]
  obtain ⟨e, a', w', hq, harr⟩ := h b [] cs rfl
  rw [← henter] at harr
  cases e with
  | normal =>
    obtain ⟨e', w'', fr', hR, hs, hfn, hl⟩ := leaves_stepsInM a'.defers .returning w' { b.at a' [] with mode := .returning } cs rfl rfl rfl hf rfl trivial (room_wide _) hq
    exact ⟨e', w'', fr', hR, Comes.of_steps (Steps.trans harr (.one step_end)) (ComesIn.comes hs), hfn, hl⟩
  | ret =>
    obtain ⟨todo, hs₀⟩ := harr
    obtain ⟨e', w'', fr', hR, hs, hfn, hl⟩ := leaves_stepsInM a'.defers .returning w' { b.at a' todo with mode := .returning } cs rfl rfl rfl hf rfl trivial (room_wide _) hq
    exact ⟨e', w'', fr', hR, Comes.of_steps hs₀ (ComesIn.comes hs), hfn, hl⟩
  | panic chain =>
    obtain ⟨todo, hs₀⟩ := harr
    obtain ⟨e', w'', fr', hR, hs, hfn, hl⟩ := leaves_stepsInM a'.defers (.panicking chain) w' { b.at a' todo with mode := .panicking chain } cs rfl rfl rfl hf rfl trivial (room_wide _) hq
    exact ⟨e', w'', fr', hR, Comes.of_steps hs₀ (ComesIn.comes hs), hfn, hl⟩
  | exit id => exact hq.elim
  | goto l => exact hq.elim
  | outgrown => exact ⟨.outgrown, w', b, hq, harr.resolve_left (by simp [b]), rfl, trivial⟩

theorem leaveM_nil {fn : Func} {tmps : Array Value} {R : Ending → World → Prop} {v : Value} (hr : (results fn tmps).run P w = .ok v w) (hR : R (.returned v) w) : LeavesInM Fence.wide 5 P fn tmps R [] .returning w := ⟨v, hr, hR⟩
theorem leaveM_panic {fn : Func} {tmps : Array Value} {R : Ending → World → Prop} {c : List PanicEntry} (hR : R (.panicked c) w) : LeavesInM Fence.wide 5 P fn tmps R [] (.panicking c) w := hR
theorem leaveM_mark {fn : Func} {tmps : Array Value} {R : Ending → World → Prop} {D : Nat} {u : FrameMode} {ds : List Deferred} (hu : u ≠ .run) (hD : w.heap[D]? = some (.deferred (some []))) (h : LeavesInM Fence.wide 5 P fn tmps R ds u (w.putObj D (.deferred none))) :
    LeavesInM Fence.wide 5 P fn tmps R ({ target := .collected D, args := #[] } :: ds) u w := ⟨hu, .inl ⟨D, _, rfl, run_takeDeferred hD, h⟩⟩

/-- The mark that an outermost loop over a function leaves among the deferred calls. -/
abbrev marked (a : Act) (D : Nat) : Act := { a with defers := { target := .collected D, args := #[] } :: a.defers }

/-- THE STATEMENT. I i: what holds between two rounds, i being over; Ix: a round has left by a jump; Ip: a round has panicked. -/
theorem rng {g : Operand} {ps : Array Tmp} {assign body : Code} {gf : FuncId} {lb : Array Value} (hg : a.eval g = .func (.func gf) #[] lb) (eg : ∀ args w, (callFunc gf args).run P w = .ok (.enter gf args) w)
    (hfn : ∃ x, P.funcs[f]? = some x) (N : Nat) (enc : Nat → Array Value) (hps : ∀ i, (enc i).size = ps.size)
    (I : Nat → World → Prop) (Ix : Code → World → Prop) (Ip : List PanicEntry → World → Prop)
    (hI : ∀ i W o, (∃ r, W.heap[w.heap.size + 1]? = some (.loop r)) → I i W → I i (W.putObj (w.heap.size + 1) o)) (hIx : ∀ c W o, (∃ r, W.heap[w.heap.size + 1]? = some (.loop r)) → Ix c W → Ix c (W.putObj (w.heap.size + 1) o))
    (h0 : ∀ o, I 0 ((w.alloc (.deferred (some []))).alloc (.loop o)))
    (hround : ∀ i W, i < N → I i W → w.heap.size + 1 < W.heap.size → assign.wpIn (Fence.wide.inRound (w.heap.size + 1)) 5 P (Exit.then (fun a₁ W₁ => Books W W₁ ∧ ∀ W₂, (∃ r, W₂ = W₁.putObj (w.heap.size + 1) (.loop r)) → (∃ r, W₁.heap[w.heap.size + 1]? = some (.loop r)) →
        body.wpIn (Fence.wide.inRound (w.heap.size + 1)) 5 P (roundEnd W₂ (I (i + 1)) Ix Ip) a₁ W₂) (fun _ _ _ => False)) { tmps := (ps.zip (enc i)).foldl (fun t (p, v) => t.setIfInBounds p v) a.tmps, defers := [] } W)
    (hiter : ∀ (J : Nat → World → Prop) (Jx : World → Prop) (Jp : List PanicEntry → World → Prop) (W1 : World), (∀ i W, J i W → I i W) → (∀ i W W', J i W → I i W' → Books W W' → J i W') →
      (∀ i W, i < N → J i W → YieldAt Fence.wide 5 P (w.heap.size + 1) (enc i) W fun e W' => (e = .returned (.bool true) ∧ J (i + 1) W') ∨ (e = .returned (.bool false) ∧ Jx W') ∨ ∃ c, e = .panicked c ∧ Jp c W') →
      J 0 W1 → Below w.heap.size w W1 → w.heap.size + 1 < W1.heap.size → Calls P gf (#[.func (.yield (w.heap.size + 1)) #[] #[]] ++ lb) W1 fun e W' => ((∃ v, e = .returned v) ∧ (J N W' ∨ Jx W')) ∨ ∃ c, e = .panicked c ∧ Jp c W')
    (hdone : ∀ W, I N W → W.heap[w.heap.size]? = some (.deferred (some [])) → Q .normal (marked a w.heap.size) W)
    (hstop : ∀ c W, Ix c W → W.heap[w.heap.size]? = some (.deferred (some [])) → wpV P f c Q (marked a w.heap.size) W)
    (hpanic : ∀ c W, Ip c W → W.heap[w.heap.size]? = some (.deferred (some [])) → Q (.panic c) (marked a w.heap.size) W) :
    wpV P f (Code.rangeFunc g ps assign body) Q a w := by
  obtain ⟨rec, hrec⟩ : ∃ rec : LoopState → Option Code → Loop, rec = fun st pe => { state := st, pending := pe, fn := f, tmps := a.tmps, params := ps, assign, body, defers := w.heap.size } := ⟨_, rfl⟩
  obtain ⟨W1, hW1⟩ : ∃ W1, (w.alloc (.deferred (some []))).alloc (.loop (rec .ready none)) = W1 := ⟨_, rfl⟩
  have hL1 : W1.heap[w.heap.size + 1]? = some (.loop (rec .ready none)) := by
    rw [← hW1]; have := World.alloc_heap_new (w.alloc (.deferred (some []))) (.loop (rec .ready none)); rwa [World.size_alloc] at this
  have hK1 : W1.heap[w.heap.size]? = some (.deferred (some [])) := by
    rw [← hW1]; exact (Below.heap_alloc _ _ _ (by simp)).trans (World.alloc_heap_new w _)
  have hI1 : I 0 W1 := by rw [← hW1]; exact h0 _
  have hb1 : Below w.heap.size w W1 := by rw [← hW1]; exact (((Below.refl _ w).alloc (Nat.le_refl _) _).alloc (by simp) _)
  refine wpV_rangeFunc (l := w.heap.size + 1) (mark := [{ target := .collected w.heap.size, args := #[] }]) (w₁ := W1) (w₁' := W1) (w₂ := W1) (d := { target := .fn (.func gf) lb, args := #[.func (.yield (w.heap.size + 1)) #[] #[]] })
    (gf := gf) (args := #[.func (.yield (w.heap.size + 1)) #[] #[]] ++ lb) ?_ ?_ ?_ ?_
  · rw [← hW1, hrec]; exact run_enterLoop_outer _ _ _ _ _
  · simp only [resolve, hg]
    simp [go_sem]
  · simp [invoke, go_sem, eg]
  · refine (hiter (fun i W => I i W ∧ W.heap[w.heap.size + 1]? = some (.loop (rec .ready none)) ∧ W.heap[w.heap.size]? = some (.deferred (some [])))
      (fun W => ∃ c, Ix c W ∧ W.heap[w.heap.size + 1]? = some (.loop (rec .done (some c))) ∧ W.heap[w.heap.size]? = some (.deferred (some [])))
      (fun c W => Ip c W ∧ W.heap[w.heap.size]? = some (.deferred (some []))) W1 (fun _ _ h => h.1) (fun i W W' h hi hb => ⟨hi, hb _ _ h.2.1 rfl, hb _ _ h.2.2 rfl⟩) ?_ ⟨hI1, hL1, hK1⟩ hb1 (Array.getElem?_eq_some_iff.1 hL1).1).mono ?_
    · -- one round
      rintro i W hi ⟨hiW, hl, hk⟩
      have hlt : w.heap.size + 1 < W.heap.size := (Array.getElem?_eq_some_iff.1 hl).1
      have hy := run_yield (P := P) (args := enc i) hl (by rw [hrec]; exact hps i)
      rw [hrec] at hy
      refine ⟨f, _, assign, body, hy, round_of_wp ?_ hfn⟩
      clear hy
      refine wpIn_mono (hround i W hi hiW hlt) ?_
      rintro e a₁ W₁ hp
      cases e with
      | normal =>
        obtain ⟨hbk, hbody⟩ := hp
        have hl1 := hbk _ _ hl rfl
        have hk1 := hbk _ _ hk rfl
        have hlt1 := (Array.getElem?_eq_some_iff.1 hl1).1
        refine ⟨_, run_beginRound hl1 (by rw [hrec]), ?_⟩
        have hl2 : (W₁.putObj (w.heap.size + 1) (.loop { rec .ready none with state := .busy })).heap[w.heap.size + 1]? = some (.loop { rec .ready none with state := .busy }) := World.putObj_heap_same hlt1
        have hk2 : (W₁.putObj (w.heap.size + 1) (.loop { rec .ready none with state := .busy })).heap[w.heap.size]? = some (.deferred (some [])) := (World.putObj_heap_other (by omega)).trans hk1
        have fin : ∀ (jump : Option Code) (W3 : World), Books (W₁.putObj (w.heap.size + 1) (.loop { rec .ready none with state := .busy })) W3 →
            (Instr.endRound (w.heap.size + 1) jump).run P W3 = .ok (.bool jump.isNone) (W3.putObj (w.heap.size + 1) (.loop (rec (if jump.isNone then .ready else .done) jump))) ∧
            (∃ r, W3.heap[w.heap.size + 1]? = some (.loop r)) ∧
            (W3.putObj (w.heap.size + 1) (.loop (rec (if jump.isNone then .ready else .done) jump))).heap[w.heap.size + 1]? = some (.loop (rec (if jump.isNone then .ready else .done) jump)) ∧
            (W3.putObj (w.heap.size + 1) (.loop (rec (if jump.isNone then .ready else .done) jump))).heap[w.heap.size]? = some (.deferred (some [])) := fun jump W3 hk3 => by
          have hl3 := hk3 _ _ hl2 rfl
          have := run_endRound (P := P) jump hl3
          rw [hrec] at this ⊢
          exact ⟨this, ⟨_, hl3⟩, World.putObj_heap_same (Array.getElem?_eq_some_iff.1 hl3).1, (World.putObj_heap_other (by omega)).trans (hk3 _ _ hk2 rfl)⟩
        refine wpIn_mono (hbody _ ⟨_, rfl⟩ ⟨_, hl1⟩) ?_
        rintro e a3 W3 hp
        cases e with
        | normal =>
          obtain ⟨hk3, hi3⟩ := hp
          obtain ⟨hr, hl3, hl4, hk4⟩ := fin none W3 hk3
          exact ⟨_, _, hr, .inl ⟨rfl, hI _ _ _ hl3 hi3, hl4, hk4⟩⟩
        | ret =>
          obtain ⟨hk3, hi3⟩ := hp
          obtain ⟨hr, hl3, hl4, hk4⟩ := fin (some .ret) W3 hk3
          exact ⟨_, _, hr, .inr (.inl ⟨rfl, .ret, hIx _ _ _ hl3 hi3, hl4, hk4⟩)⟩
        | exit id =>
          obtain ⟨hk3, hi3⟩ := hp
          obtain ⟨hr, hl3, hl4, hk4⟩ := fin (some (.exit id)) W3 hk3
          exact ⟨_, _, hr, .inr (.inl ⟨rfl, .exit id, hIx _ _ _ hl3 hi3, hl4, hk4⟩)⟩
        | goto t =>
          obtain ⟨hk3, hi3⟩ := hp
          obtain ⟨hr, hl3, hl4, hk4⟩ := fin (some (.goto t)) W3 hk3
          exact ⟨_, _, hr, .inr (.inl ⟨rfl, .goto t, hIx _ _ _ hl3 hi3, hl4, hk4⟩)⟩
        | panic ch =>
          obtain ⟨hd, hk3, hi3⟩ := hp
          exact ⟨hd, .inr (.inr ⟨ch, rfl, hi3, hk3 _ _ hk2 rfl⟩)⟩
        | outgrown => exact hp.elim
      | exit id => exact hp.elim
      | goto t => exact hp.elim
      | ret => exact hp.elim
      | panic ch => exact hp.elim
      | outgrown => exact hp.elim
    · -- behind the iterator
      rintro e W2 (⟨⟨v, rfl⟩, (⟨hi, hl, hk⟩ | ⟨c, hi, hl, hk⟩)⟩ | ⟨c, rfl, hi, hk⟩)
      · exact ⟨none, _, by have := run_endLoop (P := P) hl (by rw [hrec]; simp); rw [hrec] at this; exact this, hdone _ (hI _ _ _ ⟨_, hl⟩ hi) ((World.putObj_heap_other (by omega)).trans hk)⟩
      · exact ⟨some c, _, by have := run_endLoop (P := P) hl (by rw [hrec]; simp); rw [hrec] at this; exact this, hstop c _ (hIx _ _ _ ⟨_, hl⟩ hi) ((World.putObj_heap_other (by omega)).trans hk)⟩
      · exact hpanic c W2 hi hk

/-- THE STATEMENT, where the assignment of the loop's variables leaves the world as it was. -/
theorem rng2 {g : Operand} {ps : Array Tmp} {assign body : Code} {gf : FuncId} {lb : Array Value} (hg : a.eval g = .func (.func gf) #[] lb) (eg : ∀ args w, (callFunc gf args).run P w = .ok (.enter gf args) w)
    (hfn : ∃ x, P.funcs[f]? = some x) (N : Nat) (enc : Nat → Array Value) (hps : ∀ i, (enc i).size = ps.size) (l : Nat) (hlw : w.heap.size + 1 = l)
    (I : Nat → World → Prop) (Ix : Code → World → Prop) (Ip : List PanicEntry → World → Prop)
    (hI : ∀ i W o, (∃ r, W.heap[l]? = some (.loop r)) → I i W → I i (W.putObj l o)) (hIx : ∀ c W o, (∃ r, W.heap[l]? = some (.loop r)) → Ix c W → Ix c (W.putObj l o))
    (h0 : ∀ o, I 0 ((w.alloc (.deferred (some []))).alloc (.loop o)))
    (hround : ∀ i W, i < N → I i W → assign.wpIn (Fence.wide.inRound l) 5 P (Exit.then (fun a₁ W₁ => W₁ = W ∧ ∀ W₂, I i W₂ → (∃ r, W₂.heap[l]? = some (.loop r)) →
        body.wpIn (Fence.wide.inRound l) 5 P (roundEnd W₂ (I (i + 1)) Ix Ip) a₁ W₂) (fun _ _ _ => False)) { tmps := (ps.zip (enc i)).foldl (fun t (p, v) => t.setIfInBounds p v) a.tmps, defers := [] } W)
    (hiter : ∀ (J : Nat → World → Prop) (Jx : World → Prop) (Jp : List PanicEntry → World → Prop) (W1 : World), (∀ i W, J i W → I i W) → (∀ i W W', J i W → I i W' → Books W W' → J i W') →
      (∀ i W, i < N → J i W → YieldAt Fence.wide 5 P l (enc i) W fun e W' => (e = .returned (.bool true) ∧ J (i + 1) W') ∨ (e = .returned (.bool false) ∧ Jx W') ∨ ∃ c, e = .panicked c ∧ Jp c W') →
      J 0 W1 → Below w.heap.size w W1 → Calls P gf (#[.func (.yield l) #[] #[]] ++ lb) W1 fun e W' => ((∃ v, e = .returned v) ∧ (J N W' ∨ Jx W')) ∨ ∃ c, e = .panicked c ∧ Jp c W')
    (hdone : ∀ W, I N W → W.heap[w.heap.size]? = some (.deferred (some [])) → Q .normal (marked a w.heap.size) W)
    (hstop : ∀ c W, Ix c W → W.heap[w.heap.size]? = some (.deferred (some [])) → wpV P f c Q (marked a w.heap.size) W)
    (hpanic : ∀ c W, Ip c W → W.heap[w.heap.size]? = some (.deferred (some [])) → Q (.panic c) (marked a w.heap.size) W) :
    wpV P f (Code.rangeFunc g ps assign body) Q a w := by
  subst hlw
  refine rng hg eg hfn N enc hps I Ix Ip hI hIx h0 (fun i W hi hIW hsz => ?_) (fun J Jx Jp W1 h1 h2 h3 h4 h5 _ => hiter J Jx Jp W1 h1 h2 h3 h4 h5) hdone hstop hpanic
  refine wpIn_mono (hround i W hi hIW) ?_
  rintro e a₁ W₁ hp
  cases e with
  | normal =>
    obtain ⟨rfl, hb⟩ := hp
    refine ⟨Books.refl _, ?_⟩
    rintro W₂ ⟨r, rfl⟩ hl
    refine hb _ (hI _ _ _ hl hIW) ⟨_, World.putObj_heap_same (Array.getElem?_eq_some_iff.1 hl.choose_spec).1⟩
  | exit id => exact hp
  | goto t => exact hp
  | ret => exact hp
  | panic ch => exact hp
  | outgrown => exact hp
end

/-! ### A statement that draws its order, within a round -/
section
variable {ops : Array Oper} {Q : Exit → Act → World → Prop} {md : Region.Mode} {l n : Nat}
theorem wpOp_in {i : Nat} {K K' : Act → World → Prop} {a : Act} {w : World} (hnd : ∀ (i : Nat) (o : Oper) (c : Call), ops[i]? = some o → o.op ≠ .defer c) (hout : ¬ LetsOut Q) (hK : ∀ a w, K a w → K' a w) (h : wpOp P ops Q i K a w) :
    wpOpIn (Fence.wide.inRound l) n P ops Q i K' a w := by
  unfold wpOp at h
  unfold wpOpIn
  cases ho : ops[i]? with
  | none => rw [ho] at h; exact hK _ _ h
  | some o =>
    rw [ho] at h
    simp only at h ⊢
    by_cases hw : Region.wanted o (yielded ops a.tmps) = true
    · rw [if_pos hw] at h ⊢
      rcases h with h | h
      · refine ⟨fun _ _ => trivial, ?_⟩
        rw [show (Fence.wide.inRound l).round = some l from rfl, Oper.semAt_some l _ _ (fun c => hnd i o c ho)]
        unfold Oper.wp at h
        generalize (execOp a.eval o).run P w = r at h ⊢
        cases r with
        | ok x w' =>
          cases x <;> simp only [Oper.upon, Oper.uponIn] at h ⊢ <;> first
            | exact hK _ _ h
            | exact h.elim
            | (refine ⟨fun h => by simp [Fence.inRound, Fence.wide] at h, CallsIn.inRound l (callsIn_wide.2 (h.mono fun e w'' he => ?_))⟩
               cases e <;> first | exact hK _ _ he | exact he)
            | (refine ⟨fun h => by simp [Fence.inRound, Fence.wide] at h, fun c cs _ => ?_⟩
               obtain ⟨v, w'', hR, hs⟩ := h c cs
               exact ⟨v, w'', hK _ _ hR, stepsIn_wide.2 hs⟩)
        | halt x w' => cases x <;> simp only [Oper.upon, Oper.uponIn] at h ⊢ <;> exact h
      · exact (hout h.2).elim
    · rw [if_neg hw] at h ⊢
      exact ⟨fun _ _ => trivial, hK _ _ h⟩
theorem wpAny_in (hnd : ∀ (i : Nat) (o : Oper) (c : Call), ops[i]? = some o → o.op ≠ .defer c) (hout : ¬ LetsOut Q) : ∀ (fuel : Nat) (listed : Array Bool) (a : Act) (w : World), wpAny P md ops Q fuel listed a w → wpAnyIn (Fence.wide.inRound l) n P md ops Q fuel listed a w
  | 0, _, _, _, h => h
  | fuel + 1, listed, a, w, h => ⟨h.1, fun i hi => wpOp_in hnd hout (fun a w h => wpAny_in hnd hout fuel _ a w h) (h.2 i hi)⟩
def noDefer (ops : Array Oper) : Bool := ops.all fun o => match o.op with | .defer _ => false | _ => true
theorem noDefer_spec (h : noDefer ops = true) : ∀ (i : Nat) (o : Oper) (c : Call), ops[i]? = some o → o.op ≠ .defer c := by
  intro i o c ho e
  have := Array.all_eq_true_iff_forall_mem.1 h o (Array.mem_of_getElem? ho)
  rw [e] at this
  cases this
theorem round_region {S : World → Prop} {id : Nat} {a : Act} {w : World} (hm : P.follows .mixedOrders = true) (hnd : noDefer ops = true) (hout : ¬ LetsOut Q) (hS : S w.drew)
    (h : S w.drew → wpAnyH P .any ops Q S ops.size (Array.replicate ops.size false) a w.drew) : (Code.region id ops true).wpIn (Fence.wide.inRound l) n P Q a w :=
  wpIn_region_any hm (wpAny_in (noDefer_spec hnd) hout _ _ _ _ (wpAny_of_held _ _ _ _ (h hS)))
end
end Go.Proofs.YtdkcjeaabbkdeaaGreatDoor
