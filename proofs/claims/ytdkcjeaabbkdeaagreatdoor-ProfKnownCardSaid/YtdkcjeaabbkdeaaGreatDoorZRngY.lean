/- A range over a function that writes to memory of its own account ahead of each round: what holds between two rounds, and what holds where a round begins. A range over a function that hands values of its own to each round: what holds between two rounds, and what holds where a round begins. -/
import Derived.Test.YtdkcjeaabbkdeaaGreatDoorZRng
set_option linter.unusedVariables false
set_option linter.unusedSimpArgs false
set_option linter.unnecessarySimpa false
set_option linter.unusedSectionVars false
section
namespace Go.Proofs.YtdkcjeaabbkdeaaGreatDoor
open Go.RowKit
set_option linter.unusedVariables false
set_option linter.unusedSimpArgs false
section
variable {P : Program} {f : FuncId} {Q : Exit → Act → World → Prop} {a : Act} {w : World}
/-- THE STATEMENT, Y i being what holds where a round begins. I i: what holds between two rounds, i being over; Ix: a round has left by a jump; Ip: a round has panicked. -/
theorem rngY {g : Operand} {ps : Array Tmp} {assign body : Code} {gf : FuncId} {lb : Array Value} (hg : a.eval g = .func (.func gf) #[] lb) (eg : ∀ args w, (callFunc gf args).run P w = .ok (.enter gf args) w)
    (hfn : ∃ x, P.funcs[f]? = some x) (N : Nat) (enc : Nat → Array Value) (hps : ∀ i, (enc i).size = ps.size)
    (I Y : Nat → World → Prop) (Ix : Code → World → Prop) (Ip : List PanicEntry → World → Prop)
    (hI : ∀ i W o, (∃ r, W.heap[w.heap.size + 1]? = some (.loop r)) → I i W → I i (W.putObj (w.heap.size + 1) o)) (hYp : ∀ i W o, (∃ r, W.heap[w.heap.size + 1]? = some (.loop r)) → Y i W → Y i (W.putObj (w.heap.size + 1) o)) (hIB : ∀ i W W', I i W → Below W.heap.size W W' → I i W') (hIx : ∀ c W o, (∃ r, W.heap[w.heap.size + 1]? = some (.loop r)) → Ix c W → Ix c (W.putObj (w.heap.size + 1) o))
    (h0 : ∀ o, I 0 ((w.alloc (.deferred (some []))).alloc (.loop o)))
    (hround : ∀ i W, i < N → Y i W → w.heap.size + 1 < W.heap.size → assign.wpIn (Fence.wide.inRound (w.heap.size + 1)) 5 P (Exit.then (fun a₁ W₁ => Books W W₁ ∧ ∀ W₂, (∃ r, W₂ = W₁.putObj (w.heap.size + 1) (.loop r)) → (∃ r, W₁.heap[w.heap.size + 1]? = some (.loop r)) →
        body.wpIn (Fence.wide.inRound (w.heap.size + 1)) 5 P (roundEnd W₂ (I (i + 1)) Ix Ip) a₁ W₂) (fun _ _ _ => False)) { tmps := (ps.zip (enc i)).foldl (fun t (p, v) => t.setIfInBounds p v) a.tmps, defers := [] } W)
    (hiter : ∀ (J JY : Nat → World → Prop) (Jx : World → Prop) (Jp : List PanicEntry → World → Prop) (W1 : World), (∀ i W, J i W → I i W) → (∀ i W W', J i W → Below W.heap.size W W' → J i W') → (∀ i W W', J i W → Y i W' → Books W W' → JY i W') →
      (∀ i W, i < N → JY i W → YieldAt Fence.wide 5 P (w.heap.size + 1) (enc i) W fun e W' => (e = .returned (.bool true) ∧ J (i + 1) W') ∨ (e = .returned (.bool false) ∧ Jx W') ∨ ∃ c, e = .panicked c ∧ Jp c W') →
      J 0 W1 → Below w.heap.size w W1 → w.heap.size + 1 < W1.heap.size → Calls P gf (#[.func (.yield (w.heap.size + 1)) #[] #[]] ++ lb) W1 fun e W' => ((∃ v, e = .returned v) ∧ (J N W' ∨ Jx W')) ∨ ∃ c, e = .panicked c ∧ Jp c W')
    (hdone : ∀ W, I N W → W.heap[w.heap.size]? = some (.deferred (some [])) → Q .normal (marked a w.heap.size) W)
    (hstop : ∀ c W, Ix c W → W.heap[w.heap.size]? = some (.deferred (some [])) → wpV P f c Q (marked a w.heap.size) W)
    (hpanic : ∀ c W, Ip c W → W.heap[w.heap.size]? = some (.deferred (some [])) → Q (.panic c) (marked a w.heap.size) W) :
    wpV P f (Code.rangeFunc g ps assign body) Q a w := by
  obtain ⟨rec, hrec⟩ : ∃ rec : LoopState → Option Code → Loop, rec = fun st pe => { state := st, pending := pe, fn := f, tmps := a.tmps, params := ps, assign, body, defers := w.heap.size } := ⟨_, rfl⟩
  obtain ⟨W1, hW1⟩ : ∃ W1, (w.alloc (.deferred (some []))).alloc (.loop (rec .ready none)) = W1 := ⟨_, rfl⟩
  have hL1 : W1.heap[w.heap.size + 1]? = some (.loop (rec .ready none)) := by
    rw [← hW1]; have := World.alloc_heap_new (w.alloc (.deferred (some []))) (.loop (rec .ready none)); rwa [World.size_alloc] at this
  have hK1 : W1.heap[w.heap.size]? = some (.deferred (some [])) := by
    rw [← hW1]; exact (Below.heap_alloc _ _ _ (by simp)).trans (World.alloc_heap_new w _)
  have hI1 : I 0 W1 := by rw [← hW1]; exact h0 _
  have hb1 : Below w.heap.size w W1 := by rw [← hW1]; exact (((Below.refl _ w).alloc (Nat.le_refl _) _).alloc (by simp) _)
  refine wpV_rangeFunc (l := w.heap.size + 1) (mark := [{ target := .collected w.heap.size, args := #[] }]) (w₁ := W1) (w₁' := W1) (w₂ := W1) (d := { target := .fn (.func gf) lb, args := #[.func (.yield (w.heap.size + 1)) #[] #[]] })
    (gf := gf) (args := #[.func (.yield (w.heap.size + 1)) #[] #[]] ++ lb) ?_ ?_ ?_ ?_
  · rw [← hW1, hrec]; exact run_enterLoop_outer _ _ _ _ _
  · simp only [resolve, hg]
    simp [go_sem]
  · simp [invoke, go_sem, eg]
  · refine (hiter (fun i W => I i W ∧ W.heap[w.heap.size + 1]? = some (.loop (rec .ready none)) ∧ W.heap[w.heap.size]? = some (.deferred (some [])))
      (fun i W => Y i W ∧ W.heap[w.heap.size + 1]? = some (.loop (rec .ready none)) ∧ W.heap[w.heap.size]? = some (.deferred (some [])))
      (fun W => ∃ c, Ix c W ∧ W.heap[w.heap.size + 1]? = some (.loop (rec .done (some c))) ∧ W.heap[w.heap.size]? = some (.deferred (some [])))
      (fun c W => Ip c W ∧ W.heap[w.heap.size]? = some (.deferred (some []))) W1 (fun _ _ h => h.1) (fun i W W' h hb => ⟨hIB _ _ _ h.1 hb, heap_keep hb h.2.1, heap_keep hb h.2.2⟩) (fun i W W' h hi hb => ⟨hi, hb _ _ h.2.1 rfl, hb _ _ h.2.2 rfl⟩) ?_ ⟨hI1, hL1, hK1⟩ hb1 (Array.getElem?_eq_some_iff.1 hL1).1).mono ?_
    · -- one round
      rintro i W hi ⟨hiW, hl, hk⟩
      have hlt : w.heap.size + 1 < W.heap.size := (Array.getElem?_eq_some_iff.1 hl).1
      have hy := run_yield (P := P) (args := enc i) hl (by rw [hrec]; exact hps i)
      rw [hrec] at hy
      refine ⟨f, _, assign, body, hy, round_of_wp ?_ hfn⟩
      clear hy
      refine wpIn_mono (hround i W hi hiW hlt) ?_
      rintro e a₁ W₁ hp
      cases e with
      | normal =>
        obtain ⟨hbk, hbody⟩ := hp
        have hl1 := hbk _ _ hl rfl
        have hk1 := hbk _ _ hk rfl
        have hlt1 := (Array.getElem?_eq_some_iff.1 hl1).1
        refine ⟨_, run_beginRound hl1 (by rw [hrec]), ?_⟩
        have hl2 : (W₁.putObj (w.heap.size + 1) (.loop { rec .ready none with state := .busy })).heap[w.heap.size + 1]? = some (.loop { rec .ready none with state := .busy }) := World.putObj_heap_same hlt1
        have hk2 : (W₁.putObj (w.heap.size + 1) (.loop { rec .ready none with state := .busy })).heap[w.heap.size]? = some (.deferred (some [])) := (World.putObj_heap_other (by omega)).trans hk1
        have fin : ∀ (jump : Option Code) (W3 : World), Books (W₁.putObj (w.heap.size + 1) (.loop { rec .ready none with state := .busy })) W3 →
            (Instr.endRound (w.heap.size + 1) jump).run P W3 = .ok (.bool jump.isNone) (W3.putObj (w.heap.size + 1) (.loop (rec (if jump.isNone then .ready else .done) jump))) ∧
            (∃ r, W3.heap[w.heap.size + 1]? = some (.loop r)) ∧
            (W3.putObj (w.heap.size + 1) (.loop (rec (if jump.isNone then .ready else .done) jump))).heap[w.heap.size + 1]? = some (.loop (rec (if jump.isNone then .ready else .done) jump)) ∧
            (W3.putObj (w.heap.size + 1) (.loop (rec (if jump.isNone then .ready else .done) jump))).heap[w.heap.size]? = some (.deferred (some [])) := fun jump W3 hk3 => by
          have hl3 := hk3 _ _ hl2 rfl
          have := run_endRound (P := P) jump hl3
          rw [hrec] at this ⊢
          exact ⟨this, ⟨_, hl3⟩, World.putObj_heap_same (Array.getElem?_eq_some_iff.1 hl3).1, (World.putObj_heap_other (by omega)).trans (hk3 _ _ hk2 rfl)⟩
        refine wpIn_mono (hbody _ ⟨_, rfl⟩ ⟨_, hl1⟩) ?_
        rintro e a3 W3 hp
        cases e with
        | normal =>
          obtain ⟨hk3, hi3⟩ := hp
          obtain ⟨hr, hl3, hl4, hk4⟩ := fin none W3 hk3
          exact ⟨_, _, hr, .inl ⟨rfl, hI _ _ _ hl3 hi3, hl4, hk4⟩⟩
        | ret =>
          obtain ⟨hk3, hi3⟩ := hp
          obtain ⟨hr, hl3, hl4, hk4⟩ := fin (some .ret) W3 hk3
          exact ⟨_, _, hr, .inr (.inl ⟨rfl, .ret, hIx _ _ _ hl3 hi3, hl4, hk4⟩)⟩
        | exit id =>
          obtain ⟨hk3, hi3⟩ := hp
          obtain ⟨hr, hl3, hl4, hk4⟩ := fin (some (.exit id)) W3 hk3
          exact ⟨_, _, hr, .inr (.inl ⟨rfl, .exit id, hIx _ _ _ hl3 hi3, hl4, hk4⟩)⟩
        | goto t =>
          obtain ⟨hk3, hi3⟩ := hp
          obtain ⟨hr, hl3, hl4, hk4⟩ := fin (some (.goto t)) W3 hk3
          exact ⟨_, _, hr, .inr (.inl ⟨rfl, .goto t, hIx _ _ _ hl3 hi3, hl4, hk4⟩)⟩
        | panic ch =>
          obtain ⟨hd, hk3, hi3⟩ := hp
          exact ⟨hd, .inr (.inr ⟨ch, rfl, hi3, hk3 _ _ hk2 rfl⟩)⟩
        | outgrown => exact hp.elim
      | exit id => exact hp.elim
      | goto t => exact hp.elim
      | ret => exact hp.elim
      | panic ch => exact hp.elim
      | outgrown => exact hp.elim
    · -- behind the iterator
      rintro e W2 (⟨⟨v, rfl⟩, (⟨hi, hl, hk⟩ | ⟨c, hi, hl, hk⟩)⟩ | ⟨c, rfl, hi, hk⟩)
      · exact ⟨none, _, by have := run_endLoop (P := P) hl (by rw [hrec]; simp); rw [hrec] at this; exact this, hdone _ (hI _ _ _ ⟨_, hl⟩ hi) ((World.putObj_heap_other (by omega)).trans hk)⟩
      · exact ⟨some c, _, by have := run_endLoop (P := P) hl (by rw [hrec]; simp); rw [hrec] at this; exact this, hstop c _ (hIx _ _ _ ⟨_, hl⟩ hi) ((World.putObj_heap_other (by omega)).trans hk)⟩
      · exact hpanic c W2 hi hk

/-- THE STATEMENT, Y i being what holds where a round begins; where the assignment of the loop's variables leaves the world as it was. -/
theorem rngY2 {g : Operand} {ps : Array Tmp} {assign body : Code} {gf : FuncId} {lb : Array Value} (hg : a.eval g = .func (.func gf) #[] lb) (eg : ∀ args w, (callFunc gf args).run P w = .ok (.enter gf args) w)
    (hfn : ∃ x, P.funcs[f]? = some x) (N : Nat) (enc : Nat → Array Value) (hps : ∀ i, (enc i).size = ps.size) (l : Nat) (hlw : w.heap.size + 1 = l)
    (I Y : Nat → World → Prop) (Ix : Code → World → Prop) (Ip : List PanicEntry → World → Prop)
    (hI : ∀ i W o, (∃ r, W.heap[l]? = some (.loop r)) → I i W → I i (W.putObj l o)) (hYp : ∀ i W o, (∃ r, W.heap[l]? = some (.loop r)) → Y i W → Y i (W.putObj l o)) (hIB : ∀ i W W', I i W → Below W.heap.size W W' → I i W') (hIx : ∀ c W o, (∃ r, W.heap[l]? = some (.loop r)) → Ix c W → Ix c (W.putObj l o))
    (h0 : ∀ o, I 0 ((w.alloc (.deferred (some []))).alloc (.loop o)))
    (hround : ∀ i W, i < N → Y i W → assign.wpIn (Fence.wide.inRound l) 5 P (Exit.then (fun a₁ W₁ => W₁ = W ∧ ∀ W₂, Y i W₂ → (∃ r, W₂.heap[l]? = some (.loop r)) →
        body.wpIn (Fence.wide.inRound l) 5 P (roundEnd W₂ (I (i + 1)) Ix Ip) a₁ W₂) (fun _ _ _ => False)) { tmps := (ps.zip (enc i)).foldl (fun t (p, v) => t.setIfInBounds p v) a.tmps, defers := [] } W)
    (hiter : ∀ (J JY : Nat → World → Prop) (Jx : World → Prop) (Jp : List PanicEntry → World → Prop) (W1 : World), (∀ i W, J i W → I i W) → (∀ i W W', J i W → Below W.heap.size W W' → J i W') → (∀ i W W', J i W → Y i W' → Books W W' → JY i W') →
      (∀ i W, i < N → JY i W → YieldAt Fence.wide 5 P l (enc i) W fun e W' => (e = .returned (.bool true) ∧ J (i + 1) W') ∨ (e = .returned (.bool false) ∧ Jx W') ∨ ∃ c, e = .panicked c ∧ Jp c W') →
      J 0 W1 → Below w.heap.size w W1 → Calls P gf (#[.func (.yield l) #[] #[]] ++ lb) W1 fun e W' => ((∃ v, e = .returned v) ∧ (J N W' ∨ Jx W')) ∨ ∃ c, e = .panicked c ∧ Jp c W')
    (hdone : ∀ W, I N W → W.heap[w.heap.size]? = some (.deferred (some [])) → Q .normal (marked a w.heap.size) W)
    (hstop : ∀ c W, Ix c W → W.heap[w.heap.size]? = some (.deferred (some [])) → wpV P f c Q (marked a w.heap.size) W)
    (hpanic : ∀ c W, Ip c W → W.heap[w.heap.size]? = some (.deferred (some [])) → Q (.panic c) (marked a w.heap.size) W) :
    wpV P f (Code.rangeFunc g ps assign body) Q a w := by
  subst hlw
  refine rngY hg eg hfn N enc hps I Y Ix Ip hI hYp hIB hIx h0 (fun i W hi hIW hsz => ?_) (fun J JY Jx Jp W1 h1 h1b h2 h3 h4 h5 _ => hiter J JY Jx Jp W1 h1 h1b h2 h3 h4 h5) hdone hstop hpanic
  refine wpIn_mono (hround i W hi hIW) ?_
  rintro e a₁ W₁ hp
  cases e with
  | normal =>
    obtain ⟨rfl, hb⟩ := hp
    refine ⟨Books.refl _, ?_⟩
    rintro W₂ ⟨r, rfl⟩ hl
    refine hb _ (hYp _ _ _ hl hIW) ⟨_, World.putObj_heap_same (Array.getElem?_eq_some_iff.1 hl.choose_spec).1⟩
  | exit id => exact hp
  | goto t => exact hp
  | ret => exact hp
  | panic ch => exact hp
  | outgrown => exact hp
end
end Go.Proofs.YtdkcjeaabbkdeaaGreatDoor
end
section
namespace Go.Proofs.YtdkcjeaabbkdeaaGreatDoor
open Go.RowKit
set_option linter.unusedVariables false
set_option linter.unusedSimpArgs false
section
variable {P : Program} {f : FuncId} {Q : Exit → Act → World → Prop} {a : Act} {w : World}
/-- THE STATEMENT, Y i being what holds where a round begins. I i: what holds between two rounds, i being over; Ix: a round has left by a jump; Ip: a round has panicked. -/
theorem rngZ {g : Operand} {ps : Array Tmp} {assign body : Code} {gf : FuncId} {lb : Array Value} (hg : a.eval g = .func (.func gf) #[] lb) (eg : ∀ args w, (callFunc gf args).run P w = .ok (.enter gf args) w)
    (hfn : ∃ x, P.funcs[f]? = some x) {β : Type} (N : Nat) (enc : Nat → β → Array Value) (hps : ∀ i b, (enc i b).size = ps.size)
    (b0 : β) (I Y : Nat → β → World → Prop) (Ix : Code → World → Prop) (Ip : List PanicEntry → World → Prop)
    (hI : ∀ i b W o, (∃ r, W.heap[w.heap.size + 1]? = some (.loop r)) → I i b W → I i b (W.putObj (w.heap.size + 1) o)) (hYp : ∀ i b W o, (∃ r, W.heap[w.heap.size + 1]? = some (.loop r)) → Y i b W → Y i b (W.putObj (w.heap.size + 1) o)) (hIB : ∀ i b W W', I i b W → Below W.heap.size W W' → I i b W') (hIx : ∀ c W o, (∃ r, W.heap[w.heap.size + 1]? = some (.loop r)) → Ix c W → Ix c (W.putObj (w.heap.size + 1) o))
    (h0 : ∀ o, I 0 b0 ((w.alloc (.deferred (some []))).alloc (.loop o)))
    (hround : ∀ i b W, i < N → Y i b W → w.heap.size + 1 < W.heap.size → assign.wpIn (Fence.wide.inRound (w.heap.size + 1)) 5 P (Exit.then (fun a₁ W₁ => Books W W₁ ∧ ∀ W₂, (∃ r, W₂ = W₁.putObj (w.heap.size + 1) (.loop r)) → (∃ r, W₁.heap[w.heap.size + 1]? = some (.loop r)) →
        body.wpIn (Fence.wide.inRound (w.heap.size + 1)) 5 P (roundEnd W₂ (I (i + 1) b) Ix Ip) a₁ W₂) (fun _ _ _ => False)) { tmps := (ps.zip (enc i b)).foldl (fun t (p, v) => t.setIfInBounds p v) a.tmps, defers := [] } W)
    (hiter : ∀ (J JY : Nat → β → World → Prop) (Jx : World → Prop) (Jp : List PanicEntry → World → Prop) (W1 : World), (∀ i b W, J i b W → I i b W) → (∀ i b W W', J i b W → Below W.heap.size W W' → J i b W') → (∀ i b b' W W', J i b W → Y i b' W' → Books W W' → JY i b' W') →
      (∀ i b W, i < N → JY i b W → YieldAt Fence.wide 5 P (w.heap.size + 1) (enc i b) W fun e W' => (e = .returned (.bool true) ∧ J (i + 1) b W') ∨ (e = .returned (.bool false) ∧ Jx W') ∨ ∃ c, e = .panicked c ∧ Jp c W') →
      J 0 b0 W1 → Below w.heap.size w W1 → w.heap.size + 1 < W1.heap.size → Calls P gf (#[.func (.yield (w.heap.size + 1)) #[] #[]] ++ lb) W1 fun e W' => ((∃ v, e = .returned v) ∧ ((∃ b, J N b W') ∨ Jx W')) ∨ ∃ c, e = .panicked c ∧ Jp c W')
    (hdone : ∀ b W, I N b W → W.heap[w.heap.size]? = some (.deferred (some [])) → Q .normal (marked a w.heap.size) W)
    (hstop : ∀ c W, Ix c W → W.heap[w.heap.size]? = some (.deferred (some [])) → wpV P f c Q (marked a w.heap.size) W)
    (hpanic : ∀ c W, Ip c W → W.heap[w.heap.size]? = some (.deferred (some [])) → Q (.panic c) (marked a w.heap.size) W) :
    wpV P f (Code.rangeFunc g ps assign body) Q a w := by
  obtain ⟨rec, hrec⟩ : ∃ rec : LoopState → Option Code → Loop, rec = fun st pe => { state := st, pending := pe, fn := f, tmps := a.tmps, params := ps, assign, body, defers := w.heap.size } := ⟨_, rfl⟩
  obtain ⟨W1, hW1⟩ : ∃ W1, (w.alloc (.deferred (some []))).alloc (.loop (rec .ready none)) = W1 := ⟨_, rfl⟩
  have hL1 : W1.heap[w.heap.size + 1]? = some (.loop (rec .ready none)) := by
    rw [← hW1]; have := World.alloc_heap_new (w.alloc (.deferred (some []))) (.loop (rec .ready none)); rwa [World.size_alloc] at this
  have hK1 : W1.heap[w.heap.size]? = some (.deferred (some [])) := by
    rw [← hW1]; exact (Below.heap_alloc _ _ _ (by simp)).trans (World.alloc_heap_new w _)
  have hI1 : I 0 b0 W1 := by rw [← hW1]; exact h0 _
  have hb1 : Below w.heap.size w W1 := by rw [← hW1]; exact (((Below.refl _ w).alloc (Nat.le_refl _) _).alloc (by simp) _)
  refine wpV_rangeFunc (l := w.heap.size + 1) (mark := [{ target := .collected w.heap.size, args := #[] }]) (w₁ := W1) (w₁' := W1) (w₂ := W1) (d := { target := .fn (.func gf) lb, args := #[.func (.yield (w.heap.size + 1)) #[] #[]] })
    (gf := gf) (args := #[.func (.yield (w.heap.size + 1)) #[] #[]] ++ lb) ?_ ?_ ?_ ?_
  · rw [← hW1, hrec]; exact run_enterLoop_outer _ _ _ _ _
  · simp only [resolve, hg]
    simp [go_sem]
  · simp [invoke, go_sem, eg]
  · refine (hiter (fun i b W => I i b W ∧ W.heap[w.heap.size + 1]? = some (.loop (rec .ready none)) ∧ W.heap[w.heap.size]? = some (.deferred (some [])))
      (fun i b W => Y i b W ∧ W.heap[w.heap.size + 1]? = some (.loop (rec .ready none)) ∧ W.heap[w.heap.size]? = some (.deferred (some [])))
      (fun W => ∃ c, Ix c W ∧ W.heap[w.heap.size + 1]? = some (.loop (rec .done (some c))) ∧ W.heap[w.heap.size]? = some (.deferred (some [])))
      (fun c W => Ip c W ∧ W.heap[w.heap.size]? = some (.deferred (some []))) W1 (fun _ _ _ h => h.1) (fun i b W W' h hb => ⟨hIB _ _ _ _ h.1 hb, heap_keep hb h.2.1, heap_keep hb h.2.2⟩) (fun i b b' W W' h hi hb => ⟨hi, hb _ _ h.2.1 rfl, hb _ _ h.2.2 rfl⟩) ?_ ⟨hI1, hL1, hK1⟩ hb1 (Array.getElem?_eq_some_iff.1 hL1).1).mono ?_
    · -- one round
      rintro i b W hi ⟨hiW, hl, hk⟩
      have hlt : w.heap.size + 1 < W.heap.size := (Array.getElem?_eq_some_iff.1 hl).1
      have hy := run_yield (P := P) (args := enc i b) hl (by rw [hrec]; exact hps i b)
      rw [hrec] at hy
      refine ⟨f, _, assign, body, hy, round_of_wp ?_ hfn⟩
      clear hy
      refine wpIn_mono (hround i b W hi hiW hlt) ?_
      rintro e a₁ W₁ hp
      cases e with
      | normal =>
        obtain ⟨hbk, hbody⟩ := hp
        have hl1 := hbk _ _ hl rfl
        have hk1 := hbk _ _ hk rfl
        have hlt1 := (Array.getElem?_eq_some_iff.1 hl1).1
        refine ⟨_, run_beginRound hl1 (by rw [hrec]), ?_⟩
        have hl2 : (W₁.putObj (w.heap.size + 1) (.loop { rec .ready none with state := .busy })).heap[w.heap.size + 1]? = some (.loop { rec .ready none with state := .busy }) := World.putObj_heap_same hlt1
        have hk2 : (W₁.putObj (w.heap.size + 1) (.loop { rec .ready none with state := .busy })).heap[w.heap.size]? = some (.deferred (some [])) := (World.putObj_heap_other (by omega)).trans hk1
        have fin : ∀ (jump : Option Code) (W3 : World), Books (W₁.putObj (w.heap.size + 1) (.loop { rec .ready none with state := .busy })) W3 →
            (Instr.endRound (w.heap.size + 1) jump).run P W3 = .ok (.bool jump.isNone) (W3.putObj (w.heap.size + 1) (.loop (rec (if jump.isNone then .ready else .done) jump))) ∧
            (∃ r, W3.heap[w.heap.size + 1]? = some (.loop r)) ∧
            (W3.putObj (w.heap.size + 1) (.loop (rec (if jump.isNone then .ready else .done) jump))).heap[w.heap.size + 1]? = some (.loop (rec (if jump.isNone then .ready else .done) jump)) ∧
            (W3.putObj (w.heap.size + 1) (.loop (rec (if jump.isNone then .ready else .done) jump))).heap[w.heap.size]? = some (.deferred (some [])) := fun jump W3 hk3 => by
          have hl3 := hk3 _ _ hl2 rfl
          have := run_endRound (P := P) jump hl3
          rw [hrec] at this ⊢
          exact ⟨this, ⟨_, hl3⟩, World.putObj_heap_same (Array.getElem?_eq_some_iff.1 hl3).1, (World.putObj_heap_other (by omega)).trans (hk3 _ _ hk2 rfl)⟩
        refine wpIn_mono (hbody _ ⟨_, rfl⟩ ⟨_, hl1⟩) ?_
        rintro e a3 W3 hp
        cases e with
        | normal =>
          obtain ⟨hk3, hi3⟩ := hp
          obtain ⟨hr, hl3, hl4, hk4⟩ := fin none W3 hk3
          exact ⟨_, _, hr, .inl ⟨rfl, hI _ _ _ _ hl3 hi3, hl4, hk4⟩⟩
        | ret =>
          obtain ⟨hk3, hi3⟩ := hp
          obtain ⟨hr, hl3, hl4, hk4⟩ := fin (some .ret) W3 hk3
          exact ⟨_, _, hr, .inr (.inl ⟨rfl, .ret, hIx _ _ _ hl3 hi3, hl4, hk4⟩)⟩
        | exit id =>
          obtain ⟨hk3, hi3⟩ := hp
          obtain ⟨hr, hl3, hl4, hk4⟩ := fin (some (.exit id)) W3 hk3
          exact ⟨_, _, hr, .inr (.inl ⟨rfl, .exit id, hIx _ _ _ hl3 hi3, hl4, hk4⟩)⟩
        | goto t =>
          obtain ⟨hk3, hi3⟩ := hp
          obtain ⟨hr, hl3, hl4, hk4⟩ := fin (some (.goto t)) W3 hk3
          exact ⟨_, _, hr, .inr (.inl ⟨rfl, .goto t, hIx _ _ _ hl3 hi3, hl4, hk4⟩)⟩
        | panic ch =>
          obtain ⟨hd, hk3, hi3⟩ := hp
          exact ⟨hd, .inr (.inr ⟨ch, rfl, hi3, hk3 _ _ hk2 rfl⟩)⟩
        | outgrown => exact hp.elim
      | exit id => exact hp.elim
      | goto t => exact hp.elim
      | ret => exact hp.elim
      | panic ch => exact hp.elim
      | outgrown => exact hp.elim
    · -- behind the iterator
      rintro e W2 (⟨⟨v, rfl⟩, (⟨b, hi, hl, hk⟩ | ⟨c, hi, hl, hk⟩)⟩ | ⟨c, rfl, hi, hk⟩)
      · exact ⟨none, _, by have := run_endLoop (P := P) hl (by rw [hrec]; simp); rw [hrec] at this; exact this, hdone b _ (hI _ _ _ _ ⟨_, hl⟩ hi) ((World.putObj_heap_other (by omega)).trans hk)⟩
      · exact ⟨some c, _, by have := run_endLoop (P := P) hl (by rw [hrec]; simp); rw [hrec] at this; exact this, hstop c _ (hIx _ _ _ ⟨_, hl⟩ hi) ((World.putObj_heap_other (by omega)).trans hk)⟩
      · exact hpanic c W2 hi hk

/-- THE STATEMENT, Y i being what holds where a round begins; where the assignment of the loop's variables leaves the world as it was. -/
theorem rngZ2 {g : Operand} {ps : Array Tmp} {assign body : Code} {gf : FuncId} {lb : Array Value} (hg : a.eval g = .func (.func gf) #[] lb) (eg : ∀ args w, (callFunc gf args).run P w = .ok (.enter gf args) w)
    (hfn : ∃ x, P.funcs[f]? = some x) {β : Type} (N : Nat) (enc : Nat → β → Array Value) (hps : ∀ i b, (enc i b).size = ps.size) (l : Nat) (hlw : w.heap.size + 1 = l)
    (b0 : β) (I Y : Nat → β → World → Prop) (Ix : Code → World → Prop) (Ip : List PanicEntry → World → Prop)
    (hI : ∀ i b W o, (∃ r, W.heap[l]? = some (.loop r)) → I i b W → I i b (W.putObj l o)) (hYp : ∀ i b W o, (∃ r, W.heap[l]? = some (.loop r)) → Y i b W → Y i b (W.putObj l o)) (hIB : ∀ i b W W', I i b W → Below W.heap.size W W' → I i b W') (hIx : ∀ c W o, (∃ r, W.heap[l]? = some (.loop r)) → Ix c W → Ix c (W.putObj l o))
    (h0 : ∀ o, I 0 b0 ((w.alloc (.deferred (some []))).alloc (.loop o)))
    (hround : ∀ i b W, i < N → Y i b W → assign.wpIn (Fence.wide.inRound l) 5 P (Exit.then (fun a₁ W₁ => W₁ = W ∧ ∀ W₂, Y i b W₂ → (∃ r, W₂.heap[l]? = some (.loop r)) →
        body.wpIn (Fence.wide.inRound l) 5 P (roundEnd W₂ (I (i + 1) b) Ix Ip) a₁ W₂) (fun _ _ _ => False)) { tmps := (ps.zip (enc i b)).foldl (fun t (p, v) => t.setIfInBounds p v) a.tmps, defers := [] } W)
    (hiter : ∀ (J JY : Nat → β → World → Prop) (Jx : World → Prop) (Jp : List PanicEntry → World → Prop) (W1 : World), (∀ i b W, J i b W → I i b W) → (∀ i b W W', J i b W → Below W.heap.size W W' → J i b W') → (∀ i b b' W W', J i b W → Y i b' W' → Books W W' → JY i b' W') →
      (∀ i b W, i < N → JY i b W → YieldAt Fence.wide 5 P l (enc i b) W fun e W' => (e = .returned (.bool true) ∧ J (i + 1) b W') ∨ (e = .returned (.bool false) ∧ Jx W') ∨ ∃ c, e = .panicked c ∧ Jp c W') →
      J 0 b0 W1 → Below w.heap.size w W1 → Calls P gf (#[.func (.yield l) #[] #[]] ++ lb) W1 fun e W' => ((∃ v, e = .returned v) ∧ ((∃ b, J N b W') ∨ Jx W')) ∨ ∃ c, e = .panicked c ∧ Jp c W')
    (hdone : ∀ b W, I N b W → W.heap[w.heap.size]? = some (.deferred (some [])) → Q .normal (marked a w.heap.size) W)
    (hstop : ∀ c W, Ix c W → W.heap[w.heap.size]? = some (.deferred (some [])) → wpV P f c Q (marked a w.heap.size) W)
    (hpanic : ∀ c W, Ip c W → W.heap[w.heap.size]? = some (.deferred (some [])) → Q (.panic c) (marked a w.heap.size) W) :
    wpV P f (Code.rangeFunc g ps assign body) Q a w := by
  subst hlw
  refine rngZ hg eg hfn N enc hps b0 I Y Ix Ip hI hYp hIB hIx h0 (fun i b W hi hIW hsz => ?_) (fun J JY Jx Jp W1 h1 h1b h2 h3 h4 h5 _ => hiter J JY Jx Jp W1 h1 h1b h2 h3 h4 h5) hdone hstop hpanic
  refine wpIn_mono (hround i b W hi hIW) ?_
  rintro e a₁ W₁ hp
  cases e with
  | normal =>
    obtain ⟨rfl, hb⟩ := hp
    refine ⟨Books.refl _, ?_⟩
    rintro W₂ ⟨r, rfl⟩ hl
    refine hb _ (hYp _ _ _ _ hl hIW) ⟨_, World.putObj_heap_same (Array.getElem?_eq_some_iff.1 hl.choose_spec).1⟩
  | exit id => exact hp
  | goto t => exact hp
  | ret => exact hp
  | panic ch => exact hp
  | outgrown => exact hp
end
end Go.Proofs.YtdkcjeaabbkdeaaGreatDoor
end
