/- Package prof: numbers, as new memory. Maps: an entry is looked up, and stored. Package prof: the costs of stacks, in plain terms, and as they lie in memory. -/
import Derived.Test.YtdkcjeaabbkdeaaGreatDoorZProfA
import Derived.Test.YtdkcjeaabbkdeaaGreatDoorZMapF
import Derived.Test.YtdkcjeaabbkdeaaGreatDoorZMapv
import Derived.Test.YtdkcjeaabbkdeaaGreatDoorZStepsI
import Derived.Test.YtdkcjeaabbkdeaaGreatDoorZOrdS
import Derived.Laws.CopyOwn
import Derived.Laws.MakeOwn
import Derived.Deep.CutRange
import Derived.WideKeyEntry
set_option linter.unusedVariables false
set_option linter.unusedSimpArgs false
set_option linter.unnecessarySimpa false
set_option linter.unusedSectionVars false
section
namespace Go.Proofs.YtdkcjeaabbkdeaaGreatDoor
open Go.RowKit
set_option linter.unusedVariables false
set_option linter.unusedSimpArgs false
/-- Numbers in a new row, cut to their length. -/
def OwnPost (l : List Int) (w : World) (e : Ending) (w' : World) : Prop := ∃ g, e = .returned (.slice (some ⟨g, 0, none⟩) l.length l.length) ∧ Ints w' (.slice (some ⟨g, 0, none⟩) l.length l.length) l ∧ Below w.heap.size w w' ∧ w.heap.size ≤ g
theorem sizeInt : (Tryz.prog.info? 3).map (·.size) = some 1 := by kernel_rfl
theorem splice_all {α : Type} (L cs : List α) (h : cs.length = L.length) : splice L 0 cs = cs := by
  simp [splice, h]
set_option maxRecDepth 100000 in
set_option maxHeartbeats 400000 in
theorem prof_own (l : List Int) (v : Value) (w : World) (hl : Ints w v l) (hlen : l.length ≤ 1000000000) : Calls Tryz.prog 61 #[v] w (OwnPost l w) := by
  obtain ⟨A, c, rfl, hm⟩ := hl.form
  obtain ⟨i0, hi, hzz⟩ := Option.map_eq_some_iff.1 infoInt
  simp only [Prod.mk.injEq] at hzz
  obtain ⟨hz0, hz1, hz2⟩ := hzz
  have hmk := run_make (P := Tryz.prog) w 22 3 i0 (.int .i64 0) Tryz.underlying22 hi hz0 .i64 .i64 l.length l.length (by omega) (Int.le_refl _) (by rw [hz2]; omega) (by omega)
  simp only [Int.toNat_natCast] at hmk
  rw [hz1, Nat.mul_one] at hmk
  have hms : (madeCells (Value.cells (.int .i64 0)) l.length).size = l.length := size_madeCells _ _
  generalize hmc : madeCells (Value.cells (.int .i64 0)) l.length = mc at *
  have hb1 := below1 w (.cells mc 3)
  have HL := Lib.hid (hl.below hb1)
  have HB1 := Lib.hid hb1
  have HQ := Lib.hid (alloc_new w (.cells mc 3))
  have HMs := Lib.hid hms
  clear hl hb1 hms hmc hz0 hz1 hz2
  go_enter Tryz.func61, Tryz.ntmps61
  go_upto_region 2 with (fail)
  generalize hw1 : w.alloc (.cells mc 3) = w1 at *
  clear hw1 hmk
  have hsrc : 0 < (nums l).length → ∃ ad, A = some ad ∧ ∀ j v, (nums l)[j]? = some v → w1.cell? (ad.add j) = some v := fun hp => by
    rw [nums_length] at hp
    obtain ⟨b, off, rfl, -⟩ := HL.out.at_ 0 hp
    refine ⟨_, rfl, fun j v hj => ?_⟩
    obtain ⟨hlt, hj⟩ := List.getElem?_eq_some_iff.1 hj
    rw [nums_length] at hlt
    obtain ⟨b', off', e, hc⟩ := HL.out.at_ j hlt
    cases e
    rw [show (⟨b, off, none⟩ : Addr).add j = ⟨b, off + j, none⟩ by unfold Addr.add; split <;> simp_all]
    rw [hc, ← hj]; simp [nums]
  have HSrc := Lib.hid hsrc
  clear hsrc
  have hok1 : (nums l).length = Nat.min l.length l.length := by rw [nums_length]; simp
  have hok2 : 0 + (nums l).length ≤ mc.toList.length := by rw [nums_length]; simp [HMs.out]
  have hok3 : ∀ v ∈ nums l, v.oneCell' = true := by intro v hv; simp [nums] at hv; obtain ⟨x, -, rfl⟩ := hv; rfl
  have hok4 : w1.heap[w.heap.size]? = some (.cells mc.toList.toArray 3 (0, 0)) := by simpa using HQ.out
  have HOK := Lib.hid (And.intro hok1 (And.intro hok2 (And.intro hok3 hok4)))
  clear hok1 hok2 hok3 hok4
  go_wp2_with (refine wpList_copy_splice rfl _ _ 22 22 rfl 3 Tryz.underlying22 sizeInt (some ⟨w.heap.size, 0, none⟩) A l.length l.length l.length c rfl rfl w.heap.size 0 mc.toList 3 HOK.out.2.2.2 (nums l) HOK.out.1 (fun hp => ⟨rfl, HSrc.out hp⟩) HOK.out.2.1 HOK.out.2.2.1 w.heap.size w HB1.out (Nat.le_refl _) ?_; intro w2 hq2 hb2; have HQ2 := Lib.hid hq2.out; have HB2 := Lib.hid hb2; clear hq2 hb2)
  go_ret
  have hsp : splice mc.toList 0 (nums l) = nums l := splice_all _ _ (by rw [nums_length]; simp [HMs.out])
  have h2 := HQ2.out
  rw [hsp] at h2
  refine ⟨w.heap.size, rfl, ⟨_, _, rfl, by omega, fun j hj => ⟨w.heap.size, 0, [.int .i64 l[j]], rfl, rfl, fun i hi => ?_, rfl⟩⟩, HB2.out, Nat.le_refl _⟩
  obtain rfl : i = 0 := by simpa using hi
  rw [cell_of_heap h2]
  simp [nums, hj]
end Go.Proofs.YtdkcjeaabbkdeaaGreatDoor
end
section
namespace Go.Proofs.YtdkcjeaabbkdeaaGreatDoor
open Go.RowKit Go.Maps Go.WideElems Go.ChangeShapes Go.WideShapes Go.MapKept Go.ChangeMaps
open Go.WideMaps (KeyLaw)
set_option linter.unusedVariables false
set_option linter.unusedSimpArgs false
theorem law106 : KeyLaw Tryz.prog 106 := deep_law_laid laidOut (m := 2) (by omega) (of_decide_eq_true (by kernel_rfl)) (by kernel_rfl) (by rw [Tryz.underlying106])
theorem setBlock_twice (w : World) (b : Nat) (o1 o2 : Obj) : setBlock (setBlock w b o1) b o2 = setBlock w b o2 := by
  unfold setBlock
  simp
section
variable {α β : Type} [DecidableEq α] {mkK : α → Value} {mkV : β → Value} {P : Program} {k e t : TypeId} {w : World} {b n : Nat} {f : α → Option β}
theorem MapF.entry (h : MapF mkK mkV P k w b n f) (inj : ∀ x y, mkK x = mkK y → x = y) (K : Keyed P k) (KL : KeyLaw P k) (ht : P.underlying t = some (.map k e)) {z : Value} (hz : ∀ u : World, (zeroValue e).run P u = .ok z u) (hn : n < maxLen) {x : α} {kl : Lit} (hkey : keyOf P k (mkK x) = some kl) :
    ∃ v0 st w1, (Instr.mapEntry t (.map (some b)) (mkK x)).run P w = .ok (.tuple #[v0, goInt st]) w1 ∧ w.mapTurned w1 b ∧ ∀ y, ∃ w2, (Instr.entryStore t (.map (some b)) (goInt st) (mkV y)).run P w1 = .ok () w2 ∧ MapF mkK mkV P k w2 b (n + 1) (fupd f x y) ∧ w.mapTurned w2 b := by
  have hU := fun y => h.update inj K ht hn hkey (y := y)
  obtain ⟨M, ⟨D, ⟨es, clock, hb, F, hs, hD⟩, h2⟩, h3⟩ := h
  obtain ⟨v0, st, es1, clock1, hrun, -, hst⟩ := entry_then_store KL ht hz hb F hkey
  refine ⟨v0, st, _, hrun, ⟨es, clock, es1, clock1, hb, rfl⟩, fun y => ?_⟩
  obtain ⟨es', clock', hS, hup⟩ := hst _ (mkV y) (heap_setBlock_same hb _)
  obtain ⟨w', hu, hm, ht'⟩ := hU y
  rw [hup] at hu
  injection hu with _ hu
  refine ⟨_, hS, ?_, ?_⟩
  · rw [setBlock_twice, hu]; exact hm
  · rw [setBlock_twice, hu]; exact ht'
/-- What is looked up behind the entry is what was looked up ahead of it. -/
theorem MapF.entry_look (h : MapF mkK mkV P k w b n f) (inj : ∀ x y, mkK x = mkK y → x = y) (K : Keyed P k) (KL : KeyLaw P k) (ht : P.underlying t = some (.map k e)) {y0 : β} (hz : ∀ u : World, (zeroValue e).run P u = .ok (mkV y0) u) (hn : n < maxLen) {x : α} {kl : Lit} (hkey : keyOf P k (mkK x) = some kl)
    {r : Value} {w1 : World} (hE : (Instr.mapEntry t (.map (some b)) (mkK x)).run P w = .ok r w1) : (Instr.lookup t (.map (some b)) (mkK x) false).run P w1 = .ok (((f x).map mkV).getD (mkV y0)) w1 := by
  have hL := h.lookup K ht (hz w) hkey
  obtain ⟨w', hu, hm, -⟩ := h.update inj K ht hn hkey (y := y0)
  obtain ⟨M, ⟨D, ⟨es, clock, hb, F, hs, hD⟩, h2⟩, h3⟩ := h
  rcases KL.find w hkey es.toList F.keys with ⟨h1, h2⟩ | ⟨j, e0, h1, h2, h4⟩
  · have e1 : (Instr.mapEntry t (.map (some b)) (mkK x)).run P w = .ok (.tuple #[mkV y0, goInt clock]) (setBlock w b (.map (es.push ⟨mkK x, mkV y0, clock⟩) (clock + 1))) := by
      simp [Instr.mapEntry, run_underlying ht, MapKept.run_getObj_map hb, KL.check w false hkey, h1, hz, MapKept.run_setObj_map _ hb, Result.andThen, setBlock]
    have e2 : (Instr.mapUpdate t (.map (some b)) (mkK x) (mkV y0)).run P w = .ok () (setBlock w b (.map (es.push ⟨mkK x, mkV y0, clock⟩) (clock + 1))) := by
      simp [Instr.mapUpdate, run_underlying ht, MapKept.run_getObj_map hb, KL.check w false hkey, h1, MapKept.run_setObj_map _ hb, Result.andThen, setBlock]
    have e3 : (Instr.lookup t (.map (some b)) (mkK x) false).run P w = .ok (mkV y0) w := by
      simp [Instr.lookup, run_underlying ht, MapKept.run_getObj_map hb, KL.check w es.isEmpty hkey, h1, hz, Result.andThen]
    have hE := (Result.ok.inj (e1.symm.trans hE)).2
    have hu := (Result.ok.inj (e2.symm.trans hu)).2
    have hL := (Result.ok.inj (e3.symm.trans hL)).1
    subst hE
    rw [hu, hm.lookup K ht (hz _) hkey, fupd_same, ← hL]
    rfl
  · have hj : es[j]? = some e0 := by simpa using h2
    have hsame : es.modify j (fun e => { e with key := mkK x }) = es := by
      apply Array.ext'
      rw [Array.toList_modify, modify_eq_set _ _ _ _ h2]
      have : ({ e0 with key := mkK x } : MapEntry) = e0 := by rw [← h4]
      rw [this]
      exact set_self _ _ _ h2
    have e1 : (Instr.mapEntry t (.map (some b)) (mkK x)).run P w = .ok (.tuple #[e0.val, goInt e0.born]) (setBlock w b (.map es clock)) := by
      simp [Instr.mapEntry, run_underlying ht, MapKept.run_getObj_map hb, KL.check w false hkey, h1, hj, h4, KL.stays w hkey, hsame, MapKept.run_setObj_map _ hb, Result.andThen, setBlock]
    have e2 : setBlock w b (.map es clock) = w := by
      obtain ⟨hlt, hg⟩ := Array.getElem?_eq_some_iff.1 hb
      unfold setBlock
      have : w.heap.setIfInBounds b (.map es clock) = w.heap := by
        apply Array.ext_getElem?
        intro i
        rw [Array.getElem?_setIfInBounds]
        split
        · next e => subst e; exact hb.symm
        · rfl
      rw [this]
    rw [e2] at e1
    have hE := (Result.ok.inj (e1.symm.trans hE)).2
    subst hE
    exact hL
end
end Go.Proofs.YtdkcjeaabbkdeaaGreatDoor
end
section
namespace Go.Proofs.YtdkcjeaabbkdeaaGreatDoor
open Go.RowKit
set_option linter.unusedVariables false
set_option linter.unusedSimpArgs false

/-- The work at each key; the stack that came first with it. -/
def sumK (steps : List Step) : Nat → List UInt8 → Option Int
  | 0 => fun _ => none
  | k + 1 => fupd (sumK steps k) (keyT (stkAt steps (k + 1))) (wrap64 ((sumK steps k (keyT (stkAt steps (k + 1)))).getD 0 + (steps.getD k ⟨0, 0, 0, 0⟩).work))
def firK (steps : List Step) : Nat → List UInt8 → Option (List Int)
  | 0 => fun _ => none
  | k + 1 => if (sumK steps k (keyT (stkAt steps (k + 1)))).isSome then firK steps k else fupd (firK steps k) (keyT (stkAt steps (k + 1))) (stkAt steps (k + 1))
def StksIs (steps : List Step) (d : List StackC) : Prop := ∃ ks : List (List UInt8 × List Int), (ks.map Prod.fst).Nodup ∧ (∀ q ∈ ks, firK steps steps.length q.1 = some q.2) ∧ (∀ key l, firK steps steps.length key = some l → (key, l) ∈ ks) ∧
  d.Perm (ks.map fun q => ⟨q.2, (sumK steps steps.length q.1).getD 0⟩) ∧ ∀ i j (h1 : i < j) (h2 : j < d.length), ¬ cmpL d[j].stack d[i].stack < 0
def keyL (s : List UInt8) : Value := tkey ⟨s.toArray⟩
theorem keyL_inj : ∀ x y, keyL x = keyL y → x = y := fun x y h => by
  unfold keyL tkey at h
  simpa using h
theorem keyOf_keyL (s : List UInt8) (h : s.length ≤ 100000000) : ∃ kl, keyOf Tryz.prog 106 (keyL s) = some kl := by
  refine keyOf_text _ ?_
  show s.toArray.size ≤ maxLen
  unfold maxLen
  rw [List.size_toArray]; omega
def intV (x : Int) : Value := .int .i64 x
def rowV (x : Nat × List Int) : Value := .slice (some ⟨x.1, 0, none⟩) x.2.length x.2.length
theorem itoa_some (n : Int) : Lib.itoa n ≠ [] := by
  unfold Lib.itoa
  split
  · simp
  · intro h
    rw [Lib.decDigits] at h
    split at h <;> simp at h
theorem keyT_some (l : List Int) (h : l ≠ []) : keyT l ≠ [] := by
  cases l with
  | nil => exact absurd rfl h
  | cons x l => simp [keyT, itoa_some x]
theorem nextStk_some (st : List Int) (s : Step) : nextStk st s ≠ [] := by unfold nextStk; simp
theorem stkAt_some (steps : List Step) (k : Nat) (h : k < steps.length) : stkAt steps (k + 1) ≠ [] := by rw [stkAt_succ steps k h]; exact nextStk_some _ _
theorem Ints.of_block {w w' : World} {g n c : Nat} {l : List Int} (h : Ints w (.slice (some ⟨g, 0, none⟩) n c) l) (e : w'.heap[g]? = w.heap[g]?) : Ints w' (.slice (some ⟨g, 0, none⟩) n c) l := by
  obtain ⟨A, c', he, hm, hc⟩ := h
  cases he
  refine ⟨_, _, rfl, hm, fun j hj => ?_⟩
  obtain ⟨b, off, cs, h1, h2, h3, h4⟩ := hc j hj
  cases h1
  exact ⟨g, 0, cs, rfl, h2, fun i hi => (World.cell?_of_block e).trans (h3 i hi), h4⟩

/-- The costs of stacks, as they lie in memory. -/
structure StkAt (w1 : World) (m1 m2 b1 b2 q : Nat) (T : Option Addr) (tl tc : Nat) (base k : Nat) (F : List UInt8 → Option Int) (G : List UInt8 → Option (Nat × List Int)) (v : Value) (st : List Int) (W : World) : Prop where
  low : Below w1.heap.size w1 W
  ge : w1.heap.size ≤ m1 ∧ w1.heap.size ≤ m2 ∧ w1.heap.size ≤ b1 ∧ w1.heap.size ≤ b2 ∧ w1.heap.size ≤ q
  lt : m1 < base ∧ m2 < base ∧ b1 < base ∧ b2 < base ∧ q < base
  ne : m1 ≠ m2 ∧ b1 ≠ m1 ∧ b1 ≠ m2 ∧ b2 ≠ m1 ∧ b2 ≠ m2 ∧ q ≠ m1 ∧ q ≠ m2
  above : base ≤ W.heap.size
  box1 : W.heap[b1]? = some (.cells #[.map (some m1)] 103)
  box2 : W.heap[b2]? = some (.cells #[.map (some m2)] 104)
  seq : W.heap[q]? = some (.cells #[.slice T tl tc] 53)
  sums : MapF keyL intV Tryz.prog 106 W m1 k F
  rows : MapF keyL rowV Tryz.prog 106 W m2 k G
  each : ∀ key g l, G key = some (g, l) → key ≠ [] ∧ key.length ≤ 100000000 ∧ g < W.heap.size ∧ base ≤ g ∧ v.ownBlock ≠ some g ∧ Ints W (rowV (g, l)) l
  own : OwnStk base W v st
section
variable {w1 : World} {m1 m2 b1 b2 q : Nat} {T : Option Addr} {tl tc : Nat} {base k : Nat} {F : List UInt8 → Option Int} {G : List UInt8 → Option (Nat × List Int)} {v : Value} {st : List Int} {W : World}
theorem StkAt.sumsBlock (h : StkAt w1 m1 m2 b1 b2 q T tl tc base k F G v st W) : ∃ es cl, W.heap[m1]? = some (.map es cl) := by
  obtain ⟨M, ⟨D, ⟨es, cl, hb, -⟩, -⟩, -⟩ := h.sums; exact ⟨es, cl, hb⟩
theorem StkAt.rowsBlock (h : StkAt w1 m1 m2 b1 b2 q T tl tc base k F G v st W) : ∃ es cl, W.heap[m2]? = some (.map es cl) := by
  obtain ⟨M, ⟨D, ⟨es, cl, hb, -⟩, -⟩, -⟩ := h.rows; exact ⟨es, cl, hb⟩
/-- A change that leaves all blocks as they are, but books and what is new. -/
theorem StkAt.kept {W' : World} (h : StkAt w1 m1 m2 b1 b2 q T tl tc base k F G v st W) (hl : Below w1.heap.size w1 W') (hs : W.heap.size ≤ W'.heap.size) (hk : ∀ (i : Nat) (o : Obj), W.heap[i]? = some o → isBook o = false → W'.heap[i]? = some o) : StkAt w1 m1 m2 b1 b2 q T tl tc base k F G v st W' := by
  obtain ⟨es1, cl1, e1⟩ := h.sumsBlock
  obtain ⟨es2, cl2, e2⟩ := h.rowsBlock
  refine ⟨hl, h.ge, h.lt, h.ne, Nat.le_trans h.above hs, hk _ _ h.box1 rfl, hk _ _ h.box2 rfl, hk _ _ h.seq rfl, h.sums.of_heap ((hk _ _ e1 rfl).trans e1.symm), h.rows.of_heap ((hk _ _ e2 rfl).trans e2.symm), fun key g l hG => ?_, ownsRow_kept h.own fun g o _ ho hb => hk _ _ ho hb⟩
  obtain ⟨a, b, c, d, e, f⟩ := h.each key g l hG
  refine ⟨a, b, by omega, d, e, Ints.reads f fun x v hc => ?_⟩
  unfold World.cell? at hc ⊢
  cases ho : W.heap[x.block]? with
  | none => rw [ho] at hc; simp at hc
  | some o =>
    cases o with
    | cells cs t => rw [hk _ _ ho rfl]; rw [ho] at hc; exact hc
    | _ => rw [ho] at hc; simp at hc
theorem StkAt.below {W' : World} (h : StkAt w1 m1 m2 b1 b2 q T tl tc base k F G v st W) (hb : Below W.heap.size W W') : StkAt w1 m1 m2 b1 b2 q T tl tc base k F G v st W' :=
  h.kept (below_into h.low h.low.size hb) hb.size fun i o hi _ => heap_keep hb hi
theorem StkAt.putObj {l : Nat} {o : Obj} (h : StkAt w1 m1 m2 b1 b2 q T tl tc base k F G v st W) (hl : ∃ r, W.heap[l]? = some (.loop r)) (hbl : base ≤ l) : StkAt w1 m1 m2 b1 b2 q T tl tc base k F G v st (W.putObj l o) :=
  h.kept (below_putObj h.low (by have := h.ge; have := h.lt; omega)) (by rw [World.putObj_size]; omega) fun i o hi hb => heap_putObj hl hi hb
theorem StkAt.grown {v' : Value} {st' : List Int} {W' : World} (h : StkAt w1 m1 m2 b1 b2 q T tl tc base k F G v st W) (hg : W.grownBy W' v.ownBlock) (hloc : v'.ownBlock = v.ownBlock ∨ ∃ k, v'.ownBlock = some k ∧ W.heap.size ≤ k) (ho : OwnStk base W' v' st') : StkAt w1 m1 m2 b1 b2 q T tl tc base k F G v' st' W' := by
  have hne : ∀ k, k < base → v.ownBlock ≠ some k := fun k hk e => by
    have := (World.ownsRow.lt h.own k e).1; omega
  have key : ∀ k o, k < base → W.heap[k]? = some o → W'.heap[k]? = some o := fun k o hk ho => (hg.block k (Array.getElem?_eq_some_iff.1 ho).1 (fun e => hne k hk e.symm)).trans ho
  obtain ⟨es1, cl1, e1⟩ := h.sumsBlock
  obtain ⟨es2, cl2, e2⟩ := h.rowsBlock
  obtain ⟨l1, l2, l3, l4, l5⟩ := h.lt
  refine ⟨h.low.grown hg h.low.size (fun j hj => ?_), h.ge, h.lt, h.ne, Nat.le_trans h.above hg.size, key _ _ l3 h.box1, key _ _ l4 h.box2, key _ _ l5 h.seq, h.sums.of_heap ((key _ _ l1 e1).trans e1.symm), h.rows.of_heap ((key _ _ l2 e2).trans e2.symm), fun ky g l hG => ?_, ho⟩
  · have := (World.ownsRow.lt h.own j hj).1; have := h.ge; have := h.lt; omega
  · obtain ⟨a, b, c, d, e, f⟩ := h.each ky g l hG
    refine ⟨a, b, Nat.lt_of_lt_of_le c hg.size, d, fun e' => ?_, Ints.of_block f (hg.block g c (fun e' => e e'.symm))⟩
    rcases hloc with h1 | ⟨j, h1, h2⟩
    · exact e (h1 ▸ e')
    · rw [h1] at e'; injection e' with e'; omega
/-- The sums' map has turned. -/
theorem StkAt.turned1 {W' : World} {F' : List UInt8 → Option Int} (h : StkAt w1 m1 m2 b1 b2 q T tl tc base k F G v st W) (ht : W.mapTurned W' m1) (hm : MapF keyL intV Tryz.prog 106 W' m1 (k + 1) F') : StkAt w1 m1 m2 b1 b2 q T tl tc base (k + 1) F' G v st W' := by
  have hg := ht.grown
  have key : ∀ i o, i ≠ m1 → W.heap[i]? = some o → W'.heap[i]? = some o := fun i o hi ho => (hg.block i (Array.getElem?_eq_some_iff.1 ho).1 (fun e => hi (by injection e))).trans ho
  obtain ⟨es2, cl2, e2⟩ := h.rowsBlock
  obtain ⟨n1, n2, n3, n4, n5, n6, n7⟩ := h.ne
  refine ⟨h.low.grown hg h.low.size (fun j hj => by cases hj; exact h.ge.1), h.ge, h.lt, h.ne, Nat.le_trans h.above hg.size, key _ _ n2 h.box1, key _ _ n4 h.box2, key _ _ n6 h.seq, hm, (h.rows.of_heap ((key _ _ (Ne.symm n1) e2).trans e2.symm)).mono (Nat.le_succ k), fun ky g l hG => ?_, ownsRow_kept h.own fun g o hgo ho _ => key _ _ (fun e => ?_) ho⟩
  · obtain ⟨a, b, c, d, e, f⟩ := h.each ky g l hG
    exact ⟨a, b, Nat.lt_of_lt_of_le c hg.size, d, e, f.reads (reads_turned ht)⟩
  · have := (World.ownsRow.lt h.own g hgo).1; have := h.lt; omega
/-- The rows' map has turned: a stack more. -/
theorem StkAt.turned2 {W' : World} {ky : List UInt8} {g : Nat} {l : List Int} (h : StkAt w1 m1 m2 b1 b2 q T tl tc base k F G v st W) (ht : W.mapTurned W' m2) (hm : MapF keyL rowV Tryz.prog 106 W' m2 (k + 1) (fupd G ky (g, l))) (h1 : ky ≠ []) (h2 : ky.length ≤ 100000000) (h3 : g < W.heap.size) (h4 : base ≤ g) (h5 : v.ownBlock ≠ some g) (h6 : Ints W (rowV (g, l)) l) : StkAt w1 m1 m2 b1 b2 q T tl tc base (k + 1) F (fupd G ky (g, l)) v st W' := by
  have hg := ht.grown
  have key : ∀ i o, i ≠ m2 → W.heap[i]? = some o → W'.heap[i]? = some o := fun i o hi ho => (hg.block i (Array.getElem?_eq_some_iff.1 ho).1 (fun e => hi (by injection e))).trans ho
  obtain ⟨es1, cl1, e1⟩ := h.sumsBlock
  obtain ⟨n1, n2, n3, n4, n5, n6, n7⟩ := h.ne
  refine ⟨h.low.grown hg h.low.size (fun j hj => by cases hj; exact h.ge.2.1), h.ge, h.lt, h.ne, Nat.le_trans h.above hg.size, key _ _ n3 h.box1, key _ _ n5 h.box2, key _ _ n7 h.seq, (h.sums.of_heap ((key _ _ n1 e1).trans e1.symm)).mono (Nat.le_succ k), hm, fun ky' g' l' hG => ?_, ownsRow_kept h.own fun g o hgo ho _ => key _ _ (fun e => ?_) ho⟩
  · unfold fupd at hG
    split at hG
    · next e =>
      subst e
      cases hG
      exact ⟨h1, h2, Nat.lt_of_lt_of_le h3 hg.size, h4, h5, h6.reads (reads_turned ht)⟩
    · obtain ⟨a, b, c, d, e, f⟩ := h.each ky' g' l' hG
      exact ⟨a, b, Nat.lt_of_lt_of_le c hg.size, d, e, f.reads (reads_turned ht)⟩
  · have := (World.ownsRow.lt h.own g hgo).1; have := h.lt; omega
theorem StkAt.mono {k' : Nat} (h : StkAt w1 m1 m2 b1 b2 q T tl tc base k F G v st W) (hk : k ≤ k') : StkAt w1 m1 m2 b1 b2 q T tl tc base k' F G v st W :=
  ⟨h.low, h.ge, h.lt, h.ne, h.above, h.box1, h.box2, h.seq, h.sums.mono hk, h.rows.mono hk, h.each, h.own⟩
theorem books_turned {W W' : World} {b : Nat} (h : W.mapTurned W' b) : Books W W' := fun k o hk ho => by
  have hg := h.grown
  obtain ⟨es, cl, es', cl', hb, -⟩ := h
  refine (hg.block k (Array.getElem?_eq_some_iff.1 hk).1 fun e => ?_).trans hk
  injection e with e
  subst e
  rw [hb] at hk; cases hk; cases ho
end
theorem sum_fir (steps : List Step) (k : Nat) (key : List UInt8) : (sumK steps k key).isSome = (firK steps k key).isSome := by
  induction k with
  | zero => rfl
  | succ k ih =>
    unfold sumK firK
    by_cases h : (sumK steps k (keyT (stkAt steps (k + 1)))).isSome = true
    · rw [if_pos h]
      unfold fupd
      split
      · next e => subst e; rw [← ih, h]; rfl
      · exact ih
    · rw [if_neg h]
      unfold fupd
      split
      · rfl
      · exact ih
theorem fir_some (steps : List Step) (h : steps ≠ []) : ∃ key l, firK steps steps.length key = some l := by
  obtain ⟨k, hk⟩ : ∃ k, steps.length = k + 1 := ⟨steps.length - 1, by have := List.length_pos_iff.2 h; omega⟩
  have h1 : (sumK steps (k + 1) (keyT (stkAt steps (k + 1)))).isSome = true := by unfold sumK; rw [fupd_same]; rfl
  rw [sum_fir, Option.isSome_iff_exists] at h1
  obtain ⟨l, hl⟩ := h1
  exact ⟨_, l, by rw [hk]; exact hl⟩
/-- An entry, as a stack with its slice. -/
def stkOf (steps : List Step) (q : List UInt8 × (Nat × List Int)) : StkV := (rowV q.2, ⟨q.2.2, (sumK steps steps.length q.1).getD 0⟩)
/-- What the program's Stacks gives. -/
theorem stksIs_of (steps : List Step) (G : List UInt8 → Option (Nat × List Int)) (hG : ∀ key, (G key).map Prod.snd = firK steps steps.length key) (hk : ∀ key y, G key = some y → ∃ kl, keyOf Tryz.prog 106 (keyL key) = some kl) (n : Nat) (ks : List (List UInt8 × (Nat × List Int))) (h : Met keyL Tryz.prog 106 n G ks) (d : List StackC) (hp : d.Perm ((ks.map (stkOf steps)).map Prod.snd)) (hs : ∀ i j (h1 : i < j) (h2 : j < d.length), ¬ cmpL d[j].stack d[i].stack < 0) : StksIs steps d := by
  obtain ⟨h1, h2, h3, h4⟩ := h
  refine ⟨ks.map fun q => (q.1, q.2.2), ?_, fun q hq => ?_, fun key l hl => ?_, ?_, hs⟩
  · rw [List.map_map]; exact h1
  · obtain ⟨q', hq', rfl⟩ := List.mem_map.1 hq
    have := hG q'.1
    rw [h2 q' hq'] at this
    exact this.symm
  · rw [← hG key] at hl
    obtain ⟨y, hy, rfl⟩ := Option.map_eq_some_iff.1 hl
    obtain ⟨kl, hkl⟩ := hk key y hy
    exact List.mem_map.2 ⟨_, h3 key y kl hkl hy, rfl⟩
  · rw [List.map_map] at hp ⊢
    exact hp
theorem met_some (steps : List Step) (hsome : steps ≠ []) (G : List UInt8 → Option (Nat × List Int)) (hG : ∀ key, (G key).map Prod.snd = firK steps steps.length key) (hk : ∀ key y, G key = some y → ∃ kl, keyOf Tryz.prog 106 (keyL key) = some kl) (n : Nat) (ks : List (List UInt8 × (Nat × List Int))) (h : Met keyL Tryz.prog 106 n G ks) : ks ≠ [] := by
  obtain ⟨key, l, hl⟩ := fir_some steps hsome
  rw [← hG key] at hl
  obtain ⟨y, hy, -⟩ := Option.map_eq_some_iff.1 hl
  obtain ⟨kl, hkl⟩ := hk key y hy
  have := h.2.2.1 key y kl hkl hy
  intro e
  rw [e] at this
  cases this
end Go.Proofs.YtdkcjeaabbkdeaaGreatDoor
end
