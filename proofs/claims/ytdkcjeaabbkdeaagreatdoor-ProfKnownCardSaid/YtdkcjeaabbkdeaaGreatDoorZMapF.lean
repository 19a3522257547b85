/- A map of the call's own, as a function from keys to elements; a range over it meets each entry once, in whatever order. Plain laws: what Top and Diff of the reference give, and that whoever gives the like gives the same; what the law of differences says. -/
import Derived.Test.YtdkcjeaabbkdeaaGreatDoorZMapv
import Derived.Test.YtdkcjeaabbkdeaaGreatDoorZProfA
import Derived.Maps.RangeWalk
set_option linter.unusedVariables false
set_option linter.unusedSimpArgs false
set_option linter.unnecessarySimpa false
set_option linter.unusedSectionVars false
section
namespace Go.Proofs.YtdkcjeaabbkdeaaGreatDoor
open Go.RowKit Go.Maps Go.WideElems
set_option linter.unusedVariables false
set_option linter.unusedSimpArgs false

section
variable {α β : Type} [DecidableEq α] (mkK : α → Value) (mkV : β → Value)
/-- Block b is a map of at most n entries; f: what stands at a key. -/
def MapF (P : Program) (k : TypeId) (w : World) (b n : Nat) (f : α → Option β) : Prop :=
  ∃ M, MapV P k w b n M ∧ (∀ x, M (mkK x) = (f x).map mkV) ∧ ∀ key v, M key = some v → ∃ x, key = mkK x
def fupd (f : α → Option β) (x : α) (y : β) : α → Option β := fun z => if z = x then some y else f z
theorem fupd_same (f : α → Option β) (x : α) (y : β) : fupd f x y x = some y := by simp [fupd]
theorem fupd_other (f : α → Option β) {x z : α} (y : β) (h : z ≠ x) : fupd f x y z = f z := by simp [fupd, h]

variable {mkK mkV} {P : Program} {k e t : TypeId} {w : World} {b n : Nat} {f : α → Option β}
theorem mapF_made (w : World) (P : Program) (k : TypeId) : MapF mkK mkV P k (w.alloc (.map #[] 0)) w.heap.size 0 (fun _ => none) :=
  ⟨_, mapV_made w P k, fun x => rfl, fun key v h => by cases h⟩
theorem MapF.kept {w' : World} {row : Option Nat} (h : MapF mkK mkV P k w b n f) (hg : w.grownBy w' row) (hne : some b ≠ row) : MapF mkK mkV P k w' b n f := by
  obtain ⟨M, h1, h2⟩ := h; exact ⟨M, h1.kept hg hne, h2⟩
theorem MapF.of_heap {w' : World} (h : MapF mkK mkV P k w b n f) (he : w'.heap[b]? = w.heap[b]?) : MapF mkK mkV P k w' b n f := by
  obtain ⟨M, h1, h2⟩ := h; exact ⟨M, h1.of_heap he, h2⟩
theorem MapF.lt (h : MapF mkK mkV P k w b n f) : b < w.heap.size := by obtain ⟨M, h1, h2⟩ := h; exact h1.lt
theorem MapF.below {w' : World} (h : MapF mkK mkV P k w b n f) (hb : Below w.heap.size w w') : MapF mkK mkV P k w' b n f := h.of_heap (hb.block b h.lt)
theorem MapF.mono (h : MapF mkK mkV P k w b n f) {n' : Nat} (hn : n ≤ n') : MapF mkK mkV P k w b n' f := by
  obtain ⟨M, h1, h2⟩ := h; exact ⟨M, h1.mono hn, h2⟩
theorem MapF.lookup (h : MapF mkK mkV P k w b n f) (K : Keyed P k) (ht : P.underlying t = some (.map k e)) {z : Value} (hz : (zeroValue e).run P w = .ok z w) {x : α} {kl : Lit} (hkey : keyOf P k (mkK x) = some kl) :
    (Instr.lookup t (.map (some b)) (mkK x) false).run P w = .ok (((f x).map mkV).getD z) w := by
  obtain ⟨M, h1, h2, -⟩ := h
  rw [h1.lookup K ht hz hkey, h2]
theorem MapF.look_ok (h : MapF mkK mkV P k w b n f) (K : Keyed P k) (ht : P.underlying t = some (.map k e)) {z : Value} (hz : (zeroValue e).run P w = .ok z w) {x : α} {kl : Lit} (hkey : keyOf P k (mkK x) = some kl) :
    (Instr.lookup t (.map (some b)) (mkK x) true).run P w = .ok (.tuple #[((f x).map mkV).getD z, .bool (f x).isSome]) w := by
  obtain ⟨M, h1, h2, -⟩ := h
  rw [h1.look_ok K ht hz hkey, h2]
  cases f x <;> rfl
theorem MapF.update (h : MapF mkK mkV P k w b n f) (inj : ∀ x y, mkK x = mkK y → x = y) (K : Keyed P k) (ht : P.underlying t = some (.map k e)) (hn : n < maxLen) {x : α} {y : β} {kl : Lit} (hkey : keyOf P k (mkK x) = some kl) :
    ∃ w', (Instr.mapUpdate t (.map (some b)) (mkK x) (mkV y)).run P w = .ok () w' ∧ MapF mkK mkV P k w' b (n + 1) (fupd f x y) ∧ w.mapTurned w' b := by
  obtain ⟨M, h1, h2, h3⟩ := h
  obtain ⟨w', hr, ho, hm⟩ := h1.update K ht hn hkey (val := mkV y)
  refine ⟨w', hr, ⟨_, ho, fun z => ?_, fun key v hk => ?_⟩, hm⟩
  · unfold upd fupd
    by_cases hz : z = x
    · subst hz; simp
    · rw [if_neg (fun e => hz (inj _ _ e)), if_neg hz, h2]
  · unfold upd at hk
    by_cases hkk : key = mkK x
    · exact ⟨x, hkk⟩
    · rw [if_neg hkk] at hk; exact h3 key v hk

/-- Under way over the map in block b by the iterator in block r: what was met so far; how many are still to come. -/
def Under (mkK : α → Value) (mkV : β → Value) (P : Program) (k : TypeId) (w : World) (b r n : Nat) (f : α → Option β) (ks : List (α × β)) (cnt : Nat) : Prop :=
  ∃ D left, w.ranges P k heldR b r n D left cnt ∧ (∃ M : Value → Option Value, (∀ key kl, keyOf P k key = some kl → (∀ zd, D.atKey kl zd = match M key with | some v => .held v | none => zd) ∧ Maps.has D kl = (M key).isSome) ∧ (∀ x, M (mkK x) = (f x).map mkV) ∧ ∀ key v, M key = some v → ∃ x, key = mkK x) ∧
    (ks.map Prod.fst).Nodup ∧ (∀ p ∈ ks, f p.1 = some p.2 ∧ ∃ kl, keyOf P k (mkK p.1) = some kl ∧ left kl = false) ∧ (∀ x y kl, keyOf P k (mkK x) = some kl → f x = some y → left kl = false → (x, y) ∈ ks) ∧ ks.length + cnt ≤ n
/-- All entries were met, each once. -/
def Met (mkK : α → Value) (P : Program) (k : TypeId) (n : Nat) (f : α → Option β) (ks : List (α × β)) : Prop :=
  (ks.map Prod.fst).Nodup ∧ (∀ p ∈ ks, f p.1 = some p.2) ∧ (∀ x y kl, keyOf P k (mkK x) = some kl → f x = some y → (x, y) ∈ ks) ∧ ks.length ≤ n
theorem Under.kept {r cnt : Nat} {ks : List (α × β)} {w' : World} {row : Option Nat} (h : Under mkK mkV P k w b r n f ks cnt) (hg : w.grownBy w' row) (hb' : some b ≠ row) (hr' : some r ≠ row) : Under mkK mkV P k w' b r n f ks cnt := by
  obtain ⟨D, left, h1, h2⟩ := h; exact ⟨D, left, h1.kept hg hb' hr', h2⟩
theorem Under.below {r cnt : Nat} {ks : List (α × β)} {w' : World} (h : Under mkK mkV P k w b r n f ks cnt) (hb : Below w.heap.size w w') : Under mkK mkV P k w' b r n f ks cnt :=
  h.kept (row := none) ⟨hb.os, hb.tape, hb.output, hb.size, fun i hi _ => hb.block i hi⟩ (by simp) (by simp)
theorem Under.left_eq {r cnt : Nat} {ks : List (α × β)} (h : Under mkK mkV P k w b r n f ks cnt) : w.rangeLeft b r = cnt := by
  obtain ⟨D, left, h1, h2⟩ := h; exact h1.left_eq
theorem Under.lt {r cnt : Nat} {ks : List (α × β)} (h : Under mkK mkV P k w b r n f ks cnt) : r < w.heap.size := by
  obtain ⟨D, left, h1, h2⟩ := h; exact h1.lt
theorem Under.len {r cnt : Nat} {ks : List (α × β)} (h : Under mkK mkV P k w b r n f ks cnt) : ks.length ≤ n := by
  obtain ⟨D, left, h1, h2, h3, h4, h5, h6⟩ := h; omega
theorem Under.map {r cnt : Nat} {ks : List (α × β)} (h : Under mkK mkV P k w b r n f ks cnt) : MapF mkK mkV P k w b n f := by
  obtain ⟨D, left, h1, ⟨M, h2, h3, h4⟩, -⟩ := h
  exact ⟨M, ⟨D, h1.owns, h2⟩, h3, h4⟩
theorem mapF_range (h : MapF mkK mkV P k w b n f) (K : Keyed P k) (ht : P.underlying t = some (.map k e)) :
    ∃ w' cnt, (Instr.range t (.map (some b))).run P w = .ok (.pointer (some ⟨w.heap.size, 0, none⟩)) w' ∧ Under mkK mkV P k w' b w.heap.size n f [] cnt ∧ w.grownBy w' none ∧ w'.heap.size = w.heap.size + 1 := by
  obtain ⟨M, ⟨D, h1, h2⟩, h3, h4⟩ := h
  have hs : Maps.size D ≤ n := by
    obtain ⟨es, clock, hb, F, hs, hD⟩ := h1
    subst hD
    simpa [Maps.size, length_sorted] using hs
  obtain ⟨w', hr, hu, hg, hz⟩ := h1.range K ht
  refine ⟨w', _, hr, ⟨D, _, hu, ⟨M, h2, h3, h4⟩, by simp, by simp, fun x y kl hk hf hl => ?_, by simpa using hs⟩, hg, hz⟩
  rw [(h2 _ _ hk).2, h3, hf] at hl
  cases hl
theorem held_ne {v : Value} {D : DataW Value} {kl : Lit} {o : Option Value} (h1 : ∀ zd, D.atKey kl zd = .held v) (h2 : ∀ zd : DataW Value, D.atKey kl zd = match o with | some v => .held v | none => zd) : o = some v := by
  cases o with
  | none =>
    have := (h1 (.map [])).symm.trans (h2 (.map []))
    cases this
  | some u =>
    have := (h1 (.map [])).symm.trans (h2 (.map []))
    simp at this
    rw [this]
theorem under_next {r cnt : Nat} {ks : List (α × β)} (h : Under mkK mkV P k w b r n f ks cnt) (inj : ∀ x y, mkK x = mkK y → x = y) (K : Keyed P k) (ty : TypeId) :
    (Met mkK P k n f ks ∧ (Instr.next (.pointer (some ⟨r, 0, none⟩)) false ty).run P w = .ok (.tuple #[.bool false]) w) ∨
    ∃ x y kl w' cnt', keyOf P k (mkK x) = some kl ∧ f x = some y ∧ (Instr.next (.pointer (some ⟨r, 0, none⟩)) false ty).run P w = .ok (.tuple #[.bool true, mkK x, mkV y]) w' ∧
      Under mkK mkV P k w' b r n f (ks ++ [(x, y)]) cnt' ∧ cnt' < cnt ∧ w.grownBy w' (some r) ∧ w'.heap.size = w.heap.size ∧ (Instr.entry (.pointer (some ⟨r, 0, none⟩))).run P w' = .ok (.tuple #[mkK x, mkV y]) w' := by
  obtain ⟨D, left, h1, ⟨M, h2, h3, h4⟩, hnd, hin, hall, hn⟩ := h
  rcases h1.next K ty with ⟨h0, hl, hrun⟩ | ⟨key, v, kl, y, w', cnt', hkey, hlk, hv, hat, hrun, hrg, hlt, hgr, hsz, hen⟩
  · exact .inl ⟨⟨hnd, fun p hp => (hin p hp).1, fun x y kl hk hf => hall x y kl hk hf (hl kl), by omega⟩, hrun⟩
  · have hy : y = (.held v, []) := by simp [heldR] at hv; exact hv.symm
    subst hy
    have hM : M key = some v := held_ne hat (h2 key kl hkey).1
    obtain ⟨x, rfl⟩ := h4 key v hM
    obtain ⟨y, hf, rfl⟩ : ∃ y, f x = some y ∧ v = mkV y := by
      rw [h3] at hM
      cases hfx : f x with
      | none => rw [hfx] at hM; cases hM
      | some y => rw [hfx] at hM; cases hM; exact ⟨y, rfl, rfl⟩
    have hnew : x ∉ ks.map Prod.fst := by
      intro hx
      obtain ⟨p, hp, rfl⟩ := List.mem_map.1 hx
      obtain ⟨-, kl', hk', hl'⟩ := hin p hp
      rw [hkey] at hk'
      cases hk'
      rw [hlk] at hl'
      cases hl'
    refine .inr ⟨x, y, kl, w', cnt', hkey, hf, hrun, ⟨D, _, hrg, ⟨M, h2, h3, h4⟩, ?_, fun p hp => ?_, fun x' y' kl' hk' hf' hl' => ?_, by simp; omega⟩, hlt, hgr, hsz, hen⟩
    · rw [List.map_append]
      exact List.nodup_append.2 ⟨hnd, by simp, fun a ha b hb e => by simp at hb; subst hb; exact hnew (e ▸ ha)⟩
    · rcases List.mem_append.1 hp with hp | hp
      · obtain ⟨a, kl', hk', hl'⟩ := hin p hp
        exact ⟨a, kl', hk', by rw [hl']; rfl⟩
      · simp at hp
        subst hp
        exact ⟨hf, kl, hkey, by rw [WideAt.sameKey_self (K.key hkey)]; simp⟩
    · cases hs : kl'.sameKey kl
      · rw [hs] at hl'
        simp at hl'
        exact List.mem_append_left _ (hall x' y' kl' hk' hf' hl')
      · have hkk := WideAt.sameKey_eq hs
        subst hkk
        have := inj _ _ (K.inj hk' hkey)
        subst this
        rw [hf] at hf'
        cases hf'
        simp

/-- 'range m', for the walk. -/
theorem wpList_range_mapF {ops : Array Oper} {rest : List Oper} {o : Oper} {a : Act} {Q : Exit → Act → World → Prop} (w : World) (hg : o.guard = none) (m : Operand) (t : TypeId) (hop : o.op = Op.range t m) (k e : TypeId) (K : Keyed P k) (ht : P.underlying t = some (.map k e)) (b n : Nat) (f : α → Option β)
    (hm : a.eval m = .map (some b)) (hown : MapF mkK mkV P k w b n f)
    (hK : ∀ w' cnt, Under mkK mkV P k w' b w.heap.size n f [] cnt → w.grownBy w' none → w'.heap.size = w.heap.size + 1 → wpList P ops Q rest (a.put o.dst (.pointer (some ⟨w.heap.size, 0, none⟩))) w') :
    wpList P ops Q (o :: rest) a w := by
  refine wpList_plain hg fun K' hK' => ?_
  obtain ⟨w', cnt, hrun, r1, r2, r3⟩ := mapF_range hown K ht
  unfold Oper.wp
  simp [execOp, hop, hm, hrun, Result.andThen]
  exact hK' _ _ (hK w' cnt r1 r2 r3)
/-- The step of such a range, for the walk. -/
theorem wpList_next_mapF {ops : Array Oper} {rest : List Oper} {o : Oper} {a : Act} {Q : Exit → Act → World → Prop} (w : World) (hg : o.guard = none) (it : Operand) (hop : o.op = Op.next it false) (k : TypeId) (K : Keyed P k) (inj : ∀ x y, mkK x = mkK y → x = y)
    (b r n : Nat) (f : α → Option β) (ks : List (α × β)) (cnt : Nat) (hit : a.eval it = .pointer (some ⟨r, 0, none⟩)) (h : Under mkK mkV P k w b r n f ks cnt)
    (hDone : Met mkK P k n f ks → wpList P ops Q rest (a.put o.dst (.tuple #[.bool false])) w)
    (hMore : ∀ (x : α) (y : β) (kl : Lit) (w' : World) (cnt' : Nat), keyOf P k (mkK x) = some kl → f x = some y → Under mkK mkV P k w' b r n f (ks ++ [(x, y)]) cnt' → cnt' < cnt →
      w.grownBy w' (some r) → w'.heap.size = w.heap.size → (Instr.entry (.pointer (some ⟨r, 0, none⟩))).run P w' = .ok (.tuple #[mkK x, mkV y]) w' → wpList P ops Q rest (a.put o.dst (.tuple #[.bool true, mkK x, mkV y])) w') :
    wpList P ops Q (o :: rest) a w := by
  refine wpList_plain hg fun K' hK' => ?_
  unfold Oper.wp
  rcases under_next h inj K o.type with ⟨h0, hrun⟩ | ⟨x, y, kl, w', cnt', hkey, hf, hrun, hu, hlt, hgr, hsz, hen⟩
  · simp [execOp, hop, hit, hrun, Result.andThen]
    exact hK' _ _ (hDone h0)
  · simp [execOp, hop, hit, hrun, Result.andThen]
    exact hK' _ _ (hMore x y kl w' cnt' hkey hf hu hlt hgr hsz hen)
end
end Go.Proofs.YtdkcjeaabbkdeaaGreatDoor
end
section
namespace Go.Proofs.YtdkcjeaabbkdeaaGreatDoor
open Go.RowKit
/-- Strictly rising by node. -/
def Asc (l : List NodeC) : Prop := l.Pairwise fun x y => x.node < y.node
/-- All entries are numbers of 64 bits. -/
def Fits (l : List NodeC) : Prop := ∀ x ∈ l, x.node ≤ 9223372036854775807 ∧ x.count ≤ 9223372036854775807 ∧ x.work ≤ 9223372036854775807 ∧ x.cycles ≤ 9223372036854775807
theorem rightAt_of {l : List NodeC} (h : rightB l = true) (i : Nat) (hi : i < l.length) : -1 ≤ l[i].node ∧ 0 ≤ l[i].count ∧ 0 ≤ l[i].work ∧ 0 ≤ l[i].cycles ∧ ∀ h0 : 0 < i, (l[i - 1]'(by omega)).node < l[i].node := by
  unfold rightB at h
  rw [List.all_eq_true] at h
  have := h i (List.mem_range.2 hi)
  unfold rightAt rightC at this
  rw [List.getD_eq_getElem?_getD, List.getElem?_eq_getElem hi] at this
  simp at this
  refine ⟨this.1.1, this.2.1, this.2.2.1, this.2.2.2, fun h0 => ?_⟩
  rcases this.1.2 with h1 | h1
  · omega
  · rw [List.getElem?_eq_getElem (by omega)] at h1
    simpa using h1
theorem rightB_asc {l : List NodeC} (h : rightB l = true) : Asc l := by
  have step : ∀ d i (hi : i + d + 1 < l.length), l[i].node < l[i + d + 1].node := by
    intro d
    induction d with
    | zero => intro i hi; exact (rightAt_of h (i + 1) hi).2.2.2.2 (by omega)
    | succ d ih =>
      intro i hi
      have a := ih i (by omega)
      have b := (rightAt_of h (i + d + 1 + 1) hi).2.2.2.2 (by omega)
      simp only [Nat.add_sub_cancel] at b
      exact Int.lt_trans a b
  unfold Asc
  rw [List.pairwise_iff_getElem]
  intro i j hi hj hij
  have := step (j - i - 1) i (by omega)
  have e : i + (j - i - 1) + 1 = j := by omega
  simpa only [e] using this
theorem asc_inj {l : List NodeC} (h : Asc l) {x y : NodeC} (hx : x ∈ l) (hy : y ∈ l) (e : x.node = y.node) : x = y := by
  obtain ⟨i, hi, rfl⟩ := List.getElem_of_mem hx
  obtain ⟨j, hj, rfl⟩ := List.getElem_of_mem hy
  unfold Asc at h
  rw [List.pairwise_iff_getElem] at h
  rcases Nat.lt_trichotomy i j with hij | hij | hij
  · have := h i j hi hj hij; omega
  · subst hij; rfl
  · have := h j i hj hi hij; omega
theorem ofN_mem {l : List NodeC} (h : Asc l) {x : NodeC} (hx : x ∈ l) : ofN l x.node = x := by
  unfold ofN
  cases hf : l.find? (fun y => y.node == x.node) with
  | none => have := List.find?_eq_none.1 hf x hx; simp at this
  | some y =>
    have h1 := List.mem_of_find?_eq_some hf
    have h2 := List.find?_some hf
    simp at h2
    exact asc_inj h h1 hx h2
theorem ofN_none {l : List NodeC} {n : Int} (h : ∀ x ∈ l, x.node ≠ n) : ofN l n = ⟨n, 0, 0, 0⟩ := by
  unfold ofN
  have : l.find? (fun x => x.node == n) = none := by
    rw [List.find?_eq_none]; intro x hx; simp [h x hx]
  rw [this]; rfl
theorem ofN_node (l : List NodeC) (n : Int) : (ofN l n).node = n := by
  unfold ofN
  cases hf : l.find? (fun y => y.node == n) with
  | none => rfl
  | some y => have := List.find?_some hf; simpa using this
theorem ofN_cases (l : List NodeC) (n : Int) : (ofN l n ∈ l ∨ ofN l n = ⟨n, 0, 0, 0⟩) := by
  unfold ofN
  cases hf : l.find? (fun y => y.node == n) with
  | none => right; rfl
  | some y => left; exact List.mem_of_find?_eq_some hf

/-- What stands at the nodes behind the loop over m. -/
def putM (m : List NodeC) : Int → Option NodeC := m.foldl (fun f y => fupd f y.node y) (fun _ => none)
def cut (c x : NodeC) : NodeC := ⟨x.node, wrap64 (c.count - x.count), wrap64 (c.work - x.work), wrap64 (c.cycles - x.cycles)⟩
def zeroN : NodeC := ⟨0, 0, 0, 0⟩
def stepL (f : Int → Option NodeC) (x : NodeC) : Int → Option NodeC := fupd f x.node (cut ((f x.node).getD zeroN) x)
/-- What stands at the nodes behind the loop over l. -/
def putL (l m : List NodeC) : Int → Option NodeC := l.foldl stepL (putM m)
theorem putM_snoc (m : List NodeC) (y : NodeC) : putM (m ++ [y]) = fupd (putM m) y.node y := by simp [putM]
theorem putM_get (m : List NodeC) (h : Asc m) : (∀ y ∈ m, putM m y.node = some y) ∧ ∀ n, (∀ y ∈ m, y.node ≠ n) → putM m n = none := by
  have key : ∀ (l : List NodeC) (f : Int → Option NodeC), Asc l → (∀ y ∈ l, (l.foldl (fun f y => fupd f y.node y) f) y.node = some y) ∧ ∀ n, (∀ y ∈ l, y.node ≠ n) → (l.foldl (fun f y => fupd f y.node y) f) n = f n := by
    intro l
    induction l with
    | nil => intro f _; simp
    | cons a l ih =>
      intro f hl
      obtain ⟨h1, h2⟩ := List.pairwise_cons.1 hl
      obtain ⟨i1, i2⟩ := ih (fupd f a.node a) h2
      refine ⟨fun y hy => ?_, fun n hn => ?_⟩
      · rcases List.mem_cons.1 hy with rfl | hy
        · rw [List.foldl_cons, i2 y.node (fun z hz => by have := h1 z hz; omega)]; simp [fupd]
        · exact i1 y hy
      · rw [List.foldl_cons, i2 n (fun z hz => hn z (List.mem_cons_of_mem _ hz))]
        have := hn a (by simp)
        simp [fupd]; intro e; exact absurd e.symm this
  exact key m _ h
theorem putL_get (l m : List NodeC) (hl : Asc l) : (∀ x ∈ l, putL l m x.node = some (cut ((putM m x.node).getD zeroN) x)) ∧ ∀ n, (∀ x ∈ l, x.node ≠ n) → putL l m n = putM m n := by
  have key : ∀ (l : List NodeC) (f : Int → Option NodeC), Asc l → (∀ x ∈ l, (l.foldl stepL f) x.node = some (cut ((f x.node).getD zeroN) x)) ∧ ∀ n, (∀ y ∈ l, y.node ≠ n) → (l.foldl stepL f) n = f n := by
    intro l
    induction l with
    | nil => intro f _; simp
    | cons a l ih =>
      intro f hl
      obtain ⟨h1, h2⟩ := List.pairwise_cons.1 hl
      obtain ⟨i1, i2⟩ := ih (stepL f a) h2
      refine ⟨fun y hy => ?_, fun n hn => ?_⟩
      · rcases List.mem_cons.1 hy with rfl | hy
        · rw [List.foldl_cons, i2 y.node (fun z hz => by have := h1 z hz; omega)]; simp [stepL, fupd]
        · rw [List.foldl_cons, i1 y hy]
          have hne : y.node ≠ a.node := by have := h1 y hy; omega
          simp [stepL, fupd, hne]
      · rw [List.foldl_cons, i2 n (fun z hz => hn z (List.mem_cons_of_mem _ hz))]
        have := hn a (by simp)
        simp [stepL, fupd]; intro e; exact absurd e.symm this
  exact key l _ hl
/-- What one has more than another one. -/
def moreN (x y : NodeC) : NodeC := ⟨x.node, y.count - x.count, y.work - x.work, y.cycles - x.cycles⟩
theorem w64 {a b : Int} (ha : 0 ≤ a) (hb : 0 ≤ b) (ha2 : a ≤ 9223372036854775807) (hb2 : b ≤ 9223372036854775807) : wrap64 (a - b) = a - b := by unfold wrap64; omega
/-- What stands at a node in the end. -/
theorem putL_is (l m : List NodeC) (hl : rightB l = true) (hm : rightB m = true) (fl : Fits l) (fm : Fits m) (n : Int) :
    (putL l m n = none ∧ nonzero (moreN (ofN l n) (ofN m n)) = false) ∨ putL l m n = some (moreN (ofN l n) (ofN m n)) := by
  have al := rightB_asc hl
  have am := rightB_asc hm
  have posm : ∀ y ∈ m, 0 ≤ y.count ∧ 0 ≤ y.work ∧ 0 ≤ y.cycles := fun y hy => by
    obtain ⟨i, hi, rfl⟩ := List.getElem_of_mem hy
    have := rightAt_of hm i hi; exact ⟨this.2.1, this.2.2.1, this.2.2.2.1⟩
  have posl : ∀ y ∈ l, 0 ≤ y.count ∧ 0 ≤ y.work ∧ 0 ≤ y.cycles := fun y hy => by
    obtain ⟨i, hi, rfl⟩ := List.getElem_of_mem hy
    have := rightAt_of hl i hi; exact ⟨this.2.1, this.2.2.1, this.2.2.2.1⟩
  obtain ⟨g1, g2⟩ := putL_get l m al
  obtain ⟨p1, p2⟩ := putM_get m am
  by_cases hxl : ∃ x ∈ l, x.node = n
  · obtain ⟨x, hx, rfl⟩ := hxl
    right
    rw [g1 x hx, ofN_mem al hx]
    have fx := fl x hx
    have px := posl x hx
    by_cases hym : ∃ y ∈ m, y.node = x.node
    · obtain ⟨y, hy, e⟩ := hym
      have fy := fm y hy
      have py := posm y hy
      rw [← e, p1 y hy, ofN_mem am hy]
      simp only [cut, moreN, Option.getD_some]
      rw [w64 py.1 px.1 fy.2.1 fx.2.1, w64 py.2.1 px.2.1 fy.2.2.1 fx.2.2.1, w64 py.2.2 px.2.2 fy.2.2.2 fx.2.2.2]
    · have hn : ∀ y ∈ m, y.node ≠ x.node := fun y hy e => hym ⟨y, hy, e⟩
      rw [p2 _ hn, ofN_none hn]
      simp only [cut, moreN, Option.getD_none, zeroN]
      rw [w64 (by omega) px.1 (by omega) fx.2.1, w64 (by omega) px.2.1 (by omega) fx.2.2.1, w64 (by omega) px.2.2 (by omega) fx.2.2.2]
  · have hn : ∀ x ∈ l, x.node ≠ n := fun x hx e => hxl ⟨x, hx, e⟩
    rw [g2 n hn, ofN_none hn]
    by_cases hym : ∃ y ∈ m, y.node = n
    · obtain ⟨y, hy, rfl⟩ := hym
      right
      rw [p1 y hy, ofN_mem am hy]
      simp [moreN]
    · have hn' : ∀ y ∈ m, y.node ≠ n := fun y hy e => hym ⟨y, hy, e⟩
      left
      rw [p2 n hn', ofN_none hn']
      exact ⟨rfl, rfl⟩
/-- Two lists that rise and have the same members are the same. -/
theorem asc_ext {d d' : List NodeC} (h : Asc d) (h' : Asc d') (e : ∀ x, x ∈ d ↔ x ∈ d') : d = d' := by
  have nd : ∀ {l : List NodeC}, Asc l → l.Nodup := fun hl => hl.imp fun hxy e => by rw [e] at hxy; omega
  refine List.Perm.eq_of_pairwise (le := fun x y : NodeC => x.node < y.node) (fun a b _ _ h1 h2 => by omega) h h' ?_
  exact (List.perm_ext_iff_of_nodup (nd h) (nd h')).2 e
/-- What is different between two lists. -/
def DiffL (l m d : List NodeC) : Prop := Asc d ∧ ∀ x, x ∈ d ↔ (nonzero x = true ∧ x = moreN (ofN l x.node) (ofN m x.node))
theorem diffL_unique {l m d d' : List NodeC} (h : DiffL l m d) (h' : DiffL l m d') : d = d' := asc_ext h.1 h'.1 fun x => (h.2 x).trans (h'.2 x).symm
/-! What the reference does. -/
def plusN (y x : NodeC) : NodeC := ⟨y.node, wrap64 (y.count + x.count), wrap64 (y.work + x.work), wrap64 (y.cycles + x.cycles)⟩
def addStep (x : NodeC) (s : List NodeC × Bool) (y : NodeC) : List NodeC × Bool :=
  let s1 := if s.2 = false ∧ x.node < y.node then (s.1 ++ [x], true) else s
  if x.node = y.node then (s1.1 ++ [plusN y x], true) else (s1.1 ++ [y], s1.2)
def addedL (l : List NodeC) (x : NodeC) : List NodeC := let s := l.foldl (addStep x) ([], false); if s.2 = true then s.1 else s.1 ++ [x]
def addR (x : NodeC) : List NodeC → List NodeC
  | [] => [x]
  | y :: l => if x.node < y.node then x :: y :: l else if x.node = y.node then plusN y x :: l else y :: addR x l
theorem addStep_true (x : NodeC) : ∀ (l o : List NodeC), (∀ y ∈ l, x.node < y.node) → l.foldl (addStep x) (o, true) = (o ++ l, true) := by
  intro l
  induction l with
  | nil => intro o _; simp
  | cons a l ih =>
    intro o h
    have ha := h a (by simp)
    have hne : x.node ≠ a.node := by omega
    rw [List.foldl_cons]
    have : addStep x (o, true) a = (o ++ [a], true) := by simp [addStep, hne]
    rw [this, ih _ (fun y hy => h y (List.mem_cons_of_mem _ hy))]
    simp
theorem added_is (x : NodeC) : ∀ (l o : List NodeC), Asc l → (if (l.foldl (addStep x) (o, false)).2 = true then (l.foldl (addStep x) (o, false)).1 else (l.foldl (addStep x) (o, false)).1 ++ [x]) = o ++ addR x l := by
  intro l
  induction l with
  | nil => intro o _; simp [addR]
  | cons a l ih =>
    intro o h
    obtain ⟨h1, h2⟩ := List.pairwise_cons.1 h
    rw [List.foldl_cons]
    by_cases hlt : x.node < a.node
    · have hne : x.node ≠ a.node := by omega
      have : addStep x (o, false) a = (o ++ [x] ++ [a], true) := by simp [addStep, hlt, hne]
      rw [this, addStep_true x l _ (fun y hy => by have := h1 y hy; omega)]
      simp [addR, hlt]
    · by_cases he : x.node = a.node
      · have : addStep x (o, false) a = (o ++ [plusN a x], true) := by simp [addStep, he]
        rw [this, addStep_true x l _ (fun y hy => by have := h1 y hy; omega)]
        simp [addR, he]
      · have : addStep x (o, false) a = (o ++ [a], false) := by simp [addStep, hlt, he]
        rw [this, ih _ h2]
        simp [addR, hlt, he]
theorem addedL_is {l : List NodeC} (h : Asc l) (x : NodeC) : addedL l x = addR x l := by
  have := added_is x l [] h
  simpa [addedL] using this
theorem addR_mem (x : NodeC) : ∀ (l : List NodeC) (z : NodeC), z ∈ addR x l → z.node = x.node ∨ z ∈ l := by
  intro l
  induction l with
  | nil => intro z hz; simp [addR] at hz; left; rw [hz]
  | cons a l ih =>
    intro z hz
    unfold addR at hz
    split at hz
    · rcases List.mem_cons.1 hz with rfl | hz
      · left; rfl
      · right; exact hz
    · split at hz
      · rename_i he
        rcases List.mem_cons.1 hz with rfl | hz
        · left; simp [plusN, he]
        · right; exact List.mem_cons_of_mem _ hz
      · rcases List.mem_cons.1 hz with rfl | hz
        · right; simp
        · rcases ih z hz with h | h
          · left; exact h
          · right; exact List.mem_cons_of_mem _ h
theorem addR_asc (x : NodeC) : ∀ l : List NodeC, Asc l → Asc (addR x l) := by
  intro l
  induction l with
  | nil => intro _; simp [addR, Asc]
  | cons a l ih =>
    intro h
    obtain ⟨h1, h2⟩ := List.pairwise_cons.1 h
    unfold addR
    split
    · rename_i hlt
      refine List.pairwise_cons.2 ⟨fun y hy => ?_, h⟩
      rcases List.mem_cons.1 hy with rfl | hy
      · exact hlt
      · have := h1 y hy; omega
    · split
      · rename_i he
        exact List.pairwise_cons.2 ⟨fun y hy => by have := h1 y hy; simpa [plusN] using this, h2⟩
      · rename_i hlt he
        refine List.pairwise_cons.2 ⟨fun y hy => ?_, ih h2⟩
        rcases addR_mem x l y hy with e | hy
        · rw [e]; omega
        · exact h1 y hy
theorem ofN_cons (a : NodeC) (l : List NodeC) (n : Int) : ofN (a :: l) n = if a.node = n then a else ofN l n := by
  unfold ofN
  by_cases h : a.node = n <;> simp [h]
theorem addR_of (x : NodeC) (hx : plusN ⟨x.node, 0, 0, 0⟩ x = x) : ∀ (l : List NodeC), Asc l → ∀ n, ofN (addR x l) n = if n = x.node then plusN (ofN l n) x else ofN l n := by
  intro l
  induction l with
  | nil =>
    intro _ n
    simp only [addR, ofN_cons]
    by_cases h : x.node = n
    · subst h; simp [ofN]; exact hx.symm
    · rw [if_neg h, if_neg (fun e => h e.symm)]
  | cons a l ih =>
    intro h n
    obtain ⟨h1, h2⟩ := List.pairwise_cons.1 h
    unfold addR
    split
    · rename_i hlt
      rw [ofN_cons]
      by_cases hn : x.node = n
      · subst hn
        have : ofN (a :: l) x.node = ⟨x.node, 0, 0, 0⟩ := ofN_none fun y hy => by
          rcases List.mem_cons.1 hy with rfl | hy
          · omega
          · have := h1 y hy; omega
        rw [if_pos rfl, if_pos rfl, this, hx]
      · rw [if_neg hn, if_neg (fun e => hn e.symm)]
    · split
      · rename_i he
        rw [ofN_cons, ofN_cons]
        have e2 : (plusN a x).node = a.node := rfl
        rw [e2]
        by_cases hn : a.node = n
        · rw [if_pos hn, if_pos (by omega), if_pos hn]
        · rw [if_neg hn, if_neg (by omega), if_neg hn]
      · rename_i hlt he
        rw [ofN_cons, ofN_cons, ih h2]
        by_cases hn : a.node = n
        · rw [if_pos hn, if_neg (by omega), if_pos hn]
        · rw [if_neg hn, if_neg hn]
def negN (x : NodeC) : NodeC := ⟨x.node, wrap64 (-x.count), wrap64 (-x.work), wrap64 (-x.cycles)⟩
/-- What the reference's Diff gives. -/
def refAll (l m : List NodeC) : List NodeC := l.foldl (fun a x => addedL a (negN x)) m
def refDiff (l m : List NodeC) : List NodeC := (refAll l m).filter nonzero
theorem refAll_is (l m : List NodeC) (hl : Asc l) (hm : Asc m) (fl : Fits l) (fm : Fits m) (pl : ∀ x ∈ l, 0 ≤ x.count ∧ 0 ≤ x.work ∧ 0 ≤ x.cycles) (pm : ∀ x ∈ m, 0 ≤ x.count ∧ 0 ≤ x.work ∧ 0 ≤ x.cycles) :
    Asc (refAll l m) ∧ ∀ n, ofN (refAll l m) n = moreN (ofN l n) (ofN m n) := by
  have key : ∀ (l a : List NodeC), Asc l → Asc a → Fits l → (∀ x ∈ l, 0 ≤ x.count ∧ 0 ≤ x.work ∧ 0 ≤ x.cycles) → (∀ x ∈ l, 0 ≤ (ofN a x.node).count ∧ (ofN a x.node).count ≤ 9223372036854775807 ∧ 0 ≤ (ofN a x.node).work ∧ (ofN a x.node).work ≤ 9223372036854775807 ∧ 0 ≤ (ofN a x.node).cycles ∧ (ofN a x.node).cycles ≤ 9223372036854775807) →
      Asc (l.foldl (fun a x => addedL a (negN x)) a) ∧ ∀ n, ofN (l.foldl (fun a x => addedL a (negN x)) a) n = moreN (ofN l n) (ofN a n) := by
    intro l
    induction l with
    | nil =>
      intro a _ ha _ _ _
      refine ⟨ha, fun n => ?_⟩
      have e := ofN_node a n
      simp only [List.foldl_nil]
      generalize ofN a n = z at *
      cases z
      simp [moreN, ofN] at e ⊢
      exact e
    | cons x l ih =>
      intro a hl ha fl pl bd
      obtain ⟨h1, h2⟩ := List.pairwise_cons.1 hl
      have fx := fl x (by simp)
      have px := pl x (by simp)
      have bx := bd x (by simp)
      have n1 : wrap64 (-x.count) = -x.count := by unfold wrap64; omega
      have n2 : wrap64 (-x.work) = -x.work := by unfold wrap64; omega
      have n3 : wrap64 (-x.cycles) = -x.cycles := by unfold wrap64; omega
      have hneg : negN x = ⟨x.node, -x.count, -x.work, -x.cycles⟩ := by unfold negN; rw [n1, n2, n3]
      have hp : plusN ⟨(negN x).node, 0, 0, 0⟩ (negN x) = negN x := by
        rw [hneg]; simp [plusN, n1, n2, n3]
      have hof := addR_of (negN x) hp a ha
      rw [List.foldl_cons]
      rw [addedL_is ha]
      obtain ⟨r1, r2⟩ := ih (addR (negN x) a) h2 (addR_asc _ _ ha) (fun y hy => fl y (List.mem_cons_of_mem _ hy)) (fun y hy => pl y (List.mem_cons_of_mem _ hy)) (fun y hy => by
        have := h1 y hy
        rw [hof, if_neg (by show y.node ≠ x.node; omega)]
        exact bd y (List.mem_cons_of_mem _ hy))
      refine ⟨r1, fun n => ?_⟩
      rw [r2, hof, ofN_cons]
      have e : (negN x).node = x.node := rfl
      rw [e]
      by_cases hn : x.node = n
      · subst hn
        have hz : ofN l x.node = ⟨x.node, 0, 0, 0⟩ := ofN_none fun y hy => by have := h1 y hy; omega
        rw [if_pos rfl, if_pos rfl, hz, hneg]
        have hnode := ofN_node a x.node
        generalize ofN a x.node = z at *
        simp only [moreN, plusN]
        simp only [NodeC.mk.injEq, true_and]
        unfold wrap64
        omega
      · rw [if_neg (fun e => hn e.symm), if_neg hn]
  refine key l m hl hm fl pl fun x hx => ?_
  rcases ofN_cases m x.node with h | h
  · have := fm _ h
    have := pm _ h
    omega
  · rw [h]; simp
theorem right_pos {l : List NodeC} (h : rightB l = true) : ∀ x ∈ l, 0 ≤ x.count ∧ 0 ≤ x.work ∧ 0 ≤ x.cycles := fun y hy => by
  obtain ⟨i, hi, rfl⟩ := List.getElem_of_mem hy
  have := rightAt_of h i hi; exact ⟨this.2.1, this.2.2.1, this.2.2.2.1⟩
theorem refDiff_is (l m : List NodeC) (hl : rightB l = true) (hm : rightB m = true) (fl : Fits l) (fm : Fits m) : DiffL l m (refDiff l m) := by
  obtain ⟨h1, h2⟩ := refAll_is l m (rightB_asc hl) (rightB_asc hm) fl fm (right_pos hl) (right_pos hm)
  refine ⟨h1.sublist List.filter_sublist, fun x => ?_⟩
  unfold refDiff
  rw [List.mem_filter, ← h2]
  constructor
  · rintro ⟨a, b⟩; exact ⟨b, (ofN_mem h1 a).symm⟩
  · rintro ⟨a, b⟩
    refine ⟨?_, a⟩
    rcases ofN_cases (refAll l m) x.node with h | h
    · rwa [← b] at h
    · rw [h] at b; rw [b] at a; simp [nonzero] at a
/-- What the program's Diff gives. -/
theorem progDiff_is (l m : List NodeC) (hl : rightB l = true) (hm : rightB m = true) (fl : Fits l) (fm : Fits m) (ks : List (Int × NodeC)) (h1 : (ks.map Prod.fst).Nodup) (h2 : ∀ p ∈ ks, putL l m p.1 = some p.2) (h3 : ∀ x y, putL l m x = some y → (x, y) ∈ ks)
    (d : List NodeC) (hp : d.Perm ((ks.map Prod.snd).filter nonzero)) (hs : ∀ i j (h1 : i < j) (h2 : j < d.length), ¬ d[j].node < d[i].node) : DiffL l m d := by
  have hof := putL_is l m hl hm fl fm
  have hnode : ∀ n y, putL l m n = some y → y.node = n := fun n y h => by
    rcases hof n with ⟨e, -⟩ | e
    · rw [e] at h; cases h
    · rw [e] at h; cases h; exact ofN_node l n
  have hnd : ((ks.map Prod.snd).map NodeC.node).Nodup := by
    have : (ks.map Prod.snd).map NodeC.node = ks.map Prod.fst := by
      rw [List.map_map]
      refine List.map_congr_left fun p hpk => ?_
      exact hnode p.1 p.2 (h2 p hpk)
    rw [this]; exact h1
  have hdn : (d.map NodeC.node).Nodup := (hp.map NodeC.node).nodup_iff.2 (hnd.sublist (List.filter_sublist.map _))
  refine ⟨?_, fun x => ?_⟩
  · unfold Asc
    rw [List.pairwise_iff_getElem]
    intro i j hi hj hij
    have := hs i j hij hj
    have hne : d[i].node ≠ d[j].node := fun e => by
      unfold List.Nodup at hdn
      rw [List.pairwise_iff_getElem] at hdn
      have := hdn i j (by simpa using hi) (by simpa using hj) hij
      simp at this
      exact this e
    omega
  · rw [hp.mem_iff, List.mem_filter]
    constructor
    · rintro ⟨a, b⟩
      obtain ⟨p, hpk, rfl⟩ := List.mem_map.1 a
      have e := h2 p hpk
      have en := hnode _ _ e
      rcases hof p.1 with ⟨e', -⟩ | e'
      · rw [e'] at e; cases e
      · rw [e'] at e
        refine ⟨b, ?_⟩
        rw [en]
        exact (Option.some.inj e).symm
    · rintro ⟨a, b⟩
      refine ⟨?_, a⟩
      rcases hof x.node with ⟨-, e'⟩ | e'
      · rw [← b, a] at e'; cases e'
      · rw [← b] at e'
        exact List.mem_map.2 ⟨_, h3 _ _ e', rfl⟩
/-- The greater work first; of several the lesser node. -/
def AheadW (a b : NodeC) : Prop := b.work < a.work ∨ (a.work = b.work ∧ a.node < b.node)
def insW (out : List NodeC) (x : NodeC) : List NodeC := out.takeWhile (fun y => decide (x.work ≤ y.work)) ++ x :: out.dropWhile (fun y => decide (x.work ≤ y.work))
/-- What the reference's Top puts in order. -/
def refTopAll (l : List NodeC) : List NodeC := l.foldl insW []
theorem insW_perm (out : List NodeC) (x : NodeC) : (insW out x).Perm (out ++ [x]) := by
  unfold insW
  have h := List.takeWhile_append_dropWhile (p := fun y : NodeC => decide (x.work ≤ y.work)) (l := out)
  generalize out.takeWhile (fun y => decide (x.work ≤ y.work)) = a at *
  generalize out.dropWhile (fun y => decide (x.work ≤ y.work)) = b at *
  subst h
  rw [List.append_assoc]
  exact List.Perm.append_left _ (List.perm_append_singleton _ _).symm
theorem insW_sorted (out : List NodeC) (x : NodeC) (h : out.Pairwise AheadW) (hx : ∀ y ∈ out, y.node < x.node) : (insW out x).Pairwise AheadW := by
  induction out with
  | nil => simp [insW]
  | cons a l ih =>
    obtain ⟨h1, h2⟩ := List.pairwise_cons.1 h
    have ih := ih h2 (fun y hy => hx y (List.mem_cons_of_mem _ hy))
    by_cases hw : x.work ≤ a.work
    · have e : insW (a :: l) x = a :: insW l x := by simp [insW, hw]
      rw [e]
      refine List.pairwise_cons.2 ⟨fun y hy => ?_, ih⟩
      rcases List.mem_append.1 ((insW_perm l x).mem_iff.1 hy) with hy | hy
      · exact h1 y hy
      · simp at hy; subst hy
        have := hx a (by simp)
        unfold AheadW; omega
    · have e : insW (a :: l) x = x :: a :: l := by simp [insW, hw]
      rw [e]
      refine List.pairwise_cons.2 ⟨fun y hy => ?_, h⟩
      rcases List.mem_cons.1 hy with rfl | hy
      · left; omega
      · have := h1 y hy
        unfold AheadW at this ⊢; omega
theorem refTop_is (l : List NodeC) (h : Asc l) : (refTopAll l).Perm l ∧ (refTopAll l).Pairwise AheadW := by
  have key : ∀ (l out : List NodeC), Asc l → out.Pairwise AheadW → (∀ y ∈ out, ∀ x ∈ l, y.node < x.node) → (l.foldl insW out).Perm (out ++ l) ∧ (l.foldl insW out).Pairwise AheadW := by
    intro l
    induction l with
    | nil => intro out _ ho _; exact ⟨by simp, ho⟩
    | cons a l ih =>
      intro out hl ho hlt
      obtain ⟨h1, h2⟩ := List.pairwise_cons.1 hl
      obtain ⟨p1, p2⟩ := ih (insW out a) h2 (insW_sorted out a ho fun y hy => hlt y hy a (by simp)) (fun y hy x hx => by
        rcases List.mem_append.1 ((insW_perm out a).mem_iff.1 hy) with hy | hy
        · exact hlt y hy x (List.mem_cons_of_mem _ hx)
        · simp at hy; subst hy; exact h1 x hx)
      refine ⟨?_, p2⟩
      rw [List.foldl_cons]
      refine p1.trans (((insW_perm out a).append_right l).trans ?_)
      rw [List.append_assoc]; rfl
  exact key l [] h List.Pairwise.nil (by simp)
theorem top_unique (l m : List NodeC) (h : Asc l) (hp : m.Perm l) (hs : ∀ i j (h1 : i < j) (h2 : j < m.length), ¬ (m[i].work < m[j].work ∨ (m[j].work = m[i].work ∧ m[j].node < m[i].node))) : m = refTopAll l := by
  obtain ⟨r1, r2⟩ := refTop_is l h
  have hm : m.Pairwise AheadW := by
    rw [List.pairwise_iff_getElem]
    intro i j hi hj hij
    have := hs i j hij hj
    have hne : m[i].node ≠ m[j].node := fun e => by
      have ha := asc_inj h (hp.mem_iff.1 (List.getElem_mem hi)) (hp.mem_iff.1 (List.getElem_mem hj)) e
      have nd : m.Nodup := hp.nodup_iff.2 (h.imp fun hxy e => by rw [e] at hxy; omega)
      unfold List.Nodup at nd
      rw [List.pairwise_iff_getElem] at nd
      exact nd i j hi hj hij ha
    unfold AheadW; omega
  exact List.Perm.eq_of_pairwise (le := AheadW) (fun a b _ _ h1 h2 => by unfold AheadW at h1 h2; omega) hm r2 (hp.trans r1.symm)
/-! What the law of differences says. -/
def minusN (x : NodeC) : NodeC := ⟨x.node, -x.count, -x.work, -x.cycles⟩
theorem nonzero_minus (x : NodeC) : nonzero (minusN x) = nonzero x := by
  unfold nonzero minusN
  rw [Bool.eq_iff_iff]; simp
theorem minus_minus (x : NodeC) : minusN (minusN x) = x := by cases x; simp [minusN]
theorem more_minus (l m : List NodeC) (n : Int) : minusN (moreN (ofN l n) (ofN m n)) = moreN (ofN m n) (ofN l n) := by
  simp only [minusN, moreN, ofN_node]
  simp only [NodeC.mk.injEq, true_and]; omega
theorem diff_turned {l m x y : List NodeC} (h : DiffL l m x) (h' : DiffL m l y) : x = y.map minusN := by
  refine diffL_unique h ⟨?_, fun z => ?_⟩
  · unfold Asc
    rw [List.pairwise_map]
    exact h'.1
  · rw [List.mem_map]
    constructor
    · rintro ⟨u, hu, rfl⟩
      obtain ⟨a, b⟩ := (h'.2 u).1 hu
      refine ⟨by rw [nonzero_minus]; exact a, ?_⟩
      have e : (minusN u).node = u.node := rfl
      rw [e, ← more_minus, ← b]
    · rintro ⟨a, b⟩
      refine ⟨minusN z, (h'.2 _).2 ⟨by rw [nonzero_minus]; exact a, ?_⟩, minus_minus z⟩
      have e : (minusN z).node = z.node := rfl
      rw [e, ← more_minus, ← b]
theorem diff_none {l x : List NodeC} (h : DiffL l l x) : x = [] := by
  refine diffL_unique h ⟨List.Pairwise.nil, fun z => ?_⟩
  simp only [List.not_mem_nil, false_iff, not_and]
  intro a b
  rw [b] at a
  simp [nonzero, moreN] at a
theorem nonzero_more (l m : List NodeC) (n : Int) : nonzero (moreN (ofN l n) (ofN m n)) = true ↔ ofN l n ≠ ofN m n := by
  have e1 := ofN_node l n
  have e2 := ofN_node m n
  generalize ofN l n = a at *
  generalize ofN m n = b at *
  obtain ⟨an, ac, aw, ay⟩ := a
  obtain ⟨bn, bc, bw, by'⟩ := b
  simp [nonzero, moreN] at *
  omega
def nodeRange : List Int := (List.range 202).map fun (k : Nat) => (k : Int) - 2
theorem mem_nodeRange (n : Int) : n ∈ nodeRange ↔ -2 ≤ n ∧ n < 200 := by
  unfold nodeRange
  rw [List.mem_map]
  constructor
  · rintro ⟨k, hk, rfl⟩; have := List.mem_range.1 hk; omega
  · rintro ⟨a, b⟩; exact ⟨(n + 2).toNat, List.mem_range.2 (by omega), by omega⟩
theorem diff_many {l m x : List NodeC} (h : DiffL l m x) (hl : ∀ z ∈ l, -2 ≤ z.node ∧ z.node < 200) (hm : ∀ z ∈ m, -2 ≤ z.node ∧ z.node < 200) :
    (nodeRange.filter fun n => decide (ofN l n ≠ ofN m n)).length = x.length := by
  have e : x.map NodeC.node = nodeRange.filter fun n => decide (ofN l n ≠ ofN m n) := by
    have s1 : (x.map NodeC.node).Pairwise (· < ·) := by rw [List.pairwise_map]; exact h.1
    have s2 : (nodeRange.filter fun n => decide (ofN l n ≠ ofN m n)).Pairwise (· < ·) := by
      refine List.Pairwise.sublist List.filter_sublist ?_
      unfold nodeRange
      rw [List.pairwise_map]
      exact List.pairwise_lt_range.imp fun h => by omega
    have n1 : (x.map NodeC.node).Nodup := s1.imp fun h e => by omega
    have n2 : (nodeRange.filter fun n => decide (ofN l n ≠ ofN m n)).Nodup := s2.imp fun h e => by omega
    refine List.Perm.eq_of_pairwise (le := fun a b : Int => a < b) (fun a b _ _ h1 h2 => by omega) s1 s2 ((List.perm_ext_iff_of_nodup n1 n2).2 fun n => ?_)
    rw [List.mem_map, List.mem_filter, mem_nodeRange, decide_eq_true_eq, ← nonzero_more]
    constructor
    · rintro ⟨z, hz, rfl⟩
      obtain ⟨a, b⟩ := (h.2 z).1 hz
      rw [← b]
      refine ⟨?_, a⟩
      rcases ofN_cases l z.node with h1 | h1
      · have := hl _ h1; rw [ofN_node] at this; exact this
      · rcases ofN_cases m z.node with h2 | h2
        · have := hm _ h2; rw [ofN_node] at this; exact this
        · rw [b, h1, h2] at a; simp [nonzero, moreN] at a
    · rintro ⟨-, b⟩
      refine ⟨_, (h.2 _).2 ⟨b, ?_⟩, ofN_node l n⟩
      have : (moreN (ofN l n) (ofN m n)).node = n := ofN_node l n
      rw [this]
  rw [← e, List.length_map]
/-! Lists that numbers make. -/
def someAt (l : List Int) : Nat → Int
  | 0 => -2
  | k + 1 => someAt l k + (1 + l.getD (3 * k) 0 % 3)
def someN (l : List Int) (j : Nat) : NodeC := ⟨someAt l (j + 1), l.getD (3 * j + 1) 0 % 5, l.getD (3 * j + 2) 0 % 50, l.getD (3 * j + 2) 0 % 7⟩
def someK (l : List Int) : Nat := min 20 (l.length / 3)
def someL (l : List Int) (k : Nat) : List NodeC := (List.range k).map (someN l)
theorem someL_snoc (l : List Int) (k : Nat) : someL l (k + 1) = someL l k ++ [someN l k] := by simp [someL, List.range_succ]
theorem someL_length (l : List Int) (k : Nat) : (someL l k).length = k := by simp [someL]
theorem someL_get (l : List Int) (k i : Nat) (h : i < (someL l k).length) : (someL l k)[i] = someN l i := by simp [someL]
theorem someAt_bounds (l : List Int) (k : Nat) : -2 + (k : Int) ≤ someAt l k ∧ someAt l k ≤ -2 + 3 * (k : Int) := by
  induction k with
  | zero => simp [someAt]
  | succ k ih => simp only [someAt]; omega
theorem rightB_of {l : List NodeC} (h : ∀ i (hi : i < l.length), -1 ≤ l[i].node ∧ 0 ≤ l[i].count ∧ 0 ≤ l[i].work ∧ 0 ≤ l[i].cycles ∧ ∀ h0 : 0 < i, (l[i - 1]'(by omega)).node < l[i].node) : rightB l = true := by
  unfold rightB
  rw [List.all_eq_true]
  intro i hi
  have hi := List.mem_range.1 hi
  obtain ⟨a, b, c, d, e⟩ := h i hi
  unfold rightAt rightC
  rw [List.getD_eq_getElem?_getD, List.getElem?_eq_getElem hi]
  simp [a, b, c, d]
  by_cases h0 : i = 0
  · left; exact h0
  · right
    have := e (by omega)
    rw [List.getElem?_eq_getElem (by omega)]
    simpa using this
theorem someL_right (l : List Int) (k : Nat) : rightB (someL l k) = true := by
  refine rightB_of fun i hi => ?_
  have hb := someAt_bounds l i
  refine ⟨?_, ?_, ?_, ?_, fun h0 => ?_⟩
  · rw [someL_get]; simp only [someN, someAt]; omega
  · rw [someL_get]; simp only [someN]; omega
  · rw [someL_get]; simp only [someN]; omega
  · rw [someL_get]; simp only [someN]; omega
  · rw [someL_get, someL_get]
    obtain ⟨j, rfl⟩ : ∃ j, i = j + 1 := ⟨i - 1, by omega⟩
    simp only [someN, Nat.add_sub_cancel, someAt]
    omega
theorem someL_bounds (l : List Int) (k : Nat) (hk : k ≤ 20) : ∀ z ∈ someL l k, (-2 ≤ z.node ∧ z.node < 200) ∧ (0 ≤ z.count ∧ z.count < 5) ∧ (0 ≤ z.work ∧ z.work < 50) ∧ (0 ≤ z.cycles ∧ z.cycles < 7) := by
  intro z hz
  obtain ⟨j, hj, rfl⟩ := List.mem_map.1 hz
  have hj := List.mem_range.1 hj
  have hb := someAt_bounds l (j + 1)
  simp only [someN]
  omega
theorem someL_fits (l : List Int) (k : Nat) (hk : k ≤ 20) : Fits (someL l k) := fun z hz => by
  have := someL_bounds l k hk z hz; omega
end Go.Proofs.YtdkcjeaabbkdeaaGreatDoor
end
