/- What the texts of this seat share: how slices, lists and the package-level tables read in a world, and that a world that keeps what lay there keeps these readings. -/
import Derived.Test.YtdkcjeaabbkdeaaGreatDoorProg
import Derived.WalkKit
import Derived.Outline
import Derived.Below
import Derived.Deep.LoopGhost
import Derived.Lib.Hide
import Derived.Deep.QuietTactic
import Derived.BigQuiet
import Derived.Deep.Quiet
import Derived.Shelf.Abstract
import Derived.RegionTactic
import Derived.Deep.RegionWith
import Derived.Deep.RegionHeld3
import Derived.Deep.DeepMust
import Derived.Deep.DeepFit
import Derived.Laws.EntriesVeiled
import Derived.WideLaws
set_option linter.unusedVariables false
set_option linter.unusedSimpArgs false
set_option linter.unnecessarySimpa false
set_option linter.unusedSectionVars false
namespace Go.Proofs.YtdkcjeaabbkdeaaGreatDoor
open Go.RowKit

/-- A call that only makes memory of its own, and returns a value. -/
abbrev Gives (w : World) (v : Value) : Ending → World → Prop := fun e w' => e = .returned v ∧ Below w.heap.size w w'

theorem below_step {w w1 w2 : World} (h : Below w.heap.size w w1) (k : Below w1.heap.size w1 w2) : Below w.heap.size w w2 := h.trans (k.mono h.size)
theorem below_into {B : Nat} {w w1 w2 : World} (h : Below B w w1) (hB : B ≤ w1.heap.size) (k : Below w1.heap.size w1 w2) : Below B w w2 := h.trans (k.mono hB)
theorem cell_keep {w w1 : World} (h : Below w.heap.size w w1) {a : Addr} {v : Value} (hc : w.cell? a = some v) : w1.cell? a = some v := (h.cell (World.block_lt_of_cell? w a hc)).trans hc
theorem heap_keep {w w1 : World} (h : Below w.heap.size w w1) {g : Nat} {o : Obj} (hc : w.heap[g]? = some o) : w1.heap[g]? = some o := (h.block g (Array.getElem?_eq_some_iff.1 hc).1).trans hc

/-- What stays so where nothing that lay there is touched: for a statement that draws its order, beside calls that make memory. -/
def Stable (S : World → Prop) : Prop := ∀ W W', S W → Below W.heap.size W W' → S W'
theorem stable_and {S T : World → Prop} (h : Stable S) (k : Stable T) : Stable fun W => S W ∧ T W := fun W W' ⟨a, b⟩ hb => ⟨h W W' a hb, k W W' b hb⟩
theorem stable_cell (a : Addr) (v : Value) : Stable fun W => W.cell? a = some v := fun _ _ h hb => cell_keep hb h
theorem stable_below (w : World) : Stable fun W => Below w.heap.size w W := fun _ _ h hb => below_step h hb
theorem below_drew (W : World) : Below W.heap.size W W.drew := (Below.refl _ _).drew

theorem cell_later {w w1 : World} (h : Below w.heap.size w w1) {a : Addr} {v : Value} (hc : w.cell? a = some v) : w1.cell? a = some v := cell_keep h hc
theorem cell_alloc {w : World} {a : Addr} {v : Value} (hc : w.cell? a = some v) : ∀ o, (w.alloc o).cell? a = some v := fun o => cell_keep ((Below.refl _ w).alloc (Nat.le_refl _) o) hc

theorem below_drewN (w : World) (n : Nat) : Below w.heap.size w (w.drewN n) := ⟨rfl, rfl, rfl, Nat.le_refl _, fun _ _ => rfl⟩

theorem ret_bool {a b : Bool} (h : a = b) : Ending.returned (.bool a) = .returned (.bool b) := by rw [h]
theorem ret_int {k : IntKind} {a b : Int} (h : a = b) : Ending.returned (.int k a) = .returned (.int k b) := by rw [h]

theorem below1 (w : World) (o : Obj) : Below w.heap.size w (w.alloc o) := (Below.refl _ w).alloc (Nat.le_refl _) _
theorem below2 (w : World) (o1 o2 : Obj) : Below w.heap.size w ((w.alloc o1).alloc o2) := (below1 w o1).alloc (by simp) _
theorem below3 (w : World) (o1 o2 o3 : Obj) : Below w.heap.size w (((w.alloc o1).alloc o2).alloc o3) := (below2 w o1 o2).alloc (by simp; omega) _
theorem below4 (w : World) (o1 o2 o3 o4 : Obj) : Below w.heap.size w ((((w.alloc o1).alloc o2).alloc o3).alloc o4) := (below3 w o1 o2 o3).alloc (by simp; omega) _
theorem len_beq (m n : Nat) : (((m : Nat) : Int) == ((n : Nat) : Int)) = (m == n) := by
  rw [Bool.eq_iff_iff, beq_iff_eq, beq_iff_eq]; omega

/-- What a cell held it holds still. -/
def Reads (w w1 : World) : Prop := ∀ (a : Addr) (v : Value), w.cell? a = some v → w1.cell? a = some v
theorem Reads.refl (w : World) : Reads w w := fun _ _ h => h
theorem Reads.trans {a b c : World} (h : Reads a b) (k : Reads b c) : Reads a c := fun x v hx => k x v (h x v hx)
theorem reads_below {w w1 : World} (h : Below w.heap.size w w1) : Reads w w1 := fun _ _ hc => cell_keep h hc

/-! ### Slices -/
/-- A slice whose elements have k cells each; R: what the cells of an element mean. -/
def Sl {α : Type} (k : Nat) (R : World → List Value → α → Prop) (w : World) (v : Value) (xs : List α) : Prop :=
  ∃ A c, v = .slice A xs.length c ∧ (xs.length ≤ 9223372036854775807 ∧ xs.length ≤ c) ∧ ∀ j (h : j < xs.length), ∃ b off cs, A = some ⟨b, off, none⟩ ∧ cs.length = k ∧
    (∀ i (hi : i < cs.length), w.cell? ⟨b, off + j * k + i, none⟩ = some cs[i]) ∧ R w cs xs[j]

/-- Readings that stay where nothing that lay there is touched. -/
def Stays {α : Type} (R : World → List Value → α → Prop) : Prop := ∀ w w1 cs x, Reads w w1 → R w cs x → R w1 cs x

theorem Sl.reads {α : Type} {k : Nat} {R : World → List Value → α → Prop} (hR : Stays R) {w w1 : World} {v : Value} {xs : List α} (h : Sl k R w v xs) (hb : Reads w w1) : Sl k R w1 v xs := by
  obtain ⟨A, c, rfl, hm, hc⟩ := h
  refine ⟨A, c, rfl, hm, fun j hj => ?_⟩
  obtain ⟨b, off, cs, hA, hl, hcs, hr⟩ := hc j hj
  exact ⟨b, off, cs, hA, hl, fun i hi => hb _ _ (hcs i hi), hR _ _ _ _ hb hr⟩
theorem Sl.below {α : Type} {k : Nat} {R : World → List Value → α → Prop} (hR : Stays R) {w w1 : World} {v : Value} {xs : List α} (h : Sl k R w v xs) (hb : Below w.heap.size w w1) : Sl k R w1 v xs := h.reads hR (reads_below hb)

/-- One number in one cell. -/
def RInt (_ : World) (cs : List Value) (x : Int) : Prop := cs = [.int .i64 x]
theorem stays_int : Stays RInt := fun _ _ _ _ _ h => h
abbrev Ints := Sl 1 RInt
/-- One list of numbers in one cell. -/
def RInts (w : World) (cs : List Value) (x : List Int) : Prop := ∃ v, cs = [v] ∧ Ints w v x
theorem stays_ints : Stays RInts := fun _ _ _ _ hb ⟨v, hv, h⟩ => ⟨v, hv, h.reads stays_int hb⟩
abbrev Lists := Sl 1 RInts

theorem Ints.reads {w w1 : World} {v : Value} {xs : List Int} (h : Ints w v xs) (hb : Reads w w1) : Ints w1 v xs := Sl.reads stays_int h hb
theorem Lists.reads {w w1 : World} {v : Value} {xs : List (List Int)} (h : Lists w v xs) (hb : Reads w w1) : Lists w1 v xs := Sl.reads stays_ints h hb
theorem Ints.below {w w1 : World} {v : Value} {xs : List Int} (h : Ints w v xs) (hb : Below w.heap.size w w1) : Ints w1 v xs := Sl.below stays_int h hb
theorem Lists.below {w w1 : World} {v : Value} {xs : List (List Int)} (h : Lists w v xs) (hb : Below w.heap.size w w1) : Lists w1 v xs := Sl.below stays_ints h hb

theorem Ints.form {w : World} {v : Value} {xs : List Int} (h : Ints w v xs) : ∃ A c, v = .slice A xs.length c ∧ xs.length ≤ 9223372036854775807 := by
  obtain ⟨A, c, rfl, hm, _⟩ := h; exact ⟨A, c, rfl, hm.1⟩
theorem Lists.form {w : World} {v : Value} {xs : List (List Int)} (h : Lists w v xs) : ∃ A c, v = .slice A xs.length c ∧ xs.length ≤ 9223372036854775807 := by
  obtain ⟨A, c, rfl, hm, _⟩ := h; exact ⟨A, c, rfl, hm.1⟩
theorem Ints.cap {w : World} {A : Option Addr} {n c : Nat} {xs : List Int} (h : Ints w (.slice A n c) xs) : n ≤ c := by
  obtain ⟨A', c', he, hm, hc⟩ := h; cases he; exact hm.2
theorem Lists.cap {w : World} {A : Option Addr} {n c : Nat} {xs : List (List Int)} (h : Lists w (.slice A n c) xs) : n ≤ c := by
  obtain ⟨A', c', he, hm, hc⟩ := h; cases he; exact hm.2
theorem Ints.at_ {w : World} {A : Option Addr} {n c : Nat} {xs : List Int} (h : Ints w (.slice A n c) xs) (j : Nat) (hj : j < xs.length) : ∃ b off, A = some ⟨b, off, none⟩ ∧ w.cell? ⟨b, off + j, none⟩ = some (.int .i64 xs[j]) := by
  obtain ⟨A', c', he, hm, hc⟩ := h
  cases he
  obtain ⟨b, off, cs, hA, hl, hcs, hr⟩ := hc j hj
  obtain rfl : cs = [.int .i64 xs[j]] := hr
  exact ⟨b, off, hA, by simpa using hcs 0 (by simp)⟩
theorem Lists.at_ {w : World} {A : Option Addr} {n c : Nat} {xs : List (List Int)} (h : Lists w (.slice A n c) xs) (j : Nat) (hj : j < xs.length) : ∃ b off u, A = some ⟨b, off, none⟩ ∧ w.cell? ⟨b, off + j, none⟩ = some u ∧ Ints w u xs[j] := by
  obtain ⟨A', c', he, hm, hc⟩ := h
  cases he
  obtain ⟨b, off, cs, hA, hl, hcs, hr⟩ := hc j hj
  obtain ⟨u, rfl, hu⟩ := hr
  exact ⟨b, off, u, hA, by simpa using hcs 0 (by simp), hu⟩
theorem Ints.len {w : World} {A : Option Addr} {n c : Nat} {xs : List Int} (h : Ints w (.slice A n c) xs) : n = xs.length := by
  obtain ⟨A', c', he, hm, hc⟩ := h; cases he; rfl
theorem Lists.len {w : World} {A : Option Addr} {n c : Nat} {xs : List (List Int)} (h : Lists w (.slice A n c) xs) : n = xs.length := by
  obtain ⟨A', c', he, hm, hc⟩ := h; cases he; rfl
theorem ints_nil (w : World) (A : Option Addr) (c : Nat) : Ints w (.slice A 0 c) [] := ⟨A, c, rfl, by simp, fun j hj => absurd hj (by simp)⟩
theorem lists_nil (w : World) (A : Option Addr) (c : Nat) : Lists w (.slice A 0 c) [] := ⟨A, c, rfl, by simp, fun j hj => absurd hj (by simp)⟩

/-! ### The package-level tables -/
/-- The functions of the table of deeds. -/
def deedFn (k : Nat) : Nat := ([334, 338, 339, 340, 341, 342, 343, 344, 345, 346, 347, 348] : List Nat).getD k 0
def neutralOf (k : Nat) : Int := ([0, 0, 1, 0, 0, 0, 0, 2147483647, -2147483648, -1, 0, 0] : List Int).getD k 0
def lawOf (k : Nat) : Bool × Bool × Bool := ([(true, true, false), (false, false, false), (true, true, false), (false, false, false), (false, false, false), (false, false, false), (false, true, false), (true, true, true), (true, true, true), (true, true, true), (true, true, true), (true, true, false)] : List (Bool × Bool × Bool)).getD k (false, false, false)
structure Glob (w : World) : Prop where
  deeds : ∀ k, k < 12 → w.cell? ⟨7, k, none⟩ = some (.func (.func (deedFn k)) #[] #[])
  neutrals : ∀ k, k < 12 → w.cell? ⟨8, k, none⟩ = some (.int .i64 (neutralOf k))
  assoc : ∀ k, k < 12 → w.cell? ⟨9, k * 3, none⟩ = some (.bool (lawOf k).1)
  commutes : ∀ k, k < 12 → w.cell? ⟨9, k * 3 + 1, none⟩ = some (.bool (lawOf k).2.1)
  idem : ∀ k, k < 12 → w.cell? ⟨9, k * 3 + 2, none⟩ = some (.bool (lawOf k).2.2)
theorem Glob.reads {w w1 : World} (h : Glob w) (hb : Reads w w1) : Glob w1 :=
  ⟨fun k hk => hb _ _ (h.deeds k hk), fun k hk => hb _ _ (h.neutrals k hk), fun k hk => hb _ _ (h.assoc k hk), fun k hk => hb _ _ (h.commutes k hk), fun k hk => hb _ _ (h.idem k hk)⟩
theorem Glob.below {w w1 : World} (h : Glob w) (hb : Below w.heap.size w w1) : Glob w1 := h.reads (reads_below hb)

/-! ### Some blocks out of sight -/
open Classical in
/-- A world some of whose blocks are out of sight. -/
noncomputable def hide (S : Nat → Prop) (w : World) : World := { w with heap := w.heap.mapIdx fun k o => if S k then .cells #[] 0 else o }
theorem hide_heap (S : Nat → Prop) (w : World) {k : Nat} (h : ¬ S k) : (hide S w).heap[k]? = w.heap[k]? := by
  show (w.heap.mapIdx _)[k]? = _
  rw [Array.getElem?_mapIdx]
  cases w.heap[k]? <;> simp [h]
theorem hide_cell (S : Nat → Prop) (w : World) {a : Addr} (h : ¬ S a.block) : (hide S w).cell? a = w.cell? a := by
  unfold World.cell?
  rw [hide_heap S w h]
theorem hide_none (S : Nat → Prop) (w : World) {a : Addr} (h : S a.block) : (hide S w).cell? a = none := by
  have e : (hide S w).heap[a.block]? = (w.heap[a.block]?).map fun _ => .cells #[] 0 := by
    show (w.heap.mapIdx _)[a.block]? = _
    rw [Array.getElem?_mapIdx]
    cases w.heap[a.block]? <;> simp [h]
  unfold World.cell?
  rw [e]
  cases w.heap[a.block]? <;> simp
theorem hide_some {S : Nat → Prop} {w : World} {a : Addr} {v : Value} (h : (hide S w).cell? a = some v) : ¬ S a.block ∧ w.cell? a = some v := by
  by_cases hs : S a.block
  · rw [hide_none S w hs] at h; cases h
  · exact ⟨hs, by rwa [hide_cell S w hs] at h⟩
/-- Reading out of what is in sight. -/
theorem reads_hide {S T : Nat → Prop} {w w' : World} (h : ∀ (a : Addr) (v : Value), ¬ S a.block → w.cell? a = some v → ¬ T a.block ∧ w'.cell? a = some v) : Reads (hide S w) (hide T w') := by
  intro a v hc
  obtain ⟨hs, hc⟩ := hide_some hc
  obtain ⟨ht, hc'⟩ := h a v hs hc
  rw [hide_cell T w' ht]; exact hc'
theorem reads_unhide (S : Nat → Prop) (w : World) : Reads (hide S w) w := fun _ _ hc => (hide_some hc).2
/-- Only the blocks from B on are in sight. -/
noncomputable abbrev above (B : Nat) (w : World) : World := hide (fun k => k < B) w
theorem reads_above {B B' : Nat} (w : World) (h : B' ≤ B) : Reads (above B w) (above B' w) := reads_hide fun a v hs hc => ⟨by omega, hc⟩
theorem reads_above_of {B B' : Nat} {w w' : World} (h : B' ≤ B) (hr : Reads w w') : Reads (above B w) (above B' w') := reads_hide fun a v hs hc => ⟨by omega, hr _ _ hc⟩
theorem reads_above_below {B : Nat} {w w' : World} (h : Below w.heap.size w w') : Reads (above B w) (above B w') := reads_hide fun a v hs hc => ⟨hs, cell_keep h hc⟩
theorem ints_above {B : Nat} {w : World} {A : Option Addr} {n c : Nat} {xs : List Int} (h : Ints w (.slice A n c) xs) (hA : ∀ a, A = some a → B ≤ a.block) : Ints (above B w) (.slice A n c) xs := by
  obtain ⟨A', c', he, hm, hc⟩ := h
  cases he
  refine ⟨A, c, rfl, hm, fun j hj => ?_⟩
  obtain ⟨b, off, cs, e, hl, hcs, hr⟩ := hc j hj
  exact ⟨b, off, cs, e, hl, fun i hi => by rw [hide_cell _ _ (by have := hA _ e; simp at this ⊢; omega)]; exact hcs i hi, hr⟩

end Go.Proofs.YtdkcjeaabbkdeaaGreatDoor
