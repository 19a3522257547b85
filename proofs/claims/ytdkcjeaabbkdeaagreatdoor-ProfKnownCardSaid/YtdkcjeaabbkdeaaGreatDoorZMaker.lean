/- Package prim's maker: a list in the making: put, done, each.all. -/
import Derived.Test.YtdkcjeaabbkdeaaGreatDoorZBase
import Derived.Maps.AppendAt
import Derived.OneCell
import Derived.OwnWalk
import Derived.RangeFuncBox
set_option linter.unusedVariables false
set_option linter.unusedSimpArgs false
set_option linter.unnecessarySimpa false
set_option linter.unusedSectionVars false
namespace Go.Proofs.YtdkcjeaabbkdeaaGreatDoor
open Go.RowKit
set_option linter.unusedVariables false
set_option linter.unusedSimpArgs false

/-- The book-keeping of loops over functions. -/
def isBook : Obj → Bool
  | .loop _ => true
  | .deferred _ => true
  | _ => false
/-- No book is written. -/
def Books (w w' : World) : Prop := ∀ (k : Nat) (o : Obj), w.heap[k]? = some o → isBook o = true → w'.heap[k]? = some o
theorem Books.refl (w : World) : Books w w := fun _ _ h _ => h
theorem Books.trans {a b c : World} (h : Books a b) (k : Books b c) : Books a c := fun i o hi ho => k i o (h i o hi ho) ho
theorem Books.of_below {w w' : World} (h : Below w.heap.size w w') : Books w w' := fun _ _ hi _ => heap_keep h hi
theorem Books.of_grown {w w' : World} {row : Option Nat} (h : w.grownBy w' row) (hr : ∀ k, row = some k → ∃ o, w.heap[k]? = some o ∧ isBook o = false) : Books w w' := by
  intro k o hk ho
  refine (h.block k (Array.getElem?_eq_some_iff.1 hk).1 ?_).trans hk
  intro e
  obtain ⟨o', ho', hb⟩ := hr k e.symm
  rw [hk] at ho'
  cases ho'
  rw [ho] at hb
  cases hb
theorem Books.setCell (w : World) (a : Addr) (v : Value) : Books w (w.setCell a v) := by
  intro k o hk ho
  by_cases e : k = a.block
  · subst e
    obtain ⟨hlt, hk'⟩ := Array.getElem?_eq_some_iff.1 hk
    show (w.heap.modify a.block _)[a.block]? = some o
    rw [Array.getElem?_eq_getElem (by rw [Array.size_modify]; exact hlt), Array.getElem_modify_self, hk']
    cases o <;> first | rfl | (simp [isBook] at ho)
  · exact (Below.heap_setCell w a v k e).trans hk

/-- Boxes are kept: every block of cells but B, unless it holds numbers. -/
def Boxes (B : Nat) (w w' : World) : Prop := ∀ (k : Nat) (c : Array Value) (t : TypeId), w.heap[k]? = some (.cells c t) → t ≠ 3 → k ≠ B → w'.heap[k]? = some (.cells c t)
theorem Boxes.of_below {B : Nat} {w w' : World} (h : Below w.heap.size w w') : Boxes B w w' := fun _ _ _ hi _ _ => heap_keep h hi
theorem Boxes.trans {B : Nat} {a b c : World} (h : Boxes B a b) (k : Boxes B b c) : Boxes B a c := fun i o t hi ho hB => k i o t (h i o t hi ho hB) ho hB
theorem Boxes.cell {B k : Nat} {w w' : World} (h : Boxes B w w') {c : Array Value} {t : TypeId} (hk : w.heap[k]? = some (.cells c t)) (ht : t ≠ 3) (hB : k ≠ B) (j : Nat) : w'.cell? ⟨k, j, none⟩ = c[j]? := by
  simp [World.cell?, h k c t hk ht hB]

/-- Numbers as they lie in cells. -/
def nums (xs : List Int) : List Value := xs.map (.int .i64)
theorem nums_length (xs : List Int) : (nums xs).length = xs.length := by simp [nums]
theorem nums_append (xs ys : List Int) : nums (xs ++ ys) = nums xs ++ nums ys := by simp [nums]
theorem nums_get (xs : List Int) (j : Nat) (h : j < xs.length) : (nums xs)[j]? = some (.int .i64 xs[j]) := by simp [nums, h]

theorem ints_of_own {w : World} {base : Nat} {v : Value} {xs : List Int} {e : TypeId} (h : w.ownsRow base e 1 v xs.length (nums xs)) : Ints w v xs := by
  rcases h.2 with ⟨rfl, h0⟩ | ⟨g, cap, cur, rfl, hb, hh, hn, hm, hs, ht⟩
  · obtain rfl : xs = [] := List.eq_nil_of_length_eq_zero h0
    exact ints_nil _ _ _
  · refine ⟨_, cap, rfl, by simp only [maxLen] at hm; omega, fun j hj => ⟨g, 0, [.int .i64 xs[j]], rfl, rfl, ?_, rfl⟩⟩
    intro i hi
    obtain rfl : i = 0 := by simp at hi; omega
    have hc := h.cells (g := g) rfl j _ (nums_get xs j hj)
    have ha : (⟨g, 0, none⟩ : Addr).add j = ⟨g, 0 + j * 1 + 0, none⟩ := by unfold Addr.add; split <;> simp_all
    rw [ha] at hc
    simpa using hc
theorem ints_of_own_above {w : World} {base : Nat} {v : Value} {xs : List Int} {e : TypeId} (h : w.ownsRow base e 1 v xs.length (nums xs)) : Ints (above base w) v xs := by
  have hi := ints_of_own h
  rcases h.2 with ⟨rfl, h0⟩ | ⟨g, cap, cur, rfl, hb, -⟩
  · exact ints_above hi (fun a ha => by cases ha)
  · exact ints_above hi (fun a ha => by cases ha; exact hb)
/-- The same, the slice cut to its length. -/
theorem ints_of_own_cut {w : World} {base n c : Nat} {A : Option Addr} {xs : List Int} {e : TypeId} (h : w.ownsRow base e 1 (.slice A n c) xs.length (nums xs)) : n = xs.length ∧ Ints w (.slice A xs.length xs.length) xs := by
  obtain ⟨A', c', he, hm, hc⟩ := ints_of_own h
  injection he with h1 h2 h3
  subst h1
  exact ⟨h2, A, _, rfl, ⟨hm.1, Nat.le_refl _⟩, hc⟩

/-- A maker in block B, whose list is of the call's own, from base on. -/
structure Maker (base B : Nat) (w : World) (xs : List Int) (f : Bool) : Prop where mk ::
  out : ∃ v, base ≤ B ∧ w.heap[B]? = some (.cells #[v, .bool f] 326) ∧ w.ownsRow base 3 1 v xs.length (nums xs) ∧ v.ownBlock ≠ some B
theorem Maker.kept {base B : Nat} {w w' : World} {xs : List Int} {f : Bool} (h : Maker base B w xs f) (hb : Below w.heap.size w w') : Maker base B w' xs f := by
  obtain ⟨v, h1, h2, h3, h4⟩ := h.out
  refine ⟨v, h1, heap_keep hb h2, ?_, h4⟩
  have hg : w.grownBy w' none := ⟨hb.os, hb.tape, hb.output, hb.size, fun i hi _ => hb.block i hi⟩
  exact h3.kept hg (by cases v.ownBlock <;> simp)

theorem cell_of_heap {w : World} {B t : Nat} {c : Array Value} (h : w.heap[B]? = some (.cells c t)) (j : Nat) : w.cell? ⟨B, j, none⟩ = c[j]? := by simp [World.cell?, h]
theorem frozen_of_heap {w : World} {B t : Nat} {c : Array Value} (h : w.heap[B]? = some (.cells c t)) (j : Nat) : w.frozen? ⟨B, j, none⟩ = false := by simp [World.frozen?, h]
theorem heap_setCell {w : World} {B t : Nat} {c : Array Value} (h : w.heap[B]? = some (.cells c t)) (j : Nat) (v : Value) : (w.setCell ⟨B, j, none⟩ v).heap[B]? = some (.cells (c.setIfInBounds j v) t) := by
  obtain ⟨hlt, hk'⟩ := Array.getElem?_eq_some_iff.1 h
  show (w.heap.modify B _)[B]? = _
  rw [Array.getElem?_eq_getElem (by rw [Array.size_modify]; exact hlt), Array.getElem_modify_self, hk']
  simp
theorem heap_setCell_ne {w : World} {B k j : Nat} (h : k ≠ B) (v : Value) : (w.setCell ⟨B, j, none⟩ v).heap[k]? = w.heap[k]? := Below.heap_setCell w _ v k h

theorem infoInt : (Tryz.prog.info? 3).map (fun i => (i.zero, i.size, i.bytes)) = some (some (.int .i64 0), 1, 8) := by kernel_rfl

def PutPost (base B : Nat) (w : World) (xs : List Int) (f : Bool) (e : Ending) (w' : World) : Prop :=
  e = .returned (.tuple #[]) ∧ Maker base B w' xs f ∧ Below base w w' ∧ Books w w' ∧ Boxes B w w'

set_option maxRecDepth 100000 in
set_option maxHeartbeats 400000 in
theorem prim_put (base B Y c : Nat) (y : Int) (xs : List Int) (f : Bool) (w : World) (hm : Maker base B w xs f) (hy : w.cell? ⟨Y, 0, none⟩ = some (.int .i64 y)) (hl : xs.length < 17592186044000) :
    Calls Tryz.prog 270 #[.pointer (some ⟨B, 0, none⟩), .slice (some ⟨Y, 0, none⟩) 1 c] w (PutPost base B w (xs ++ [y]) f) := by
  obtain ⟨v, hB, hh, hown, hne⟩ := hm.out
  have HB := Lib.hid hh
  have hBlt : B < w.heap.size := (Array.getElem?_eq_some_iff.1 hh).1
  have hc : w.cell? ⟨B, 0, none⟩ = some v := by rw [cell_of_heap hh]; rfl
  obtain ⟨i0, hi, hzz⟩ := Option.map_eq_some_iff.1 infoInt
  simp only [Prod.mk.injEq] at hzz
  obtain ⟨hz0, hz1, hz2⟩ := hzz
  have hu := Tryz.underlying22
  have hnews : ∀ j u, ([.int .i64 y] : List Value)[j]? = some u → w.cell? ((⟨Y, 0, none⟩ : Addr).add j) = some u := by
    intro j u hj
    match j, hj with
    | 0, hj =>
      simp only [List.getElem?_cons_zero, Option.some.injEq] at hj
      subst hj
      have ha : (⟨Y, 0, none⟩ : Addr).add 0 = ⟨Y, 0, none⟩ := by unfold Addr.add; split <;> simp_all
      rw [ha]; exact hy
    | j + 1, hj => simp at hj
  have hrow : ∀ k, v.ownBlock = some k → base ≤ k ∧ k < w.heap.size := hown.lt
  clear hm hh
  go_enter Tryz.func270, Tryz.ntmps270
  go_wp2_with (at_builtin; refine wpList_append_own_at (P := Tryz.prog) _ rfl _ _ 22 rfl base 3 i0 (.int .i64 0) 1 8 hu hi hz0 hz1 hz2 rfl (by omega) v xs.length (nums xs) rfl hown ⟨Y, 0, none⟩ 1 c [.int .i64 y] rfl rfl hnews (by simp [Value.oneCell']) (by simp only [maxLen]; omega) (by omega) (by omega) ?_; intro v' w' hown' hg' hn' hat'; obtain ⟨g', cap', rfl⟩ := ownsRow_succ hown'; have hh' := (hg'.block B hBlt (fun e => hne e.symm)).trans HB.out; have hc' : w'.cell? ⟨B, 0, none⟩ = some v := (by rw [cell_of_heap hh']; rfl); have hf' : w'.frozen? ⟨B, 0, none⟩ = false := frozen_of_heap hh' 0; clear hh')
  go_end0
  have hat : (Value.slice (some ⟨g', 0, none⟩) (xs.length + 1) cap').ownBlock ≠ some B := by
    rcases hat' with h | h
    · rw [h]; exact hne
    · rw [h]; intro e; injection e with e; omega
  have hB' : w'.heap[B]? = some (.cells #[v, .bool f] 326) := (hg'.block B hBlt (fun e => hne e.symm)).trans HB.out
  have hbox : Boxes B w w' := fun k c t hk ht hkB => by
    refine (hg'.block k (Array.getElem?_eq_some_iff.1 hk).1 fun e => ?_).trans hk
    obtain ⟨h1, h2⟩ := hown
    rcases h2 with ⟨rfl, _⟩ | ⟨g, cap, cur, rfl, _, hh, _⟩
    · simp [Value.ownBlock] at e
    · simp only [Value.ownBlock, Option.some.injEq] at e
      subst e
      rw [hk] at hh
      cases hh
      exact ht rfl
  refine ⟨rfl, ⟨⟨_, hB, by have := heap_setCell hB' 0 (Value.slice (some ⟨g', 0, none⟩) (xs.length + 1) cap'); simpa using this, ?_, hat⟩⟩, ?_, ?_, hbox.trans fun k c t hk ht hkB => (heap_setCell_ne hkB _).trans hk⟩
  · have h1 := ownsRow_setCell_other hown' (a := ⟨B, 0, none⟩) hat (Value.slice (some ⟨g', 0, none⟩) (xs.length + 1) cap')
    simpa [nums] using h1
  · exact ((Below.refl base w).grown hg' (by omega) (fun k hk => (hrow k hk).1)).setCell (by exact hB) _
  · refine (Books.of_grown hg' fun k hk => ?_).trans (Books.setCell _ _ _)
    obtain ⟨h1, h2⟩ := hown
    rcases h2 with ⟨rfl, _⟩ | ⟨g, cap, cur, rfl, _, hh, _⟩
    · simp [Value.ownBlock] at hk
    · simp only [Value.ownBlock, Option.some.injEq] at hk
      subst hk
      exact ⟨_, hh, rfl⟩

/-- A call that makes memory of its own alone, and returns a list of numbers. -/
def GivesInts (w : World) (xs : List Int) (e : Ending) (w' : World) : Prop := ∃ v, e = .returned v ∧ Ints w' v xs ∧ Below w.heap.size w w'
/-- The same, the list lying in blocks from B on. -/
def GivesIntsB (B : Nat) (w : World) (xs : List Int) (e : Ending) (w' : World) : Prop := ∃ v, e = .returned v ∧ Ints (above B w') v xs ∧ Below w.heap.size w w'

set_option maxRecDepth 100000 in
set_option maxHeartbeats 400000 in
theorem prim_done (base B : Nat) (xs : List Int) (f : Bool) (w : World) (hm : Maker base B w xs f) :
    Calls Tryz.prog 271 #[.pointer (some ⟨B, 0, none⟩)] w (GivesIntsB base w xs) := by
  obtain ⟨v, hB, hh, hown, hne⟩ := hm.out
  have hc : w.cell? ⟨B, 0, none⟩ = some v := by rw [cell_of_heap hh]; rfl
  have hmax := hown.2
  rcases hmax with ⟨rfl, h0⟩ | ⟨g, cap, cur, rfl, hg, hgh, hn, hcap, hs, ht⟩
  · obtain rfl : xs = [] := List.eq_nil_of_length_eq_zero h0
    clear hm hh hown h0
    go_enter Tryz.func271, Tryz.ntmps271
    go_wp2
    go_quiet (fail)
    go_wp2
    go_ret
    exact ⟨_, rfl, ints_nil _ _ _, below_drewN _ _⟩
  · have hcut := Lib.hid (ints_of_own_cut hown)
    have hcap' := hcap
    unfold maxLen at hcap'
    clear hm hh hown ht hs hgh
    go_enter Tryz.func271, Tryz.ntmps271
    go_wp2
    go_quiet (fail)
    go_wp2
    go_ret
    exact ⟨_, rfl, ints_above (hcut.out.2.below (below_drewN _ _)) (fun a ha => by cases ha; exact hg), below_drewN _ _⟩

/-- What each.all returns: all numbers, or the error that it traps. -/
def allOf (d : Nat → Int × Bool) (n : Nat) : List Int × Int :=
  if (List.range n).all (fun i => (d i).2) then ((List.range n).map (fun i => (d i).1), 0) else ([], 14)
/-- A list of numbers and an error. -/
def GivesList (w : World) (r : List Int × Int) (e : Ending) (w' : World) : Prop := ∃ v, e = .returned (.tuple #[v, .int .i64 r.2]) ∧ Ints (above w.heap.size w') v r.1 ∧ Below w.heap.size w w'

theorem all_bad (d : Nat → Int × Bool) (n k : Nat) (hk : k < n) (h : (d k).2 = false) : allOf d n = ([], 14) := by
  unfold allOf
  rw [if_neg]
  intro hh
  have := List.all_eq_true.1 hh k (List.mem_range.2 hk)
  simp [h] at this
theorem all_good (d : Nat → Int × Bool) (n : Nat) (h : ∀ k, k < n → (d k).2 = true) : allOf d n = ((List.range n).map (fun i => (d i).1), 0) := by
  unfold allOf
  rw [if_pos]
  exact List.all_eq_true.2 fun k hk => h k (List.mem_range.1 hk)

set_option maxRecDepth 100000 in
set_option maxHeartbeats 800000 in
theorem prim_all (g : FuncId) (cb : Array Value) (d : Nat → Int × Bool) (n : Nat) (w : World) (hn : n ≤ 17592186044000)
    (hg : ∀ args w, (callFunc g args).run Tryz.prog w = .ok (.enter g args) w)
    (hd : ∀ i w1, i < n → Below w.heap.size w w1 → Calls Tryz.prog g (#[.int .i64 i] ++ cb) w1 (Gives w1 (.tuple #[.int .i64 (d i).1, .bool (d i).2]))) :
    Calls Tryz.prog 264 #[.agg #[.func (.func g) #[] cb], .int .i64 n] w (GivesList w (allOf d n)) := by
  have HD := Lib.hid hd; clear hd
  go_enter Tryz.func264, Tryz.ntmps264
  go_wp2_with fail
  have hm0 : Maker (w.heap.size + 1) (w.heap.size + 1) ((w.alloc (.cells #[.func (.func g) #[] cb] 320)).alloc (.cells #[.slice none 0 0, .bool false] 326)) [] false :=
    ⟨⟨_, Nat.le_refl _, by simpa using World.alloc_heap_new (w.alloc (.cells #[.func (.func g) #[] cb] 320)) (.cells #[.slice none 0 0, .bool false] 326), World.ownsRow_nil _ _ _ _, by simp [Value.ownBlock]⟩⟩
  have HM := Lib.hid hm0; clear hm0
  go_loopw [18] (fun i wr => ∃ k : Nat, k ≤ n ∧ i = .int .i64 k ∧ Maker (w.heap.size + 1) (w.heap.size + 1) wr ((List.range k).map fun i => (d i).1) false ∧ wr.cell? ⟨w.heap.size, 0, none⟩ = some (.func (.func g) #[] cb) ∧ Below w.heap.size w wr ∧ w.heap.size + 1 < wr.heap.size ∧ ∀ j, j < k → (d j).2 = true) (fun i _ => n - (intOf i).toNat)
  case atStart =>
    exact ⟨0, Nat.zero_le _, rfl, HM.out, by simp, (((Below.refl _ w).alloc (Nat.le_refl _) _).alloc (by simp) _), by simp, fun j hj => absurd hj (by omega)⟩
  case round =>
    obtain ⟨k, hk, rfl, hm, hc, hb, hsz, hall⟩ := hrel
    have HA := Lib.hid hall; clear hall
    have HM1 := Lib.hid hm; clear hm HM
    have HB1 := Lib.hid hb; clear hb
    by_cases hlt : k < n
    · go_wp2_with fail
      refine (HD.out k _ hlt HB1.out).mono ?_
      rintro e w2 ⟨rfl, hb2⟩
      have HB2 := Lib.hid hb2; clear hb2
      cases hok : (d k).2
      · go_wp2_with fail
        go_ret2
        rw [all_bad d n k hlt hok]
        exact ⟨_, rfl, ints_nil _ _ _, below_step HB1.out HB2.out⟩
      · go_wp2_with fail
        refine (prim_put _ _ _ _ (d k).1 _ _ _ ((HM1.out.kept HB2.out).kept ((Below.refl _ w2).alloc (Nat.le_refl _) _)) (by simp) (by simp; omega)).mono ?_
        rintro e w3 ⟨rfl, hm3, hb3, -, -⟩
        have hs2 := HB2.out.size
        have HB3 := Lib.hid hb3; clear hb3
        have HM3 := Lib.hid hm3; clear hm3
        go_wp2_with fail
        go_roundw
        case rel =>
          refine ⟨k + 1, hlt, by go_num, by rw [List.range_succ, List.map_append]; exact HM3.out, ?_, ?_, ?_, ?_⟩
          · refine (HB3.out.cell (p := ⟨w.heap.size, 0, none⟩) (by simp)).trans ?_
            exact cell_keep (HB2.out.alloc hs2 _) hc
          · exact ((below_step HB1.out HB2.out).alloc (by omega) _).trans (HB3.out.mono (by omega))
          · have := HB3.out.size; simp at this; omega
          · intro j hj
            by_cases e : j = k
            · subst e; exact hok
            · exact HA.out j (by omega)
        case measure => simp [intOf]; omega
    · obtain rfl : k = n := by omega
      go_wp2_with fail
      refine (prim_done _ _ _ _ _ HM1.out).mono ?_
      rintro e w2 ⟨v, rfl, hv, hb2⟩
      go_wp2
      go_ret2
      rw [all_good d k HA.out]
      exact ⟨_, rfl, hv.reads (reads_above _ (by omega)), below_step HB1.out hb2⟩
end Go.Proofs.YtdkcjeaabbkdeaaGreatDoor
