/- Package scan: the iterator over segments, and Fold. Package scan: Fold. Package vec: what the instructions of the law's program do. -/
import Derived.Test.YtdkcjeaabbkdeaaGreatDoorZSet
import Derived.Test.YtdkcjeaabbkdeaaGreatDoorZShapes
import Derived.Test.YtdkcjeaabbkdeaaGreatDoorZWord
import Derived.Maps.OwnIn
import Derived.OwnWalkIn
set_option linter.unusedVariables false
set_option linter.unusedSimpArgs false
set_option linter.unnecessarySimpa false
set_option linter.unusedSectionVars false
section
namespace Go.Proofs.YtdkcjeaabbkdeaaGreatDoor
open Go.RowKit Go.Shelf
set_option linter.unusedVariables false
set_option linter.unusedSimpArgs false
attribute [local go_sem] Oper.semAt_some

section
variable {P : Program} {t : TypeId} {a b : Array TypeId} {c : Bool} (h : P.underlying t = some (.func a b c)) (w : World)
include h
theorem equalIn_nilFunc (d : Nat) : (Op.equalIn (d + 1) t .nilFunc .nilFunc).run P w = .ok true w := by
  unfold Op.equalIn
  simp [run_underlying h, go_sem]
theorem equalIn_func (d : Nat) (g : Fn) (x y : Array Value) : (Op.equalIn (d + 1) t (.func g x y) .nilFunc).run P w = .ok false w := by
  unfold Op.equalIn
  simp [run_underlying h, go_sem]
end
theorem neq_nilFunc (w : World) : Sem.run Tryz.prog (binOp .neq 71 .nilFunc .nilFunc) w = .ok (.bool false) w := by
  have h := equalIn_nilFunc Tryz.underlying71 w 9999
  have h2 : Sem.run Tryz.prog (Op.equal 71 .nilFunc .nilFunc) w = .ok true w := h
  simp [binOp, go_sem, h2, Result.andThen]
theorem neq_func (w : World) (g : Fn) (x y : Array Value) : Sem.run Tryz.prog (binOp .neq 71 (.func g x y) .nilFunc) w = .ok (.bool true) w := by
  have h := equalIn_func Tryz.underlying71 w 9999 g x y
  have h2 : Sem.run Tryz.prog (Op.equal 71 (.func g x y) .nilFunc) w = .ok false w := h
  simp [binOp, go_sem, h2, Result.andThen]

/-- How many words lie ahead of a segment. -/
def offOf (ls : List Int) (i : Nat) : Nat := ((ls.take i).map Int.toNat).sum
/-- How long a segment is. -/
def lenOf (ls : List Int) (i : Nat) : Nat := (ls.getD i 0).toNat
theorem offOf_zero (ls : List Int) : offOf ls 0 = 0 := by simp [offOf]
theorem offOf_succ {ls : List Int} {i : Nat} (h : i < ls.length) : offOf ls (i + 1) = offOf ls i + lenOf ls i := by
  unfold offOf lenOf
  rw [List.take_succ_eq_append_getElem h, List.map_append, List.sum_append_nat]
  simp [h]
theorem offOf_le (ls : List Int) (i : Nat) (h : i ≤ ls.length) : offOf ls i ≤ offOf ls ls.length := by
  obtain ⟨d, hd⟩ : ∃ d, i + d = ls.length := ⟨ls.length - i, by omega⟩
  induction d generalizing i with
  | zero => simp at hd; subst hd; exact Nat.le_refl _
  | succ d ih =>
    by_cases hlt : i < ls.length
    · have := ih (i + 1) hlt (by omega)
      rw [offOf_succ hlt] at this
      omega
    · omega
/-- A segment of a slice. -/
def segOf (A : Option Addr) (at_ n : Nat) : Value := .slice (if n = 0 then A else A.map (·.add at_)) n n

set_option maxRecDepth 100000 in
set_option maxHeartbeats 800000 in
theorem seg_iter (l p q : Nat) (ls : List Int) (v : Value) (A : Option Addr) (n c : Nat) (hn : offOf ls ls.length = n) (hnc : n ≤ c) (hnm : n < 4611686018427387904) (hp : ∀ i (h : i < ls.length), 0 ≤ ls[i])
    (J : Nat → World → Prop) (Jx : World → Prop) (Jp : List PanicEntry → World → Prop) (hJ : ∀ i W, J i W → Ints W v ls ∧ W.cell? ⟨q, 0, none⟩ = some (.slice A n c))
    (hY : ∀ i W (hi : i < ls.length), J i W → YieldAt Fence.wide 5 Tryz.prog l #[segOf A (offOf ls i) (lenOf ls i)] W fun e W' => (e = .returned (.bool true) ∧ J (i + 1) W') ∨ (e = .returned (.bool false) ∧ Jx W') ∨ ∃ c, e = .panicked c ∧ Jp c W')
    (W1 : World) (hc1 : W1.cell? ⟨p, 0, none⟩ = some v) (h0 : J 0 W1) :
    Calls Tryz.prog 308 #[.func (.yield l) #[] #[], .pointer (some ⟨p, 0, none⟩), .pointer (some ⟨q, 0, none⟩)] W1 fun e W' => ((∃ v, e = .returned v) ∧ (J ls.length W' ∨ Jx W')) ∨ ∃ c, e = .panicked c ∧ Jp c W' := by
  obtain ⟨B, d, rfl, hm⟩ := (hJ _ _ h0).1.form
  have HY := Lib.hid hY; clear hY
  have HJ := Lib.hid hJ; clear hJ
  have H0 := Lib.hid h0; clear h0
  have HP := Lib.hid hp; clear hp
  have HN := Lib.hid hn; clear hn
  refine (callsIn_wide (n := 6)).1 (callsIn_of_wp Tryz.func308 rfl trivial ?_)
  simp only [Tryz.ntmps308, List.size_toArray, List.length_cons, List.length_nil, Nat.reduceAdd, Nat.reduceSub, Array.replicate_succ, Array.replicate_zero, List.push_toArray, List.append_toArray, List.nil_append, List.cons_append]
  gi_wp2
  gi_loopw [4, 6, 9] (fun o _ i wr => ∃ k : Nat, k ≤ ls.length ∧ i = .int .i64 k ∧ o = .int .i64 (offOf ls k) ∧ J k wr) (fun _ _ i _ => ls.length - (intOf i).toNat)
  case atStart => exact ⟨0, Nat.zero_le _, rfl, by rw [offOf_zero]; rfl, H0.out⟩
  case round =>
    obtain ⟨k, hk, rfl, rfl, hj⟩ := hrel
    have HJk := Lib.hid hj; clear hj
    by_cases hlt : k < ls.length
    · obtain ⟨b, off, rfl, hcell'⟩ := (HJ.out _ _ HJk.out).1.at_ k hlt
      have hcq := (HJ.out _ _ HJk.out).2
      obtain ⟨fn, tmps, assign, body, hy, hR⟩ := HY.out k wr hlt HJk.out
      have HR := Lib.hid hR; clear hR hc1
      have hls : ls[k] = ((lenOf ls k : Nat) : Int) := by
        have := HP.out k hlt
        unfold lenOf; simp [hlt]; omega
      have hoff := offOf_succ hlt
      have hole := offOf_le ls (k + 1) hlt
      rw [HN.out] at hole
      rw [hls] at hcell'
      have HO := Lib.hid hoff
      have HOL := Lib.hid hls
      rw [hoff] at hole
      clear hoff hls
      unfold segOf at hy
      generalize hok : offOf ls k = o at *
      generalize hlk : lenOf ls k = m at *
      have hw1 : wrap64 ((o : Int) + (m : Int)) = ((o + m : Nat) : Int) := by unfold wrap64; omega
      have hq0 : (0 : Int) ≤ o := by omega
      have hq1 : (o : Int) ≤ ((o + m : Nat) : Int) := by omega
      have hq2 : ((o + m : Nat) : Int) ≤ (c : Int) := by omega
      gi_wp2
      all_goals
        refine HR.out.mono ?_
        rintro e W3 (⟨rfl, hJ3⟩ | ⟨rfl, hJx⟩ | ⟨ch, rfl, hJp⟩)
        · have HJ3 := Lib.hid hJ3; clear hJ3 hcell' hy
          gi_wp2
          go_roundw
          case rel => exact ⟨k + 1, hlt, by go_num, by rw [HO.out, Int.natCast_add], HJ3.out⟩
          case measure => simp [intOf]; omega
        · have HJ3 := Lib.hid hJx; clear hJx hcell' hy
          gi_wp2
          refine bodyPost_ret (results_none rfl _ _ _) rfl ?_
          exact .inl ⟨⟨_, rfl⟩, .inr HJ3.out⟩
        · exact ⟨rfl, .inr ⟨ch, rfl, hJp⟩⟩
    · obtain rfl : k = ls.length := by omega
      clear hc1
      gi_wp2
      go_end0
      exact .inl ⟨⟨_, rfl⟩, .inl HJk.out⟩

theorem addr_add (b o n : Nat) : (⟨b, o, none⟩ : Addr).add n = ⟨b, o + n, none⟩ := by unfold Addr.add; split <;> simp_all
theorem seg_ints {w : World} {A : Option Addr} {n c : Nat} {xs : List Int} (h : Ints w (.slice A n c) xs) (o m : Nat) (hm : o + m ≤ xs.length) : Ints w (segOf A o m) ((xs.drop o).take m) := by
  have hl : ((xs.drop o).take m).length = m := by rw [List.length_take, List.length_drop]; omega
  unfold segOf
  by_cases h0 : m = 0
  · subst h0; simp; exact ints_nil _ _ _
  · rw [if_neg h0]
    obtain ⟨b, off, rfl, _⟩ := h.at_ 0 (by omega)
    obtain ⟨A', c', he, hm', hc⟩ := h
    have := hm'.1
    refine ⟨some ⟨b, off + o, none⟩, m, by rw [hl, Option.map_some, addr_add], ⟨by omega, by omega⟩, fun j hj => ⟨b, off + o, [.int .i64 ((xs.drop o).take m)[j]], rfl, rfl, ?_, rfl⟩⟩
    intro i hi
    obtain rfl : i = 0 := by simp at hi; omega
    cases he
    have hlt : o + j < xs.length := by omega
    obtain ⟨b', off', cs, hA, hl', hcs, hr⟩ := hc (o + j) hlt
    cases hA
    change cs = [.int .i64 (xs[o + j]'hlt)] at hr
    subst hr
    have := hcs 0 (by simp)
    simp only [Nat.mul_one, Nat.add_zero, List.getElem_cons_zero] at this ⊢
    rw [show off + o + j = off + (o + j) by omega, this]
    simp [List.getElem_take, List.getElem_drop]

/-- What a one-element list literal holds, as append asks for it. -/
theorem news1 (w : World) (x : Value) (t : TypeId) : ∀ (j : Nat) (u : Value), ([x] : List Value)[j]? = some u → (w.alloc (.cells #[x] t)).cell? ((⟨w.heap.size, 0, none⟩ : Addr).add j) = some u := by
  intro j u hj
  match j, hj with
  | 0, hj =>
    simp only [List.getElem?_cons_zero, Option.some.injEq] at hj
    subst hj
    have ha : (⟨w.heap.size, 0, none⟩ : Addr).add 0 = ⟨w.heap.size, 0, none⟩ := by unfold Addr.add; split <;> simp_all
    rw [ha, cell_of_heap (alloc_new w _)]; rfl
  | j + 1, hj => simp at hj

/-- A list in the making, alone in block B, of the call's own from base on. -/
structure Making (base B : Nat) (w : World) (xs : List Int) : Prop where mk ::
  out : ∃ v, base ≤ B ∧ w.heap[B]? = some (.cells #[v] 22) ∧ w.ownsRow base 3 1 v xs.length (nums xs) ∧ v.ownBlock ≠ some B
theorem Making.kept {base B : Nat} {w w' : World} {xs : List Int} (h : Making base B w xs) (hb : Below w.heap.size w w') : Making base B w' xs := by
  obtain ⟨v, h1, h2, h3, h4⟩ := h.out
  refine ⟨v, h1, heap_keep hb h2, ?_, h4⟩
  have hg : w.grownBy w' none := ⟨hb.os, hb.tape, hb.output, hb.size, fun i hi _ => hb.block i hi⟩
  exact h3.kept hg (by cases v.ownBlock <;> simp)
theorem Making.putObj {base B l : Nat} {w : World} {xs : List Int} {o : Obj} (h : Making base B w xs) (hl : ∃ r, w.heap[l]? = some (.loop r)) : Making base B (w.putObj l o) xs := by
  obtain ⟨v, h1, h2, h3, h4⟩ := h.out
  exact ⟨v, h1, heap_putObj hl h2 rfl, ownsRow_book hl h3, h4⟩

/-- Behind an append to such a list, and the store of what came. -/
theorem Making.put {base B : Nat} {w w' : World} {v : Value} {xs : List Int} {x : Int} {g' cap' : Nat} (hB : base ≤ B) (hh : w.heap[B]? = some (.cells #[v] 22)) (hown : w.ownsRow base 3 1 v xs.length (nums xs)) (hne : v.ownBlock ≠ some B)
    (hown' : w'.ownsRow base 3 1 (.slice (some ⟨g', 0, none⟩) (xs.length + 1) cap') (xs.length + 1) (nums xs ++ [.int .i64 x])) (hg' : w.grownBy w' v.ownBlock) (hat' : (Value.slice (some ⟨g', 0, none⟩) (xs.length + 1) cap').ownBlock = v.ownBlock ∨ (Value.slice (some ⟨g', 0, none⟩) (xs.length + 1) cap').ownBlock = some w.heap.size) :
    Making base B (w'.setCell ⟨B, 0, none⟩ (.slice (some ⟨g', 0, none⟩) (xs.length + 1) cap')) (xs ++ [x]) ∧ Below base w (w'.setCell ⟨B, 0, none⟩ (.slice (some ⟨g', 0, none⟩) (xs.length + 1) cap')) ∧
      Books w (w'.setCell ⟨B, 0, none⟩ (.slice (some ⟨g', 0, none⟩) (xs.length + 1) cap')) ∧ Boxes B w (w'.setCell ⟨B, 0, none⟩ (.slice (some ⟨g', 0, none⟩) (xs.length + 1) cap')) := by
  have hBlt : B < w.heap.size := (Array.getElem?_eq_some_iff.1 hh).1
  have hrow : ∀ k, v.ownBlock = some k → base ≤ k ∧ k < w.heap.size := hown.lt
  have hat : (Value.slice (some ⟨g', 0, none⟩) (xs.length + 1) cap').ownBlock ≠ some B := by
    rcases hat' with h | h
    · rw [h]; exact hne
    · rw [h]; intro e; injection e with e; omega
  have hB' : w'.heap[B]? = some (.cells #[v] 22) := (hg'.block B hBlt (fun e => hne e.symm)).trans hh
  have hbox : Boxes B w w' := fun k c t hk ht hkB => by
    refine (hg'.block k (Array.getElem?_eq_some_iff.1 hk).1 fun e => ?_).trans hk
    obtain ⟨h1, h2⟩ := hown
    rcases h2 with ⟨rfl, _⟩ | ⟨g, cap, cur, rfl, _, hh, _⟩
    · simp [Value.ownBlock] at e
    · simp only [Value.ownBlock, Option.some.injEq] at e
      subst e
      rw [hk] at hh
      cases hh
      exact ht rfl
  refine ⟨⟨⟨_, hB, by have := heap_setCell hB' 0 (Value.slice (some ⟨g', 0, none⟩) (xs.length + 1) cap'); simpa using this, ?_, hat⟩⟩, ?_, ?_, hbox.trans fun k c t hk ht hkB => (heap_setCell_ne hkB _).trans hk⟩
  · have h1 := ownsRow_setCell_other hown' (a := ⟨B, 0, none⟩) hat (Value.slice (some ⟨g', 0, none⟩) (xs.length + 1) cap')
    simpa [nums] using h1
  · exact ((Below.refl base w).grown hg' (by omega) (fun k hk => (hrow k hk).1)).setCell (by exact hB) _
  · refine (Books.of_grown hg' fun k hk => ?_).trans (Books.setCell _ _ _)
    obtain ⟨h1, h2⟩ := hown
    rcases h2 with ⟨rfl, _⟩ | ⟨g, cap, cur, rfl, _, hh, _⟩
    · simp [Value.ownBlock] at hk
    · simp only [Value.ownBlock, Option.some.injEq] at hk
      subst hk
      exact ⟨_, hh, rfl⟩

/-- What is joined of a segment. -/
def foldOut (op : Int) (l ls : List Int) (i : Nat) : Int := ((l.drop (offOf ls i)).take (lenOf ls i)).foldl (fun s x => (wordDo op s x).1) (wordNeutral op).1
def segBad (l ls : List Int) : Bool := ls.any (fun n => decide (n < 0)) || !(offOf ls ls.length == l.length)
def scanErr (op : Int) (l ls : List Int) : Int :=
  if (wordNeutral op).2 ≠ 0 then (wordNeutral op).2
  else if 1048576 < l.length ∨ 1048576 < ls.length then 3
  else if scanWords l ≠ 0 ∨ scanWords ls ≠ 0 then 2
  else if segBad l ls then 6 else 0
def scanFold (op : Int) (l ls : List Int) : List Int × Int := if scanErr op l ls ≠ 0 then ([], scanErr op l ls) else ((List.range ls.length).map (foldOut op l ls), 0)
end Go.Proofs.YtdkcjeaabbkdeaaGreatDoor
end
section
namespace Go.Proofs.YtdkcjeaabbkdeaaGreatDoor
open Go.RowKit Go.Shelf
set_option linter.unusedVariables false
set_option linter.unusedSimpArgs false
attribute [local go_sem] Oper.semAt_some neq_nilFunc neq_func

theorem scanWords_zero {l : List Int} (h : scanWords l = 0) : ∀ x ∈ l, isWord x = true := by
  unfold scanWords at h
  by_cases h1 : 1048576 < l.length
  · rw [if_pos h1] at h; cases h
  · rw [if_neg h1] at h
    by_cases h2 : (l.any fun n => !isWord n) = true
    · rw [if_pos h2] at h; cases h
    · intro x hx
      cases hw : isWord x
      · exact absurd (List.any_eq_true.2 ⟨x, hx, by simp [hw]⟩) h2
      · rfl
theorem offOf_bound {ls : List Int} (h : ∀ x ∈ ls, isWord x = true) : ∀ k, k ≤ ls.length → offOf ls k ≤ k * 2147483647
  | 0, _ => by simp [offOf_zero]
  | k + 1, hk => by
    have ih := offOf_bound h k (by omega)
    rw [offOf_succ hk]
    have := (isWord_iff _).1 (h ls[k] (List.getElem_mem hk))
    have hl : lenOf ls k = (ls[k]).toNat := by unfold lenOf; simp [show k < ls.length from hk]
    omega

set_option maxRecDepth 100000 in
set_option maxHeartbeats 800000 in
theorem scan_told (op : Int) (l ls : List Int) (vl vs : Value) (w : World) (hg : Glob w) (hl : Ints w vl l) (hs : Ints w vs ls) :
    Calls Tryz.prog 278 #[.int .i64 op, vl, vs, .agg #[.nilFunc, .bool true]] w (GivesList w (scanFold op l ls)) := by
  obtain ⟨A, ca, rfl, hma⟩ := hl.form
  obtain ⟨B, cb, rfl, hmb⟩ := hs.form
  have HG := Lib.hid hg
  have HA := Lib.hid hl
  have HS := Lib.hid hs
  clear hg hl hs
  refine calls_of_wpV Tryz.func278 rfl ?_
  simp only [Tryz.ntmps278, List.size_toArray, List.length_cons, List.length_nil, Nat.reduceAdd, Nat.reduceSub, Array.replicate_succ, Array.replicate_zero, List.push_toArray, List.append_toArray, List.nil_append, List.cons_append]
  refine wpV_seq (wpV_of_wp ?_)
  go_wp2
  have hb0 := below1 w (.cells #[.nilFunc, .bool true] 335)
  have hW := Lib.hid (alloc_new w (.cells #[.nilFunc, .bool true] 335))
  have HB0 := Lib.hid hb0
  have HG := Lib.hid (HG.out.below hb0)
  have HA := Lib.hid (HA.out.below hb0)
  have HS := Lib.hid (HS.out.below hb0)
  clear hb0
  generalize hw0 : w.alloc (.cells #[.nilFunc, .bool true] 335) = w0 at *
  generalize hwb : w.heap.size = wb at *
  clear hw0
  have fin : ∀ W, Below w0.heap.size w0 W → Below w.heap.size w W := fun W h => by rw [hwb]; exact HB0.out.trans (h.mono (by have := HB0.out.size; omega))
  refine wpV_seq (wpV_of_wp ?_)
  go_wp2_with fail
  refine (scan_of op _ HG.out).mono ?_
  rintro e w1 ⟨hb1, hj⟩
  by_cases he : (wordNeutral op).2 = 0
  case neg =>
    have hne : ((wordNeutral op).2 != 0) = true := by simpa using he
    have HV : Hid (scanFold op l ls = ([], (wordNeutral op).2)) := by unfold Hid scanFold scanErr; simp [he]
    have HB := Lib.hid hb1
    rw [if_neg he] at hj
    subst hj
    clear he hb1
    go_wp2_with fail
    refine wpV_seq (wpV_of_wp ?_)
    go_wp2_with fail
    refine leaveM_nil (results_tmp2 rfl _ _ _) ?_
    rw [HV.out]
    exact ⟨_, rfl, ints_nil _ _ _, fin _ (below_step HB.out (below1 _ _))⟩
  case pos =>
    rw [if_pos he] at hj
    obtain ⟨q, rfl, h0, h1⟩ := hj
    have HB := Lib.hid hb1
    have hE := Lib.hid he
    generalize hno : (wordNeutral op).1 = no at *
    have HNO := Lib.hid hno; clear hno
    have hQ0 := Lib.hid h0
    have hQ1 := Lib.hid h1
    clear he hb1 h0 h1
    go_wp2_with fail
    refine wpV_seq (wpV_of_wp ?_)
    go_wp2_with fail
    refine wpV_seq (wpV_of_wp ?_)
    by_cases hlen : 1048576 < l.length ∨ 1048576 < ls.length
    · have HV : Hid (scanFold op l ls = ([], 3)) := by unfold Hid scanFold scanErr; simp [hE.out, hlen]
      have HL := Lib.hid hlen
      clear hlen
      by_cases hlen1 : 1048576 < l.length
      · go_wp2_with fail
        refine leaveM_nil (results_tmp2 rfl _ _ _) ?_
        rw [HV.out]
        exact ⟨_, rfl, ints_nil _ _ _, fin _ (below_step HB.out (below1 _ _))⟩
      · have hlen2 : 1048576 < ls.length := HL.out.resolve_left hlen1
        go_wp2_with fail
        refine leaveM_nil (results_tmp2 rfl _ _ _) ?_
        rw [HV.out]
        exact ⟨_, rfl, ints_nil _ _ _, fin _ (below_step HB.out (below1 _ _))⟩
    have hl1 : l.length ≤ 1048576 := by omega
    have hl2 : ls.length ≤ 1048576 := by omega
    have HLen := Lib.hid hlen; clear hlen
    go_wp2_with fail
    refine wpV_seq (wpV_of_wp ?_)
    have hB2' := below_step HB.out (below1 w1 (.cells #[.int .i64 op, .int .i64 no, .func (.func 305) #[] #[.pointer (some ⟨q, 0, none⟩)]] 355))
    have hQ0' := cell_keep (below1 w1 (.cells #[.int .i64 op, .int .i64 no, .func (.func 305) #[] #[.pointer (some ⟨q, 0, none⟩)]] 355)) hQ0.out
    have hQ1' := cell_keep (below1 w1 (.cells #[.int .i64 op, .int .i64 no, .func (.func 305) #[] #[.pointer (some ⟨q, 0, none⟩)]] 355)) hQ1.out
    have hJ' := alloc_new w1 (.cells #[.int .i64 op, .int .i64 no, .func (.func 305) #[] #[.pointer (some ⟨q, 0, none⟩)]] 355)
    clear HB hQ0 hQ1
    generalize hw2 : w1.alloc (.cells #[.int .i64 op, .int .i64 no, .func (.func 305) #[] #[.pointer (some ⟨q, 0, none⟩)]] 355) = w2 at *
    generalize hjb : w1.heap.size = jb at *
    clear hw2 hjb
    have HB := Lib.hid hB2'
    have hQ0 := Lib.hid hQ0'
    have hQ1 := Lib.hid hQ1'
    have hJ := Lib.hid hJ'
    clear hB2' hQ0' hQ1' hJ'
    by_cases hw1 : scanWords l = 0
    case neg =>
      have HV : Hid (scanFold op l ls = ([], 2)) := by unfold Hid scanFold scanErr; simp [hE.out, HLen.out, hw1]
      have hw1' : (scanWords l != 0) = true := by simpa using hw1
      go_wp2_with fail
      refine (scan_words l _ w2 (HA.out.below HB.out)).mono ?_
      rintro e w3 ⟨rfl, hb3⟩
      go_wp2_with fail
      refine leaveM_nil (results_tmp2 rfl _ _ _) ?_
      rw [HV.out]
      exact ⟨_, rfl, ints_nil _ _ _, fin _ (below_step HB.out hb3)⟩
    by_cases hw2 : scanWords ls = 0
    case neg =>
      have HV : Hid (scanFold op l ls = ([], 2)) := by unfold Hid scanFold scanErr; simp [hE.out, HLen.out, hw2]
      have hw2' : (scanWords ls != 0) = true := by simpa using hw2
      have H1 := Lib.hid hw1; clear hw1
      go_wp2_with fail
      refine (scan_words l _ w2 (HA.out.below HB.out)).mono ?_
      rintro e w3 ⟨rfl, hb3⟩
      rw [H1.out]
      go_wp2_with fail
      refine (scan_words ls _ w3 ((HS.out.below HB.out).below hb3)).mono ?_
      rintro e w4 ⟨rfl, hb4⟩
      go_wp2_with fail
      refine leaveM_nil (results_tmp2 rfl _ _ _) ?_
      rw [HV.out]
      exact ⟨_, rfl, ints_nil _ _ _, fin _ (below_step (below_step HB.out hb3) hb4)⟩
    have H1 := Lib.hid hw1
    have H2 := Lib.hid hw2
    clear hw1 hw2
    go_wp2_with fail
    refine (scan_words l _ w2 (HA.out.below HB.out)).mono ?_
    rintro e w3 ⟨rfl, hb3⟩
    rw [H1.out]
    go_wp2_with fail
    refine (scan_words ls _ w3 ((HS.out.below HB.out).below hb3)).mono ?_
    rintro e w4 ⟨rfl, hb4⟩
    rw [H2.out]
    have hB4' := below_step (below_step HB.out hb3) hb4
    have hQ0' := cell_keep hb4 (cell_keep hb3 hQ0.out)
    have hQ1' := cell_keep hb4 (cell_keep hb3 hQ1.out)
    have hJ' := heap_keep hb4 (heap_keep hb3 hJ.out)
    clear hb3 hb4 hQ0 hQ1 hJ HB w2
    go_wp2_with fail
    have HB := Lib.hid hB4'
    have hQ0 := Lib.hid hQ0'
    have hQ1 := Lib.hid hQ1'
    have hJ := Lib.hid hJ'
    clear hB4' hQ0' hQ1' hJ' w3
    refine wpV_seq (wpV_of_wp ?_)
    go_wp2_with fail
    refine wpV_seq (wpV_of_wp ?_)
    go_wp2_with fail
    have hwrd : ∀ x ∈ ls, isWord x = true := scanWords_zero H2.out
    have HWd := Lib.hid hwrd; clear hwrd
    have hpre : ∀ k, k ≤ ls.length → offOf ls k ≤ k * 2147483647 := offOf_bound HWd.out
    have HPre := Lib.hid hpre; clear hpre
    go_loopw [12, 14, 47] (fun t _ i wr => wr = w4 ∧ ∃ k : Nat, k ≤ ls.length ∧ i = .int .i64 k ∧ t = .int .i64 (offOf ls k) ∧ ∀ j (h : j < ls.length), j < k → 0 ≤ ls[j]) (fun _ _ i _ => ls.length - (intOf i).toNat)
    case atStart => exact ⟨rfl, 0, Nat.zero_le _, rfl, by rw [offOf_zero]; rfl, fun j _ h => absurd h (by omega)⟩
    case round =>
      obtain ⟨rfl, k, hk, rfl, rfl, hpos⟩ := hrel
      have HPos := Lib.hid hpos; clear hpos
      by_cases hlt : k < ls.length
      · obtain ⟨b, off, rfl, hcell⟩ := (HS.out.below HB.out).at_ k hlt
        by_cases hneg : ls[k] < 0
        · have HV : Hid (scanFold op l ls = ([], 6)) := by
            have hb : segBad l ls = true := by
              unfold segBad
              have : ls.any (fun n => decide (n < 0)) = true := List.any_eq_true.2 ⟨ls[k], List.getElem_mem hlt, by simpa using hneg⟩
              simp [this]
            unfold Hid scanFold scanErr; simp [hE.out, HLen.out, H1.out, H2.out, hb]
          go_wp2_with fail
          refine leaveM_nil (results_tmp2 rfl _ _ _) ?_
          rw [HV.out]
          exact ⟨_, rfl, ints_nil _ _ _, fin _ HB.out⟩
        · have hls : ls[k] = ((lenOf ls k : Nat) : Int) := by unfold lenOf; simp [hlt]; omega
          have hoff := Lib.hid (offOf_succ hlt)
          have hbd := HPre.out (k + 1) hlt
          rw [hoff.out] at hbd
          have HLS := Lib.hid hls
          rw [hls] at hcell hneg
          clear hls
          generalize hok : offOf ls k = o at *
          generalize hlk : lenOf ls k = m at *
          have hw1 : wrap64 ((o : Int) + (m : Int)) = ((o + m : Nat) : Int) := by unfold wrap64; omega
          go_wp2_with fail
          go_roundw
          case rel => exact ⟨trivial, k + 1, hlt, by go_num, by rw [hoff.out, Int.natCast_add], fun j h hj => if e : j = k then by subst e; rw [HLS.out]; omega else HPos.out j h (by omega)⟩
          case measure => simp [intOf]; omega
      · obtain rfl : k = ls.length := by omega
        go_wp2_with fail
        generalize wr = wo at *
        have hbd := HPre.out ls.length (Nat.le_refl _)
        refine wpV_seq (wpV_of_wp ?_)
        by_cases htot : offOf ls ls.length = l.length
        case neg =>
          have HV : Hid (scanFold op l ls = ([], 6)) := by
            have hb : segBad l ls = true := by unfold segBad; simp [htot]
            unfold Hid scanFold scanErr; simp [hE.out, HLen.out, H1.out, H2.out, hb]
          have hne : (((offOf ls ls.length : Nat) : Int) != (l.length : Int)) = true := by rw [bne_iff_ne]; omega
          have HT := Lib.hid htot; clear htot
          go_wp2_with fail
          refine leaveM_nil (results_tmp2 rfl _ _ _) ?_
          rw [HV.out]
          exact ⟨_, rfl, ints_nil _ _ _, fin _ HB.out⟩
        case pos =>
          have HT := Lib.hid htot
          rw [htot]
          clear htot
          have HV : Hid (scanFold op l ls = ((List.range ls.length).map (foldOut op l ls), 0)) := by
            have hb : segBad l ls = false := by
              unfold segBad
              simp [HT.out]
              intro x hx
              obtain ⟨j, hj, rfl⟩ := List.getElem_of_mem hx
              exact HPos.out j hj hj
            unfold Hid scanFold scanErr; simp [hE.out, HLen.out, H1.out, H2.out, hb]
          go_wp2_with fail
          refine wpV_seq (wpV_of_wp ?_)
          go_wp2_with fail
          clear hbd
          refine wpV_seq (wpV_seq (wpV_of_wp ?_))
          go_wp2_with fail
          refine (scan_segments _ _ _ _ _ _ _).mono ?_
          rintro e w2 ⟨rfl, rfl⟩
          go_wp2_with fail
          refine wpV_block ?_
          have hs : (((wo.alloc (.cells #[.slice none 0 0] 22)).alloc (.cells #[.slice A l.length ca] 22)).alloc (.cells #[.slice B ls.length cb] 22)).heap.size = wo.heap.size + 3 := by simp
          refine rng2 (gf := 308) (lb := #[.pointer (some ⟨wo.heap.size + 2, 0, none⟩), .pointer (some ⟨wo.heap.size + 1, 0, none⟩)]) (by simp [Act.eval]) enters308 ⟨_, Tryz.func278⟩ ls.length (fun i => #[segOf A (offOf ls i) (lenOf ls i)]) (fun i => rfl) (wo.heap.size + 4) (by simp)
            (fun i W => Making wo.heap.size wo.heap.size W ((List.range i).map (foldOut op l ls)) ∧ W.heap[wo.heap.size + 1]? = some (.cells #[.slice A l.length ca] 22) ∧ Below wo.heap.size wo W)
            (fun _ _ => False) (fun _ _ => False) ?hI ?hIx ?h0 ?hround ?hiter ?hdone ?hstop ?hpanic
          case hI => exact fun i W o hl ⟨h1, h2, h3⟩ => ⟨h1.putObj hl, heap_putObj hl h2 rfl, below_putObj h3 (by omega)⟩
          case hIx => exact fun _ _ _ _ h => h.elim
          case h0 =>
            intro o
            have hm0 : Making wo.heap.size wo.heap.size (wo.alloc (.cells #[.slice none 0 0] 22)) [] :=
              ⟨⟨_, Nat.le_refl _, World.alloc_heap_new _ _, World.ownsRow_nil _ _ _ _, by simp [Value.ownBlock]⟩⟩
            refine ⟨((hm0.kept (below2 _ _ _)).kept (below2 _ _ _)), ?_, ?_⟩
            · exact heap_keep (below2 _ _ _) (heap_keep (below1 _ _) (by have := alloc_new (wo.alloc (.cells #[.slice none 0 0] 22)) (.cells #[.slice A l.length ca] 22); simpa using this))
            · exact below_into (below3 _ _ _ _) (by rw [hs]; omega) (below2 _ _ _)
          case hround =>
            rintro i W hi -
            gi_wp2
            refine ⟨trivial, ?_⟩
            clear W
            rintro W ⟨hm, hc, hb⟩ hl
            have HM := Lib.hid hm
            have HB2 := Lib.hid hb
            have hBW := below_step HB.out hb
            have hcj := block_cell (heap_keep hb hJ.out)
            have hj1 := (hcj 1 (by simp)).1
            have hj2 := (hcj 2 (by simp)).1
            have hw0 := (block_cell (heap_keep hb (heap_keep HB.out hW.out)) 0 (by simp)).1
            have hw1 := (block_cell (heap_keep hb (heap_keep HB.out hW.out)) 1 (by simp)).1
            simp only [List.getElem_toArray, List.getElem_cons_zero, List.getElem_cons_succ] at hj1 hj2 hw0 hw1
            have hseg := seg_ints (HA.out.below hBW) (offOf ls i) (lenOf ls i) (by rw [← offOf_succ hi, ← HT.out]; exact offOf_le ls (i + 1) hi)
            have hfo : foldOut op l ls i = ((l.drop (offOf ls i)).take (lenOf ls i)).foldl (fun s x => (wordDo op s x).1) no := by unfold foldOut; rw [HNO.out]
            have HFO := Lib.hid hfo; clear hfo
            have hsl : ((l.drop (offOf ls i)).take (lenOf ls i)).length = lenOf ls i := by
              have := offOf_le ls (i + 1) hi
              rw [offOf_succ hi, HT.out] at this
              rw [List.length_take, List.length_drop]; omega
            have HG2 := Lib.hid (HG.out.below hBW)
            have hq0 := Lib.hid (cell_keep hb hQ0.out)
            have hq1 := Lib.hid (cell_keep hb hQ1.out)
            generalize hsg : (l.drop (offOf ls i)).take (lenOf ls i) = part at *
            obtain ⟨PA, pc, hpv, hpm⟩ := hseg.form
            rw [hpv] at hseg ⊢
            have HSeg := Lib.hid hseg
            clear hm hb hl hcj hseg hBW hsg hsl hpv
            gi_wp2
            have HJB := Lib.hid (And.intro hj1 hj2)
            have HWB := Lib.hid (And.intro hw0 hw1)
            clear hj1 hj2 hw0 hw1
            gi_loopw [17, 19, 70] (fun t _ x wz => ∃ k : Nat, k ≤ part.length ∧ x = .int .i64 k ∧ t = .int .i64 ((part.take k).foldl (fun s x => (wordDo op s x).1) no) ∧ Below W.heap.size W wz) (fun _ _ x _ => part.length - (intOf x).toNat)
            case atStart => exact ⟨0, Nat.zero_le _, rfl, rfl, Below.refl _ _⟩
            case round =>
              obtain ⟨k, hk, rfl, rfl, hbz⟩ := hrel
              have HZ := Lib.hid hbz
              have hj2 := cell_keep hbz HJB.out.2
              have hw0 := cell_keep hbz HWB.out.1
              have hw1 := cell_keep hbz HWB.out.2
              by_cases hlt : k < part.length
              · obtain ⟨b, off, rfl, hcell⟩ := (HSeg.out.below hbz).at_ k hlt
                have hby := Lib.hid (scan_by q op no ((part.take k).foldl (fun s x => (wordDo op s x).1) no) part[k] wr (HG2.out.below hbz) (cell_keep hbz hq0.out) (cell_keep hbz hq1.out))
                have hnx : (wordDo op ((part.take k).foldl (fun s x => (wordDo op s x).1) no) part[k]).1 = (part.take (k + 1)).foldl (fun s x => (wordDo op s x).1) no := by
                  rw [List.take_succ_eq_append_getElem hlt, List.foldl_append]; rfl
                have HNX := Lib.hid hnx
                clear hbz hnx
                gi_wp2
                refine ⟨trivial, (CallsIn.inRound _ ((callsIn_wide (n := 4)).2 hby.out)).mono ?_⟩
                rintro e w3 ⟨rfl, hb3⟩
                have hz3 := below_step HZ.out hb3
                have hw0 := cell_keep hz3 HWB.out.1
                have HZ3 := Lib.hid hz3
                rw [HNX.out]
                clear hb3 hz3 hby hj2 hw1 hcell
                gi_wp2
                go_roundw
                case rel => exact ⟨k + 1, hlt, by go_num, rfl, HZ3.out⟩
                case measure => simp [intOf]; omega
              · obtain rfl : k = part.length := by omega
                have hvv : foldOut op l ls i = (part.take part.length).foldl (fun s x => (wordDo op s x).1) no := by rw [HFO.out, List.take_length]
                rw [← hvv]
                clear hvv
                obtain ⟨v, -, hh, hown, hne⟩ := (HM.out.kept hbz).out
                have hoc := (block_cell hh 0 (by simp)).1
                have hof := (block_cell hh 0 (by simp)).2
                have HH := Lib.hid hh
                have HOwn := Lib.hid hown
                simp only [List.getElem_toArray, List.getElem_cons_zero] at hoc
                obtain ⟨i0, hi0, hzz⟩ := Option.map_eq_some_iff.1 infoInt
                simp only [Prod.mk.injEq] at hzz
                obtain ⟨hz0, hz1, hz2⟩ := hzz
                have hu := Tryz.underlying22
                have hlen0 : ((List.range i).map (foldOut op l ls)).length = i := by simp
                have hbsz := HZ.out.size
                have hWsz := HB2.out.size
                clear hh hown hbz
                have HNews := Lib.hid (news1 wr (.int .i64 (foldOut op l ls i)) 3)
                gi_wp2_with (gi_at_builtin; go_loud (refine wpListIn_append_own_at (P := Tryz.prog) _ rfl _ _ 22 rfl wo.heap.size 3 i0 (.int .i64 0) 1 8 hu hi0 hz0 hz1 hz2 rfl (by omega) v _ _ rfl (HOwn.out.alloc _) ⟨wr.heap.size, 0, none⟩ 1 1 [.int .i64 (foldOut op l ls i)] rfl rfl HNews.out (by simp [Value.oneCell']) (by simp only [maxLen]; omega) (by omega) (by simp; omega) ?_); intro v' w' hown' hg' hn' hat'; obtain ⟨g', cap', rfl⟩ := ownsRow_succ hown'; have hh' := (hg'.block wo.heap.size (by simp; omega) (fun e => hne e.symm)).trans (heap_alloc HH.out _); have hc' := (block_cell hh' 0 (by simp)).1; have hf' := (block_cell hh' 0 (by simp)).2; simp only [List.getElem_toArray, List.getElem_cons_zero] at hc'; have HH2 := Lib.hid hh'; have HG3 := Lib.hid hg'; have HO3 := Lib.hid hown'; clear hh' hown' hg')
                obtain ⟨p1, p2, p3, p4⟩ := Making.put (x := foldOut op l ls i) (Nat.le_refl _) (heap_alloc HH.out (.cells #[.int .i64 (foldOut op l ls i)] 3)) (HOwn.out.alloc _) hne HO3.out HG3.out hat'
                rw [hlen0] at p1 p2 p3 p4
                have hbz := HZ.out.trans ((below1 wr (.cells #[.int .i64 (foldOut op l ls i)] 3)).mono hbsz)
                refine ⟨(Books.of_below hbz).trans p3, ?_, ?_, ?_⟩
                · rw [List.range_succ, List.map_append]; exact p1
                · exact p4 _ _ _ (heap_keep hbz hc) (by decide) (by omega)
                · exact (HB2.out.trans (hbz.mono hWsz)).trans p2
          case hiter =>
            rintro J Jx Jp W1 hJI hJs hY h0 hb
            refine seg_iter _ (wo.heap.size + 2) (wo.heap.size + 1) ls (.slice B ls.length cb) A l.length ca HT.out (HA.out.cap) (by omega) (fun i h => HPos.out i h h) J Jx Jp (fun i W hj => ⟨?_, ?_⟩) (fun i W hi hj => hY i W hi hj) W1 ?_ h0
            · exact (HS.out.below HB.out).below (hJI i W hj).2.2
            · rw [cell_of_heap (hJI i W hj).2.1]; rfl
            · exact cell_keep hb (by simp [go_sem])
          case hdone =>
            rintro W ⟨hm, hc, hb⟩ hD
            obtain ⟨v, -, hh, hown, hne⟩ := hm.out
            have hoc := (block_cell hh 0 (by simp)).1
            simp only [List.getElem_toArray, List.getElem_cons_zero] at hoc
            have hci := ints_of_own_above hown
            obtain ⟨VA, vc, rfl, hvm⟩ := hci.form
            have hlen1 : ((List.range ls.length).map (foldOut op l ls)).length = ls.length := by simp
            have hvc := hci.cap
            have hci2 : Ints (above wo.heap.size W) (.slice VA ls.length ls.length) ((List.range ls.length).map (foldOut op l ls)) := by
              obtain ⟨A', c', he, hm', hcc⟩ := hci
              cases he
              rw [hlen1] at hm'
              exact ⟨VA, ls.length, by rw [hlen1], by rw [hlen1]; exact ⟨hm'.1, Nat.le_refl _⟩, hcc⟩
            have HCI := Lib.hid hci2; clear hci2
            rw [hlen1] at hvc hoc
            have HB2 := Lib.hid hb
            have HD := Lib.hid hD
            clear hm hc hb hD hh hown hne hci
            refine wpV_of_wp ?_
            simp only [marked]
            go_wp2_with fail
            refine (scan_cut _ _ _ _ hvc).mono ?_
            rintro e w5 ⟨rfl, rfl⟩
            go_wp2_with fail
            rw [HV.out]
            have hD3 := HD.out
            simp only [hs] at hD3
            refine leaveM_mark (by simp) hD3 (leaveM_nil (results_tmp2 rfl _ _ _) ?_)
            refine ⟨_, rfl, ?_, ?_⟩
            · exact HCI.out.reads (reads_above_of (fin _ HB.out).size (reads_putBook hD3 rfl))
            · exact fin _ (below_step HB.out (below_putObj HB2.out (by omega)))
          case hstop => exact fun _ _ h => h.elim
          case hpanic => exact fun _ _ h => h.elim
set_option maxRecDepth 100000 in
theorem scan_fold (op : Int) (l ls : List Int) (vl vs : Value) (w : World) (hg : Glob w) (hl : Ints w vl l) (hs : Ints w vs ls) :
    Calls Tryz.prog 236 #[.int .i64 op, vl, vs] w (GivesList w (scanFold op l ls)) := by
  obtain ⟨A, ca, rfl, hma⟩ := hl.form
  obtain ⟨B, cb, rfl, hmb⟩ := hs.form
  have hc := Lib.hid (scan_told op l ls _ _ w hg hl hs)
  clear hg hl hs
  go_enter Tryz.func236, Tryz.ntmps236
  go_wp2_with fail
  refine hc.out.mono ?_
  rintro e w1 ⟨v, rfl, hv, hb⟩
  go_wp2_with fail
  go_ret2
  exact ⟨v, rfl, hv, hb⟩
end Go.Proofs.YtdkcjeaabbkdeaaGreatDoor
end
section
namespace Go.Proofs.YtdkcjeaabbkdeaaGreatDoor
open Go.RowKit
set_option linter.unusedVariables false
set_option linter.unusedSimpArgs false

/-- What plain.do makes of an operation, its number and lists. -/
def DoesPlain (k : Nat) (n : Int) (l : List (List Int)) (r : List Int × Int) : Prop :=
  ∀ (w : World) (vt vf vb vl : Value) (to : List Int), Glob w → Ints w vt to → Lists w vl l → Calls Tryz.prog 327 #[.agg #[.int .i64 k, .int .i64 n, vt, vf, vb], vl] w (GivesLists w (plainOut r to))

theorem enters223 : Enters Tryz.prog 223 := enters_of Tryz.func223 (by kernel_rfl) rfl
theorem enters228 : Enters Tryz.prog 228 := enters_of Tryz.func228 (by kernel_rfl) rfl
theorem enters236 : Enters Tryz.prog 236 := enters_of Tryz.func236 (by kernel_rfl) rfl
theorem enters240 : Enters Tryz.prog 240 := enters_of Tryz.func240 (by kernel_rfl) rfl
theorem enters265 : Enters Tryz.prog 265 := enters_of Tryz.func265 (by kernel_rfl) rfl
theorem enters272 : Enters Tryz.prog 272 := enters_of Tryz.func272 (by kernel_rfl) rfl
theorem enters275 : Enters Tryz.prog 275 := enters_of Tryz.func275 (by kernel_rfl) rfl

theorem row_bin (q : Nat) : shapeRowOf q 1 = [.int .i64 2, .int .i64 2, .int .i64 1, .func (.func 219) #[] #[], .func (.func 265) #[] #[.pointer (some ⟨q + 1, 0, none⟩)]] := by kernel_rfl
theorem does_bin (n : Int) (a b : List Int) : DoesPlain 1 n [a, b] (primBin n a b) := by
  intro w vt vf vb vl to hg ht hl
  refine plain_do 1 0 n vt vf vb vl to _ 265 #[.pointer (some ⟨w.heap.size + 1 + 1, 0, none⟩)] _ _ _ _ w enters265 (by decide) (row_bin _) ht (fun W hb hx => ?_)
  have hc := hx 1 (by decide) (by decide)
  have hh := vec_numbered1 223 enters223 (w.heap.size + 1 + 1) vl a b (primBin n a b) n W hc (hl.below hb) (fun w1 ua ub hb1 ha hb' => prim_bin n a b ua ub w1 ((hg.below hb).below hb1) ha hb')
  simpa only [List.append_toArray, List.cons_append, List.nil_append] using hh
theorem row_fold (q : Nat) : shapeRowOf q 9 = [.int .i64 2, .int .i64 2, .int .i64 1, .func (.func 235) #[] #[], .func (.func 265) #[] #[.pointer (some ⟨q + 9, 0, none⟩)]] := by kernel_rfl
theorem does_fold (n : Int) (a b : List Int) : DoesPlain 9 n [a, b] (scanFold n a b) := by
  intro w vt vf vb vl to hg ht hl
  refine plain_do 9 0 n vt vf vb vl to _ 265 #[.pointer (some ⟨w.heap.size + 1 + 9, 0, none⟩)] _ _ _ _ w enters265 (by decide) (row_fold _) ht (fun W hb hx => ?_)
  have hc := hx 9 (by decide) (by decide)
  have hh := vec_numbered1 236 enters236 (w.heap.size + 1 + 9) vl a b (scanFold n a b) n W hc (hl.below hb) (fun w1 ua ub hb1 ha hb' => scan_fold n a b ua ub w1 ((hg.below hb).below hb1) ha hb')
  simpa only [List.append_toArray, List.cons_append, List.nil_append] using hh
theorem row_pack (q : Nat) : shapeRowOf q 3 = [.int .i64 2, .int .i64 2, .int .i64 1, .func (.func 224) #[] #[], .func (.func 272) #[] #[.pointer (some ⟨q + 3, 0, none⟩)]] := by kernel_rfl
theorem does_pack (n : Int) (a b : List Int) : DoesPlain 3 n [a, b] (primPack a b) := by
  intro w vt vf vb vl to hg ht hl
  refine plain_do 3 0 n vt vf vb vl to _ 272 #[.pointer (some ⟨w.heap.size + 1 + 3, 0, none⟩)] _ _ _ _ w enters272 (by decide) (row_pack _) ht (fun W hb hx => ?_)
  have hc := hx 3 (by decide) (by decide)
  have hh := vec_two1 228 enters228 (w.heap.size + 1 + 3) vl a b (primPack a b) n W hc (hl.below hb) (fun w1 ua ub hb1 ha hb' => prim_pack a b ua ub w1 ha hb')
  simpa only [List.append_toArray, List.cons_append, List.nil_append] using hh
theorem row_len (q : Nat) : shapeRowOf q 13 = [.int .i64 1, .int .i64 1, .int .i64 1, .func (.func 224) #[] #[], .func (.func 275) #[] #[.pointer (some ⟨q + 13, 0, none⟩)]] := by kernel_rfl
theorem does_len (n : Int) (a : List Int) : DoesPlain 13 n [a] (primLen a) := by
  intro w vt vf vb vl to hg ht hl
  refine plain_do 13 0 n vt vf vb vl to _ 275 #[.pointer (some ⟨w.heap.size + 1 + 13, 0, none⟩)] _ _ _ _ w enters275 (by decide) (row_len _) ht (fun W hb hx => ?_)
  have hc := hx 13 (by decide) (by decide)
  have hh := vec_one1 240 enters240 (w.heap.size + 1 + 13) vl a (primLen a) n W hc (hl.below hb) (fun w1 ua hb1 ha => prim_len a ua w1 ha)
  simpa only [List.append_toArray, List.cons_append, List.nil_append] using hh
end Go.Proofs.YtdkcjeaabbkdeaaGreatDoor
end
