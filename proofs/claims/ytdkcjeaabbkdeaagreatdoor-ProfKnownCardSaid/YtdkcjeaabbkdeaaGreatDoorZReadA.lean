/- Package prof: must, anyAt, and strconv.Atoi in one statement. Package prof: a number of a line. -/
import Derived.Test.YtdkcjeaabbkdeaaGreatDoorZShelf
import Derived.Test.YtdkcjeaabbkdeaaGreatDoorZStr
import Derived.Laws.RangeString
import Derived.Deep.CutRange
set_option linter.unusedVariables false
set_option linter.unusedSimpArgs false
set_option linter.unnecessarySimpa false
set_option linter.unusedSectionVars false
section
namespace Go.Proofs.YtdkcjeaabbkdeaaGreatDoor
open Go.RowKit
set_option linter.unusedVariables false
set_option linter.unusedSimpArgs false

/-- The panic of what is no line. -/
def badE : List PanicEntry := [{ v := .iface 126 (.agg #[]), recovered := false }]
set_option maxRecDepth 100000 in
theorem must_yes (w : World) : Calls Tryz.prog 80 #[.bool true] w fun e w' => e = .returned (.tuple #[]) ∧ w' = w := by
  go_enter Tryz.func80, Tryz.ntmps80
  go_wp2
  go_end0
  exact ⟨rfl, rfl⟩
set_option maxRecDepth 100000 in
theorem must_no (w : World) : Calls Tryz.prog 80 #[.bool false] w fun e w' => e = .panicked badE ∧ w' = w := by
  go_enter Tryz.func80, Tryz.ntmps80
  go_wp2
  exact ⟨rfl, rfl, rfl⟩

/-! ### Range over a text, wherever its state lies -/
def bytesOf (l : List UInt8) : ByteArray := ⟨l.toArray⟩
theorem bytesOf_size (l : List UInt8) : (bytesOf l).size = l.length := by show l.toArray.size = _; simp
theorem bytesOf_get (l : List UInt8) (k : Nat) (h : k < l.length) : (bytesOf l)[k]'(by rw [bytesOf_size]; exact h) = l[k] := by
  show l.toArray[k] = _
  simp
def setIter (w : World) (b : Nat) (o : Obj) : World := { w with heap := w.heap.setIfInBounds b o }
theorem setIter_same {w : World} {b : Nat} {x o : Obj} (h : w.heap[b]? = some x) : (setIter w b o).heap[b]? = some o := by
  have := (Array.getElem?_eq_some_iff.1 h).1
  unfold setIter
  simp [this]
theorem setIter_other {w : World} {b i : Nat} {o : Obj} (h : i ≠ b) : (setIter w b o).heap[i]? = w.heap[i]? := by
  unfold setIter
  rw [Array.getElem?_setIfInBounds, if_neg (Ne.symm h)]
theorem setIter_below {B b : Nat} {w w' : World} {o : Obj} (h : Below B w w') (hb : B ≤ b) : Below B w (setIter w' b o) :=
  ⟨h.os, h.tape, h.output, by show _ ≤ (w'.heap.setIfInBounds b o).size; rw [Array.size_setIfInBounds]; exact h.size, fun k hk => (setIter_other (by omega)).trans (h.block k hk)⟩
theorem next_ascii {P : Program} {w : World} {b k : Nat} {l : List UInt8} (ty : TypeId) (hw : w.heap[b]? = some (.stringIter (bytesOf l) k)) (h : k < l.length) (ha : (l[k]).toNat < 128) :
    (Instr.next (.pointer (some ⟨b, 0, none⟩)) true ty).run P w = .ok (.tuple #[.bool true, .int .i64 k, .int .i32 (l[k]).toNat]) (setIter w b (.stringIter (bytesOf l) (k + 1))) := by
  have hk : k < (bytesOf l).size := by rw [bytesOf_size]; exact h
  have hd := decode_ascii (bytesOf l) k hk (by rw [bytesOf_get l k h]; exact ha)
  rw [bytesOf_get l k h] at hd
  simp [Instr.next, getObj, setObj, Sem.run_bind, Sem.run, hw, Result.andThen, hk, hd, goInt, setIter]
theorem next_over {P : Program} {w : World} {b k : Nat} {l : List UInt8} (ty : TypeId) (hw : w.heap[b]? = some (.stringIter (bytesOf l) k)) (h : ¬ k < l.length) :
    (Instr.next (.pointer (some ⟨b, 0, none⟩)) true ty).run P w = .ok (.tuple #[.bool false]) w := by
  have hk : ¬ k < (bytesOf l).size := by rw [bytesOf_size]; exact h
  simp [Instr.next, getObj, Sem.run, hw, hk]

/-- The first place of one of some characters. -/
def placeOf (l seps : List UInt8) : Int := match l.findIdx? (fun c => seps.contains c) with | some i => i | none => -1
def Ascii (l : List UInt8) : Prop := ∀ c ∈ l, c.toNat < 128

/-! ### strconv.Atoi, in one statement -/
def okOf (r : Lib.NumEnd Int) : Option Int := match r with | .ok v => some v | _ => none
def EGlob (w : World) : Prop := (∃ tp p, w.var? Tryz.prog "strconv.ErrSyntax" = some #[.iface tp p]) ∧ ∃ tp p, w.var? Tryz.prog "strconv.ErrRange" = some #[.iface tp p]
theorem var_keep {P : Program} {w w' : World} {n : String} {cs : Array Value} (hb : Below w.heap.size w w') (h : w.var? P n = some cs) : w'.var? P n = some cs := by
  unfold World.var? at h ⊢
  cases hg : P.globalNamed n with
  | none => rw [hg] at h; simp at h
  | some g =>
    rw [hg] at h
    simp only [Option.bind_some] at h ⊢
    cases ho : w.heap[g]? with
    | none => rw [ho] at h; simp at h
    | some o => rw [ho] at h; rw [heap_keep hb ho]; exact h
theorem EGlob.below {w w' : World} (h : EGlob w) (hb : Below w.heap.size w w') : EGlob w' := by
  obtain ⟨⟨tp, p, h1⟩, ⟨tp', p', h2⟩⟩ := h
  exact ⟨⟨tp, p, var_keep hb h1⟩, ⟨tp', p', var_keep hb h2⟩⟩
theorem atoi_of (l : List UInt8) (w : World) (hl : l.length ≤ 1000000000) (hg : EGlob w) : Calls Tryz.prog 147 #[.string (bytesOf l)] w fun e w' => Below w.heap.size w w' ∧ match okOf (Lib.atoiAll l) with
    | some v => e = .returned (.tuple #[.int .i64 v, .nilIface])
    | none => ∃ n N, e = .returned (.tuple #[.int .i64 n, .iface 289 (.pointer (some ⟨N, 0, none⟩))]) := by
  obtain ⟨⟨tp, p, h1⟩, ⟨tp', p', h2⟩⟩ := hg
  have hs : (bytesOf l).size = l.length := bytesOf_size l
  have hd : (bytesOf l).data.toList = l := by show l.toArray.toList = l; simp
  cases hr : Lib.atoiAll l with
  | ok v =>
    refine (Any.strconv_Atoi_ok Tryz.laysC172 (bytesOf l) (by omega) v (by rw [hd]; exact hr) w).mono ?_
    rintro e w' ⟨rfl, (rfl | ⟨t, rfl⟩)⟩
    · exact ⟨Below.refl _ _, rfl⟩
    · exact ⟨Lib.bytesWorld_below _ _ _, rfl⟩
  | _ =>
    first
    | (refine (Any.strconv_Atoi_syntax_var Tryz.laysC172 (bytesOf l) (by omega) (by rw [hd]; exact hr) tp p w h1).mono ?_
       rintro e w' ⟨N, rfl, -, -, hb⟩
       exact ⟨hb, _, N, rfl⟩)
    | (refine (Any.strconv_Atoi_range_var Tryz.laysC172 (bytesOf l) (by omega) (by rw [hd]; exact hr) tp' p' w h2).mono ?_
       rintro e w' ⟨N, rfl, -, -, hb⟩
       exact ⟨hb, _, N, rfl⟩)

theorem runeEq (a b : UInt8) : ((a.toNat : Int) == (b.toNat : Int)) = (a == b) := by
  rw [Bool.eq_iff_iff]
  simp only [beq_iff_eq]
  constructor
  · intro h; exact UInt8.toNat_inj.1 (by omega)
  · intro h; rw [h]
theorem placeOf_none {l seps : List UInt8} (h : ∀ i (hi : i < l.length), seps.contains l[i] = false) : placeOf l seps = -1 := by
  unfold placeOf
  rw [List.findIdx?_eq_none_iff.2 (fun c hc => by
    obtain ⟨i, hi, rfl⟩ := List.mem_iff_getElem.1 hc
    simpa using h i hi)]
theorem placeOf_some {l seps : List UInt8} (k : Nat) (hk : k < l.length) (h1 : seps.contains l[k] = true) (h : ∀ i (hi : i < k), seps.contains (l[i]'(by omega)) = false) : placeOf l seps = k := by
  unfold placeOf
  have : l.findIdx? (fun c => seps.contains c) = some k := by
    rw [List.findIdx?_eq_some_iff_getElem]
    exact ⟨hk, h1, fun j hj => by simpa using h j hj⟩
  rw [this]

set_option maxRecDepth 100000 in
set_option maxHeartbeats 1000000 in
theorem any_at (l seps : List UInt8) (w : World) (hl : Ascii l) (hs : Ascii seps) (hll : l.length ≤ 1000000000) (hsl : seps.length ≤ 1000) : Calls Tryz.prog 146 #[.string (bytesOf l), .string (bytesOf seps)] w (Gives w (.int .i64 (placeOf l seps))) := by
  have HLa := Lib.hid hl
  have HSa := Lib.hid hs
  clear hl hs
  have hu9 : Tryz.prog.underlying 9 = some .string := Tryz.underlying9
  go_enter Tryz.func146, Tryz.ntmps146
  go_wp2_with fail
  have hi0 := World.iter_heap w (bytesOf l) 0
  have HB0 : Hid (Below w.heap.size w (w.iter (bytesOf l) 0)) := below1 _ _
  generalize w.iter (bytesOf l) 0 = w1 at *
  generalize hB : w.heap.size = B at *
  go_loopw [5, 6, 8] (fun _ _ _ wr => ∃ k : Nat, k ≤ l.length ∧ (∀ i (hi : i < k) (hi2 : i < l.length), seps.contains l[i] = false) ∧ Below B w wr ∧ wr.heap[B]? = some (.stringIter (bytesOf l) k) ∧ B < wr.heap.size) (fun _ _ _ wr => match wr.heap[B]? with | some (.stringIter _ k) => l.length - k | _ => 0)
  case atStart => exact ⟨0, Nat.zero_le _, fun i hi => by omega, HB0.out, hi0, (Array.getElem?_eq_some_iff.1 hi0).1⟩
  case round =>
  obtain ⟨k, hk, hno, hb, hit, hlt0⟩ := hrel
  have HNo := Lib.hid hno
  have HBr := Lib.hid hb
  have HIt := Lib.hid hit
  clear hno hb
  by_cases hlt : k < l.length
  case neg =>
    have hnx := next_over (P := Tryz.prog) (ty := 0) hit hlt
    clear hit
    go_wp2_with fail
    go_ret
    have : placeOf l seps = -1 := placeOf_none fun i hi => HNo.out i (by omega) hi
    exact ⟨ret_int this.symm, hB ▸ HBr.out⟩
  case pos =>
    have hnx := next_ascii (P := Tryz.prog) (ty := 0) hit hlt (HLa.out _ (List.getElem_mem hlt))
    have hit2 := setIter_same (o := .stringIter (bytesOf l) (k + 1)) hit
    have hb2 := setIter_below (b := B) (o := .stringIter (bytesOf l) (k + 1)) HBr.out (Nat.le_refl _)
    have hsz2 : B < (setIter wr B (.stringIter (bytesOf l) (k + 1))).heap.size := by show B < (wr.heap.setIfInBounds _ _).size; rw [Array.size_setIfInBounds]; exact hlt0
    clear hit
    generalize hW2 : setIter wr B (.stringIter (bytesOf l) (k + 1)) = W2 at *
    have hi3 := World.iter_heap W2 (bytesOf seps) 0
    have hb3 : Below B w (W2.iter (bytesOf seps) 0) := hb2.alloc (by omega) _
    have hit3 : (W2.iter (bytesOf seps) 0).heap[B]? = some (.stringIter (bytesOf l) (k + 1)) := heap_alloc hit2 _
    have HW3 := Lib.hid (And.intro hb3 (And.intro hit3 hi3))
    generalize hc : l[k] = c at *
    have HC := Lib.hid hc
    have HSz := Lib.hid hsz2
    clear hi3 hb3 hit3 hb2 hit2 hW2 hsz2 hc
    go_wp2_with fail
    clear hnx
    generalize W2.iter (bytesOf seps) 0 = W3 at *
    generalize hCb : W2.heap.size = C at *
    clear hCb
    go_loopw [8] (fun _ wr2 => ∃ j : Nat, j ≤ seps.length ∧ (∀ i (hi : i < j) (hi2 : i < seps.length), (seps[i] == c) = false) ∧ Below B w wr2 ∧ wr2.heap[B]? = some (.stringIter (bytesOf l) (k + 1)) ∧ wr2.heap[C]? = some (.stringIter (bytesOf seps) j)) (fun _ wr2 => match wr2.heap[C]? with | some (.stringIter _ j) => seps.length - j | _ => 0)
    case atStart => exact ⟨0, Nat.zero_le _, fun i hi => by omega, HW3.out⟩
    case round =>
    obtain ⟨j, hj, hno, hb, hito, hiti⟩ := hrel
    have HNo2 := Lib.hid hno
    have HB4 := Lib.hid hb
    have HO4 := Lib.hid hito
    have HI4 := Lib.hid hiti
    clear hno hb hito
    by_cases hlt2 : j < seps.length
    case neg =>
      have hnx := next_over (P := Tryz.prog) (ty := 0) hiti hlt2
      clear hiti
      go_wp2_with fail
      go_roundw
      case rel =>
        refine ⟨k + 1, hlt, fun i hi hi2 => ?_, HB4.out, HO4.out, (Array.getElem?_eq_some_iff.1 HO4.out).1⟩
        by_cases e : i < k
        · exact HNo.out i e hi2
        · obtain rfl : i = k := by omega
          rw [HC.out]
          simp only [List.contains_eq_any_beq, List.any_eq_false, Bool.not_eq_true]
          intro x hx
          obtain ⟨m, hm, rfl⟩ := List.mem_iff_getElem.1 hx
          have := HNo2.out m (by omega) hm
          rw [beq_eq_false_iff_ne] at this ⊢
          exact fun e => this e.symm
      case measure => rw [HO4.out, HIt.out]; simp; omega
    case pos =>
      have hnx := next_ascii (P := Tryz.prog) (ty := 0) hiti hlt2 (HSa.out _ (List.getElem_mem hlt2))
      have hit5 := setIter_same (o := .stringIter (bytesOf seps) (j + 1)) hiti
      have hb5 := setIter_below (b := C) (o := .stringIter (bytesOf seps) (j + 1)) HB4.out (by have := HSz.out; omega)
      have hito5 := (setIter_other (o := .stringIter (bytesOf seps) (j + 1)) (show B ≠ C by have := HSz.out; omega)).trans HO4.out
      have H5 := Lib.hid (And.intro hb5 (And.intro hito5 hit5))
      have heq := runeEq c seps[j]
      have HD := Lib.hid (fun i (h : i < seps.length) (e : i = j) => show seps[i] = seps[j] by subst e; rfl)
      generalize hd : seps[j] = d at *
      clear hiti hit5 hb5 hito5
      generalize setIter wr C (.stringIter (bytesOf seps) (j + 1)) = W5 at *
      by_cases hcd : (c == d) = true
      · rw [hcd] at heq
        go_wp2_with fail
        go_ret
        refine ⟨ret_int (placeOf_some k hlt ?_ fun i hi => HNo.out i hi (by omega)).symm, hB ▸ H5.out.1⟩
        rw [HC.out]
        simp only [List.contains_eq_any_beq, List.any_eq_true]
        refine ⟨d, ?_, hcd⟩
        rw [← hd]; exact List.getElem_mem _
      · have hcd' : (c == d) = false := by simpa using hcd
        rw [hcd'] at heq
        go_wp2_with fail
        go_roundw
        case rel =>
          refine ⟨j + 1, hlt2, fun i hi hi2 => ?_, H5.out.1, H5.out.2.1, H5.out.2.2⟩
          by_cases e : i < j
          · exact HNo2.out i e hi2
          · rw [HD.out i hi2 (by omega), beq_eq_false_iff_ne]
            rw [beq_eq_false_iff_ne] at hcd'
            exact fun e => hcd' e.symm
        case measure => rw [H5.out.2.2, HI4.out]; simp; omega
end Go.Proofs.YtdkcjeaabbkdeaaGreatDoor
end
section
namespace Go.Proofs.YtdkcjeaabbkdeaaGreatDoor
open Go.RowKit
set_option linter.unusedVariables false
set_option linter.unusedSimpArgs false

def upto (seps s : List UInt8) : Int := if seps = [] then s.length else placeOf s seps
/-- A number at a line's beginning, and what is left of the line. -/
def numS (max : Int) (seps s : List UInt8) : Option (Int × List UInt8) :=
  if upto seps s < 0 then none else match okOf (Lib.atoiAll (s.take (upto seps s).toNat)) with
    | none => none
    | some n => if 0 ≤ n ∧ n ≤ max ∧ Lib.itoa n = s.take (upto seps s).toNat then some (n, s.drop (upto seps s).toNat) else none
def NumPost (q : Nat) (r : Option (Int × List UInt8)) (w : World) (e : Ending) (w' : World) : Prop := w.grownBy w' (some q) ∧ match r with
  | some (n, rest) => e = .returned (.int .i64 n) ∧ w'.heap[q]? = some (.cells #[.string (bytesOf rest)] 129)
  | none => e = .panicked badE
theorem upto_le (seps s : List UInt8) : upto seps s ≤ s.length := by
  unfold upto placeOf
  split
  · omega
  · split
    · next i h => have := (List.findIdx?_eq_some_iff_getElem.1 h).1; omega
    · omega
theorem bytesOf_take (l : List UInt8) (i : Nat) : (bytesOf l).extract 0 i = bytesOf (l.take i) := by
  apply ByteArray.ext
  rw [ByteArray.data_extract]
  show l.toArray.extract 0 i = (l.take i).toArray
  simp
theorem bytesOf_drop (l : List UInt8) (i n : Nat) (h : n = l.length) : (bytesOf l).extract i n = bytesOf (l.drop i) := by
  subst h
  apply ByteArray.ext
  rw [ByteArray.data_extract]
  show l.toArray.extract i l.length = (l.drop i).toArray
  simp [List.take_of_length_le]
theorem bytesOf_inj {a b : List UInt8} (h : bytesOf a = bytesOf b) : a = b := by
  have := congrArg ByteArray.data h
  exact List.toArray_inj this
theorem bytesOf_toList (l : List UInt8) : (bytesOf l).toList = l := by
  rw [ByteArray.toList_eq]
  show l.toArray.toList = l
  simp
theorem grown_of_below {w w' : World} {row : Option Nat} (h : Below w.heap.size w w') : w.grownBy w' row := ⟨h.os, h.tape, h.output, h.size, fun k hk _ => h.block k hk⟩
set_option maxRecDepth 100000 in
set_option maxHeartbeats 1000000 in
theorem prof_number (max : Int) (seps s : List UInt8) (hseps : seps = [] ∨ seps = [59, 32]) (q : Nat) (w : World) (hq : w.heap[q]? = some (.cells #[.string (bytesOf s)] 129)) (ha : Ascii s) (hs : s.length ≤ 1000000) (hmax : max ≤ 4611686018427387904) (hg : EGlob w) (ht : Tab w) :
    Calls Tryz.prog 114 #[.pointer (some ⟨q, 0, none⟩), .int .i64 max, .string (bytesOf seps)] w (NumPost q (numS max seps s) w) := by
  have hsa : Ascii seps := by
    intro c hc
    rcases hseps with rfl | rfl
    · cases hc
    · simp at hc; rcases hc with rfl | rfl <;> decide
  have hat := any_at s seps w ha hsa (by omega) (by rcases hseps with rfl | rfl <;> simp)
  have HAt := Lib.hid hat
  have HQ := Lib.hid hq
  have HG := Lib.hid hg
  have HT := Lib.hid ht
  have c0 := (block_cell hq 0 (by simp)).1
  simp only [List.getElem_toArray, List.getElem_cons_zero] at c0
  have hlen : (bytesOf s).size = s.length := bytesOf_size s
  clear hat hg ht hq
  go_enter Tryz.func114, Tryz.ntmps114
  go_wp2_with fail
  refine HAt.out.mono ?_
  rintro e w1 ⟨rfl, hb1⟩
  have HQ1 := Lib.hid (heap_keep hb1 HQ.out)
  have HB1 := Lib.hid hb1
  have hq1 := heap_keep hb1 HQ.out
  have c1 := (block_cell hq1 0 (by simp)).1
  simp only [List.getElem_toArray, List.getElem_cons_zero] at c1
  clear hb1 hq1 c0
  have hE : (bytesOf seps).toList.isEmpty = decide (seps = []) := by
    rcases hseps with rfl | rfl <;> kernel_rfl
  go_upto_if 18 with (fail)
  go_cut [7] from 19 (fun v wx => v = .int .i64 (upto seps s) ∧ wx = w1)
  case first =>
    by_cases hsp : seps = []
    · have hE' : (bytesOf seps).toList.isEmpty = true := by rw [hE]; simp [hsp]
      have hu : upto seps s = s.length := by unfold upto; rw [if_pos hsp]
      clear hE
      go_wp2_with fail
      go_meet
      case rel => exact ⟨by rw [hu], rfl⟩
    · have hE' : (bytesOf seps).toList.isEmpty = false := by rw [hE]; simp [hsp]
      have hu : upto seps s = placeOf s seps := by unfold upto; rw [if_neg hsp]
      clear hE
      go_wp2_with fail
      go_meet
      case rel => exact ⟨by rw [hu], rfl⟩
  case rest =>
  obtain ⟨rfl, rfl⟩ := hcut
  have hle := upto_le seps s
  have hnum : numS max seps s = if upto seps s < 0 then none else match okOf (Lib.atoiAll (s.take (upto seps s).toNat)) with
    | none => none
    | some n => if 0 ≤ n ∧ n ≤ max ∧ Lib.itoa n = s.take (upto seps s).toNat then some (n, s.drop (upto seps s).toNat) else none := rfl
  have HNum := Lib.hid hnum
  clear hnum
  generalize upto seps s = i at *
  by_cases hi : i < 0
  case pos =>
    have hn : numS max seps s = none := by rw [HNum.out, if_pos hi]
    have h0 : decide (0 ≤ i) = false := by simp; omega
    go_wp2_with fail
    refine (must_no _).mono ?_
    rintro e w2 ⟨rfl, rfl⟩
    try rw [hn]
    exact ⟨rfl, ⟨HB1.out.os, HB1.out.tape, HB1.out.output, HB1.out.size, fun k hk _ => HB1.out.block k hk⟩, rfl⟩
  case neg =>
  obtain ⟨I, rfl⟩ : ∃ I : Nat, i = I := ⟨i.toNat, by omega⟩
  have hI0 : (0 : Int) ≤ (I : Int) := by omega
  have hI1 : (I : Int) ≤ (s.length : Int) := hle
  go_wp2_with fail
  refine (must_yes _).mono ?_
  rintro e w2 ⟨rfl, rfl⟩
  go_wp2_with fail
  have hato := atoi_of (s.take I) w2 (by simp; omega) (HG.out.below HB1.out)
  have HAto := Lib.hid hato
  rw [Int.toNat_natCast] at HNum
  have hpl : (s.take I).length = I := by simp; omega
  clear hato
  rw [bytesOf_take]
  refine HAto.out.mono ?_
  rintro e w3 ⟨hb3, he⟩
  have HB3 := Lib.hid (HB1.out.trans (hb3.mono HB1.out.size))
  have HQ3 := Lib.hid (heap_keep hb3 HQ1.out)
  clear hb3 HAto HQ1 c1 HAt
  cases hr : okOf (Lib.atoiAll (s.take I)) with
  | none =>
    rw [hr] at he
    obtain ⟨n, N, rfl⟩ := he
    have hn : numS max seps s = none := by rw [HNum.out, if_neg (by omega), hr]
    go_wp2_with fail
    refine (must_no _).mono ?_
    rintro e w4 ⟨rfl, rfl⟩
    try rw [hn]
    exact ⟨rfl, grown_of_below HB3.out, rfl⟩
  | some n =>
    rw [hr] at he
    subst he
    by_cases h1 : 0 ≤ n
    case neg =>
      have hn : numS max seps s = none := by rw [HNum.out, if_neg (by omega), hr]; simp only []; rw [if_neg (by omega)]
      go_wp2_with fail
      refine (must_no _).mono ?_
      rintro e w4 ⟨rfl, rfl⟩
      try rw [hn]
      exact ⟨rfl, grown_of_below HB3.out, rfl⟩
    by_cases h2 : n ≤ max
    case neg =>
      have hn : numS max seps s = none := by rw [HNum.out, if_neg (by omega), hr]; simp only []; rw [if_neg (by omega)]
      go_wp2_with fail
      refine (must_no _).mono ?_
      rintro e w4 ⟨rfl, rfl⟩
      try rw [hn]
      exact ⟨rfl, grown_of_below HB3.out, rfl⟩
    have hit := itoa_of n (by unfold inInt; omega) w3 (HT.out.below HB3.out)
    have HIt := Lib.hid hit
    clear hit
    go_wp2_with fail
    refine HIt.out.mono ?_
    rintro e w4 ⟨rfl, hb4⟩
    have HB4 := Lib.hid (HB3.out.trans (hb4.mono HB3.out.size))
    have HQ4 := Lib.hid (heap_keep hb4 HQ3.out)
    clear hb4 HQ3 HIt
    go_wp2_with fail
    rw [bytesOf_toList]
    by_cases h3 : Lib.itoa n = s.take I
    case neg =>
      have hn : numS max seps s = none := by rw [HNum.out, if_neg (by omega), hr]; simp only []; rw [if_neg (fun h => h3 h.2.2)]
      have h4 : (Lib.itoa n == s.take I) = false := by rw [beq_eq_false_iff_ne]; exact h3
      rw [h4]
      refine (must_no _).mono ?_
      rintro e w5 ⟨rfl, rfl⟩
      try rw [hn]
      exact ⟨rfl, grown_of_below HB4.out, rfl⟩
    have hn : numS max seps s = some (n, s.drop I) := by rw [HNum.out, if_neg (by omega), hr]; simp only []; rw [if_pos ⟨h1, h2, h3⟩]
    have h4 : (Lib.itoa n == s.take I) = true := by rw [beq_iff_eq]; exact h3
    rw [h4]
    refine (must_yes _).mono ?_
    rintro e w5 ⟨rfl, rfl⟩
    have HN := Lib.hid hn
    have hq4 := block_cell HQ4.out 0 (by simp)
    obtain ⟨c4, f4⟩ := hq4
    simp only [List.getElem_toArray, List.getElem_cons_zero] at c4
    have hset := heap_setCell HQ4.out 0 (.string (bytesOf (s.drop I)))
    have HSet := Lib.hid hset
    have hgr : w.grownBy (w5.setCell ⟨q, 0, none⟩ (.string (bytesOf (s.drop I)))) (some q) := by
      have h := grown_of_below (row := some q) HB4.out
      exact ⟨h.os, h.tape, h.output, by rw [World.size_setCell]; exact h.size, fun k hk hne => by
        rw [Below.heap_setCell _ _ _ _ (fun e => hne (by rw [e]))]; exact h.block k hk hne⟩
    have HGr := Lib.hid hgr
    have hsl : s.length ≤ 9223372036854775807 := by omega
    clear hset hgr hn h3 h4
    go_wp2_with fail
    rw [bytesOf_drop s I _ rfl]
    go_ret
    rw [HN.out]
    exact ⟨HGr.out, rfl, by simpa using HSet.out⟩
end Go.Proofs.YtdkcjeaabbkdeaaGreatDoor
end
