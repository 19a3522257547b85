/- Texts: a Builder of the call's own is written; the key of a stack. Package prof: the key of a stack, as a text. -/
import Derived.Test.YtdkcjeaabbkdeaaGreatDoorZShelf
import Derived.Test.YtdkcjeaabbkdeaaGreatDoorZProfA
import Derived.Test.YtdkcjeaabbkdeaaGreatDoorZMapv
import Derived.Lib.FrozenHead2
import Derived.Lib.ItoaLen
import Derived.Lib.AppendIntMem
set_option linter.unusedVariables false
set_option linter.unusedSimpArgs false
set_option linter.unnecessarySimpa false
set_option linter.unusedSectionVars false
section
namespace Go.Proofs.YtdkcjeaabbkdeaaGreatDoor
open Go.RowKit Go.Sort Go.Shelf
set_option linter.unusedVariables false
set_option linter.unusedSimpArgs false

theorem builderSize : (Tryz.prog.info? 171).map (·.size) = some 2 := by kernel_rfl
theorem builderLies : liesAt Tryz.prog Tryz.prog.depth 171 (2 / Tryz.prog.cellsOf 171) 0 171 1 = true := by kernel_rfl
theorem infoByte : (Tryz.prog.info? 5).map (fun i => (i.zero, i.size, i.bytes)) = some (some (.int .u8 0), 1, 1) := by kernel_rfl
/-- A Builder in block b that holds bytes, its rows from B on. -/
abbrev Bld (B b : Nat) (bs : List Value) (w : World) : Prop := Lib.IsBuilderF 171 5 B b bs w
set_option maxRecDepth 100000 in
theorem bld_check (B b : Nat) (bs : List Value) (w : World) (h : Bld B b bs w) : Calls Tryz.prog 142 #[.pointer (some ⟨b, 0, none⟩)] w fun e w' => e = .returned (.tuple #[]) ∧ Lib.BuilderAtF 171 5 B b (.pointer (some ⟨b, 0, none⟩)) bs w' ∧ RowKit.Below B w w' := by
  obtain ⟨j, hj, hjs⟩ := Option.map_eq_some_iff.1 builderSize
  rcases h with h | h
  · have h0 := h.cell0
    have hsh := h.shape
    have hfz := h.frozen0
    have HH := Lib.hid h
    clear h
    go_enter Tryz.func142, Tryz.ntmps142
    go_wp2
    rw [Lib.run_to_unsafe w ⟨b, 0, none⟩ Tryz.underlying168 Tryz.underlying249 hj (by rw [hjs]; decide) hsh (Nat.zero_lt_succ 1)]
    simp only [Result.andThen]
    rw [Oper.upon_value]
    go_wp2
    rw [run_callFunc_extern Tryz.func175 (by kernel_rfl) (by kernel_rfl) (by kernel_rfl) (e := Extern.AbiNoEscape.same) (by kernel_rfl)]
    rw [Lib.run_noEscape]
    simp only [Result.andThen]
    rw [Oper.upon_value]
    go_wp2
    rw [Lib.run_from_unsafe w ⟨b, 0, none⟩ Tryz.underlying249 Tryz.underlying168 hj hsh builderLies]
    simp only [Result.andThen]
    rw [Oper.upon_value]
    go_wp2
    go_end0
    exact ⟨rfl, HH.out.used _, (Below.refl B w).setCell (p := ⟨b, 0, none⟩) HH.out.1 _⟩
  · have h0 := h.cell0
    have HH := Lib.hid h
    clear h
    go_enter Tryz.func142, Tryz.ntmps142
    go_wp2
    rw [Lib.run_neq_ptr_same w _ Tryz.underlying168 hj]
    go_wp2
    go_end0
    exact ⟨rfl, HH.out, Below.refl B _⟩
set_option maxRecDepth 100000 in
set_option maxHeartbeats 400000 in
/-- A byte more. -/
theorem bld_byte (B b : Nat) (bs : List Value) (c : Int) (w : World) (h : Bld B b bs w) (hlen : bs.length + 1 ≤ 140737488355328) (hBw : B ≤ w.heap.size) :
    Calls Tryz.prog 104 #[.pointer (some ⟨b, 0, none⟩), .int .u8 c] w fun e w' => e = .returned .nilIface ∧ Bld B b (bs ++ [.int .u8 c]) w' ∧ RowKit.Below B w w' := by
  have HC := Lib.hid (bld_check B b bs w h)
  obtain ⟨i0, hi, hz0, hz1, hz2⟩ := info_parts infoByte
  clear h
  go_enter Tryz.func104, Tryz.ntmps104
  go_wp2_with fail
  refine HC.out.mono ?_
  rintro e w1 ⟨rfl, h1, hb1⟩
  obtain ⟨hB, v, hbk, hown, hne⟩ := h1
  have hlt : b < w1.heap.size := (Array.getElem?_eq_some_iff.1 hbk).1
  have c1 : w1.cell? ⟨b, 1, none⟩ = some v := (cell_of_heap hbk 1).trans rfl
  have HOwn := Lib.hid (hown.alloc (.cells #[.int .u8 c] 5))
  have HOwn0 := Lib.hid hown
  have HBk := Lib.hid hbk
  have HB1 := Lib.hid hb1
  have HNe := Lib.hid hne
  have hnews : ∀ j u, ([.int .u8 c] : List Value)[j]? = some u → (w1.alloc (.cells #[.int .u8 c] 5)).cell? ((⟨w1.heap.size, 0, none⟩ : Addr).add j) = some u := by
    intro j u hj
    match j, hj with
    | 0, hj => simp at hj; subst hj; simp [Addr.add]
  have HNews := Lib.hid hnews
  clear hown hbk hb1 hne hnews
  go_wp2_with (at_builtin; refine wpList_append_ownF _ rfl _ _ 169 rfl B 5 i0 (.int .u8 0) 1 1 Tryz.underlying169 hi hz0 hz1 hz2 rfl (by decide) _ _ _ rfl HOwn.out ⟨w1.heap.size, 0, none⟩ 1 1 [.int .u8 c] rfl rfl HNews.out (by simp [Value.oneCell']) (by unfold maxLen; omega) (by omega) (by have := HB1.out.size; simp; omega) ?_; intro v' w2 hown' hg' hn'; have HO2 := Lib.hid hown'; have HG2 := Lib.hid hg'; have hb2 := (hg'.block b (by simp; omega) (fun e => HNe.out e.symm)).trans (heap_alloc HBk.out _); have d1 : w2.cell? ⟨b, 1, none⟩ = some v := (cell_of_heap hb2 1).trans rfl; have f1 : w2.frozen? ⟨b, 1, none⟩ = false := frozen_of_heap hb2 1; have HB2 := Lib.hid hb2; obtain ⟨g, cap, rfl⟩ : ∃ g cap, v' = .slice (some ⟨g, 0, none⟩) (bs.length + 1) cap := (by rcases hown'.2 with ⟨_, h0⟩ | ⟨g, cap, cur, fz, hv, _⟩; (omega); (exact ⟨g, cap, hv⟩)); clear hown' hg' hn' hb2)
  go_ret
  refine ⟨rfl, .inr ?_, ?_⟩
  · exact Lib.BuilderAtF.put (T := 171) (e := 5) hB HB2.out (bs' := bs ++ [.int .u8 c]) (by simpa using HO2.out) (by decide)
  · exact ((HB1.out.alloc (by have := HB1.out.size; omega) _).grown HG2.out (by have := HB1.out.size; simp; omega) (fun k hk => (HOwn0.out.lt k hk).1)).setCell (p := ⟨b, 1, none⟩) hB _
set_option maxRecDepth 100000 in
set_option maxHeartbeats 400000 in
/-- A text more. -/
theorem bld_text (B b : Nat) (bs : List Value) (s : ByteArray) (w : World) (h : Bld B b bs w) (hlen : bs.length + s.size ≤ 140737488355328) (hBw : B ≤ w.heap.size) :
    Calls Tryz.prog 105 #[.pointer (some ⟨b, 0, none⟩), .string s] w fun e w' => e = .returned (.tuple #[.int .i64 s.size, .nilIface]) ∧ Bld B b (bs ++ Lib.strCells s) w' ∧ RowKit.Below B w w' := by
  have HC := Lib.hid (bld_check B b bs w h)
  obtain ⟨i0, hi, hz0, hz1, hz2⟩ := info_parts infoByte
  clear h
  go_enter Tryz.func105, Tryz.ntmps105
  go_wp2_with fail
  refine HC.out.mono ?_
  rintro e w1 ⟨rfl, h1, hb1⟩
  obtain ⟨hB, v, hbk, hown, hne⟩ := h1
  have hlt : b < w1.heap.size := (Array.getElem?_eq_some_iff.1 hbk).1
  have c1 : w1.cell? ⟨b, 1, none⟩ = some v := (cell_of_heap hbk 1).trans rfl
  have HOwn := Lib.hid hown
  have HBk := Lib.hid hbk
  have HB1 := Lib.hid hb1
  have HNe := Lib.hid hne
  clear hown hbk hb1 hne
  go_wp2_with (at_builtin; refine Lib.wpList_append_own_stringF _ rfl _ _ 169 9 rfl B 5 i0 Tryz.underlying169 Tryz.underlying9 hi hz0 hz1 hz2 _ _ _ rfl HOwn.out s rfl (by unfold maxLen; omega) (by omega) (by have := HB1.out.size; omega) ?_; intro v' w2 hown' hg' hn'; have HO2 := Lib.hid hown'; have HG2 := Lib.hid hg'; have hb2 := (hg'.block b hlt (fun e => HNe.out e.symm)).trans HBk.out; have d1 : w2.cell? ⟨b, 1, none⟩ = some v := (cell_of_heap hb2 1).trans rfl; have f1 : w2.frozen? ⟨b, 1, none⟩ = false := frozen_of_heap hb2 1; have HB2 := Lib.hid hb2; obtain ⟨ao, n', cap, rfl⟩ : ∃ ao n' cap, v' = .slice ao n' cap := (by rcases hown'.2 with ⟨hv, _⟩ | ⟨g, cap, cur, fz, hv, _⟩; (exact ⟨_, _, _, hv⟩); (exact ⟨_, _, _, hv⟩)); clear hown' hg' hn' hb2)
  go_ret2
  refine ⟨rfl, .inr ?_, ?_⟩
  · exact Lib.BuilderAtF.put (T := 171) (e := 5) hB HB2.out (bs' := bs ++ Lib.strCells s) (by simpa [Lib.strCells_length] using HO2.out) (by decide)
  · exact (HB1.out.grown HG2.out (by have := HB1.out.size; omega) (fun k hk => (HOwn.out.lt k hk).1)).setCell (p := ⟨b, 1, none⟩) hB _
end Go.Proofs.YtdkcjeaabbkdeaaGreatDoor
end
section
namespace Go.Proofs.YtdkcjeaabbkdeaaGreatDoor
open Go.RowKit Go.Sort Go.Shelf
set_option linter.unusedVariables false
set_option linter.unusedSimpArgs false

/-- The table that the library writes numbers by. -/
def Tab (w : World) : Prop := Lib.TabIs Tryz.prog w "internal/strconv.uint64pow10" .u64 Lib.pow10Tab
theorem Tab.below {w w' : World} (h : Tab w) (hb : RowKit.Below w.heap.size w w') : Tab w' := Lib.tabBelow_of_tabIs h w' hb
theorem below_grow (w : World) (k : Nat) (os : Array Obj) : RowKit.Below w.heap.size w (grow (w.drewN k) os) :=
  ⟨rfl, rfl, rfl, by rw [size_grow]; exact Nat.le_add_right _ _, fun j hj => heap_grow_old _ _ hj⟩
def textOf (l : List UInt8) : Value := .string ⟨l.toArray⟩
theorem itoa_of (n : Int) (hn : inInt n) (w : World) (ht : Tab w) : Calls Tryz.prog 75 #[.int .i64 n] w (Gives w (.string ⟨(Lib.itoa n).toArray⟩)) := by
  refine (Tryz.strconv_Itoa n hn.1 hn.2 w ht).mono ?_
  rintro e w' ⟨h1, k, os, rfl⟩
  exact ⟨h1, below_grow w k os⟩
theorem Bld.below {B b : Nat} {bs : List Value} {w w' : World} (h : Bld B b bs w) (hb : RowKit.Below w.heap.size w w') : Bld B b bs w' := by
  have key : ∀ p, Lib.BuilderAtF 171 5 B b p bs w → Lib.BuilderAtF 171 5 B b p bs w' := by
    rintro p ⟨hB, v, hbk, hown, hne⟩
    exact ⟨hB, v, heap_keep hb hbk, hown.kept (row := none) ⟨hb.os, hb.tape, hb.output, hb.size, fun i hi _ => hb.block i hi⟩ (by cases v.ownBlock <;> simp), hne⟩
  exact h.imp (key _) (key _)
/-- A stack, as a text. -/
def keyT : List Int → List UInt8
  | [] => []
  | x :: xs => Lib.itoa x ++ xs.flatMap fun n => 59 :: Lib.itoa n
theorem keyT_snoc (l : List Int) (x : Int) : keyT (l ++ [x]) = (if l.length = 0 then keyT l else keyT l ++ [59]) ++ Lib.itoa x := by
  cases l with
  | nil => simp [keyT]
  | cons a l => simp [keyT]
theorem keyT_take (l : List Int) (k : Nat) (h : k < l.length) : keyT (l.take (k + 1)) = (if k = 0 then keyT (l.take k) else keyT (l.take k) ++ [59]) ++ Lib.itoa l[k] := by
  rw [List.take_succ_eq_append_getElem h, keyT_snoc]
  have : (l.take k).length = k := by rw [List.length_take]; omega
  rw [this]
theorem keyT_length (l : List Int) (h : ∀ x ∈ l, inInt x) : (keyT l).length ≤ 22 * l.length := by
  have hl : ∀ n, n ≤ l.length → (keyT (l.take n)).length ≤ 22 * n := by
    intro n
    induction n with
    | zero => intro _; simp [keyT]
    | succ n ih =>
      intro hn
      have := ih (by omega)
      rw [keyT_take l n hn]
      have hi := h l[n] (List.getElem_mem hn)
      have := Lib.itoa_length_le l[n] hi.1 hi.2
      split <;> simp <;> omega
  have := hl l.length (Nat.le_refl _)
  rwa [List.take_length] at this

set_option maxRecDepth 100000 in
set_option maxHeartbeats 1000000 in
theorem prof_keyOf (l : List Int) (v : Value) (w : World) (hl : Ints w v l) (hin : ∀ x ∈ l, inInt x) (hlen : l.length ≤ 1000000000) (ht : Tab w) : Calls Tryz.prog 60 #[v] w (Gives w (.agg #[.string ⟨(keyT l).toArray⟩])) := by
  obtain ⟨A, c, rfl, hm⟩ := hl.form
  have HL := Lib.hid hl
  have HIn := Lib.hid hin
  have HTab := Lib.hid ht
  have hb2 := below2 w (.cells #[.string ⟨#[]⟩] 106) (.cells #[.pointer none, .slice none 0 0] 171)
  have HB2 := Lib.hid hb2
  have hbld : Bld (w.heap.size + 1) (w.heap.size + 1) (Lib.byteCells []) ((w.alloc (.cells #[.string ⟨#[]⟩] 106)).alloc (.cells #[.pointer none, .slice none 0 0] 171)) := by
    have := Lib.fresh_isBuilder 171 5 (w.alloc (.cells #[.string ⟨#[]⟩] 106))
    rw [show (w.alloc (.cells #[.string ⟨#[]⟩] 106)).heap.size = w.heap.size + 1 by simp] at this
    exact Lib.IsBuilderF.of this
  have HBld := Lib.hid hbld
  have HQ := Lib.hid (heap_alloc (alloc_new w (.cells #[.string ⟨#[]⟩] 106)) (.cells #[.pointer none, .slice none 0 0] 171))
  have hsz : ((w.alloc (.cells #[.string ⟨#[]⟩] 106)).alloc (.cells #[.pointer none, .slice none 0 0] 171)).heap.size = w.heap.size + 1 + 1 := by simp
  have HSz := Lib.hid hsz
  clear hl hin ht hb2 hbld hsz
  go_enter Tryz.func60, Tryz.ntmps60
  go_wp2_with fail
  generalize hw0 : (w.alloc (.cells #[.string ⟨#[]⟩] 106)).alloc (.cells #[.pointer none, .slice none 0 0] 171) = w0 at *
  clear hw0
  go_loopw [4, 5, 8] (fun _ _ i wr => ∃ k : Nat, k ≤ l.length ∧ i = .int .i64 k ∧ Bld (w.heap.size + 1) (w.heap.size + 1) (Lib.byteCells (keyT (l.take k))) wr ∧ RowKit.Below (w.heap.size + 1) w0 wr) (fun _ _ i _ => l.length - (intOf i).toNat)
  case atStart => exact ⟨0, Nat.zero_le _, rfl, HBld.out, Below.refl _ _⟩
  case round =>
    obtain ⟨k, hk, rfl, hbld, hb⟩ := hrel
    have HB := Lib.hid hb
    have HBw := Lib.hid (HB2.out.trans (hb.mono (Nat.le_succ _)))
    have HBl := Lib.hid hbld
    have hszr := hb.size
    have hszr' : Hid (w.heap.size + 1 ≤ wr.heap.size) := by unfold Hid; have := HSz.out; omega
    clear hb hbld hszr
    by_cases hlt : k < l.length
    · obtain ⟨b, off, rfl, hc⟩ := (HL.out.below HBw.out).at_ k hlt
      have hx := HIn.out l[k] (List.getElem_mem hlt)
      have hkt := keyT_take l k hlt
      have hlen1 := keyT_length (l.take k) (fun x hx => HIn.out x (List.mem_of_mem_take hx))
      have hlen2 : (l.take k).length ≤ k := by rw [List.length_take]; omega
      generalize l[k] = x at *
      have hil := Lib.itoa_length_le x hx.1 hx.2
      have HKT := Lib.hid hkt
      have hti := fun W (hb : RowKit.Below w.heap.size w W) => itoa_of x hx W (HTab.out.below hb)
      have HTi := Lib.hid hti
      generalize hks : keyT (l.take k) = ks at *
      generalize hit : Lib.itoa x = ix at *
      have hbd : Hid (ks.length + ix.length + 1 ≤ 140737488355328) := by unfold Hid; omega
      clear hkt hlen1 hlen2 hil hti hx hks hit
      by_cases hk0 : k = 0
      · subst hk0
        simp only [Nat.add_zero] at hc
        go_wp2_with fail
        refine (HTi.out wr HBw.out).mono ?_
        rintro e w1 ⟨rfl, hb1⟩
        have HB1 := Lib.hid (below_step HBw.out hb1)
        have hbl1 : Bld (w.heap.size + 1) (w.heap.size + 1) (Lib.byteCells ks) w1 := HBl.out.below hb1
        have hbt := bld_text _ _ _ ⟨ix.toArray⟩ w1 hbl1 (by have := hbd.out; simp only [Lib.byteCells_length]; show ks.length + ix.toArray.size ≤ _; simp; omega) (by have h1 := hb1.size; have h2 := hszr'.out; omega)
        have HBt := Lib.hid hbt
        have HBf := Lib.hid (HB.out.trans (hb1.mono hszr'.out))
        clear hb1 hbl1 hbt
        go_wp2_with fail
        refine HBt.out.mono ?_
        rintro e w2 ⟨rfl, hbl2, hb2⟩
        have HBl2 := Lib.hid hbl2
        have HB2' := Lib.hid hb2
        clear hbl2 hb2
        go_wp2_with fail
        go_roundw
        case rel =>
          refine ⟨1, hlt, by go_num, ?_, HBf.out.trans HB2'.out⟩
          have e1 : keyT (l.take 1) = ks ++ ix := by have := HKT.out; simpa using this
          rw [e1, Lib.byteCells_append]
          exact HBl2.out
        case measure => simp [intOf]; omega
      · have hk1 : Hid (k ≠ 0) := hk0
        have hpos : 0 < k := by omega
        clear hk0
        go_wp2_with fail
        have hbb := bld_byte _ _ _ 59 wr HBl.out (by have := hbd.out; simp only [Lib.byteCells_length]; omega) hszr'.out
        refine hbb.mono ?_
        rintro e w0' ⟨rfl, hbl0, hb0⟩
        have HBl0 := Lib.hid hbl0
        have HB0 := Lib.hid (HB.out.trans hb0)
        have HBw0 := Lib.hid (HB2.out.trans ((HB.out.trans hb0).mono (Nat.le_succ _)))
        have hsz0 : Hid (w.heap.size + 1 ≤ w0'.heap.size) := by unfold Hid; have := hb0.size; have := hszr'.out; omega
        clear hbl0 hb0 hbb
        go_wp2_with fail
        refine (HTi.out w0' HBw0.out).mono ?_
        rintro e w1 ⟨rfl, hb1⟩
        have hbl1 : Bld (w.heap.size + 1) (w.heap.size + 1) (Lib.byteCells ks ++ [.int .u8 59]) w1 := HBl0.out.below hb1
        have hbt := bld_text _ _ _ ⟨ix.toArray⟩ w1 hbl1 (by have := hbd.out; simp only [List.length_append, Lib.byteCells_length]; show ks.length + 1 + ix.toArray.size ≤ _; simp; omega) (by have h1 := hb1.size; have h2 := hsz0.out; omega)
        have HBt := Lib.hid hbt
        have HBf := Lib.hid (HB0.out.trans (hb1.mono hsz0.out))
        clear hb1 hbl1 hbt
        go_wp2_with fail
        refine HBt.out.mono ?_
        rintro e w2 ⟨rfl, hbl2, hb2⟩
        have HBl2 := Lib.hid hbl2
        have HB2' := Lib.hid hb2
        clear hbl2 hb2
        go_wp2_with fail
        go_roundw
        case rel =>
          refine ⟨k + 1, hlt, by go_num, ?_, HBf.out.trans HB2'.out⟩
          rw [HKT.out, if_neg hk1.out, Lib.byteCells_append, Lib.byteCells_append]
          exact HBl2.out
        case measure => simp [intOf]; omega
    · obtain rfl : k = l.length := by omega
      have hs := Tryz.Builder_String_any_k (w.heap.size + 1) (w.heap.size + 1) (keyT (l.take l.length)) wr HBl.out hszr'.out
      rw [List.take_length] at hs
      have HS := Lib.hid hs
      clear hs
      go_wp2_with fail
      refine HS.out.mono ?_
      rintro e w9 ⟨rfl, -, hb9, -⟩
      have hB9 := HBw.out.trans (hb9.mono (Nat.le_succ _))
      have hq := HB.out.trans hb9
      have h9 : w9.heap[w.heap.size]? = some (.cells #[.string ⟨#[]⟩] 106) := (hq.block _ (Nat.lt_succ_self _)).trans HQ.out
      have HB9 := Lib.hid hB9
      have HQ9 := Lib.hid h9
      have c0 := (block_cell h9 0 (by simp)).1
      have f0 := (block_cell h9 0 (by simp)).2
      simp only [List.getElem_toArray, List.getElem_cons_zero] at c0
      clear hb9 hB9 hq h9
      go_wp2_with fail
      have hlast := (block_cell (heap_setCell HQ9.out 0 (.string ⟨(keyT l).toArray⟩)) 0 (by simp)).1
      simp only [List.setIfInBounds_toArray, List.set_cons_zero, List.getElem_toArray, List.getElem_cons_zero] at hlast
      refine bodyPost_ret (v := .agg #[.string ⟨(keyT l).toArray⟩]) ?_ rfl ⟨rfl, HB9.out.setCell (p := ⟨w.heap.size, 0, none⟩) (Nat.le_refl _) _⟩
      simp [results, Tryz.results60, go_sem, hlast]
end Go.Proofs.YtdkcjeaabbkdeaaGreatDoor
end
