/- What the rows' listed variables give: every table that the code reads holds what the text lays. What the rows of this seat share: closed facts of the program, and the door's own heap. -/
import Derived.Test.YtdkcjeaabbkdeaaGreatDoorZLawG
import Derived.Test.YtdkcjeaabbkdeaaGreatDoorRows
import Derived.Test.YtdkcjeaabbkdeaaGreatDoorCards
import Derived.Test.YtdkcjeaabbkdeaaGreatDoorTie
import Derived.ProofKit
import Derived.OpenShut
import Derived.LaidMore
import Derived.LaidHandle
import Derived.Lib.LaidTab
import Derived.Lib.SmallJoins
import Derived.Deep.Strs
import Derived.LaidOnce
import Derived.JoinedOf
import Derived.Stop.Joined
set_option linter.unusedVariables false
set_option linter.unusedSimpArgs false
set_option linter.unnecessarySimpa false
set_option linter.unusedSectionVars false
section
namespace Go.Proofs.YtdkcjeaabbkdeaaGreatDoor
open Go.ChangeShapes Go.WideShapes Go.ChangeAt Go.RowKit Go.Shelf
set_option linter.unusedVariables false
set_option linter.unusedSimpArgs false
/-- A listed variable: where it lies and what it reads as. -/
theorem laid_mem {P : Program} {W : World} : ∀ {l : List (String × DataW Unit)} {ps : List MemPlace}, DataW.LaidVars P W l ps → ∀ {n : String} {d : DataW Unit}, (n, d) ∈ l →
    ∃ g t cs fuel p, P.globalNamed n = some g ∧ (P.globals[g]?).map (·.type) = some t ∧ W.var? P n = some cs ∧ DataW.trod (fun _ => ()) P W 0 (fun _ => true) false fuel t cs.toList = some (d, p)
  | [], _, _, _, _, h => by cases h
  | (n0, d0) :: r, ps, h, n, d, hm => by
    obtain ⟨g, t, cs, fuel, p, q, h1, h2, h3, h4, h5, -⟩ := h
    rcases List.mem_cons.1 hm with e | hm
    · cases e; exact ⟨g, t, cs, fuel, p, h1, h2, h3, h4⟩
    · exact laid_mem h5 hm
/-- A part of an array of elements of one size. -/
theorem arr_part {H : Type} {enc : TypeId × Value → H} {P : Program} {w : World} {base : Nat} {sp : Nat → Bool} {held : Bool} {fuel n c : Nat} {t e : TypeId} {cs : List Value} {ds : List (DataW H)} {p : List MemPlace} (ht : P.underlying t = some (.array n e)) (hc : P.cellsOf e = c) (hct : P.cellsOf t = n * c)
    (h : DataW.trod enc P w base sp held fuel t cs = some (.agg ds, p)) : cs.length = n * c ∧ ∃ m, ∀ i, i < n → ∀ d, ds[i]? = some d → ∃ q, DataW.trod enc P w base sp held m e ((cs.drop (i * c)).take c) = some (d, q) := by
  obtain ⟨xs, m, -, hx, hl, hxl, hf⟩ := DataW.trod_array ht h
  simp only [Prod.mk.injEq, DataW.agg.injEq] at hx
  refine ⟨by rw [hl, hct], m, fun i hi d hd => ?_⟩
  rw [hx.1, List.getElem?_map] at hd
  obtain ⟨y, hy, rfl⟩ := Option.map_eq_some_iff.1 hd
  have := hf i hi
  rw [hc, hy] at this
  exact ⟨y.2, this⟩
theorem take_one {cs : List Value} {i : Nat} (h : i < cs.length) : (cs.drop i).take 1 = [cs[i]] := by
  rw [List.drop_eq_getElem_cons h]; rfl
/-- A table of functions. -/
theorem func_cell {W : World} {n : String} {g : Nat} {t e : TypeId} {m i : Nat} {ps rs : Array TypeId} {va : Bool} {cs : Array Value} {fuel : Nat} {ds : List (DataW (List UInt8))} {p : List MemPlace} {f0 : FuncId} {b : UInt8} {r : List UInt8}
    (hg : Tryz.prog.globalNamed n = some g) (hv : W.var? Tryz.prog n = some cs) (ht : Tryz.prog.underlying t = some (.array m e)) (he : Tryz.prog.underlying e = some (.func ps rs va)) (hc : Tryz.prog.cellsOf e = 1) (hct : Tryz.prog.cellsOf t = m)
    (h : DataW.trod (funcToken Tryz.prog) Tryz.prog W 0 (fun _ => true) true fuel t cs.toList = some (.agg ds, p)) (hi : i < m) (hd : ds[i]? = some (.held (b :: r)))
    (hone : ((List.range Tryz.prog.funcs.size).filter fun f => (Tryz.prog.funcs[f]?).any (·.name.toUTF8.data.toList == b :: r)) = [f0]) : W.cell? ⟨g, i, none⟩ = some (.func (.func f0) #[] #[]) := by
  obtain ⟨hl, k, hf⟩ := arr_part ht hc (by omega) h
  obtain ⟨q, hq⟩ := hf i hi _ hd
  have hi' : i < cs.toList.length := by omega
  rw [Nat.mul_one, take_one hi'] at hq
  have hv0 := func_of_trod he hone hq
  have := World.var?_cell hg hv i
  rw [this]
  have e : cs[i]? = some cs.toList[i] := by simp
  rw [e, hv0]
theorem g0 : Tryz.prog.globalNamed "sheafworks/prof.nobody" = some 0 := by kernel_rfl
theorem g1 : Tryz.prog.globalNamed "sheafworks/prof.fields" = some 1 := by kernel_rfl
theorem g2 : Tryz.prog.globalNamed "internal/strconv.uint64pow10" = some 2 := by kernel_rfl
theorem g3 : Tryz.prog.globalNamed "strconv.ErrSyntax" = some 3 := by kernel_rfl
theorem g4 : Tryz.prog.globalNamed "strconv.ErrRange" = some 4 := by kernel_rfl
theorem g7 : Tryz.prog.globalNamed "sheafworks/word.deeds" = some 7 := by kernel_rfl
theorem g8 : Tryz.prog.globalNamed "sheafworks/word.neutrals" = some 8 := by kernel_rfl
theorem g9 : Tryz.prog.globalNamed "sheafworks/word.laws" = some 9 := by kernel_rfl
theorem gt0 : (Tryz.prog.globals[0]?).map (·.type) = some 106 := by kernel_rfl
theorem gt1 : (Tryz.prog.globals[1]?).map (·.type) = some 121 := by kernel_rfl
theorem gt2 : (Tryz.prog.globals[2]?).map (·.type) = some 284 := by kernel_rfl
theorem gt3 : (Tryz.prog.globals[3]?).map (·.type) = some 173 := by kernel_rfl
theorem gt4 : (Tryz.prog.globals[4]?).map (·.type) = some 173 := by kernel_rfl
theorem gt7 : (Tryz.prog.globals[7]?).map (·.type) = some 347 := by kernel_rfl
theorem gt8 : (Tryz.prog.globals[8]?).map (·.type) = some 362 := by kernel_rfl
theorem gt9 : (Tryz.prog.globals[9]?).map (·.type) = some 363 := by kernel_rfl
theorem rco106 : Tryz.prog.cellsOf 106 = 1 := by kernel_rfl
theorem rco9 : Tryz.prog.cellsOf 9 = 1 := by kernel_rfl
theorem rco4 : Tryz.prog.cellsOf 4 = 1 := by kernel_rfl
theorem rco121 : Tryz.prog.cellsOf 121 = 3 := by kernel_rfl
theorem rco120 : Tryz.prog.cellsOf 120 = 1 := by kernel_rfl
theorem rco284 : Tryz.prog.cellsOf 284 = 20 := by kernel_rfl
theorem rco247 : Tryz.prog.cellsOf 247 = 1 := by kernel_rfl
theorem rco347 : Tryz.prog.cellsOf 347 = 12 := by kernel_rfl
theorem rco346 : Tryz.prog.cellsOf 346 = 1 := by kernel_rfl
theorem rco362 : Tryz.prog.cellsOf 362 = 12 := by kernel_rfl
theorem rco3 : Tryz.prog.cellsOf 3 = 1 := by kernel_rfl
theorem rco363 : Tryz.prog.cellsOf 363 = 36 := by kernel_rfl
theorem rco305 : Tryz.prog.cellsOf 305 = 3 := by kernel_rfl
/-- What all rows of this seat list. -/
def laidL : List (String × DataW Unit) := Rows.profTopsRow.laid
theorem laid_plain {W : World} (h : laidMetH Tryz.prog laidL W) {n : String} {d : DataW Unit} (hm : (n, d) ∈ laidL.filter fun x => x.2.handleName?.isNone) {g : Nat} {t : TypeId} (hg : Tryz.prog.globalNamed n = some g) (ht : (Tryz.prog.globals[g]?).map (·.type) = some t) :
    ∃ cs fuel p, W.var? Tryz.prog n = some cs ∧ DataW.trod (fun _ => ()) Tryz.prog W 0 (fun _ => true) false fuel t cs.toList = some (d, p) := by
  obtain ⟨ps, hp, -⟩ : laidMet Tryz.prog (laidL.filter fun x => x.2.handleName?.isNone) W := (show laidMet Tryz.prog _ W ∧ handlesMet Tryz.prog _ W from h).1
  obtain ⟨g', t', cs, fuel, p, h1, h2, h3, h4⟩ := laid_mem hp hm
  obtain rfl := Option.some.inj (hg.symm.trans h1)
  obtain rfl := Option.some.inj (ht.symm.trans h2)
  exact ⟨cs, fuel, p, h3, h4⟩
theorem laid_table {W : World} (h : laidMetH Tryz.prog laidL W) {n : String} {d : DataW Unit} (hm : (n, DataW.iface "func table" d) ∈ laidL) {g : Nat} {t : TypeId} (hg : Tryz.prog.globalNamed n = some g) (ht : (Tryz.prog.globals[g]?).map (·.type) = some t) :
    ∃ cs fuel p, W.var? Tryz.prog n = some cs ∧ DataW.trod (funcToken Tryz.prog) Tryz.prog W 0 (fun _ => true) true fuel t cs.toList = some (d.funcsOut, p) := by
  obtain ⟨g', t', cs, fuel, p, h1, h2, h3, h4⟩ := h.funcs hm
  obtain rfl := Option.some.inj (hg.symm.trans h1)
  obtain rfl := Option.some.inj (ht.symm.trans h2)
  exact ⟨cs, fuel, p, h3, h4⟩
set_option maxRecDepth 100000 in
theorem laid_iface {W : World} {n : String} {cs : Array Value} {fuel : Nat} {p : List MemPlace} {nm : String} {d : DataW Unit} (hv : W.var? Tryz.prog n = some cs) (h : DataW.trod (fun _ => ()) Tryz.prog W 0 (fun _ => true) false fuel 173 cs.toList = some (.iface nm d, p)) :
    ∃ tp q, W.var? Tryz.prog n = some #[.iface tp q] := by
  obtain ⟨u, x, hx⟩ : ∃ u x, cs.toList = [.iface u x] := by
    generalize cs.toList = L at h
    cases fuel with
    | zero => simp [DataW.trod] at h
    | succ m =>
      unfold DataW.trod at h
      rw [Tryz.underlying173] at h
      split at h <;> simp_all
  exact ⟨u, x, by rw [hv, Array.eq_one_of_toList hx]⟩
set_option maxRecDepth 100000 in
theorem tab_of {W : World} (h : laidMetH Tryz.prog laidL W) : Tab W := by
  obtain ⟨cs, fuel, p, hv, hd⟩ := laid_plain h (n := "internal/strconv.uint64pow10") (d := Rows.laid_internal_strconv_uint64pow10) (List.mem_filter.2 ⟨List.mem_of_getElem? (i := 2) rfl, rfl⟩) g2 gt2
  unfold Tab Lib.TabIs
  rw [hv, ← Lib.cells_of_tab (zs := Lib.pow10Tab) Tryz.underlying284 Tryz.underlying247 rco247 rco284 hd]
set_option maxRecDepth 100000 in
theorem neutrals_of {W : World} (h : laidMetH Tryz.prog laidL W) : ∀ k, k < 12 → W.cell? ⟨8, k, none⟩ = some (.int .i64 (neutralOf k)) := by
  obtain ⟨cs, fuel, p, hv, hd⟩ := laid_plain h (n := "sheafworks/word.neutrals") (d := Rows.laid_sheafworks_word_neutrals) (List.mem_filter.2 ⟨List.mem_of_getElem? (i := 7) rfl, rfl⟩) g8 gt8
  have hc := Lib.cells_of_tab (zs := [0, 0, 1, 0, 0, 0, 0, 2147483647, -2147483648, -1, 0, 0]) Tryz.underlying362 Tryz.underlying3 rco3 rco362 hd
  intro k hk
  rw [World.var?_cell g8 hv k]
  have e : cs[k]? = cs.toList[k]? := by simp
  rw [e, hc]
  have : k = 0 ∨ k = 1 ∨ k = 2 ∨ k = 3 ∨ k = 4 ∨ k = 5 ∨ k = 6 ∨ k = 7 ∨ k = 8 ∨ k = 9 ∨ k = 10 ∨ k = 11 := by omega
  rcases this with rfl | rfl | rfl | rfl | rfl | rfl | rfl | rfl | rfl | rfl | rfl | rfl <;> rfl
theorem nobody_of {W : World} (h : laidMetH Tryz.prog laidL W) : NGlob W := by
  obtain ⟨cs, fuel, p, hv, hd⟩ := laid_plain h (n := "sheafworks/prof.nobody") (d := Rows.laid_sheafworks_prof_nobody) (List.mem_filter.2 ⟨List.mem_of_getElem? (i := 8) rfl, rfl⟩) g0 gt0
  obtain ⟨y, n, hx, hl, hy⟩ := trod_struct1 Tryz.underlying106 hd
  simp only [rco9, List.drop_zero] at hy
  obtain ⟨s, hs, rfl, -⟩ := DataW.trod_string Tryz.underlying9 hy
  rw [rco106] at hl
  have hx1 := congrArg Prod.fst hx
  have hx2 : s.data.toList = [] := by
    have : (DataW.agg [DataW.lit (Lit.string [])] : DataW Unit) = .agg [.lit (.string s.data.toList)] := hx1
    simpa using this
  have e : cs.toList = [.string s] := by rw [← hs, List.take_of_length_le (by omega)]
  show W.cell? ⟨0, 0, none⟩ = some (.string ⟨#[]⟩)
  rw [World.var?_cell g0 hv 0, Array.eq_one_of_toList e]
  obtain ⟨⟨d⟩⟩ := s
  simp only at hx2
  subst hx2
  rfl
theorem fields_of {W : World} (h : laidMetH Tryz.prog laidL W) : PGlob W := by
  obtain ⟨cs, fuel, p, hv, hd⟩ := laid_table h (n := "sheafworks/prof.fields") (List.mem_of_getElem? (i := 9) rfl) g1 gt1
  refine ⟨?_, ?_, ?_⟩
  · exact func_cell g1 hv Tryz.underlying121 Tryz.underlying120 rco120 rco121 hd (i := 0) (by omega) rfl (by kernel_rfl)
  · exact func_cell g1 hv Tryz.underlying121 Tryz.underlying120 rco120 rco121 hd (i := 1) (by omega) rfl (by kernel_rfl)
  · exact func_cell g1 hv Tryz.underlying121 Tryz.underlying120 rco120 rco121 hd (i := 2) (by omega) rfl (by kernel_rfl)
set_option maxRecDepth 100000 in
theorem deeds_of {W : World} (h : laidMetH Tryz.prog laidL W) : ∀ k, k < 12 → W.cell? ⟨7, k, none⟩ = some (.func (.func (deedFn k)) #[] #[]) := by
  obtain ⟨cs, fuel, p, hv, hd⟩ := laid_table h (n := "sheafworks/word.deeds") (List.mem_of_getElem? (i := 5) rfl) g7 gt7
  intro k hk
  have : k = 0 ∨ k = 1 ∨ k = 2 ∨ k = 3 ∨ k = 4 ∨ k = 5 ∨ k = 6 ∨ k = 7 ∨ k = 8 ∨ k = 9 ∨ k = 10 ∨ k = 11 := by omega
  rcases this with rfl | rfl | rfl | rfl | rfl | rfl | rfl | rfl | rfl | rfl | rfl | rfl
  · exact func_cell (f0 := 334) g7 hv Tryz.underlying347 Tryz.underlying346 rco346 rco347 hd (i := 0) (by omega) rfl (by kernel_rfl)
  · exact func_cell (f0 := 338) g7 hv Tryz.underlying347 Tryz.underlying346 rco346 rco347 hd (i := 1) (by omega) rfl (by kernel_rfl)
  · exact func_cell (f0 := 339) g7 hv Tryz.underlying347 Tryz.underlying346 rco346 rco347 hd (i := 2) (by omega) rfl (by kernel_rfl)
  · exact func_cell (f0 := 340) g7 hv Tryz.underlying347 Tryz.underlying346 rco346 rco347 hd (i := 3) (by omega) rfl (by kernel_rfl)
  · exact func_cell (f0 := 341) g7 hv Tryz.underlying347 Tryz.underlying346 rco346 rco347 hd (i := 4) (by omega) rfl (by kernel_rfl)
  · exact func_cell (f0 := 342) g7 hv Tryz.underlying347 Tryz.underlying346 rco346 rco347 hd (i := 5) (by omega) rfl (by kernel_rfl)
  · exact func_cell (f0 := 343) g7 hv Tryz.underlying347 Tryz.underlying346 rco346 rco347 hd (i := 6) (by omega) rfl (by kernel_rfl)
  · exact func_cell (f0 := 344) g7 hv Tryz.underlying347 Tryz.underlying346 rco346 rco347 hd (i := 7) (by omega) rfl (by kernel_rfl)
  · exact func_cell (f0 := 345) g7 hv Tryz.underlying347 Tryz.underlying346 rco346 rco347 hd (i := 8) (by omega) rfl (by kernel_rfl)
  · exact func_cell (f0 := 346) g7 hv Tryz.underlying347 Tryz.underlying346 rco346 rco347 hd (i := 9) (by omega) rfl (by kernel_rfl)
  · exact func_cell (f0 := 347) g7 hv Tryz.underlying347 Tryz.underlying346 rco346 rco347 hd (i := 10) (by omega) rfl (by kernel_rfl)
  · exact func_cell (f0 := 348) g7 hv Tryz.underlying347 Tryz.underlying346 rco346 rco347 hd (i := 11) (by omega) rfl (by kernel_rfl)
set_option maxRecDepth 100000 in
theorem law_triple {W : World} {cs : List Value} {m : Nat} {a b c : Bool} {q : List MemPlace} (h : DataW.trod (fun _ => ()) Tryz.prog W 0 (fun _ => true) false m 305 cs = some (.agg [.lit (.bool a), .lit (.bool b), .lit (.bool c)], q)) : cs = [.bool a, .bool b, .bool c] := by
  obtain ⟨y0, y1, y2, n, hx, hl, h0, h1, h2⟩ := Deep.trod_struct3 Tryz.underlying305 h
  simp only [rco305] at hl
  match cs, hl with
  | [c0, c1, c2], _ =>
    simp [rco4] at h0 h1 h2
    obtain ⟨b0, e0, rfl⟩ := DataW.trod_bool Tryz.underlying4 h0
    obtain ⟨b1, e1, rfl⟩ := DataW.trod_bool Tryz.underlying4 h1
    obtain ⟨b2, e2, rfl⟩ := DataW.trod_bool Tryz.underlying4 h2
    simp at hx e0 e1 e2
    obtain ⟨⟨rfl, rfl, rfl⟩, -⟩ := hx
    rw [e0, e1, e2]
theorem law_part {W : World} {cs : Array Value} {fuel : Nat} {ds : List (DataW Unit)} {p : List MemPlace} (hv : W.var? Tryz.prog "sheafworks/word.laws" = some cs) (hd : DataW.trod (fun _ => ()) Tryz.prog W 0 (fun _ => true) false fuel 363 cs.toList = some (.agg ds, p))
    (k : Nat) (hk : k < 12) (a b c : Bool) (he : ds[k]? = some (.agg [.lit (.bool a), .lit (.bool b), .lit (.bool c)])) :
    W.cell? ⟨9, k * 3, none⟩ = some (.bool a) ∧ W.cell? ⟨9, k * 3 + 1, none⟩ = some (.bool b) ∧ W.cell? ⟨9, k * 3 + 2, none⟩ = some (.bool c) := by
  obtain ⟨hl, m, hf⟩ := arr_part Tryz.underlying363 rco305 rco363 hd
  obtain ⟨q, hq⟩ := hf k hk _ he
  have e := law_triple hq
  have key : ∀ i (hi : i < 3), cs[k * 3 + i]? = ([.bool a, .bool b, .bool c] : List Value)[i]? := fun i hi => by
    rw [← e, List.getElem?_take_of_lt hi, List.getElem?_drop]; simp
  refine ⟨?_, ?_, ?_⟩
  · rw [World.var?_cell g9 hv]; exact key 0 (by omega)
  · rw [World.var?_cell g9 hv]; exact key 1 (by omega)
  · rw [World.var?_cell g9 hv]; exact key 2 (by omega)
set_option maxRecDepth 100000 in
theorem laws_of {W : World} (h : laidMetH Tryz.prog laidL W) : ∀ k, k < 12 → W.cell? ⟨9, k * 3, none⟩ = some (.bool (lawOf k).1) ∧ W.cell? ⟨9, k * 3 + 1, none⟩ = some (.bool (lawOf k).2.1) ∧ W.cell? ⟨9, k * 3 + 2, none⟩ = some (.bool (lawOf k).2.2) := by
  obtain ⟨cs, fuel, p, hv, hd⟩ := laid_plain h (n := "sheafworks/word.laws") (d := Rows.laid_sheafworks_word_laws) (List.mem_filter.2 ⟨List.mem_of_getElem? (i := 6) rfl, rfl⟩) g9 gt9
  intro k hk
  have : k = 0 ∨ k = 1 ∨ k = 2 ∨ k = 3 ∨ k = 4 ∨ k = 5 ∨ k = 6 ∨ k = 7 ∨ k = 8 ∨ k = 9 ∨ k = 10 ∨ k = 11 := by omega
  rcases this with rfl | rfl | rfl | rfl | rfl | rfl | rfl | rfl | rfl | rfl | rfl | rfl <;> exact law_part hv hd _ (by omega) _ _ _ rfl
theorem glob_of {W : World} (h : laidMetH Tryz.prog laidL W) : Glob W := ⟨deeds_of h, neutrals_of h, fun k hk => (laws_of h k hk).1, fun k hk => (laws_of h k hk).2.1, fun k hk => (laws_of h k hk).2.2⟩
set_option maxRecDepth 100000 in
theorem err_of {W : World} (h : laidMetH Tryz.prog laidL W) : EGlob W := by
  obtain ⟨cs, fuel, p, hv, hd⟩ := laid_plain h (n := "strconv.ErrSyntax") (d := Rows.laid_strconv_ErrSyntax) (List.mem_filter.2 ⟨List.mem_of_getElem? (i := 4) rfl, rfl⟩) g3 gt3
  obtain ⟨cs', fuel', p', hv', hd'⟩ := laid_plain h (n := "strconv.ErrRange") (d := Rows.laid_strconv_ErrRange) (List.mem_filter.2 ⟨List.mem_of_getElem? (i := 3) rfl, rfl⟩) g4 gt4
  exact ⟨laid_iface hv hd, laid_iface hv' hd'⟩
theorem allG_of {W : World} (h : laidMetH Tryz.prog laidL W) : AllG W := ⟨glob_of h, fields_of h, tab_of h, err_of h, nobody_of h⟩
end Go.Proofs.YtdkcjeaabbkdeaaGreatDoor
end
section
namespace Go.Proofs.YtdkcjeaabbkdeaaGreatDoor
open Go.ChangeShapes Go.WideShapes Go.ChangeAt Go.RowKit Go.Shelf
set_option linter.unusedVariables false
set_option linter.unusedSimpArgs false
theorem ownP : ownKnob Tryz.prog.godebug = none := by kernel_rfl
theorem laidOutP : laidOutB Tryz.prog = true := by kernel_rfl
set_option maxRecDepth 100000 in
/-- The door's own heap meets the condition. -/
theorem door_met (os : Os) (args : Array Value) : laidMetH Tryz.prog laidL ((World.doorLaid Tryz.prog 95 os).forCall (fun _ _ => 0) ⟨#[], args, []⟩).memory :=
  laidMetH_of_parts3 (fuel := 8) (laidMet_of_run' 8 (by kernel_rfl) (by kernel_rfl)) (by kernel_rfl) (by kernel_rfl)
theorem band {a b : Bool} (ha : a = true) (hb : b = true) : (a && b) = true := by rw [ha, hb]; rfl
theorem prog_c1 : laidOutB Tryz.pinned.checked.prog = true := by kernel_rfl
theorem prog_c2 : mapsRowed Tryz.pinned.checked.prog = true := by kernel_rfl
theorem prog_c24 : Tryz.pinned.checked.prog.stopsHeard = true := by kernel_rfl
theorem prog_c25 : Tryz.pinned.checked.prog.mayEnter = true := by kernel_rfl
theorem prog_main : Tryz.pinned.checked.prog.mainIs = some (true, ("2840bd1dea59425f3c1017161ec9298680b29d3a186cc757cab9535e6b832389" : String).toList) := by kernel_rfl
end Go.Proofs.YtdkcjeaabbkdeaaGreatDoor
end
