/- Package vec: a function that is called. -/
import Derived.Test.YtdkcjeaabbkdeaaGreatDoorZCodeI
set_option linter.unusedVariables false
set_option linter.unusedSimpArgs false
set_option linter.unnecessarySimpa false
set_option linter.unusedSectionVars false
namespace Go.Proofs.YtdkcjeaabbkdeaaGreatDoor
open Go.RowKit Go.Maps Go.Shelf
set_option linter.unusedVariables false
set_option linter.unusedSimpArgs false
attribute [local go_sem] Oper.semAt_some

structure Pre (c : Cfg) (p : Pr) (sem : Ins → List (List Int) → List (List Int) × Int) (br bs bc : Nat) (fn : Nat) (args : List (List Int)) (va : Value) (E : Int → Int → Option (List Int)) (n pad : Nat) (st : St) (now : Step) (w : World) : Prop where
  fixed : Fixed c p sem br bs bc w
  run : RunAt c E n st now w
  good : Good c (n + pad) st
  calls : st.calls ≤ st.count
  none : ∀ a r : Int, (st.calls : Int) ≤ a → E a r = none
  hfn : fn < p.funs.length
  hargs : Lists (pub c.R c.M w) va args
  params : ((p.funs.getD fn ⟨0, [], [], []⟩).params : Int) = args.length
  short : ∀ l ∈ args, l.length ≤ 1048576
/-- A function's registers at the start. -/
def ixs (k : Nat) : List Int := (List.range k).map fun (i : Nat) => (i : Int)
theorem ixs_take (m k : Nat) (h : k ≤ m) : (ixs m).take k = ixs k := by
  unfold ixs
  rw [← List.map_take, List.take_range, Nat.min_eq_left h]
theorem ixs_length (k : Nat) : (ixs k).length = k := by simp [ixs]
theorem ixs_get (m k : Nat) (h : k < (ixs m).length) : (ixs m)[k] = (k : Int) := by simp [ixs]

theorem ixs_succ (k : Nat) : ixs (k + 1) = ixs k ++ [(k : Int)] := by simp [ixs, List.range_succ]
theorem setsE_snoc (a : Int) : ∀ (ns : List Int) (ls : List (List Int)) (E : Int → Int → Option (List Int)) (n : Int) (l : List Int), ns.length = ls.length → setsE E a (ns ++ [n]) (ls ++ [l]) = setE (setsE E a ns ls) a n l
  | [], [], E, n, l, _ => rfl
  | x :: ns, y :: ls, E, n, l, h => by
    simp only [List.cons_append, setsE]
    exact setsE_snoc a ns ls _ n l (by simpa using h)
/-- What a function gives, rec being what the calls in it give. -/
def bodyF (sem : Ins → List (List Int) → List (List Int) × Int) (left : Nat) (rec : Int → List (List Int) → St → Except Int (St × List (List Int))) (f : Fn') (fn deep : Int) (args : List (List Int)) (st : St) : Except Int (St × List (List Int)) :=
  match codeF sem left rec deep fn 0 f.code (params args) { st with calls := st.calls + 1 } with
  | .error e => .error e
  | .ok (st', regs) => .ok (st', f.out.map regs)

theorem nil_do (k : Nat) (v : Array Value) (w : World) : (nilAhead (k + 1) 225 (.agg v) "sheafworks/vec.do").run Tryz.prog w = .ok (some false) w := by kernel_rfl
theorem method_do (k : Nat) (v : Array Value) (w : World) : (method (k + 1) 225 (.agg v) "sheafworks/vec.do").run Tryz.prog w = .ok (327, .agg v) w := by kernel_rfl
/-- Where a step and what it reads lie. -/
structure FromAt (c : Cfg) (W2 : World) (deep fn i : Int) (froms : List (List Int)) (v15 v16 : Value) (wx : World) : Prop where
  ex : ∃ b15 V vc, v15 = .pointer (some ⟨b15, 0, none⟩) ∧ v16 = .slice V froms.length vc ∧ Below W2.heap.size W2 wx ∧ W2.heap.size ≤ b15 ∧ wx.heap[b15]? = some (.cells #[.int .i64 deep, .int .i64 fn, .int .i64 i, .int .i64 0] 58) ∧ Lists (pub c.R c.M wx) (.slice V froms.length vc) froms
/-- The registers that code has written. -/
def Wr (nargs : Nat) (code : List Ins) (i : Nat) (r : Int) : Prop := (0 ≤ r ∧ r < nargs) ∨ ∃ x ∈ code.take i, r ∈ x.to
/-- What holds ahead of the i-th instruction. -/
structure Inv (c : Cfg) (sem : Ins → List (List Int) → List (List Int) × Int) (rec : Int → List (List Int) → St → Except Int (St × List (List Int))) (deep : Int) (fn : Nat) (code : List Ins) (nargs pad : Nat) (E : Int → Int → Option (List Int)) (own : Int) (R0 : Except Int (St × (Int → List Int))) (w5 : World) (i : Nat) (now : Step) (W : World) : Prop where
  ex : ∃ E' n' st' regs, RunAt c E' n' st' now W ∧ Turn c.R c.M w5 W ∧ Regs E E' own regs (Wr nargs code i) ∧ Good c (n' + pad) st' ∧ R0 = codeF sem c.left rec deep fn i (code.drop i) regs st' ∧ own < (st'.calls : Int)
theorem delE_other {E0 E : Int → Int → Option (List Int)} {own r : Int} (h : ∀ a, a ≠ own → E a = E0 a) : ∀ a, a ≠ own → delE E own r a = E0 a := fun a ha => by
  funext x; unfold delE; rw [if_neg (fun e => ha e.1), h a ha]
theorem delE_left {E : Int → Int → Option (List Int)} {own r x : Int} (h : delE E own r own x ≠ none) : x ≠ r ∧ E own x ≠ none := by
  unfold delE at h
  by_cases e : x = r
  · subst e; simp at h
  · rw [if_neg (fun e2 => e e2.2)] at h; exact ⟨e, h⟩
section
variable {c : Cfg} {sem : Ins → List (List Int) → List (List Int) × Int} {rec : Int → List (List Int) → St → Except Int (St × List (List Int))} {deep : Int} {fn : Nat} {code : List Ins} {nargs pad : Nat} {E : Int → Int → Option (List Int)} {own : Int} {R0 : Except Int (St × (Int → List Int))} {w5 : World} {i : Nat} {now : Step} {W : World}
theorem Inv.below {W' : World} (h : Inv c sem rec deep fn code nargs pad E own R0 w5 i now W) (hb : Below W.heap.size W W') : Inv c sem rec deep fn code nargs pad E own R0 w5 i now W' := by
  obtain ⟨E', n', st', regs, h1, h2, h3⟩ := h.ex
  exact ⟨E', n', st', regs, h1.below hb, h2.trans (Turn.of_below h1.ltR hb), h3⟩
theorem Inv.putBook {l : Nat} {o b : Obj} (h : Inv c sem rec deep fn code nargs pad E own R0 w5 i now W) (hl : W.heap[l]? = some b) (hb : isBook b = true) (hlw : w5.heap.size ≤ l) : Inv c sem rec deep fn code nargs pad E own R0 w5 i now (W.putObj l o) := by
  obtain ⟨E', n', st', regs, h1, h2, h3⟩ := h.ex
  exact ⟨E', n', st', regs, h1.putBook hl hb, h2.putBook hl hb (h1.neBook hl hb).1 hlw, h3⟩
end

set_option maxRecDepth 100000 in
set_option maxHeartbeats 4000000 in
theorem call_body (c : Cfg) (p : Pr) (sem : Ins → List (List Int) → List (List Int) × Int) (br bs bc : Nat) (hfit : Fit p sem) (hfl : c.fl = p.funs.length) (deep : Int) (hdeep : 1 ≤ deep ∧ deep ≤ 2000) (rec : Int → List (List Int) → St → Except Int (St × List (List Int)))
    (hrec : (deep = 2000 ∧ rec = fun _ _ _ => .error 9) ∨ (deep < 2000 ∧ ∀ (fn : Nat) args va E n pad st now w, Pre c p sem br bs bc fn args va E n pad st now w → Calls Tryz.prog 122 #[.int .i64 fn, .int .i64 (deep + 1), va, .pointer (some ⟨br, 0, none⟩), .pointer (some ⟨bs, 0, none⟩), .pointer (some ⟨bc, 0, none⟩)] w (CallPost c E pad st.calls w (rec fn args st))))
    (fn : Nat) (args : List (List Int)) (va : Value) (E : Int → Int → Option (List Int)) (n pad : Nat) (st : St) (now : Step) (w : World) (hout : ∀ fn args st st' out, rec fn args st = .ok (st', out) → out.length = (p.funs.getD fn.toNat ⟨0, [], [], []⟩).out.length) (hpre : Pre c p sem br bs bc fn args va E n pad st now w) :
    Calls Tryz.prog 122 #[.int .i64 fn, .int .i64 deep, va, .pointer (some ⟨br, 0, none⟩), .pointer (some ⟨bs, 0, none⟩), .pointer (some ⟨bc, 0, none⟩)] w (CallPost c E pad st.calls w (bodyF sem c.left rec (p.funs.getD fn ⟨0, [], [], []⟩) fn deep args st)) := by
  obtain ⟨hfix, hrun, hgood, hcalls, hnone, hfn, hargs, hparams, hshort⟩ := hpre
  obtain ⟨L, lc, rfl, hlm⟩ := hargs.form
  have hgd : p.funs.getD fn ⟨0, [], [], []⟩ = p.funs[fn] := by rw [List.getD_eq_getElem?_getD, List.getElem?_eq_getElem hfn]; rfl
  have HFF := Lib.hid (fit_fn hfit (List.getElem_mem hfn))
  rw [hgd] at hparams ⊢
  clear hgd
  obtain ⟨f, hff⟩ : ∃ f, f = p.funs[fn] := ⟨_, rfl⟩
  rw [← hff] at hparams HFF ⊢
  have HFe := Lib.hid hff
  clear hff
  have ha100 : args.length ≤ 100 := by have := HFF.out.params; omega
  have hRlt := hrun.ltR
  obtain ⟨vs, hR, -⟩ := hrun.cells
  have r3 := block_cell hR 3 (by simp [runCells])
  simp only [runCells, List.getElem_toArray, List.getElem_cons_zero, List.getElem_cons_succ] at r3
  obtain ⟨r3, f3⟩ := r3
  have cbr := (hide_some hfix.run).2
  have hbrlt := World.block_lt_of_cell? w _ cbr
  have hbr : ¬ br = c.R := by
    rintro rfl
    exact (hide_some hfix.run).1 (.inl rfl)
  have hcb : (st.calls : Int) + 1 ≤ 9223372036854775807 := by have := hgood.left; have := hgood.count; omega
  obtain ⟨g1, t1⟩ := hrun.setR (j := 3) (v := .int .i64 ((st.calls : Int) + 1)) (st' := { st with calls := st.calls + 1 }) (now' := now) (by decide) (fun vs => by simp [runCells]) rfl
  have hb3 := below3 (w.setCell ⟨c.R, 3, none⟩ (.int .i64 ((st.calls : Int) + 1))) (.cells #[.int .i64 deep] 3) (.cells #[.int .i64 st.calls] 3) (.cells #[.func (.func 123) #[] #[.pointer (some ⟨br, 0, none⟩), .pointer (some ⟨w.heap.size + 1, 0, none⟩)]] 195)
  have hsz : (w.setCell ⟨c.R, 3, none⟩ (.int .i64 ((st.calls : Int) + 1))).heap.size = w.heap.size := by show (w.heap.modify c.R _).size = _; rw [Array.size_modify]
  have hsb : stepsBlock c.R ((((w.setCell ⟨c.R, 3, none⟩ (.int .i64 ((st.calls : Int) + 1))).alloc (.cells #[.int .i64 deep] 3)).alloc (.cells #[.int .i64 st.calls] 3)).alloc (.cells #[.func (.func 123) #[] #[.pointer (some ⟨br, 0, none⟩), .pointer (some ⟨w.heap.size + 1, 0, none⟩)]] 195)) = stepsBlock c.R w := by
    unfold stepsBlock
    rw [hb3.cell (p := ⟨c.R, 5, none⟩) (by rw [hsz]; exact hRlt), World.cell?_setCell_other w ⟨c.R, 3, none⟩ ⟨c.R, 5, none⟩ _ (by intro e; injection e with _ e _; cases e)]
  have hbd := alloc_new (w.setCell ⟨c.R, 3, none⟩ (.int .i64 ((st.calls : Int) + 1))) (.cells #[.int .i64 deep] 3)
  have hbo := alloc_new ((w.setCell ⟨c.R, 3, none⟩ (.int .i64 ((st.calls : Int) + 1))).alloc (.cells #[.int .i64 deep] 3)) (.cells #[.int .i64 st.calls] 3)
  have hbf := alloc_new (((w.setCell ⟨c.R, 3, none⟩ (.int .i64 ((st.calls : Int) + 1))).alloc (.cells #[.int .i64 deep] 3)).alloc (.cells #[.int .i64 st.calls] 3)) (.cells #[.func (.func 123) #[] #[.pointer (some ⟨br, 0, none⟩), .pointer (some ⟨w.heap.size + 1, 0, none⟩)]] 195)
  replace hbd := heap_alloc (heap_alloc hbd (.cells #[.int .i64 st.calls] 3)) (.cells #[.func (.func 123) #[] #[.pointer (some ⟨br, 0, none⟩), .pointer (some ⟨w.heap.size + 1, 0, none⟩)]] 195)
  replace hbo := heap_alloc hbo (.cells #[.func (.func 123) #[] #[.pointer (some ⟨br, 0, none⟩), .pointer (some ⟨w.heap.size + 1, 0, none⟩)]] 195)
  rw [hsz] at hbd
  rw [show ((w.setCell ⟨c.R, 3, none⟩ (.int .i64 ((st.calls : Int) + 1))).alloc (.cells #[.int .i64 deep] 3)).heap.size = w.heap.size + 1 by rw [World.size_alloc, hsz]] at hbo
  rw [show (((w.setCell ⟨c.R, 3, none⟩ (.int .i64 ((st.calls : Int) + 1))).alloc (.cells #[.int .i64 deep] 3)).alloc (.cells #[.int .i64 st.calls] 3)).heap.size = w.heap.size + 1 + 1 by rw [World.size_alloc, World.size_alloc, hsz]] at hbf
  have HRn := Lib.hid (g1.below hb3)
  have HT1 := Lib.hid (t1.trans (Turn.of_below g1.ltR hb3))
  have HLtR := Lib.hid (And.intro hrun.ltR (And.intro hrun.ltM hrun.ltG))
  have HFix := Lib.hid (hfix.turn HT1.out)
  have HArgs := Lib.hid (hargs.reads HT1.out.reads)
  have HSb := Lib.hid hsb
  have HBd := Lib.hid hbd
  have HBo := Lib.hid hbo
  have HBf := Lib.hid hbf
  have HGood := Lib.hid hgood
  have HNone := Lib.hid hnone
  have HPar := Lib.hid hparams
  have HShort := Lib.hid hshort
  have HRec := Lib.hid hrec
  have HOutL := Lib.hid hout
  have HFit := Lib.hid hfit
  have hs1 : w.heap.size + 1 + 1 < ((((w.setCell ⟨c.R, 3, none⟩ (.int .i64 ((st.calls : Int) + 1))).alloc (.cells #[.int .i64 deep] 3)).alloc (.cells #[.int .i64 st.calls] 3)).alloc (.cells #[.func (.func 123) #[] #[.pointer (some ⟨br, 0, none⟩), .pointer (some ⟨w.heap.size + 1, 0, none⟩)]] 195)).heap.size := (Array.getElem?_eq_some_iff.1 hbf).1
  clear hb3 g1 t1 hR hbd hbo hbf hsb hfix hargs hrun hgood hnone hparams hshort hrec hfit hout
  refine calls_of_wpV Tryz.func122 rfl ?_
  simp only [Tryz.ntmps122, List.size_toArray, List.length_cons, List.length_nil, Nat.reduceAdd, Nat.reduceSub, Array.replicate_succ, Array.replicate_zero, List.push_toArray, List.append_toArray, List.nil_append, List.cons_append]
  refine wpV_seq (wpV_of_wp ?_)
  go_wp2_with fail
  refine wpV_scope (wpV_seq (wpV_of_wp ?_))
  go_wp2_with fail
  refine wpV_seq (wpV_of_wp ?_)
  go_wp2_with fail
  refine wpV_seq (wpV_of_wp ?_)
  go_wp2_with fail
  clear r3 f3 cbr hsz
  generalize hw1 : (((w.setCell ⟨c.R, 3, none⟩ (.int .i64 ((st.calls : Int) + 1))).alloc (.cells #[.int .i64 deep] 3)).alloc (.cells #[.int .i64 st.calls] 3)).alloc (.cells #[.func (.func 123) #[] #[.pointer (some ⟨br, 0, none⟩), .pointer (some ⟨w.heap.size + 1, 0, none⟩)]] 195) = w1 at *
  clear hw1
  generalize hqd : w.heap.size = qd at *
  have hns : ∀ q, qd ≤ q → ¬ spec c.R c.M w1 q := by
    obtain ⟨h1, h2, h3⟩ := HLtR.out
    rintro q hq (e | e | e)
    · omega
    · omega
    · rw [HSb.out] at e; have := h3 _ e; omega
  have HNS := Lib.hid hns
  clear hns
  refine wpV_seq (wpV_of_wp ?_)
  go_wp2_with fail
  go_loopw [12, 13, 38] (fun _ _ i wr => ∃ k : Nat, k ≤ args.length ∧ i = .int .i64 k ∧ RunAt c (setsE E st.calls (ixs k) (args.take k)) (n + k) { st with calls := st.calls + 1 } now wr ∧ Turn c.R c.M w1 wr) (fun _ _ i _ => args.length - (intOf i).toNat)
  case atStart => exact ⟨0, Nat.zero_le _, rfl, by simpa [ixs, setsE] using HRn.out, Turn.refl _ _ _⟩
  case round =>
    obtain ⟨k, hk, rfl, hrun, hturn⟩ := hrel
    have HRk := Lib.hid hrun
    have HTk := Lib.hid hturn
    clear hrun hturn
    by_cases hlt : k < args.length
    · obtain ⟨b2, off2, u, rfl, hcl, hu⟩ := (HArgs.out.reads (HTk.out.reads)).at_ k hlt
      have hrd := HRk.out.below (below_drew wr)
      have htd : Turn c.R c.M wr wr.drew := Turn.of_below HRk.out.ltR (below_drew wr)
      have hg := HGood.out
      obtain ⟨w2, hrun2, hput, hT2, hh2⟩ := hrd.put (a := (st.calls : Int)) (r := (k : Int)) (by have := hg.size; have := hg.count; have := hg.left; have := hg.calls; unfold maxLen; omega) (by unfold inInt; omega) (by unfold inInt; omega) (hu.reads htd.reads)
      obtain ⟨hs2, hc2⟩ := hide_some hcl
      have hbo := HTk.out.heap HBo.out (HNS.out _ (by omega))
      have hfr := (HFix.out.turn HTk.out).run
      obtain ⟨hsr, hcr⟩ := hide_some hfr
      obtain ⟨vs, hcR, -⟩ := HRk.out.cells
      have hqoM : qd + 1 ≠ c.M := fun e => HNS.out (qd + 1) (by omega) (.inr (.inl e))
      have hm0 : ∀ W : World, (∀ k, k ≠ c.M → W.heap[k]? = wr.heap[k]?) → W.cell? ⟨br, 0, none⟩ = some (.pointer (some ⟨c.R, 0, none⟩)) ∧ W.cell? ⟨c.R, 2, none⟩ = some (.map (some c.M)) ∧ W.cell? ⟨qd + 1, 0, none⟩ = some (.int .i64 st.calls) := fun W hW => by
        refine ⟨?_, ?_, ?_⟩
        · exact (World.cell?_of_block (hW _ (fun e => hsr (.inr (.inl e))))).trans hcr
        · rw [cell_of_heap ((hW _ HRk.out.ne).trans hcR)]; rfl
        · rw [cell_of_heap ((hW _ hqoM).trans hbo)]; rfl
      have HM0 := Lib.hid hm0
      have HS1 := Lib.hid (hm0 w2 (fun k hk => (hh2 k hk).trans rfl))
      have HPut := Lib.hid hput
      have HT2 := Lib.hid (htd.trans hT2)
      obtain ⟨U, uc, rfl, hum⟩ := hu.form
      clear hcl hput hT2 hm0 hbo hfr hcR hcr hrd htd hu hg
      go_wp2_with fail
      go_region_held3 (fun W => W.cell? ⟨br, 0, none⟩ = some (.pointer (some ⟨c.R, 0, none⟩)) ∧ W.cell? ⟨c.R, 2, none⟩ = some (.map (some c.M)) ∧ W.cell? ⟨qd + 1, 0, none⟩ = some (.int .i64 st.calls)) (first | assumption | exact HM0.out _ (fun _ _ => rfl) | exact HS1.out) (first | fail)
      go_wp2
      go_roundw
      case rel =>
        refine ⟨k + 1, hlt, by go_num, ?_, HTk.out.trans HT2.out⟩
        rw [ixs_succ, List.take_succ_eq_append_getElem hlt, setsE_snoc _ _ _ _ _ _ (by rw [ixs_length, List.length_take]; omega), ← Nat.add_assoc]
        exact HPut.out
      case measure => simp [intOf]; omega
    · obtain rfl : k = args.length := by omega
      rw [List.take_length] at HRk
      have HTw := Lib.hid (HT1.out.trans HTk.out)
      have hfx := HFix.out.turn HTk.out
      have HFx := Lib.hid hfx
      have HSbw : Hid (∀ q, qd ≤ q → q < w1.heap.size → ¬ spec c.R c.M wr q) := fun q hq hq1 => HTk.out.spec hq1 (HNS.out q hq)
      have hd1 := Lib.hid (HTk.out.heap HBd.out (HNS.out _ (Nat.le_refl _)))
      have ho1 := Lib.hid (HTk.out.heap HBo.out (HNS.out _ (by omega)))
      have hf1 := Lib.hid (HTk.out.heap HBf.out (HNS.out _ (by omega)))
      have cbr := (hide_some hfx.run).2
      have cqd := (block_cell hd1.out 0 (by simp)).1
      simp only [List.getElem_toArray, List.getElem_cons_zero] at cqd
      have hwo : w1.heap.size ≤ wr.heap.size := HTk.out.size
      clear hfx HFix HBd HBo HBf HRn HT1 HArgs HTk
      go_wp2_with fail
      generalize wr = wo at *
      refine wpV_seq (wpV_of_wp (wp_label ?_))
      refine wpV_seq (wpV_seq (wpV_of_wp ?_))
      go_wp2_with fail
      refine (vec_code _ _ _ _).mono ?_
      rintro e w2 ⟨rfl, rfl⟩
      clear cbr cqd
      go_wp2_with fail
      refine wpV_block ?_
      have hb3 := below3 wo (.cells #[.pointer (some ⟨c.R, 0, none⟩)] 137) (.cells #[.int .i64 fn] 3) (.cells #[.int .i64 deep] 3)
      have hsz5 : (((wo.alloc (.cells #[.pointer (some ⟨c.R, 0, none⟩)] 137)).alloc (.cells #[.int .i64 fn] 3)).alloc (.cells #[.int .i64 deep] 3)).heap.size = wo.heap.size + 1 + 1 + 1 := by simp
      have hn5 := spec_above HRk.out hb3
      have ht5 := Turn.of_below (M := c.M) HRk.out.ltR hb3
      have k0 := heap_alloc (heap_alloc (alloc_new wo (.cells #[.pointer (some ⟨c.R, 0, none⟩)] 137)) (.cells #[.int .i64 fn] 3)) (.cells #[.int .i64 deep] 3)
      have k1 := heap_alloc (alloc_new (wo.alloc (.cells #[.pointer (some ⟨c.R, 0, none⟩)] 137)) (.cells #[.int .i64 fn] 3)) (.cells #[.int .i64 deep] 3)
      have k2 := alloc_new ((wo.alloc (.cells #[.pointer (some ⟨c.R, 0, none⟩)] 137)).alloc (.cells #[.int .i64 fn] 3)) (.cells #[.int .i64 deep] 3)
      rw [show (wo.alloc (.cells #[.pointer (some ⟨c.R, 0, none⟩)] 137)).heap.size = wo.heap.size + 1 by simp] at k1
      rw [show ((wo.alloc (.cells #[.pointer (some ⟨c.R, 0, none⟩)] 137)).alloc (.cells #[.int .i64 fn] 3)).heap.size = wo.heap.size + 1 + 1 by simp] at k2
      have HRn := Lib.hid (HRk.out.below hb3)
      have HT5 := Lib.hid (HTw.out.trans ht5)
      have HF5 := Lib.hid (HFx.out.turn ht5)
      have hqs : ∀ q, (qd ≤ q ∧ q < w1.heap.size) ∨ wo.heap.size ≤ q → ¬ spec c.R c.M (((wo.alloc (.cells #[.pointer (some ⟨c.R, 0, none⟩)] 137)).alloc (.cells #[.int .i64 fn] 3)).alloc (.cells #[.int .i64 deep] 3)) q := by
        rintro q (⟨ha, hb⟩ | hq)
        · exact ht5.spec (Nat.lt_of_lt_of_le hb hwo) (HSbw.out q ha hb)
        · exact hn5 q hq
      have HQS := Lib.hid hqs
      have HK0 := Lib.hid k0
      have HK1 := Lib.hid k1
      have HK2 := Lib.hid k2
      have hd5 := Lib.hid (heap_keep hb3 hd1.out)
      have ho5 := Lib.hid (heap_keep hb3 ho1.out)
      have hf5 := Lib.hid (heap_keep hb3 hf1.out)
      clear hb3 hn5 ht5 k0 k1 k2 hqs hd1 ho1 hf1 HRk HTw HFx HSbw
      generalize hw5 : ((wo.alloc (.cells #[.pointer (some ⟨c.R, 0, none⟩)] 137)).alloc (.cells #[.int .i64 fn] 3)).alloc (.cells #[.int .i64 deep] 3) = w5 at *
      generalize hqo : wo.heap.size = qo at *
      clear hw5
      obtain ⟨fb, foff, vc, vo, va', hS, -, d1, -, -, hcode, -, -⟩ := fn_at HF5.out.funs fn hfn
      rw [← HFe.out] at hcode
      obtain ⟨C, cc, rfl, hcm, -⟩ := hcode.form
      obtain ⟨cs, hcs⟩ := code_rows hcode
      have HCs := Lib.hid hcs
      have HD1 := Lib.hid d1
      clear d1 hcs hcode
      have hreg0 : Regs E (setsE E st.calls (ixs args.length) args) st.calls (params args) (Wr args.length f.code 0) := by
        refine Regs.puts (W := fun _ => False) (fun x h => h.elim) _ _ _ _ ⟨fun r => ?_, fun a _ => rfl, fun r h => ?_, fun r => by simp⟩ HShort.out (fun r hr => ?_)
        · rw [HNone.out _ r (Int.le_refl _)]; rfl
        · exact (h (HNone.out _ r (Int.le_refl _))).elim
        · obtain ⟨k, hk, rfl⟩ := List.mem_map.1 hr
          exact .inl (by have := List.mem_range.1 hk; omega)
      have hgood1 : Good c (n + args.length + pad) { st with calls := st.calls + 1 } := by
        have h := HGood.out
        exact ⟨h.left, h.count, by simp; omega, by have := h.size; simp; omega, h.work, h.told, h.wide⟩
      obtain ⟨R0, hR0⟩ : ∃ R0, R0 = codeF sem c.left rec deep fn 0 f.code (params args) { st with calls := st.calls + 1 } := ⟨_, rfl⟩
      have hinv0 : Inv c sem rec deep fn f.code args.length pad E st.calls R0 w5 0 now w5 := ⟨_, _, _, _, HRn.out, Turn.refl _ _ _, hreg0, hgood1, by rw [List.drop_zero]; exact hR0, by simp; omega⟩
      have HInv0 := Lib.hid hinv0
      have HR0 := Lib.hid hR0
      clear hreg0 hgood1 hinv0 hR0
      refine rngY (gf := 153) (lb := #[.pointer (some ⟨qo, 0, none⟩), .pointer (some ⟨qo + 1, 0, none⟩), .pointer (some ⟨qo + 1 + 1, 0, none⟩)]) (by simp [Act.eval]) enters153 ⟨_, Tryz.func122⟩ f.code.length (fun i => #[.agg (cs i).toArray]) (fun i => rfl)
        (fun i W => ∃ now, Inv c sem rec deep fn f.code args.length pad E st.calls R0 w5 i now W) (fun i W => Inv c sem rec deep fn f.code args.length pad E st.calls R0 w5 i ⟨deep, fn, i, 0⟩ W) (fun _ _ => False) (fun ch W => ∃ k, ch = stopE k ∧ R0 = .error k ∧ Turn c.R c.M w5 W)
        ?hI ?hYp ?hIB ?hIx ?h0 ?hround ?hiter ?hdone ?hstop ?hpanic
      case hI => exact fun i W o ⟨r, hl⟩ ⟨now, h⟩ => ⟨now, h.putBook hl rfl (by omega)⟩
      case hYp => exact fun i W o ⟨r, hl⟩ h => h.putBook hl rfl (by omega)
      case hIB => exact fun i W W' ⟨now, h⟩ hb => ⟨now, h.below hb⟩
      case hIx => exact fun _ _ _ _ h => h.elim
      case h0 => exact fun o => ⟨now, HInv0.out.below (below2 _ _ _)⟩
      case hround =>
        intro i W hi hY hlt5
        obtain ⟨bI, oI, T, tc, F, fc, B, bcap, -, hcsi, -, -, -, -, -, hTo, hFrom⟩ := HCs.out i hi
        simp only [hcsi]
        have HXF := Lib.hid (HFF.out.ins f.code[i] (List.getElem_mem hi))
        have HDoes := Lib.hid (HFit.out.does f (by rw [HFe.out]; exact List.getElem_mem _) f.code[i] (List.getElem_mem hi))
        have HDrop : Hid (f.code.drop i = f.code[i] :: f.code.drop (i + 1)) := List.drop_eq_getElem_cons hi
        have HWrx : Hid (∀ r ∈ f.code[i].to, Wr args.length f.code (i + 1) r) := fun r hr => .inr ⟨f.code[i], by rw [List.take_succ_eq_append_getElem hi]; exact List.mem_append_right _ (List.mem_singleton.2 rfl), hr⟩
        have HWrm : Hid (∀ r, Wr args.length f.code i r → Wr args.length f.code (i + 1) r) := fun r hr => by
          rcases hr with h | ⟨x, hx, h⟩
          · exact .inl h
          · exact .inr ⟨x, by rw [List.take_succ_eq_append_getElem hi]; exact List.mem_append_left _ hx, h⟩
        have HTo := Lib.hid hTo
        have HFrom := Lib.hid hFrom
        clear hcsi hTo hFrom
        generalize hxi : f.code[i] = x at *
        clear hxi
        gi_wp2
        refine ⟨Books.of_below (below1 W _), ?_⟩
        rintro W₂ ⟨r, hW₂⟩ ⟨r', hl⟩
        have hinv : Inv c sem rec deep fn f.code args.length pad E st.calls R0 w5 i ⟨deep, fn, i, 0⟩ W₂ := by rw [hW₂]; exact (hY.below (below1 W _)).putBook hl rfl (by omega)
        have hbx : W₂.heap[W.heap.size]? = some (.cells #[.int .i64 x.op, .int .i64 x.n, .slice T x.to.length tc, .slice F x.from_.length fc, .slice B x.body.length bcap] 63) := by
          rw [hW₂]; exact heap_putBook hl rfl (alloc_new W _) rfl
        have hbxq : w5.heap.size ≤ W.heap.size := by omega
        clear hW₂ hl hY
        obtain ⟨E', n', st', regs, hrun, hT, hregs, hgood', hres, hown⟩ := hinv.ex
        generalize hb : W.heap.size = bx at *
        have hbR : c.R < w5.heap.size := HRn.out.ltR
        have hbM : c.M < w5.heap.size := HRn.out.ltM
        have hbs : ¬ spec c.R c.M W₂ bx := by
          rintro (e | e | e)
          · omega
          · omega
          · obtain ⟨vs, h1, h2⟩ := hrun.cells
            rw [stepsBlock_eq h1] at e
            rcases h2.2 with ⟨rfl, -⟩ | ⟨g, cap, cur, rfl, -, hh, -⟩
            · cases e
            · simp only [Value.ownBlock, Option.some.injEq] at e
              subst e
              rw [hh] at hbx; simp at hbx
        have HRun := Lib.hid hrun
        have HT := Lib.hid hT
        have HRegs := Lib.hid hregs
        have HGo := Lib.hid hgood'
        have HBx := Lib.hid hbx
        have HBs := Lib.hid hbs
        have HRes := Lib.hid hres
        have hfx := HF5.out.turn hT
        have HFx := Lib.hid hfx
        have hqf := hT.heap hf5.out (HQS.out _ (.inl ⟨by omega, by omega⟩))
        have hqo' := hT.heap ho5.out (HQS.out _ (.inl ⟨by omega, by omega⟩))
        have hqd' := hT.heap hd5.out (HQS.out _ (.inl ⟨by omega, by omega⟩))
        -- what the boxes hold, in every world that keeps what lay there
        have cbr := (hide_some hfx.run).2
        obtain ⟨vs, hR, -⟩ := hrun.cells
        have r4 := (block_cell hR 4 (by simp [runCells])).1
        have r6 := (block_cell hR 6 (by simp [runCells])).1
        have r7 := (block_cell hR 7 (by simp [runCells])).1
        have r8 := (block_cell hR 8 (by simp [runCells])).1
        have r9 := (block_cell hR 9 (by simp [runCells])).1
        have r12 := (block_cell hR 12 (by simp [runCells])).1
        have cqf := (block_cell hqf 0 (by simp)).1
        have x3 := (block_cell hbx 3 (by simp)).1
        simp only [runCells, List.getElem_toArray, List.getElem_cons_zero, List.getElem_cons_succ] at r4 r6 r7 r8 r9 r12 cqf x3
        have hst : ∀ X, Below W₂.heap.size W₂ X → X.cell? ⟨br, 0, none⟩ = some (.pointer (some ⟨c.R, 0, none⟩)) ∧ X.cell? ⟨c.R, 4, none⟩ = some (.int .i64 c.left) ∧ X.cell? ⟨c.R, 12, none⟩ = some (.int .i64 st'.count) := fun X h => ⟨cell_keep h cbr, cell_keep h r4, cell_keep h r12⟩
        have hst2 : ∀ X, Below W₂.heap.size W₂ X → Below W₂.heap.size W₂ X ∧ X.cell? ⟨br, 0, none⟩ = some (.pointer (some ⟨c.R, 0, none⟩)) ∧ X.cell? ⟨c.R, 6, none⟩ = some (.int .i64 deep) ∧ X.cell? ⟨c.R, 7, none⟩ = some (.int .i64 fn) ∧ X.cell? ⟨c.R, 8, none⟩ = some (.int .i64 i) ∧ X.cell? ⟨c.R, 9, none⟩ = some (.int .i64 0) ∧ X.cell? ⟨qd + 1 + 1, 0, none⟩ = some (.func (.func 123) #[] #[.pointer (some ⟨br, 0, none⟩), .pointer (some ⟨qd + 1, 0, none⟩)]) ∧ X.cell? ⟨bx, 3, none⟩ = some (.slice F x.from_.length fc) :=
          fun X h => ⟨h, cell_keep h cbr, cell_keep h r6, cell_keep h r7, cell_keep h r8, cell_keep h r9, cell_keep h cqf, cell_keep h x3⟩
        have HSt := Lib.hid hst
        have HSt2 := Lib.hid hst2
        have HQf := Lib.hid hqf
        have HQo := Lib.hid hqo'
        have HQd := Lib.hid hqd'
        clear hinv hrun hT hregs hgood' hbx hbs hres hfx hqf hqo' hqd' cbr hR r4 r6 r7 r8 r9 r12 cqf x3 hst hst2
        gi_wp2
        by_cases hcount : st'.count < c.left
        case neg =>
          have hcl : ¬ (st'.count : Int) < (c.left : Int) := by omega
          have hbad : Hid (R0 = .error 12) := by
            unfold Hid; rw [HRes.out, HDrop.out]; unfold codeF; rw [if_neg hcount]
          refine round_region (S := fun X => X.cell? ⟨br, 0, none⟩ = some (.pointer (some ⟨c.R, 0, none⟩)) ∧ X.cell? ⟨c.R, 4, none⟩ = some (.int .i64 c.left) ∧ X.cell? ⟨c.R, 12, none⟩ = some (.int .i64 st'.count)) followsMixed (by kernel_rfl) (fun ⟨_, _, h⟩ => h) (HSt.out _ (below_drew W₂)) (fun hHeld => ?_)
          refine wpAnyH_take (i := 0) (oi := _) (v := ?_) rfl (by kernel_rfl) (by kernel_rfl) (by kernel_rfl) (fun _ _ _ h => h) (Or.inl ⟨by rfl, ?_⟩) (by assumption) ?_
          rotate_left
          · intro w hSw
            go_split_ands
            go_simp
            try with_reducible rfl
          try simp only [Act.put, List.setIfInBounds_toArray, List.set_cons_zero, List.set_cons_succ]
          refine wpAnyH_take (i := 1) (oi := _) (v := ?_) rfl (by kernel_rfl) (by kernel_rfl) (by kernel_rfl) (fun _ _ _ h => h) (Or.inl ⟨by rfl, ?_⟩) (by assumption) ?_
          rotate_left
          · intro w hSw
            go_split_ands
            go_simp
            try with_reducible rfl
          try simp only [Act.put, List.setIfInBounds_toArray, List.set_cons_zero, List.set_cons_succ]
          refine wpAnyH_take (i := 2) (oi := _) (v := ?_) rfl (by kernel_rfl) (by kernel_rfl) (by kernel_rfl) (fun _ _ _ h => h) (Or.inl ⟨by rfl, ?_⟩) (by assumption) ?_
          rotate_left
          · intro w hSw
            go_split_ands
            go_simp
            try with_reducible rfl
          try simp only [Act.put, List.setIfInBounds_toArray, List.set_cons_zero, List.set_cons_succ]
          refine wpAnyH_take (i := 3) (oi := _) (v := ?_) rfl (by kernel_rfl) (by kernel_rfl) (by kernel_rfl) (fun _ _ _ h => h) (Or.inl ⟨by rfl, ?_⟩) (by assumption) ?_
          rotate_left
          · intro w hSw
            go_split_ands
            go_simp
            try with_reducible rfl
          try simp only [Act.put, List.setIfInBounds_toArray, List.set_cons_zero, List.set_cons_succ]
          refine wpAnyH_take (i := 4) (oi := _) (v := ?_) rfl (by kernel_rfl) (by kernel_rfl) (by kernel_rfl) (fun _ _ _ h => h) (Or.inl ⟨by rfl, ?_⟩) (by assumption) ?_
          rotate_left
          · intro w hSw
            go_split_ands
            go_simp
            try with_reducible rfl
          try simp only [Act.put, List.setIfInBounds_toArray, List.set_cons_zero, List.set_cons_succ]
          refine wpAnyH_take (i := 5) (oi := _) (v := ?_) rfl (by kernel_rfl) (by kernel_rfl) (by kernel_rfl) (fun _ _ _ h => h) (Or.inl ⟨by rfl, ?_⟩) (by assumption) ?_
          rotate_left
          · intro w hSw
            go_split_ands
            go_simp
            try with_reducible rfl
          try simp only [Act.put, List.setIfInBounds_toArray, List.set_cons_zero, List.set_cons_succ]
          refine wpAnyH_take (i := 6) (oi := _) (v := ?_) rfl (by kernel_rfl) (by kernel_rfl) (by kernel_rfl) (fun _ _ _ h => h) (Or.inl ⟨by rfl, ?_⟩) (by assumption) ?_
          rotate_left
          · intro w hSw
            go_split_ands
            go_simp
            try with_reducible rfl
          try simp only [Act.put, List.setIfInBounds_toArray, List.set_cons_zero, List.set_cons_succ]
          refine wpAnyH_take (i := 7) (oi := _) (v := ?_) rfl (by kernel_rfl) (by kernel_rfl) (by kernel_rfl) (fun _ _ _ h => h) (Or.inl ⟨by rfl, ?_⟩) (by assumption) ?_
          rotate_left
          · intro w hSw
            go_split_ands
            go_simp
            try with_reducible rfl
          try simp only [Act.put, List.setIfInBounds_toArray, List.set_cons_zero, List.set_cons_succ]
          refine wpAnyH_take (i := 8) (oi := _) (v := ?_) rfl (by kernel_rfl) (by kernel_rfl) (by kernel_rfl) (fun _ _ _ h => h) (Or.inl ⟨by rfl, ?_⟩) (by assumption) ?_
          rotate_left
          · intro w hSw
            go_split_ands
            go_simp
            try with_reducible rfl
          try simp only [Act.put, List.setIfInBounds_toArray, List.set_cons_zero, List.set_cons_succ]
          refine wpAnyH_ready (rs := [9]) (by kernel_rfl) (by simp) ?_
          refine AllReadyH.cons (o := _) rfl (fun K hK => ?_) AllReadyH.nil
          have HK := Lib.hid hK; clear hK
          go_simp
          refine (vec_need_no _ _).mono ?_
          rintro e w3 ⟨rfl, rfl⟩
          exact ⟨rfl, Books.of_below (below_drew W₂), 12, rfl, hbad.out, HT.out.trans (Turn.of_below HRun.out.ltR (below_drew W₂))⟩
        have hcl : (st'.count : Int) < (c.left : Int) := by omega
        refine round_region (S := fun X => X.cell? ⟨br, 0, none⟩ = some (.pointer (some ⟨c.R, 0, none⟩)) ∧ X.cell? ⟨c.R, 4, none⟩ = some (.int .i64 c.left) ∧ X.cell? ⟨c.R, 12, none⟩ = some (.int .i64 st'.count)) followsMixed (by kernel_rfl) (fun ⟨_, _, h⟩ => h) (HSt.out _ (below_drew W₂)) (fun hHeld => ?_)
        refine wpAnyH_take (i := 0) (oi := _) (v := ?_) rfl (by kernel_rfl) (by kernel_rfl) (by kernel_rfl) (fun _ _ _ h => h) (Or.inl ⟨by rfl, ?_⟩) (by assumption) ?_
        rotate_left
        · intro w hSw
          go_split_ands
          go_simp
          try with_reducible rfl
        try simp only [Act.put, List.setIfInBounds_toArray, List.set_cons_zero, List.set_cons_succ]
        refine wpAnyH_take (i := 1) (oi := _) (v := ?_) rfl (by kernel_rfl) (by kernel_rfl) (by kernel_rfl) (fun _ _ _ h => h) (Or.inl ⟨by rfl, ?_⟩) (by assumption) ?_
        rotate_left
        · intro w hSw
          go_split_ands
          go_simp
          try with_reducible rfl
        try simp only [Act.put, List.setIfInBounds_toArray, List.set_cons_zero, List.set_cons_succ]
        refine wpAnyH_take (i := 2) (oi := _) (v := ?_) rfl (by kernel_rfl) (by kernel_rfl) (by kernel_rfl) (fun _ _ _ h => h) (Or.inl ⟨by rfl, ?_⟩) (by assumption) ?_
        rotate_left
        · intro w hSw
          go_split_ands
          go_simp
          try with_reducible rfl
        try simp only [Act.put, List.setIfInBounds_toArray, List.set_cons_zero, List.set_cons_succ]
        refine wpAnyH_take (i := 3) (oi := _) (v := ?_) rfl (by kernel_rfl) (by kernel_rfl) (by kernel_rfl) (fun _ _ _ h => h) (Or.inl ⟨by rfl, ?_⟩) (by assumption) ?_
        rotate_left
        · intro w hSw
          go_split_ands
          go_simp
          try with_reducible rfl
        try simp only [Act.put, List.setIfInBounds_toArray, List.set_cons_zero, List.set_cons_succ]
        refine wpAnyH_take (i := 4) (oi := _) (v := ?_) rfl (by kernel_rfl) (by kernel_rfl) (by kernel_rfl) (fun _ _ _ h => h) (Or.inl ⟨by rfl, ?_⟩) (by assumption) ?_
        rotate_left
        · intro w hSw
          go_split_ands
          go_simp
          try with_reducible rfl
        try simp only [Act.put, List.setIfInBounds_toArray, List.set_cons_zero, List.set_cons_succ]
        refine wpAnyH_take (i := 5) (oi := _) (v := ?_) rfl (by kernel_rfl) (by kernel_rfl) (by kernel_rfl) (fun _ _ _ h => h) (Or.inl ⟨by rfl, ?_⟩) (by assumption) ?_
        rotate_left
        · intro w hSw
          go_split_ands
          go_simp
          try with_reducible rfl
        try simp only [Act.put, List.setIfInBounds_toArray, List.set_cons_zero, List.set_cons_succ]
        refine wpAnyH_take (i := 6) (oi := _) (v := ?_) rfl (by kernel_rfl) (by kernel_rfl) (by kernel_rfl) (fun _ _ _ h => h) (Or.inl ⟨by rfl, ?_⟩) (by assumption) ?_
        rotate_left
        · intro w hSw
          go_split_ands
          go_simp
          try with_reducible rfl
        try simp only [Act.put, List.setIfInBounds_toArray, List.set_cons_zero, List.set_cons_succ]
        refine wpAnyH_take (i := 7) (oi := _) (v := ?_) rfl (by kernel_rfl) (by kernel_rfl) (by kernel_rfl) (fun _ _ _ h => h) (Or.inl ⟨by rfl, ?_⟩) (by assumption) ?_
        rotate_left
        · intro w hSw
          go_split_ands
          go_simp
          try with_reducible rfl
        try simp only [Act.put, List.setIfInBounds_toArray, List.set_cons_zero, List.set_cons_succ]
        refine wpAnyH_take (i := 8) (oi := _) (v := ?_) rfl (by kernel_rfl) (by kernel_rfl) (by kernel_rfl) (fun _ _ _ h => h) (Or.inl ⟨by rfl, ?_⟩) (by assumption) ?_
        rotate_left
        · intro w hSw
          go_split_ands
          go_simp
          try with_reducible rfl
        try simp only [Act.put, List.setIfInBounds_toArray, List.set_cons_zero, List.set_cons_succ]
        refine wpAnyH_ready (rs := [9]) (by kernel_rfl) (by simp) ?_
        refine AllReadyH.cons (o := _) rfl (fun K hK => ?_) AllReadyH.nil
        have HK := Lib.hid hK; clear hK
        go_simp
        refine (vec_need_yes _ _).mono ?_
        rintro e w3 ⟨rfl, rfl⟩
        refine HK.out _ _ hHeld (fun hHeld => ?_)
        refine wpAnyH_done (by kernel_rfl) ?_ _
        clear HK hHeld hcl
        gi_wp2
        have hread : ∀ X, Below W₂.heap.size W₂ X → Calls Tryz.prog 123 #[.slice F x.from_.length fc, .pointer (some ⟨br, 0, none⟩), .pointer (some ⟨qd + 1, 0, none⟩)] X (ReadPost c W₂.heap.size X (x.from_.map regs)) := fun X hX => by
          have h := vec_read c E' n' st' ⟨deep, fn, i, 0⟩ st.calls br (qd + 1) x.from_ (.slice F x.from_.length fc) W₂ X HRun.out hX (((HFrom.out.reads HT.out.reads).reads (reads_unhide _ _)).below hX) (HSt.out X hX).1 (cell_keep hX (by rw [cell_of_heap HQo.out]; rfl)) (by have := HGood.out.count; have := HGood.out.left; unfold inInt; omega) HXF.out.fromI (by have := HXF.out.high; omega)
          rwa [show (x.from_.map fun y => (E' st.calls y).getD []) = x.from_.map regs from List.map_congr_left (fun y _ => HRegs.out.reg y)] at h
        have HRead := Lib.hid hread
        have e123 : Enters Tryz.prog 123 := enters_of Tryz.func123 (by kernel_rfl) rfl
        clear hread
        gi_cut [15, 16] from 57 (fun v15 v16 wx => FromAt c W₂ deep fn i (x.from_.map regs) v15 v16 wx)
        case first =>
          have hb2 : Below W₂.heap.size W₂ W₂.drew.drew := (below_drew W₂).trans (below_drew W₂.drew)
          refine round_region (S := fun X => Below W₂.heap.size W₂ X ∧ X.cell? ⟨br, 0, none⟩ = some (.pointer (some ⟨c.R, 0, none⟩)) ∧ X.cell? ⟨c.R, 6, none⟩ = some (.int .i64 deep) ∧ X.cell? ⟨c.R, 7, none⟩ = some (.int .i64 fn) ∧ X.cell? ⟨c.R, 8, none⟩ = some (.int .i64 i) ∧ X.cell? ⟨c.R, 9, none⟩ = some (.int .i64 0) ∧ X.cell? ⟨qd + 1 + 1, 0, none⟩ = some (.func (.func 123) #[] #[.pointer (some ⟨br, 0, none⟩), .pointer (some ⟨qd + 1, 0, none⟩)]) ∧ X.cell? ⟨bx, 3, none⟩ = some (.slice F x.from_.length fc)) followsMixed (by kernel_rfl) (fun ⟨_, _, h⟩ => h) (HSt2.out _ hb2) (fun hHeld => ?_)
          generalize W₂.drew.drew = X0 at *
          refine wpAnyH_take (i := 0) (oi := _) (v := ?_) rfl (by kernel_rfl) (by kernel_rfl) (by kernel_rfl) (fun _ _ _ h => h) (Or.inl ⟨by rfl, ?_⟩) (by assumption) ?_
          rotate_left
          · intro w hSw
            go_split_ands
            go_simp
            try with_reducible rfl
          try simp only [Act.put, List.setIfInBounds_toArray, List.set_cons_zero, List.set_cons_succ]
          refine wpAnyH_take (i := 1) (oi := _) (v := ?_) rfl (by kernel_rfl) (by kernel_rfl) (by kernel_rfl) (fun _ _ _ h => h) (Or.inl ⟨by rfl, ?_⟩) (by assumption) ?_
          rotate_left
          · intro w hSw
            go_split_ands
            go_simp
            try with_reducible rfl
          try simp only [Act.put, List.setIfInBounds_toArray, List.set_cons_zero, List.set_cons_succ]
          refine wpAnyH_take (i := 2) (oi := _) (v := ?_) rfl (by kernel_rfl) (by kernel_rfl) (by kernel_rfl) (fun _ _ _ h => h) (Or.inl ⟨by rfl, ?_⟩) (by assumption) ?_
          rotate_left
          · intro w hSw
            go_split_ands
            go_simp
            try with_reducible rfl
          try simp only [Act.put, List.setIfInBounds_toArray, List.set_cons_zero, List.set_cons_succ]
          refine wpAnyH_take (i := 3) (oi := _) (v := ?_) rfl (by kernel_rfl) (by kernel_rfl) (by kernel_rfl) (fun _ _ _ h => h) (Or.inl ⟨by rfl, ?_⟩) (by assumption) ?_
          rotate_left
          · intro w hSw
            go_split_ands
            go_simp
            try with_reducible rfl
          try simp only [Act.put, List.setIfInBounds_toArray, List.set_cons_zero, List.set_cons_succ]
          refine wpAnyH_take (i := 4) (oi := _) (v := ?_) rfl (by kernel_rfl) (by kernel_rfl) (by kernel_rfl) (fun _ _ _ h => h) (Or.inl ⟨by rfl, ?_⟩) (by assumption) ?_
          rotate_left
          · intro w hSw
            go_split_ands
            go_simp
            try with_reducible rfl
          try simp only [Act.put, List.setIfInBounds_toArray, List.set_cons_zero, List.set_cons_succ]
          refine wpAnyH_take (i := 5) (oi := _) (v := ?_) rfl (by kernel_rfl) (by kernel_rfl) (by kernel_rfl) (fun _ _ _ h => h) (Or.inl ⟨by rfl, ?_⟩) (by assumption) ?_
          rotate_left
          · intro w hSw
            go_split_ands
            go_simp
            try with_reducible rfl
          try simp only [Act.put, List.setIfInBounds_toArray, List.set_cons_zero, List.set_cons_succ]
          refine wpAnyH_take (i := 6) (oi := _) (v := ?_) rfl (by kernel_rfl) (by kernel_rfl) (by kernel_rfl) (fun _ _ _ h => h) (Or.inl ⟨by rfl, ?_⟩) (by assumption) ?_
          rotate_left
          · intro w hSw
            go_split_ands
            go_simp
            try with_reducible rfl
          try simp only [Act.put, List.setIfInBounds_toArray, List.set_cons_zero, List.set_cons_succ]
          refine wpAnyH_ready (rs := [7, 8]) (by kernel_rfl) (by simp) ?_
          refine AllReadyH.cons (o := _) rfl (fun K hK => ?_) (AllReadyH.cons (o := _) rfl (fun K hK => ?_) AllReadyH.nil)
          · have HK := Lib.hid hK; clear hK
            go_simp
            refine (HRead.out X0 hb2).mono ?_
            rintro e w3 ⟨v3, rfl, hv3, hb3⟩
            have HV3 := Lib.hid hv3
            have hb4 := hb2.trans (hb3.mono hb2.size)
            refine HK.out _ _ (HSt2.out _ hb4) (fun hHeld => ?_)
            clear HK hv3
            refine wpAnyH_ready (rs := [8]) (by kernel_rfl) (by simp) ?_
            refine AllReadyH.cons (o := _) rfl (fun K hK => ?_) AllReadyH.nil
            have HK := Lib.hid hK; clear hK
            go_simp
            have hb5 := hb4.trans ((below1 w3 (.cells #[.int .i64 0, .int .i64 0, .int .i64 0, .int .i64 0] 58)).mono hb4.size)
            refine HK.out _ _ (HSt2.out _ hb5) (fun hHeld => ?_)
            clear HK
            refine wpAnyH_ready (rs := [9]) (by kernel_rfl) (by simp) ?_
            refine AllReadyH.cons (o := _) rfl (fun K hK => ?_) AllReadyH.nil
            have HK := Lib.hid hK; clear hK
            go_simp
            have hb6 := hb4.trans ((below1 w3 (.cells #[.int .i64 deep, .int .i64 fn, .int .i64 i, .int .i64 0] 58)).mono hb4.size)
            refine HK.out _ _ (HSt2.out _ hb6) (fun hHeld => ?_)
            clear HK
            refine wpAnyH_ready (rs := [10]) (by kernel_rfl) (by simp) ?_
            refine AllReadyH.cons (o := _) rfl (fun K hK => ?_) AllReadyH.nil
            have HK := Lib.hid hK; clear hK
            go_simp
            refine HK.out _ _ (HSt2.out _ hb6) (fun hHeld => ?_)
            refine wpAnyH_done (by kernel_rfl) ?_ _
            clear HK
            obtain ⟨V, vc, rfl, -⟩ := HV3.out.form
            gi_wp2
            gi_meet
            case rel => exact ⟨_, V, vc, rfl, rfl, hb6, hb4.size, alloc_new w3 _, (HV3.out.reads (reads_specOr _ _ _ _)).reads (Turn.of_below (HRun.out.below hb4).ltR (below1 w3 _)).reads⟩
          · have HK := Lib.hid hK; clear hK
            go_simp
            have hb5 := hb2.trans ((below1 X0 (.cells #[.int .i64 0, .int .i64 0, .int .i64 0, .int .i64 0] 58)).mono hb2.size)
            have hnew := Lib.hid (alloc_new X0 (.cells #[.int .i64 0, .int .i64 0, .int .i64 0, .int .i64 0] 58))
            refine HK.out _ _ (HSt2.out _ hb5) (fun hHeld => ?_)
            clear HK
            refine wpAnyH_ready (rs := [7]) (by kernel_rfl) (by simp) ?_
            refine AllReadyH.cons (o := _) rfl (fun K hK => ?_) AllReadyH.nil
            have HK := Lib.hid hK; clear hK
            go_simp
            refine (HRead.out _ hb5).mono ?_
            rintro e w3 ⟨v3, rfl, hv3, hb3⟩
            have HV3 := Lib.hid hv3
            have hb6 := hb5.trans (hb3.mono hb5.size)
            have hn3 := heap_keep hb3 hnew.out
            have n0 := block_cell hn3 0 (by simp)
            have n1 := block_cell hn3 1 (by simp)
            have n2 := block_cell hn3 2 (by simp)
            have n3 := block_cell hn3 3 (by simp)
            simp only [List.getElem_toArray, List.getElem_cons_zero, List.getElem_cons_succ] at n0 n1 n2 n3
            obtain ⟨n0, m0⟩ := n0
            obtain ⟨n1, m1⟩ := n1
            obtain ⟨n2, m2⟩ := n2
            obtain ⟨n3, m3⟩ := n3
            refine HK.out _ _ (HSt2.out _ hb6) (fun hHeld => ?_)
            have HN3 := Lib.hid hn3
            have hx0 := hb2.size
            clear HK hv3 hn3
            refine wpAnyH_ready (rs := [9]) (by kernel_rfl) (by simp) ?_
            refine AllReadyH.cons (o := _) rfl (fun K hK => ?_) AllReadyH.nil
            have HK := Lib.hid hK; clear hK
            go_simp
            have hbF := (((hb6.setCell (p := ⟨X0.heap.size, 0, none⟩) hx0 (.int .i64 deep)).setCell (p := ⟨X0.heap.size, 1, none⟩) hx0 (.int .i64 fn)).setCell (p := ⟨X0.heap.size, 2, none⟩) hx0 (.int .i64 i)).setCell (p := ⟨X0.heap.size, 3, none⟩) hx0 (.int .i64 0)
            refine HK.out _ _ (HSt2.out _ hbF) (fun hHeld => ?_)
            clear HK
            refine wpAnyH_ready (rs := [10]) (by kernel_rfl) (by simp) ?_
            refine AllReadyH.cons (o := _) rfl (fun K hK => ?_) AllReadyH.nil
            have HK := Lib.hid hK; clear hK
            go_simp
            refine HK.out _ _ (HSt2.out _ hbF) (fun hHeld => ?_)
            refine wpAnyH_done (by kernel_rfl) ?_ _
            clear HK
            obtain ⟨V, vc, rfl, -⟩ := HV3.out.form
            have hhF := heap_setCell (heap_setCell (heap_setCell (heap_setCell HN3.out 0 (.int .i64 deep)) 1 (.int .i64 fn)) 2 (.int .i64 i)) 3 (.int .i64 0)
            simp only [List.setIfInBounds_toArray, List.set_cons_zero, List.set_cons_succ] at hhF
            have hrF := (HRun.out.below hbF)
            have HLF : Hid (Lists (pub c.R c.M ((((w3.setCell ⟨X0.heap.size, 0, none⟩ (.int .i64 deep)).setCell ⟨X0.heap.size, 1, none⟩ (.int .i64 fn)).setCell ⟨X0.heap.size, 2, none⟩ (.int .i64 i)).setCell ⟨X0.heap.size, 3, none⟩ (.int .i64 0))) (.slice V (x.from_.map regs).length vc) (x.from_.map regs)) := by
              refine HV3.out.reads (reads_hide fun a v hs hc => ?_)
              have hsz : W₂.heap.size ≤ X0.heap.size ∧ X0.heap.size < (X0.alloc (.cells #[.int .i64 0, .int .i64 0, .int .i64 0, .int .i64 0] 58)).heap.size := ⟨hx0, by simp⟩
              have hab : X0.heap.size ≠ a.block := fun e => hs (.inr ⟨by omega, by omega⟩)
              have hsp : ∀ Y, Below W₂.heap.size W₂ Y → stepsBlock c.R Y = stepsBlock c.R W₂ := fun Y hY => by unfold stepsBlock; rw [hY.cell (p := ⟨c.R, 5, none⟩) HRun.out.ltR]
              refine ⟨?_, ?_⟩
              · rintro (e | e | e)
                · exact hs (.inl (.inl e))
                · exact hs (.inl (.inr (.inl e)))
                · rw [hsp _ hbF, ← hsp _ hb6] at e; exact hs (.inl (.inr (.inr e)))
              · rw [World.cell?_setCell_far _ _ _ _ hab, World.cell?_setCell_far _ _ _ _ hab, World.cell?_setCell_far _ _ _ _ hab, World.cell?_setCell_far _ _ _ _ hab]; exact hc
            gi_wp2
            gi_meet
            case rel => exact ⟨_, V, vc, rfl, rfl, hbF, hx0, hhF, HLF.out⟩
        case rest =>
          obtain ⟨b15, V, vc, rfl, rfl, hbW, h15, hh15, hL⟩ := hcut.ex
          have HBW := Lib.hid hbW
          have HB15 := Lib.hid hh15
          rw [List.length_map] at hL
          have HL := Lib.hid hL
          have HX := Lib.hid (HRun.out.below hbW)
          have HTx := Lib.hid (HT.out.trans (Turn.of_below HRun.out.ltR hbW))
          have HFw := Lib.hid (HF5.out.turn HTx.out)
          have hxb := heap_keep hbW HBx.out
          have HXb := Lib.hid hxb
          have hfroms : ∀ l ∈ x.from_.map regs, l.length ≤ 1048576 := fun l hl => by
            obtain ⟨r, -, rfl⟩ := List.mem_map.1 hl; exact HRegs.out.short r
          have HFr := Lib.hid hfroms
          have hgo1 := HGo.out
          have x0 := (block_cell hxb 0 (by simp)).1
          have x1 := (block_cell hxb 1 (by simp)).1
          have x2 := (block_cell hxb 2 (by simp)).1
          have x3 := (block_cell hxb 3 (by simp)).1
          have x4 := (block_cell hxb 4 (by simp)).1
          simp only [List.getElem_toArray, List.getElem_cons_zero, List.getElem_cons_succ] at x0 x1 x2 x3 x4
          have hwt := hgo1.work
          have hleft := hgo1.left
          have htold : (told c st').length ≤ st'.count := by
            unfold told; split
            · rw [hgo1.told]; exact Nat.le_refl _
            · simp
          have HTold := Lib.hid htold
          clear hcut hbW hh15 hL hxb hfroms hgo1 htold HRead HSt HSt2 e123
          by_cases hop : x.op = 16
          case neg =>
            have hop' : (x.op != 16) = true := by simpa using hop
            have hof := Lib.hid (vec_of x T F B x.to.length tc x.from_.length fc x.body.length bcap wc HXF.out.op)
            gi_wp2
            refine ⟨trivial, (CallsIn.inRound _ ((callsIn_wide (n := 4)).2 hof.out)).mono ?_⟩
            rintro e w6 ⟨rfl, hb6⟩
            have HB6 := Lib.hid hb6
            have hd6 := HDoes.out hop w6 (.slice T x.to.length tc) (.slice F x.from_.length fc) (.slice B x.body.length bcap) (.slice V x.from_.length vc) (x.from_.map regs) ((HFw.out.glob.reads (reads_unhide _ _)).below hb6) (((HTo.out.reads HTx.out.reads).reads (reads_unhide _ _)).below hb6) ((HL.out.reads (reads_unhide _ _)).below hb6) (by simp) HFr.out
            have HD6 := Lib.hid hd6
            clear hof hb6 hd6 x0 x1 x2 x3 x4
            have hna := nil_do 477
            have hme := method_do 477
            gi_wp2
            refine ⟨trivial, (CallsIn.inRound _ ((callsIn_wide (n := 4)).2 HD6.out.1)).mono ?_⟩
            rintro e w7 ⟨hb7, hr7⟩
            have HB7 := Lib.hid (below_step HB6.out hb7)
            by_cases he : (sem x (x.from_.map regs)).2 = 0
            case neg =>
              rw [if_neg he] at hr7
              subst hr7
              have hbad : R0 = .error (sem x (x.from_.map regs)).2 := by rw [HRes.out, HDrop.out]; exact codeF_err hcount hop he
              exact ⟨rfl, Books.of_below (below_step HBW.out HB7.out), _, rfl, hbad, HTx.out.trans (Turn.of_below HX.out.ltR HB7.out)⟩
            case pos =>
              rw [if_pos he] at hr7
              obtain ⟨v7, rfl, hv7⟩ := hr7
              obtain ⟨hlen7, hsh7⟩ := HD6.out.2 he
              have HNext : Hid (R0 = _) := HRes.out.trans ((congrArg (fun l => codeF sem c.left rec deep fn i l regs st') HDrop.out).trans (codeF_plain hcount hop he))
              have hx6 := HX.out.below HB6.out
              have hv8 := hv7.reads (reads_pub (M := c.M) hx6.ltR hx6.ltM hx6.ltG hb7)
              generalize hto : (sem x (x.from_.map regs)).1 = outs at *
              obtain ⟨V7, vc7, rfl, -⟩ := hv8.form
              rw [hlen7] at hv8
              have HV8 := Lib.hid hv8
              have hx7 := hx6.below hb7
              have HX7 := Lib.hid hx7
              have HT7 := Lib.hid (HTx.out.trans (Turn.of_below HX.out.ltR HB7.out))
              have hf7 := HF5.out.turn HT7.out
              have cbs := (hide_some hf7.step).2
              have hk5 := heap_keep HB7.out HB15.out
              have hkx := heap_keep HB7.out HXb.out
              have hwo7 := workOf_le x (x.from_.map regs) outs (by rw [List.length_map]; exact HXF.out.high) (by rw [hlen7]; exact HXF.out.to) HFr.out hsh7
              have HWo := Lib.hid hwo7
              have HSh := Lib.hid hsh7
              have HLen7 := Lib.hid hlen7
              have hs5 := (Turn.of_below (M := c.M) HX.out.ltR HB7.out).spec (Array.getElem?_eq_some_iff.1 HB15.out).1 (spec_above HRun.out HBW.out b15 h15)
              have hsx := (Turn.of_below (M := c.M) HRun.out.ltR (below_step HBW.out HB7.out)).spec (Array.getElem?_eq_some_iff.1 HBx.out).1 HBs.out
              have hst7 : ∀ X, Turn c.R c.M w7 X → X.cell? ⟨bs, 0, none⟩ = some (.func (.func 121) #[.pointer (some ⟨c.R, 0, none⟩)] #[]) ∧ (X.cell? ⟨b15, 0, none⟩ = some (.int .i64 deep) ∧ X.cell? ⟨b15, 1, none⟩ = some (.int .i64 fn) ∧ X.cell? ⟨b15, 2, none⟩ = some (.int .i64 i) ∧ X.cell? ⟨b15, 3, none⟩ = some (.int .i64 0)) ∧
                  X.cell? ⟨bx, 0, none⟩ = some (.int .i64 x.op) ∧ X.cell? ⟨bx, 1, none⟩ = some (.int .i64 x.n) ∧ X.cell? ⟨bx, 2, none⟩ = some (.slice T x.to.length tc) ∧ X.cell? ⟨bx, 3, none⟩ = some (.slice F x.from_.length fc) ∧ X.cell? ⟨bx, 4, none⟩ = some (.slice B x.body.length bcap) := fun X h => by
                have a1 := h.heap hk5 hs5
                have a2 := h.heap hkx hsx
                refine ⟨(hide_some (hf7.turn h).step).2, ⟨?_, ?_, ?_, ?_⟩, ?_, ?_, ?_, ?_, ?_⟩
                all_goals (first | (rw [cell_of_heap a1]; rfl) | (rw [cell_of_heap a2]; rfl))
              have HSt7 := Lib.hid hst7
              have HF7 := Lib.hid hf7
              have HSx := Lib.hid hsx
              have HKx := Lib.hid hkx
              clear hv7 hv8 hx6 hb7 HD6 hto hf7 hwo7 hsh7 hst7 hk5 hkx hs5 hsx cbs hx7
              gi_wp2
              refine round_region (S := fun X => X.cell? ⟨bs, 0, none⟩ = some (.func (.func 121) #[.pointer (some ⟨c.R, 0, none⟩)] #[]) ∧ (X.cell? ⟨b15, 0, none⟩ = some (.int .i64 deep) ∧ X.cell? ⟨b15, 1, none⟩ = some (.int .i64 fn) ∧ X.cell? ⟨b15, 2, none⟩ = some (.int .i64 i) ∧ X.cell? ⟨b15, 3, none⟩ = some (.int .i64 0)) ∧
                  X.cell? ⟨bx, 0, none⟩ = some (.int .i64 x.op) ∧ X.cell? ⟨bx, 1, none⟩ = some (.int .i64 x.n) ∧ X.cell? ⟨bx, 2, none⟩ = some (.slice T x.to.length tc) ∧ X.cell? ⟨bx, 3, none⟩ = some (.slice F x.from_.length fc) ∧ X.cell? ⟨bx, 4, none⟩ = some (.slice B x.body.length bcap)) followsMixed (by kernel_rfl) (fun ⟨_, _, h⟩ => h) (HSt7.out _ (Turn.of_below HX7.out.ltR (below_drew w7))) (fun hHeld => ?_)
              refine wpAnyH_take (i := 0) (oi := _) (v := ?_) rfl (by kernel_rfl) (by kernel_rfl) (by kernel_rfl) (fun _ _ _ h => h) (Or.inl ⟨by rfl, ?_⟩) (by assumption) ?_
              rotate_left
              · intro w hSw
                go_split_ands
                go_simp
                try with_reducible rfl
              try simp only [Act.put, List.setIfInBounds_toArray, List.set_cons_zero, List.set_cons_succ]
              refine wpAnyH_take (i := 1) (oi := _) (v := ?_) rfl (by kernel_rfl) (by kernel_rfl) (by kernel_rfl) (fun _ _ _ h => h) (Or.inl ⟨by rfl, ?_⟩) (by assumption) ?_
              rotate_left
              · intro w hSw
                go_split_ands
                go_simp
                try with_reducible rfl
              try simp only [Act.put, List.setIfInBounds_toArray, List.set_cons_zero, List.set_cons_succ]
              refine wpAnyH_take (i := 2) (oi := _) (v := ?_) rfl (by kernel_rfl) (by kernel_rfl) (by kernel_rfl) (fun _ _ _ h => h) (Or.inl ⟨by rfl, ?_⟩) (by assumption) ?_
              rotate_left
              · intro w hSw
                go_split_ands
                go_simp
                try with_reducible rfl
              try simp only [Act.put, List.setIfInBounds_toArray, List.set_cons_zero, List.set_cons_succ]
              refine wpAnyH_take (i := 3) (oi := _) (v := ?_) rfl (by kernel_rfl) (by kernel_rfl) (by kernel_rfl) (fun _ _ _ h => h) (Or.inl ⟨by rfl, ?_⟩) (by assumption) ?_
              rotate_left
              · intro w hSw
                go_split_ands
                go_simp
                try with_reducible rfl
              try simp only [Act.put, List.setIfInBounds_toArray, List.set_cons_zero, List.set_cons_succ]
              refine wpAnyH_take (i := 4) (oi := _) (v := ?_) rfl (by kernel_rfl) (by kernel_rfl) (by kernel_rfl) (fun _ _ _ h => h) (Or.inl ⟨by rfl, ?_⟩) (by assumption) ?_
              rotate_left
              · intro w hSw
                go_split_ands
                go_simp
                try with_reducible rfl
              try simp only [Act.put, List.setIfInBounds_toArray, List.set_cons_zero, List.set_cons_succ]
              refine wpAnyH_ready (rs := [5]) (by kernel_rfl) (by simp) ?_
              refine AllReadyH.cons (o := _) rfl (fun K hK => ?_) AllReadyH.nil
              have HK := Lib.hid hK; clear hK
              go_simp
              have hbd := below_drew w7
              have htd := Turn.of_below (M := c.M) HX7.out.ltR hbd
              refine (vec_work x T F B x.to.length tc x.from_.length fc x.body.length bcap (x.from_.map regs) outs _ _ _ (((HL.out.reads (Turn.of_below HX.out.ltR HB7.out).reads).reads htd.reads).reads (reads_unhide _ _)) ((HV8.out.reads htd.reads).reads (reads_unhide _ _)) (by rw [List.length_map]; exact HXF.out.low5) ⟨by have := lens_le _ HFr.out; rw [List.length_map] at this; have := HXF.out.high; omega, by have := lens_le _ HSh.out; rw [HLen7.out] at this; have := HXF.out.to; omega⟩).mono ?_
              rintro e w8 ⟨rfl, hb8⟩
              have hb8' := below_step hbd hb8
              have ht8 := Turn.of_below (M := c.M) HX7.out.ltR hb8'
              refine HK.out _ _ (HSt7.out _ ht8) (fun hHeld => ?_)
              clear HK
              refine wpAnyH_ready (rs := [6]) (by kernel_rfl) (by simp) ?_
              refine AllReadyH.cons (o := _) rfl (fun K hK => ?_) AllReadyH.nil
              have HK := Lib.hid hK; clear hK
              go_simp
              refine (vec_step c E' n' st' _ deep fn i 0 (workOf x (x.from_.map regs) outs) w8 (HX7.out.below hb8') (by omega) ⟨hwt.1, by have := hwt.2; omega⟩ ⟨HWo.out.1, by have := HWo.out.2; omega⟩ HTold.out).mono ?_
              rintro e w9 ⟨rfl, hrun9, ht9⟩
              have ht79 := ht8.trans ht9
              refine HK.out _ _ (HSt7.out _ ht79) (fun hHeld => ?_)
              refine wpAnyH_done (by kernel_rfl) ?_ _
              have HR9 := Lib.hid hrun9
              have HT9 := Lib.hid ht79
              clear HK hrun9 ht9 ht79 hbd htd hb8 hb8' ht8 hHeld
              have hT59 := HT7.out.trans HT9.out
              have hf9 := HF7.out.turn HT9.out
              have cbr := (hide_some hf9.run).2
              have cqo : w9.cell? ⟨qd + 1, 0, none⟩ = some (.int .i64 st.calls) := by
                rw [cell_of_heap (hT59.heap ho5.out (HQS.out _ (.inl ⟨by omega, by omega⟩)))]; rfl
              have cx2 : w9.cell? ⟨bx, 2, none⟩ = some (.slice T x.to.length tc) := by
                rw [cell_of_heap (HT9.out.heap HKx.out HSx.out)]; rfl
              have hgn := HGo.out.note hcount HWo.out deep fn i x.to.length HXF.out.to
              have HGn := Lib.hid hgn
              have hwr := Lib.hid (vec_write c E' n' _ _ (st.calls : Int) 0 x.to outs (.slice T x.to.length tc) (.slice V7 x.to.length vc7) w9 HR9.out (HTo.out.reads hT59.reads) (HV8.out.reads HT9.out.reads) HLen7.out.symm (by have := hgn.1.size; have := hgn.1.left; have := hgn.1.count; have := hgn.1.calls; unfold maxLen; omega) (by have := HGood.out.count; have := HGood.out.left; unfold inInt; omega) HXF.out.toI (by have := hgn.1.wide; omega))
              have HT59 := Lib.hid hT59
              clear hT59 hf9 hgn
              gi_wp2
              refine ⟨trivial, (CallsIn.inRound _ ((callsIn_wide (n := 4)).2 hwr.out)).mono ?_⟩
              rintro e w10 ⟨rfl, hrun10, hT10⟩
              have HR10 := Lib.hid hrun10
              have HT10 := Lib.hid hT10
              clear hwr hrun10 hT10 cbr cqo cx2
              gi_wp2
              have hT210 := (Turn.of_below (M := c.M) HRun.out.ltR (below_step HBW.out HB7.out)).trans (HT9.out.trans HT10.out)
              exact ⟨books_turn HRun.out hT210, _, ⟨_, _, _, _, HR10.out, HT59.out.trans HT10.out, Regs.puts HWrm.out x.to outs E' regs HRegs.out HSh.out HWrx.out, HGn.out.1.swap.wider outs HSh.out, HNext.out, hown⟩⟩
          case pos =>
            have hop' : (x.op != 16) = false := by simp [hop]
            obtain ⟨bv, ov, u0, rfl, hc0, hu0⟩ := HL.out.at_ 0 (by rw [List.length_map]; have := HXF.out.low; omega)
            obtain ⟨A0, ac0, rfl, -⟩ := hu0.form
            have hhd : (x.from_.map regs).headD [] = (x.from_.map regs)[0]'(by rw [List.length_map]; have := HXF.out.low; omega) := by
              rw [List.headD_eq_head?_getD, List.head?_eq_getElem?, List.getElem?_eq_getElem (by rw [List.length_map]; have := HXF.out.low; omega)]; rfl
            have hlow := HXF.out.low
            replace hc0 := (hide_some hc0).2
            simp only [Nat.zero_mul, Nat.add_zero] at hc0
            have cdeep : wc.cell? ⟨qd, 0, none⟩ = some (.int .i64 deep) := by
              rw [cell_of_heap (heap_keep HBW.out HQd.out)]; rfl
            have hl0 : ((x.from_.map regs)[0]'(by rw [List.length_map]; omega)).length ≤ 1048576 := HFr.out _ (List.getElem_mem _)
            have HHd := Lib.hid hhd
            clear hu0 hhd
            generalize hz : (x.from_.map regs)[0]'(by rw [List.length_map]; omega) = l0 at *
            clear hz
            have hs5 := spec_above HRun.out HBW.out b15 h15
            have hsx := (Turn.of_below (M := c.M) HRun.out.ltR HBW.out).spec (Array.getElem?_eq_some_iff.1 HBx.out).1 HBs.out
            have HS5 := Lib.hid hs5
            have HSx := Lib.hid hsx
            have cbs := (hide_some HFw.out.step).2
            have b150 := (block_cell HB15.out 0 (by simp)).1
            have b151 := (block_cell HB15.out 1 (by simp)).1
            have b152 := (block_cell HB15.out 2 (by simp)).1
            have b153 := (block_cell HB15.out 3 (by simp)).1
            simp only [List.getElem_toArray, List.getElem_cons_zero, List.getElem_cons_succ] at b150 b151 b152 b153
            have hgn := HGo.out.note hcount (k := 1) (by omega) deep fn i x.to.length HXF.out.to
            have HGn := Lib.hid hgn
            have hstp := Lib.hid (vec_step c E' n' st' _ deep fn i 0 1 wc HX.out (by omega) ⟨hwt.1, by have := hwt.2; omega⟩ (by omega) HTold.out)
            clear hs5 hsx hgn
            by_cases hl00 : l0.length = 0
            case pos =>
              have he0 : ((l0.length : Int) == 0) = true := by rw [hl00]; rfl
              have HNext : Hid (R0 = _) := HRes.out.trans ((congrArg (fun l => codeF sem c.left rec deep fn i l regs st') HDrop.out).trans (codeF_empty hcount hop (by rw [HHd.out]; exact hl00)))
              clear hl00
              gi_wp2
              refine ⟨trivial, (CallsIn.inRound _ ((callsIn_wide (n := 4)).2 hstp.out)).mono ?_⟩
              rintro e w9 ⟨rfl, hrun9, hT9⟩
              have HR9 := Lib.hid hrun9
              have HT9 := Lib.hid hT9
              have HT59 := Lib.hid (HTx.out.trans HT9.out)
              have hf9 := HF5.out.turn HT59.out
              have cbr9 := (hide_some hf9.run).2
              have cqo9 : w9.cell? ⟨qd + 1, 0, none⟩ = some (.int .i64 st.calls) := by
                rw [cell_of_heap (HT59.out.heap ho5.out (HQS.out _ (.inl ⟨by omega, by omega⟩)))]; rfl
              have cx29 : w9.cell? ⟨bx, 2, none⟩ = some (.slice T x.to.length tc) := by
                rw [cell_of_heap (HT9.out.heap HXb.out HSx.out)]; rfl
              have hst9 : ∀ X, Below w9.heap.size w9 X → X.cell? ⟨br, 0, none⟩ = some (.pointer (some ⟨c.R, 0, none⟩)) ∧ X.cell? ⟨qd + 1, 0, none⟩ = some (.int .i64 st.calls) ∧ X.cell? ⟨bx, 2, none⟩ = some (.slice T x.to.length tc) := fun X h => ⟨cell_keep h cbr9, cell_keep h cqo9, cell_keep h cx29⟩
              have HSt9 := Lib.hid hst9
              have hmk := run_make_row' (P := Tryz.prog) 26 22 (.slice none 0 0) 24 Tryz.underlying26 (by kernel_rfl) rfl .i64 .i64 x.to.length (by have := HXF.out.to; omega) (by have := HXF.out.to; omega)
              clear hstp hrun9 hT9 hf9 cbr9 cqo9 cx29 hst9 hc0 cdeep cbs b150 b151 b152 b153 x0 x1 x2 x3 x4 he0
              gi_wp2
              refine round_region (S := fun X => X.cell? ⟨br, 0, none⟩ = some (.pointer (some ⟨c.R, 0, none⟩)) ∧ X.cell? ⟨qd + 1, 0, none⟩ = some (.int .i64 st.calls) ∧ X.cell? ⟨bx, 2, none⟩ = some (.slice T x.to.length tc)) followsMixed (by kernel_rfl) (fun ⟨_, _, h⟩ => h) (HSt9.out _ (below_drew w9)) (fun hHeld => ?_)
              refine wpAnyH_take (i := 0) (oi := _) (v := ?_) rfl (by kernel_rfl) (by kernel_rfl) (by kernel_rfl) (fun _ _ _ h => h) (Or.inl ⟨by rfl, ?_⟩) (by assumption) ?_
              rotate_left
              · intro w hSw
                go_split_ands
                go_simp
                try with_reducible rfl
              try simp only [Act.put, List.setIfInBounds_toArray, List.set_cons_zero, List.set_cons_succ]
              refine wpAnyH_take (i := 1) (oi := _) (v := ?_) rfl (by kernel_rfl) (by kernel_rfl) (by kernel_rfl) (fun _ _ _ h => h) (Or.inl ⟨by rfl, ?_⟩) (by assumption) ?_
              rotate_left
              · intro w hSw
                go_split_ands
                go_simp
                try with_reducible rfl
              try simp only [Act.put, List.setIfInBounds_toArray, List.set_cons_zero, List.set_cons_succ]
              refine wpAnyH_take (i := 2) (oi := _) (v := ?_) rfl (by kernel_rfl) (by kernel_rfl) (by kernel_rfl) (fun _ _ _ h => h) (Or.inl ⟨by rfl, ?_⟩) (by assumption) ?_
              rotate_left
              · intro w hSw
                go_split_ands
                go_simp
                try with_reducible rfl
              try simp only [Act.put, List.setIfInBounds_toArray, List.set_cons_zero, List.set_cons_succ]
              refine wpAnyH_take (i := 3) (oi := _) (v := ?_) rfl (by kernel_rfl) (by kernel_rfl) (by kernel_rfl) (fun _ _ _ h => h) (Or.inl ⟨by rfl, ?_⟩) (by assumption) ?_
              rotate_left
              · intro w hSw
                go_split_ands
                go_simp
                try with_reducible rfl
              try simp only [Act.put, List.setIfInBounds_toArray, List.set_cons_zero, List.set_cons_succ]
              refine wpAnyH_take (i := 4) (oi := _) (v := ?_) rfl (by kernel_rfl) (by kernel_rfl) (by kernel_rfl) (fun _ _ _ h => h) (Or.inl ⟨by rfl, ?_⟩) (by assumption) ?_
              rotate_left
              · intro w hSw
                go_split_ands
                go_simp
                try with_reducible rfl
              try simp only [Act.put, List.setIfInBounds_toArray, List.set_cons_zero, List.set_cons_succ]
              refine wpAnyH_take (i := 5) (oi := _) (v := ?_) rfl (by kernel_rfl) (by kernel_rfl) (by kernel_rfl) (fun _ _ _ h => h) (Or.inl ⟨by rfl, ?_⟩) (by assumption) ?_
              rotate_left
              · intro w hSw
                go_split_ands
                go_simp
                try with_reducible rfl
              try simp only [Act.put, List.setIfInBounds_toArray, List.set_cons_zero, List.set_cons_succ]
              refine wpAnyH_take (i := 6) (oi := _) (v := ?_) rfl (by kernel_rfl) (by kernel_rfl) (by kernel_rfl) (fun _ _ _ h => h) (Or.inl ⟨by rfl, ?_⟩) (by assumption) ?_
              rotate_left
              · intro w hSw
                go_split_ands
                go_simp
                try with_reducible rfl
              try simp only [Act.put, List.setIfInBounds_toArray, List.set_cons_zero, List.set_cons_succ]
              refine wpAnyH_take (i := 7) (oi := _) (v := ?_) rfl (by kernel_rfl) (by kernel_rfl) (by kernel_rfl) (fun _ _ _ h => h) (Or.inl ⟨by rfl, ?_⟩) (by assumption) ?_
              rotate_left
              · intro w hSw
                go_split_ands
                go_simp
                try with_reducible rfl
              try simp only [Act.put, List.setIfInBounds_toArray, List.set_cons_zero, List.set_cons_succ]
              refine wpAnyH_ready (rs := [8]) (by kernel_rfl) (by simp) ?_
              refine AllReadyH.cons (o := _) rfl (fun K hK => ?_) AllReadyH.nil
              have HK := Lib.hid hK; clear hK
              go_simp
              have hnew := alloc_new w9 (.cells (Go.madeCells #[.slice none 0 0] x.to.length) 22)
              have hb10 : Below w9.heap.size w9 (w9.alloc (.cells (Go.madeCells #[.slice none 0 0] x.to.length) 22)).drew := (below1 w9 _).drew
              have hs10 : ¬ spec c.R c.M (w9.alloc (.cells (Go.madeCells #[.slice none 0 0] x.to.length) 22)).drew w9.heap.size := spec_above HR9.out hb10 _ (Nat.le_refl _)
              have HLs : Hid (Lists (pub c.R c.M (w9.alloc (.cells (Go.madeCells #[.slice none 0 0] x.to.length) 22)).drew) (.slice (some ⟨w9.heap.size, 0, none⟩) x.to.length x.to.length) (List.replicate x.to.length [])) := lists_made (by have := HXF.out.to; omega) hnew hs10
              have HB10 := Lib.hid hb10
              clear hnew hs10 hb10
              generalize hw10 : (w9.alloc (.cells (Go.madeCells #[.slice none 0 0] x.to.length) 22)).drew = w10 at *
              clear hw10
              refine HK.out _ _ (HSt9.out _ HB10.out) (fun hHeld => ?_)
              clear HK
              refine wpAnyH_ready (rs := [9]) (by kernel_rfl) (by simp) ?_
              refine AllReadyH.cons (o := _) rfl (fun K hK => ?_) AllReadyH.nil
              have HK := Lib.hid hK; clear hK
              go_simp
              have HT10 := Lib.hid (Turn.of_below (M := c.M) HR9.out.ltR HB10.out)
              refine (vec_write c E' n' _ _ (st.calls : Int) 0 x.to (List.replicate x.to.length []) (.slice T x.to.length tc) (.slice (some ⟨w9.heap.size, 0, none⟩) x.to.length x.to.length) w10 (HR9.out.below HB10.out) ((HTo.out.reads HT59.out.reads).reads HT10.out.reads) HLs.out (by simp) (by have := HGn.out.1.size; have := HGn.out.1.left; have := HGn.out.1.count; have := HGn.out.1.calls; unfold maxLen; omega) (by have := HGood.out.count; have := HGood.out.left; unfold inInt; omega) HXF.out.toI (by have := HGn.out.1.wide; omega)).mono ?_
              rintro e w11 ⟨rfl, hrun11, hT11⟩
              rw [wider_nils] at hrun11
              have hf11 := HF5.out.turn (HT59.out.trans (HT10.out.trans hT11))
              have c11 : w11.cell? ⟨br, 0, none⟩ = some (.pointer (some ⟨c.R, 0, none⟩)) ∧ w11.cell? ⟨qd + 1, 0, none⟩ = some (.int .i64 st.calls) ∧ w11.cell? ⟨bx, 2, none⟩ = some (.slice T x.to.length tc) := by
                have hTT := HT9.out.trans (HT10.out.trans hT11)
                refine ⟨(hide_some hf11.run).2, ?_, ?_⟩
                · rw [cell_of_heap ((HTx.out.trans hTT).heap ho5.out (HQS.out _ (.inl ⟨by omega, by omega⟩)))]; rfl
                · rw [cell_of_heap (hTT.heap HXb.out HSx.out)]; rfl
              have HR11 := Lib.hid hrun11
              have HT11 := Lib.hid hT11
              clear hrun11 hT11 hf11
              refine HK.out _ _ c11 (fun hHeld => ?_)
              refine wpAnyH_done (by kernel_rfl) ?_ _
              clear HK c11 hHeld
              gi_wp2
              have hT210 := (Turn.of_below (M := c.M) HRun.out.ltR HBW.out).trans (HT9.out.trans (HT10.out.trans HT11.out))
              exact ⟨books_turn HRun.out hT210, _, ⟨_, _, _, _, HR11.out, HT59.out.trans (HT10.out.trans HT11.out), Regs.puts HWrm.out x.to (List.replicate x.to.length []) E' regs HRegs.out (by simp) HWrx.out, HGn.out.1.swap, HNext.out, hown⟩⟩
            case neg =>
              have he0 : ((l0.length : Int) == 0) = false := by rw [beq_eq_false_iff_ne]; intro e; exact hl00 (by omega)
              have hne0 : ((x.from_.map regs).headD []).length ≠ 0 := by rw [HHd.out]; exact hl00
              have HNe := Lib.hid hne0
              clear hl00 hne0
              by_cases hdp : deep < 2000
              case neg =>
                have hbad : Hid (R0 = .error 9) := by
                  unfold Hid
                  rcases HRec.out with ⟨-, hr⟩ | ⟨hd, -⟩
                  · rw [HRes.out, HDrop.out]; exact codeF_callerr hcount hop HNe.out (by rw [hr])
                  · exact absurd hd hdp
                gi_wp2
                refine ⟨trivial, (CallsIn.inRound _ ((callsIn_wide (n := 4)).2 (vec_need_no _ _))).mono ?_⟩
                rintro e w3 ⟨rfl, rfl⟩
                exact ⟨rfl, Books.of_below HBW.out, 9, rfl, hbad.out, HTx.out⟩
              case pos =>
                have hrc := (HRec.out.resolve_left (fun h => by omega)).2
                have HRc := Lib.hid hrc
                clear hrc
                gi_wp2
                refine ⟨trivial, (CallsIn.inRound _ ((callsIn_wide (n := 4)).2 (vec_need_yes _ _))).mono ?_⟩
                rintro e w3 ⟨rfl, rfl⟩
                gi_wp2
                refine ⟨trivial, (CallsIn.inRound _ ((callsIn_wide (n := 4)).2 hstp.out)).mono ?_⟩
                rintro e w9 ⟨rfl, hrun9, hT9⟩
                have HR9 := Lib.hid hrun9
                have HT9 := Lib.hid hT9
                have HT59 := Lib.hid (HTx.out.trans HT9.out)
                have hfx9 := HF5.out.turn HT59.out
                have HF9 := Lib.hid hfx9
                have hqo9 := HT59.out.heap ho5.out (HQS.out _ (.inl ⟨by omega, by omega⟩))
                have hqd9 := HT59.out.heap hd5.out (HQS.out _ (.inl ⟨by omega, by omega⟩))
                have hbx9 := HT9.out.heap HXb.out HSx.out
                have hn0 := HT59.out.spec (Array.getElem?_eq_some_iff.1 hd5.out).1 (HQS.out qd (.inl ⟨by omega, by omega⟩))
                have hn1 := HT59.out.spec (Array.getElem?_eq_some_iff.1 ho5.out).1 (HQS.out (qd + 1) (.inl ⟨by omega, by omega⟩))
                have hnx := HT9.out.spec (Array.getElem?_eq_some_iff.1 HXb.out).1 HSx.out
                have hst9 : ∀ X, Turn c.R c.M w9 X → X.cell? ⟨br, 0, none⟩ = some (.pointer (some ⟨c.R, 0, none⟩)) ∧ X.cell? ⟨qd + 1, 0, none⟩ = some (.int .i64 st.calls) ∧ X.cell? ⟨qd, 0, none⟩ = some (.int .i64 deep) ∧ X.cell? ⟨bc, 0, none⟩ = some (.func (.func 122) #[] #[.pointer (some ⟨br, 0, none⟩), .pointer (some ⟨bs, 0, none⟩), .pointer (some ⟨bc, 0, none⟩)]) ∧ X.cell? ⟨bx, 1, none⟩ = some (.int .i64 x.n) ∧ X.cell? ⟨bx, 2, none⟩ = some (.slice T x.to.length tc) := fun X h => by
                  have f := HF9.out.turn h
                  refine ⟨(hide_some f.run).2, ?_, ?_, (hide_some f.call).2, ?_, ?_⟩
                  · rw [cell_of_heap (h.heap hqo9 hn1)]; rfl
                  · rw [cell_of_heap (h.heap hqd9 hn0)]; rfl
                  · rw [cell_of_heap (h.heap hbx9 hnx)]; rfl
                  · rw [cell_of_heap (h.heap hbx9 hnx)]; rfl
                have HSt9 := Lib.hid hst9
                obtain ⟨k, hxn, hk, hpk, hok⟩ := HXF.out.call hop
                have hgd : p.funs.getD k ⟨0, [], [], []⟩ = p.funs[k] := by rw [List.getD_eq_getElem?_getD, List.getElem?_eq_getElem hk]; rfl
                have hbd := below_drew w9
                have htd := Turn.of_below (M := c.M) HR9.out.ltR hbd
                have hgn0 : Good c (n' + (pad + x.to.length)) (st'.note deep fn i 1) := by have := HGn.out.1; rwa [Nat.add_assoc] at this
                have hcl := HRc.out k (x.from_.map regs) (.slice (some ⟨bv, ov, none⟩) x.from_.length vc) E' n' (pad + x.to.length) (st'.note deep fn i 1) _ w9.drew ⟨HF9.out.turn htd, HR9.out.below hbd, hgn0, HGn.out.2, fun a r ha => by
                  have ha' : (st'.calls : Int) ≤ a := ha
                  rw [HRegs.out.other a (by omega)]; exact HNone.out a r (by omega), hk, ((HL.out.reads HT9.out.reads).reads htd.reads), by rw [hgd, hpk, List.length_map], HFr.out⟩
                have HCl := Lib.hid hcl
                have hok' : ∀ st2 out, rec x.n (x.from_.map regs) (st'.note deep fn i 1) = .ok (st2, out) → x.to.length = out.length := fun st2 out h => by
                  rw [HOutL.out _ _ _ _ _ h, hxn, Int.toNat_natCast, hgd, hok]
                have hwr1 : IntKind.i64.wrap (deep + 1) = deep + 1 := IntWalk.i64_in _ (by omega)
                have HOk := Lib.hid hok'
                have HTd := Lib.hid htd
                clear hstp hrun9 hT9 hfx9 hqo9 hqd9 hbx9 hn0 hn1 hnx hst9 hc0 cdeep cbs b150 b151 b152 b153 x0 x1 x2 x3 x4 he0 hok' hcl hgn0 hgd hk hpk hok hbd htd
                gi_wp2
                refine round_region (S := fun X => X.cell? ⟨br, 0, none⟩ = some (.pointer (some ⟨c.R, 0, none⟩)) ∧ X.cell? ⟨qd + 1, 0, none⟩ = some (.int .i64 st.calls) ∧ X.cell? ⟨qd, 0, none⟩ = some (.int .i64 deep) ∧ X.cell? ⟨bc, 0, none⟩ = some (.func (.func 122) #[] #[.pointer (some ⟨br, 0, none⟩), .pointer (some ⟨bs, 0, none⟩), .pointer (some ⟨bc, 0, none⟩)]) ∧ X.cell? ⟨bx, 1, none⟩ = some (.int .i64 x.n) ∧ X.cell? ⟨bx, 2, none⟩ = some (.slice T x.to.length tc)) followsMixed (by kernel_rfl) (fun ⟨_, _, h⟩ => h) (HSt9.out _ HTd.out) (fun hHeld => ?_)
                refine wpAnyH_take (i := 0) (oi := _) (v := ?_) rfl (by kernel_rfl) (by kernel_rfl) (by kernel_rfl) (fun _ _ _ h => h) (Or.inl ⟨by rfl, ?_⟩) (by assumption) ?_
                rotate_left
                · intro w hSw
                  go_split_ands
                  go_simp
                  try with_reducible rfl
                try simp only [Act.put, List.setIfInBounds_toArray, List.set_cons_zero, List.set_cons_succ]
                refine wpAnyH_take (i := 1) (oi := _) (v := ?_) rfl (by kernel_rfl) (by kernel_rfl) (by kernel_rfl) (fun _ _ _ h => h) (Or.inl ⟨by rfl, ?_⟩) (by assumption) ?_
                rotate_left
                · intro w hSw
                  go_split_ands
                  go_simp
                  try with_reducible rfl
                try simp only [Act.put, List.setIfInBounds_toArray, List.set_cons_zero, List.set_cons_succ]
                refine wpAnyH_take (i := 2) (oi := _) (v := ?_) rfl (by kernel_rfl) (by kernel_rfl) (by kernel_rfl) (fun _ _ _ h => h) (Or.inl ⟨by rfl, ?_⟩) (by assumption) ?_
                rotate_left
                · intro w hSw
                  go_split_ands
                  go_simp
                  try with_reducible rfl
                try simp only [Act.put, List.setIfInBounds_toArray, List.set_cons_zero, List.set_cons_succ]
                refine wpAnyH_take (i := 3) (oi := _) (v := ?_) rfl (by kernel_rfl) (by kernel_rfl) (by kernel_rfl) (fun _ _ _ h => h) (Or.inl ⟨by rfl, ?_⟩) (by assumption) ?_
                rotate_left
                · intro w hSw
                  go_split_ands
                  go_simp
                  try with_reducible rfl
                try simp only [Act.put, List.setIfInBounds_toArray, List.set_cons_zero, List.set_cons_succ]
                refine wpAnyH_take (i := 4) (oi := _) (v := ?_) rfl (by kernel_rfl) (by kernel_rfl) (by kernel_rfl) (fun _ _ _ h => h) (Or.inl ⟨by rfl, ?_⟩) (by assumption) ?_
                rotate_left
                · intro w hSw
                  go_split_ands
                  go_simp
                  try with_reducible rfl
                try simp only [Act.put, List.setIfInBounds_toArray, List.set_cons_zero, List.set_cons_succ]
                refine wpAnyH_take (i := 5) (oi := _) (v := ?_) rfl (by kernel_rfl) (by kernel_rfl) (by kernel_rfl) (fun _ _ _ h => h) (Or.inl ⟨by rfl, ?_⟩) (by assumption) ?_
                rotate_left
                · intro w hSw
                  go_split_ands
                  go_simp
                  try with_reducible rfl
                try simp only [Act.put, List.setIfInBounds_toArray, List.set_cons_zero, List.set_cons_succ]
                refine wpAnyH_take (i := 6) (oi := _) (v := ?_) rfl (by kernel_rfl) (by kernel_rfl) (by kernel_rfl) (fun _ _ _ h => h) (Or.inl ⟨by rfl, ?_⟩) (by assumption) ?_
                rotate_left
                · intro w hSw
                  go_split_ands
                  go_simp
                  try with_reducible rfl
                try simp only [Act.put, List.setIfInBounds_toArray, List.set_cons_zero, List.set_cons_succ]
                refine wpAnyH_take (i := 7) (oi := _) (v := ?_) rfl (by kernel_rfl) (by kernel_rfl) (by kernel_rfl) (fun _ _ _ h => h) (Or.inl ⟨by rfl, ?_⟩) (by assumption) ?_
                rotate_left
                · intro w hSw
                  go_split_ands
                  go_simp
                  try with_reducible rfl
                try simp only [Act.put, List.setIfInBounds_toArray, List.set_cons_zero, List.set_cons_succ]
                refine wpAnyH_take (i := 8) (oi := _) (v := ?_) rfl (by kernel_rfl) (by kernel_rfl) (by kernel_rfl) (fun _ _ _ h => h) (Or.inl ⟨by rfl, ?_⟩) (by assumption) ?_
                rotate_left
                · intro w hSw
                  go_split_ands
                  go_simp
                  try with_reducible rfl
                try simp only [Act.put, List.setIfInBounds_toArray, List.set_cons_zero, List.set_cons_succ]
                refine wpAnyH_take (i := 9) (oi := _) (v := ?_) rfl (by kernel_rfl) (by kernel_rfl) (by kernel_rfl) (fun _ _ _ h => h) (Or.inl ⟨by rfl, ?_⟩) (by assumption) ?_
                rotate_left
                · intro w hSw
                  go_split_ands
                  go_simp
                  try with_reducible rfl
                try simp only [Act.put, List.setIfInBounds_toArray, List.set_cons_zero, List.set_cons_succ]
                refine wpAnyH_take (i := 10) (oi := _) (v := ?_) rfl (by kernel_rfl) (by kernel_rfl) (by kernel_rfl) (fun _ _ _ h => h) (Or.inl ⟨by rfl, ?_⟩) (by assumption) ?_
                rotate_left
                · intro w hSw
                  go_split_ands
                  go_simp
                  try with_reducible rfl
                try simp only [Act.put, List.setIfInBounds_toArray, List.set_cons_zero, List.set_cons_succ]
                refine wpAnyH_ready (rs := [11]) (by kernel_rfl) (by simp) ?_
                refine AllReadyH.cons (o := _) rfl (fun K hK => ?_) AllReadyH.nil
                have HK := Lib.hid hK; clear hK
                go_simp
                refine HCl.out.mono ?_
                rintro e w10 ⟨hT10, hr10⟩
                have HT10 := Lib.hid (HTd.out.trans hT10)
                have hT2x := (Turn.of_below (M := c.M) HRun.out.ltR HBW.out).trans (HT9.out.trans HT10.out)
                rw [← hxn] at hr10
                cases hrr : rec x.n (x.from_.map regs) (st'.note deep fn i 1) with
                | error k1 =>
                  rw [hrr] at hr10
                  obtain rfl : e = .panicked (stopE k1) := hr10
                  exact ⟨rfl, books_turn HRun.out hT2x, k1, rfl, HRes.out.trans ((congrArg (fun l => codeF sem c.left rec deep fn i l regs st') HDrop.out).trans (codeF_callerr hcount hop HNe.out hrr)), HT59.out.trans HT10.out⟩
                | ok r =>
                  obtain ⟨st2, out⟩ := r
                  rw [hrr] at hr10
                  obtain ⟨v10, n10, now10, rfl, hv10, hsh10, hrun10, hgood10, hk10⟩ := hr10
                  have HNext : Hid (R0 = _) := HRes.out.trans ((congrArg (fun l => codeF sem c.left rec deep fn i l regs st') HDrop.out).trans (codeF_call hcount hop HNe.out hrr))
                  have HL10 := Lib.hid (HOk.out _ _ hrr)
                  have hk10' : st'.calls ≤ st2.calls := hk10
                  obtain ⟨V10, vc10, rfl, -⟩ := hv10.form
                  rw [← HL10.out] at hv10
                  have HV10 := Lib.hid hv10
                  have HSh10 := Lib.hid hsh10
                  have HR10 := Lib.hid hrun10
                  have HG10 := Lib.hid hgood10
                  have c10 := HSt9.out _ HT10.out
                  rw [← HL10.out]
                  clear hT10 hT2x hrr hv10 hsh10 hrun10 hgood10 hk10
                  refine HK.out _ _ c10 (fun hHeld => ?_)
                  clear HK
                  refine wpAnyH_ready (rs := [12]) (by kernel_rfl) (by simp) ?_
                  refine AllReadyH.cons (o := _) rfl (fun K hK => ?_) AllReadyH.nil
                  have HK := Lib.hid hK; clear hK
                  go_simp
                  refine (vec_write c E' n10 st2 now10 (st.calls : Int) 0 x.to out (.slice T x.to.length tc) (.slice V10 x.to.length vc10) w10 HR10.out ((HTo.out.reads HT59.out.reads).reads HT10.out.reads) HV10.out HL10.out (by have := HG10.out.size; have := HG10.out.left; have := HG10.out.count; have := HG10.out.calls; unfold maxLen; omega) (by have := HGood.out.count; have := HGood.out.left; unfold inInt; omega) HXF.out.toI (by have := HG10.out.wide; omega)).mono ?_
                  rintro e w11 ⟨rfl, hrun11, hT11⟩
                  have HR11 := Lib.hid hrun11
                  have HT11 := Lib.hid (HT10.out.trans hT11)
                  clear hrun11 hT11
                  refine HK.out _ _ (HSt9.out _ HT11.out) (fun hHeld => ?_)
                  refine wpAnyH_done (by kernel_rfl) ?_ _
                  clear HK c10 hHeld
                  gi_wp2
                  have hT210 := (Turn.of_below (M := c.M) HRun.out.ltR HBW.out).trans (HT9.out.trans HT11.out)
                  have hG11 : Good c (n10 + x.to.length + pad) (st2.wider out) := by
                    have := HG10.out.wider out HSh10.out
                    rw [← Nat.add_assoc] at this
                    exact this.swap
                  exact ⟨books_turn HRun.out hT210, _, ⟨_, _, _, _, HR11.out, HT59.out.trans HT11.out, Regs.puts HWrm.out x.to out E' regs HRegs.out HSh10.out HWrx.out, hG11, HNext.out, by show (st.calls : Int) < ((st2.wider out).calls : Int); have : (st2.wider out).calls = st2.calls := rfl; omega⟩⟩
      case hiter =>
        rintro J JY Jx Jp W1 hJI hJB hJs hY h0 hb -
        refine code_iter _ c w5 qo (qo + 1) (qo + 1 + 1) fn deep f.code fb foff cc C cs hS (by omega) (by have := HFit.out.check; unfold checkB inBetween at this; simp at this; omega) HD1.out hcm HCs.out J JY Jx Jp (fun i W hj => ?_) hJB (fun i W W' hi hj ht htr => ?_) (fun i W hi hj => hY i W hi hj) W1 h0
        · obtain ⟨now', hinv⟩ := hJI i W hj
          obtain ⟨E', n', st', regs, h1, h2, -⟩ := hinv.ex
          refine ⟨⟨E', n', st', now', h1⟩, h2, ?_, ?_, ?_⟩
          · rw [cell_of_heap (h2.heap HK0.out (HQS.out _ (.inr (Nat.le_refl _))))]; rfl
          · rw [cell_of_heap (h2.heap HK1.out (HQS.out _ (.inr (by omega))))]; rfl
          · rw [cell_of_heap (h2.heap HK2.out (HQS.out _ (.inr (by omega))))]; rfl
        · obtain ⟨now', hinv⟩ := hJI i W hj
          obtain ⟨E', n', st', regs, h1, h2, h3⟩ := hinv.ex
          exact hJs i W W' hj ⟨E', n', st', regs, htr _ _ _ _ h1, h2.trans ht, h3⟩ (books_turn h1 ht)
      case hdone =>
        rintro W ⟨now', hinv⟩ hD
        obtain ⟨E', n', st', regs, hrun, hT, hregs, hgood', hres, hown⟩ := hinv.ex
        have hown' : st.calls ≤ st'.calls := by omega
        clear hown
        rw [List.drop_length] at hres
        have hres' : R0 = .ok (st', regs) := hres
        have hval : bodyF sem c.left rec f fn deep args st = .ok (st', f.out.map regs) := by
          unfold bodyF; rw [← HR0.out, hres']
        have HV := Lib.hid hval
        have HRun := Lib.hid hrun
        have HT := Lib.hid hT
        have HRegs := Lib.hid hregs
        have HGo := Lib.hid hgood'
        have HD := Lib.hid hD
        have HFx := Lib.hid (HF5.out.turn hT)
        have hfx := HF5.out.turn hT
        obtain ⟨hsr, cbr⟩ := hide_some hfx.run
        obtain ⟨fb', foff', vc', vo, va', hS', e0, e1, e2, -, hcode, hout, -⟩ := fn_at hfx.funs fn hfn
        rw [hS] at hS'
        cases hS'
        rw [← HFe.out] at hcode hout
        obtain ⟨O, oc, rfl, -⟩ := hout.form
        obtain ⟨hse, ce2⟩ := hide_some e2
        have hqf := hT.heap hf5.out (HQS.out _ (.inl ⟨by omega, by omega⟩))
        have hqo' := hT.heap ho5.out (HQS.out _ (.inl ⟨by omega, by omega⟩))
        have cqf := (block_cell hqf 0 (by simp)).1
        have cqo := (block_cell hqo' 0 (by simp)).1
        obtain ⟨vs, hR, -⟩ := hrun.cells
        have r0 := (block_cell hR 0 (by simp [runCells])).1
        simp only [runCells, List.getElem_toArray, List.getElem_cons_zero, hS] at r0 cqf cqo
        have hrd := Lib.hid (vec_read c E' n' st' now' st.calls br (qd + 1) f.out (.slice O f.out.length oc) W W.drew hrun (below_drew W) ((hout.reads (reads_unhide _ _)).below (below_drew W)) cbr cqo (by unfold inInt; omega) HFF.out.outI (by have := HFF.out.out; omega))
        have hmap : (f.out.map fun x => (E' st.calls x).getD []) = f.out.map regs := List.map_congr_left (fun x _ => hregs.reg x)
        rw [hmap] at hrd
        have hst : ∀ X, Below W.heap.size W X → X.cell? ⟨br, 0, none⟩ = some (.pointer (some ⟨c.R, 0, none⟩)) ∧ X.cell? ⟨qd + 1 + 1, 0, none⟩ = some (.func (.func 123) #[] #[.pointer (some ⟨br, 0, none⟩), .pointer (some ⟨qd + 1, 0, none⟩)]) ∧ X.cell? ⟨c.R, 0, none⟩ = some (.slice (some ⟨fb, foff, none⟩) c.fl c.sc) ∧ X.cell? ⟨fb, foff + fn * 4 + 2, none⟩ = some (.slice O f.out.length oc) := fun X hb =>
          ⟨cell_keep hb cbr, cell_keep hb cqf, cell_keep hb r0, cell_keep hb ce2⟩
        have HSt := Lib.hid hst
        have hf0 : (0 : Int) ≤ (fn : Int) := by omega
        have hf1 : (fn : Int) < (c.fl : Int) := by omega
        have e123 : Enters Tryz.prog 123 := enters_of Tryz.func123 (by kernel_rfl) rfl
        clear hinv hrun hT hregs hgood' hres hres' hval hD hfx hsr cbr e0 e1 e2 hcode hout hse ce2 hqf hqo' cqf cqo hR r0 hmap hst
        refine wpV_of_wp ?_
        simp only [marked]
        go_wp2_with fail
        go_region_held3 (fun X => X.cell? ⟨br, 0, none⟩ = some (.pointer (some ⟨c.R, 0, none⟩)) ∧ X.cell? ⟨qd + 1 + 1, 0, none⟩ = some (.func (.func 123) #[] #[.pointer (some ⟨br, 0, none⟩), .pointer (some ⟨qd + 1, 0, none⟩)]) ∧ X.cell? ⟨c.R, 0, none⟩ = some (.slice (some ⟨fb, foff, none⟩) c.fl c.sc) ∧ X.cell? ⟨fb, foff + fn * 4 + 2, none⟩ = some (.slice O f.out.length oc)) (first | assumption | exact HSt.out _ (below_drew W) | exact HSt.out _ hbx) (first | (go_at_call 123; refine hrd.out.mono ?_; rintro e w2 ⟨v2, rfl, hv2, hb2⟩; have hbx : Below W.heap.size W w2 := below_step (below_drew W) hb2))
        have HRun2 := Lib.hid (HRun.out.below hbx)
        have HTW := Lib.hid (Turn.of_below (M := c.M) HRun.out.ltR hbx)
        replace hv2 := hv2.reads (reads_specOr _ _ _ _)
        have HV2 := Lib.hid hv2
        have hre := HRegs.out.other
        have hrw : ∀ r, E' st.calls r ≠ none → ((0 : Int) ≤ r ∧ r < args.length) ∨ ∃ x ∈ f.code, r ∈ x.to := fun r hr => by
          rcases HRegs.out.written r hr with h | ⟨x, hx, hx2⟩
          · exact .inl h
          · exact .inr ⟨x, List.mem_of_mem_take hx, hx2⟩
        have HRE := Lib.hid hre
        have HRW := Lib.hid hrw
        obtain ⟨V2, vc2, rfl, -⟩ := hv2.form
        clear hrd HSt e123 hbx hb2 hv2 hre hrw
        have hcells : ∀ X, Turn c.R c.M W X → (∃ E2 n2 st2 now2, RunAt c E2 n2 st2 now2 X) → ∀ Y : World, (∀ k, k ≠ c.M → Y.heap[k]? = X.heap[k]?) → Y.cell? ⟨br, 0, none⟩ = some (.pointer (some ⟨c.R, 0, none⟩)) ∧ Y.cell? ⟨c.R, 2, none⟩ = some (.map (some c.M)) ∧ Y.cell? ⟨qd + 1, 0, none⟩ = some (.int .i64 st.calls) := fun X hX ⟨E2, n2, st2, now2, hr⟩ Y hY => by
          obtain ⟨vs, hcR, -⟩ := hr.cells
          obtain ⟨hsr, hcr⟩ := hide_some (HFx.out.turn hX).run
          have hqo' := (HT.out.trans hX).heap ho5.out (HQS.out _ (.inl ⟨by omega, by omega⟩))
          have hqM : qd + 1 ≠ c.M := fun e => HQS.out (qd + 1) (.inl ⟨by omega, by omega⟩) (.inr (.inl e))
          refine ⟨?_, ?_, ?_⟩
          · exact (World.cell?_of_block (hY _ (fun e => hsr (.inr (.inl e))))).trans hcr
          · rw [cell_of_heap ((hY _ hr.ne).trans hcR)]; rfl
          · rw [cell_of_heap ((hY _ hqM).trans hqo')]; rfl
        have HCells := Lib.hid hcells
        clear hcells
        go_wp2_with fail
        go_loopw [19, 146] (fun _ i wr => ∃ (k : Nat) (E2 : Int → Int → Option (List Int)), k ≤ args.length ∧ i = .int .i64 k ∧ RunAt c E2 n' st' now' wr ∧ Turn c.R c.M w2 wr ∧ (∀ a, a ≠ (st.calls : Int) → E2 a = E a) ∧ ∀ r, E2 st.calls r ≠ none → ((k : Int) ≤ r ∧ r < args.length) ∨ ∃ x ∈ f.code, r ∈ x.to) (fun _ i _ => args.length - (intOf i).toNat)
        case atStart => exact ⟨0, E', Nat.zero_le _, rfl, HRun2.out, Turn.refl _ _ _, HRE.out, HRW.out⟩
        case round =>
          obtain ⟨k, E2, hk, rfl, hrun, hturn, hoth, hwri⟩ := hrel
          have HRk := Lib.hid hrun
          have HTk := Lib.hid hturn
          have HOth := Lib.hid hoth
          have HWri := Lib.hid hwri
          clear hrun hturn hoth hwri
          by_cases hlt : k < args.length
          · obtain ⟨w3, hdel, hrun3, hT3, hh3⟩ := (HRk.out.below (below_drew wr)).drop (a := (st.calls : Int)) (r := (k : Int)) (by have := HGo.out.left; have := HGood.out.count; have := HGood.out.left; unfold inInt; omega) (by unfold inInt; omega) 0
            have HM0 := Lib.hid (HCells.out wr (HTW.out.trans HTk.out) ⟨_, _, _, _, HRk.out⟩)
            have HS3 := Lib.hid (HM0.out w3 (fun k hk => (hh3 k hk).trans rfl))
            have HR3 := Lib.hid hrun3
            have HT3 := Lib.hid ((Turn.of_below (M := c.M) HRk.out.ltR (below_drew wr)).trans hT3)
            have HDel := Lib.hid hdel
            clear hrun3 hT3 hh3 hdel
            go_wp2_with fail
            go_region_held3 (fun X => X.cell? ⟨br, 0, none⟩ = some (.pointer (some ⟨c.R, 0, none⟩)) ∧ X.cell? ⟨c.R, 2, none⟩ = some (.map (some c.M)) ∧ X.cell? ⟨qd + 1, 0, none⟩ = some (.int .i64 st.calls)) (first | assumption | exact HM0.out _ (fun _ _ => rfl) | exact HS3.out) (first | (refine step_delete_run rfl _ _ 139 194 rfl (.map (some c.M)) (.agg #[.int .i64 st.calls, .int .i64 k]) rfl rfl _ _ HDel.out ?_))
            go_wp2
            go_roundw
            case rel =>
              refine ⟨k + 1, delE E2 st.calls k, hlt, by go_num, HR3.out, HTk.out.trans HT3.out, delE_other HOth.out, fun r hr => ?_⟩
              obtain ⟨h1, h2⟩ := delE_left hr
              rcases HWri.out r h2 with h3 | h3
              · exact .inl (by omega)
              · exact .inr h3
            case measure => simp [intOf]; omega
          · obtain rfl : k = args.length := by omega
            have HWri2 : Hid (∀ r, E2 st.calls r ≠ none → ∃ x ∈ f.code, r ∈ x.to) := fun r hr => by
              rcases HWri.out r hr with h3 | h3
              · omega
              · exact h3
            have HTk2 := Lib.hid (HTW.out.trans HTk.out)
            have hfx := HFx.out.turn HTk2.out
            have cbr := (hide_some hfx.run).2
            obtain ⟨fb', foff', vc', vo', va'', hS', -, e1, -, -, hcode, -, -⟩ := fn_at hfx.funs fn hfn
            rw [hS] at hS'
            cases hS'
            rw [← HFe.out] at hcode
            obtain ⟨C3, cc3, rfl, hcm3, -⟩ := hcode.form
            have ce1 := (hide_some e1).2
            obtain ⟨vs3, hR3, -⟩ := HRk.out.cells
            have r0 := (block_cell hR3 0 (by simp [runCells])).1
            simp only [runCells, List.getElem_toArray, List.getElem_cons_zero, hS] at r0
            have HCode := Lib.hid hcode
            clear HWri hfx e1 hcode hR3
            go_wp2_with fail
            clear cbr ce1 r0
            generalize wr = w4 at *
            go_loopw [167] (fun i wr => ∃ (j : Nat) (E3 : Int → Int → Option (List Int)), j ≤ f.code.length ∧ i = .int .i64 j ∧ RunAt c E3 n' st' now' wr ∧ Turn c.R c.M w4 wr ∧ (∀ a, a ≠ (st.calls : Int) → E3 a = E a) ∧ ∀ r, E3 st.calls r ≠ none → ∃ x ∈ f.code.drop j, r ∈ x.to) (fun i _ => f.code.length - (intOf i).toNat)
            case atStart => exact ⟨0, E2, Nat.zero_le _, rfl, HRk.out, Turn.refl _ _ _, HOth.out, HWri2.out⟩
            case round =>
              obtain ⟨j, E3, hj, rfl, hrun, hturn, hoth, hwri⟩ := hrel
              have HRj := Lib.hid hrun
              have HTj := Lib.hid hturn
              have HOthj := Lib.hid hoth
              have HWrij := Lib.hid hwri
              clear hrun hturn hoth hwri
              by_cases hlt : j < f.code.length
              · obtain ⟨b, off, vt, vf, vb, rfl, e0, e1, e2, e3, e4, ht, -, hb⟩ := ins_at (HCode.out.reads stays_ins HTj.out.reads) j hlt
                obtain ⟨T, tc, rfl, -⟩ := ht.form
                obtain ⟨B, bc', rfl, -⟩ := Sl.form hb
                obtain ⟨hse, e0⟩ := hide_some e0
                replace e1 := (hide_some e1).2
                replace e2 := (hide_some e2).2
                replace e3 := (hide_some e3).2
                replace e4 := (hide_some e4).2
                have hxf := HFF.out.ins f.code[j] (List.getElem_mem hlt)
                have hfv : ∃ F fc, vf = .slice F f.code[j].from_.length fc := by
                  obtain ⟨b2, off2, vt2, vf2, vb2, hA2, -, -, -, k3, -, -, hf2, -⟩ := ins_at (HCode.out.reads stays_ins HTj.out.reads) j hlt
                  cases hA2
                  have k3 := (hide_some k3).2
                  rw [e3] at k3
                  cases k3
                  obtain ⟨F, fc, rfl, -⟩ := hf2.form
                  exact ⟨F, fc, rfl⟩
                obtain ⟨F, fc, rfl⟩ := hfv
                have HTo := Lib.hid ht
                have HXF := Lib.hid hxf
                have hto100 := hxf.to
                have hWr : Hid (∀ r, E3 st.calls r ≠ none → r ∈ f.code[j].to ∨ ∃ x ∈ f.code.drop (j + 1), r ∈ x.to) := fun r hr => by
                  obtain ⟨x, hx, hx2⟩ := HWrij.out r hr
                  rw [List.drop_eq_getElem_cons hlt] at hx
                  rcases List.mem_cons.1 hx with rfl | hx
                  · exact .inl hx2
                  · exact .inr ⟨x, hx, hx2⟩
                generalize hxj : f.code[j] = x at *
                have hbx := below1 wr (.cells #[.int .i64 x.op, .int .i64 x.n, .slice T x.to.length tc, .slice F x.from_.length fc, .slice B x.body.length bc'] 63)
                have HRx := Lib.hid (HRj.out.below hbx)
                have HTx := Lib.hid (HTj.out.trans (Turn.of_below (M := c.M) HRj.out.ltR hbx))
                have HTo2 := Lib.hid (ht.reads (Turn.of_below (M := c.M) HRj.out.ltR hbx).reads)
                clear hxj ht hb hse hxf hbx HWrij
                go_wp2_with fail
                clear e0 e1 e2 e3 e4
                generalize wr.alloc (.cells #[.int .i64 x.op, .int .i64 x.n, .slice T x.to.length tc, .slice F x.from_.length fc, .slice B x.body.length bc'] 63) = w6 at *
                go_loopw [23, 174] (fun _ i wr => ∃ (m : Nat) (E4 : Int → Int → Option (List Int)), m ≤ x.to.length ∧ i = .int .i64 m ∧ RunAt c E4 n' st' now' wr ∧ Turn c.R c.M w6 wr ∧ (∀ a, a ≠ (st.calls : Int) → E4 a = E a) ∧ ∀ r, E4 st.calls r ≠ none → r ∈ x.to.drop m ∨ ∃ y ∈ f.code.drop (j + 1), r ∈ y.to) (fun _ i _ => x.to.length - (intOf i).toNat)
                case atStart => exact ⟨0, E3, Nat.zero_le _, rfl, HRx.out, Turn.refl _ _ _, HOthj.out, hWr.out⟩
                case round =>
                  obtain ⟨m, E4, hm, rfl, hrun, hturn, hoth, hwri⟩ := hrel
                  have HRm := Lib.hid hrun
                  have HTm := Lib.hid hturn
                  have HOthm := Lib.hid hoth
                  have HWrim := Lib.hid hwri
                  clear hrun hturn hoth hwri
                  by_cases hlt2 : m < x.to.length
                  · obtain ⟨bt, ot, rfl, hct⟩ := (HTo2.out.reads HTm.out.reads).at_ m hlt2
                    replace hct := (hide_some hct).2
                    have hmi := HXF.out.toI x.to[m] (List.getElem_mem hlt2)
                    obtain ⟨w7, hdel, hrun3, hT3, hh3⟩ := (HRm.out.below (below_drew wr)).drop (a := (st.calls : Int)) (r := x.to[m]) (by have := HGood.out.count; have := HGood.out.left; unfold inInt; omega) hmi 0
                    have HM0 := Lib.hid (HCells.out wr (HTk2.out.trans (HTx.out.trans HTm.out)) ⟨_, _, _, _, HRm.out⟩)
                    have HS3 := Lib.hid (HM0.out w7 (fun k hk => (hh3 k hk).trans rfl))
                    have HR3 := Lib.hid hrun3
                    have HT3 := Lib.hid ((Turn.of_below (M := c.M) HRm.out.ltR (below_drew wr)).trans hT3)
                    have HDel := Lib.hid hdel
                    have HDr : Hid (∀ r, E4 st.calls r ≠ none → r = x.to[m] ∨ r ∈ x.to.drop (m + 1) ∨ ∃ y ∈ f.code.drop (j + 1), r ∈ y.to) := fun r hr => by
                      rcases HWrim.out r hr with h | h
                      · rw [List.drop_eq_getElem_cons hlt2] at h
                        rcases List.mem_cons.1 h with h | h
                        · exact .inl h
                        · exact .inr (.inl h)
                      · exact .inr (.inr h)
                    clear hrun3 hT3 hh3 hdel hmi HWrim
                    go_wp2_with fail
                    go_region_held3 (fun X => X.cell? ⟨br, 0, none⟩ = some (.pointer (some ⟨c.R, 0, none⟩)) ∧ X.cell? ⟨c.R, 2, none⟩ = some (.map (some c.M)) ∧ X.cell? ⟨qd + 1, 0, none⟩ = some (.int .i64 st.calls)) (first | assumption | exact HM0.out _ (fun _ _ => rfl) | exact HS3.out) (first | (refine step_delete_run rfl _ _ 139 194 rfl (.map (some c.M)) (.agg #[.int .i64 st.calls, .int .i64 x.to[m]]) rfl rfl _ _ HDel.out ?_))
                    go_wp2
                    go_roundw
                    case rel =>
                      refine ⟨m + 1, delE E4 st.calls x.to[m], hlt2, by go_num, HR3.out, HTm.out.trans HT3.out, delE_other HOthm.out, fun r hr => ?_⟩
                      obtain ⟨h1, h2⟩ := delE_left hr
                      rcases HDr.out r h2 with h3 | h3 | h3
                      · exact (h1 h3).elim
                      · exact .inl h3
                      · exact .inr h3
                    case measure => simp [intOf]; omega
                  · obtain rfl : m = x.to.length := by omega
                    go_wp2_with fail
                    go_roundw
                    case rel =>
                      refine ⟨j + 1, E4, hlt, by go_num, HRm.out, HTx.out.trans HTm.out, HOthm.out, fun r hr => ?_⟩
                      rcases HWrim.out r hr with h | h
                      · rw [List.drop_length] at h; cases h
                      · exact h
                    case measure => simp [intOf]; omega
              · obtain rfl : j = f.code.length := by omega
                have hE : E3 = E := by
                  funext a
                  by_cases ha : a = (st.calls : Int)
                  · subst ha
                    funext r
                    rw [HNone.out _ r (Int.le_refl _)]
                    cases hh : E3 st.calls r with
                    | none => rfl
                    | some l =>
                      obtain ⟨x, hx, -⟩ := HWrij.out r (by rw [hh]; simp)
                      rw [List.drop_length] at hx; cases hx
                  · exact HOthj.out a ha
                have HRf := Lib.hid HRj.out
                rw [hE] at HRf
                have hTf := HTk2.out.trans HTj.out
                have hDf := books_turn HRun.out hTf _ _ HD.out rfl
                have HTf := Lib.hid hTf
                have HDf := Lib.hid hDf
                have HV3 := Lib.hid (HV2.out.reads (HTk.out.trans HTj.out).reads)
                have HLt5 := Lib.hid HRn.out.ltR
                clear hE hTf hDf
                go_wp2_with fail
                have hD3 := HDf.out
                rw [hsz5] at hD3
                refine leaveM_mark (by simp) hD3 (leaveM_nil (results_tmp rfl _ _ _) ?_)
                rw [HV.out]
                refine ⟨HT5.out.trans ((HT.out.trans HTf.out).putBook hD3 rfl (HRf.out.neBook hD3 rfl).1 (by rw [hsz5]; exact Nat.le_refl _)), _, n', now', rfl, HV3.out.reads (HRf.out.readsPut hD3 rfl), fun l hl => ?_, HRf.out.putBook hD3 rfl, HGo.out, hown'⟩
                obtain ⟨r, -, rfl⟩ := List.mem_map.1 hl
                exact HRegs.out.short r
      case hstop => exact fun _ _ h => h.elim
      case hpanic =>
        rintro ch W ⟨k, rfl, hR, hT⟩ hD
        refine leaveM_mark (by simp) hD (leaveM_panic ?_)
        have hval : bodyF sem c.left rec f fn deep args st = .error k := by unfold bodyF; rw [← HR0.out, hR]
        rw [hval]
        refine ⟨HT5.out.trans (hT.putBook hD rfl ?_ (Nat.le_refl _)), rfl⟩
        have h1 := HRn.out.ltR
        omega
end Go.Proofs.YtdkcjeaabbkdeaaGreatDoor
