/- Package vec: calls as deep as they may go; a run's first call. Package vec: a run's start. -/
import Derived.Test.YtdkcjeaabbkdeaaGreatDoorZCallB
import Derived.Carry
set_option linter.unusedVariables false
set_option linter.unusedSimpArgs false
set_option linter.unnecessarySimpa false
set_option linter.unusedSectionVars false
section
namespace Go.Proofs.YtdkcjeaabbkdeaaGreatDoor
open Go.RowKit Go.Maps Go.Shelf
set_option linter.unusedVariables false
set_option linter.unusedSimpArgs false

theorem callF_zero {sem : Ins → List (List Int) → List (List Int) × Int} {left : Nat} {p : Pr} {fn : Nat} {deep : Int} {args : List (List Int)} {st : St} (hfn : fn < p.funs.length) :
    callF sem left p 0 fn deep args st = bodyF sem left (fun _ _ _ => .error 9) (p.funs.getD fn ⟨0, [], [], []⟩) fn deep args st := by
  rw [callF, List.getD_eq_getElem?_getD, Int.toNat_natCast, List.getElem?_eq_getElem hfn]; rfl
theorem callF_succ {sem : Ins → List (List Int) → List (List Int) × Int} {left : Nat} {p : Pr} {d fn : Nat} {deep : Int} {args : List (List Int)} {st : St} (hfn : fn < p.funs.length) :
    callF sem left p (d + 1) fn deep args st = bodyF sem left (fun n l st => callF sem left p d n (deep + 1) l st) (p.funs.getD fn ⟨0, [], [], []⟩) fn deep args st := by
  rw [callF, List.getD_eq_getElem?_getD, Int.toNat_natCast, List.getElem?_eq_getElem hfn]; rfl
theorem callF_out {sem : Ins → List (List Int) → List (List Int) × Int} {left : Nat} {p : Pr} {d : Nat} {fn deep : Int} {args : List (List Int)} {st st' : St} {out : List (List Int)} (h : callF sem left p d fn deep args st = .ok (st', out)) :
    out.length = (p.funs.getD fn.toNat ⟨0, [], [], []⟩).out.length := by
  cases hf : p.funs[fn.toNat]? with
  | none => cases d <;> (rw [callF, hf] at h; cases h)
  | some f =>
    rw [List.getD_eq_getElem?_getD, hf]
    cases d with
    | zero =>
      rw [callF, hf] at h
      simp only at h
      split at h
      · cases h
      · cases h; simp
    | succ d =>
      rw [callF, hf] at h
      simp only at h
      split at h
      · cases h
      · cases h; simp

theorem call_any (c : Cfg) (p : Pr) (sem : Ins → List (List Int) → List (List Int) × Int) (br bs bc : Nat) (hfit : Fit p sem) (hfl : c.fl = p.funs.length) : ∀ (d : Nat) (deep : Int), deep + d = 2000 → 1 ≤ deep →
    ∀ (fn : Nat) args va E n pad st now w, Pre c p sem br bs bc fn args va E n pad st now w →
      Calls Tryz.prog 122 #[.int .i64 fn, .int .i64 deep, va, .pointer (some ⟨br, 0, none⟩), .pointer (some ⟨bs, 0, none⟩), .pointer (some ⟨bc, 0, none⟩)] w (CallPost c E pad st.calls w (callF sem c.left p d fn deep args st)) := by
  intro d
  induction d with
  | zero =>
    intro deep h1 h2 fn args va E n pad st now w hpre
    rw [callF_zero hpre.hfn]
    exact call_body c p sem br bs bc hfit hfl deep ⟨h2, by omega⟩ _ (.inl ⟨by omega, rfl⟩) fn args va E n pad st now w (fun _ _ _ _ _ h => by cases h) hpre
  | succ d ih =>
    intro deep h1 h2 fn args va E n pad st now w hpre
    rw [callF_succ hpre.hfn]
    exact call_body c p sem br bs bc hfit hfl deep ⟨h2, by omega⟩ _ (.inr ⟨by omega, fun fn args va E n pad st now w h => ih (deep + 1) (by omega) (by omega) fn args va E n pad st now w h⟩) fn args va E n pad st now w (fun _ _ _ _ _ h => callF_out h) hpre

set_option maxRecDepth 100000 in
set_option maxHeartbeats 1000000 in
theorem vec_runcall (c : Cfg) (p : Pr) (sem : Ins → List (List Int) → List (List Int) × Int) (hfit : Fit p sem) (hfl : c.fl = p.funs.length) (fn : Nat) (args : List (List Int)) (va : Value) (now : Step) (w : World)
    (hrun : RunAt c (fun _ _ => none) 0 St.zero now w) (hleft : c.left ≤ 1000000) (hfn : fn < p.funs.length) (hfuns : Sl 4 RFn (pub c.R c.M w) (.slice c.S c.fl c.sc) p.funs) (hglob : Glob (pub c.R c.M w)) (hargs : Lists (pub c.R c.M w) va args)
    (hparams : ((p.funs.getD fn ⟨0, [], [], []⟩).params : Int) = args.length) (hshort : ∀ l ∈ args, l.length ≤ 1048576) :
    Calls Tryz.prog 85 #[.pointer (some ⟨c.R, 0, none⟩), .int .i64 fn, va] w (CallPost c (fun _ _ => none) 0 0 w (callF sem c.left p 1999 fn 1 args St.zero)) := by
  obtain ⟨A, ac, rfl, -⟩ := hargs.form
  have hR := hrun.ltR
  have HAll := Lib.hid (And.intro hrun (And.intro hfuns (And.intro hglob hargs)))
  have HShort := Lib.hid hshort
  clear hrun hfuns hglob hargs hshort
  go_enter Tryz.func85, Tryz.ntmps85
  go_wp2_with fail
  have hb := below3 w (.cells #[.pointer (some ⟨c.R, 0, none⟩)] 137) (.cells #[.func (.func 121) #[.pointer (some ⟨c.R, 0, none⟩)] #[]] 191) (.cells #[.func (.func 122) #[] #[.pointer (some ⟨w.heap.size, 0, none⟩), .pointer (some ⟨w.heap.size + 1, 0, none⟩), .pointer (some ⟨w.heap.size + 1 + 1, 0, none⟩)]] 192)
  have k0 := heap_alloc (heap_alloc (alloc_new w (.cells #[.pointer (some ⟨c.R, 0, none⟩)] 137)) (.cells #[.func (.func 121) #[.pointer (some ⟨c.R, 0, none⟩)] #[]] 191)) (.cells #[.func (.func 122) #[] #[.pointer (some ⟨w.heap.size, 0, none⟩), .pointer (some ⟨w.heap.size + 1, 0, none⟩), .pointer (some ⟨w.heap.size + 1 + 1, 0, none⟩)]] 192)
  have k1 := heap_alloc (alloc_new (w.alloc (.cells #[.pointer (some ⟨c.R, 0, none⟩)] 137)) (.cells #[.func (.func 121) #[.pointer (some ⟨c.R, 0, none⟩)] #[]] 191)) (.cells #[.func (.func 122) #[] #[.pointer (some ⟨w.heap.size, 0, none⟩), .pointer (some ⟨w.heap.size + 1, 0, none⟩), .pointer (some ⟨w.heap.size + 1 + 1, 0, none⟩)]] 192)
  have k2 := alloc_new ((w.alloc (.cells #[.pointer (some ⟨c.R, 0, none⟩)] 137)).alloc (.cells #[.func (.func 121) #[.pointer (some ⟨c.R, 0, none⟩)] #[]] 191)) (.cells #[.func (.func 122) #[] #[.pointer (some ⟨w.heap.size, 0, none⟩), .pointer (some ⟨w.heap.size + 1, 0, none⟩), .pointer (some ⟨w.heap.size + 1 + 1, 0, none⟩)]] 192)
  rw [show (w.alloc (.cells #[.pointer (some ⟨c.R, 0, none⟩)] 137)).heap.size = w.heap.size + 1 by simp] at k1
  rw [show ((w.alloc (.cells #[.pointer (some ⟨c.R, 0, none⟩)] 137)).alloc (.cells #[.func (.func 121) #[.pointer (some ⟨c.R, 0, none⟩)] #[]] 191)).heap.size = w.heap.size + 1 + 1 by simp] at k2
  generalize ((w.alloc (.cells #[.pointer (some ⟨c.R, 0, none⟩)] 137)).alloc (.cells #[.func (.func 121) #[.pointer (some ⟨c.R, 0, none⟩)] #[]] 191)).alloc (.cells #[.func (.func 122) #[] #[.pointer (some ⟨w.heap.size, 0, none⟩), .pointer (some ⟨w.heap.size + 1, 0, none⟩), .pointer (some ⟨w.heap.size + 1 + 1, 0, none⟩)]] 192) = w3 at *
  obtain ⟨hrun, hfuns, hglob, hargs⟩ := HAll.out
  have hT := Turn.of_below (M := c.M) hrun.ltR hb
  have hns := spec_above hrun hb
  have hpre : Pre c p sem w.heap.size (w.heap.size + 1) (w.heap.size + 1 + 1) fn args (.slice A args.length ac) (fun _ _ => none) 0 0 St.zero now w3 :=
    ⟨⟨by rw [hide_cell _ _ (hns _ (Nat.le_refl _)), cell_of_heap k0]; rfl, by rw [hide_cell _ _ (hns (w.heap.size + 1) (by omega)), cell_of_heap k1]; rfl, by rw [hide_cell _ _ (hns (w.heap.size + 1 + 1) (by omega)), cell_of_heap k2]; rfl, hfuns.reads stays_fn hT.reads, hglob.reads hT.reads⟩, hrun.below hb, ⟨hleft, by simp [St.zero], by simp [St.zero], by simp, by simp [St.zero], rfl, by simp [St.zero]⟩, by simp [St.zero], fun _ _ _ => rfl, hfn, hargs.reads hT.reads, hparams, HShort.out⟩
  have hcall := call_any c p sem w.heap.size (w.heap.size + 1) (w.heap.size + 1 + 1) hfit hfl 1999 1 (by omega) (by omega) fn args (.slice A args.length ac) (fun _ _ => none) 0 0 St.zero now w3 hpre
  have HT := Lib.hid hT
  have HC := Lib.hid hcall
  clear hrun hfuns hglob hargs hT hns hpre hcall k0 k1 k2
  refine HC.out.mono ?_
  rintro e w4 ⟨hT4, hr⟩
  have HT4 := Lib.hid (HT.out.trans hT4)
  cases hrr : callF sem c.left p 1999 (fn : Int) 1 args St.zero with
  | error k =>
    rw [hrr] at hr
    obtain rfl : e = .panicked (stopE k) := hr
    refine ⟨rfl, HT4.out, ?_⟩
    rw [hrr]
  | ok r =>
    rw [hrr] at hr
    obtain ⟨st2, out⟩ := r
    obtain ⟨v, n', now', rfl, hv, hrest⟩ := hr
    obtain ⟨V, vc, rfl, -⟩ := hv.form
    have HR := Lib.hid (And.intro hv hrest)
    clear hT4 hv hrest
    go_wp2_with fail
    go_ret
    refine ⟨HT4.out, ?_⟩
    rw [hrr]
    exact ⟨_, n', now', rfl, HR.out.1, HR.out.2⟩
end Go.Proofs.YtdkcjeaabbkdeaaGreatDoor
end
section
namespace Go.Proofs.YtdkcjeaabbkdeaaGreatDoor
open Go.RowKit Go.Maps Go.Shelf
set_option linter.unusedVariables false
set_option linter.unusedSimpArgs false

/-- What speaks against a run, ahead of its first step. -/
def startedB (p : Pr) (args : List (List Int)) (left : Int) : Int :=
  if checkB p = true then (if ((args.length : Int) == (p.funs.getD p.main.toNat ⟨0, [], [], []⟩).params && (args.all isVec && (decide (0 ≤ left) && decide (left ≤ 1000000)))) = true then 0 else 2) else 1
def StartPost (p : Pr) (cp : List Value) (args : List (List Int)) (left : Int) (w : World) (e : Ending) (w' : World) : Prop := Below w.heap.size w w' ∧
    if startedB p args left = 0 then ∃ S sc R M, cp = [.slice S p.funs.length sc, .int .i64 p.main] ∧ e = .returned (.pointer (some ⟨R, 0, none⟩)) ∧ RunAt ⟨w.heap.size, R, M, S, p.funs.length, sc, p.main, left.toNat, false⟩ (fun _ _ => none) 0 St.zero ⟨0, 0, 0, 0⟩ w'
    else e = .panicked (stopE (startedB p args left))

set_option maxRecDepth 100000 in
set_option maxHeartbeats 1000000 in
theorem vec_started (p : Pr) (cp : List Value) (args : List (List Int)) (va : Value) (left : Int) (w : World) (hp : RPr w cp p) (hs : Sane p) (ha : Lists w va args) :
    Calls Tryz.prog 84 #[.agg cp.toArray, va, .int .i64 left] w (StartPost p cp args left w) := by
  have HCh := Lib.hid (fun W (hb : Below w.heap.size w W) => vec_check p cp W (stays_pr _ _ _ _ (reads_below hb) hp) hs)
  obtain ⟨fs, main⟩ := p
  obtain ⟨vfs, rfl, hfs⟩ := hp
  simp only at hfs HCh ⊢
  obtain ⟨S, sc, rfl, hsm, -⟩ := hfs.form
  obtain ⟨A, ac, rfl, ham⟩ := ha.form
  have HFs := Lib.hid hfs
  have HA := Lib.hid ha
  have hbx := Lib.hid (alloc_new w (.cells #[.slice S fs.length sc, .int .i64 main] 25))
  have hmm := @run_makeMap Tryz.prog
  clear hfs ha
  go_enter Tryz.func84, Tryz.ntmps84
  go_wp2_with fail
  refine (HCh.out _ (below1 w _)).mono ?_
  rintro e w1 ⟨rfl, hb1⟩
  have HB1 := Lib.hid (below_step (below1 w _) hb1)
  have hq1 := heap_keep hb1 hbx.out
  have q0 := (block_cell hq1 0 (by simp)).1
  have q1 := (block_cell hq1 1 (by simp)).1
  simp only [List.getElem_toArray, List.getElem_cons_zero, List.getElem_cons_succ] at q0 q1
  have HQ1 := Lib.hid hq1
  clear hb1 hq1
  by_cases hck : checkB ⟨fs, main⟩ = true
  case neg =>
    simp only [hck, if_false, Bool.false_eq_true]
    have HV : Hid (startedB ⟨fs, main⟩ args left = 1) := by unfold Hid startedB; rw [if_neg hck]
    go_wp2_with fail
    refine (vec_need_no _ _).mono ?_
    rintro e w3 ⟨rfl, rfl⟩
    refine ⟨rfl, HB1.out, ?_⟩
    rw [HV.out]; rfl
  simp only [hck, if_true]
  have HV : Hid (startedB ⟨fs, main⟩ args left = if ((args.length : Int) == (fs.getD main.toNat ⟨0, [], [], []⟩).params && (args.all isVec && (decide (0 ≤ left) && decide (left ≤ 1000000)))) = true then 0 else 2) := by unfold Hid startedB; rw [if_pos hck]
  have hm : 0 ≤ main ∧ main < fs.length := by
    unfold checkB inBetween at hck
    simp only [Bool.and_eq_true, decide_eq_true_eq] at hck
    omega
  obtain ⟨m, rfl⟩ : ∃ m : Nat, main = (m : Int) := ⟨main.toNat, by omega⟩
  have hmf : m < fs.length := by omega
  obtain ⟨fb, foff, vc, vo, va', hS, d0, -, -, -, -, -, -⟩ := fn_at (HFs.out.reads stays_fn (reads_below HB1.out)) m hmf
  have hgd : fs.getD (m : Int).toNat ⟨0, [], [], []⟩ = fs[m] := by rw [Int.toNat_natCast, List.getD_eq_getElem?_getD, List.getElem?_eq_getElem hmf]; rfl
  rw [hgd] at HV
  subst hS
  have HVec := Lib.hid (fun W (hb : Below w.heap.size w W) => vec_vectors (.slice A args.length ac) args W (HA.out.below hb))
  clear hck hgd hm
  generalize hfp : fs[m].params = fp at *
  clear hfp
  go_wp2_with fail
  refine (vec_need_yes _ _).mono ?_
  rintro e w3 ⟨rfl, rfl⟩
  by_cases h1 : ((args.length : Int) == fp) = true
  case neg =>
    rw [Bool.not_eq_true] at h1
    go_wp2_with fail
    refine (vec_need_no _ _).mono ?_
    rintro e w3 ⟨rfl, rfl⟩
    refine ⟨rfl, HB1.out, ?_⟩
    rw [HV.out, h1]; rfl
  go_wp2_with fail
  refine (HVec.out _ HB1.out).mono ?_
  rintro e w4 ⟨rfl, hb4⟩
  have HB4 := Lib.hid (below_step HB1.out hb4)
  have HQ4 := Lib.hid (heap_keep hb4 HQ1.out)
  clear q0 q1 d0 hb4
  by_cases h2 : args.all isVec = true
  case neg =>
    rw [Bool.not_eq_true] at h2
    simp only [h2]
    go_wp2_with fail
    refine (vec_need_no _ _).mono ?_
    rintro e w3 ⟨rfl, rfl⟩
    refine ⟨rfl, HB4.out, ?_⟩
    rw [HV.out, h1, h2]; rfl
  simp only [h2]
  go_wp2_with fail
  refine (vec_within _ _ _ _).mono ?_
  rintro e w5 ⟨rfl, rfl⟩
  by_cases h3 : (decide (0 ≤ left) && decide (left ≤ 1000000)) = true
  case neg =>
    rw [Bool.not_eq_true] at h3
    simp only [h3]
    go_wp2_with fail
    refine (vec_need_no _ _).mono ?_
    rintro e w3 ⟨rfl, rfl⟩
    refine ⟨rfl, HB4.out, ?_⟩
    rw [HV.out, h1, h2, h3]; rfl
  simp only [h3]
  go_wp2_with fail
  refine (vec_need_yes _ _).mono ?_
  rintro e w3 ⟨rfl, rfl⟩
  have q0 := (block_cell HQ4.out 0 (by simp)).1
  have q1 := (block_cell HQ4.out 1 (by simp)).1
  simp only [List.getElem_toArray, List.getElem_cons_zero, List.getElem_cons_succ] at q0 q1
  go_wp2_with fail
  go_ret
  have h3' : 0 ≤ left ∧ left ≤ 1000000 := by simpa [Bool.and_eq_true] using h3
  obtain ⟨k, rfl⟩ : ∃ k : Nat, left = (k : Int) := ⟨left.toNat, by omega⟩
  have hsz := HB4.out.size
  refine ⟨below_into HB4.out hsz (below2 _ _ _), ?_⟩
  rw [if_pos (by rw [HV.out, h1, h2, h3]; rfl)]
  refine ⟨_, sc, w3.heap.size + 1, w3.heap.size, rfl, rfl, ⟨⟨.slice none 0 0, ?_, World.ownsRow_nil _ _ _ _⟩, ⟨_, (mapV_made w3 _ _).of_heap ?_, fun a r _ _ => rfl⟩, ?_⟩⟩
  · have h := alloc_new (w3.alloc (Obj.map #[] 0)) (.cells #[.slice (some ⟨fb, foff, none⟩) fs.length sc, .int .i64 m, .map (some w3.heap.size), .int .i64 0, .int .i64 k, .slice none 0 0, .int .i64 0, .int .i64 0, .int .i64 0, .int .i64 0, .int .i64 0, .bool false, .int .i64 0, .int .i64 0] 141)
    rw [World.size_alloc] at h
    exact h
  · exact (heap_alloc (alloc_new w3 (Obj.map #[] 0)) _).trans (alloc_new w3 (Obj.map #[] 0)).symm
  · exact ⟨by simp only; omega, by simp only; omega⟩
end Go.Proofs.YtdkcjeaabbkdeaaGreatDoor
end
