/- Package vec: called, Check. Package vec: of, work. -/
import Derived.Test.YtdkcjeaabbkdeaaGreatDoorZConcat
import Derived.Test.YtdkcjeaabbkdeaaGreatDoorZRunA
import Derived.Test.YtdkcjeaabbkdeaaGreatDoorZScanB
import Derived.IntWalk
set_option linter.unusedVariables false
set_option linter.unusedSimpArgs false
set_option linter.unnecessarySimpa false
set_option linter.unusedSectionVars false
section
namespace Go.Proofs.YtdkcjeaabbkdeaaGreatDoor
open Go.RowKit Go.Maps
set_option linter.unusedVariables false
set_option linter.unusedSimpArgs false

def calledB (p : Pr) (x : Ins) : Bool := inBetween x.n 0 ((p.funs.length : Int) - 1) && (match p.funs[x.n.toNat]? with | none => false | some f => f.params == x.from_.length && f.out.length == x.to.length)
theorem within_decide (n low high : Int) : (decide (low ≤ n) && decide (n ≤ high)) = inBetween n low high := rfl

/-- The cells of a function of a list. -/
theorem fn_at {w : World} {A : Option Addr} {n c : Nat} {fs : List Fn'} (h : Sl 4 RFn w (.slice A n c) fs) (k : Nat) (hk : k < fs.length) : ∃ b off vc vo va, A = some ⟨b, off, none⟩ ∧
    w.cell? ⟨b, off + k * 4, none⟩ = some (.int .i64 fs[k].params) ∧ w.cell? ⟨b, off + k * 4 + 1, none⟩ = some vc ∧ w.cell? ⟨b, off + k * 4 + 2, none⟩ = some vo ∧ w.cell? ⟨b, off + k * 4 + 3, none⟩ = some va ∧
    Sl 5 RIns w vc fs[k].code ∧ Ints w vo fs[k].out ∧ Ints w va fs[k].at_ := by
  obtain ⟨A', c', he, hm, hc⟩ := h
  cases he
  obtain ⟨b, off, cs, hA, hl, hcs, vc, vo, va, rfl, h1, h2, h3⟩ := hc k hk
  exact ⟨b, off, vc, vo, va, hA, hcs 0 (by simp), hcs 1 (by simp), hcs 2 (by simp), hcs 3 (by simp), h1, h2, h3⟩

set_option maxRecDepth 100000 in
set_option maxHeartbeats 800000 in
theorem vec_called (p : Pr) (x : Ins) (cp cx : List Value) (w : World) (hp : RPr w cp p) (hx : RIns w cx x) : Calls Tryz.prog 149 #[.agg cp.toArray, .agg cx.toArray] w (Gives w (.bool (calledB p x))) := by
  obtain ⟨⟨op, n, to, from_⟩, body⟩ := x
  obtain ⟨fs, main⟩ := p
  obtain ⟨vfs, rfl, hfs⟩ := hp
  obtain ⟨vt, vf, vb, rfl, ht, hf, hb⟩ := hx
  simp only at ht hf hb hfs ⊢
  obtain ⟨S, sc, rfl, hsm, -⟩ := hfs.form
  obtain ⟨B, bc, rfl, -⟩ := Sl.form hb
  obtain ⟨T, tc, rfl, htm⟩ := ht.form
  obtain ⟨F, fc, rfl, hfm⟩ := hf.form
  clear ht hf hb
  have hw1 : IntKind.i64.wrap ((fs.length : Int) - 1) = (fs.length : Int) - 1 := IntWalk.i64_in _ (by omega)
  by_cases hn : inBetween n 0 ((fs.length : Int) - 1) = true
  case neg =>
    have HV : Hid (calledB ⟨fs, main⟩ ⟨⟨op, n, to, from_⟩, body⟩ = false) := by unfold Hid calledB; simp [hn]
    have hn' : inBetween n 0 ((fs.length : Int) - 1) = false := by simpa using hn
    have HN := Lib.hid hn'
    clear hn hn' hfs
    go_enter Tryz.func149, Tryz.ntmps149
    go_wp2_with fail
    go_quiet ((go_at_call 120; exact Calls.quiet_of_same (v := .bool false) ((vec_within n 0 ((fs.length : Int) - 1) _).mono (fun e w' h => ⟨h.1.trans (ret_bool HN.out), h.2.symm⟩))))
    go_wp2
    go_ret
    rw [HV.out]
    exact ⟨rfl, below_into (below2 _ _ _) (by simp; omega) (below_drewN _ _)⟩
  case pos =>
    obtain ⟨hn0, hn1⟩ : 0 ≤ n ∧ n ≤ (fs.length : Int) - 1 := by simpa [inBetween] using hn
    obtain ⟨k, rfl⟩ : ∃ k : Nat, n = (k : Int) := ⟨n.toNat, by omega⟩
    have hk : k < fs.length := by omega
    obtain ⟨b, off, vc, vo, va, rfl, c0, c1, c2, c3, h1, h2, h3⟩ := fn_at hfs k hk
    obtain ⟨O, oc, rfl, hom⟩ := h2.form
    have HN := Lib.hid hn
    replace c0 := cell_keep (below2 w (.cells #[.slice (some ⟨b, off, none⟩) fs.length sc, .int .i64 main] 25) (.cells #[.int .i64 op, .int .i64 k, .slice T to.length tc, .slice F from_.length fc, .slice B body.length bc] 63)) c0
    replace c2 := cell_keep (below2 w (.cells #[.slice (some ⟨b, off, none⟩) fs.length sc, .int .i64 main] 25) (.cells #[.int .i64 op, .int .i64 k, .slice T to.length tc, .slice F from_.length fc, .slice B body.length bc] 63)) c2
    have HV : Hid (calledB ⟨fs, main⟩ ⟨⟨op, k, to, from_⟩, body⟩ = (fs[k].params == from_.length && fs[k].out.length == to.length)) := by
      unfold Hid calledB; simp only [HN.out, Int.toNat_natCast]; rw [List.getElem?_eq_getElem hk]; rfl
    have hlen := len_beq fs[k].out.length to.length
    clear c1 c3 h1 h2 h3 hn hfs
    generalize hfk : fs[k] = f at *
    by_cases hp : (f.params == (from_.length : Int)) = true
    · rw [hp] at HV
      clear hfk
      by_cases hq : (f.out.length == to.length) = true
      · rw [hq] at HV hlen
        clear hq
        go_enter Tryz.func149, Tryz.ntmps149
        go_wp2_with fail
        go_quiet ((go_at_call 120; exact Calls.quiet_of_same (v := .bool true) ((vec_within (k : Int) 0 ((fs.length : Int) - 1) _).mono (fun e w' h => ⟨h.1.trans (ret_bool HN.out), h.2.symm⟩))))
        go_wp2
        go_ret
        rw [HV.out]
        exact ⟨rfl, below_into (below2 _ _ _) (by simp; omega) (below_drewN _ _)⟩
      · have hq' : (f.out.length == to.length) = false := by simpa using hq
        rw [hq'] at HV hlen
        clear hq hq'
        go_enter Tryz.func149, Tryz.ntmps149
        go_wp2_with fail
        go_quiet ((go_at_call 120; exact Calls.quiet_of_same (v := .bool true) ((vec_within (k : Int) 0 ((fs.length : Int) - 1) _).mono (fun e w' h => ⟨h.1.trans (ret_bool HN.out), h.2.symm⟩))))
        go_wp2
        go_ret
        rw [HV.out]
        exact ⟨rfl, below_into (below2 _ _ _) (by simp; omega) (below_drewN _ _)⟩
    · have hp' : (f.params == (from_.length : Int)) = false := by simpa using hp
      rw [hp'] at HV
      clear hp hfk hlen
      go_enter Tryz.func149, Tryz.ntmps149
      go_wp2_with fail
      go_quiet ((go_at_call 120; exact Calls.quiet_of_same (v := .bool true) ((vec_within (k : Int) 0 ((fs.length : Int) - 1) _).mono (fun e w' h => ⟨h.1.trans (ret_bool HN.out), h.2.symm⟩))))
      go_wp2
      go_ret
      rw [HV.out]
      exact ⟨rfl, below_into (below2 _ _ _) (by simp; omega) (below_drewN _ _)⟩

def insOk (p : Pr) (x : Ins) : Bool := fitsB x && (!(x.op == 16) || calledB p x)
def fnHead (f : Fn') : Bool := inBetween f.params 0 100 && (decide (f.code.length ≤ 4000) && (decide (f.out.length ≤ 100) && (f.at_.length == 0 || f.at_.length == f.code.length)))
def atOk (n : Int) : Bool := inBetween n 0 100000
def fnOk (p : Pr) (f : Fn') : Bool := fnHead f && (f.at_.all atOk && (f.code.all (insOk p) && orderedB f.params.toNat f.code f.out))
def checkB (p : Pr) : Bool := inBetween p.funs.length 1 400 && (inBetween p.main 0 ((p.funs.length : Int) - 1) && p.funs.all (fnOk p))
/-- No bodies; no list that is longer than any machine's; no number that is no Go number. -/
structure SaneIns (x : Ins) : Prop where
  op : x.op ≠ 17
  from_ : x.from_.length ≤ 1000000000
  to : x.to.length ≤ 1000000000
def Sane (p : Pr) : Prop := ∀ f ∈ p.funs, (∀ x ∈ f.code, SaneIns x) ∧ ∀ n ∈ f.out, inInt n
theorem reg_inInt {n : Int} (h : isReg n = true) : inInt n := by
  simp [isReg] at h; unfold inInt; omega
theorem fits_regs {x : Ins} (h : fitsB x = true) : (∀ n ∈ x.from_, inInt n) ∧ ∀ n ∈ x.to, inInt n := by
  unfold fitsB at h
  simp only [Bool.and_eq_true, List.all_eq_true, List.mem_append] at h
  exact ⟨fun n hn => reg_inInt (h.2.2.2.2 n (Or.inl hn)), fun n hn => reg_inInt (h.2.2.2.2 n (Or.inr hn))⟩
def GivesErr (w : World) (b : Bool) : Ending → World → Prop := Gives w (.int .i64 (if b then 0 else 1))
theorem all_take_succ {α : Type} (P : α → Bool) (l : List α) (k : Nat) (h : k < l.length) : (l.take (k + 1)).all P = ((l.take k).all P && P l[k]) := by
  rw [List.take_succ_eq_append_getElem h, List.all_append]; simp
theorem all_no {α : Type} {P : α → Bool} {l : List α} {k : Nat} (h : k < l.length) (hp : P l[k] = false) : l.all P = false := by
  rw [List.all_eq_false]; exact ⟨l[k], List.getElem_mem h, by simp [hp]⟩

set_option maxRecDepth 100000 in
set_option maxHeartbeats 1600000 in
theorem vec_check (p : Pr) (cp : List Value) (w : World) (hp : RPr w cp p) (hs : Sane p) : Calls Tryz.prog 118 #[.agg cp.toArray] w (GivesErr w (checkB p)) := by
  obtain ⟨fs, main⟩ := p
  obtain ⟨vfs, rfl, hfs⟩ := hp
  simp only at hfs
  obtain ⟨S, sc, rfl, hsm, -⟩ := hfs.form
  have HSane := Lib.hid hs
  have hbx := Lib.hid (alloc_new w (.cells #[.slice S fs.length sc, .int .i64 main] 25))
  have hb0 := Lib.hid (below1 w (.cells #[.slice S fs.length sc, .int .i64 main] 25))
  have HFS := Lib.hid (hfs.reads stays_fn (reads_below hb0.out))
  clear hfs hs
  have hw1 : wrap64 ((fs.length : Int) - 1) = (fs.length : Int) - 1 := by unfold wrap64; omega
  have b0 := (block_cell hbx.out 0 (by simp)).1
  have b1 := (block_cell hbx.out 1 (by simp)).1
  simp only [List.getElem_toArray, List.getElem_cons_zero, List.getElem_cons_succ] at b0 b1
  go_enter Tryz.func118, Tryz.ntmps118
  go_wp2_with fail
  generalize hw0 : w.alloc (.cells #[.slice S fs.length sc, .int .i64 main] 25) = w0 at *
  clear hw0
  have hno : checkB ⟨fs, main⟩ = false → Hid ((if checkB ⟨fs, main⟩ = true then (0 : Int) else 1) = 1) := fun h => by unfold Hid; rw [h]; rfl
  refine (vec_within _ _ _ _).mono ?_
  rintro e w' ⟨rfl, rfl⟩
  rw [within_decide]
  cases hA : inBetween (fs.length : Int) 1 400
  · have HV := hno (by unfold checkB; simp only [hA, Bool.false_and])
    clear hA hno
    go_wp2_with fail
    go_ret
    unfold GivesErr
    rw [HV.out]
    exact ⟨rfl, hb0.out⟩
  have HA := Lib.hid hA
  clear hA
  go_wp2_with fail
  refine (vec_within _ _ _ _).mono ?_
  rintro e w' ⟨rfl, rfl⟩
  rw [within_decide]
  cases hM : inBetween main 0 ((fs.length : Int) - 1)
  · have HV := hno (by unfold checkB; simp only [hM, Bool.false_and, Bool.and_false])
    clear hM hno
    go_wp2_with fail
    go_ret
    unfold GivesErr
    rw [HV.out]
    exact ⟨rfl, hb0.out⟩
  have HM := Lib.hid hM
  have hchk : checkB ⟨fs, main⟩ = fs.all (fnOk ⟨fs, main⟩) := by unfold checkB; simp only [HA.out, HM.out, Bool.true_and]
  have HChk := Lib.hid hchk
  have HNo := Lib.hid hno
  clear hM hchk hno hw1
  go_wp2_with fail
  have hwb := (Array.getElem?_eq_some_iff.1 hbx.out).1
  go_loopw [27] (fun i wr => ∃ k : Nat, k ≤ fs.length ∧ i = .int .i64 k ∧ Below w0.heap.size w0 wr ∧ (fs.take k).all (fnOk ⟨fs, main⟩) = true) (fun i _ => fs.length - (intOf i).toNat)
  case atStart => exact ⟨0, Nat.zero_le _, rfl, Below.refl _ _, by simp⟩
  case round =>
    obtain ⟨k, hk, rfl, hb, hall⟩ := hrel
    have HB := Lib.hid hb
    have HAll := Lib.hid hall
    clear hb hall b0 b1
    by_cases hlt : k < fs.length
    case neg =>
      obtain rfl : k = fs.length := by omega
      go_wp2_with fail
      go_ret
      have HV : Hid ((if checkB ⟨fs, main⟩ = true then (0 : Int) else 1) = 0) := by
        unfold Hid
        rw [HChk.out]
        have := HAll.out
        rw [List.take_length] at this
        rw [this]; rfl
      unfold GivesErr
      rw [HV.out]
      exact ⟨rfl, below_into hb0.out hb0.out.size HB.out⟩
    obtain ⟨b, off, vc, vo, va, rfl, c0, c1, c2, c3, h1, h2, h3⟩ := fn_at HFS.out k hlt
    replace c0 := cell_keep HB.out c0
    replace c1 := cell_keep HB.out c1
    replace c2 := cell_keep HB.out c2
    replace c3 := cell_keep HB.out c3
    obtain ⟨C, cc, rfl, hcm, -⟩ := h1.form
    obtain ⟨O, oc, rfl, hom⟩ := h2.form
    obtain ⟨A, ac, rfl, ham⟩ := h3.form
    have HC := Lib.hid h1
    have HO := Lib.hid h2
    have HAt := Lib.hid h3
    obtain ⟨hs1, hs2⟩ := HSane.out fs[k] (List.getElem_mem hlt)
    have HS1 := Lib.hid hs1
    have HS2 := Lib.hid hs2
    have HStep : Hid ((fs.take (k + 1)).all (fnOk ⟨fs, main⟩) = fnOk ⟨fs, main⟩ fs[k]) := by
      unfold Hid; rw [all_take_succ _ _ _ hlt, HAll.out, Bool.true_and]
    have HBad : Hid (fnOk ⟨fs, main⟩ fs[k] = false → Hid ((if checkB ⟨fs, main⟩ = true then (0 : Int) else 1) = 1)) := by
      intro h
      exact HNo.out (by rw [HChk.out]; exact all_no hlt h)
    clear h1 h2 h3 hs1 hs2
    generalize hfk : fs[k] = f at *
    clear hfk
    have HB1 := Lib.hid (below_step HB.out (below1 wr (.cells #[.int .i64 f.params, .slice C f.code.length cc, .slice O f.out.length oc, .slice A f.at_.length ac] 61)))
    have HX1 := Lib.hid (alloc_new wr (.cells #[.int .i64 f.params, .slice C f.code.length cc, .slice O f.out.length oc, .slice A f.at_.length ac] 61))
    go_wp2_with fail
    generalize hw1 : wr.alloc (.cells #[.int .i64 f.params, .slice C f.code.length cc, .slice O f.out.length oc, .slice A f.at_.length ac] 61) = w1 at *
    generalize hq : wr.heap.size = q at *
    clear hw1 hq c0 c1 c2 c3
    have c0 := (block_cell HX1.out 0 (by simp)).1
    have c1 := (block_cell HX1.out 1 (by simp)).1
    have c2 := (block_cell HX1.out 2 (by simp)).1
    have c3 := (block_cell HX1.out 3 (by simp)).1
    simp only [List.getElem_toArray, List.getElem_cons_zero, List.getElem_cons_succ] at c0 c1 c2 c3
    have HBW := Lib.hid (below_into hb0.out hb0.out.size HB1.out)
    refine (vec_within _ _ _ _).mono ?_
    rintro e w' ⟨rfl, rfl⟩
    rw [within_decide]
    by_cases hh : fnHead f = true
    case neg =>
      have hh' : fnHead f = false := by simpa using hh
      have HV := HBad.out (by unfold fnOk; rw [hh', Bool.false_and])
      clear hh
      unfold fnHead at hh'
      cases hP : inBetween f.params 0 100
      · clear hh'
        go_wp2_with fail
        go_ret
        unfold GivesErr
        rw [HV.out]
        exact ⟨rfl, HBW.out⟩
      · rw [hP, Bool.true_and] at hh'
        by_cases hC : f.code.length ≤ 4000
        · by_cases hO : f.out.length ≤ 100
          · have hat : ¬ f.at_.length = 0 ∧ ¬ f.at_.length = f.code.length := by simpa [hC, hO] using hh'
            have ha1 : ((f.at_.length : Int) != 0) = true := by rw [bne_iff_ne]; omega
            have ha2 : ((f.at_.length : Int) != (f.code.length : Int)) = true := by rw [bne_iff_ne]; omega
            clear hh' hP hat
            go_wp2_with fail
            go_ret
            unfold GivesErr
            rw [HV.out]
            exact ⟨rfl, HBW.out⟩
          · clear hh' hP
            go_wp2_with fail
            go_ret
            unfold GivesErr
            rw [HV.out]
            exact ⟨rfl, HBW.out⟩
        · clear hh' hP
          go_wp2_with fail
          go_ret
          unfold GivesErr
          rw [HV.out]
          exact ⟨rfl, HBW.out⟩
    case pos =>
      have HH := Lib.hid hh
      unfold fnHead at hh
      simp only [Bool.and_eq_true, decide_eq_true_eq, Bool.or_eq_true, beq_iff_eq] at hh
      obtain ⟨hP, hC, hO, hat⟩ := hh
      rw [hP]
      obtain ⟨many, hmany⟩ : ∃ m : Nat, f.params = (m : Int) := ⟨f.params.toNat, by simp [inBetween] at hP; omega⟩
      have hm100 : many ≤ 1000 := by simp [inBetween] at hP; omega
      have HMany := Lib.hid hmany
      clear hP hmany
      by_cases h0 : f.at_.length = 0
      · have ha1 : ((f.at_.length : Int) != 0) = false := by rw [h0]; rfl
        clear h0 hat
        go_wp2_with fail
        clear ha1
        go_loopw [65] (fun i wr => wr = w1 ∧ ∃ j : Nat, j ≤ f.at_.length ∧ i = .int .i64 j ∧ (f.at_.take j).all atOk = true) (fun i _ => f.at_.length - (intOf i).toNat)
        case atStart => exact ⟨rfl, 0, Nat.zero_le _, rfl, by simp⟩
        case round =>
          obtain ⟨rfl, j, hj, rfl, hall⟩ := hrel
          have HA3 := Lib.hid hall
          clear hall
          by_cases hlt : j < f.at_.length
          · obtain ⟨b', off', rfl, hce⟩ := (HAt.out.below HB1.out).at_ j hlt
            go_wp2_with fail
            refine (vec_within _ _ _ _).mono ?_
            rintro e w' ⟨rfl, rfl⟩
            rw [within_decide]
            cases hok : atOk f.at_[j]
            · have HV := HBad.out (by unfold fnOk; rw [all_no hlt hok, Bool.false_and, Bool.and_false])
              rw [show inBetween f.at_[j] 0 100000 = false from hok]
              clear hok
              go_wp2_with fail
              go_ret
              unfold GivesErr
              rw [HV.out]
              exact ⟨rfl, HBW.out⟩
            · rw [show inBetween f.at_[j] 0 100000 = true from hok]
              have HOk := Lib.hid hok
              clear hok
              go_wp2_with fail
              go_roundw
              case rel => exact ⟨trivial, j + 1, hlt, by go_num, by rw [all_take_succ _ _ _ hlt, HA3.out, HOk.out]; rfl⟩
              case measure => simp [intOf]; omega
          · obtain rfl : j = f.at_.length := by omega
            have hatok : f.at_.all atOk = true := by have := HA3.out; rwa [List.take_length] at this
            have HAtOk := Lib.hid hatok
            clear hatok HA3
            go_wp2_with fail
            generalize wr = wa at *
            go_loopw [76] (fun i wr => Below wa.heap.size wa wr ∧ ∃ j : Nat, j ≤ f.code.length ∧ i = .int .i64 j ∧ (f.code.take j).all (insOk ⟨fs, main⟩) = true) (fun i _ => f.code.length - (intOf i).toNat)
            case atStart => exact ⟨Below.refl _ _, 0, Nat.zero_le _, rfl, by simp⟩
            case round =>
              obtain ⟨hb, j, hj, rfl, hall⟩ := hrel
              have HA3 := Lib.hid hall
              have HB3 := Lib.hid hb
              clear hall hb
              by_cases hlt : j < f.code.length
              · obtain ⟨b', off', vt, vf, vb, rfl, e0, e1, e2, e3, e4, ht, hf, hb⟩ := ins_at (HC.out.reads stays_ins (reads_below HB1.out)) j hlt
                obtain ⟨B, bc, rfl, -⟩ := Sl.form hb
                obtain ⟨T, tc, rfl, -⟩ := ht.form
                obtain ⟨F, fc, rfl, -⟩ := hf.form
                have hsx := HS1.out f.code[j] (List.getElem_mem hlt)
                replace e0 := cell_keep HB3.out e0
                replace e1 := cell_keep HB3.out e1
                replace e2 := cell_keep HB3.out e2
                replace e3 := cell_keep HB3.out e3
                replace e4 := cell_keep HB3.out e4
                have hri : RIns wr [.int .i64 f.code[j].op, .int .i64 f.code[j].n, .slice T f.code[j].to.length tc, .slice F f.code[j].from_.length fc, .slice B f.code[j].body.length bc] f.code[j] :=
                  ⟨_, _, _, rfl, ht.below HB3.out, hf.below HB3.out, hb.reads stays_flat (reads_below HB3.out)⟩
                have HRI := Lib.hid hri
                have HBk := Lib.hid (below1 wr (.cells #[.int .i64 f.code[j].op, .int .i64 f.code[j].n, .slice T f.code[j].to.length tc, .slice F f.code[j].from_.length fc, .slice B f.code[j].body.length bc] 63))
                have HX3 := Lib.hid (alloc_new wr (.cells #[.int .i64 f.code[j].op, .int .i64 f.code[j].n, .slice T f.code[j].to.length tc, .slice F f.code[j].from_.length fc, .slice B f.code[j].body.length bc] 63))
                have HSt : Hid ((f.code.take (j + 1)).all (insOk ⟨fs, main⟩) = insOk ⟨fs, main⟩ f.code[j]) := by
                  unfold Hid; rw [all_take_succ _ _ _ hlt, HA3.out, Bool.true_and]
                have HBd : Hid (insOk ⟨fs, main⟩ f.code[j] = false → Hid ((if checkB ⟨fs, main⟩ = true then (0 : Int) else 1) = 1)) := by
                  intro h
                  exact HBad.out (by unfold fnOk; rw [all_no hlt h, Bool.false_and, Bool.and_false, Bool.and_false])
                clear ht hf hb hri
                generalize hxj : f.code[j] = x at *
                clear hxj
                have hfit := Lib.hid (vec_fits x _ _ (stays_ins _ _ _ _ (reads_below HBk.out) HRI.out) hsx.op (by have := hsx.from_; have := hsx.to; omega))
                clear hsx
                go_wp2_with fail
                refine hfit.out.mono ?_
                rintro e w5 ⟨rfl, hb5⟩
                have x5 := heap_keep hb5 HX3.out
                have p5 := heap_keep hb5 (heap_keep HBk.out (heap_keep HB3.out (heap_keep HB1.out hbx.out)))
                have HB5 := Lib.hid (below_step (below_step HB3.out HBk.out) hb5)
                clear hfit e0 e1 e2 e3 e4
                have e0 := (block_cell x5 0 (by simp)).1
                have e1 := (block_cell x5 1 (by simp)).1
                have e2 := (block_cell x5 2 (by simp)).1
                have e3 := (block_cell x5 3 (by simp)).1
                have e4 := (block_cell x5 4 (by simp)).1
                have p0 := (block_cell p5 0 (by simp)).1
                have p1 := (block_cell p5 1 (by simp)).1
                simp only [List.getElem_toArray, List.getElem_cons_zero, List.getElem_cons_succ] at e0 e1 e2 e3 e4 p0 p1
                have HRI5 := Lib.hid (stays_ins _ _ _ _ (reads_below hb5) (stays_ins _ _ _ _ (reads_below HBk.out) HRI.out))
                clear HX3 HRI HBk x5 p5 hb5
                cases hfb : fitsB x
                · have HV := HBd.out (by unfold insOk; rw [hfb, Bool.false_and])
                  clear hfb
                  go_wp2_with fail
                  go_ret
                  unfold GivesErr
                  rw [HV.out]
                  exact ⟨rfl, below_into HBW.out HBW.out.size HB5.out⟩
                have HFb := Lib.hid hfb
                clear hfb
                by_cases ho : x.op = 16
                case neg =>
                  have hok : insOk ⟨fs, main⟩ x = true := by unfold insOk; rw [HFb.out]; simp [ho]
                  have HOk := Lib.hid hok
                  have ho' : (x.op == 16) = false := by simpa using ho
                  clear hok ho
                  go_wp2_with fail
                  go_roundw
                  case rel => exact ⟨HB5.out, j + 1, hlt, by go_num, by rw [HSt.out]; exact HOk.out⟩
                  case measure => simp [intOf]; omega
                case pos =>
                  have ho' : (x.op == 16) = true := by simpa using ho
                  have hok : insOk ⟨fs, main⟩ x = calledB ⟨fs, main⟩ x := by unfold insOk; rw [HFb.out, ho']; simp
                  have HOk := Lib.hid hok
                  clear hok ho
                  have hcl := Lib.hid (vec_called ⟨fs, main⟩ x [.slice (some ⟨b, off, none⟩) fs.length sc, .int .i64 main] _ w5 ⟨_, rfl, HFS.out.reads stays_fn (reads_below (below_step HB1.out HB5.out))⟩ HRI5.out)
                  go_wp2_with fail
                  refine hcl.out.mono ?_
                  rintro e w6 ⟨rfl, hb6⟩
                  clear hcl
                  cases hcb : calledB ⟨fs, main⟩ x
                  · have HV := HBd.out (by rw [HOk.out, hcb])
                    clear hcb
                    go_wp2_with fail
                    go_ret
                    unfold GivesErr
                    rw [HV.out]
                    exact ⟨rfl, below_into HBW.out HBW.out.size (below_step HB5.out hb6)⟩
                  · rw [hcb] at HOk
                    clear hcb
                    go_wp2_with fail
                    go_roundw
                    case rel => exact ⟨below_step HB5.out hb6, j + 1, hlt, by go_num, by rw [HSt.out]; exact HOk.out⟩
                    case measure => simp [intOf]; omega
              · obtain rfl : j = f.code.length := by omega
                have hcok : f.code.all (insOk ⟨fs, main⟩) = true := by have := HA3.out; rwa [List.take_length] at this
                have HCok := Lib.hid hcok
                have hx3 := heap_keep HB3.out HX1.out
                clear c0 c1 c2 c3
                have c0 := (block_cell hx3 0 (by simp)).1
                have c1 := (block_cell hx3 1 (by simp)).1
                have c2 := (block_cell hx3 2 (by simp)).1
                simp only [List.getElem_toArray, List.getElem_cons_zero, List.getElem_cons_succ] at c0 c1 c2
                rw [HMany.out] at c0
                have hord := Lib.hid (vec_ordered many f.code f.out _ _ wr hm100 ((HC.out.reads stays_ins (reads_below HB1.out)).reads stays_ins (reads_below HB3.out)) ((HO.out.below HB1.out).below HB3.out) hC HS2.out (fun x hx => by
                  have hs := HS1.out x hx
                  have hfx := fits_regs (x := x) (by have := List.all_eq_true.1 HCok.out x hx; unfold insOk at this; simp only [Bool.and_eq_true] at this; exact this.1)
                  exact ⟨hs.from_, hs.to, hfx.1, hfx.2⟩))
                clear hcok hx3
                go_wp2_with fail
                refine hord.out.mono ?_
                rintro e w7 ⟨rfl, hb7⟩
                clear hord
                have hfn : fnOk ⟨fs, main⟩ f = orderedB many f.code f.out := by
                  unfold fnOk
                  rw [HH.out, HAtOk.out, HCok.out, HMany.out]; simp
                have HFn := Lib.hid hfn
                clear hfn
                cases hob : orderedB many f.code f.out
                · have HV := HBad.out (by rw [HFn.out, hob])
                  clear hob
                  go_wp2_with fail
                  go_ret
                  unfold GivesErr
                  rw [HV.out]
                  exact ⟨rfl, below_into HBW.out HBW.out.size (below_step HB3.out hb7)⟩
                · rw [hob] at HFn
                  clear hob
                  go_wp2_with fail
                  go_roundw
                  case rel => exact ⟨k + 1, by assumption, by go_num, below_step HB1.out (below_step HB3.out hb7), by rw [HStep.out]; exact HFn.out⟩
                  case measure => simp [intOf]; omega
      · have ha1 : ((f.at_.length : Int) != 0) = true := by rw [bne_iff_ne]; omega
        have ha2 : ((f.at_.length : Int) != (f.code.length : Int)) = false := by
          have : f.at_.length = f.code.length := by omega
          rw [this]; simp
        clear h0 hat
        go_wp2_with fail
        clear ha2
        clear ha1
        go_loopw [65] (fun i wr => wr = w1 ∧ ∃ j : Nat, j ≤ f.at_.length ∧ i = .int .i64 j ∧ (f.at_.take j).all atOk = true) (fun i _ => f.at_.length - (intOf i).toNat)
        case atStart => exact ⟨rfl, 0, Nat.zero_le _, rfl, by simp⟩
        case round =>
          obtain ⟨rfl, j, hj, rfl, hall⟩ := hrel
          have HA3 := Lib.hid hall
          clear hall
          by_cases hlt : j < f.at_.length
          · obtain ⟨b', off', rfl, hce⟩ := (HAt.out.below HB1.out).at_ j hlt
            go_wp2_with fail
            refine (vec_within _ _ _ _).mono ?_
            rintro e w' ⟨rfl, rfl⟩
            rw [within_decide]
            cases hok : atOk f.at_[j]
            · have HV := HBad.out (by unfold fnOk; rw [all_no hlt hok, Bool.false_and, Bool.and_false])
              rw [show inBetween f.at_[j] 0 100000 = false from hok]
              clear hok
              go_wp2_with fail
              go_ret
              unfold GivesErr
              rw [HV.out]
              exact ⟨rfl, HBW.out⟩
            · rw [show inBetween f.at_[j] 0 100000 = true from hok]
              have HOk := Lib.hid hok
              clear hok
              go_wp2_with fail
              go_roundw
              case rel => exact ⟨trivial, j + 1, hlt, by go_num, by rw [all_take_succ _ _ _ hlt, HA3.out, HOk.out]; rfl⟩
              case measure => simp [intOf]; omega
          · obtain rfl : j = f.at_.length := by omega
            have hatok : f.at_.all atOk = true := by have := HA3.out; rwa [List.take_length] at this
            have HAtOk := Lib.hid hatok
            clear hatok HA3
            go_wp2_with fail
            generalize wr = wa at *
            go_loopw [76] (fun i wr => Below wa.heap.size wa wr ∧ ∃ j : Nat, j ≤ f.code.length ∧ i = .int .i64 j ∧ (f.code.take j).all (insOk ⟨fs, main⟩) = true) (fun i _ => f.code.length - (intOf i).toNat)
            case atStart => exact ⟨Below.refl _ _, 0, Nat.zero_le _, rfl, by simp⟩
            case round =>
              obtain ⟨hb, j, hj, rfl, hall⟩ := hrel
              have HA3 := Lib.hid hall
              have HB3 := Lib.hid hb
              clear hall hb
              by_cases hlt : j < f.code.length
              · obtain ⟨b', off', vt, vf, vb, rfl, e0, e1, e2, e3, e4, ht, hf, hb⟩ := ins_at (HC.out.reads stays_ins (reads_below HB1.out)) j hlt
                obtain ⟨B, bc, rfl, -⟩ := Sl.form hb
                obtain ⟨T, tc, rfl, -⟩ := ht.form
                obtain ⟨F, fc, rfl, -⟩ := hf.form
                have hsx := HS1.out f.code[j] (List.getElem_mem hlt)
                replace e0 := cell_keep HB3.out e0
                replace e1 := cell_keep HB3.out e1
                replace e2 := cell_keep HB3.out e2
                replace e3 := cell_keep HB3.out e3
                replace e4 := cell_keep HB3.out e4
                have hri : RIns wr [.int .i64 f.code[j].op, .int .i64 f.code[j].n, .slice T f.code[j].to.length tc, .slice F f.code[j].from_.length fc, .slice B f.code[j].body.length bc] f.code[j] :=
                  ⟨_, _, _, rfl, ht.below HB3.out, hf.below HB3.out, hb.reads stays_flat (reads_below HB3.out)⟩
                have HRI := Lib.hid hri
                have HBk := Lib.hid (below1 wr (.cells #[.int .i64 f.code[j].op, .int .i64 f.code[j].n, .slice T f.code[j].to.length tc, .slice F f.code[j].from_.length fc, .slice B f.code[j].body.length bc] 63))
                have HX3 := Lib.hid (alloc_new wr (.cells #[.int .i64 f.code[j].op, .int .i64 f.code[j].n, .slice T f.code[j].to.length tc, .slice F f.code[j].from_.length fc, .slice B f.code[j].body.length bc] 63))
                have HSt : Hid ((f.code.take (j + 1)).all (insOk ⟨fs, main⟩) = insOk ⟨fs, main⟩ f.code[j]) := by
                  unfold Hid; rw [all_take_succ _ _ _ hlt, HA3.out, Bool.true_and]
                have HBd : Hid (insOk ⟨fs, main⟩ f.code[j] = false → Hid ((if checkB ⟨fs, main⟩ = true then (0 : Int) else 1) = 1)) := by
                  intro h
                  exact HBad.out (by unfold fnOk; rw [all_no hlt h, Bool.false_and, Bool.and_false, Bool.and_false])
                clear ht hf hb hri
                generalize hxj : f.code[j] = x at *
                clear hxj
                have hfit := Lib.hid (vec_fits x _ _ (stays_ins _ _ _ _ (reads_below HBk.out) HRI.out) hsx.op (by have := hsx.from_; have := hsx.to; omega))
                clear hsx
                go_wp2_with fail
                refine hfit.out.mono ?_
                rintro e w5 ⟨rfl, hb5⟩
                have x5 := heap_keep hb5 HX3.out
                have p5 := heap_keep hb5 (heap_keep HBk.out (heap_keep HB3.out (heap_keep HB1.out hbx.out)))
                have HB5 := Lib.hid (below_step (below_step HB3.out HBk.out) hb5)
                clear hfit e0 e1 e2 e3 e4
                have e0 := (block_cell x5 0 (by simp)).1
                have e1 := (block_cell x5 1 (by simp)).1
                have e2 := (block_cell x5 2 (by simp)).1
                have e3 := (block_cell x5 3 (by simp)).1
                have e4 := (block_cell x5 4 (by simp)).1
                have p0 := (block_cell p5 0 (by simp)).1
                have p1 := (block_cell p5 1 (by simp)).1
                simp only [List.getElem_toArray, List.getElem_cons_zero, List.getElem_cons_succ] at e0 e1 e2 e3 e4 p0 p1
                have HRI5 := Lib.hid (stays_ins _ _ _ _ (reads_below hb5) (stays_ins _ _ _ _ (reads_below HBk.out) HRI.out))
                clear HX3 HRI HBk x5 p5 hb5
                cases hfb : fitsB x
                · have HV := HBd.out (by unfold insOk; rw [hfb, Bool.false_and])
                  clear hfb
                  go_wp2_with fail
                  go_ret
                  unfold GivesErr
                  rw [HV.out]
                  exact ⟨rfl, below_into HBW.out HBW.out.size HB5.out⟩
                have HFb := Lib.hid hfb
                clear hfb
                by_cases ho : x.op = 16
                case neg =>
                  have hok : insOk ⟨fs, main⟩ x = true := by unfold insOk; rw [HFb.out]; simp [ho]
                  have HOk := Lib.hid hok
                  have ho' : (x.op == 16) = false := by simpa using ho
                  clear hok ho
                  go_wp2_with fail
                  go_roundw
                  case rel => exact ⟨HB5.out, j + 1, hlt, by go_num, by rw [HSt.out]; exact HOk.out⟩
                  case measure => simp [intOf]; omega
                case pos =>
                  have ho' : (x.op == 16) = true := by simpa using ho
                  have hok : insOk ⟨fs, main⟩ x = calledB ⟨fs, main⟩ x := by unfold insOk; rw [HFb.out, ho']; simp
                  have HOk := Lib.hid hok
                  clear hok ho
                  have hcl := Lib.hid (vec_called ⟨fs, main⟩ x [.slice (some ⟨b, off, none⟩) fs.length sc, .int .i64 main] _ w5 ⟨_, rfl, HFS.out.reads stays_fn (reads_below (below_step HB1.out HB5.out))⟩ HRI5.out)
                  go_wp2_with fail
                  refine hcl.out.mono ?_
                  rintro e w6 ⟨rfl, hb6⟩
                  clear hcl
                  cases hcb : calledB ⟨fs, main⟩ x
                  · have HV := HBd.out (by rw [HOk.out, hcb])
                    clear hcb
                    go_wp2_with fail
                    go_ret
                    unfold GivesErr
                    rw [HV.out]
                    exact ⟨rfl, below_into HBW.out HBW.out.size (below_step HB5.out hb6)⟩
                  · rw [hcb] at HOk
                    clear hcb
                    go_wp2_with fail
                    go_roundw
                    case rel => exact ⟨below_step HB5.out hb6, j + 1, hlt, by go_num, by rw [HSt.out]; exact HOk.out⟩
                    case measure => simp [intOf]; omega
              · obtain rfl : j = f.code.length := by omega
                have hcok : f.code.all (insOk ⟨fs, main⟩) = true := by have := HA3.out; rwa [List.take_length] at this
                have HCok := Lib.hid hcok
                have hx3 := heap_keep HB3.out HX1.out
                clear c0 c1 c2 c3
                have c0 := (block_cell hx3 0 (by simp)).1
                have c1 := (block_cell hx3 1 (by simp)).1
                have c2 := (block_cell hx3 2 (by simp)).1
                simp only [List.getElem_toArray, List.getElem_cons_zero, List.getElem_cons_succ] at c0 c1 c2
                rw [HMany.out] at c0
                have hord := Lib.hid (vec_ordered many f.code f.out _ _ wr hm100 ((HC.out.reads stays_ins (reads_below HB1.out)).reads stays_ins (reads_below HB3.out)) ((HO.out.below HB1.out).below HB3.out) hC HS2.out (fun x hx => by
                  have hs := HS1.out x hx
                  have hfx := fits_regs (x := x) (by have := List.all_eq_true.1 HCok.out x hx; unfold insOk at this; simp only [Bool.and_eq_true] at this; exact this.1)
                  exact ⟨hs.from_, hs.to, hfx.1, hfx.2⟩))
                clear hcok hx3
                go_wp2_with fail
                refine hord.out.mono ?_
                rintro e w7 ⟨rfl, hb7⟩
                clear hord
                have hfn : fnOk ⟨fs, main⟩ f = orderedB many f.code f.out := by
                  unfold fnOk
                  rw [HH.out, HAtOk.out, HCok.out, HMany.out]; simp
                have HFn := Lib.hid hfn
                clear hfn
                cases hob : orderedB many f.code f.out
                · have HV := HBad.out (by rw [HFn.out, hob])
                  clear hob
                  go_wp2_with fail
                  go_ret
                  unfold GivesErr
                  rw [HV.out]
                  exact ⟨rfl, below_into HBW.out HBW.out.size (below_step HB3.out hb7)⟩
                · rw [hob] at HFn
                  clear hob
                  go_wp2_with fail
                  go_roundw
                  case rel => exact ⟨k + 1, by assumption, by go_num, below_step HB1.out (below_step HB3.out hb7), by rw [HStep.out]; exact HFn.out⟩
                  case measure => simp [intOf]; omega
end Go.Proofs.YtdkcjeaabbkdeaaGreatDoor
end
section
namespace Go.Proofs.YtdkcjeaabbkdeaaGreatDoor
open Go.RowKit Go.Maps
set_option linter.unusedVariables false
set_option linter.unusedSimpArgs false

set_option maxRecDepth 100000 in
set_option maxHeartbeats 800000 in
theorem vec_of (x : Ins) (T F B : Option Addr) (tl tc fl fc bl bc : Nat) (w : World) (h17 : x.op ≠ 17) :
    Calls Tryz.prog 125 #[.agg #[.int .i64 x.op, .int .i64 x.n, .slice T tl tc, .slice F fl fc, .slice B bl bc]] w (Gives w (.iface 225 (.agg #[.int .i64 x.op, .int .i64 x.n, .slice T tl tc, .slice F fl fc, .slice B bl bc]))) := by
  have h17' : (x.op == 17) = false := by simpa using h17
  clear h17
  go_enter Tryz.func125, Tryz.ntmps125
  go_wp2
  go_ret
  exact ⟨rfl, below1 _ _⟩

theorem lens_getD {f : List (List Int)} {k : Nat} (h : k < f.length) : (f.getD k []).length ≤ lens f := by
  unfold lens
  rw [List.getD_eq_getElem?_getD, List.getElem?_eq_getElem h]
  have e : (f.map List.length).sum = ((f.take k).map List.length).sum + ((f.drop k).map List.length).sum := by rw [← List.sum_append_nat, ← List.map_append, List.take_append_drop]
  rw [List.drop_eq_getElem_cons h, List.map_cons, List.sum_cons] at e
  simp
  omega

set_option maxRecDepth 100000 in
set_option maxHeartbeats 1600000 in
theorem vec_work (x : Ins) (T F B : Option Addr) (tl tc fl fc bl bc : Nat) (f t : List (List Int)) (vf vt : Value) (w : World) (hf : Lists w vf f) (ht : Lists w vt t) (h5 : x.op = 5 → 2 ≤ f.length) (hl : lens f ≤ 4000000000000 ∧ lens t ≤ 4000000000000) :
    Calls Tryz.prog 126 #[.agg #[.int .i64 x.op, .int .i64 x.n, .slice T tl tc, .slice F fl fc, .slice B bl bc], vf, vt] w (Gives w (.int .i64 (workOf x f t))) := by
  obtain ⟨FA, fcap, rfl, hfm⟩ := hf.form
  obtain ⟨TA, tcap, rfl, htm⟩ := ht.form
  obtain ⟨hlf, hlt⟩ := hl
  have hb := below1 w (.cells #[.int .i64 x.op, .int .i64 x.n, .slice T tl tc, .slice F fl fc, .slice B bl bc] 63)
  have HSF := Lib.hid (vec_sum _ f _ (hf.below hb) (by unfold lens at hlf; omega))
  have HST := Lib.hid (vec_sum _ t _ (ht.below hb) (by unfold lens at hlt; omega))
  by_cases h16 : x.op = 16
  · have HV : Hid (workOf x f t = 1) := by unfold Hid workOf; simp [h16]
    have e1 : (x.op == 16) = true := by simpa using h16
    clear h16 h5 hf ht hb
    go_enter Tryz.func126, Tryz.ntmps126
    go_wp2_with fail
    go_ret
    rw [HV.out]
    exact ⟨rfl, below1 _ _⟩
  have e16 : (x.op == 16) = false := by simpa using h16
  by_cases h2 : x.op = 11 ∨ x.op = 12 ∨ x.op = 13
  · have HV : Hid (workOf x f t = 2) := by unfold Hid workOf; simp [h16, h2]
    have hc : (x.op == 11) = true ∨ ((x.op == 11) = false ∧ (x.op == 12) = true) ∨ ((x.op == 11) = false ∧ (x.op == 12) = false ∧ (x.op == 13) = true) := by
      simp only [beq_iff_eq, beq_eq_false_iff_ne]; omega
    clear h16 h2 h5 hf ht hb
    rcases hc with e1 | ⟨e1, e2⟩ | ⟨e1, e2, e3⟩
    all_goals
      go_enter Tryz.func126, Tryz.ntmps126
      go_wp2_with fail
      go_ret
      rw [HV.out]
      exact ⟨rfl, below1 _ _⟩
  have e11 : (x.op == 11) = false := by simp; omega
  have e12 : (x.op == 12) = false := by simp; omega
  have e13 : (x.op == 13) = false := by simp; omega
  by_cases h5' : x.op = 5
  · have HV : Hid (workOf x f t = 1 + (f.getD 1 []).length + lens t) := by unfold Hid workOf; simp [h5']
    have e5 : (x.op == 5) = true := by simpa using h5'
    have hlen := h5 h5'
    have hg := lens_getD (f := f) (k := 1) (by omega)
    obtain ⟨b, off, u, rfl, hc, hu⟩ := hf.at_ 1 (by omega)
    obtain ⟨U, uc, rfl, -⟩ := hu.form
    have hfg : f.getD 1 [] = f[1] := by rw [List.getD_eq_getElem?_getD, List.getElem?_eq_getElem (by omega)]; rfl
    rw [hfg] at HV hg
    have hl1' := lists_lit (w.alloc (.cells #[.int .i64 x.op, .int .i64 x.n, .slice T tl tc, .slice F fl fc, .slice B bl bc] 63)) [.slice U f[1].length uc] [f[1]] 22 rfl (by simp) (fun j h1 h2 => by
      obtain rfl : j = 0 := by simp at h1; omega
      exact hu.below hb)
    have hl1 : Lists ((w.alloc (.cells #[.int .i64 x.op, .int .i64 x.n, .slice T tl tc, .slice F fl fc, .slice B bl bc] 63)).alloc (.cells #[.slice U f[1].length uc] 22)) (.slice (some ⟨w.heap.size + 1, 0, none⟩) 1 1) [f[1]] := by
      rw [show (w.alloc (.cells #[.int .i64 x.op, .int .i64 x.n, .slice T tl tc, .slice F fl fc, .slice B bl bc] 63)).heap.size = w.heap.size + 1 by simp] at hl1'
      exact hl1'
    clear hl1'
    have HS1 := Lib.hid (vec_sum _ [f[1]] _ hl1 (by simp; omega))
    have HST2 := Lib.hid (vec_sum _ t _ ((ht.below hb).below (below1 _ (.cells #[.slice U f[1].length uc] 22))) (by unfold lens at hlt; omega))
    replace hc := cell_keep hb hc
    have hi0 : (1 : Int) < (f.length : Int) := by omega
    clear h16 h2 h5 h5' hf ht hb hl1 hfg hu HSF HST
    go_enter Tryz.func126, Tryz.ntmps126
    go_wp2_with fail
    refine HS1.out.mono ?_
    rintro e w' ⟨rfl, rfl⟩
    go_wp2_with fail
    refine HST2.out.mono ?_
    rintro e w' ⟨rfl, rfl⟩
    unfold lens at hlt HV
    go_wp2_with fail
    go_ret
    rw [HV.out]
    refine ⟨?_, below2 _ _ _⟩
    simp
  · have HV : Hid (workOf x f t = 1 + lens f + lens t) := by unfold Hid workOf; rw [if_neg h16, if_neg h2, if_neg h5']
    have e5 : (x.op == 5) = false := by simpa using h5'
    clear h16 h2 h5 h5' hf ht hb
    go_enter Tryz.func126, Tryz.ntmps126
    go_wp2_with fail
    refine HSF.out.mono ?_
    rintro e w' ⟨rfl, rfl⟩
    unfold lens at hlt hlf HV
    go_wp2_with fail
    refine HST.out.mono ?_
    rintro e w' ⟨rfl, rfl⟩
    go_wp2_with fail
    go_ret
    rw [HV.out]
    exact ⟨rfl, below1 _ _⟩
end Go.Proofs.YtdkcjeaabbkdeaaGreatDoor
end
