/- The law ProfKnown: are two lists of stacks alike? -/
import Derived.Test.YtdkcjeaabbkdeaaGreatDoorZTextW
import Derived.Test.YtdkcjeaabbkdeaaGreatDoorZOrdS
import Derived.Deep.CutRange
set_option linter.unusedVariables false
set_option linter.unusedSimpArgs false
set_option linter.unnecessarySimpa false
set_option linter.unusedSectionVars false
namespace Go.Proofs.YtdkcjeaabbkdeaaGreatDoor
open Go.RowKit Go.Shelf
set_option linter.unusedVariables false
set_option linter.unusedSimpArgs false
set_option maxRecDepth 100000 in
set_option maxHeartbeats 1000000 in
theorem law_equalInts (l m : List Int) (vl vm : Value) (w : World) (hl : Ints w vl l) (hm : Ints w vm m) : Calls Tryz.prog 65 #[vl, vm] w fun e w' => e = .returned (.bool (decide (l = m))) ∧ ∃ n, w' = w.drewN n := by
  obtain ⟨A, ac, rfl, hma⟩ := hl.form
  obtain ⟨B, bc, rfl, hmb⟩ := hm.form
  have HL := Lib.hid hl
  have HM := Lib.hid hm
  have HQ : Hid (((l.length : Int) == (m.length : Int)) = decide (l.length = m.length)) := by unfold Hid; rw [len_beq]; rw [Bool.eq_iff_iff]; simp
  clear hl hm
  go_enter Tryz.func65, Tryz.ntmps65
  go_wp2_with fail
  rw [HQ.out]
  go_loopw [5, 6] (fun b i wr => (∃ q, wr = w.drewN q) ∧ ∃ k : Nat, k ≤ l.length ∧ i = .int .i64 k ∧ b = .bool (decide (l.length = m.length) && decide (l.take k = m.take k)) ) (fun _ i _ => l.length - (intOf i).toNat)
  case atStart => exact ⟨⟨0, rfl⟩, 0, Nat.zero_le _, rfl, by simp⟩
  case round =>
  obtain ⟨⟨q, rfl⟩, k, hk, rfl, rfl⟩ := hrel
  cases hbb : (decide (l.length = m.length) && decide (l.take k = m.take k)) with
  | false =>
    have hno := same_no l m k hbb
    have HN := Lib.hid hno
    clear hno
    go_wp2_with fail
    go_ret
    rw [HN.out]
    exact ⟨rfl, q, rfl⟩
  | true =>
    have HBB := Lib.hid hbb
    clear hbb
    by_cases hlt : k < l.length
    case neg =>
      obtain rfl : k = l.length := by omega
      have HN := Lib.hid (same_yes l m HBB.out)
      go_wp2_with fail
      go_ret
      rw [HN.out]
      exact ⟨rfl, q, rfl⟩
    case pos =>
      obtain ⟨hlen, htk⟩ : l.length = m.length ∧ l.take k = m.take k := by have := HBB.out; simpa only [Bool.and_eq_true, decide_eq_true_eq] using this
      have hkm : k < m.length := by omega
      have HT := Lib.hid (take_beq l m k hlt hkm)
      have HE := Lib.hid (And.intro hlen htk)
      obtain ⟨b, off, rfl, c0⟩ := HL.out.at_ k hlt
      obtain ⟨b', off', rfl, d0⟩ := HM.out.at_ k hkm
      have hk0 : (0 : Int) ≤ (k : Int) := by omega
      have hk1 : (k : Int) < (l.length : Int) := by omega
      have hk2 : (k : Int) < (m.length : Int) := by omega
      clear hlen htk
      generalize l[k] = x at *
      generalize m[k] = y at *
      have hxy : (x == y) = decide (x = y) := by rw [Bool.eq_iff_iff]; simp
      have HXY := Lib.hid hxy
      clear hxy
      go_upto_region 5 with (fail)
      go_quiet (fail)
      go_wp2_with fail
      refine ⟨⟨⟨q + nq, rfl⟩, k + 1, hlt, by go_num, ?_⟩, by simp [intOf]; omega⟩
      rw [HT.out, decide_eq_true HE.out.1, decide_eq_true HE.out.2, Bool.true_and, Bool.true_and]
      try rw [HXY.out]
set_option maxRecDepth 100000 in
set_option maxHeartbeats 1000000 in
theorem law_alike (l m : List StackC) (vl vm : Value) (w : World) (hl : StksL w vl l) (hm : StksL w vm m) : Calls Tryz.prog 37 #[vl, vm] w (Gives w (.bool (decide (l = m)))) := by
  obtain ⟨A, ac, rfl, hma, -⟩ : ∃ A c, vl = .slice A l.length c ∧ (l.length ≤ 9223372036854775807 ∧ l.length ≤ c) := by obtain ⟨A, c, rfl, hm, _⟩ := hl; exact ⟨A, c, rfl, hm⟩
  obtain ⟨B, bc, rfl, hmb, -⟩ : ∃ A c, vm = .slice A m.length c ∧ (m.length ≤ 9223372036854775807 ∧ m.length ≤ c) := by obtain ⟨A, c, rfl, hm, _⟩ := hm; exact ⟨A, c, rfl, hm⟩
  have HL := Lib.hid hl
  have HM := Lib.hid hm
  have HQ : Hid (((l.length : Int) == (m.length : Int)) = decide (l.length = m.length)) := by unfold Hid; rw [len_beq]; rw [Bool.eq_iff_iff]; simp
  clear hl hm
  go_enter Tryz.func37, Tryz.ntmps37
  go_wp2_with fail
  rw [HQ.out]
  go_loopw [5, 6] (fun b i wr => Below w.heap.size w wr ∧ ∃ k : Nat, k ≤ l.length ∧ i = .int .i64 k ∧ b = .bool (decide (l.length = m.length) && decide (l.take k = m.take k)) ) (fun _ i _ => l.length - (intOf i).toNat)
  case atStart => exact ⟨Below.refl _ _, 0, Nat.zero_le _, rfl, by simp⟩
  case round =>
  obtain ⟨hb, k, hk, rfl, rfl⟩ := hrel
  have HB := Lib.hid hb
  clear hb
  cases hbb : (decide (l.length = m.length) && decide (l.take k = m.take k)) with
  | false =>
    have hno := same_no l m k hbb
    have HN := Lib.hid hno
    clear hno
    go_wp2_with fail
    go_ret
    rw [HN.out]
    exact ⟨rfl, HB.out⟩
  | true =>
    have HBB := Lib.hid hbb
    clear hbb
    by_cases hlt : k < l.length
    case neg =>
      obtain rfl : k = l.length := by omega
      have HN := Lib.hid (same_yes l m HBB.out)
      go_wp2_with fail
      go_ret
      rw [HN.out]
      exact ⟨rfl, HB.out⟩
    case pos =>
      obtain ⟨hlen, htk⟩ : l.length = m.length ∧ l.take k = m.take k := by have := HBB.out; simpa only [Bool.and_eq_true, decide_eq_true_eq] using this
      have hkm : k < m.length := by omega
      have HT := Lib.hid (take_beq l m k hlt hkm)
      have HE := Lib.hid (And.intro hlen htk)
      obtain ⟨b, off, vx, rfl, c0, c1, hx⟩ := (HL.out.below HB.out).at_ k hlt
      obtain ⟨b', off', vy, rfl, d0, d1, hy⟩ := (HM.out.below HB.out).at_ k hkm
      have hk0 : (0 : Int) ≤ (k : Int) := by omega
      have hk1 : (k : Int) < (l.length : Int) := by omega
      have hk2 : (k : Int) < (m.length : Int) := by omega
      clear hlen htk
      generalize l[k] = x at *
      generalize m[k] = y at *
      obtain ⟨xs, xw⟩ := x
      obtain ⟨ys, yw⟩ := y
      obtain ⟨X, xc, rfl, -⟩ := hx.form
      obtain ⟨Y, yc, rfl, -⟩ := hy.form
      have HC := Lib.hid (fun n => law_equalInts xs ys _ _ (wr.drewN n) (hx.below (below_drewN wr n)) (hy.below (below_drewN wr n)))
      have HD : Hid (decide ((⟨xs, xw⟩ : StackC) = ⟨ys, yw⟩) = (decide (xw = yw) && decide (xs = ys))) := by unfold Hid; rw [Bool.eq_iff_iff]; simp [and_comm]
      clear hx hy
      by_cases hw : xw = yw
      case pos =>
        subst hw
        have HD2 : Hid (decide ((⟨xs, xw⟩ : StackC) = ⟨ys, xw⟩) = decide (xs = ys)) := by unfold Hid; rw [HD.out]; simp
        generalize hde : decide (xs = ys) = de at *
        go_upto_region 5 with (fail)
        go_quiet ((go_at_call 65; exact Calls.quiet_of (HC.out _)))
        go_wp2_with fail
        have HDr := below_drewN wr nq
        refine ⟨⟨HB.out.trans (HDr.mono HB.out.size), k + 1, hlt, by go_num, ?_⟩, by simp [intOf]; omega⟩
        rw [HT.out, decide_eq_true HE.out.1, decide_eq_true HE.out.2, Bool.true_and, Bool.true_and, HD2.out]
      case neg =>
        have hw2 : (xw == yw) = false := by simpa using hw
        have hw3 : decide (xw = yw) = false := decide_eq_false hw
        have HD2 : Hid (decide ((⟨xs, xw⟩ : StackC) = ⟨ys, yw⟩) = false) := by unfold Hid; rw [HD.out, hw3]; rfl
        go_upto_region 5 with (fail)
        go_quiet (fail)
        go_wp2_with fail
        have HDr := below_drewN wr nq
        refine ⟨⟨HB.out.trans (HDr.mono HB.out.size), k + 1, hlt, by go_num, ?_⟩, by simp [intOf]; omega⟩
        rw [HT.out, decide_eq_true HE.out.1, decide_eq_true HE.out.2, Bool.true_and, Bool.true_and, HD2.out]
end Go.Proofs.YtdkcjeaabbkdeaaGreatDoor
