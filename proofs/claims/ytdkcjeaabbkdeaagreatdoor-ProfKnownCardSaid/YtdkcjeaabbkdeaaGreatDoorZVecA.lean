/- Package vec: the small functions. -/
import Derived.Test.YtdkcjeaabbkdeaaGreatDoorZSet
import Derived.WalkSmall
set_option linter.unusedVariables false
set_option linter.unusedSimpArgs false
set_option linter.unnecessarySimpa false
set_option linter.unusedSectionVars false
namespace Go.Proofs.YtdkcjeaabbkdeaaGreatDoor
open Go.RowKit
set_option linter.unusedVariables false
set_option linter.unusedSimpArgs false

set_option maxRecDepth 100000 in
theorem vec_within (n low high : Int) (w : World) : Calls Tryz.prog 120 #[.int .i64 n, .int .i64 low, .int .i64 high] w fun e w' => e = .returned (.bool (decide (low ≤ n) && decide (n ≤ high))) ∧ w = w' := by
  go_enter Tryz.func120, Tryz.ntmps120
  by_cases h1 : low ≤ n <;> by_cases h2 : n ≤ high
  all_goals
    go_wp2
    go_ret
    exact ⟨ret_bool (by simp [h1, h2]), rfl⟩

set_option maxRecDepth 100000 in
theorem vec_operation (n : Int) (w : World) : Calls Tryz.prog 219 #[.int .i64 n] w (Gives w (.bool (decide (0 ≤ n) && decide (n ≤ 11)))) := by
  go_enter Tryz.func219, Tryz.ntmps219
  go_wp2_with (go_at_call 120; refine (vec_within _ _ _ _).mono ?_; rintro e w' ⟨rfl, rfl⟩)
  go_ret
  exact ⟨rfl, Below.refl _ _⟩
set_option maxRecDepth 100000 in
theorem vec_register (n : Int) (w : World) : Calls Tryz.prog 192 #[.int .i64 n] w fun e w' => e = .returned (.bool (decide (0 ≤ n) && decide (n ≤ 3999))) ∧ w = w' := by
  go_enter Tryz.func192, Tryz.ntmps192
  go_wp2_with (go_at_call 120; refine (vec_within _ _ _ _).mono ?_; rintro e w' ⟨rfl, rfl⟩)
  go_ret
  exact ⟨rfl, rfl⟩
set_option maxRecDepth 100000 in
theorem vec_anything (n : Int) (w : World) : Calls Tryz.prog 224 #[.int .i64 n] w (Gives w (.bool true)) := by
  go_enter Tryz.func224, Tryz.ntmps224
  go_wp2
  go_ret
  exact ⟨rfl, Below.refl _ _⟩

set_option maxRecDepth 100000 in
set_option maxHeartbeats 400000 in
theorem slices_index (v : Value) (xs : List Int) (x : Int) (w : World) (h : Ints w v xs) :
    Calls Tryz.prog 102 #[v, .int .i64 x] w fun e w' => e = .returned (.int .i64 (firstIx (fun y => x == y) 0 xs)) ∧ w' = w := by
  obtain ⟨A, c, rfl, hm⟩ := h.form
  have HI := Lib.hid h; clear h
  go_enter Tryz.func102, Tryz.ntmps102
  go_wp2
  go_loopw [5, 8] (fun _ i wr => wr = w ∧ ∃ k : Nat, k ≤ xs.length ∧ i = .int .i64 k ∧ firstIx (fun y => x == y) 0 xs = firstIx (fun y => x == y) k (xs.drop k)) (fun _ i _ => xs.length - (intOf i).toNat)
  case atStart => exact ⟨rfl, 0, Nat.zero_le _, rfl, rfl⟩
  case round =>
    obtain ⟨rfl, k, hk, rfl, hf⟩ := hrel
    have HF := Lib.hid hf; clear hf
    by_cases hlt : k < xs.length
    · obtain ⟨b, off, rfl, hcell⟩ := HI.out.at_ k hlt
      have HD := Lib.hid (firstIx_drop (fun y => x == y) k xs hlt)
      by_cases he : x = xs[k]
      · have he' : (x == xs[k]) = true := by simpa using he
        have HE := Lib.hid he'
        clear he
        go_wp2_with fail
        go_ret
        rw [HF.out, HD.out, if_pos HE.out]
        exact ⟨rfl, rfl⟩
      · have he' : (x == xs[k]) = false := by simpa using he
        have HE := Lib.hid he'
        clear he
        go_wp2_with fail
        go_roundw
        case rel => exact ⟨trivial, k + 1, hlt, by go_num, by rw [HF.out, HD.out, HE.out]; rfl⟩
        case measure => simp [intOf]; omega
    · obtain rfl : k = xs.length := by omega
      go_wp2_with fail
      go_ret
      rw [HF.out]
      simp [firstIx]
theorem firstIx_contains (xs : List Int) (x : Int) : decide (0 ≤ firstIx (fun y => x == y) 0 xs) = xs.contains x := by
  rw [firstIx_any]
  rw [Bool.eq_iff_iff]; simp
set_option maxRecDepth 100000 in
theorem slices_contains (v : Value) (xs : List Int) (x : Int) (w : World) (h : Ints w v xs) :
    Calls Tryz.prog 58 #[v, .int .i64 x] w fun e w' => e = .returned (.bool (xs.contains x)) ∧ w' = w := by
  obtain ⟨A, c, rfl, hm⟩ := h.form
  have hc := Lib.hid (slices_index _ xs x w h); clear h
  rw [← firstIx_contains]
  go_enter Tryz.func58, Tryz.ntmps58
  go_wp2_with (go_at_call 102; refine hc.out.mono ?_; rintro e w' ⟨rfl, rfl⟩)
  go_ret
  exact ⟨rfl, rfl⟩

/-- The operations that join words. -/
def joinOps : List Int := [0, 2, 7, 8, 9, 10, 11]
set_option maxRecDepth 100000 in
theorem vec_joins (n : Int) (w : World) : Calls Tryz.prog 235 #[.int .i64 n] w (Gives w (.bool (joinOps.contains n))) := by
  have hc := Lib.hid (slices_contains _ joinOps n _ (ints_lit w joinOps 3 (by decide)))
  go_enter Tryz.func235, Tryz.ntmps235
  go_wp2_with (go_at_call 58; refine hc.out.mono ?_; rintro e w' ⟨rfl, rfl⟩)
  go_ret
  exact ⟨ret_bool (by simp), below1 _ _⟩

set_option maxRecDepth 100000 in
theorem vec_word1 (n : Int) (w : World) : Calls Tryz.prog 151 #[.int .i64 n] w (Gives w (.bool (!isWord n))) := by
  go_enter Tryz.func151, Tryz.ntmps151
  go_wp2_with (go_at_call 152; refine (word_is _ _).mono ?_; rintro e w' ⟨rfl, rfl⟩)
  go_ret
  exact ⟨rfl, Below.refl _ _⟩
theorem enters151 : Enters Tryz.prog 151 := enters_of Tryz.func151 (by kernel_rfl) rfl
theorem tests151 (w : World) : Tests RInt 151 #[] (fun n => !isWord n) w := ⟨enters151, fun u x w1 _ h => by
  obtain rfl : u = .int .i64 x := by simpa [RInt] using h
  exact vec_word1 x w1⟩
/-- A list is a vector. -/
def isVec (l : List Int) : Bool := decide (l.length ≤ 1048576) && l.all isWord

/-- The panic of what is wrong. -/
def stopE (e : Int) : List PanicEntry := [{ v := .iface 186 (.agg #[.int .i64 e]), recovered := false }]
set_option maxRecDepth 100000 in
theorem vec_need_yes (e : Int) (w : World) : Calls Tryz.prog 117 #[.bool true, .int .i64 e] w fun r w' => r = .returned (.tuple #[]) ∧ w' = w := by
  go_enter Tryz.func117, Tryz.ntmps117
  go_wp2
  go_end0
  exact ⟨rfl, rfl⟩
set_option maxRecDepth 100000 in
theorem vec_need_no (e : Int) (w : World) : Calls Tryz.prog 117 #[.bool false, .int .i64 e] w fun r w' => r = .panicked (stopE e) ∧ w' = w := by
  go_enter Tryz.func117, Tryz.ntmps117
  go_wp2
  exact ⟨rfl, rfl, rfl⟩

set_option maxRecDepth 100000 in
theorem vec_sum (v : Value) (ls : List (List Int)) (w : World) (h : Lists w v ls) (hs : (ls.map List.length).sum ≤ 4611686018427387904) :
    Calls Tryz.prog 154 #[v] w fun e w' => e = .returned (.int .i64 ((ls.map List.length).sum : Nat)) ∧ w' = w := by
  obtain ⟨A, c, rfl, hm⟩ := h.form
  have HI := Lib.hid h; clear h
  have hp : ∀ k (hk : k < ls.length), ((ls.take k).map List.length).sum + ls[k].length ≤ 4611686018427387904 ∧ ((ls.take (k + 1)).map List.length).sum = ((ls.take k).map List.length).sum + ls[k].length := fun k hk => by
    have e : ((ls.take (k + 1)).map List.length).sum = ((ls.take k).map List.length).sum + ls[k].length := by
      rw [List.take_succ_eq_append_getElem hk, List.map_append, List.sum_append_nat]; simp
    have e2 : (ls.map List.length).sum = ((ls.take (k + 1)).map List.length).sum + ((ls.drop (k + 1)).map List.length).sum := by
      rw [← List.sum_append_nat, ← List.map_append, List.take_append_drop]
    omega
  have HP := Lib.hid hp; clear hp hs
  go_enter Tryz.func154, Tryz.ntmps154
  go_wp2
  go_loopw [2, 4, 7] (fun n _ i wr => wr = w ∧ ∃ k : Nat, k ≤ ls.length ∧ i = .int .i64 k ∧ n = .int .i64 (((ls.take k).map List.length).sum : Nat)) (fun _ _ i _ => ls.length - (intOf i).toNat)
  case atStart => exact ⟨rfl, 0, Nat.zero_le _, rfl, rfl⟩
  case round =>
    obtain ⟨rfl, k, hk, rfl, rfl⟩ := hrel
    by_cases hlt : k < ls.length
    · obtain ⟨b, off, u, rfl, hcell, hu⟩ := HI.out.at_ k hlt
      obtain ⟨B, d, rfl, -⟩ := hu.form
      obtain ⟨h1, h2⟩ := HP.out k hlt
      have H2 := Lib.hid h2
      clear hu h2
      generalize hsk : ((ls.take k).map List.length).sum = s at *
      generalize hlk : ls[k].length = m at *
      have hw1 : wrap64 ((s : Int) + (m : Int)) = ((s + m : Nat) : Int) := by unfold wrap64; omega
      go_wp2_with fail
      go_roundw
      case rel => exact ⟨trivial, k + 1, hlt, by go_num, by rw [H2.out, Int.natCast_add]⟩
      case measure => simp [intOf]; omega
    · obtain rfl : k = ls.length := by omega
      go_wp2_with fail
      go_ret
      rw [List.take_length]
      exact ⟨rfl, rfl⟩

set_option maxRecDepth 100000 in
theorem vec_vectors (v : Value) (ls : List (List Int)) (w : World) (h : Lists w v ls) : Calls Tryz.prog 119 #[v] w (Gives w (.bool (ls.all isVec))) := by
  obtain ⟨A, c, rfl, hm⟩ := h.form
  have HI := Lib.hid h; clear h
  go_enter Tryz.func119, Tryz.ntmps119
  go_wp2
  go_loopw [4, 7] (fun _ i wr => Below w.heap.size w wr ∧ ∃ k : Nat, k ≤ ls.length ∧ i = .int .i64 k ∧ ∀ j (hj : j < ls.length), j < k → isVec ls[j] = true) (fun _ i _ => ls.length - (intOf i).toNat)
  case atStart => exact ⟨Below.refl _ _, 0, Nat.zero_le _, rfl, fun j _ h => absurd h (by omega)⟩
  case round =>
    obtain ⟨hb, k, hk, rfl, hall⟩ := hrel
    have HAll := Lib.hid hall; clear hall
    by_cases hlt : k < ls.length
    · obtain ⟨b, off, u, rfl, hcell, hu⟩ := (HI.out.below hb).at_ k hlt
      obtain ⟨B, d, rfl, -⟩ := hu.form
      by_cases hl : ls[k].length ≤ 1048576
      · have hc := Lib.hid (containsFunc111 stays_int _ _ 151 #[] _ wr hu (tests151 wr))
        clear hu
        cases hany : (ls[k].any fun n => !isWord n)
        · rw [hany] at hc
          go_wp2_with fail
          refine hc.out.mono ?_
          rintro e w2 ⟨rfl, hb2⟩
          go_wp2_with fail
          go_roundw
          case rel =>
            refine ⟨below_step hb hb2, k + 1, hlt, by go_num, fun j hj hjk => ?_⟩
            by_cases e : j = k
            · subst e
              unfold isVec
              simp only [hl, decide_true, Bool.true_and]
              rw [List.all_eq_true]
              intro x hx
              cases hw : isWord x
              · have := List.any_eq_false.1 hany x hx
                simp [hw] at this
              · rfl
            · exact HAll.out j hj (by omega)
          case measure => simp [intOf]; omega
        · rw [hany] at hc
          have hno : ls.all isVec = false := by
            rw [List.all_eq_false]
            refine ⟨ls[k], List.getElem_mem hlt, ?_⟩
            obtain ⟨x, hx, hw⟩ := List.any_eq_true.1 hany
            unfold isVec
            intro hh
            simp only [Bool.and_eq_true, List.all_eq_true] at hh
            rw [hh.2 x hx] at hw
            cases hw
          have HN := Lib.hid hno; clear hno hany
          go_wp2_with fail
          refine hc.out.mono ?_
          rintro e w2 ⟨rfl, hb2⟩
          go_wp2_with fail
          go_ret
          rw [HN.out]
          exact ⟨rfl, below_step hb hb2⟩
      · have hno : ls.all isVec = false := by
          rw [List.all_eq_false]
          refine ⟨ls[k], List.getElem_mem hlt, ?_⟩
          unfold isVec
          simp [hl]
        have HN := Lib.hid hno; clear hno hu
        go_wp2_with fail
        go_ret
        rw [HN.out]
        exact ⟨rfl, hb⟩
    · obtain rfl : k = ls.length := by omega
      have hyes : ls.all isVec = true := by
        rw [List.all_eq_true]
        intro x hx
        obtain ⟨j, hj, rfl⟩ := List.getElem_of_mem hx
        exact HAll.out j hj hj
      have HN := Lib.hid hyes; clear hyes
      go_wp2_with fail
      go_ret
      rw [HN.out]
      exact ⟨rfl, hb⟩
end Go.Proofs.YtdkcjeaabbkdeaaGreatDoor
