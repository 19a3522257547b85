/- Package word: each function's contract: what it returns, and that it touches nothing that lay there. slices.IndexFunc and slices.ContainsFunc at the element types of this seat, for whatever function value whose own calls are known. Package prim: the checks, and the operations that go through each.all. Package prim: the operations that go through each.all. -/
import Derived.Test.YtdkcjeaabbkdeaaGreatDoorZBase
import Derived.Test.YtdkcjeaabbkdeaaGreatDoorZMaker
set_option linter.unusedVariables false
set_option linter.unusedSimpArgs false
set_option linter.unnecessarySimpa false
set_option linter.unusedSectionVars false
section
namespace Go.Proofs.YtdkcjeaabbkdeaaGreatDoor
open Go.RowKit
set_option linter.unusedVariables false
set_option linter.unusedSimpArgs false

def isWord (n : Int) : Bool := decide (-2147483648 ≤ n) && decide (n ≤ 2147483647)
theorem wrap64_wrap32 (n : Int) : wrap64 (wrap32 n) = wrap32 n := by unfold wrap64 wrap32; omega
theorem mul_bound {a b M : Int} (h0 : 0 ≤ M) (ha1 : -M ≤ a) (ha2 : a ≤ M) (hb1 : -M ≤ b) (hb2 : b ≤ M) : -(M * M) ≤ a * b ∧ a * b ≤ M * M := by
  have h1 : (a * b).natAbs ≤ M.natAbs * M.natAbs := by
    rw [Int.natAbs_mul]
    exact Nat.mul_le_mul (by omega) (by omega)
  have h2 : ((M.natAbs * M.natAbs : Nat) : Int) = M * M := by
    rw [Int.natCast_mul]
    have : (M.natAbs : Int) = M := by omega
    rw [this]
  omega
theorem words_mul {a b : Int} (ha1 : -2147483648 ≤ a) (ha2 : a ≤ 2147483647) (hb1 : -2147483648 ≤ b) (hb2 : b ≤ 2147483647) : -4611686018427387904 ≤ a * b ∧ a * b ≤ 4611686018427387904 := by
  have := mul_bound (a := a) (b := b) (M := 2147483648) (by omega) (by omega) (by omega) (by omega) (by omega)
  omega
theorem wrap64_small {n : Int} (h1 : -9223372036854775808 ≤ n) (h2 : n ≤ 9223372036854775807) : wrap64 n = n := by unfold wrap64; omega
def truth (b : Bool) : Int := if b then 1 else 0
/-- The greatest number that is not greater than the exact quotient. -/
def quotient (a b : Int) : Int := if (!(a.tmod b == 0)) && (decide (a < 0) != decide (b < 0)) then a.tdiv b - 1 else a.tdiv b

set_option maxRecDepth 100000 in
theorem word_wrap (n : Int) (w : World) : Calls Tryz.prog 349 #[.int .i64 n] w fun e w' => e = .returned (.int .i64 (wrap64 (wrap32 n))) ∧ w = w' := by
  go_enter Tryz.func349, Tryz.ntmps349
  go_wp2
  go_ret
  exact ⟨rfl, rfl⟩

set_option maxRecDepth 100000 in
theorem word_truth (b : Bool) (w : World) : Calls Tryz.prog 351 #[.bool b] w fun e w' => e = .returned (.int .i64 (truth b)) ∧ w = w' := by
  cases b
  all_goals
    go_enter Tryz.func351, Tryz.ntmps351
    go_wp2
    go_ret
    exact ⟨rfl, rfl⟩

set_option maxRecDepth 100000 in
theorem word_isOp (n : Int) (w : World) : Calls Tryz.prog 295 #[.int .i64 n] w fun e w' => e = .returned (.bool (decide (0 ≤ n) && decide (n < 12))) ∧ w = w' := by
  by_cases h : 0 ≤ n
  · go_enter Tryz.func295, Tryz.ntmps295
    go_wp2
    go_ret
    exact ⟨by simp [h], rfl⟩
  · go_enter Tryz.func295, Tryz.ntmps295
    go_wp2
    go_ret
    exact ⟨by simp [show ¬ 0 ≤ n by omega], rfl⟩

set_option maxRecDepth 100000 in
theorem word_is (n : Int) (w : World) : Calls Tryz.prog 152 #[.int .i64 n] w fun e w' => e = .returned (.bool (isWord n)) ∧ w = w' := by
  by_cases h : -2147483648 ≤ n
  · go_enter Tryz.func152, Tryz.ntmps152
    go_wp2
    go_ret
    exact ⟨by simp [h, isWord], rfl⟩
  · go_enter Tryz.func152, Tryz.ntmps152
    go_wp2
    go_ret
    exact ⟨by simp [show ¬ -2147483648 ≤ n by omega, isWord], rfl⟩

set_option maxRecDepth 100000 in
theorem word_quotient (a b : Int) (w : World) (hb : ¬ b = 0) (ha1 : -2147483648 ≤ a) (ha2 : a ≤ 2147483647) (hb1 : -2147483648 ≤ b) (hb2 : b ≤ 2147483647) :
    Calls Tryz.prog 350 #[.agg #[.int .i64 a, .int .i64 b]] w (Gives w (.int .i64 (quotient a b))) := by
  have hq : -2147483648 ≤ a.tdiv b ∧ a.tdiv b ≤ 2147483648 := by
    have h := Int.natAbs_tdiv_le_natAbs a b
    omega
  obtain ⟨hq1, hq2⟩ := hq
  go_enter Tryz.func350, Tryz.ntmps350
  go_wp2
  all_goals go_ret
  all_goals refine ⟨?_, (Below.refl _ _).alloc (Nat.le_refl _) _⟩
  all_goals unfold quotient
  · simp_all
  · simp_all
  · simp_all

theorem quotient_bound {a b : Int} (ha1 : -2147483648 ≤ a) (ha2 : a ≤ 2147483647) : -2147483649 ≤ quotient a b ∧ quotient a b ≤ 2147483648 := by
  have h := Int.natAbs_tdiv_le_natAbs a b
  unfold quotient
  split <;> omega
theorem mod_bound {a b : Int} (hb : ¬ b = 0) (ha1 : -2147483648 ≤ a) (ha2 : a ≤ 2147483647) (hb1 : -2147483648 ≤ b) (hb2 : b ≤ 2147483647) :
    -9000000000000000000 ≤ b * quotient a b ∧ b * quotient a b ≤ 9000000000000000000 := by
  have hq := quotient_bound (a := a) (b := b) ha1 ha2
  have := mul_bound (a := b) (b := quotient a b) (M := 2147483649) (by omega) (by omega) (by omega) (by omega) (by omega)
  omega
/-- What the operations make of two words. -/
def wordVal (op : Nat) (a b : Int) : Int :=
  match op with
  | 0 => wrap32 (a + b)
  | 1 => wrap32 (a - b)
  | 2 => wrap32 (a * b)
  | 3 => wrap32 (quotient a b)
  | 4 => a - b * quotient a b
  | 5 => truth (decide (a < b))
  | 6 => truth (a == b)
  | 7 => min a b
  | 8 => max a b
  | 9 => Go.bits .and .i64 a b
  | 10 => Go.bits .or .i64 a b
  | 11 => Go.bits .xor .i64 a b
  | _ => 0

set_option maxRecDepth 100000 in
theorem word_add (a b : Int) (w : World) (ha1 : -2147483648 ≤ a) (ha2 : a ≤ 2147483647) (hb1 : -2147483648 ≤ b) (hb2 : b ≤ 2147483647) :
    Calls Tryz.prog 334 #[.agg #[.int .i64 a, .int .i64 b]] w (Gives w (.int .i64 (wordVal 0 a b))) := by
  go_enter Tryz.func334, Tryz.ntmps334
  go_wp2
  go_ret
  have hm := words_mul ha1 ha2 hb1 hb2
  exact ⟨by simp [wordVal, wrap64_wrap32, wrap64_small (n := a * b) (by omega) (by omega)], (Below.refl _ _).alloc (Nat.le_refl _) _⟩
set_option maxRecDepth 100000 in
theorem word_sub (a b : Int) (w : World) (ha1 : -2147483648 ≤ a) (ha2 : a ≤ 2147483647) (hb1 : -2147483648 ≤ b) (hb2 : b ≤ 2147483647) :
    Calls Tryz.prog 338 #[.agg #[.int .i64 a, .int .i64 b]] w (Gives w (.int .i64 (wordVal 1 a b))) := by
  go_enter Tryz.func338, Tryz.ntmps338
  go_wp2
  go_ret
  have hm := words_mul ha1 ha2 hb1 hb2
  exact ⟨by simp [wordVal, wrap64_wrap32, wrap64_small (n := a * b) (by omega) (by omega)], (Below.refl _ _).alloc (Nat.le_refl _) _⟩
set_option maxRecDepth 100000 in
theorem word_mul (a b : Int) (w : World) (ha1 : -2147483648 ≤ a) (ha2 : a ≤ 2147483647) (hb1 : -2147483648 ≤ b) (hb2 : b ≤ 2147483647) :
    Calls Tryz.prog 339 #[.agg #[.int .i64 a, .int .i64 b]] w (Gives w (.int .i64 (wordVal 2 a b))) := by
  go_enter Tryz.func339, Tryz.ntmps339
  go_wp2
  go_ret
  have hm := words_mul ha1 ha2 hb1 hb2
  exact ⟨by simp [wordVal, wrap64_wrap32, wrap64_small (n := a * b) (by omega) (by omega)], (Below.refl _ _).alloc (Nat.le_refl _) _⟩
set_option maxRecDepth 100000 in
theorem word_less (a b : Int) (w : World) (ha1 : -2147483648 ≤ a) (ha2 : a ≤ 2147483647) (hb1 : -2147483648 ≤ b) (hb2 : b ≤ 2147483647) :
    Calls Tryz.prog 342 #[.agg #[.int .i64 a, .int .i64 b]] w (Gives w (.int .i64 (wordVal 5 a b))) := by
  go_enter Tryz.func342, Tryz.ntmps342
  go_wp2_with (go_at_call 351; refine (word_truth _ _).mono ?_; rintro e w' ⟨rfl, rfl⟩)
  go_ret
  exact ⟨rfl, (Below.refl _ _).alloc (Nat.le_refl _) _⟩
set_option maxRecDepth 100000 in
theorem word_same (a b : Int) (w : World) (ha1 : -2147483648 ≤ a) (ha2 : a ≤ 2147483647) (hb1 : -2147483648 ≤ b) (hb2 : b ≤ 2147483647) :
    Calls Tryz.prog 343 #[.agg #[.int .i64 a, .int .i64 b]] w (Gives w (.int .i64 (wordVal 6 a b))) := by
  go_enter Tryz.func343, Tryz.ntmps343
  go_wp2_with (go_at_call 351; refine (word_truth _ _).mono ?_; rintro e w' ⟨rfl, rfl⟩)
  go_ret
  exact ⟨rfl, (Below.refl _ _).alloc (Nat.le_refl _) _⟩
set_option maxRecDepth 100000 in
theorem word_min (a b : Int) (w : World) (ha1 : -2147483648 ≤ a) (ha2 : a ≤ 2147483647) (hb1 : -2147483648 ≤ b) (hb2 : b ≤ 2147483647) :
    Calls Tryz.prog 344 #[.agg #[.int .i64 a, .int .i64 b]] w (Gives w (.int .i64 (wordVal 7 a b))) := by
  go_enter Tryz.func344, Tryz.ntmps344
  go_wp2
  all_goals go_ret
  all_goals refine ⟨?_, (Below.refl _ _).alloc (Nat.le_refl _) _⟩
  all_goals simp [wordVal]
  all_goals omega
set_option maxRecDepth 100000 in
theorem word_max (a b : Int) (w : World) (ha1 : -2147483648 ≤ a) (ha2 : a ≤ 2147483647) (hb1 : -2147483648 ≤ b) (hb2 : b ≤ 2147483647) :
    Calls Tryz.prog 345 #[.agg #[.int .i64 a, .int .i64 b]] w (Gives w (.int .i64 (wordVal 8 a b))) := by
  go_enter Tryz.func345, Tryz.ntmps345
  go_wp2
  all_goals go_ret
  all_goals refine ⟨?_, (Below.refl _ _).alloc (Nat.le_refl _) _⟩
  all_goals simp [wordVal]
  all_goals omega
set_option maxRecDepth 100000 in
theorem word_and (a b : Int) (w : World) (ha1 : -2147483648 ≤ a) (ha2 : a ≤ 2147483647) (hb1 : -2147483648 ≤ b) (hb2 : b ≤ 2147483647) :
    Calls Tryz.prog 346 #[.agg #[.int .i64 a, .int .i64 b]] w (Gives w (.int .i64 (wordVal 9 a b))) := by
  go_enter Tryz.func346, Tryz.ntmps346
  go_wp2
  go_ret
  have hm := words_mul ha1 ha2 hb1 hb2
  exact ⟨by simp [wordVal, wrap64_wrap32, wrap64_small (n := a * b) (by omega) (by omega)], (Below.refl _ _).alloc (Nat.le_refl _) _⟩
set_option maxRecDepth 100000 in
theorem word_or (a b : Int) (w : World) (ha1 : -2147483648 ≤ a) (ha2 : a ≤ 2147483647) (hb1 : -2147483648 ≤ b) (hb2 : b ≤ 2147483647) :
    Calls Tryz.prog 347 #[.agg #[.int .i64 a, .int .i64 b]] w (Gives w (.int .i64 (wordVal 10 a b))) := by
  go_enter Tryz.func347, Tryz.ntmps347
  go_wp2
  go_ret
  have hm := words_mul ha1 ha2 hb1 hb2
  exact ⟨by simp [wordVal, wrap64_wrap32, wrap64_small (n := a * b) (by omega) (by omega)], (Below.refl _ _).alloc (Nat.le_refl _) _⟩
set_option maxRecDepth 100000 in
theorem word_xor (a b : Int) (w : World) (ha1 : -2147483648 ≤ a) (ha2 : a ≤ 2147483647) (hb1 : -2147483648 ≤ b) (hb2 : b ≤ 2147483647) :
    Calls Tryz.prog 348 #[.agg #[.int .i64 a, .int .i64 b]] w (Gives w (.int .i64 (wordVal 11 a b))) := by
  go_enter Tryz.func348, Tryz.ntmps348
  go_wp2
  go_ret
  have hm := words_mul ha1 ha2 hb1 hb2
  exact ⟨by simp [wordVal, wrap64_wrap32, wrap64_small (n := a * b) (by omega) (by omega)], (Below.refl _ _).alloc (Nat.le_refl _) _⟩
set_option maxRecDepth 100000 in
theorem word_div (a b : Int) (w : World) (hb : ¬ b = 0) (ha1 : -2147483648 ≤ a) (ha2 : a ≤ 2147483647) (hb1 : -2147483648 ≤ b) (hb2 : b ≤ 2147483647) :
    Calls Tryz.prog 340 #[.agg #[.int .i64 a, .int .i64 b]] w (Gives w (.int .i64 (wordVal 3 a b))) := by
  go_enter Tryz.func340, Tryz.ntmps340
  go_wp2_with (first | (go_at_call 350; refine (word_quotient a b _ hb ha1 ha2 hb1 hb2).mono ?_; rintro e w' ⟨rfl, hb'⟩) | (go_at_call 349; refine (word_wrap _ _).mono ?_; rintro e w' ⟨rfl, rfl⟩))
  go_ret
  exact ⟨by simp [wordVal, wrap64_wrap32], ((Below.refl _ _).alloc (Nat.le_refl _) _).trans (hb'.mono (by simp))⟩
set_option maxRecDepth 100000 in
theorem word_mod (a b : Int) (w : World) (hb : ¬ b = 0) (ha1 : -2147483648 ≤ a) (ha2 : a ≤ 2147483647) (hb1 : -2147483648 ≤ b) (hb2 : b ≤ 2147483647) :
    Calls Tryz.prog 341 #[.agg #[.int .i64 a, .int .i64 b]] w (Gives w (.int .i64 (wordVal 4 a b))) := by
  go_enter Tryz.func341, Tryz.ntmps341
  go_wp2
  have hq := quotient_bound (a := a) (b := b) ha1 ha2
  obtain ⟨hq1, hq2⟩ := hq
  have hm := mod_bound (a := a) (b := b) hb ha1 ha2 hb1 hb2
  have hB : Below w.heap.size w (w.alloc (.cells #[.int .i64 a, .int .i64 b] 349)) := (Below.refl _ _).alloc (Nat.le_refl _) _
  have hst := stable_and (stable_cell ⟨w.heap.size, 0, none⟩ (.int .i64 a)) (stable_and (stable_cell ⟨w.heap.size, 1, none⟩ (.int .i64 b)) (stable_below w))
  go_region_held3 (fun W => W.cell? ⟨w.heap.size, 0, none⟩ = some (.int .i64 a) ∧ W.cell? ⟨w.heap.size, 1, none⟩ = some (.int .i64 b) ∧ Below w.heap.size w W) (first | assumption | exact ⟨by simp, by simp, hB.drew⟩ | exact hst _ _ (by assumption) (by assumption)) (first | (go_at_call 350; refine (word_quotient a b _ hb ha1 ha2 hb1 hb2).mono ?_; rintro e w' ⟨rfl, hb'⟩))
  go_wp2
  go_ret
  rename_i hh
  refine ⟨?_, hh.2.2⟩
  simp [wordVal, IntKind.wrap_i64]
  omega

/-- A call of a function of the table of deeds. -/
theorem deed_enters (k : Nat) (hk : k < 12) : Enters Tryz.prog (deedFn k) := by
  have h : k = 0 ∨ k = 1 ∨ k = 2 ∨ k = 3 ∨ k = 4 ∨ k = 5 ∨ k = 6 ∨ k = 7 ∨ k = 8 ∨ k = 9 ∨ k = 10 ∨ k = 11 := by omega
  rcases h with rfl | rfl | rfl | rfl | rfl | rfl | rfl | rfl | rfl | rfl | rfl | rfl
  · exact enters_of (f := 334) Tryz.func334 (by kernel_rfl) rfl
  · exact enters_of (f := 338) Tryz.func338 (by kernel_rfl) rfl
  · exact enters_of (f := 339) Tryz.func339 (by kernel_rfl) rfl
  · exact enters_of (f := 340) Tryz.func340 (by kernel_rfl) rfl
  · exact enters_of (f := 341) Tryz.func341 (by kernel_rfl) rfl
  · exact enters_of (f := 342) Tryz.func342 (by kernel_rfl) rfl
  · exact enters_of (f := 343) Tryz.func343 (by kernel_rfl) rfl
  · exact enters_of (f := 344) Tryz.func344 (by kernel_rfl) rfl
  · exact enters_of (f := 345) Tryz.func345 (by kernel_rfl) rfl
  · exact enters_of (f := 346) Tryz.func346 (by kernel_rfl) rfl
  · exact enters_of (f := 347) Tryz.func347 (by kernel_rfl) rfl
  · exact enters_of (f := 348) Tryz.func348 (by kernel_rfl) rfl
theorem deed_calls (k : Nat) (hk : k < 12) (a b : Int) (w : World) (hz : b = 0 → k ≠ 3 ∧ k ≠ 4) (ha1 : -2147483648 ≤ a) (ha2 : a ≤ 2147483647) (hb1 : -2147483648 ≤ b) (hb2 : b ≤ 2147483647) :
    Calls Tryz.prog (deedFn k) #[.agg #[.int .i64 a, .int .i64 b]] w (Gives w (.int .i64 (wordVal k a b))) := by
  have h : k = 0 ∨ k = 1 ∨ k = 2 ∨ k = 3 ∨ k = 4 ∨ k = 5 ∨ k = 6 ∨ k = 7 ∨ k = 8 ∨ k = 9 ∨ k = 10 ∨ k = 11 := by omega
  rcases h with rfl | rfl | rfl | rfl | rfl | rfl | rfl | rfl | rfl | rfl | rfl | rfl
  · exact word_add a b w ha1 ha2 hb1 hb2
  · exact word_sub a b w ha1 ha2 hb1 hb2
  · exact word_mul a b w ha1 ha2 hb1 hb2
  · exact word_div a b w (fun h => (hz h).1 rfl) ha1 ha2 hb1 hb2
  · exact word_mod a b w (fun h => (hz h).2 rfl) ha1 ha2 hb1 hb2
  · exact word_less a b w ha1 ha2 hb1 hb2
  · exact word_same a b w ha1 ha2 hb1 hb2
  · exact word_min a b w ha1 ha2 hb1 hb2
  · exact word_max a b w ha1 ha2 hb1 hb2
  · exact word_and a b w ha1 ha2 hb1 hb2
  · exact word_or a b w ha1 ha2 hb1 hb2
  · exact word_xor a b w ha1 ha2 hb1 hb2

/-- What word.Do returns: a number, and an error. -/
def wordDo (op a b : Int) : Int × Int :=
  if !(decide (0 ≤ op) && decide (op < 12)) then (0, 1)
  else if !isWord a || !isWord b then (0, 2)
  else if b = 0 ∧ (op = 3 ∨ op = 4) then (0, 14)
  else (wordVal op.toNat a b, 0)
theorem isWord_iff (n : Int) : isWord n = true ↔ -2147483648 ≤ n ∧ n ≤ 2147483647 := by simp [isWord]

set_option maxRecDepth 100000 in
set_option maxHeartbeats 800000 in
theorem word_do (op a b : Int) (w : World) (hg : Glob w) :
    Calls Tryz.prog 267 #[.int .i64 op, .int .i64 a, .int .i64 b] w (Gives w (.tuple #[.int .i64 (wordDo op a b).1, .int .i64 (wordDo op a b).2])) := by
  by_cases h0 : (decide (0 ≤ op) && decide (op < 12)) = true
  case neg =>
    have h0' : (decide (0 ≤ op) && decide (op < 12)) = false := by simpa using h0
    have hv : wordDo op a b = (0, 1) := by unfold wordDo; rw [h0']; rfl
    have HV := Lib.hid hv; clear hv h0
    have h1 := Lib.hid h0'; clear h0'
    go_enter Tryz.func267, Tryz.ntmps267
    go_wp2_with (first | (go_at_call 295; refine (word_isOp _ _).mono ?_; rintro e w' ⟨rfl, rfl⟩; rw [h1.out]))
    go_ret2
    rw [HV.out]
    exact ⟨rfl, Below.refl _ _⟩
  case pos =>
    have H0 := Lib.hid h0
    have hop : 0 ≤ op ∧ op < 12 := by simpa using h0
    obtain ⟨k, rfl⟩ := Int.eq_ofNat_of_zero_le hop.1
    have hk : k < 12 := by omega
    clear hop h0
    cases ha : isWord a
    case false =>
      have hv : wordDo k a b = (0, 2) := by unfold wordDo; rw [H0.out, ha]; rfl
      have HV := Lib.hid hv; clear hv
      have HA := Lib.hid ha; clear ha
      go_enter Tryz.func267, Tryz.ntmps267
      go_wp2_with (first | (go_at_call 295; refine (word_isOp _ _).mono ?_; rintro e w' ⟨rfl, rfl⟩; rw [H0.out]) | (go_at_call 152; refine (word_is _ _).mono ?_; rintro e w' ⟨rfl, rfl⟩; rw [HA.out]))
      go_ret2
      rw [HV.out]
      exact ⟨rfl, Below.refl _ _⟩
    case true =>
      cases hb : isWord b
      case false =>
        have hv : wordDo k a b = (0, 2) := by unfold wordDo; rw [H0.out, ha, hb]; rfl
        have HV := Lib.hid hv; clear hv
        have HA := Lib.hid ha; clear ha
        have HB := Lib.hid hb; clear hb
        go_enter Tryz.func267, Tryz.ntmps267
        go_wp2_with (first | (go_at_call 295; refine (word_isOp _ _).mono ?_; rintro e w' ⟨rfl, rfl⟩; rw [H0.out]) | (go_at_call 152; refine (word_is _ _).mono ?_; rintro e w' ⟨rfl, rfl⟩; first | rw [HA.out] | rw [HB.out]))
        go_ret2
        rw [HV.out]
        exact ⟨rfl, Below.refl _ _⟩
      case true =>
        obtain ⟨ha1, ha2⟩ := (isWord_iff a).1 ha
        obtain ⟨hb1, hb2⟩ := (isWord_iff b).1 hb
        by_cases hz : b = 0 ∧ ((k : Int) = 3 ∨ (k : Int) = 4)
        · have hv : wordDo k a b = (0, 14) := by unfold wordDo; rw [H0.out, ha, hb]; simp [hz]
          have HV := Lib.hid hv; clear hv
          have HA := Lib.hid ha; clear ha
          have HB := Lib.hid hb; clear hb
          obtain ⟨hz0, hz1⟩ := hz
          subst hz0
          generalize hq : (k : Int) = op at hz1 H0 HV ⊢
          clear hq hk hg
          rcases hz1 with rfl | rfl
          all_goals
            go_enter Tryz.func267, Tryz.ntmps267
            go_wp2_with (first | (go_at_call 295; refine (word_isOp _ _).mono ?_; rintro e w' ⟨rfl, rfl⟩; rw [H0.out]) | (go_at_call 152; refine (word_is _ _).mono ?_; rintro e w' ⟨rfl, rfl⟩; first | rw [HA.out] | rw [HB.out]))
            go_ret2
            rw [HV.out]
            exact ⟨rfl, Below.refl _ _⟩
        · have hv : wordDo k a b = (wordVal k a b, 0) := by unfold wordDo; rw [H0.out, ha, hb]; simp [hz]
          have HV := Lib.hid hv; clear hv
          have HA := Lib.hid ha; clear ha
          have HB := Lib.hid hb; clear hb
          have hd := hg.deeds k hk
          have hen := deed_enters k hk
          have hc := fun w' => deed_calls k hk a b w' (fun h => ⟨fun h3 => hz ⟨h, .inl (by omega)⟩, fun h3 => hz ⟨h, .inr (by omega)⟩⟩) ha1 ha2 hb1 hb2
          have HC := Lib.hid hc; clear hc
          unfold Enters at hen
          clear hg
          have hkz : 0 ≤ (k : Int) := by omega
          by_cases hb0 : b = 0
          · subst hb0
            have h3 : ((k : Int) == 3) = false := by simp; omega
            have h4 : ((k : Int) == 4) = false := by simp; omega
            clear hz
            go_enter Tryz.func267, Tryz.ntmps267
            go_wp2_with (first | (go_at_call 295; refine (word_isOp _ _).mono ?_; rintro e w' ⟨rfl, rfl⟩; rw [H0.out]) | (go_at_call 152; refine (word_is _ _).mono ?_; rintro e w' ⟨rfl, rfl⟩; first | rw [HA.out] | rw [HB.out]))
            refine (HC.out _).mono ?_
            rintro e w' ⟨rfl, hb'⟩
            go_wp2
            go_ret2
            rw [HV.out]
            exact ⟨rfl, hb'⟩
          · have h0 : (b == 0) = false := by simpa using hb0
            clear hz
            go_enter Tryz.func267, Tryz.ntmps267
            go_wp2_with (first | (go_at_call 295; refine (word_isOp _ _).mono ?_; rintro e w' ⟨rfl, rfl⟩; rw [H0.out]) | (go_at_call 152; refine (word_is _ _).mono ?_; rintro e w' ⟨rfl, rfl⟩; first | rw [HA.out] | rw [HB.out]))
            refine (HC.out _).mono ?_
            rintro e w' ⟨rfl, hb'⟩
            go_wp2
            go_ret2
            rw [HV.out]
            exact ⟨rfl, hb'⟩

/-- What word.Neutral returns: a number, and an error. -/
def wordNeutral (op : Int) : Int × Int :=
  if !(decide (0 ≤ op) && decide (op < 12)) then (0, 1)
  else if (lawOf op.toNat).1 then (neutralOf op.toNat, 0) else (0, 4)

set_option maxRecDepth 100000 in
theorem word_laws_no (op : Int) (w : World) (h0 : (decide (0 ≤ op) && decide (op < 12)) = false) :
    Calls Tryz.prog 309 #[.int .i64 op] w (Gives w (.tuple #[.agg #[.bool false, .bool false, .bool false], .int .i64 1])) := by
  have H0 := Lib.hid h0; clear h0
  go_enter Tryz.func309, Tryz.ntmps309
  go_wp2_with (first | (go_at_call 295; refine (word_isOp _ _).mono ?_; rintro e w' ⟨rfl, rfl⟩; rw [H0.out]))
  exact bodyPost_ret (v := .tuple #[.agg #[.bool false, .bool false, .bool false], .int .i64 1]) (by simp [results, Tryz.results309, go_sem]) rfl ⟨rfl, (Below.refl _ _).alloc (Nat.le_refl _) _⟩
set_option maxRecDepth 100000 in
theorem word_laws_yes (k : Nat) (hk : k < 12) (w : World) (hg : Glob w) :
    Calls Tryz.prog 309 #[.int .i64 k] w (Gives w (.tuple #[.agg #[.bool (lawOf k).1, .bool (lawOf k).2.1, .bool (lawOf k).2.2], .int .i64 0])) := by
  have H0 : Hid ((decide (0 ≤ (k : Int)) && decide ((k : Int) < 12)) = true) := by simp [Hid]; omega
  have h1 := cell_alloc (hg.assoc k hk)
  have h2 := cell_alloc (hg.commutes k hk)
  have h3 := cell_alloc (hg.idem k hk)
  clear hg
  generalize lawOf k = l at *
  obtain ⟨l1, l2, l3⟩ := l
  simp only at h1 h2 h3 ⊢
  go_enter Tryz.func309, Tryz.ntmps309
  go_wp2_with (first | (go_at_call 295; refine (word_isOp _ _).mono ?_; rintro e w' ⟨rfl, rfl⟩; rw [H0.out]))
  exact bodyPost_ret (v := .tuple #[.agg #[.bool l1, .bool l2, .bool l3], .int .i64 0]) (by simp [results, Tryz.results309, go_sem]) rfl ⟨rfl, (Below.refl _ _).alloc (Nat.le_refl _) _⟩

set_option maxRecDepth 100000 in
set_option maxHeartbeats 800000 in
theorem word_neutral (op : Int) (w : World) (hg : Glob w) :
    Calls Tryz.prog 304 #[.int .i64 op] w (Gives w (.tuple #[.int .i64 (wordNeutral op).1, .int .i64 (wordNeutral op).2])) := by
  by_cases h0 : (decide (0 ≤ op) && decide (op < 12)) = true
  case neg =>
    have h0' : (decide (0 ≤ op) && decide (op < 12)) = false := by simpa using h0
    have HV : Hid (wordNeutral op = (0, 1)) := by unfold Hid wordNeutral; rw [h0']; rfl
    have hc := word_laws_no op w h0'
    clear h0 h0' hg
    go_enter Tryz.func304, Tryz.ntmps304
    go_wp2_with (first | (go_at_call 309; refine hc.mono ?_; rintro e w' ⟨rfl, hb'⟩))
    go_ret2
    rw [HV.out]
    exact ⟨rfl, below_step hb' ((Below.refl _ _).alloc (Nat.le_refl _) _)⟩
  case pos =>
    have hop : 0 ≤ op ∧ op < 12 := by simpa using h0
    obtain ⟨k, rfl⟩ := Int.eq_ofNat_of_zero_le hop.1
    have hk : k < 12 := by omega
    have hc := word_laws_yes k hk w hg
    have hkz : 0 ≤ (k : Int) := by omega
    have hkz2 : (k : Int) < 12 := by omega
    have hn := hg.neutrals k hk
    cases hl : (lawOf k).1
    · have HV : Hid (wordNeutral k = (0, 4)) := by unfold Hid wordNeutral; rw [h0]; simp [hl]
      have hl' : (lawOf k) = (false, (lawOf k).2) := by rw [← hl]
      rw [hl'] at hc
      clear h0 hg hop hl hl'
      generalize (lawOf k).2 = l at hc
      obtain ⟨l2, l3⟩ := l
      simp only at hc
      cases l2 <;> cases l3
      all_goals
        go_enter Tryz.func304, Tryz.ntmps304
        go_wp2_with (first | (go_at_call 309; refine hc.mono ?_; rintro e w' ⟨rfl, hb'⟩))
        go_ret2
        rw [HV.out]
        exact ⟨rfl, below_step hb' ((Below.refl _ _).alloc (Nat.le_refl _) _)⟩
    · have HV : Hid (wordNeutral k = (neutralOf k, 0)) := by unfold Hid wordNeutral; rw [h0]; simp [hl]
      have hl' : (lawOf k) = (true, (lawOf k).2) := by rw [← hl]
      rw [hl'] at hc
      clear h0 hg hop hl hl'
      generalize (lawOf k).2 = l at hc
      obtain ⟨l2, l3⟩ := l
      simp only at hc
      cases l2 <;> cases l3
      all_goals
        go_enter Tryz.func304, Tryz.ntmps304
        go_wp2_with (first | (go_at_call 309; refine hc.mono ?_; rintro e w' ⟨rfl, hb'⟩; have hn' := cell_alloc (cell_keep hb' hn)))
        go_ret2
        rw [HV.out]
        exact ⟨rfl, below_step hb' ((Below.refl _ _).alloc (Nat.le_refl _) _)⟩
end Go.Proofs.YtdkcjeaabbkdeaaGreatDoor
end
section
namespace Go.Proofs.YtdkcjeaabbkdeaaGreatDoor
open Go.RowKit
set_option linter.unusedVariables false
set_option linter.unusedSimpArgs false

/-- The first place where something is so. -/
def firstIx {α : Type} (p : α → Bool) : Nat → List α → Int
  | _, [] => -1
  | i, x :: l => if p x then (i : Int) else firstIx p (i + 1) l
theorem firstIx_any {α : Type} (p : α → Bool) (l : List α) : ∀ i, (decide (0 ≤ firstIx p i l)) = l.any p := by
  induction l with
  | nil => intro i; simp [firstIx]
  | cons x l ih =>
    intro i
    unfold firstIx
    cases h : p x
    · simp [ih, h]
    · simp [h]
theorem firstIx_drop {α : Type} (p : α → Bool) (i : Nat) (l : List α) (h : i < l.length) : firstIx p i (l.drop i) = if p l[i] then (i : Int) else firstIx p (i + 1) (l.drop (i + 1)) := by
  rw [List.drop_eq_getElem_cons h]; rfl

/-- What is asked of a function value that is handed to these functions. -/
def Tests {α : Type} (R : World → List Value → α → Prop) (g : FuncId) (cb : Array Value) (p : α → Bool) (w : World) : Prop :=
  (∀ args w, (callFunc g args).run Tryz.prog w = .ok (.enter g args) w) ∧ ∀ u x w1, Below w.heap.size w w1 → R w1 [u] x → Calls Tryz.prog g (#[u] ++ cb) w1 (Gives w1 (.bool (p x)))

set_option maxRecDepth 100000 in
set_option maxHeartbeats 400000 in
theorem indexFunc144 {α : Type} {R : World → List Value → α → Prop} (hR : Stays R) (v : Value) (xs : List α) (g : FuncId) (cb : Array Value) (p : α → Bool) (w : World) (h : Sl 1 R w v xs) (ht : Tests R g cb p w) :
    Calls Tryz.prog 144 #[v, .func (.func g) #[] cb] w (Gives w (.int .i64 (firstIx p 0 xs))) := by
  obtain ⟨hg, hp⟩ := ht
  obtain ⟨A, c, rfl, hm, hc⟩ := h
  have HP := Lib.hid hp; clear hp
  go_enter Tryz.func144, Tryz.ntmps144
  go_wp2
  go_loopw [5, 8] (fun _ i wr => ∃ k : Nat, k ≤ xs.length ∧ i = .int .i64 k ∧ Below w.heap.size w wr ∧ firstIx p 0 xs = firstIx p k (xs.drop k)) (fun _ i _ => xs.length - (intOf i).toNat)
  case atStart => exact ⟨0, Nat.zero_le _, rfl, Below.refl _ _, rfl⟩
  case round =>
    obtain ⟨k, hk, rfl, hb, hf⟩ := hrel
    have HF := Lib.hid hf; clear hf
    by_cases hlt : k < xs.length
    · obtain ⟨b, off, cs, rfl, hl, hcell, hr⟩ := hc k hlt
      obtain ⟨u, rfl⟩ : ∃ u, cs = [u] := by
        match cs, hl with
        | [u], _ => exact ⟨u, rfl⟩
      have hcell' : wr.cell? ⟨b, off + k, none⟩ = some u := cell_later hb (by simpa using hcell 0 (by simp))
      have HR := Lib.hid (hR _ _ _ _ (reads_below hb) hr)
      have HD := Lib.hid (firstIx_drop p k xs hlt)
      clear hc hcell hr hl
      go_wp2_with fail
      refine (HP.out u _ wr hb HR.out).mono ?_
      rintro e w2 ⟨rfl, hb2⟩
      cases hpk : p xs[k]
      · go_wp2
        go_roundw
        case rel => exact ⟨k + 1, hlt, by go_num, below_step hb hb2, by rw [HF.out, HD.out, hpk]; rfl⟩
        case measure => simp [intOf]; omega
      · go_wp2
        go_ret
        exact ⟨by rw [HF.out, HD.out, hpk]; simp, below_step hb hb2⟩
    · clear hc
      go_wp2
      go_ret
      refine ⟨?_, hb⟩
      rw [HF.out, List.drop_eq_nil_of_le (by omega)]; rfl

set_option maxRecDepth 100000 in
theorem containsFunc111 {α : Type} {R : World → List Value → α → Prop} (hR : Stays R) (v : Value) (xs : List α) (g : FuncId) (cb : Array Value) (p : α → Bool) (w : World) (h : Sl 1 R w v xs) (ht : Tests R g cb p w) :
    Calls Tryz.prog 111 #[v, .func (.func g) #[] cb] w (Gives w (.bool (xs.any p))) := by
  have hc := indexFunc144 hR v xs g cb p w h ht
  rw [← firstIx_any p xs 0]
  generalize firstIx p 0 xs = n at hc ⊢
  clear h ht hR
  go_enter Tryz.func111, Tryz.ntmps111
  go_wp2_with (go_at_call 144; refine hc.mono ?_; rintro e w2 ⟨rfl, hb2⟩)
  go_ret
  exact ⟨by simp, hb2⟩

set_option maxRecDepth 100000 in
set_option maxHeartbeats 400000 in
theorem indexFunc303 {α : Type} {R : World → List Value → α → Prop} (hR : Stays R) (v : Value) (xs : List α) (g : FuncId) (cb : Array Value) (p : α → Bool) (w : World) (h : Sl 1 R w v xs) (ht : Tests R g cb p w) :
    Calls Tryz.prog 303 #[v, .func (.func g) #[] cb] w (Gives w (.int .i64 (firstIx p 0 xs))) := by
  obtain ⟨hg, hp⟩ := ht
  obtain ⟨A, c, rfl, hm, hc⟩ := h
  have HP := Lib.hid hp; clear hp
  go_enter Tryz.func303, Tryz.ntmps303
  go_wp2
  go_loopw [5, 8] (fun _ i wr => ∃ k : Nat, k ≤ xs.length ∧ i = .int .i64 k ∧ Below w.heap.size w wr ∧ firstIx p 0 xs = firstIx p k (xs.drop k)) (fun _ i _ => xs.length - (intOf i).toNat)
  case atStart => exact ⟨0, Nat.zero_le _, rfl, Below.refl _ _, rfl⟩
  case round =>
    obtain ⟨k, hk, rfl, hb, hf⟩ := hrel
    have HF := Lib.hid hf; clear hf
    by_cases hlt : k < xs.length
    · obtain ⟨b, off, cs, rfl, hl, hcell, hr⟩ := hc k hlt
      obtain ⟨u, rfl⟩ : ∃ u, cs = [u] := by
        match cs, hl with
        | [u], _ => exact ⟨u, rfl⟩
      have hcell' : wr.cell? ⟨b, off + k, none⟩ = some u := cell_later hb (by simpa using hcell 0 (by simp))
      have HR := Lib.hid (hR _ _ _ _ (reads_below hb) hr)
      have HD := Lib.hid (firstIx_drop p k xs hlt)
      clear hc hcell hr hl
      go_wp2_with fail
      refine (HP.out u _ wr hb HR.out).mono ?_
      rintro e w2 ⟨rfl, hb2⟩
      cases hpk : p xs[k]
      · go_wp2
        go_roundw
        case rel => exact ⟨k + 1, hlt, by go_num, below_step hb hb2, by rw [HF.out, HD.out, hpk]; rfl⟩
        case measure => simp [intOf]; omega
      · go_wp2
        go_ret
        exact ⟨by rw [HF.out, HD.out, hpk]; simp, below_step hb hb2⟩
    · clear hc
      go_wp2
      go_ret
      refine ⟨?_, hb⟩
      rw [HF.out, List.drop_eq_nil_of_le (by omega)]; rfl

set_option maxRecDepth 100000 in
theorem containsFunc284 {α : Type} {R : World → List Value → α → Prop} (hR : Stays R) (v : Value) (xs : List α) (g : FuncId) (cb : Array Value) (p : α → Bool) (w : World) (h : Sl 1 R w v xs) (ht : Tests R g cb p w) :
    Calls Tryz.prog 284 #[v, .func (.func g) #[] cb] w (Gives w (.bool (xs.any p))) := by
  have hc := indexFunc303 hR v xs g cb p w h ht
  rw [← firstIx_any p xs 0]
  generalize firstIx p 0 xs = n at hc ⊢
  clear h ht hR
  go_enter Tryz.func284, Tryz.ntmps284
  go_wp2_with (go_at_call 303; refine hc.mono ?_; rintro e w2 ⟨rfl, hb2⟩)
  go_ret
  exact ⟨by simp, hb2⟩

set_option maxRecDepth 100000 in
set_option maxHeartbeats 400000 in
theorem indexFunc110 {α : Type} {R : World → List Value → α → Prop} (hR : Stays R) (v : Value) (xs : List α) (g : FuncId) (cb : Array Value) (p : α → Bool) (w : World) (h : Sl 1 R w v xs) (ht : Tests R g cb p w) :
    Calls Tryz.prog 110 #[v, .func (.func g) #[] cb] w (Gives w (.int .i64 (firstIx p 0 xs))) := by
  obtain ⟨hg, hp⟩ := ht
  obtain ⟨A, c, rfl, hm, hc⟩ := h
  have HP := Lib.hid hp; clear hp
  go_enter Tryz.func110, Tryz.ntmps110
  go_wp2
  go_loopw [5, 8] (fun _ i wr => ∃ k : Nat, k ≤ xs.length ∧ i = .int .i64 k ∧ Below w.heap.size w wr ∧ firstIx p 0 xs = firstIx p k (xs.drop k)) (fun _ i _ => xs.length - (intOf i).toNat)
  case atStart => exact ⟨0, Nat.zero_le _, rfl, Below.refl _ _, rfl⟩
  case round =>
    obtain ⟨k, hk, rfl, hb, hf⟩ := hrel
    have HF := Lib.hid hf; clear hf
    by_cases hlt : k < xs.length
    · obtain ⟨b, off, cs, rfl, hl, hcell, hr⟩ := hc k hlt
      obtain ⟨u, rfl⟩ : ∃ u, cs = [u] := by
        match cs, hl with
        | [u], _ => exact ⟨u, rfl⟩
      have hcell' : wr.cell? ⟨b, off + k, none⟩ = some u := cell_later hb (by simpa using hcell 0 (by simp))
      have HR := Lib.hid (hR _ _ _ _ (reads_below hb) hr)
      have HD := Lib.hid (firstIx_drop p k xs hlt)
      clear hc hcell hr hl
      go_wp2_with fail
      refine (HP.out u _ wr hb HR.out).mono ?_
      rintro e w2 ⟨rfl, hb2⟩
      cases hpk : p xs[k]
      · go_wp2
        go_roundw
        case rel => exact ⟨k + 1, hlt, by go_num, below_step hb hb2, by rw [HF.out, HD.out, hpk]; rfl⟩
        case measure => simp [intOf]; omega
      · go_wp2
        go_ret
        exact ⟨by rw [HF.out, HD.out, hpk]; simp, below_step hb hb2⟩
    · clear hc
      go_wp2
      go_ret
      refine ⟨?_, hb⟩
      rw [HF.out, List.drop_eq_nil_of_le (by omega)]; rfl

set_option maxRecDepth 100000 in
theorem containsFunc71 {α : Type} {R : World → List Value → α → Prop} (hR : Stays R) (v : Value) (xs : List α) (g : FuncId) (cb : Array Value) (p : α → Bool) (w : World) (h : Sl 1 R w v xs) (ht : Tests R g cb p w) :
    Calls Tryz.prog 71 #[v, .func (.func g) #[] cb] w (Gives w (.bool (xs.any p))) := by
  have hc := indexFunc110 hR v xs g cb p w h ht
  rw [← firstIx_any p xs 0]
  generalize firstIx p 0 xs = n at hc ⊢
  clear h ht hR
  go_enter Tryz.func71, Tryz.ntmps71
  go_wp2_with (go_at_call 110; refine hc.mono ?_; rintro e w2 ⟨rfl, hb2⟩)
  go_ret
  exact ⟨by simp, hb2⟩
end Go.Proofs.YtdkcjeaabbkdeaaGreatDoor
end
section
namespace Go.Proofs.YtdkcjeaabbkdeaaGreatDoor
open Go.RowKit
set_option linter.unusedVariables false
set_option linter.unusedSimpArgs false

/-- A literal list of numbers in a new block. -/
theorem ints_lit (w : World) (xs : List Int) (t : TypeId) (h : xs.length ≤ 9223372036854775807) : Ints (w.alloc (.cells (nums xs).toArray t)) (.slice (some ⟨w.heap.size, 0, none⟩) xs.length xs.length) xs := by
  refine ⟨_, _, rfl, ⟨h, Nat.le_refl _⟩, fun j hj => ⟨w.heap.size, 0, [.int .i64 xs[j]], rfl, rfl, ?_, rfl⟩⟩
  intro i hi
  obtain rfl : i = 0 := by simp at hi; omega
  have hh := World.alloc_heap_new w (.cells (nums xs).toArray t)
  rw [cell_of_heap hh]
  simp [nums, hj]
/-- A literal list of lists in a new block. -/
theorem lists_lit (w : World) (vs : List Value) (ls : List (List Int)) (t : TypeId) (hl : vs.length = ls.length) (hm : ls.length ≤ 9223372036854775807) (h : ∀ j (h1 : j < vs.length) (h2 : j < ls.length), Ints w vs[j] ls[j]) :
    Lists (w.alloc (.cells vs.toArray t)) (.slice (some ⟨w.heap.size, 0, none⟩) ls.length ls.length) ls := by
  refine ⟨_, _, rfl, ⟨hm, Nat.le_refl _⟩, fun j hj => ⟨w.heap.size, 0, [vs[j]'(by omega)], rfl, rfl, ?_, ⟨_, rfl, (h j (by omega) hj).below ((Below.refl _ _).alloc (Nat.le_refl _) _)⟩⟩⟩
  intro i hi
  obtain rfl : i = 0 := by simp at hi; omega
  have hh := World.alloc_heap_new w (.cells vs.toArray t)
  rw [cell_of_heap hh]
  simp [show j < vs.length by omega]
/-- The same, out of blocks from B on. -/
theorem lists_lit_above {B : Nat} (w : World) (vs : List Value) (ls : List (List Int)) (t : TypeId) (hB : B ≤ w.heap.size) (hl : vs.length = ls.length) (hm : ls.length ≤ 9223372036854775807) (h : ∀ j (h1 : j < vs.length) (h2 : j < ls.length), Ints (above B w) vs[j] ls[j]) :
    Lists (above B (w.alloc (.cells vs.toArray t))) (.slice (some ⟨w.heap.size, 0, none⟩) ls.length ls.length) ls := by
  refine ⟨_, _, rfl, ⟨hm, Nat.le_refl _⟩, fun j hj => ⟨w.heap.size, 0, [vs[j]'(by omega)], rfl, rfl, ?_, ⟨_, rfl, (h j (by omega) hj).reads (reads_above_below ((Below.refl _ _).alloc (Nat.le_refl _) _))⟩⟩⟩
  intro i hi
  obtain rfl : i = 0 := by simp at hi; omega
  have hh := World.alloc_heap_new w (.cells vs.toArray t)
  rw [hide_cell _ _ (by simp; exact hB), cell_of_heap hh]
  simp [show j < vs.length by omega]

set_option maxRecDepth 100000 in
theorem prim_unless (b : Bool) (e : Int) (w : World) : Calls Tryz.prog 281 #[.bool b, .int .i64 e] w fun r w' => r = .returned (.int .i64 (if b then 0 else e)) ∧ w = w' := by
  cases b
  all_goals
    go_enter Tryz.func281, Tryz.ntmps281
    go_wp2
    go_ret
    exact ⟨rfl, rfl⟩

set_option maxRecDepth 100000 in
set_option maxHeartbeats 400000 in
/-- 'first' at two errors. -/
theorem prim_first (b : Nat) (x y : Int) (w : World) (h0 : w.cell? ⟨b, 0, none⟩ = some (.int .i64 x)) (h1 : w.cell? ⟨b, 1, none⟩ = some (.int .i64 y)) :
    Calls Tryz.prog 280 #[.slice (some ⟨b, 0, none⟩) 2 2] w fun r w' => r = .returned (.int .i64 (if x ≠ 0 then x else y)) ∧ w = w' := by
  go_enter Tryz.func280, Tryz.ntmps280
  go_wp2
  go_loop [5, 8] (fun _ i => ∃ k : Nat, k ≤ 2 ∧ i = .int .i64 k ∧ (0 < k → x = 0) ∧ (1 < k → y = 0)) (fun _ i => 2 - (intOf i).toNat)
  case atStart => exact ⟨0, by omega, rfl, by omega, by omega⟩
  case round =>
    obtain ⟨k, hk, rfl, hx, hy⟩ := hrel
    have hk' : k = 0 ∨ k = 1 ∨ k = 2 := by omega
    rcases hk' with rfl | rfl | rfl
    · clear hx hy
      by_cases hx : x = 0
      · subst hx
        go_wp2
        go_round
        case rel => exact ⟨1, by omega, rfl, by simp, by omega⟩
        case measure => simp [intOf]
      · have hx' : (x != 0) = true := by simpa using hx
        clear hk
        go_wp2
        go_ret
        exact ⟨by simp [hx], rfl⟩
    · obtain rfl := hx (by omega)
      clear hy hk
      by_cases hy : y = 0
      · subst hy
        go_wp2
        go_round
        case rel => exact ⟨2, by omega, rfl, by simp, by simp⟩
        case measure => simp [intOf]
      · have hy' : (y != 0) = true := by simpa using hy
        go_wp2
        go_ret
        exact ⟨by simp, rfl⟩
    · obtain rfl := hx (by omega)
      obtain rfl := hy (by omega)
      go_wp2
      go_ret
      exact ⟨by simp, rfl⟩

theorem enters292 : Enters Tryz.prog 292 := enters_of Tryz.func292 (by kernel_rfl) rfl
theorem enters293 : Enters Tryz.prog 293 := enters_of Tryz.func293 (by kernel_rfl) rfl
theorem enters294 : Enters Tryz.prog 294 := enters_of Tryz.func294 (by kernel_rfl) rfl

set_option maxRecDepth 100000 in
theorem prim_words1 (l : List Int) (v : Value) (w : World) (h : Ints w v l) : Calls Tryz.prog 292 #[v] w (Gives w (.bool (decide (1048576 < l.length)))) := by
  obtain ⟨A, c, rfl, hm⟩ := h.form
  clear h
  go_enter Tryz.func292, Tryz.ntmps292
  go_wp2
  go_ret
  exact ⟨ret_bool (by rw [decide_eq_decide]; omega), Below.refl _ _⟩
set_option maxRecDepth 100000 in
theorem prim_words21 (n : Int) (w : World) : Calls Tryz.prog 294 #[.int .i64 n] w (Gives w (.bool (!isWord n))) := by
  go_enter Tryz.func294, Tryz.ntmps294
  go_wp2_with (go_at_call 152; refine (word_is _ _).mono ?_; rintro e w' ⟨rfl, rfl⟩)
  go_ret
  exact ⟨rfl, Below.refl _ _⟩
theorem tests294 (w : World) : Tests RInt 294 #[] (fun n => !isWord n) w := ⟨enters294, fun u x w1 _ h => by
  obtain rfl : u = .int .i64 x := by simpa [RInt] using h
  exact prim_words21 x w1⟩
set_option maxRecDepth 100000 in
theorem prim_words2 (l : List Int) (v : Value) (w : World) (h : Ints w v l) : Calls Tryz.prog 293 #[v] w (Gives w (.bool (l.any fun n => !isWord n))) := by
  have hc := containsFunc111 stays_int v l 294 #[] _ w h (tests294 w)
  clear h
  generalize (l.any fun n => !isWord n) = b at hc ⊢
  go_enter Tryz.func293, Tryz.ntmps293
  go_wp2_with (go_at_call 111; refine hc.mono ?_; rintro e w' ⟨rfl, hb⟩)
  go_ret
  exact ⟨rfl, hb⟩
theorem tests292 (w : World) : Tests RInts 292 #[] (fun l => decide (1048576 < l.length)) w := ⟨enters292, fun u x w1 _ ⟨v, hv, h⟩ => by
  obtain rfl : u = v := by simpa using hv
  exact prim_words1 x u w1 h⟩
theorem tests293 (w : World) : Tests RInts 293 #[] (fun l => l.any fun n => !isWord n) w := ⟨enters293, fun u x w1 _ ⟨v, hv, h⟩ => by
  obtain rfl : u = v := by simpa using hv
  exact prim_words2 x u w1 h⟩

/-- The error of lists that are none of words. -/
def wordsErr (ls : List (List Int)) (fit : Bool) : Int :=
  if ls.any (fun l => decide (1048576 < l.length)) then 3 else if ls.any (fun l => l.any fun n => !isWord n) then 2 else if fit then 0 else 6

set_option maxRecDepth 100000 in
set_option maxHeartbeats 400000 in
theorem prim_words (v : Value) (ls : List (List Int)) (fit : Bool) (w : World) (h : Lists w v ls) :
    Calls Tryz.prog 262 #[v, .bool fit] w (Gives w (.int .i64 (wordsErr ls fit))) := by
  have h1 := containsFunc284 stays_ints v ls 292 #[] _ w h (tests292 w)
  have h2 := fun w' (hb : Below w.heap.size w w') => containsFunc284 stays_ints v ls 293 #[] _ w' (h.below hb) (tests293 w')
  have hv : wordsErr ls fit = (if ls.any (fun l => decide (1048576 < l.length)) then 3 else if ls.any (fun l => l.any fun n => !isWord n) then 2 else if fit then 0 else 6) := rfl
  generalize (ls.any fun l => decide (1048576 < l.length)) = p at h1 hv
  generalize (ls.any fun l => l.any fun n => !isWord n) = q at h2 hv
  have HV := Lib.hid hv; clear hv
  have H2 := Lib.hid h2; clear h2
  obtain ⟨A, c, rfl, hm⟩ := h.form
  clear h
  cases p
  · cases q <;> cases fit
    · go_enter Tryz.func262, Tryz.ntmps262
      go_wp2_with fail
      refine h1.mono ?_
      rintro e w1 ⟨rfl, hb1⟩
      go_wp2_with fail
      refine (H2.out _ hb1).mono ?_
      rintro e w2 ⟨rfl, hb2⟩
      go_wp2_with (first | (go_at_call 281; refine (prim_unless _ _ _).mono ?_; rintro e w' ⟨rfl, rfl⟩))
      refine (prim_first _ 0 6 _ (by simp) (by simp)).mono ?_
      rintro e w' ⟨rfl, rfl⟩
      go_wp2_with fail
      go_ret
      exact ⟨by rw [HV.out]; simp, (below_step hb1 hb2).alloc (below_step hb1 hb2).size _⟩
    · go_enter Tryz.func262, Tryz.ntmps262
      go_wp2_with fail
      refine h1.mono ?_
      rintro e w1 ⟨rfl, hb1⟩
      go_wp2_with fail
      refine (H2.out _ hb1).mono ?_
      rintro e w2 ⟨rfl, hb2⟩
      go_wp2_with (first | (go_at_call 281; refine (prim_unless _ _ _).mono ?_; rintro e w' ⟨rfl, rfl⟩))
      refine (prim_first _ 0 0 _ (by simp) (by simp)).mono ?_
      rintro e w' ⟨rfl, rfl⟩
      go_wp2_with fail
      go_ret
      exact ⟨by rw [HV.out]; simp, (below_step hb1 hb2).alloc (below_step hb1 hb2).size _⟩
    · go_enter Tryz.func262, Tryz.ntmps262
      go_wp2_with fail
      refine h1.mono ?_
      rintro e w1 ⟨rfl, hb1⟩
      go_wp2_with fail
      refine (H2.out _ hb1).mono ?_
      rintro e w2 ⟨rfl, hb2⟩
      go_wp2_with (first | (go_at_call 281; refine (prim_unless _ _ _).mono ?_; rintro e w' ⟨rfl, rfl⟩))
      refine (prim_first _ 2 6 _ (by simp) (by simp)).mono ?_
      rintro e w' ⟨rfl, rfl⟩
      go_wp2_with fail
      go_ret
      exact ⟨by rw [HV.out]; simp, (below_step hb1 hb2).alloc (below_step hb1 hb2).size _⟩
    · go_enter Tryz.func262, Tryz.ntmps262
      go_wp2_with fail
      refine h1.mono ?_
      rintro e w1 ⟨rfl, hb1⟩
      go_wp2_with fail
      refine (H2.out _ hb1).mono ?_
      rintro e w2 ⟨rfl, hb2⟩
      go_wp2_with (first | (go_at_call 281; refine (prim_unless _ _ _).mono ?_; rintro e w' ⟨rfl, rfl⟩))
      refine (prim_first _ 2 0 _ (by simp) (by simp)).mono ?_
      rintro e w' ⟨rfl, rfl⟩
      go_wp2_with fail
      go_ret
      exact ⟨by rw [HV.out]; simp, (below_step hb1 hb2).alloc (below_step hb1 hb2).size _⟩
  · go_enter Tryz.func262, Tryz.ntmps262
    go_wp2_with fail
    refine h1.mono ?_
    rintro e w1 ⟨rfl, hb1⟩
    go_wp2_with fail
    go_ret
    exact ⟨by rw [HV.out]; rfl, hb1⟩
theorem wordsErr_zero {ls : List (List Int)} {fit : Bool} (h : wordsErr ls fit = 0) : (∀ l ∈ ls, l.length ≤ 1048576) ∧ (∀ l ∈ ls, ∀ n ∈ l, isWord n = true) ∧ fit = true := by
  unfold wordsErr at h
  split at h
  · simp at h
  · rename_i h1
    split at h
    · simp at h
    · rename_i h2
      split at h
      · rename_i h3
        refine ⟨fun l hl => ?_, fun l hl n hn => ?_, h3⟩
        · simp only [List.any_eq_true, decide_eq_true_eq, not_exists, not_and, Nat.not_lt] at h1
          exact h1 l hl
        · simp only [List.any_eq_true, Bool.not_eq_true', not_exists, not_and, Bool.not_eq_false] at h2
          exact h2 l hl n hn
      · simp at h

end Go.Proofs.YtdkcjeaabbkdeaaGreatDoor
end
section
namespace Go.Proofs.YtdkcjeaabbkdeaaGreatDoor
open Go.RowKit
set_option linter.unusedVariables false
set_option linter.unusedSimpArgs false

theorem stable_glob : Stable Glob := fun _ _ h hb => h.below hb

/-- What an operation makes of two lists, place by place. -/
def binAt (op : Int) (a b : List Int) (i : Nat) : Int × Bool := ((wordDo op (a.getD i 0) (b.getD i 0)).1, (wordDo op (a.getD i 0) (b.getD i 0)).2 == 0)

set_option maxRecDepth 100000 in
set_option maxHeartbeats 800000 in
theorem prim_bin1 (op : Int) (a b : List Int) (p1 p2 p3 : Nat) (va vb : Value) (i : Nat) (w : World) (hg : Glob w) (h1 : w.cell? ⟨p1, 0, none⟩ = some (.int .i64 op)) (h2 : w.cell? ⟨p2, 0, none⟩ = some va) (h3 : w.cell? ⟨p3, 0, none⟩ = some vb)
    (ha : Ints w va a) (hb : Ints w vb b) (hia : i < a.length) (hib : i < b.length) :
    Calls Tryz.prog 266 #[.int .i64 i, .pointer (some ⟨p1, 0, none⟩), .pointer (some ⟨p2, 0, none⟩), .pointer (some ⟨p3, 0, none⟩)] w (Gives w (.tuple #[.int .i64 (binAt op a b i).1, .bool (binAt op a b i).2])) := by
  obtain ⟨A, ca, rfl, hma⟩ := ha.form
  obtain ⟨B, cb, rfl, hmb⟩ := hb.form
  obtain ⟨ba, oa, rfl, hca⟩ := ha.at_ i hia
  obtain ⟨bb, ob, rfl, hcb⟩ := hb.at_ i hib
  have hv : binAt op a b i = ((wordDo op a[i] b[i]).1, (wordDo op a[i] b[i]).2 == 0) := by simp [binAt, hia, hib]
  rw [hv]
  have hdo := fun w' (hg' : Glob w') => word_do op a[i] b[i] w' hg'
  generalize wordDo op a[i] b[i] = r at hdo ⊢
  generalize a[i] = x at hca hdo
  generalize b[i] = y at hcb hdo
  obtain ⟨r1, r2⟩ := r
  simp only at hdo ⊢
  have HD := Lib.hid hdo; clear hdo
  have hst := stable_and stable_glob (stable_and (stable_below w) (stable_and (stable_cell ⟨p1, 0, none⟩ (.int .i64 op)) (stable_and (stable_cell ⟨p2, 0, none⟩ (.slice (some ⟨ba, oa, none⟩) a.length ca)) (stable_and (stable_cell ⟨p3, 0, none⟩ (.slice (some ⟨bb, ob, none⟩) b.length cb))
    (stable_and (stable_cell ⟨ba, oa + i, none⟩ (.int .i64 x)) (stable_cell ⟨bb, ob + i, none⟩ (.int .i64 y)))))))
  have hi0 : (0 : Int) ≤ (i : Int) := by omega
  have hia' : (i : Int) < (a.length : Int) := by omega
  have hib' : (i : Int) < (b.length : Int) := by omega
  clear ha hb hv
  go_enter Tryz.func266, Tryz.ntmps266
  go_wp2
  go_region_held3 (fun W => Glob W ∧ Below w.heap.size w W ∧ W.cell? ⟨p1, 0, none⟩ = some (.int .i64 op) ∧ W.cell? ⟨p2, 0, none⟩ = some (.slice (some ⟨ba, oa, none⟩) a.length ca) ∧ W.cell? ⟨p3, 0, none⟩ = some (.slice (some ⟨bb, ob, none⟩) b.length cb) ∧ W.cell? ⟨ba, oa + i, none⟩ = some (.int .i64 x) ∧ W.cell? ⟨bb, ob + i, none⟩ = some (.int .i64 y))
    (first | assumption | exact hst _ _ (by assumption) (by assumption) | exact hst w _ ⟨hg, Below.refl _ _, h1, h2, h3, hca, hcb⟩ (below_drew _)) (first | (go_at_call 267; refine (HD.out _ (show Glob _ ∧ _ by assumption).1).mono ?_; rintro e w' ⟨rfl, hb'⟩))
  go_wp2
  go_ret2
  rename_i hh
  exact ⟨rfl, hh.2.1⟩

def primBin (op : Int) (a b : List Int) : List Int × Int :=
  if !(decide (0 ≤ op) && decide (op < 12)) then ([], 1)
  else if wordsErr [a, b] (a.length == b.length) ≠ 0 then ([], wordsErr [a, b] (a.length == b.length))
  else allOf (binAt op a b) a.length

theorem enters266 : Enters Tryz.prog 266 := enters_of Tryz.func266 (by kernel_rfl) rfl

set_option maxRecDepth 100000 in
set_option maxHeartbeats 800000 in
theorem prim_bin (op : Int) (a b : List Int) (va vb : Value) (w : World) (hg : Glob w) (ha : Ints w va a) (hb : Ints w vb b) :
    Calls Tryz.prog 223 #[.int .i64 op, va, vb] w (GivesList w (primBin op a b)) := by
  obtain ⟨A, ca, rfl, hma⟩ := ha.form
  obtain ⟨B, cb, rfl, hmb⟩ := hb.form
  by_cases h0 : (decide (0 ≤ op) && decide (op < 12)) = true
  case neg =>
    have h0' : (decide (0 ≤ op) && decide (op < 12)) = false := by simpa using h0
    have HV : Hid (primBin op a b = ([], 1)) := by unfold Hid primBin; rw [h0']; rfl
    have h1 : op < 0 ∨ 0 ≤ op ∧ 12 ≤ op := by simp at h0'; omega
    clear h0 h0' ha hb hg
    rcases h1 with h1 | ⟨h1, h2⟩
    all_goals
      go_enter Tryz.func223, Tryz.ntmps223
      go_wp2_with fail
      go_ret2
      rw [HV.out]
      exact ⟨_, rfl, ints_nil _ _ _, ((((Below.refl _ w).alloc (Nat.le_refl _) _).alloc (by simp) _).alloc (by simp; omega) _)⟩
  case pos =>
    have hop : 0 ≤ op ∧ op < 12 := by simpa using h0
    obtain ⟨hop1, hop2⟩ := hop
    have hlists : ∀ w' o n, w'.heap.size = n → Below w.heap.size w w' → Lists (w'.alloc (.cells #[.slice A a.length ca, .slice B b.length cb] o)) (.slice (some ⟨n, 0, none⟩) 2 2) [a, b] := fun w' o n hn hw' => by
      subst hn
      exact lists_lit w' [.slice A a.length ca, .slice B b.length cb] [a, b] o rfl (by simp) (fun j h1 h2 => by
        have hj : j = 0 ∨ j = 1 := by simp at h1; omega
        rcases hj with rfl | rfl
        · exact ha.below hw'
        · exact hb.below hw')
    have HL := Lib.hid hlists; clear hlists
    have HQ : Hid (((a.length : Int) == (b.length : Int)) = (a.length == b.length)) := len_beq _ _
    by_cases he : wordsErr [a, b] (a.length == b.length) = 0
    · have HV : Hid (primBin op a b = allOf (binAt op a b) a.length) := by unfold Hid primBin; rw [h0, he]; rfl
      obtain ⟨hlen, hw, hfit⟩ := wordsErr_zero he
      have hl1 : a.length ≤ 1048576 := hlen a (by simp)
      have hl2 : a.length = b.length := by simpa using hfit
      have HA := Lib.hid ha
      have HB := Lib.hid hb
      have HG := Lib.hid hg
      have HE := Lib.hid he
      have HF := Lib.hid hl2
      clear ha hb hg he hlen hw hfit h0 hl2
      go_enter Tryz.func223, Tryz.ntmps223
      go_wp2_with fail
      refine (prim_words _ [a, b] _ _ (HL.out _ _ _ (by simp) (below3 _ _ _ _))).mono ?_
      rintro e w1 ⟨rfl, hb1⟩
      rw [HQ.out, HE.out]
      have hb2 := Lib.hid (below_step (below4 _ _ _ _ _) hb1)
      have c1' : w1.cell? ⟨w.heap.size, 0, none⟩ = some (.int .i64 op) := cell_keep hb1 (by simp [go_sem])
      have c2' : w1.cell? ⟨w.heap.size + 1, 0, none⟩ = some (.slice A a.length ca) := cell_keep hb1 (by simp [go_sem])
      have c3' : w1.cell? ⟨w.heap.size + 1 + 1, 0, none⟩ = some (.slice B b.length cb) := cell_keep hb1 (by simp [go_sem])
      have c1 := Lib.hid c1'
      have c2 := Lib.hid c2'
      have c3 := Lib.hid c3'
      clear hb1 c1' c3'
      go_wp2_with fail
      refine (prim_all 266 #[.pointer (some ⟨w.heap.size, 0, none⟩), .pointer (some ⟨w.heap.size + 1, 0, none⟩), .pointer (some ⟨w.heap.size + 1 + 1, 0, none⟩)] (binAt op a b) a.length w1 (by omega) enters266 (fun i w' hi hb' => prim_bin1 op a b _ _ _ _ _ i w' ((HG.out.below hb2.out).below hb') (cell_keep hb' c1.out) (cell_keep hb' c2.out) (cell_keep hb' c3.out) ((HA.out.below hb2.out).below hb') ((HB.out.below hb2.out).below hb') hi (by rw [← HF.out]; exact hi))).mono ?_
      rintro e w2 ⟨v, rfl, hv, hb3⟩
      go_wp2_with fail
      go_ret2
      rw [HV.out]
      exact ⟨v, rfl, hv.reads (reads_above _ hb2.out.size), below_step hb2.out hb3⟩
    · have HV : Hid (primBin op a b = ([], wordsErr [a, b] (a.length == b.length))) := by unfold Hid primBin; rw [h0]; simp [he]
      have hne : (wordsErr [a, b] (a.length == b.length) != 0) = true := by simpa using he
      clear ha hb hg he h0
      go_enter Tryz.func223, Tryz.ntmps223
      go_wp2_with fail
      refine (prim_words _ [a, b] _ _ (HL.out _ _ _ (by simp) (below3 _ _ _ _))).mono ?_
      rintro e w1 ⟨rfl, hb1⟩
      rw [HQ.out]
      have hb2 := Lib.hid (below_step (below4 _ _ _ _ _) hb1)
      clear hb1
      go_wp2_with fail
      go_ret2
      rw [HV.out]
      exact ⟨_, rfl, ints_nil _ _ _, hb2.out⟩

def primLen (a : List Int) : List Int × Int := if wordsErr [a] true ≠ 0 then ([], wordsErr [a] true) else ([(a.length : Int)], 0)

set_option maxRecDepth 100000 in
set_option maxHeartbeats 400000 in
theorem prim_len (a : List Int) (va : Value) (w : World) (ha : Ints w va a) : Calls Tryz.prog 240 #[va] w (GivesList w (primLen a)) := by
  obtain ⟨A, ca, rfl, hma⟩ := ha.form
  have hl : Lists (w.alloc (.cells #[.slice A a.length ca] 22)) (.slice (some ⟨w.heap.size, 0, none⟩) 1 1) [a] :=
    lists_lit w [.slice A a.length ca] [a] 22 rfl (by simp) (fun j h1 h2 => by
      obtain rfl : j = 0 := by simp at h1; omega
      exact ha)
  have HL := Lib.hid hl; clear hl ha
  by_cases he : wordsErr [a] true = 0
  · have HV : Hid (primLen a = ([(a.length : Int)], 0)) := by unfold Hid primLen; rw [he]; rfl
    have HE := Lib.hid he; clear he
    go_enter Tryz.func240, Tryz.ntmps240
    go_wp2_with fail
    refine (prim_words _ [a] _ _ HL.out).mono ?_
    rintro e w1 ⟨rfl, hb1⟩
    rw [HE.out]
    have hb2 := Lib.hid (below_step (below1 _ _) hb1)
    clear hb1
    go_wp2_with fail
    go_ret2
    rw [HV.out]
    exact ⟨_, rfl, ints_above (ints_lit w1 [(a.length : Int)] 3 (by simp)) (fun a ha => by cases ha; exact hb2.out.size), below_step hb2.out (below1 _ _)⟩
  · have HV : Hid (primLen a = ([], wordsErr [a] true)) := by unfold Hid primLen; simp [he]
    have hne : (wordsErr [a] true != 0) = true := by simpa using he
    clear he
    go_enter Tryz.func240, Tryz.ntmps240
    go_wp2_with fail
    refine (prim_words _ [a] _ _ HL.out).mono ?_
    rintro e w1 ⟨rfl, hb1⟩
    have hb2 := Lib.hid (below_step (below1 _ _) hb1)
    clear hb1
    go_wp2_with fail
    go_ret2
    rw [HV.out]
    exact ⟨_, rfl, ints_nil _ _ _, hb2.out⟩
end Go.Proofs.YtdkcjeaabbkdeaaGreatDoor
end
