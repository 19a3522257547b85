/- The law ProfDiffs: lists that numbers make. -/
import Derived.Test.YtdkcjeaabbkdeaaGreatDoorZOwN
import Derived.Test.YtdkcjeaabbkdeaaGreatDoorZProfA
import Derived.Test.YtdkcjeaabbkdeaaGreatDoorZMapF
import Derived.Deep.CutRange
set_option linter.unusedVariables false
set_option linter.unusedSimpArgs false
set_option linter.unnecessarySimpa false
set_option linter.unusedSectionVars false
namespace Go.Proofs.YtdkcjeaabbkdeaaGreatDoor
open Go.RowKit Go.Shelf
set_option linter.unusedVariables false
set_option linter.unusedSimpArgs false
theorem turn_is (n m : Int) (hm : 1 ≤ m) : n % m = if n.tmod m < 0 then n.tmod m + m else n.tmod m := by
  rw [Int.emod_eq_tmod]
  by_cases h : 0 ≤ n ∨ m ∣ n
  · rw [if_pos h, if_neg]
    · omega
    · rcases h with h | h
      · have := Int.tmod_nonneg m h; omega
      · rw [Int.tmod_eq_zero_of_dvd h]; omega
  · rw [if_neg h]
    have h1 : n < 0 := by omega
    have h2 : ¬ m ∣ n := fun e => h (.inr e)
    have h3 : n.tmod m ≠ 0 := fun e => h2 (Int.dvd_of_tmod_eq_zero e)
    have h4 : n.tmod m ≤ 0 := by
      have := Int.tmod_nonneg m (a := -n) (by omega)
      rw [Int.neg_tmod] at this; omega
    rw [if_pos (by omega)]
    omega
theorem tmod_bounds (n m : Int) (hm : 1 ≤ m) : -m ≤ n.tmod m ∧ n.tmod m < m := by
  have h := turn_is n m hm
  have h1 := Int.emod_nonneg n (show m ≠ 0 by omega)
  have h2 := Int.emod_lt_of_pos n (show 0 < m by omega)
  split at h <;> omega
set_option maxRecDepth 100000 in
theorem law_turn (n m : Int) (hn : inInt n) (hm : 1 ≤ m) (hm2 : m ≤ 4611686018427387904) (w : World) : Calls Tryz.prog 36 #[.int .i64 n, .int .i64 m] w fun e w' => e = .returned (.int .i64 (n % m)) ∧ w' = w := by
  have hb := tmod_bounds n m hm
  have HT := Lib.hid (turn_is n m hm)
  have h1 : ¬ m < 1 := by omega
  have h0 : ¬ m = 0 := by omega
  unfold inInt at hn
  go_enter Tryz.func36, Tryz.ntmps36
  by_cases hneg : n.tmod m < 0
  · have e := HT.out
    rw [if_pos hneg] at e
    rw [e]
    go_wp2_with fail
    go_ret
    exact ⟨rfl, rfl⟩
  · have e := HT.out
    rw [if_neg hneg] at e
    rw [e]
    go_wp2_with fail
    go_ret
    exact ⟨rfl, rfl⟩
theorem someK_at {L : List Int} {k : Nat} (hk : k ≤ someK L) : (3 * k + 2 < L.length ∧ k < 20) ↔ k < someK L := by unfold someK at *; omega
set_option maxRecDepth 100000 in
set_option maxHeartbeats 2000000 in
theorem law_some (L : List Int) (v : Value) (w : World) (hl : Ints w v L) (hin : ∀ x ∈ L, inInt x) : Calls Tryz.prog 40 #[v] w fun e w' => RowKit.Below w.heap.size w w' ∧ ∃ v', e = .returned v' ∧ Ow w.heap.size w' v' (someL L (someK L)) := by
  obtain ⟨A, ac, rfl, hmx⟩ := hl.form
  have HL := Lib.hid hl
  have HIn := Lib.hid hin
  clear hl hin
  go_enter Tryz.func40, Tryz.ntmps40
  go_wp2_with fail
  have HO1 := Lib.hid (ow_empty w.heap.size w (Nat.le_refl _))
  have HB1 := Lib.hid ((RowKit.Below.refl w.heap.size w).alloc (Nat.le_refl _) (.cells #[] 73))
  generalize hw1 : w.alloc (.cells #[] 73) = w1 at *
  clear hw1
  go_loopw [3, 4, 5] (fun v at_ i wr => ∃ k m : Nat, m = 3 * k ∧ k ≤ someK L ∧ i = .int .i64 (m : Int) ∧ at_ = .int .i64 (someAt L k) ∧ RowKit.Below w.heap.size w wr ∧ Ow w.heap.size wr v (someL L k)) (fun _ _ i _ => 63 - (intOf i).toNat)
  case atStart => exact ⟨0, 0, rfl, Nat.zero_le _, rfl, rfl, HB1.out, HO1.out⟩
  case round =>
  obtain ⟨k, m, hmk, hk, rfl, rfl, hb, hown⟩ := hrel
  have HB := Lib.hid hb
  have HO := Lib.hid hown
  have hbd := someAt_bounds L k
  have hk20 : k ≤ 20 := by unfold someK at hk; omega
  have hk3 : 3 * k ≤ L.length := by unfold someK at hk; omega
  have HAt1 : Hid (someAt L (k + 1) = someAt L k + (1 + L.getD (3 * k) 0 % 3)) := rfl
  have HSn : Hid (someN L k = ⟨someAt L (k + 1), L.getD (3 * k + 1) 0 % 5, L.getD (3 * k + 2) 0 % 50, L.getD (3 * k + 2) 0 % 7⟩) := rfl
  have HSl := Lib.hid (someL_snoc L k)
  have HMK := Lib.hid hmk
  clear hb hown HO1 HB1
  by_cases hlt : k < someK L
  case neg =>
    have hke : k = someK L := by omega
    have HKe := Lib.hid hke
    by_cases h1 : (m : Int) + 2 < (L.length : Int)
    · have h2 : ¬ (m : Int) < 60 := by have := mt (someK_at hk).1 hlt; omega
      clear hbd HAt1 HSn HSl hke hlt
      go_wp2_with fail
      go_ret
      exact ⟨HB.out, _, rfl, by rw [← HKe.out]; exact HO.out⟩
    · clear hbd HAt1 HSn HSl hke hlt
      go_wp2_with fail
      go_ret
      exact ⟨HB.out, _, rfl, by rw [← HKe.out]; exact HO.out⟩
  case pos =>
    obtain ⟨h3, h4⟩ := (someK_at hk).2 hlt
    have h1 : (m : Int) + 2 < (L.length : Int) := by omega
    have h2 : (m : Int) < 60 := by omega
    have hm0 : (0 : Int) ≤ (m : Int) := by omega
    have hm1 : (m : Int) < (L.length : Int) := by omega
    obtain ⟨b, off, rfl, c0⟩ := HL.out.at_ m (by omega)
    obtain ⟨b1, off1, e1, c1⟩ := HL.out.at_ (m + 1) (by omega)
    cases e1
    obtain ⟨b2, off2, e2, c2⟩ := HL.out.at_ (m + 2) (by omega)
    cases e2
    have hx0 := HIn.out _ (List.getElem_mem (show m < L.length by omega))
    have hx1 := HIn.out _ (List.getElem_mem (show m + 1 < L.length by omega))
    have hx2 := HIn.out _ (List.getElem_mem (show m + 2 < L.length by omega))
    have g0 : L.getD (3 * k) 0 = L[m] := by rw [← hmk, List.getD_eq_getElem?_getD, List.getElem?_eq_getElem (by omega)]; rfl
    have g1 : L.getD (3 * k + 1) 0 = L[m + 1] := by rw [← hmk, List.getD_eq_getElem?_getD, List.getElem?_eq_getElem (by omega)]; rfl
    have g2 : L.getD (3 * k + 2) 0 = L[m + 2] := by rw [← hmk, List.getD_eq_getElem?_getD, List.getElem?_eq_getElem (by omega)]; rfl
    rw [g0] at HAt1
    rw [g1, g2] at HSn
    generalize L[m] = x0 at *
    generalize L[m + 1] = x1 at *
    generalize L[m + 2] = x2 at *
    have HS := Lib.hid (fun W (h : RowKit.Below w.heap.size w W) => And.intro (cell_keep h c1) (cell_keep h c2))
    have c0' := cell_keep HB.out c0
    have HT0 := Lib.hid (fun W => law_turn x0 3 hx0 (by omega) (by omega) W)
    have HT1 := Lib.hid (fun W => law_turn x1 5 hx1 (by omega) (by omega) W)
    have HT2 := Lib.hid (fun W => law_turn x2 50 hx2 (by omega) (by omega) W)
    have HT3 := Lib.hid (fun W => law_turn x2 7 hx2 (by omega) (by omega) W)
    have hr0 : 0 ≤ x0 % 3 ∧ x0 % 3 < 3 := by omega
    clear c0 c1 c2 g0 g1 g2 hx0 hx1 hx2 hmk
    go_wp2_with fail
    refine (HT0.out _).mono ?_
    rintro e w2 ⟨rfl, rfl⟩
    have a1 : IntKind.i64.wrap ((m : Int) + 1) = (m : Int) + 1 := IntWalk.i64_in _ (by omega)
    have a2 : IntKind.i64.wrap ((m : Int) + 2) = (m : Int) + 2 := IntWalk.i64_in _ (by omega)
    have b1 : ((m : Int) + 1).toNat = m + 1 := by omega
    have b2 : ((m : Int) + 2).toNat = m + 2 := by omega
    have d1 : (0 : Int) ≤ (m : Int) + 1 := by omega
    have d2 : (0 : Int) ≤ (m : Int) + 2 := by omega
    have d3 : (m : Int) + 1 < (L.length : Int) := by omega
    have d4 : ¬ ((m : Int) + 1 < 0) := by omega
    have d5 : ¬ ((m : Int) + 2 < 0) := by omega
    have d6 : ¬ ((L.length : Int) ≤ (m : Int) + 1) := by omega
    have d7 : ¬ ((L.length : Int) ≤ (m : Int) + 2) := by omega
    go_upto_region 6 with (fail)
    have HA : Hid (someN L k = ⟨someAt L k + (1 + x0 % 3), x1 % 5, x2 % 50, x2 % 7⟩) := by unfold Hid; rw [HSn.out, HAt1.out]
    have HNew : Hid (someL L (k + 1) = someL L k ++ [⟨someAt L k + (1 + x0 % 3), x1 % 5, x2 % 50, x2 % 7⟩]) := by unfold Hid; rw [HSl.out, HA.out]
    have HAt : Hid (someAt L (k + 1) = someAt L k + (1 + x0 % 3)) := HAt1.out
    generalize someAt L k + (1 + x0 % 3) = a at *
    have HNd := Lib.hid (fun W => law_node a (x1 % 5) (x2 % 50) (x2 % 7) W)
    simp only [nodeCells] at HNd
    have HLn : Hid ((someL L k).length ≤ 20) := by unfold Hid; rw [someL_length]; exact hk20
    clear c0' hr0 HT0 HSl HSn HA HAt1 hbd
    generalize x1 % 5 = y1 at *
    generalize x2 % 50 = y2 at *
    generalize x2 % 7 = y3 at *
    go_region_held3 (fun W => W.cell? ⟨b, off + (m + 1), none⟩ = some (.int .i64 x1) ∧ W.cell? ⟨b, off + (m + 2), none⟩ = some (.int .i64 x2)) (first | exact hHeld | exact HS.out _ (HB.out.drew) | exact HS.out _ HB8.out | exact HS.out _ (HB8.out.alloc HB8.out.size _) | exact HS.out _ HB9.out)
      (first
        | (go_at_call_of 36 (Value.int IntKind.i64 5); refine (HT1.out _).mono ?_; rintro e w6 ⟨rfl, rfl⟩)
        | (go_at_call_of 36 (Value.int IntKind.i64 50); refine (HT2.out _).mono ?_; rintro e w6 ⟨rfl, rfl⟩)
        | (go_at_call_of 36 (Value.int IntKind.i64 7); refine (HT3.out _).mono ?_; rintro e w6 ⟨rfl, rfl⟩)
        | (go_at_call 42; refine (HNd.out _).mono ?_; rintro e w8 ⟨rfl, hb8⟩; have HBW8 := Lib.hid (below_step (below_drew w2) hb8); have HB8 := Lib.hid (HB.out.trans (HBW8.out.mono HB.out.size)); clear hb8)
        | (refine step_app rfl _ _ rfl (R := w) u3 (someL L k) [⟨a, y1, y2, y3⟩] rfl ((HO.out.below HBW8.out).alloc _) (HB8.out.alloc HB8.out.size _) ⟨w8.heap.size, 0, none⟩ 1 1 rfl rfl (news_block (alloc_new w8 _)) (by have := HLn.out; omega) ?_; intro v9 w9 hO9 hb9 hk9 ho9; have HO9 := Lib.hid hO9; have HB9 := Lib.hid hb9; clear hO9 hb9 hk9 ho9))
    go_wp2_with fail
    go_roundw
    case rel => exact ⟨k + 1, m + 3, by have := HMK.out; omega, hlt, by go_num, by rw [HAt.out], HB9.out, by rw [HNew.out]; exact HO9.out⟩
    case measure => simp [intOf]; omega
end Go.Proofs.YtdkcjeaabbkdeaaGreatDoor
