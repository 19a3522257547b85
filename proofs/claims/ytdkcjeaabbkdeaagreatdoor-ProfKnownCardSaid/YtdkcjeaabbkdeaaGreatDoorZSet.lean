/- Package prim: set, the iterator over flags; the operations that go by it. Package scan: the joiner of an operation, words, cut. -/
import Derived.Test.YtdkcjeaabbkdeaaGreatDoorZRng
import Derived.Test.YtdkcjeaabbkdeaaGreatDoorZWord
set_option linter.unusedVariables false
set_option linter.unusedSimpArgs false
set_option linter.unnecessarySimpa false
set_option linter.unusedSectionVars false
section
namespace Go.Proofs.YtdkcjeaabbkdeaaGreatDoor
open Go.RowKit Go.Shelf
set_option linter.unusedVariables false
set_option linter.unusedSimpArgs false
attribute [local go_sem] Oper.semAt_some

theorem enters296 : Enters Tryz.prog 296 := enters_of Tryz.func296 (by kernel_rfl) rfl
set_option maxRecDepth 100000 in
theorem prim_set (A : Option Addr) (n c : Nat) (w : World) : Calls Tryz.prog 269 #[.slice A n c] w fun e w' => e = .returned (.func (.func 296) #[] #[.pointer (some ⟨w.heap.size, 0, none⟩)]) ∧ w' = w.alloc (.cells #[.slice A n c] 22) := by
  go_enter Tryz.func269, Tryz.ntmps269
  go_wp2
  go_ret
  exact ⟨rfl, rfl⟩

set_option maxRecDepth 100000 in
set_option maxHeartbeats 800000 in
theorem set_iter (l p : Nat) (fs : List Int) (v : Value)
    (J : Nat → World → Prop) (Jx : World → Prop) (Jp : List PanicEntry → World → Prop) (hJ : ∀ i W, J i W → Ints W v fs)
    (hY : ∀ i W (hi : i < fs.length), J i W → YieldAt Fence.wide 5 Tryz.prog l #[.int .i64 i, .bool (fs[i] != 0)] W fun e W' => (e = .returned (.bool true) ∧ J (i + 1) W') ∨ (e = .returned (.bool false) ∧ Jx W') ∨ ∃ c, e = .panicked c ∧ Jp c W')
    (W1 : World) (hc1 : W1.cell? ⟨p, 0, none⟩ = some v) (h0 : J 0 W1) :
    Calls Tryz.prog 296 #[.func (.yield l) #[] #[], .pointer (some ⟨p, 0, none⟩)] W1 fun e W' => ((∃ v, e = .returned v) ∧ (J fs.length W' ∨ Jx W')) ∨ ∃ c, e = .panicked c ∧ Jp c W' := by
  obtain ⟨A, c, rfl, hm⟩ := (hJ _ _ h0).form
  have HY := Lib.hid hY; clear hY
  have HJ := Lib.hid hJ; clear hJ
  have H0 := Lib.hid h0; clear h0
  refine (callsIn_wide (n := 6)).1 (callsIn_of_wp Tryz.func296 rfl trivial ?_)
  simp only [Tryz.ntmps296, List.size_toArray, List.length_cons, List.length_nil, Nat.reduceAdd, Nat.reduceSub, Array.replicate_succ, Array.replicate_zero, List.push_toArray, List.append_toArray, List.nil_append, List.cons_append]
  gi_wp2
  gi_loopw [3, 4, 7] (fun _ _ i wr => ∃ k : Nat, k ≤ fs.length ∧ i = .int .i64 k ∧ J k wr) (fun _ _ i _ => fs.length - (intOf i).toNat)
  case atStart => exact ⟨0, Nat.zero_le _, rfl, H0.out⟩
  case round =>
    obtain ⟨k, hk, rfl, hj⟩ := hrel
    have HJk := Lib.hid hj; clear hj
    by_cases hlt : k < fs.length
    · obtain ⟨b, off, rfl, hcell'⟩ := (HJ.out _ _ HJk.out).at_ k hlt
      obtain ⟨fn, tmps, assign, body, hy, hR⟩ := HY.out k wr hlt HJk.out
      have HR := Lib.hid hR; clear hR hc1
      gi_wp2
      refine HR.out.mono ?_
      rintro e W3 (⟨rfl, hJ3⟩ | ⟨rfl, hJx⟩ | ⟨ch, rfl, hJp⟩)
      · have HJ3 := Lib.hid hJ3; clear hJ3 hcell' hy
        gi_wp2
        go_roundw
        case rel => exact ⟨k + 1, hlt, by go_num, HJ3.out⟩
        case measure => simp [intOf]; omega
      · have HJ3 := Lib.hid hJx; clear hJx hcell' hy
        gi_wp2
        refine bodyPost_ret (results_none rfl _ _ _) rfl ?_
        exact .inl ⟨⟨_, rfl⟩, .inr HJ3.out⟩
      · exact ⟨rfl, .inr ⟨ch, rfl, hJp⟩⟩
    · obtain rfl : k = fs.length := by omega
      clear hc1
      gi_wp2
      go_end0
      exact .inl ⟨⟨_, rfl⟩, .inl HJk.out⟩

theorem followsMixed : Tryz.prog.follows .mixedOrders = true := by kernel_rfl
/-- The words that are flagged. -/
def packed (fs a : List Int) (k : Nat) : List Int := ((List.range k).filter fun i => fs.getD i 0 != 0).map fun i => a.getD i 0
theorem packed_le (fs a : List Int) (k : Nat) : (packed fs a k).length ≤ k := by
  unfold packed
  rw [List.length_map]
  exact Nat.le_trans (List.length_filter_le _ _) (by simp)
theorem packed_yes {fs a : List Int} {k : Nat} (h : k < fs.length) (ha : k < a.length) (hf : ¬ fs[k] = 0) : packed fs a (k + 1) = packed fs a k ++ [a[k]] := by
  unfold packed
  rw [List.range_succ, List.filter_append, List.map_append]
  simp [h, hf, ha]
theorem packed_no {fs a : List Int} {k : Nat} (h : k < fs.length) (hf : fs[k] = 0) : packed fs a (k + 1) = packed fs a k := by
  unfold packed
  rw [List.range_succ, List.filter_append, List.map_append]
  simp [h, hf]
def primPack (fs a : List Int) : List Int × Int :=
  if wordsErr [fs, a] (fs.length == a.length) ≠ 0 then ([], wordsErr [fs, a] (fs.length == a.length)) else (packed fs a fs.length, 0)

set_option maxRecDepth 100000 in
set_option maxHeartbeats 800000 in
theorem prim_pack (fs a : List Int) (vf va : Value) (w : World) (hf : Ints w vf fs) (ha : Ints w va a) :
    Calls Tryz.prog 228 #[vf, va] w (GivesList w (primPack fs a)) := by
  obtain ⟨A, ca, rfl, hma⟩ := ha.form
  obtain ⟨F, cf, rfl, hmf⟩ := hf.form
  have hl : Lists ((w.alloc (.cells #[.slice A a.length ca] 22)).alloc (.cells #[.slice F fs.length cf, .slice A a.length ca] 22)) (.slice (some ⟨w.heap.size + 1, 0, none⟩) 2 2) [fs, a] := by
    have := lists_lit (w.alloc (.cells #[.slice A a.length ca] 22)) [.slice F fs.length cf, .slice A a.length ca] [fs, a] 22 rfl (by simp) (fun j h1 h2 => by
      have hj : j = 0 ∨ j = 1 := by simp at h1; omega
      rcases hj with rfl | rfl
      · exact hf.below (below1 _ _)
      · exact ha.below (below1 _ _))
    simpa using this
  have HL := Lib.hid hl; clear hl
  have HQ : Hid (((fs.length : Int) == (a.length : Int)) = (fs.length == a.length)) := len_beq _ _
  have HA := Lib.hid ha
  have HF := Lib.hid hf
  clear ha hf
  refine calls_of_wpV Tryz.func228 rfl ?_
  simp only [Tryz.ntmps228, List.size_toArray, List.length_cons, List.length_nil, Nat.reduceAdd, Nat.reduceSub, Array.replicate_succ, Array.replicate_zero, List.push_toArray, List.append_toArray, List.nil_append, List.cons_append]
  refine wpV_seq (wpV_of_wp ?_)
  go_wp2
  refine wpV_scope (wpV_seq (wpV_of_wp ?_))
  go_wp2_with fail
  refine (prim_words _ [fs, a] _ _ HL.out).mono ?_
  rintro e w1 ⟨rfl, hb1⟩
  rw [HQ.out]
  have hb2 := Lib.hid (below_step (below2 _ _ _) hb1)
  have c1' : w1.cell? ⟨w.heap.size, 0, none⟩ = some (.slice A a.length ca) := cell_keep hb1 (by simp [go_sem])
  have c1 := Lib.hid c1'
  clear hb1 c1'
  by_cases he : wordsErr [fs, a] (fs.length == a.length) = 0
  · obtain ⟨hlen, hw, hfit⟩ := wordsErr_zero he
    have hl1 : fs.length ≤ 1048576 := hlen fs (by simp)
    have hl2 : Hid (fs.length = a.length) := by simpa [Hid] using hfit
    have HV : Hid (primPack fs a = (packed fs a fs.length, 0)) := by unfold Hid primPack; rw [he]; rfl
    rw [he]
    clear hlen hw hfit he
    go_wp2_with fail
    refine wpV_seq (wpV_of_wp ?_)
    go_wp2_with fail
    refine wpV_seq (wpV_of_wp (wp_label ?_))
    refine wpV_seq (wpV_seq (wpV_of_wp ?_))
    go_wp2_with fail
    refine (prim_set _ _ _ _).mono ?_
    rintro e w2 ⟨rfl, rfl⟩
    go_wp2_with fail
    refine wpV_block ?_
    have hs : ((((w1.alloc (.cells #[.slice none 0 0, .bool false] 326)).alloc (.cells #[.pointer (some ⟨w1.heap.size, 0, none⟩)] 322)).alloc (.cells #[.slice F fs.length cf] 22))).heap.size = w1.heap.size + 3 := by simp
    refine rng2 (gf := 296) (lb := #[.pointer (some ⟨w1.heap.size + 2, 0, none⟩)]) (by simp [Act.eval]) enters296 ⟨_, Tryz.func228⟩ fs.length (fun i => #[.int .i64 i, .bool (fs.getD i 0 != 0)]) (fun i => rfl) (w1.heap.size + 4) (by simp)
      (fun i W => Maker w1.heap.size w1.heap.size W (packed fs a i) false ∧ W.heap[w1.heap.size + 1]? = some (.cells #[.pointer (some ⟨w1.heap.size, 0, none⟩)] 322) ∧ Below w1.heap.size w1 W)
      (fun _ _ => False) (fun _ _ => False) ?hI ?hIx ?h0 ?hround ?hiter ?hdone ?hstop ?hpanic
    case hI => exact fun i W o hl ⟨h1, h2, h3⟩ => ⟨h1.putObj hl, heap_putObj hl h2 rfl, below_putObj h3 (by omega)⟩
    case hIx => exact fun _ _ _ _ h => h.elim
    case h0 =>
      intro o
      have hm0 : Maker w1.heap.size w1.heap.size (w1.alloc (.cells #[.slice none 0 0, .bool false] 326)) [] false :=
        ⟨⟨_, Nat.le_refl _, World.alloc_heap_new _ _, World.ownsRow_nil _ _ _ _, by simp [Value.ownBlock]⟩⟩
      refine ⟨((hm0.kept (below2 _ _ _)).kept (below2 _ _ _)), ?_, ?_⟩
      · exact heap_keep (below2 _ _ _) (heap_keep (below1 _ _) (by have := World.alloc_heap_new (w1.alloc (.cells #[.slice none 0 0, .bool false] 326)) (.cells #[.pointer (some ⟨w1.heap.size, 0, none⟩)] 322); simpa using this))
      · exact below_into (below3 _ _ _ _) (by rw [hs]; omega) (below2 _ _ _)
    case hround =>
      rintro i W hi -
      gi_wp2
      refine ⟨trivial, ?_⟩
      clear W
      rintro W ⟨hm, hc, hb⟩ hl
      have HM := Lib.hid hm
      have HB := Lib.hid hb
      clear hm hb hl
      have hia : i < a.length := by rw [← hl2.out]; exact hi
      obtain ⟨ba, oa, rfl, hce⟩ := (HA.out.below hb2.out).at_ i hia
      have hi0 : (0 : Int) ≤ (i : Int) := by omega
      have hi1 : (i : Int) < (a.length : Int) := by omega
      by_cases hfi : fs[i] = 0
      · have h1 : (!fs[i] != 0) = true := by simp [hfi]
        gi_wp2
        refine ⟨Books.refl _, ?_, hc, HB.out⟩
        rw [packed_no (by omega) hfi]; exact HM.out
      · have h1 : (!fs[i] != 0) = false := by simp [hfi]
        gi_wp2
        have hpl := packed_le fs a i
        have hSt : ∀ W' xs, Maker w1.heap.size w1.heap.size W' xs false → W'.heap[w1.heap.size + 1]? = some (.cells #[.pointer (some ⟨w1.heap.size, 0, none⟩)] 322) → Below w1.heap.size w1 W' → (∃ xs, Maker w1.heap.size w1.heap.size W' xs false ∧ W'.heap[w1.heap.size + 1]? = some (.cells #[.pointer (some ⟨w1.heap.size, 0, none⟩)] 322) ∧ Below w1.heap.size w1 W') ∧ W'.cell? ⟨w1.heap.size + 1, 0, none⟩ = some (.pointer (some ⟨w1.heap.size, 0, none⟩)) ∧ W'.cell? ⟨w.heap.size, 0, none⟩ = some (.slice (some ⟨ba, oa, none⟩) a.length ca) ∧ W'.cell? ⟨ba, oa + i, none⟩ = some (.int .i64 a[i]) := fun W' xs h1 h2 h3 => ⟨⟨xs, h1, h2, h3⟩, by rw [cell_of_heap h2]; rfl, cell_keep h3 c1.out, cell_keep h3 hce⟩
        have HS := Lib.hid hSt; clear hSt
        have hm0 := HM.out.kept (below_drew W)
        have hh0 := heap_keep (below_drew W) hc
        have hb0 := below_into HB.out HB.out.size (below_drew W)
        refine round_region (S := fun W' => (∃ xs, Maker w1.heap.size w1.heap.size W' xs false ∧ W'.heap[w1.heap.size + 1]? = some (.cells #[.pointer (some ⟨w1.heap.size, 0, none⟩)] 322) ∧ Below w1.heap.size w1 W') ∧ W'.cell? ⟨w1.heap.size + 1, 0, none⟩ = some (.pointer (some ⟨w1.heap.size, 0, none⟩)) ∧ W'.cell? ⟨w.heap.size, 0, none⟩ = some (.slice (some ⟨ba, oa, none⟩) a.length ca) ∧ W'.cell? ⟨ba, oa + i, none⟩ = some (.int .i64 a[i])) followsMixed (by kernel_rfl) (fun ⟨_, _, h⟩ => h) (HS.out _ _ hm0 hh0 hb0) (fun hHeld => ?_)
        refine wpAnyH_take (i := 0) (oi := _) (v := ?_) rfl (by kernel_rfl) (by kernel_rfl) (by kernel_rfl) (fun _ _ _ h => h) (Or.inl ⟨by rfl, ?_⟩) (by assumption) ?_
        rotate_left
        · intro w hSw
          go_simp
          with_reducible rfl
        try simp only [Act.put, List.setIfInBounds_toArray, List.set_cons_zero, List.set_cons_succ]
        refine wpAnyH_take (i := 1) (oi := _) (v := ?_) rfl (by kernel_rfl) (by kernel_rfl) (by kernel_rfl) (fun _ _ _ h => h) (Or.inl ⟨by rfl, ?_⟩) (by assumption) ?_
        rotate_left
        · intro w hSw
          go_simp
          with_reducible rfl
        try simp only [Act.put, List.setIfInBounds_toArray, List.set_cons_zero, List.set_cons_succ]
        refine wpAnyH_take (i := 2) (oi := _) (v := ?_) rfl (by kernel_rfl) (by kernel_rfl) (by kernel_rfl) (fun _ _ _ h => h) (Or.inl ⟨by rfl, ?_⟩) (by assumption) ?_
        rotate_left
        · intro w hSw
          go_simp
          with_reducible rfl
        try simp only [Act.put, List.setIfInBounds_toArray, List.set_cons_zero, List.set_cons_succ]
        refine wpAnyH_take (i := 3) (oi := _) (v := ?_) rfl (by kernel_rfl) (by kernel_rfl) (by kernel_rfl) (fun _ _ _ h => h) (Or.inl ⟨by rfl, ?_⟩) (by assumption) ?_
        rotate_left
        · intro w hSw
          go_simp
          with_reducible rfl
        try simp only [Act.put, List.setIfInBounds_toArray, List.set_cons_zero, List.set_cons_succ]
        refine wpAnyH_take (i := 4) (oi := _) (v := ?_) rfl (by kernel_rfl) (by kernel_rfl) (by kernel_rfl) (fun _ _ _ h => h) (Or.inl ⟨by rfl, ?_⟩) (by assumption) ?_
        rotate_left
        · intro w hSw
          go_simp
          with_reducible rfl
        try simp only [Act.put, List.setIfInBounds_toArray, List.set_cons_zero, List.set_cons_succ]
        refine wpAnyH_take (i := 5) (oi := _) (v := ?_) rfl (by kernel_rfl) (by kernel_rfl) (by kernel_rfl) (fun _ _ _ h => h) (Or.inl ⟨by rfl, ?_⟩) (by assumption) ?_
        rotate_left
        · intro w hSw
          go_simp
          with_reducible rfl
        try simp only [Act.put, List.setIfInBounds_toArray, List.set_cons_zero, List.set_cons_succ]
        refine wpAnyH_take (i := 6) (oi := _) (v := ?_) rfl (by kernel_rfl) (by kernel_rfl) (by kernel_rfl) (fun _ _ _ h => h) (Or.inl ⟨by rfl, ?_⟩) (by assumption) ?_
        rotate_left
        · intro w hSw
          go_simp
          with_reducible rfl
        try simp only [Act.put, List.setIfInBounds_toArray, List.set_cons_zero, List.set_cons_succ]
        refine wpAnyH_ready (rs := [7]) (by kernel_rfl) (by simp) ?_
        refine AllReadyH.cons (o := _) rfl (fun K hK => ?_) AllReadyH.nil
        go_simp
        have hbw := below1 W.drew (.cells #[.int .i64 a[i]] 3)
        have hm1 := hm0.kept hbw
        have hh1 := heap_keep hbw hh0
        have hb1 := below_into hb0 hb0.size hbw
        refine hK.out _ _ (HS.out _ _ hm1 hh1 hb1) (fun hHeld => ?_)
        refine wpAnyH_ready (rs := [8]) (by kernel_rfl) (by simp) ?_
        refine AllReadyH.cons (o := _) rfl (fun K hK => ?_) AllReadyH.nil
        go_simp
        refine (prim_put w1.heap.size w1.heap.size W.heap.size 1 a[i] (packed fs a i) false (W.drew.alloc (.cells #[.int .i64 a[i]] 3)) hm1 (by simp [go_sem]) (by omega)).mono ?_
        rintro e w' ⟨rfl, hm', hb', hk', hx'⟩
        have hh2 := hx' _ _ _ hh1 (by decide) (by omega)
        have hb2 := hb1.trans hb'
        refine hK.out _ _ (HS.out _ _ hm' hh2 hb2) (fun hHeld => ?_)
        refine wpAnyH_done (by kernel_rfl) ?_ _
        clear hK HL
        gi_wp2
        refine ⟨(Books.of_below (below_drew W)).trans ((Books.of_below hbw).trans hk'), ?_, hh2, hb2⟩
        rw [packed_yes (by omega) hia hfi]
        exact hm'
    case hiter =>
      rintro J Jx Jp W1 hJI hJs hY h0 hb
      refine set_iter _ _ fs (.slice F fs.length cf) J Jx Jp (fun i W hj => ?_) (fun i W hi hj => ?_) W1 ?_ h0
      · exact (HF.out.below hb2.out).below (hJI i W hj).2.2
      · have := hY i W hi hj
        simpa [hi] using this
      · exact cell_keep hb (by simp [go_sem])
    case hdone =>
      rintro W ⟨hm, hc, hb⟩ hD
      have HM := Lib.hid hm
      have HB := Lib.hid hb
      clear hm hb
      refine wpV_of_wp ?_
      have hc' : W.cell? ⟨w1.heap.size + 1, 0, none⟩ = some (.pointer (some ⟨w1.heap.size, 0, none⟩)) := by rw [cell_of_heap hc]; rfl
      have HD := Lib.hid hD; clear hD hc
      simp only [marked]
      go_wp2_with fail
      refine (prim_done w1.heap.size w1.heap.size _ _ _ HM.out).mono ?_
      rintro e w' ⟨v, rfl, hv, hb'⟩
      have HV2 := Lib.hid hv
      have HB2 := Lib.hid hb'
      have HD2 := Lib.hid (heap_keep hb' HD.out)
      clear hv hb' hc'
      go_wp2_with fail
      rw [HV.out]
      have hD3 := HD2.out
      simp only [hs] at hD3
      refine leaveM_mark (by simp) hD3 (leaveM_nil (results_tmp2 rfl _ _ _) ?_)
      refine ⟨v, rfl, HV2.out.reads (reads_above_of hb2.out.size (reads_putBook hD3 rfl)), below_step hb2.out (below_putObj (HB.out.trans (HB2.out.mono HB.out.size)) (by omega))⟩
    case hstop => exact fun _ _ h => h.elim
    case hpanic => exact fun _ _ h => h.elim
  · have hne : (wordsErr [fs, a] (fs.length == a.length) != 0) = true := by simpa using he
    have HV : Hid (primPack fs a = ([], wordsErr [fs, a] (fs.length == a.length))) := by unfold Hid primPack; simp [he]
    clear he
    go_wp2_with fail
    refine leaveM_nil (results_tmp2 rfl _ _ _) ?_
    rw [HV.out]
    exact ⟨_, rfl, ints_nil _ _ _, hb2.out⟩
end Go.Proofs.YtdkcjeaabbkdeaaGreatDoor
end
section
namespace Go.Proofs.YtdkcjeaabbkdeaaGreatDoor
open Go.RowKit
set_option linter.unusedVariables false
set_option linter.unusedSimpArgs false

theorem enters305 : Enters Tryz.prog 305 := enters_of Tryz.func305 (by kernel_rfl) rfl
theorem enters307 : Enters Tryz.prog 307 := enters_of Tryz.func307 (by kernel_rfl) rfl
theorem enters308 : Enters Tryz.prog 308 := enters_of Tryz.func308 (by kernel_rfl) rfl

set_option maxRecDepth 100000 in
theorem scan_join (op none x y : Int) (w : World) (hg : Glob w) :
    Calls Tryz.prog 306 #[.agg #[.int .i64 op, .int .i64 none], .int .i64 x, .int .i64 y] w (Gives w (.int .i64 (wordDo op x y).1)) := by
  have hd := Lib.hid (word_do op x y (w.alloc (.cells #[.int .i64 op, .int .i64 none] 353)) (hg.below (below1 _ _)))
  clear hg
  go_enter Tryz.func306, Tryz.ntmps306
  go_wp2_with (first | (go_at_call 267; refine hd.out.mono ?_; rintro e w' ⟨rfl, hb'⟩))
  go_ret
  exact ⟨rfl, below_step (below1 _ _) hb'⟩
set_option maxRecDepth 100000 in
theorem scan_by (q : Nat) (op none x y : Int) (w : World) (hg : Glob w) (h0 : w.cell? ⟨q, 0, .none⟩ = some (.int .i64 op)) (h1 : w.cell? ⟨q, 1, .none⟩ = some (.int .i64 none)) :
    Calls Tryz.prog 305 #[.int .i64 x, .int .i64 y, .pointer (some ⟨q, 0, .none⟩)] w (Gives w (.int .i64 (wordDo op x y).1)) := by
  have hd := Lib.hid (scan_join op none x y w hg)
  clear hg
  go_enter Tryz.func305, Tryz.ntmps305
  go_wp2_with (first | (go_at_call 306; refine hd.out.mono ?_; rintro e w' ⟨rfl, hb'⟩))
  go_ret
  exact ⟨rfl, hb'⟩

/-- What scan.of returns. -/
def GivesJoiner (op : Int) (w : World) (e : Ending) (w' : World) : Prop := Below w.heap.size w w' ∧
  if (wordNeutral op).2 = 0 then ∃ q, e = .returned (.tuple #[.agg #[.int .i64 op, .int .i64 (wordNeutral op).1, .func (.func 305) #[] #[.pointer (some ⟨q, 0, none⟩)]], .int .i64 0]) ∧
    w'.cell? ⟨q, 0, none⟩ = some (.int .i64 op) ∧ w'.cell? ⟨q, 1, none⟩ = some (.int .i64 (wordNeutral op).1)
  else e = .returned (.tuple #[.agg #[.int .i64 0, .int .i64 0, .nilFunc], .int .i64 (wordNeutral op).2])
theorem heap_alloc {w : World} {B : Nat} {x : Obj} (h : w.heap[B]? = some x) : ∀ o, (w.alloc o).heap[B]? = some x := fun o => heap_keep (below1 w o) h
theorem alloc_new (w : World) (o : Obj) : (w.alloc o).heap[w.heap.size]? = some o := by simpa using World.alloc_heap_new w o
/-- A block's cells, for a walk that stores into it. -/
theorem block_cell {w : World} {B t : Nat} {c : Array Value} (h : w.heap[B]? = some (.cells c t)) (j : Nat) (hj : j < c.size) : w.cell? ⟨B, j, none⟩ = some c[j] ∧ w.frozen? ⟨B, j, none⟩ = false :=
  ⟨by rw [cell_of_heap h]; simp [hj], frozen_of_heap h j⟩
set_option maxRecDepth 100000 in
set_option maxHeartbeats 400000 in
theorem scan_of (op : Int) (w : World) (hg : Glob w) : Calls Tryz.prog 298 #[.int .i64 op] w (GivesJoiner op w) := by
  have hn := Lib.hid (word_neutral op (w.alloc (.cells #[.int .i64 0, .int .i64 0, .nilFunc] 355)) (hg.below (below1 _ _)))
  clear hg
  unfold GivesJoiner
  generalize wordNeutral op = r at hn ⊢
  obtain ⟨no, e⟩ := r
  simp only at hn ⊢
  have hnew := Lib.hid (alloc_new w (.cells #[.int .i64 0, .int .i64 0, .nilFunc] 355))
  by_cases he : e = 0
  · subst he
    go_enter Tryz.func298, Tryz.ntmps298
    go_wp2_with (first | (go_at_call 304; refine hn.out.mono ?_; rintro e w' ⟨rfl, hb'⟩; have hz := hb'.size; simp at hz; have HB := Lib.hid hb'; have hh := heap_alloc (heap_keep hb' hnew.out) (.cells #[.int .i64 op, .int .i64 no] 353); obtain ⟨a1, b1⟩ := block_cell hh 0 (by simp); obtain ⟨a2, b2⟩ := block_cell hh 1 (by simp); obtain ⟨a3, b3⟩ := block_cell hh 2 (by simp); simp only [List.getElem_toArray, List.getElem_cons_zero, List.getElem_cons_succ] at a1 a2 a3; have HH := Lib.hid hh; clear hh hb'))
    have hf := heap_setCell (heap_setCell (heap_setCell HH.out 0 (.int .i64 op)) 1 (.int .i64 no)) 2 (.func (.func 305) #[] #[.pointer (some ⟨w'.heap.size, 0, none⟩)])
    simp only [List.setIfInBounds_toArray, List.set_cons_zero, List.set_cons_succ] at hf
    obtain ⟨c1, -⟩ := block_cell hf 0 (by simp)
    obtain ⟨c2, -⟩ := block_cell hf 1 (by simp)
    obtain ⟨c3, -⟩ := block_cell hf 2 (by simp)
    simp only [List.getElem_toArray, List.getElem_cons_zero, List.getElem_cons_succ] at c1 c2 c3
    have hb9 : Below w.heap.size w w' := below_step (below1 _ _) HB.out
    refine bodyPost_ret (v := .tuple #[.agg #[.int .i64 op, .int .i64 no, .func (.func 305) #[] #[.pointer (some ⟨w'.heap.size, 0, none⟩)]], .int .i64 0]) (by simp [results, Tryz.results298, go_sem, c1, c2, c3]) rfl ⟨?_, w'.heap.size, rfl, ?_, ?_⟩
    · exact (((hb9.trans ((below1 _ _).mono hb9.size)).setCell (by simp) _).setCell (by simp) _).setCell (by simp) _
    · simp [go_sem]
    · simp [go_sem]
  · have he' : (e != 0) = true := by simpa using he
    have HE := Lib.hid he; clear he
    go_enter Tryz.func298, Tryz.ntmps298
    go_wp2_with (first | (go_at_call 304; refine hn.out.mono ?_; rintro e w' ⟨rfl, hb'⟩; have HB := Lib.hid hb'; have hh := heap_keep hb' hnew.out; obtain ⟨a1, b1⟩ := block_cell hh 0 (by simp); obtain ⟨a2, b2⟩ := block_cell hh 1 (by simp); obtain ⟨a3, b3⟩ := block_cell hh 2 (by simp); simp only [List.getElem_toArray, List.getElem_cons_zero, List.getElem_cons_succ] at a1 a2 a3; have HH := Lib.hid hh; clear hh hb'))
    have hf := heap_setCell (heap_setCell (heap_setCell HH.out 0 (.int .i64 0)) 1 (.int .i64 0)) 2 .nilFunc
    simp only [List.setIfInBounds_toArray, List.set_cons_zero, List.set_cons_succ] at hf
    obtain ⟨c1, -⟩ := block_cell hf 0 (by simp)
    obtain ⟨c2, -⟩ := block_cell hf 1 (by simp)
    obtain ⟨c3, -⟩ := block_cell hf 2 (by simp)
    simp only [List.getElem_toArray, List.getElem_cons_zero, List.getElem_cons_succ] at c1 c2 c3
    have hb9 : Below w.heap.size w w' := below_step (below1 _ _) HB.out
    refine bodyPost_ret (v := .tuple #[.agg #[.int .i64 0, .int .i64 0, .nilFunc], .int .i64 e]) (by simp [results, Tryz.results298, go_sem, c1, c2, c3]) rfl ⟨?_, rfl⟩
    exact ((hb9.setCell (by simp) _).setCell (by simp) _).setCell (by simp) _

set_option maxRecDepth 100000 in
theorem scan_words1 (n : Int) (w : World) : Calls Tryz.prog 307 #[.int .i64 n] w (Gives w (.bool (!isWord n))) := by
  go_enter Tryz.func307, Tryz.ntmps307
  go_wp2_with (go_at_call 152; refine (word_is _ _).mono ?_; rintro e w' ⟨rfl, rfl⟩)
  go_ret
  exact ⟨rfl, Below.refl _ _⟩
theorem tests307 (w : World) : Tests RInt 307 #[] (fun n => !isWord n) w := ⟨enters307, fun u x w1 _ h => by
  obtain rfl : u = .int .i64 x := by simpa [RInt] using h
  exact scan_words1 x w1⟩
def scanWords (l : List Int) : Int := if 1048576 < l.length then 3 else if l.any (fun n => !isWord n) then 2 else 0
set_option maxRecDepth 100000 in
theorem scan_words (l : List Int) (v : Value) (w : World) (h : Ints w v l) : Calls Tryz.prog 299 #[v] w (Gives w (.int .i64 (scanWords l))) := by
  obtain ⟨A, c, rfl, hm⟩ := h.form
  have hc := Lib.hid (containsFunc111 stays_int _ l 307 #[] _ w h (tests307 w))
  clear h
  unfold scanWords
  by_cases hl : 1048576 < l.length
  · rw [if_pos hl]
    go_enter Tryz.func299, Tryz.ntmps299
    go_wp2_with (fail)
    go_ret
    exact ⟨rfl, Below.refl _ _⟩
  · rw [if_neg hl]
    cases hb0 : (l.any fun n => !isWord n)
    · rw [hb0] at hc
      go_enter Tryz.func299, Tryz.ntmps299
      go_wp2_with (go_at_call 111; refine hc.out.mono ?_; rintro e w' ⟨rfl, hb⟩)
      go_ret
      exact ⟨rfl, hb⟩
    · rw [hb0] at hc
      go_enter Tryz.func299, Tryz.ntmps299
      go_wp2_with (go_at_call 111; refine hc.out.mono ?_; rintro e w' ⟨rfl, hb⟩)
      go_ret
      exact ⟨rfl, hb⟩
set_option maxRecDepth 100000 in
theorem scan_cut (A : Option Addr) (n c : Nat) (w : World) (hn : n ≤ c) : Calls Tryz.prog 301 #[.slice A n c] w (fun e w' => w' = w ∧ e = .returned (.slice A n n)) := by
  go_enter Tryz.func301, Tryz.ntmps301
  go_wp2_with fail
  go_ret
  exact ⟨rfl, rfl⟩
set_option maxRecDepth 100000 in
theorem scan_segments (A B : Option Addr) (n c m d : Nat) (w : World) : Calls Tryz.prog 300 #[.slice A n c, .slice B m d] w fun e w' => e = .returned (.func (.func 308) #[] #[.pointer (some ⟨w.heap.size + 1, 0, none⟩), .pointer (some ⟨w.heap.size, 0, none⟩)]) ∧ w' = (w.alloc (.cells #[.slice A n c] 22)).alloc (.cells #[.slice B m d] 22) := by
  go_enter Tryz.func300, Tryz.ntmps300
  go_wp2
  go_ret
  exact ⟨rfl, rfl⟩
end Go.Proofs.YtdkcjeaabbkdeaaGreatDoor
end
