/- Package prof: the iterator over steps, with their stacks. Package prof: the costs of functions, in plain terms. -/
import Derived.Test.YtdkcjeaabbkdeaaGreatDoorZRngY
import Derived.Test.YtdkcjeaabbkdeaaGreatDoorZProfA
import Derived.Test.YtdkcjeaabbkdeaaGreatDoorZDiffW
import Derived.Sort.QuietIn
import Derived.Sort.CutIn
import Derived.Scope
set_option linter.unusedVariables false
set_option linter.unusedSimpArgs false
set_option linter.unnecessarySimpa false
set_option linter.unusedSectionVars false
section
namespace Go.Proofs.YtdkcjeaabbkdeaaGreatDoor
open Go.RowKit Go.Shelf
set_option linter.unusedVariables false
set_option linter.unusedSimpArgs false
attribute [local go_sem] Oper.semAt_some

/-- The functions that are being run, a step later. -/
def nextStk (st : List Int) (s : Step) : List Int := (if s.deep ≤ st.length then st.take (s.deep - 1).toNat else st) ++ [s.fn]
def stkAt (l : List Step) (i : Nat) : List Int := (l.take i).foldl nextStk []
theorem stkAt_succ (l : List Step) (i : Nat) (h : i < l.length) : stkAt l (i + 1) = nextStk (stkAt l i) l[i] := foldl_take_succ _ _ _ _ h
theorem nextStk_length (st : List Int) (s : Step) : (nextStk st s).length ≤ st.length + 1 := by
  unfold nextStk
  split
  · have := List.length_take_le' (s.deep - 1).toNat st
    rw [List.length_append, List.length_singleton]; omega
  · rw [List.length_append, List.length_singleton]; omega
theorem stkAt_length (l : List Step) (i : Nat) : (stkAt l i).length ≤ i := by
  induction i with
  | zero => simp [stkAt]
  | succ i ih =>
    by_cases h : i < l.length
    · rw [stkAt_succ l i h]
      exact Nat.le_trans (nextStk_length (stkAt l i) l[i]) (Nat.succ_le_succ ih)
    · have : stkAt l (i + 1) = stkAt l i := by unfold stkAt; rw [List.take_of_length_le (by omega), List.take_of_length_le (by omega)]
      rw [this]; omega
theorem own_prefix {W : World} {base n c : Nat} {A : Option Addr} {st : List Int} (h : W.ownsRow base 3 1 (.slice A st.length c) st.length (nums st)) (hn : n ≤ st.length) (hA : A = none → n = 0 ∧ c = 0) : W.ownsRow base 3 1 (.slice A n c) n (nums (st.take n)) := by
  have hl : (nums (st.take n)).length = n * 1 := by rw [nums_length, List.length_take]; omega
  rcases h.2 with ⟨hv, -⟩ | ⟨g, cap, cur, hv, hg, hh, h1, h2, h3, h4⟩
  · injection hv with h1 h2 h3
    subst h1
    obtain ⟨rfl, rfl⟩ := hA rfl
    exact ⟨hl, .inl ⟨rfl, rfl⟩⟩
  · injection hv with e1 e2 e3
    subst e1
    subst e3
    refine ⟨hl, .inr ⟨g, c, cur, rfl, hg, hh, by omega, h2, h3, ?_⟩⟩
    have : (cur.toList.take (st.length * 1)).take (n * 1) = (nums st).take (n * 1) := by rw [h4]
    rw [List.take_take] at this
    rw [show min (n * 1) (st.length * 1) = n * 1 by omega] at this
    rw [this]; simp [nums, List.map_take]
/-- A slice, cut to its length. -/
def cutV : Value → Value
  | .slice A n _ => .slice A n n
  | v => v
/-- What a round is handed. -/
def stepArg (l : List Step) (i : Nat) (v : Value) : Array Value := let s := l.getD i ⟨0, 0, 0, 0⟩; #[.agg #[.int .i64 s.deep, .int .i64 s.fn, .int .i64 s.ins, .int .i64 s.work, cutV v]]
/-- The iterator's own row. -/
def OwnStk (base : Nat) (W : World) (v : Value) (st : List Int) : Prop := W.ownsRow base 3 1 v st.length (nums st)

set_option maxRecDepth 100000 in
set_option maxHeartbeats 1600000 in
theorem steps_iter (l q : Nat) (steps : List Step) (T : Option Addr) (tc base : Nat) (hlen : steps.length ≤ 1000000)
    (J JY : Nat → Value → World → Prop) (Jx : World → Prop) (Jp : List PanicEntry → World → Prop)
    (hJ : ∀ i v W, J i v W → base ≤ W.heap.size ∧ W.cell? ⟨q, 0, none⟩ = some (.slice T steps.length tc) ∧ Sl 4 RStep W (.slice T steps.length tc) steps ∧ OwnStk base W v (stkAt steps i))
    (hstep : ∀ i v v' W W', i < steps.length → J i v W → W.grownBy W' v.ownBlock → (v'.ownBlock = v.ownBlock ∨ ∃ k, v'.ownBlock = some k ∧ W.heap.size ≤ k) → OwnStk base W' v' (stkAt steps (i + 1)) → JY i v' W')
    (hY : ∀ i v W (hi : i < steps.length), JY i v W → YieldAt Fence.wide 5 Tryz.prog l (stepArg steps i v) W fun e W' => (e = .returned (.bool true) ∧ J (i + 1) v W') ∨ (e = .returned (.bool false) ∧ Jx W') ∨ ∃ c, e = .panicked c ∧ Jp c W')
    (hdeep : ∀ s ∈ steps, 1 ≤ s.deep)
    (W1 : World) (h0 : J 0 (.slice none 0 0) W1) :
    Calls Tryz.prog 101 #[.func (.yield l) #[] #[], .pointer (some ⟨q, 0, none⟩)] W1 fun e W' => ((∃ v, e = .returned v) ∧ ((∃ v, J steps.length v W') ∨ Jx W')) ∨ ∃ c, e = .panicked c ∧ Jp c W' := by
  have HY := Lib.hid hY
  have HJ := Lib.hid hJ
  have H0 := Lib.hid h0
  have HSt := Lib.hid hstep
  have HD := Lib.hid hdeep
  obtain ⟨hbs, c0, hst, hown⟩ := hJ _ _ _ h0
  obtain ⟨-, -, -, htm, -⟩ := hst
  obtain ⟨i0, hi, hzz⟩ := Option.map_eq_some_iff.1 infoInt
  simp only [Prod.mk.injEq] at hzz
  obtain ⟨hz0, hz1, hz2⟩ := hzz
  clear hY hJ h0 hstep hdeep hown hbs
  refine (callsIn_wide (n := 6)).1 (callsIn_of_wp Tryz.func101 rfl trivial ?_)
  simp only [Tryz.ntmps101, List.size_toArray, List.length_cons, List.length_nil, Nat.reduceAdd, Nat.reduceSub, Array.replicate_succ, Array.replicate_zero, List.push_toArray, List.append_toArray, List.nil_append, List.cons_append]
  gi_wp2
  clear c0
  gi_loopw [3, 5, 8] (fun v _ i wr => ∃ k : Nat, k ≤ steps.length ∧ i = .int .i64 k ∧ J k v wr) (fun _ _ i _ => steps.length - (intOf i).toNat)
  case atStart => exact ⟨0, Nat.zero_le _, rfl, H0.out⟩
  case round =>
    obtain ⟨k, hk, rfl, hj⟩ := hrel
    have HJk := Lib.hid hj
    by_cases hlt : k < steps.length
    · obtain ⟨hbs, -, hst, hown⟩ := HJ.out _ _ _ hj
      obtain ⟨b, off, rfl, c0, c1, c2, c3⟩ := stepsL_at hst k hlt
      have hdp := HD.out steps[k] (List.getElem_mem hlt)
      have HNext := Lib.hid (stkAt_succ steps k hlt)
      have hslen := stkAt_length steps k
      have hstepk := HSt.out k u3
      have harg : ∀ v, stepArg steps k v = #[.agg #[.int .i64 steps[k].deep, .int .i64 steps[k].fn, .int .i64 steps[k].ins, .int .i64 steps[k].work, cutV v]] := fun v => by
        unfold stepArg; rw [List.getD_eq_getElem?_getD, List.getElem?_eq_getElem hlt]; rfl
      have HArg := Lib.hid harg
      generalize steps[k] = s at *
      have HBs := Lib.hid hbs
      have HOwn := Lib.hid hown
      have hb1 := below1 wr (.cells #[.int .i64 s.deep, .int .i64 s.fn, .int .i64 s.ins, .int .i64 s.work] 58)
      have HQ := Lib.hid (alloc_new wr (.cells #[.int .i64 s.deep, .int .i64 s.fn, .int .i64 s.ins, .int .i64 s.work] 58))
      have HB1 := Lib.hid hb1
      clear hj hst hown hbs hstepk harg hb1
      obtain ⟨A, ac, hu, hcap, hnil⟩ : ∃ A ac, u3 = .slice A (stkAt steps k).length ac ∧ (stkAt steps k).length ≤ ac ∧ (A = none → (stkAt steps k).length = 0 ∧ ac = 0) := by
        rcases HOwn.out.2 with ⟨rfl, h0⟩ | ⟨g, cap, cur, rfl, _, _, h1, _⟩
        · exact ⟨none, 0, by rw [h0], by omega, fun _ => ⟨h0, rfl⟩⟩
        · exact ⟨_, cap, rfl, h1, fun e => by cases e⟩
      subst hu
      generalize hst0 : stkAt steps k = st at *
      obtain ⟨D, hD⟩ : ∃ D : Nat, s.deep = (D : Int) + 1 := ⟨(s.deep - 1).toNat, by omega⟩
      have HDD := Lib.hid hD
      have HNil := Lib.hid hnil
      clear hD
      gi_upto_region 4 with (fail)
      clear c0 c1 c2 c3
      generalize hwx : wr.alloc (.cells #[.int .i64 s.deep, .int .i64 s.fn, .int .i64 s.ins, .int .i64 s.work] 58) = wx at *
      have HWx := Lib.hid hwx
      generalize hqb : wr.heap.size = qx at *
      have HQb := Lib.hid hqb
      clear hwx hqb hst0 hnil
      have x0 := (block_cell HQ.out 0 (by simp)).1
      have x1 := (block_cell HQ.out 1 (by simp)).1
      simp only [List.getElem_toArray, List.getElem_cons_zero, List.getElem_cons_succ] at x0 x1
      have HOwnX : Hid (wx.ownsRow base 3 1 (.slice A st.length ac) st.length (nums st)) := by
        unfold Hid; rw [← HWx.out]; exact HOwn.out.alloc _
      by_cases hle : s.deep ≤ st.length
      · gi_upto_region 6 with (fail)
        clear x0
        have hown1 : wx.ownsRow base 3 1 (.slice A (s.deep.toNat - 1) ac) (s.deep.toNat - 1) (nums (st.take (s.deep.toNat - 1))) := own_prefix (HOwnX.out) (by omega) (fun e => ⟨by have := (HNil.out e).1; omega, (HNil.out e).2⟩)
        have hnx : nextStk st s = st.take (s.deep.toNat - 1) ++ [s.fn] := by
          unfold nextStk
          rw [if_pos hle, show (s.deep - 1).toNat = s.deep.toNat - 1 by omega]
        have hbn : s.deep.toNat - 1 ≤ 1000000 := by omega
        have hbl : (Value.slice A (s.deep.toNat - 1) ac).ownBlock = (Value.slice A st.length ac).ownBlock := by cases A <;> rfl
        have HBl := Lib.hid hbl
        clear hbl
        generalize hsn : st.take (s.deep.toNat - 1) = st1 at *
        generalize s.deep.toNat - 1 = n1 at *
        have HOwn1 := Lib.hid hown1
        clear hown1 hsn hle
        have HNx := Lib.hid hnx
        have hnews : ∀ j u, ([.int .i64 s.fn] : List Value)[j]? = some u → (wx.alloc (.cells #[.int .i64 s.fn] 3)).cell? ((⟨wx.heap.size, 0, none⟩ : Addr).add j) = some u := by
          intro j u hj
          match j, hj with
          | 0, hj => simp at hj; subst hj; simp [Addr.add]
        have HNews := Lib.hid hnews
        have hbx : base ≤ wx.heap.size := by have := HB1.out.size; have := HBs.out; have := HQb.out; omega
        have HBx := Lib.hid hbx
        clear hnx hnews hbx
        gi_wp2_with (gi_at_builtin; refine wpListIn_append_own_at (P := Tryz.prog) _ rfl _ _ 22 rfl base 3 i0 (.int .i64 0) 1 8 Tryz.underlying22 hi hz0 hz1 hz2 rfl (by omega) (.slice A n1 ac) n1 (nums st1) rfl (HOwn1.out.alloc _) ⟨wx.heap.size, 0, none⟩ 1 1 [.int .i64 s.fn] rfl rfl HNews.out (by simp [Value.oneCell']) (by simp only [maxLen]; omega) (by omega) (by have := HBx.out; simp; omega) ?_; intro v' w3 hown' hg' hn' hat'; obtain ⟨g', cap', rfl⟩ := ownsRow_succ hown'; have HO3 := Lib.hid hown'; have HG3 := Lib.hid hg'; have HAt3 := Lib.hid hat'; clear hown' hg' hn' hat')
        have hnl : st1.length = n1 := by have := HOwn1.out.1; rw [nums_length] at this; omega
        have hqx : ∀ k', (Value.slice A n1 ac).ownBlock = some k' → k' ≠ qx := fun k' hk' e => by
          rcases HOwn1.out.2 with ⟨h1, -⟩ | ⟨g, cap, cur, h1, -, hh, -⟩
          · rw [h1] at hk'; cases hk'
          · rw [h1] at hk'
            simp only [Value.ownBlock, Option.some.injEq] at hk'
            subst hk'
            subst e
            have hQ := HQ.out
            rw [hh] at hQ
            injection hQ with hQ
            injection hQ with h1 h2 h3
            cases h2
        have hqlt : qx < wx.heap.size := (Array.getElem?_eq_some_iff.1 HQ.out).1
        have h3q : w3.heap[qx]? = some (.cells #[.int .i64 s.deep, .int .i64 s.fn, .int .i64 s.ins, .int .i64 s.work] 58) := (HG3.out.block qx (by simp; omega) (fun e => hqx qx e.symm rfl)).trans (heap_alloc HQ.out _)
        have hgw : wr.grownBy w3.drew (Value.slice A st.length ac).ownBlock := by
          rw [← HBl.out]
          have g1 : wr.grownBy wx (Value.slice A n1 ac).ownBlock := by rw [← HWx.out]; exact World.grownBy_alloc _ _ _
          exact (g1.trans ((World.grownBy_alloc _ _ _).trans HG3.out)).trans ⟨rfl, rfl, rfl, Nat.le_refl _, fun _ _ _ => rfl⟩
        have hown3 : OwnStk base w3.drew (.slice (some ⟨g', 0, none⟩) (n1 + 1) cap') (stkAt steps (k + 1)) := by
          unfold OwnStk
          rw [HNext.out, HNx.out, nums_append, List.length_append, hnl]
          exact HO3.out
        have hloc : (Value.slice (some ⟨g', 0, none⟩) (n1 + 1) cap').ownBlock = (Value.slice A st.length ac).ownBlock ∨ ∃ k', (Value.slice (some ⟨g', 0, none⟩) (n1 + 1) cap').ownBlock = some k' ∧ wr.heap.size ≤ k' := by
          rcases HAt3.out with h | h
          · exact .inl (h.trans HBl.out)
          · refine .inr ⟨_, h, ?_⟩
            rw [← HWx.out]; simp; omega
        have hjy : JY k (.slice (some ⟨g', 0, none⟩) (n1 + 1) cap') w3.drew := HSt.out k (.slice A st.length ac) _ wr w3.drew hlt HJk.out hgw hloc hown3
        obtain ⟨fn', tmps, assign, body, hy, hR⟩ := HY.out k _ w3.drew hlt hjy
        rw [HArg.out] at hy
        simp only [cutV] at hy
        have y0 := (block_cell h3q 0 (by simp)).1
        have y1 := (block_cell h3q 1 (by simp)).1
        have y2 := (block_cell h3q 2 (by simp)).1
        have y3 := (block_cell h3q 3 (by simp)).1
        simp only [List.getElem_toArray, List.getElem_cons_zero, List.getElem_cons_succ] at y0 y1 y2 y3
        have HRR := Lib.hid hR
        have hcap2 : n1 + 1 ≤ cap' := by
          rcases HO3.out.2 with ⟨h, -⟩ | ⟨g, cap, cur, h, -, -, h1, -⟩
          · cases h
          · injection h with e1 e2 e3; subst e3; exact h1
        have hp0 : (0 : Int) ≤ (n1 : Int) + 1 := by omega
        have hp1 : (n1 : Int) + 1 ≤ (cap' : Int) := by omega
        clear hnl hqx hqlt h3q hgw hown3 hloc hjy hR x1
        refine wpIn_region_any followsMixed ?_
        try (change wpAnyIn _ _ _ _ _ _ _ _ _ (World.drew _))
        refine wpAnyIn_take (i := 0) (v := ?_) rfl rfl (by kernel_rfl) (by kernel_rfl) (by kernel_rfl) (fun _ _ _ h => h) ⟨Or.inl ⟨by rfl, ?_⟩, fun _ => rfl⟩ ?_
        rotate_left
        · intro w
          go_simp
          try with_reducible rfl
        try simp only [Act.put, List.setIfInBounds_toArray, List.set_cons_zero, List.set_cons_succ]
        refine wpAnyIn_take (i := 2) (v := ?_) rfl rfl (by kernel_rfl) (by kernel_rfl) (by kernel_rfl) (fun _ _ _ h => h) ⟨Or.inl ⟨by rfl, ?_⟩, fun _ => rfl⟩ ?_
        rotate_left
        · intro w
          go_simp
          try with_reducible rfl
        try simp only [Act.put, List.setIfInBounds_toArray, List.set_cons_zero, List.set_cons_succ]
        refine wpAnyIn_take (i := 3) (v := ?_) rfl rfl (by kernel_rfl) (by kernel_rfl) (by kernel_rfl) (fun _ _ _ h => h) ⟨Or.inl ⟨by rfl, ?_⟩, fun _ => rfl⟩ ?_
        rotate_left
        · intro w
          go_simp
          try with_reducible rfl
        try simp only [Act.put, List.setIfInBounds_toArray, List.set_cons_zero, List.set_cons_succ]
        refine wpAnyIn_take (i := 5) (v := ?_) rfl rfl (by kernel_rfl) (by kernel_rfl) (by kernel_rfl) (fun _ _ _ h => h) ⟨Or.inl ⟨by rfl, ?_⟩, fun _ => rfl⟩ ?_
        rotate_left
        · intro w
          go_simp
          try with_reducible rfl
        try simp only [Act.put, List.setIfInBounds_toArray, List.set_cons_zero, List.set_cons_succ]
        refine wpAnyIn_take (i := 4) (v := ?_) rfl rfl (by kernel_rfl) (by kernel_rfl) (by kernel_rfl) (fun _ _ _ h => h) ⟨Or.inl ⟨by rfl, ?_⟩, fun _ => rfl⟩ ?_
        rotate_left
        · intro w
          go_simp
          try with_reducible rfl
        try simp only [Act.put, List.setIfInBounds_toArray, List.set_cons_zero, List.set_cons_succ]
        refine wpAnyIn_take (i := 6) (v := ?_) rfl rfl (by kernel_rfl) (by kernel_rfl) (by kernel_rfl) (fun _ _ _ h => h) ⟨Or.inl ⟨by rfl, ?_⟩, fun _ => rfl⟩ ?_
        rotate_left
        · intro w
          go_simp
          try with_reducible rfl
        try simp only [Act.put, List.setIfInBounds_toArray, List.set_cons_zero, List.set_cons_succ]
        refine wpAnyIn_take (i := 7) (v := ?_) rfl rfl (by kernel_rfl) (by kernel_rfl) (by kernel_rfl) (fun _ _ _ h => h) ⟨Or.inl ⟨by rfl, ?_⟩, fun _ => rfl⟩ ?_
        rotate_left
        · intro w
          go_simp
          try with_reducible rfl
        try simp only [Act.put, List.setIfInBounds_toArray, List.set_cons_zero, List.set_cons_succ]
        refine wpAnyIn_ready (rs := [1]) (by kernel_rfl) (by simp) ?_
        refine AllReadyIn.cons (o := _) rfl (fun K hK => ?_) AllReadyIn.nil
        have HK := Lib.hid hK; clear hK
        go_simp
        refine HK.out _ _ ?_
        clear HK K y0 y1 y2 y3
        try simp only [Act.put, List.setIfInBounds_toArray, List.set_cons_zero, List.set_cons_succ]
        refine wpAnyIn_take (i := 8) (v := ?_) rfl rfl (by kernel_rfl) (by kernel_rfl) (by kernel_rfl) (fun _ _ _ h => h) ⟨Or.inl ⟨by rfl, ?_⟩, fun _ => rfl⟩ ?_
        rotate_left
        · intro w
          go_simp
          try with_reducible rfl
        try simp only [Act.put, List.setIfInBounds_toArray, List.set_cons_zero, List.set_cons_succ]
        refine wpAnyIn_ready (rs := [9]) (by kernel_rfl) (by simp) ?_
        refine AllReadyIn.cons (o := _) rfl (fun K hK => ?_) AllReadyIn.nil
        have HK := Lib.hid hK; clear hK
        go_simp
        refine HRR.out.mono ?_
        rintro e W4 (⟨rfl, hJ4⟩ | ⟨rfl, hJx⟩ | ⟨ch, rfl, hJp⟩)
        · have HJ4 := Lib.hid hJ4
          refine HK.out _ _ ?_
          clear HK K hJ4 hy
          try simp only [Act.put, List.setIfInBounds_toArray, List.set_cons_zero, List.set_cons_succ]
          refine wpAnyIn_take (i := 10) (v := ?_) rfl rfl (by kernel_rfl) (by kernel_rfl) (by kernel_rfl) (fun _ _ _ h => h) ⟨Or.inl ⟨by rfl, ?_⟩, fun _ => rfl⟩ ?_
          rotate_left
          · intro w
            go_simp
            try with_reducible rfl
          try simp only [Act.put, List.setIfInBounds_toArray, List.set_cons_zero, List.set_cons_succ]
          refine wpAnyIn_done (by kernel_rfl) ?_ _
          gi_wp2
          go_roundw
          case rel => exact ⟨k + 1, hlt, by go_num, HJ4.out⟩
          case measure => simp [intOf]; omega
        · have HJ4 := Lib.hid hJx
          refine HK.out _ _ ?_
          clear HK K hJx hy
          try simp only [Act.put, List.setIfInBounds_toArray, List.set_cons_zero, List.set_cons_succ]
          refine wpAnyIn_take (i := 10) (v := ?_) rfl rfl (by kernel_rfl) (by kernel_rfl) (by kernel_rfl) (fun _ _ _ h => h) ⟨Or.inl ⟨by rfl, ?_⟩, fun _ => rfl⟩ ?_
          rotate_left
          · intro w
            go_simp
            try with_reducible rfl
          try simp only [Act.put, List.setIfInBounds_toArray, List.set_cons_zero, List.set_cons_succ]
          refine wpAnyIn_done (by kernel_rfl) ?_ _
          gi_wp2
          refine bodyPost_ret (results_none rfl _ _ _) rfl ?_
          exact .inl ⟨⟨_, rfl⟩, .inr HJ4.out⟩
        · exact ⟨rfl, .inr ⟨ch, rfl, hJp⟩⟩
      · have hnx : nextStk st s = st ++ [s.fn] := by unfold nextStk; rw [if_neg hle]
        gi_upto_region 6 with (fail)
        clear x0
        have HOwn1 := HOwnX
        have hbl : (Value.slice A st.length ac).ownBlock = (Value.slice A st.length ac).ownBlock := by cases A <;> rfl
        have HBl := Lib.hid hbl
        clear hbl
        have hbn : st.length ≤ 1000000 := by omega
        clear hle
        generalize st = st1 at *
        generalize st1.length = n1 at *
        have HNx := Lib.hid hnx
        have hnews : ∀ j u, ([.int .i64 s.fn] : List Value)[j]? = some u → (wx.alloc (.cells #[.int .i64 s.fn] 3)).cell? ((⟨wx.heap.size, 0, none⟩ : Addr).add j) = some u := by
          intro j u hj
          match j, hj with
          | 0, hj => simp at hj; subst hj; simp [Addr.add]
        have HNews := Lib.hid hnews
        have hbx : base ≤ wx.heap.size := by have := HB1.out.size; have := HBs.out; have := HQb.out; omega
        have HBx := Lib.hid hbx
        clear hnx hnews hbx
        gi_wp2_with (gi_at_builtin; refine wpListIn_append_own_at (P := Tryz.prog) _ rfl _ _ 22 rfl base 3 i0 (.int .i64 0) 1 8 Tryz.underlying22 hi hz0 hz1 hz2 rfl (by omega) (.slice A n1 ac) n1 (nums st1) rfl (HOwn1.out.alloc _) ⟨wx.heap.size, 0, none⟩ 1 1 [.int .i64 s.fn] rfl rfl HNews.out (by simp [Value.oneCell']) (by simp only [maxLen]; omega) (by omega) (by have := HBx.out; simp; omega) ?_; intro v' w3 hown' hg' hn' hat'; obtain ⟨g', cap', rfl⟩ := ownsRow_succ hown'; have HO3 := Lib.hid hown'; have HG3 := Lib.hid hg'; have HAt3 := Lib.hid hat'; clear hown' hg' hn' hat')
        have hnl : st1.length = n1 := by have := HOwn1.out.1; rw [nums_length] at this; omega
        have hqx : ∀ k', (Value.slice A n1 ac).ownBlock = some k' → k' ≠ qx := fun k' hk' e => by
          rcases HOwn1.out.2 with ⟨h1, -⟩ | ⟨g, cap, cur, h1, -, hh, -⟩
          · rw [h1] at hk'; cases hk'
          · rw [h1] at hk'
            simp only [Value.ownBlock, Option.some.injEq] at hk'
            subst hk'
            subst e
            have hQ := HQ.out
            rw [hh] at hQ
            injection hQ with hQ
            injection hQ with h1 h2 h3
            cases h2
        have hqlt : qx < wx.heap.size := (Array.getElem?_eq_some_iff.1 HQ.out).1
        have h3q : w3.heap[qx]? = some (.cells #[.int .i64 s.deep, .int .i64 s.fn, .int .i64 s.ins, .int .i64 s.work] 58) := (HG3.out.block qx (by simp; omega) (fun e => hqx qx e.symm rfl)).trans (heap_alloc HQ.out _)
        have hgw : wr.grownBy w3.drew (Value.slice A n1 ac).ownBlock := by
          have g1 : wr.grownBy wx (Value.slice A n1 ac).ownBlock := by rw [← HWx.out]; exact World.grownBy_alloc _ _ _
          exact (g1.trans ((World.grownBy_alloc _ _ _).trans HG3.out)).trans ⟨rfl, rfl, rfl, Nat.le_refl _, fun _ _ _ => rfl⟩
        have hown3 : OwnStk base w3.drew (.slice (some ⟨g', 0, none⟩) (n1 + 1) cap') (stkAt steps (k + 1)) := by
          unfold OwnStk
          rw [HNext.out, HNx.out, nums_append, List.length_append, hnl]
          exact HO3.out
        have hloc : (Value.slice (some ⟨g', 0, none⟩) (n1 + 1) cap').ownBlock = (Value.slice A n1 ac).ownBlock ∨ ∃ k', (Value.slice (some ⟨g', 0, none⟩) (n1 + 1) cap').ownBlock = some k' ∧ wr.heap.size ≤ k' := by
          rcases HAt3.out with h | h
          · exact .inl h
          · refine .inr ⟨_, h, ?_⟩
            rw [← HWx.out]; simp; omega
        have hjy : JY k (.slice (some ⟨g', 0, none⟩) (n1 + 1) cap') w3.drew := HSt.out k (.slice A n1 ac) _ wr w3.drew hlt HJk.out hgw hloc hown3
        obtain ⟨fn', tmps, assign, body, hy, hR⟩ := HY.out k _ w3.drew hlt hjy
        rw [HArg.out] at hy
        simp only [cutV] at hy
        have y0 := (block_cell h3q 0 (by simp)).1
        have y1 := (block_cell h3q 1 (by simp)).1
        have y2 := (block_cell h3q 2 (by simp)).1
        have y3 := (block_cell h3q 3 (by simp)).1
        simp only [List.getElem_toArray, List.getElem_cons_zero, List.getElem_cons_succ] at y0 y1 y2 y3
        have HRR := Lib.hid hR
        have hcap2 : n1 + 1 ≤ cap' := by
          rcases HO3.out.2 with ⟨h, -⟩ | ⟨g, cap, cur, h, -, -, h1, -⟩
          · cases h
          · injection h with e1 e2 e3; subst e3; exact h1
        have hp0 : (0 : Int) ≤ (n1 : Int) + 1 := by omega
        have hp1 : (n1 : Int) + 1 ≤ (cap' : Int) := by omega
        clear hnl hqx hqlt h3q hgw hown3 hloc hjy hR x1
        refine wpIn_region_any followsMixed ?_
        try (change wpAnyIn _ _ _ _ _ _ _ _ _ (World.drew _))
        refine wpAnyIn_take (i := 0) (v := ?_) rfl rfl (by kernel_rfl) (by kernel_rfl) (by kernel_rfl) (fun _ _ _ h => h) ⟨Or.inl ⟨by rfl, ?_⟩, fun _ => rfl⟩ ?_
        rotate_left
        · intro w
          go_simp
          try with_reducible rfl
        try simp only [Act.put, List.setIfInBounds_toArray, List.set_cons_zero, List.set_cons_succ]
        refine wpAnyIn_take (i := 2) (v := ?_) rfl rfl (by kernel_rfl) (by kernel_rfl) (by kernel_rfl) (fun _ _ _ h => h) ⟨Or.inl ⟨by rfl, ?_⟩, fun _ => rfl⟩ ?_
        rotate_left
        · intro w
          go_simp
          try with_reducible rfl
        try simp only [Act.put, List.setIfInBounds_toArray, List.set_cons_zero, List.set_cons_succ]
        refine wpAnyIn_take (i := 3) (v := ?_) rfl rfl (by kernel_rfl) (by kernel_rfl) (by kernel_rfl) (fun _ _ _ h => h) ⟨Or.inl ⟨by rfl, ?_⟩, fun _ => rfl⟩ ?_
        rotate_left
        · intro w
          go_simp
          try with_reducible rfl
        try simp only [Act.put, List.setIfInBounds_toArray, List.set_cons_zero, List.set_cons_succ]
        refine wpAnyIn_take (i := 5) (v := ?_) rfl rfl (by kernel_rfl) (by kernel_rfl) (by kernel_rfl) (fun _ _ _ h => h) ⟨Or.inl ⟨by rfl, ?_⟩, fun _ => rfl⟩ ?_
        rotate_left
        · intro w
          go_simp
          try with_reducible rfl
        try simp only [Act.put, List.setIfInBounds_toArray, List.set_cons_zero, List.set_cons_succ]
        refine wpAnyIn_take (i := 4) (v := ?_) rfl rfl (by kernel_rfl) (by kernel_rfl) (by kernel_rfl) (fun _ _ _ h => h) ⟨Or.inl ⟨by rfl, ?_⟩, fun _ => rfl⟩ ?_
        rotate_left
        · intro w
          go_simp
          try with_reducible rfl
        try simp only [Act.put, List.setIfInBounds_toArray, List.set_cons_zero, List.set_cons_succ]
        refine wpAnyIn_take (i := 6) (v := ?_) rfl rfl (by kernel_rfl) (by kernel_rfl) (by kernel_rfl) (fun _ _ _ h => h) ⟨Or.inl ⟨by rfl, ?_⟩, fun _ => rfl⟩ ?_
        rotate_left
        · intro w
          go_simp
          try with_reducible rfl
        try simp only [Act.put, List.setIfInBounds_toArray, List.set_cons_zero, List.set_cons_succ]
        refine wpAnyIn_take (i := 7) (v := ?_) rfl rfl (by kernel_rfl) (by kernel_rfl) (by kernel_rfl) (fun _ _ _ h => h) ⟨Or.inl ⟨by rfl, ?_⟩, fun _ => rfl⟩ ?_
        rotate_left
        · intro w
          go_simp
          try with_reducible rfl
        try simp only [Act.put, List.setIfInBounds_toArray, List.set_cons_zero, List.set_cons_succ]
        refine wpAnyIn_ready (rs := [1]) (by kernel_rfl) (by simp) ?_
        refine AllReadyIn.cons (o := _) rfl (fun K hK => ?_) AllReadyIn.nil
        have HK := Lib.hid hK; clear hK
        go_simp
        refine HK.out _ _ ?_
        clear HK K y0 y1 y2 y3
        try simp only [Act.put, List.setIfInBounds_toArray, List.set_cons_zero, List.set_cons_succ]
        refine wpAnyIn_take (i := 8) (v := ?_) rfl rfl (by kernel_rfl) (by kernel_rfl) (by kernel_rfl) (fun _ _ _ h => h) ⟨Or.inl ⟨by rfl, ?_⟩, fun _ => rfl⟩ ?_
        rotate_left
        · intro w
          go_simp
          try with_reducible rfl
        try simp only [Act.put, List.setIfInBounds_toArray, List.set_cons_zero, List.set_cons_succ]
        refine wpAnyIn_ready (rs := [9]) (by kernel_rfl) (by simp) ?_
        refine AllReadyIn.cons (o := _) rfl (fun K hK => ?_) AllReadyIn.nil
        have HK := Lib.hid hK; clear hK
        go_simp
        refine HRR.out.mono ?_
        rintro e W4 (⟨rfl, hJ4⟩ | ⟨rfl, hJx⟩ | ⟨ch, rfl, hJp⟩)
        · have HJ4 := Lib.hid hJ4
          refine HK.out _ _ ?_
          clear HK K hJ4 hy
          try simp only [Act.put, List.setIfInBounds_toArray, List.set_cons_zero, List.set_cons_succ]
          refine wpAnyIn_take (i := 10) (v := ?_) rfl rfl (by kernel_rfl) (by kernel_rfl) (by kernel_rfl) (fun _ _ _ h => h) ⟨Or.inl ⟨by rfl, ?_⟩, fun _ => rfl⟩ ?_
          rotate_left
          · intro w
            go_simp
            try with_reducible rfl
          try simp only [Act.put, List.setIfInBounds_toArray, List.set_cons_zero, List.set_cons_succ]
          refine wpAnyIn_done (by kernel_rfl) ?_ _
          gi_wp2
          go_roundw
          case rel => exact ⟨k + 1, hlt, by go_num, HJ4.out⟩
          case measure => simp [intOf]; omega
        · have HJ4 := Lib.hid hJx
          refine HK.out _ _ ?_
          clear HK K hJx hy
          try simp only [Act.put, List.setIfInBounds_toArray, List.set_cons_zero, List.set_cons_succ]
          refine wpAnyIn_take (i := 10) (v := ?_) rfl rfl (by kernel_rfl) (by kernel_rfl) (by kernel_rfl) (fun _ _ _ h => h) ⟨Or.inl ⟨by rfl, ?_⟩, fun _ => rfl⟩ ?_
          rotate_left
          · intro w
            go_simp
            try with_reducible rfl
          try simp only [Act.put, List.setIfInBounds_toArray, List.set_cons_zero, List.set_cons_succ]
          refine wpAnyIn_done (by kernel_rfl) ?_ _
          gi_wp2
          refine bodyPost_ret (results_none rfl _ _ _) rfl ?_
          exact .inl ⟨⟨_, rfl⟩, .inr HJ4.out⟩
        · exact ⟨rfl, .inr ⟨ch, rfl, hJp⟩⟩
    · obtain rfl : k = steps.length := by omega
      clear hj
      gi_wp2
      go_end0
      exact .inl ⟨⟨_, rfl⟩, .inl ⟨_, HJk.out⟩⟩
end Go.Proofs.YtdkcjeaabbkdeaaGreatDoor
end
section
namespace Go.Proofs.YtdkcjeaabbkdeaaGreatDoor
open Go.RowKit
set_option linter.unusedVariables false
set_option linter.unusedSimpArgs false

/-- A number is added to one of the cells. -/
def addAt (cs : List Int) (i : Nat) (x : Int) : List Int := cs.set i (wrap64 (cs.getD i 0 + x))
def insOf (p : Pr) (s : Step) : Ins := (fnOf p s).code.getD s.ins.toNat ⟨⟨0, 0, [], []⟩, []⟩
def callS (p : Pr) (s : Step) (cs : List Int) : List Int := if (insOf p s).op = 16 then addAt cs ((insOf p s).n.toNat * 4 + 1) 1 else cs
def ownS (s : Step) (cs : List Int) : List Int := addAt cs (s.fn.toNat * 4 + 2) s.work
def wholeS (st : List Int) (s : Step) (cs : List Int) : Nat → List Int
  | 0 => cs
  | j + 1 => if (st.take j).contains (st.getD j 0) then wholeS st s cs j else addAt (wholeS st s cs j) ((st.getD j 0).toNat * 4 + 3) s.work
def funS (p : Pr) (st : List Int) (s : Step) (cs : List Int) : List Int := wholeS st s (ownS s (callS p s cs)) st.length
/-- The functions' numbers, each cost nothing. -/
def fillS (n : Nat) : Nat → List Int
  | 0 => List.replicate (n * 4) 0
  | k + 1 => (fillS n k).set (k * 4) k
def funs0 (p : Pr) : List Int := (fillS p.funs.length p.funs.length).set (p.main.toNat * 4 + 1) 1
/-- The costs of all functions, k steps being over: four cells for each function. -/
def funsAt (p : Pr) (steps : List Step) : Nat → List Int
  | 0 => funs0 p
  | k + 1 => funS p (stkAt steps (k + 1)) (steps.getD k ⟨0, 0, 0, 0⟩) (funsAt p steps k)
theorem addAt_length (cs : List Int) (i : Nat) (x : Int) : (addAt cs i x).length = cs.length := by unfold addAt; simp
theorem callS_length (p : Pr) (s : Step) (cs : List Int) : (callS p s cs).length = cs.length := by unfold callS; split <;> simp [addAt_length]
theorem ownS_length (s : Step) (cs : List Int) : (ownS s cs).length = cs.length := addAt_length _ _ _
theorem wholeS_length (st : List Int) (s : Step) (cs : List Int) (j : Nat) : (wholeS st s cs j).length = cs.length := by
  induction j with
  | zero => rfl
  | succ j ih => unfold wholeS; split <;> simp [addAt_length, ih]
theorem fillS_length (n k : Nat) : (fillS n k).length = n * 4 := by
  induction k with
  | zero => simp [fillS]
  | succ k ih => unfold fillS; simp [ih]
theorem funs0_length (p : Pr) : (funs0 p).length = p.funs.length * 4 := by unfold funs0; simp [fillS_length]
theorem funsAt_length (p : Pr) (steps : List Step) (k : Nat) : (funsAt p steps k).length = p.funs.length * 4 := by
  induction k with
  | zero => exact funs0_length p
  | succ k ih => unfold funsAt funS; rw [wholeS_length, ownS_length, callS_length, ih]
/-- What is asked of a step: it lies in the program. -/
structure StepIn (p : Pr) (s : Step) : Prop where
  fn : 0 ≤ s.fn ∧ s.fn < p.funs.length
  ins : 0 ≤ s.ins ∧ s.ins < (fnOf p s).code.length
  call : (insOf p s).op = 16 → 0 ≤ (insOf p s).n ∧ (insOf p s).n < p.funs.length
  deep : 1 ≤ s.deep
theorem stkAt_in (p : Pr) (steps : List Step) (h : ∀ s ∈ steps, StepIn p s) (k : Nat) : ∀ x ∈ stkAt steps k, 0 ≤ x ∧ x < p.funs.length := by
  induction k with
  | zero => intro x hx; simp [stkAt] at hx
  | succ k ih =>
    intro x hx
    by_cases hk : k < steps.length
    · rw [stkAt_succ steps k hk] at hx
      unfold nextStk at hx
      rw [List.mem_append] at hx
      rcases hx with hx | hx
      · split at hx
        · exact ih x (List.mem_of_mem_take hx)
        · exact ih x hx
      · rw [List.mem_singleton] at hx
        subst hx
        exact (h _ (List.getElem_mem hk)).fn
    · have : stkAt steps (k + 1) = stkAt steps k := by unfold stkAt; rw [List.take_of_length_le (by omega), List.take_of_length_le (by omega)]
      rw [this] at hx
      exact ih x hx
theorem nums_set (cs : List Int) (i : Nat) (x : Int) : nums (cs.set i x) = (nums cs).set i (.int .i64 x) := by simp [nums, List.map_set]
theorem nums_getD (cs : List Int) (i : Nat) (h : i < cs.length) : (nums cs)[i]? = some (.int .i64 (cs.getD i 0)) := by
  simp [nums, List.getD_eq_getElem?_getD, List.getElem?_eq_getElem h]

/-- The costs of functions, as they lie in memory. -/
structure FnAt (w1 : World) (r b q : Nat) (n : Nat) (T : Option Addr) (tl tc : Nat) (base : Nat) (cs : List Int) (v : Value) (st : List Int) (W : World) : Prop where
  low : Below w1.heap.size w1 W
  ge : w1.heap.size ≤ r ∧ w1.heap.size ≤ b ∧ w1.heap.size ≤ q ∧ r < base ∧ b < base ∧ q < base
  above : base ≤ W.heap.size
  row : W.heap[r]? = some (.cells (nums cs).toArray 68)
  box : W.heap[b]? = some (.cells #[.slice (some ⟨r, 0, none⟩) n n] 33)
  seq : W.heap[q]? = some (.cells #[.slice T tl tc] 53)
  own : OwnStk base W v st
theorem ownsRow_kept {W W' : World} {base e k n : Nat} {v : Value} {xs : List Value} (h : W.ownsRow base e k v n xs) (hh : ∀ g o, v.ownBlock = some g → W.heap[g]? = some o → isBook o = false → W'.heap[g]? = some o) : W'.ownsRow base e k v n xs := by
  refine ⟨h.1, ?_⟩
  rcases h.2 with h | ⟨g, cap, cur, rfl, hg, hc, r⟩
  · exact .inl h
  · exact .inr ⟨g, cap, cur, rfl, hg, hh g _ rfl hc rfl, r⟩
theorem FnAt.below {w1 : World} {r b q n : Nat} {T : Option Addr} {tl tc base : Nat} {cs : List Int} {v : Value} {st : List Int} {W W' : World} (h : FnAt w1 r b q n T tl tc base cs v st W) (hb : Below W.heap.size W W') : FnAt w1 r b q n T tl tc base cs v st W' :=
  ⟨below_into h.low h.low.size hb, h.ge, Nat.le_trans h.above hb.size, heap_keep hb h.row, heap_keep hb h.box, heap_keep hb h.seq, ownsRow_kept h.own fun g o _ ho _ => heap_keep hb ho⟩
theorem FnAt.putObj {w1 : World} {r b q n : Nat} {T : Option Addr} {tl tc base : Nat} {cs : List Int} {v : Value} {st : List Int} {W : World} {l : Nat} {o : Obj} (h : FnAt w1 r b q n T tl tc base cs v st W) (hl : ∃ r, W.heap[l]? = some (.loop r)) (hbl : base ≤ l) : FnAt w1 r b q n T tl tc base cs v st (W.putObj l o) :=
  ⟨below_putObj h.low (by have := h.ge; omega), h.ge, by rw [World.putObj_size]; exact h.above, heap_putObj hl h.row rfl, heap_putObj hl h.box rfl, heap_putObj hl h.seq rfl, ownsRow_book hl h.own⟩
theorem FnAt.grown {w1 : World} {r b q n : Nat} {T : Option Addr} {tl tc base : Nat} {cs : List Int} {v v' : Value} {st st' : List Int} {W W' : World} (h : FnAt w1 r b q n T tl tc base cs v st W) (hg : W.grownBy W' v.ownBlock) (ho : OwnStk base W' v' st') : FnAt w1 r b q n T tl tc base cs v' st' W' := by
  have hne : ∀ k, k < base → v.ownBlock ≠ some k := fun k hk e => by
    have := (World.ownsRow.lt h.own k e).1; omega
  have key : ∀ k o, k < base → W.heap[k]? = some o → W'.heap[k]? = some o := fun k o hk ho => (hg.block k (Array.getElem?_eq_some_iff.1 ho).1 (fun e => hne k hk e.symm)).trans ho
  refine ⟨h.low.grown hg h.low.size (fun j hj => ?_), h.ge, Nat.le_trans h.above hg.size, key _ _ h.ge.2.2.2.1 h.row, key _ _ h.ge.2.2.2.2.1 h.box, key _ _ h.ge.2.2.2.2.2 h.seq, ho⟩
  have := (World.ownsRow.lt h.own j hj).1; have := h.ge; omega
theorem FnAt.set {w1 : World} {r b q n : Nat} {T : Option Addr} {tl tc base : Nat} {cs : List Int} {v : Value} {st : List Int} {W : World} (h : FnAt w1 r b q n T tl tc base cs v st W) (i : Nat) (x : Int) : FnAt w1 r b q n T tl tc base (cs.set i x) v st (W.setCell ⟨r, i, none⟩ (.int .i64 x)) := by
  have hne : ∀ k o, k ≠ r → W.heap[k]? = some o → (W.setCell ⟨r, i, none⟩ (.int .i64 x)).heap[k]? = some o := fun k o hk ho => by
    rw [Below.heap_setCell _ _ _ _ hk]; exact ho
  have h1 : r ≠ b := fun e => by have h1 := h.row; have h2 := h.box; rw [e, h2] at h1; injection h1 with h1; injection h1 with _ h1 _; cases h1
  have h2 : r ≠ q := fun e => by have h1 := h.row; have h2 := h.seq; rw [e, h2] at h1; injection h1 with h1; injection h1 with _ h1 _; cases h1
  refine ⟨h.low.setCell (p := ⟨r, i, none⟩) h.ge.1 _, h.ge, by rw [World.size_setCell]; exact h.above, ?_, hne _ _ (Ne.symm h1) h.box, hne _ _ (Ne.symm h2) h.seq, ?_⟩
  · have := heap_setCell h.row i (.int .i64 x)
    rw [nums_set]; simpa using this
  · refine ownsRow_kept h.own fun g o hg ho _ => hne _ _ (fun e => ?_) ho
    subst e
    have := (World.ownsRow.lt h.own g hg).1; have := h.ge; omega
theorem FnAt.cell {w1 : World} {r b q n : Nat} {T : Option Addr} {tl tc base : Nat} {cs : List Int} {v : Value} {st : List Int} {W : World} (h : FnAt w1 r b q n T tl tc base cs v st W) (i : Nat) (hi : i < cs.length) : W.cell? ⟨r, i, none⟩ = some (.int .i64 (cs.getD i 0)) := by
  rw [cell_of_heap h.row i, List.getElem?_toArray]; exact nums_getD cs i hi
theorem FnAt.books {w1 : World} {r b q n : Nat} {T : Option Addr} {tl tc base : Nat} {cs : List Int} {v : Value} {st : List Int} {W : World} (h : FnAt w1 r b q n T tl tc base cs v st W) (i : Nat) (x : Value) : Books W (W.setCell ⟨r, i, none⟩ x) := fun k o hk ho => by
  rw [Below.heap_setCell _ _ _ _ (fun e => ?_)]; exact hk
  subst e
  rw [h.row] at hk; cases hk; cases ho
theorem ints_prefix {w : World} {A : Option Addr} {n c c' : Nat} {xs : List Int} (h : Ints w (.slice A n c) xs) (j : Nat) (hj : j ≤ xs.length) (hc : j ≤ c') : Ints w (.slice A j c') (xs.take j) := by
  obtain ⟨A', c1, he, hm, hh⟩ := h
  cases he
  have hl : (xs.take j).length = j := by rw [List.length_take]; omega
  refine ⟨A, c', by rw [hl], by rw [hl]; omega, fun i hi => ?_⟩
  rw [hl] at hi
  obtain ⟨b, off, cs, h1, h2, h3, h4⟩ := hh i (by omega)
  exact ⟨b, off, cs, h1, h2, h3, by rw [List.getElem_take]; exact h4⟩
/-- A scope within a fence through which the run goes without a jump back. -/
theorem stepR_scope {P : Program} {b : Frame} {a : Act} {k : List Item} {cs : List Frame} {w : World} {c : Code} : step P (lone (b.atR a (.code (.scope c) :: k)) cs w) = .next (lone (b.atR a (.code c :: .inScope c :: k)) cs w) :=
  step_lone_go (by simp [stepG, stepG.exec, Frame.atR])
theorem stepR_inScope {P : Program} {b : Frame} {a : Act} {k : List Item} {cs : List Frame} {w : World} {c : Code} : step P (lone (b.atR a (.inScope c :: k)) cs w) = .next (lone (b.atR a k) cs w) :=
  step_lone_go (by simp [stepG, stepG.exec, Frame.atR])
theorem wpIn_scope {F : Fence} {n : Nat} {P : Program} {Q : Exit → Act → World → Prop} {a : Act} {w : World} {c : Code} (h : c.wpIn F n P (Exit.noGoto Q) a w) : (Code.scope c).wpIn F n P Q a w := by
  intro b k cs hro hb hr
  have h0 : (lone (b.atR a (.code (.scope c) :: k)) cs w).fenced P F := fenced_calm hb hr rfl
  obtain ⟨e, a₁, w₁, hq, harr⟩ := h b (.inScope c :: k) cs hro hb hr
  cases e with
  | normal => exact ⟨.normal, a₁, w₁, hq, .head h0 stepR_scope (StepsIn.trans harr (.one (fenced_calm hb hr rfl) stepR_inScope))⟩
  | exit id =>
    have hx : exitTo id (.inScope c :: k) = exitTo id k := by simp [exitTo]
    exact ⟨.exit id, a₁, w₁, hq, fun k' hk => .head h0 stepR_scope (harr.1 k' (by rw [hx]; exact hk)),
      fun hr' hk => let ⟨k₁, h1, h2⟩ := harr.2 hr' (by rw [hx]; exact hk); ⟨k₁, h1, .head h0 stepR_scope h2⟩⟩
  | goto l => exact hq.elim
  | ret => exact ⟨_, a₁, w₁, hq, .of_steps (.one h0 stepR_scope) harr⟩
  | panic ch => exact ⟨_, a₁, w₁, hq, .of_steps (.one h0 stepR_scope) harr⟩
  | outgrown => exact ⟨_, a₁, w₁, hq, .of_steps (.one h0 stepR_scope) harr⟩
end Go.Proofs.YtdkcjeaabbkdeaaGreatDoor
end
