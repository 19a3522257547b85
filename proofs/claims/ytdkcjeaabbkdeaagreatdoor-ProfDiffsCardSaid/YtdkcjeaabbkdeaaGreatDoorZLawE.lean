/- The law ProfDiffs: what it gives. -/
import Derived.Test.YtdkcjeaabbkdeaaGreatDoorZLawD
import Derived.Test.YtdkcjeaabbkdeaaGreatDoorZDiffW
import Derived.Test.YtdkcjeaabbkdeaaGreatDoorZLawW
set_option linter.unusedVariables false
set_option linter.unusedSimpArgs false
set_option linter.unnecessarySimpa false
set_option linter.unusedSectionVars false
namespace Go.Proofs.YtdkcjeaabbkdeaaGreatDoor
open Go.RowKit Go.Shelf
set_option linter.unusedVariables false
set_option linter.unusedSimpArgs false
/-- What is drawn of two lists. -/
structure DiffsAt (l m x y T : List NodeC) (J : Nat) : Prop where
  dx : DiffL l m x
  dy : DiffL m l y
  xy : x = y.map minusN
  top : T = refTopAll l
theorem diffs_top {l : List NodeC} {k : Int} {w w' : World} {e : Ending} (hr : rightB l = true) (hk : 0 ≤ k) (h : TopPost l k w e w') : Below w.heap.size w w' ∧ ∃ v, e = .returned (.tuple #[v, .int .i64 0]) ∧ NodesL w' v ((refTopAll l).take k.toNat) := by
  obtain ⟨hb, v, x, rfl, h⟩ := h
  rw [if_neg (by rw [hr]; simp), if_neg (by omega)] at h
  obtain ⟨rfl, m, hp, hs, hn⟩ := h
  rw [top_unique l m (rightB_asc hr) hp hs] at hn
  exact ⟨hb, v, rfl, hn⟩
theorem diffs_diff {l m : List NodeC} {w w' : World} {e : Ending} (hl : rightB l = true) (hm : rightB m = true) (h : DiffPost l m w e w') : Below w.heap.size w w' ∧ ∃ v d, e = .returned (.tuple #[v, .int .i64 0]) ∧ DiffL l m d ∧ NodesL w' v d := by
  obtain ⟨hb, v, x, rfl, h⟩ := h
  rw [if_neg (by rw [hl, hm]; simp)] at h
  obtain ⟨rfl, d, hd, hn⟩ := h
  exact ⟨hb, v, d, rfl, hd, hn⟩
set_option maxRecDepth 100000 in
set_option maxHeartbeats 8000000 in
theorem law_diffs (La Lb : List Int) (va vb : Value) (K : Int) (w : World) (hG : AllG w) (ha : Ints w va La) (hb : Ints w vb Lb) (hia : ∀ x ∈ La, inInt x) (hib : ∀ x ∈ Lb, inInt x) (hK : inInt K) :
    Calls Tryz.prog 9 #[va, vb, .int .i64 K] w (Gives w (.bool true)) := by
  have HG := Lib.hid hG
  have HSa := Lib.hid (law_some La va w ha hia)
  have HSb := Lib.hid (fun W (h : Below w.heap.size w W) => law_some Lb vb W (hb.below h) hib)
  have hl20 : someK La ≤ 20 := by unfold someK; omega
  have hm20 : someK Lb ≤ 20 := by unfold someK; omega
  have HLr := Lib.hid (someL_right La (someK La))
  have HMr := Lib.hid (someL_right Lb (someK Lb))
  have HLf := Lib.hid (someL_fits La (someK La) hl20)
  have HMf := Lib.hid (someL_fits Lb (someK Lb) hm20)
  have HLb := Lib.hid (someL_bounds La (someK La) hl20)
  have HMb := Lib.hid (someL_bounds Lb (someK Lb) hm20)
  have hll : (someL La (someK La)).length ≤ 20 := by rw [someL_length]; exact hl20
  have hml : (someL Lb (someK Lb)).length ≤ 20 := by rw [someL_length]; exact hm20
  obtain ⟨Aa, ca, rfl, hma⟩ := ha.form
  obtain ⟨Ab, cb, rfl, hmb⟩ := hb.form
  clear hG ha hb hia hib hma hmb
  generalize someL La (someK La) = l at *
  generalize someL Lb (someK Lb) = m at *
  go_enter Tryz.func9, Tryz.ntmps9
  go_wp2_with fail
  refine HSa.out.mono ?_
  rintro e w1 ⟨hb1, v1, rfl, ho1⟩
  have HSb2 := Lib.hid (HSb.out w1 hb1)
  have HB1 := Lib.hid hb1
  have HO1 := Lib.hid ho1
  clear hb1 ho1 HSa HSb
  go_wp2_with fail
  refine HSb2.out.mono ?_
  rintro e w2 ⟨hb2, v2, rfl, ho2⟩
  have HB2 := Lib.hid (HB1.out.trans (hb2.mono HB1.out.size))
  have HL := Lib.hid (NodesL.below (HO1.out.nodes (by omega)) hb2)
  have HM := Lib.hid (ho2.nodes (by omega))
  obtain ⟨gl, cl, rfl, -, -, -⟩ := HO1.out.form
  obtain ⟨gm, cm, rfl, -, -, -⟩ := ho2.form
  clear hb2 ho2 HO1 HSb2
  have HD1 := Lib.hid (prof_diff l m _ _ w2 (HG.out.below HB2.out).prof HL.out HM.out HLf.out HMf.out (by omega) (by omega))
  go_wp2_with fail
  refine HD1.out.mono ?_
  intro e w3 hp
  obtain ⟨hb3, vx, x, rfl, hdx, hnx⟩ := diffs_diff HLr.out HMr.out hp
  have HB3 := Lib.hid (HB2.out.trans (hb3.mono HB2.out.size))
  replace HL := Lib.hid (NodesL.below HL.out hb3)
  replace HM := Lib.hid (NodesL.below HM.out hb3)
  have HX := Lib.hid hnx
  have HDx := Lib.hid hdx
  obtain ⟨Ax, cx, rfl, hxm, -⟩ := hnx.form
  clear hp hb3 hnx hdx HD1
  have HD2 := Lib.hid (prof_diff m l _ _ w3 (HG.out.below HB3.out).prof HM.out HL.out HMf.out HLf.out (by omega) (by omega))
  go_wp2_with fail
  refine HD2.out.mono ?_
  intro e w4 hp
  obtain ⟨hb4, vy, y, rfl, hdy, hny⟩ := diffs_diff HMr.out HLr.out hp
  have HB4 := Lib.hid (HB3.out.trans (hb4.mono HB3.out.size))
  replace HL := Lib.hid (NodesL.below HL.out hb4)
  replace HM := Lib.hid (NodesL.below HM.out hb4)
  replace HX := Lib.hid (NodesL.below HX.out hb4)
  have HY := Lib.hid hny
  have HDy := Lib.hid hdy
  have hxy : x.length = y.length := by rw [diff_turned HDx.out hdy, List.length_map]
  obtain ⟨Ay, cy, hvy, -⟩ := hny.form
  rw [← hxy] at hvy
  subst hvy
  have HXY := Lib.hid hxy
  clear hp hb4 hny hdy HD2 hxy
  have HD3 := Lib.hid (prof_diff l l _ _ w4 (HG.out.below HB4.out).prof HL.out HL.out HLf.out HLf.out (by omega) (by omega))
  go_wp2_with fail
  refine HD3.out.mono ?_
  intro e w5 hp
  obtain ⟨hb5, vz, z, rfl, hdz, hnz⟩ := diffs_diff HLr.out HLr.out hp
  obtain rfl := diff_none hdz
  have HB5 := Lib.hid (HB4.out.trans (hb5.mono HB4.out.size))
  replace HL := Lib.hid (NodesL.below HL.out hb5)
  replace HM := Lib.hid (NodesL.below HM.out hb5)
  replace HX := Lib.hid (NodesL.below HX.out hb5)
  replace HY := Lib.hid (NodesL.below HY.out hb5)
  obtain ⟨Az, cz, rfl, -⟩ := hnz.form
  clear hp hb5 hnz hdz HD3
  have HT1 := Lib.hid (prof_top l _ cl l.length w5 (HG.out.below HB5.out).prof HL.out (fun h => by cases h) (by omega) (fun q hq => (HLf.out q hq).2.2.1))
  go_wp2_with fail
  refine HT1.out.mono ?_
  intro e w6 hp
  obtain ⟨hb6, vt, rfl, hnt⟩ := diffs_top HLr.out (by omega) hp
  have HTl : Hid ((refTopAll l).length = l.length) := (refTop_is l (rightB_asc HLr.out)).1.length_eq
  have HT := Lib.hid (show NodesL w6 vt (refTopAll l) by rw [Int.toNat_natCast, List.take_of_length_le (by rw [HTl.out]; exact Nat.le_refl _)] at hnt; exact hnt)
  have HB6 := Lib.hid (HB5.out.trans (hb6.mono HB5.out.size))
  replace HL := Lib.hid (NodesL.below HL.out hb6)
  replace HM := Lib.hid (NodesL.below HM.out hb6)
  replace HX := Lib.hid (NodesL.below HX.out hb6)
  replace HY := Lib.hid (NodesL.below HY.out hb6)
  obtain ⟨At, ct, hvt, hct1, hct⟩ := HT.out.form
  rw [HTl.out] at hvt hct
  subst hvt
  generalize hT : refTopAll l = T at *
  have HTe := Lib.hid hT
  clear hp hb6 hnt HT1 hct1 hT
  have HTu := Lib.hid (fun W => law_turn K ((l.length : Int) + 3) hK (by omega) (by omega) W)
  obtain ⟨J, hJ⟩ : ∃ J : Nat, K % ((l.length : Int) + 3) = (J : Int) := ⟨(K % ((l.length : Int) + 3)).toNat, by have := Int.emod_nonneg K (show (l.length : Int) + 3 ≠ 0 by omega); omega⟩
  rw [hJ] at HTu
  clear hJ hK
  have aw : IntKind.i64.wrap ((l.length : Int) + 3) = (l.length : Int) + 3 := IntWalk.i64_in _ (by omega)
  go_wp2_with fail
  refine (HTu.out _).mono ?_
  rintro e w7 ⟨rfl, rfl⟩
  have HT2 := Lib.hid (prof_top l _ cl (J : Int) w7 (HG.out.below HB6.out).prof HL.out (fun h => by cases h) (by omega) (fun q hq => (HLf.out q hq).2.2.1))
  go_wp2_with fail
  refine HT2.out.mono ?_
  intro e w8 hp
  obtain ⟨hb8, vp, rfl, hnp⟩ := diffs_top HLr.out (by omega) hp
  rw [Int.toNat_natCast, HTe.out] at hnp
  have HB8 := Lib.hid (HB6.out.trans (hb8.mono HB6.out.size))
  replace HL := Lib.hid (NodesL.below HL.out hb8)
  replace HM := Lib.hid (NodesL.below HM.out hb8)
  replace HX := Lib.hid (NodesL.below HX.out hb8)
  replace HY := Lib.hid (NodesL.below HY.out hb8)
  replace HT := Lib.hid (NodesL.below HT.out hb8)
  have HP := Lib.hid hnp
  obtain ⟨Ap, cp, hvp, -⟩ := hnp.form
  have hpl : (T.take J).length = min J l.length := by rw [List.length_take, HTl.out]
  have hTk : T.take J = T.take (min J l.length) := by rw [List.take_eq_take_iff, HTl.out]; omega
  rw [hpl] at hvp
  subst hvp
  have hmin : min (l.length : Int) (J : Int) = ((min J l.length : Nat) : Int) := by omega
  have hple : min J l.length ≤ l.length := Nat.min_le_right _ _
  have HTk := Lib.hid hTk
  generalize min J l.length = pl at *
  have hp0 : (0 : Int) ≤ (pl : Int) := by omega
  have hp1 : (pl : Int) ≤ (ct : Int) := by omega
  have HPs := Lib.hid (law_same (T.take J) (T.take pl) _ _ w8 HP.out (nodesL_take HT.out pl (by rw [HTl.out]; exact hple) ct (by omega)))
  rw [HTk.out, decide_eq_true rfl] at HPs
  clear hp hb8 hnp HT2 hpl hTk
  go_wp2_with fail
  refine (HTu.out _).mono ?_
  rintro e w9 ⟨rfl, rfl⟩
  go_wp2_with fail
  refine HPs.out.mono ?_
  rintro e w10 ⟨rfl, hb10⟩
  have HB10 := Lib.hid (HB8.out.trans (hb10.mono HB8.out.size))
  replace HL := Lib.hid (NodesL.below HL.out hb10)
  replace HM := Lib.hid (NodesL.below HM.out hb10)
  replace HX := Lib.hid (NodesL.below HX.out hb10)
  replace HY := Lib.hid (NodesL.below HY.out hb10)
  replace HT := Lib.hid (NodesL.below HT.out hb10)
  clear hb10 HPs HP hp0 hp1 hmin aw HTu
  have HXm := Lib.hid (show ∀ n (h1 : n < x.length) (h2 : n < y.length), x[n] = minusN y[n] by
    have h := diff_turned HDx.out HDy.out
    intro n h1 h2
    have e : x[n]? = (y.map minusN)[n]? := by rw [← h]
    rw [List.getElem?_eq_getElem h1, List.getElem?_map, List.getElem?_eq_getElem h2] at e
    exact Option.some.inj e)
  go_wp2_with fail
  go_loopw [19] (fun i W => ∃ n : Nat, n ≤ x.length ∧ i = .int .i64 n ∧ Below w10.heap.size w10 W) (fun i _ => x.length - (intOf i).toNat)
  case atStart => exact ⟨0, Nat.zero_le _, rfl, Below.refl _ _⟩
  case round =>
  obtain ⟨n, hn, rfl, hbr⟩ := hrel
  have HBr := Lib.hid hbr
  by_cases hlt : n < x.length
  case pos =>
    have hly : n < y.length := by rw [← HXY.out]; exact hlt
    obtain ⟨bx, ox, rfl, c0, c1, c2, c3⟩ := (HX.out.below hbr).at_ n hlt
    obtain ⟨by', oy, rfl, d0, d1, d2, d3⟩ := (HY.out.below hbr).at_ n hly
    obtain ⟨hnz, hmr⟩ := (HDx.out.2 x[n]).1 (List.getElem_mem hlt)
    have hprev : 0 < n → ∃ zn : Int, wr.cell? ⟨bx, ox + (n - 1) * 4, none⟩ = some (.int .i64 zn) ∧ zn < x[n].node := fun h0 => by
      obtain ⟨b', o', e', z0, -⟩ := (HX.out.below hbr).at_ (n - 1) (by omega)
      cases e'
      exact ⟨_, z0, by have := HDx.out.1; unfold Asc at this; rw [List.pairwise_iff_getElem] at this; exact this (n - 1) n (by omega) hlt (by omega)⟩
    rw [HXm.out n hlt hly] at c0 c1 c2 c3 hnz hmr hprev
    generalize y[n] = q at *
    simp only [minusN] at c0 c1 c2 c3 hprev
    have hnode : (minusN q).node = q.node := rfl
    rw [hnode] at hmr
    have HOa := Lib.hid (fun W (h : Below wr.heap.size wr W) => (law_of l q.node _ W ((HL.out.below hbr).below h)).mono fun e w' (h' : _ ∧ Below W.heap.size W w') => And.intro h'.1 (below_step h h'.2))
    have HOb := Lib.hid (fun W (h : Below wr.heap.size wr W) => (law_of m q.node _ W ((HM.out.below hbr).below h)).mono fun e w' (h' : _ ∧ Below W.heap.size W w') => And.intro h'.1 (below_step h h'.2))
    have hab : ∀ k : List NodeC, (∀ z ∈ k, (-2 ≤ z.node ∧ z.node < 200) ∧ (0 ≤ z.count ∧ z.count < 5) ∧ (0 ≤ z.work ∧ z.work < 50) ∧ (0 ≤ z.cycles ∧ z.cycles < 7)) → (0 ≤ (ofN k q.node).count ∧ (ofN k q.node).count < 5) ∧ (0 ≤ (ofN k q.node).work ∧ (ofN k q.node).work < 50) ∧ (0 ≤ (ofN k q.node).cycles ∧ (ofN k q.node).cycles < 7) := fun k hk => by
      rcases ofN_cases k q.node with h | h
      · exact (hk _ h).2
      · rw [h]; simp
    have ha := hab l HLb.out
    have hbb := hab m HMb.out
    have hAn : (ofN l q.node).node = q.node := ofN_node _ _
    generalize ofN l q.node = a at *
    generalize ofN m q.node = b at *
    obtain ⟨an, ac, aw, ay⟩ := a
    obtain ⟨bn, bc, bw, bz⟩ := b
    obtain rfl : an = q.node := hAn
    simp only at ha hbb
    have hm1 : -q.count = bc - ac ∧ -q.work = bw - aw ∧ -q.cycles = bz - ay := by
      unfold minusN moreN at hmr
      simp only [NodeC.mk.injEq] at hmr
      exact hmr.2
    have HDf := Lib.hid (fun W (h : Below wr.heap.size wr W) => (law_differ ⟨q.node, ac, aw, ay⟩ ⟨bn, bc, bw, bz⟩ W).mono fun e w' (h' : _ ∧ Below W.heap.size W w') => And.intro h'.1 (below_step h h'.2))
    have w1' : wrap64 (bc - ac) = -q.count := by unfold wrap64; omega
    have w2' : wrap64 (bw - aw) = -q.work := by unfold wrap64; omega
    have w3' : wrap64 (bz - ay) = -q.cycles := by unfold wrap64; omega
    simp only [w1', w2', w3', nodeCells] at HDf HOa HOb
    have HNd := Lib.hid (fun W (h : Below wr.heap.size wr W) => (law_node q.node (-q.count) (-q.work) (-q.cycles) W).mono fun e w' (h' : _ ∧ Below W.heap.size W w') => And.intro h'.1 (below_step h h'.2))
    have HNz := Lib.hid (fun W (h : Below wr.heap.size wr W) => (law_node q.node 0 0 0 W).mono fun e w' (h' : _ ∧ Below W.heap.size W w') => And.intro h'.1 (below_step h h'.2))
    simp only [nodeCells] at HNd HNz
    have hn1 : ∀ W, (binOp .neq 73 (.agg #[.int .i64 q.node, .int .i64 (-q.count), .int .i64 (-q.work), .int .i64 (-q.cycles)]) (.agg #[.int .i64 q.node, .int .i64 (-q.count), .int .i64 (-q.work), .int .i64 (-q.cycles)])).run Tryz.prog W = .ok (.bool false) W := fun W => by
      have := neq_node ⟨q.node, -q.count, -q.work, -q.cycles⟩ ⟨q.node, -q.count, -q.work, -q.cycles⟩ W
      rw [decide_eq_true rfl] at this
      exact this
    have hn2 : ∀ W, (binOp .eql 73 (.agg #[.int .i64 q.node, .int .i64 (-q.count), .int .i64 (-q.work), .int .i64 (-q.cycles)]) (.agg #[.int .i64 q.node, .int .i64 0, .int .i64 0, .int .i64 0])).run Tryz.prog W = .ok (.bool false) W := fun W => by
      have := eql_node ⟨q.node, -q.count, -q.work, -q.cycles⟩ ⟨q.node, 0, 0, 0⟩ W
      rw [decide_eq_false (by intro e; rw [NodeC.mk.injEq] at e; unfold nonzero minusN at hnz; simp only [Bool.or_eq_true, bne_iff_ne, ne_eq] at hnz; omega)] at this
      exact this
    have a1 : IntKind.i64.wrap (-q.count) = -q.count := IntWalk.i64_in _ (by omega)
    have a2 : IntKind.i64.wrap (-q.work) = -q.work := IntWalk.i64_in _ (by omega)
    have a3 : IntKind.i64.wrap (-q.cycles) = -q.cycles := IntWalk.i64_in _ (by omega)
    have hn0 : (0 : Int) ≤ (n : Int) := by omega
    have hn3 : (n : Int) < (x.length : Int) := by omega
    have HCx := Lib.hid (fun W (h : Below wr.heap.size wr W) => And.intro (cell_keep h c0) (And.intro (cell_keep h c1) (And.intro (cell_keep h c2) (cell_keep h c3))))
    have HCy := Lib.hid (fun W (h : Below wr.heap.size wr W) => And.intro (cell_keep h d0) (And.intro (cell_keep h d1) (And.intro (cell_keep h d2) (cell_keep h d3))))
    clear c0 c1 c2 c3 d0 d1 d2 d3 ha hbb hm1 hmr hnz w1' w2' w3' hnode hab hbr hn
    by_cases h0 : 0 < n
    case pos =>
      obtain ⟨zn, z0, hz⟩ := hprev h0
      have hzl : ¬ q.node ≤ zn := by omega
      have hzd : decide (q.node ≤ zn) = false := decide_eq_false hzl
      have hp5 : (0 : Int) < (n : Int) := by omega
      have b1 : IntKind.i64.wrap ((n : Int) - 1) = (n : Int) - 1 := IntWalk.i64_in _ (by omega)
      have b2 : ((n : Int) - 1).toNat = n - 1 := by omega
      have b3 : (0 : Int) ≤ (n : Int) - 1 := by omega
      have b4 : (n : Int) - 1 < (x.length : Int) := by omega
      have b5 : ¬ ((n : Int) - 1 < 0) := by omega
      have b6 : ¬ ((x.length : Int) ≤ (n : Int) - 1) := by omega
      have b7 : (1 : Int) ≤ (n : Int) := by omega
      have HS := Lib.hid (fun W (h : Below wr.heap.size wr W) => And.intro h (And.intro (HCx.out W h).1 (And.intro (HCx.out W h).2.1 (And.intro (HCx.out W h).2.2.1 (And.intro (HCx.out W h).2.2.2 (And.intro (HCy.out W h).1 (And.intro (HCy.out W h).2.1 (And.intro (HCy.out W h).2.2.1 (And.intro (HCy.out W h).2.2.2 (cell_keep h z0))))))))))
      clear z0 hprev
      as_aux_lemma =>
        go_upto_region 12 with (fail)
        try simp only [List.append_eq, List.cons_append, List.nil_append]
        refine wp_region_held_drew (S := (fun W => Below wr.heap.size wr W ∧ W.cell? ⟨bx, ox + n * 4, none⟩ = some (.int .i64 q.node) ∧ W.cell? ⟨bx, ox + n * 4 + 1, none⟩ = some (.int .i64 (-q.count)) ∧ W.cell? ⟨bx, ox + n * 4 + 2, none⟩ = some (.int .i64 (-q.work)) ∧ W.cell? ⟨bx, ox + n * 4 + 3, none⟩ = some (.int .i64 (-q.cycles)) ∧ W.cell? ⟨by', oy + n * 4, none⟩ = some (.int .i64 q.node) ∧ W.cell? ⟨by', oy + n * 4 + 1, none⟩ = some (.int .i64 q.count) ∧ W.cell? ⟨by', oy + n * 4 + 2, none⟩ = some (.int .i64 q.work) ∧ W.cell? ⟨by', oy + n * 4 + 3, none⟩ = some (.int .i64 q.cycles) ∧ W.cell? ⟨bx, ox + (n - 1) * 4, none⟩ = some (.int .i64 zn))) (by kernel_rfl) ?_ (fun hHeld => ?_)
        · exact HS.out _ (below_drew _)
        refine wpAnyH_take (i := 0) (oi := { dst := some 127, op := Op.move (Operand.tmp 9), type := 29, pos := "outright.go:225", after := #[], guard := none }) (v := ?_) rfl (by kernel_rfl) (by kernel_rfl) (by kernel_rfl) (fun _ _ _ h => h) (Or.inl ⟨by rfl, ?_⟩) (by assumption) ?_
        rotate_left
        · intro w hSw
          go_split_ands
          go_simp
          try with_reducible rfl
        try simp only [Act.put, List.setIfInBounds_toArray, List.set_cons_zero, List.set_cons_succ]
        refine wpAnyH_take (i := 1) (oi := { dst := some 128, op := Op.move (Operand.tmp 19), type := 3, pos := "outright.go:225", after := #[], guard := none }) (v := ?_) rfl (by kernel_rfl) (by kernel_rfl) (by kernel_rfl) (fun _ _ _ h => h) (Or.inl ⟨by rfl, ?_⟩) (by assumption) ?_
        rotate_left
        · intro w hSw
          go_split_ands
          go_simp
          try with_reducible rfl
        try simp only [Act.put, List.setIfInBounds_toArray, List.set_cons_zero, List.set_cons_succ]
        refine wpAnyH_take (i := 2) (oi := { dst := some 129, op := Op.indexAddr 29 (Operand.tmp 127) (Operand.tmp 128), type := 0, pos := "outright.go:225", after := #[{ on := 0, ground := Ground.data }, { on := 1, ground := Ground.data }], guard := none }) (v := ?_) rfl (by kernel_rfl) (by kernel_rfl) (by kernel_rfl) (fun _ _ _ h => h) (Or.inl ⟨by rfl, ?_⟩) (by assumption) ?_
        rotate_left
        · intro w hSw
          go_split_ands
          go_simp
          try with_reducible rfl
        try simp only [Act.put, List.setIfInBounds_toArray, List.set_cons_zero, List.set_cons_succ]
        refine wpAnyH_take (i := 3) (oi := { dst := some 130, op := Op.load 73 (Operand.tmp 129), type := 73, pos := "outright.go:225", after := #[{ on := 2, ground := Ground.data }], guard := none }) (v := ?_) rfl (by kernel_rfl) (by kernel_rfl) (by kernel_rfl) (fun _ _ _ h => h) (Or.inl ⟨by rfl, ?_⟩) (by assumption) ?_
        rotate_left
        · intro w hSw
          go_split_ands
          go_simp
          try with_reducible rfl
        try simp only [Act.put, List.setIfInBounds_toArray, List.set_cons_zero, List.set_cons_succ]
        refine wpAnyH_take (i := 4) (oi := { dst := some 131, op := Op.move (Operand.tmp 11), type := 29, pos := "outright.go:225", after := #[], guard := none }) (v := ?_) rfl (by kernel_rfl) (by kernel_rfl) (by kernel_rfl) (fun _ _ _ h => h) (Or.inl ⟨by rfl, ?_⟩) (by assumption) ?_
        rotate_left
        · intro w hSw
          go_split_ands
          go_simp
          try with_reducible rfl
        try simp only [Act.put, List.setIfInBounds_toArray, List.set_cons_zero, List.set_cons_succ]
        refine wpAnyH_take (i := 5) (oi := { dst := some 132, op := Op.move (Operand.tmp 19), type := 3, pos := "outright.go:225", after := #[], guard := none }) (v := ?_) rfl (by kernel_rfl) (by kernel_rfl) (by kernel_rfl) (fun _ _ _ h => h) (Or.inl ⟨by rfl, ?_⟩) (by assumption) ?_
        rotate_left
        · intro w hSw
          go_split_ands
          go_simp
          try with_reducible rfl
        try simp only [Act.put, List.setIfInBounds_toArray, List.set_cons_zero, List.set_cons_succ]
        refine wpAnyH_take (i := 6) (oi := { dst := some 133, op := Op.indexAddr 29 (Operand.tmp 131) (Operand.tmp 132), type := 0, pos := "outright.go:225", after := #[{ on := 4, ground := Ground.data }, { on := 5, ground := Ground.data }], guard := none }) (v := ?_) rfl (by kernel_rfl) (by kernel_rfl) (by kernel_rfl) (fun _ _ _ h => h) (Or.inl ⟨by rfl, ?_⟩) (by assumption) ?_
        rotate_left
        · intro w hSw
          go_split_ands
          go_simp
          try with_reducible rfl
        try simp only [Act.put, List.setIfInBounds_toArray, List.set_cons_zero, List.set_cons_succ]
        refine wpAnyH_take (i := 7) (oi := { dst := some 134, op := Op.fieldAddr 73 (Operand.tmp 133) 0, type := 0, pos := "outright.go:225", after := #[{ on := 6, ground := Ground.data }], guard := none }) (v := ?_) rfl (by kernel_rfl) (by kernel_rfl) (by kernel_rfl) (fun _ _ _ h => h) (Or.inl ⟨by rfl, ?_⟩) (by assumption) ?_
        rotate_left
        · intro w hSw
          go_split_ands
          go_simp
          try with_reducible rfl
        try simp only [Act.put, List.setIfInBounds_toArray, List.set_cons_zero, List.set_cons_succ]
        refine wpAnyH_take (i := 8) (oi := { dst := some 135, op := Op.load 3 (Operand.tmp 134), type := 3, pos := "outright.go:225", after := #[{ on := 7, ground := Ground.data }], guard := none }) (v := ?_) rfl (by kernel_rfl) (by kernel_rfl) (by kernel_rfl) (fun _ _ _ h => h) (Or.inl ⟨by rfl, ?_⟩) (by assumption) ?_
        rotate_left
        · intro w hSw
          go_split_ands
          go_simp
          try with_reducible rfl
        try simp only [Act.put, List.setIfInBounds_toArray, List.set_cons_zero, List.set_cons_succ]
        refine wpAnyH_take (i := 9) (oi := { dst := some 136, op := Op.move (Operand.tmp 11), type := 29, pos := "outright.go:225", after := #[], guard := none }) (v := ?_) rfl (by kernel_rfl) (by kernel_rfl) (by kernel_rfl) (fun _ _ _ h => h) (Or.inl ⟨by rfl, ?_⟩) (by assumption) ?_
        rotate_left
        · intro w hSw
          go_split_ands
          go_simp
          try with_reducible rfl
        try simp only [Act.put, List.setIfInBounds_toArray, List.set_cons_zero, List.set_cons_succ]
        refine wpAnyH_take (i := 10) (oi := { dst := some 137, op := Op.move (Operand.tmp 19), type := 3, pos := "outright.go:225", after := #[], guard := none }) (v := ?_) rfl (by kernel_rfl) (by kernel_rfl) (by kernel_rfl) (fun _ _ _ h => h) (Or.inl ⟨by rfl, ?_⟩) (by assumption) ?_
        rotate_left
        · intro w hSw
          go_split_ands
          go_simp
          try with_reducible rfl
        try simp only [Act.put, List.setIfInBounds_toArray, List.set_cons_zero, List.set_cons_succ]
        refine wpAnyH_take (i := 11) (oi := { dst := some 138, op := Op.indexAddr 29 (Operand.tmp 136) (Operand.tmp 137), type := 0, pos := "outright.go:225", after := #[{ on := 9, ground := Ground.data }, { on := 10, ground := Ground.data }], guard := none }) (v := ?_) rfl (by kernel_rfl) (by kernel_rfl) (by kernel_rfl) (fun _ _ _ h => h) (Or.inl ⟨by rfl, ?_⟩) (by assumption) ?_
        rotate_left
        · intro w hSw
          go_split_ands
          go_simp
          try with_reducible rfl
        try simp only [Act.put, List.setIfInBounds_toArray, List.set_cons_zero, List.set_cons_succ]
        refine wpAnyH_take (i := 12) (oi := { dst := some 139, op := Op.fieldAddr 73 (Operand.tmp 138) 1, type := 0, pos := "outright.go:225", after := #[{ on := 11, ground := Ground.data }], guard := none }) (v := ?_) rfl (by kernel_rfl) (by kernel_rfl) (by kernel_rfl) (fun _ _ _ h => h) (Or.inl ⟨by rfl, ?_⟩) (by assumption) ?_
        rotate_left
        · intro w hSw
          go_split_ands
          go_simp
          try with_reducible rfl
        try simp only [Act.put, List.setIfInBounds_toArray, List.set_cons_zero, List.set_cons_succ]
        refine wpAnyH_take (i := 13) (oi := { dst := some 140, op := Op.load 3 (Operand.tmp 139), type := 3, pos := "outright.go:225", after := #[{ on := 12, ground := Ground.data }], guard := none }) (v := ?_) rfl (by kernel_rfl) (by kernel_rfl) (by kernel_rfl) (fun _ _ _ h => h) (Or.inl ⟨by rfl, ?_⟩) (by assumption) ?_
        rotate_left
        · intro w hSw
          go_split_ands
          go_simp
          try with_reducible rfl
        try simp only [Act.put, List.setIfInBounds_toArray, List.set_cons_zero, List.set_cons_succ]
        refine wpAnyH_take (i := 14) (oi := { dst := some 141, op := Op.unOp UnOp.neg 3 (Operand.tmp 140), type := 3, pos := "outright.go:225", after := #[{ on := 13, ground := Ground.data }], guard := none }) (v := ?_) rfl (by kernel_rfl) (by kernel_rfl) (by kernel_rfl) (fun _ _ _ h => h) (Or.inl ⟨by rfl, ?_⟩) (by assumption) ?_
        rotate_left
        · intro w hSw
          go_split_ands
          go_simp
          try with_reducible rfl
        try simp only [Act.put, List.setIfInBounds_toArray, List.set_cons_zero, List.set_cons_succ]
        refine wpAnyH_take (i := 15) (oi := { dst := some 142, op := Op.move (Operand.tmp 11), type := 29, pos := "outright.go:225", after := #[], guard := none }) (v := ?_) rfl (by kernel_rfl) (by kernel_rfl) (by kernel_rfl) (fun _ _ _ h => h) (Or.inl ⟨by rfl, ?_⟩) (by assumption) ?_
        rotate_left
        · intro w hSw
          go_split_ands
          go_simp
          try with_reducible rfl
        try simp only [Act.put, List.setIfInBounds_toArray, List.set_cons_zero, List.set_cons_succ]
        refine wpAnyH_take (i := 16) (oi := { dst := some 143, op := Op.move (Operand.tmp 19), type := 3, pos := "outright.go:225", after := #[], guard := none }) (v := ?_) rfl (by kernel_rfl) (by kernel_rfl) (by kernel_rfl) (fun _ _ _ h => h) (Or.inl ⟨by rfl, ?_⟩) (by assumption) ?_
        rotate_left
        · intro w hSw
          go_split_ands
          go_simp
          try with_reducible rfl
        try simp only [Act.put, List.setIfInBounds_toArray, List.set_cons_zero, List.set_cons_succ]
        refine wpAnyH_take (i := 17) (oi := { dst := some 144, op := Op.indexAddr 29 (Operand.tmp 142) (Operand.tmp 143), type := 0, pos := "outright.go:225", after := #[{ on := 15, ground := Ground.data }, { on := 16, ground := Ground.data }], guard := none }) (v := ?_) rfl (by kernel_rfl) (by kernel_rfl) (by kernel_rfl) (fun _ _ _ h => h) (Or.inl ⟨by rfl, ?_⟩) (by assumption) ?_
        rotate_left
        · intro w hSw
          go_split_ands
          go_simp
          try with_reducible rfl
        try simp only [Act.put, List.setIfInBounds_toArray, List.set_cons_zero, List.set_cons_succ]
        refine wpAnyH_take (i := 18) (oi := { dst := some 145, op := Op.fieldAddr 73 (Operand.tmp 144) 2, type := 0, pos := "outright.go:225", after := #[{ on := 17, ground := Ground.data }], guard := none }) (v := ?_) rfl (by kernel_rfl) (by kernel_rfl) (by kernel_rfl) (fun _ _ _ h => h) (Or.inl ⟨by rfl, ?_⟩) (by assumption) ?_
        rotate_left
        · intro w hSw
          go_split_ands
          go_simp
          try with_reducible rfl
        try simp only [Act.put, List.setIfInBounds_toArray, List.set_cons_zero, List.set_cons_succ]
        refine wpAnyH_take (i := 19) (oi := { dst := some 146, op := Op.load 3 (Operand.tmp 145), type := 3, pos := "outright.go:225", after := #[{ on := 18, ground := Ground.data }], guard := none }) (v := ?_) rfl (by kernel_rfl) (by kernel_rfl) (by kernel_rfl) (fun _ _ _ h => h) (Or.inl ⟨by rfl, ?_⟩) (by assumption) ?_
        rotate_left
        · intro w hSw
          go_split_ands
          go_simp
          try with_reducible rfl
        try simp only [Act.put, List.setIfInBounds_toArray, List.set_cons_zero, List.set_cons_succ]
        refine wpAnyH_take (i := 20) (oi := { dst := some 147, op := Op.unOp UnOp.neg 3 (Operand.tmp 146), type := 3, pos := "outright.go:225", after := #[{ on := 19, ground := Ground.data }], guard := none }) (v := ?_) rfl (by kernel_rfl) (by kernel_rfl) (by kernel_rfl) (fun _ _ _ h => h) (Or.inl ⟨by rfl, ?_⟩) (by assumption) ?_
        rotate_left
        · intro w hSw
          go_split_ands
          go_simp
          try with_reducible rfl
        try simp only [Act.put, List.setIfInBounds_toArray, List.set_cons_zero, List.set_cons_succ]
        refine wpAnyH_take (i := 21) (oi := { dst := some 148, op := Op.move (Operand.tmp 11), type := 29, pos := "outright.go:225", after := #[], guard := none }) (v := ?_) rfl (by kernel_rfl) (by kernel_rfl) (by kernel_rfl) (fun _ _ _ h => h) (Or.inl ⟨by rfl, ?_⟩) (by assumption) ?_
        rotate_left
        · intro w hSw
          go_split_ands
          go_simp
          try with_reducible rfl
        try simp only [Act.put, List.setIfInBounds_toArray, List.set_cons_zero, List.set_cons_succ]
        refine wpAnyH_take (i := 22) (oi := { dst := some 149, op := Op.move (Operand.tmp 19), type := 3, pos := "outright.go:225", after := #[], guard := none }) (v := ?_) rfl (by kernel_rfl) (by kernel_rfl) (by kernel_rfl) (fun _ _ _ h => h) (Or.inl ⟨by rfl, ?_⟩) (by assumption) ?_
        rotate_left
        · intro w hSw
          go_split_ands
          go_simp
          try with_reducible rfl
        try simp only [Act.put, List.setIfInBounds_toArray, List.set_cons_zero, List.set_cons_succ]
        refine wpAnyH_take (i := 23) (oi := { dst := some 150, op := Op.indexAddr 29 (Operand.tmp 148) (Operand.tmp 149), type := 0, pos := "outright.go:225", after := #[{ on := 21, ground := Ground.data }, { on := 22, ground := Ground.data }], guard := none }) (v := ?_) rfl (by kernel_rfl) (by kernel_rfl) (by kernel_rfl) (fun _ _ _ h => h) (Or.inl ⟨by rfl, ?_⟩) (by assumption) ?_
        rotate_left
        · intro w hSw
          go_split_ands
          go_simp
          try with_reducible rfl
        try simp only [Act.put, List.setIfInBounds_toArray, List.set_cons_zero, List.set_cons_succ]
        refine wpAnyH_take (i := 24) (oi := { dst := some 151, op := Op.fieldAddr 73 (Operand.tmp 150) 3, type := 0, pos := "outright.go:225", after := #[{ on := 23, ground := Ground.data }], guard := none }) (v := ?_) rfl (by kernel_rfl) (by kernel_rfl) (by kernel_rfl) (fun _ _ _ h => h) (Or.inl ⟨by rfl, ?_⟩) (by assumption) ?_
        rotate_left
        · intro w hSw
          go_split_ands
          go_simp
          try with_reducible rfl
        try simp only [Act.put, List.setIfInBounds_toArray, List.set_cons_zero, List.set_cons_succ]
        refine wpAnyH_take (i := 25) (oi := { dst := some 152, op := Op.load 3 (Operand.tmp 151), type := 3, pos := "outright.go:225", after := #[{ on := 24, ground := Ground.data }], guard := none }) (v := ?_) rfl (by kernel_rfl) (by kernel_rfl) (by kernel_rfl) (fun _ _ _ h => h) (Or.inl ⟨by rfl, ?_⟩) (by assumption) ?_
        rotate_left
        · intro w hSw
          go_split_ands
          go_simp
          try with_reducible rfl
        try simp only [Act.put, List.setIfInBounds_toArray, List.set_cons_zero, List.set_cons_succ]
        refine wpAnyH_take (i := 26) (oi := { dst := some 153, op := Op.unOp UnOp.neg 3 (Operand.tmp 152), type := 3, pos := "outright.go:225", after := #[{ on := 25, ground := Ground.data }], guard := none }) (v := ?_) rfl (by kernel_rfl) (by kernel_rfl) (by kernel_rfl) (fun _ _ _ h => h) (Or.inl ⟨by rfl, ?_⟩) (by assumption) ?_
        rotate_left
        · intro w hSw
          go_split_ands
          go_simp
          try with_reducible rfl
        try simp only [Act.put, List.setIfInBounds_toArray, List.set_cons_zero, List.set_cons_succ]
        refine wpAnyH_ready (rs := [27]) (by kernel_rfl) (by simp) ?_
        refine AllReadyH.cons (o := { dst := some 154, op := Op.call { callee := Callee.value (Operand.func 42), args := #[Operand.tmp 135, Operand.tmp 141, Operand.tmp 147, Operand.tmp 153], argTypes := #[3, 3, 3, 3] }, type := 73, pos := "outright.go:225", after := #[{ on := 8, ground := Ground.data }, { on := 14, ground := Ground.data }, { on := 20, ground := Ground.data }, { on := 26, ground := Ground.data }], guard := none }) rfl (fun K hK => ?_) AllReadyH.nil
        have HK := Lib.hid hK; clear hK
        go_simp
        refine (HNd.out _ (by go_split_ands; assumption)).mono ?_
        rintro e w20 ⟨rfl, hb20⟩
        have HC20 := Lib.hid hb20
        clear hb20
        go_wp2_with fail
        refine HK.out _ _ (HS.out _ HC20.out) (fun hHeld => ?_)
        clear HK K
        try simp only [Act.put, List.setIfInBounds_toArray, List.set_cons_zero, List.set_cons_succ]
        refine wpAnyH_take (i := 28) (oi := { dst := some 155, op := Op.binOp BinOp.neq 73 (Operand.tmp 130) (Operand.tmp 154) 73, type := 4, pos := "outright.go:225", after := #[{ on := 3, ground := Ground.data }, { on := 27, ground := Ground.data }], guard := none }) (v := ?_) rfl (by kernel_rfl) (by kernel_rfl) (by kernel_rfl) (fun _ _ _ h => h) (Or.inl ⟨by rfl, ?_⟩) (by assumption) ?_
        rotate_left
        · intro w hSw
          go_split_ands
          go_simp
          try with_reducible rfl
        try simp only [Act.put, List.setIfInBounds_toArray, List.set_cons_zero, List.set_cons_succ]
        refine wpAnyH_take (i := 29) (oi := { dst := some 156, op := Op.move (Operand.tmp 155), type := 4, pos := "outright.go:225", after := #[{ on := 28, ground := Ground.data }, { on := 27, ground := Ground.chain }], guard := none }) (v := ?_) rfl (by kernel_rfl) (by kernel_rfl) (by kernel_rfl) (fun _ _ _ h => h) (Or.inl ⟨by rfl, ?_⟩) (by assumption) ?_
        rotate_left
        · intro w hSw
          go_split_ands
          go_simp
          try with_reducible rfl
        try simp only [Act.put, List.setIfInBounds_toArray, List.set_cons_zero, List.set_cons_succ]
        refine wpAnyH_take (i := 30) (oi := { dst := some 157, op := Op.move (Operand.tmp 9), type := 29, pos := "outright.go:225", after := #[{ on := 29, ground := Ground.guard }], guard := some (29, false) }) (v := ?_) rfl (by kernel_rfl) (by kernel_rfl) (by kernel_rfl) (fun _ _ _ h => h) (Or.inl ⟨by rfl, ?_⟩) (by assumption) ?_
        rotate_left
        · intro w hSw
          go_split_ands
          go_simp
          try with_reducible rfl
        try simp only [Act.put, List.setIfInBounds_toArray, List.set_cons_zero, List.set_cons_succ]
        refine wpAnyH_take (i := 31) (oi := { dst := some 158, op := Op.move (Operand.tmp 19), type := 3, pos := "outright.go:225", after := #[{ on := 29, ground := Ground.guard }], guard := some (29, false) }) (v := ?_) rfl (by kernel_rfl) (by kernel_rfl) (by kernel_rfl) (fun _ _ _ h => h) (Or.inl ⟨by rfl, ?_⟩) (by assumption) ?_
        rotate_left
        · intro w hSw
          go_split_ands
          go_simp
          try with_reducible rfl
        try simp only [Act.put, List.setIfInBounds_toArray, List.set_cons_zero, List.set_cons_succ]
        refine wpAnyH_take (i := 32) (oi := { dst := some 159, op := Op.indexAddr 29 (Operand.tmp 157) (Operand.tmp 158), type := 0, pos := "outright.go:225", after := #[{ on := 30, ground := Ground.data }, { on := 31, ground := Ground.data }, { on := 29, ground := Ground.guard }], guard := some (29, false) }) (v := ?_) rfl (by kernel_rfl) (by kernel_rfl) (by kernel_rfl) (fun _ _ _ h => h) (Or.inl ⟨by rfl, ?_⟩) (by assumption) ?_
        rotate_left
        · intro w hSw
          go_split_ands
          go_simp
          try with_reducible rfl
        try simp only [Act.put, List.setIfInBounds_toArray, List.set_cons_zero, List.set_cons_succ]
        refine wpAnyH_take (i := 33) (oi := { dst := some 160, op := Op.load 73 (Operand.tmp 159), type := 73, pos := "outright.go:225", after := #[{ on := 32, ground := Ground.data }, { on := 29, ground := Ground.guard }], guard := some (29, false) }) (v := ?_) rfl (by kernel_rfl) (by kernel_rfl) (by kernel_rfl) (fun _ _ _ h => h) (Or.inl ⟨by rfl, ?_⟩) (by assumption) ?_
        rotate_left
        · intro w hSw
          go_split_ands
          go_simp
          try with_reducible rfl
        try simp only [Act.put, List.setIfInBounds_toArray, List.set_cons_zero, List.set_cons_succ]
        refine wpAnyH_take (i := 34) (oi := { dst := some 161, op := Op.move (Operand.tmp 9), type := 29, pos := "outright.go:225", after := #[{ on := 29, ground := Ground.guard }], guard := some (29, false) }) (v := ?_) rfl (by kernel_rfl) (by kernel_rfl) (by kernel_rfl) (fun _ _ _ h => h) (Or.inl ⟨by rfl, ?_⟩) (by assumption) ?_
        rotate_left
        · intro w hSw
          go_split_ands
          go_simp
          try with_reducible rfl
        try simp only [Act.put, List.setIfInBounds_toArray, List.set_cons_zero, List.set_cons_succ]
        refine wpAnyH_take (i := 35) (oi := { dst := some 162, op := Op.move (Operand.tmp 19), type := 3, pos := "outright.go:225", after := #[{ on := 29, ground := Ground.guard }], guard := some (29, false) }) (v := ?_) rfl (by kernel_rfl) (by kernel_rfl) (by kernel_rfl) (fun _ _ _ h => h) (Or.inl ⟨by rfl, ?_⟩) (by assumption) ?_
        rotate_left
        · intro w hSw
          go_split_ands
          go_simp
          try with_reducible rfl
        try simp only [Act.put, List.setIfInBounds_toArray, List.set_cons_zero, List.set_cons_succ]
        refine wpAnyH_take (i := 36) (oi := { dst := some 163, op := Op.indexAddr 29 (Operand.tmp 161) (Operand.tmp 162), type := 0, pos := "outright.go:225", after := #[{ on := 34, ground := Ground.data }, { on := 35, ground := Ground.data }, { on := 29, ground := Ground.guard }], guard := some (29, false) }) (v := ?_) rfl (by kernel_rfl) (by kernel_rfl) (by kernel_rfl) (fun _ _ _ h => h) (Or.inl ⟨by rfl, ?_⟩) (by assumption) ?_
        rotate_left
        · intro w hSw
          go_split_ands
          go_simp
          try with_reducible rfl
        try simp only [Act.put, List.setIfInBounds_toArray, List.set_cons_zero, List.set_cons_succ]
        refine wpAnyH_take (i := 37) (oi := { dst := some 164, op := Op.fieldAddr 73 (Operand.tmp 163) 0, type := 0, pos := "outright.go:225", after := #[{ on := 36, ground := Ground.data }, { on := 29, ground := Ground.guard }], guard := some (29, false) }) (v := ?_) rfl (by kernel_rfl) (by kernel_rfl) (by kernel_rfl) (fun _ _ _ h => h) (Or.inl ⟨by rfl, ?_⟩) (by assumption) ?_
        rotate_left
        · intro w hSw
          go_split_ands
          go_simp
          try with_reducible rfl
        try simp only [Act.put, List.setIfInBounds_toArray, List.set_cons_zero, List.set_cons_succ]
        refine wpAnyH_take (i := 38) (oi := { dst := some 165, op := Op.load 3 (Operand.tmp 164), type := 3, pos := "outright.go:225", after := #[{ on := 37, ground := Ground.data }, { on := 29, ground := Ground.guard }], guard := some (29, false) }) (v := ?_) rfl (by kernel_rfl) (by kernel_rfl) (by kernel_rfl) (fun _ _ _ h => h) (Or.inl ⟨by rfl, ?_⟩) (by assumption) ?_
        rotate_left
        · intro w hSw
          go_split_ands
          go_simp
          try with_reducible rfl
        try simp only [Act.put, List.setIfInBounds_toArray, List.set_cons_zero, List.set_cons_succ]
        refine wpAnyH_ready (rs := [39]) (by kernel_rfl) (by simp) ?_
        refine AllReadyH.cons (o := { dst := some 166, op := Op.call { callee := Callee.value (Operand.func 42), args := #[Operand.tmp 165, Operand.const (Value.int IntKind.i64 0), Operand.const (Value.int IntKind.i64 0), Operand.const (Value.int IntKind.i64 0)], argTypes := #[3, 3, 3, 3] }, type := 73, pos := "outright.go:225", after := #[{ on := 38, ground := Ground.data }, { on := 29, ground := Ground.chain }, { on := 29, ground := Ground.guard }], guard := some (29, false) }) rfl (fun K hK => ?_) AllReadyH.nil
        have HK := Lib.hid hK; clear hK
        go_simp
        refine (HNz.out _ (by go_split_ands; assumption)).mono ?_
        rintro e w21 ⟨rfl, hb21⟩
        have HC21 := Lib.hid hb21
        clear hb21
        go_wp2_with fail
        refine HK.out _ _ (HS.out _ HC21.out) (fun hHeld => ?_)
        clear HK K
        try simp only [Act.put, List.setIfInBounds_toArray, List.set_cons_zero, List.set_cons_succ]
        refine wpAnyH_take (i := 40) (oi := { dst := some 167, op := Op.binOp BinOp.eql 73 (Operand.tmp 160) (Operand.tmp 166) 73, type := 4, pos := "outright.go:225", after := #[{ on := 33, ground := Ground.data }, { on := 39, ground := Ground.data }, { on := 29, ground := Ground.guard }], guard := some (29, false) }) (v := ?_) rfl (by kernel_rfl) (by kernel_rfl) (by kernel_rfl) (fun _ _ _ h => h) (Or.inl ⟨by rfl, ?_⟩) (by assumption) ?_
        rotate_left
        · intro w hSw
          go_split_ands
          go_simp
          try with_reducible rfl
        try simp only [Act.put, List.setIfInBounds_toArray, List.set_cons_zero, List.set_cons_succ]
        refine wpAnyH_take (i := 41) (oi := { dst := some 168, op := Op.pick (Operand.tmp 156) (Operand.const (Value.bool true)) (Operand.tmp 167), type := 4, pos := "outright.go:225", after := #[{ on := 29, ground := Ground.data }, { on := 40, ground := Ground.data }], guard := none }) (v := ?_) rfl (by kernel_rfl) (by kernel_rfl) (by kernel_rfl) (fun _ _ _ h => h) (Or.inl ⟨by rfl, ?_⟩) (by assumption) ?_
        rotate_left
        · intro w hSw
          go_split_ands
          go_simp
          try with_reducible rfl
        try simp only [Act.put, List.setIfInBounds_toArray, List.set_cons_zero, List.set_cons_succ]
        refine wpAnyH_take (i := 42) (oi := { dst := some 169, op := Op.move (Operand.tmp 168), type := 4, pos := "outright.go:225", after := #[{ on := 41, ground := Ground.data }, { on := 39, ground := Ground.chain }], guard := none }) (v := ?_) rfl (by kernel_rfl) (by kernel_rfl) (by kernel_rfl) (fun _ _ _ h => h) (Or.inl ⟨by rfl, ?_⟩) (by assumption) ?_
        rotate_left
        · intro w hSw
          go_split_ands
          go_simp
          try with_reducible rfl
        try simp only [Act.put, List.setIfInBounds_toArray, List.set_cons_zero, List.set_cons_succ]
        refine wpAnyH_take (i := 43) (oi := { dst := some 170, op := Op.move (Operand.tmp 19), type := 3, pos := "outright.go:225", after := #[{ on := 42, ground := Ground.guard }], guard := some (42, false) }) (v := ?_) rfl (by kernel_rfl) (by kernel_rfl) (by kernel_rfl) (fun _ _ _ h => h) (Or.inl ⟨by rfl, ?_⟩) (by assumption) ?_
        rotate_left
        · intro w hSw
          go_split_ands
          go_simp
          try with_reducible rfl
        try simp only [Act.put, List.setIfInBounds_toArray, List.set_cons_zero, List.set_cons_succ]
        refine wpAnyH_take (i := 44) (oi := { dst := some 171, op := Op.binOp BinOp.gtr 3 (Operand.tmp 170) (Operand.const (Value.int IntKind.i64 0)) 3, type := 4, pos := "outright.go:225", after := #[{ on := 43, ground := Ground.data }, { on := 42, ground := Ground.guard }], guard := some (42, false) }) (v := ?_) rfl (by kernel_rfl) (by kernel_rfl) (by kernel_rfl) (fun _ _ _ h => h) (Or.inl ⟨by rfl, ?_⟩) (by assumption) ?_
        rotate_left
        · intro w hSw
          go_split_ands
          go_simp
          try with_reducible rfl
        try simp only [Act.put, List.setIfInBounds_toArray, List.set_cons_zero, List.set_cons_succ]
        refine wpAnyH_take (i := 45) (oi := { dst := some 172, op := Op.move (Operand.tmp 171), type := 4, pos := "outright.go:225", after := #[{ on := 44, ground := Ground.data }, { on := 42, ground := Ground.chain }, { on := 42, ground := Ground.guard }], guard := some (42, false) }) (v := ?_) rfl (by kernel_rfl) (by kernel_rfl) (by kernel_rfl) (fun _ _ _ h => h) (Or.inl ⟨by rfl, ?_⟩) (by assumption) ?_
        rotate_left
        · intro w hSw
          go_split_ands
          go_simp
          try with_reducible rfl
        try simp only [Act.put, List.setIfInBounds_toArray, List.set_cons_zero, List.set_cons_succ]
        refine wpAnyH_take (i := 46) (oi := { dst := some 173, op := Op.move (Operand.tmp 9), type := 29, pos := "outright.go:225", after := #[{ on := 45, ground := Ground.guard }], guard := some (45, true) }) (v := ?_) rfl (by kernel_rfl) (by kernel_rfl) (by kernel_rfl) (fun _ _ _ h => h) (Or.inl ⟨by rfl, ?_⟩) (by assumption) ?_
        rotate_left
        · intro w hSw
          go_split_ands
          go_simp
          try with_reducible rfl
        try simp only [Act.put, List.setIfInBounds_toArray, List.set_cons_zero, List.set_cons_succ]
        refine wpAnyH_take (i := 47) (oi := { dst := some 174, op := Op.move (Operand.tmp 19), type := 3, pos := "outright.go:225", after := #[{ on := 45, ground := Ground.guard }], guard := some (45, true) }) (v := ?_) rfl (by kernel_rfl) (by kernel_rfl) (by kernel_rfl) (fun _ _ _ h => h) (Or.inl ⟨by rfl, ?_⟩) (by assumption) ?_
        rotate_left
        · intro w hSw
          go_split_ands
          go_simp
          try with_reducible rfl
        try simp only [Act.put, List.setIfInBounds_toArray, List.set_cons_zero, List.set_cons_succ]
        refine wpAnyH_take (i := 48) (oi := { dst := some 175, op := Op.indexAddr 29 (Operand.tmp 173) (Operand.tmp 174), type := 0, pos := "outright.go:225", after := #[{ on := 46, ground := Ground.data }, { on := 47, ground := Ground.data }, { on := 45, ground := Ground.guard }], guard := some (45, true) }) (v := ?_) rfl (by kernel_rfl) (by kernel_rfl) (by kernel_rfl) (fun _ _ _ h => h) (Or.inl ⟨by rfl, ?_⟩) (by assumption) ?_
        rotate_left
        · intro w hSw
          go_split_ands
          go_simp
          try with_reducible rfl
        try simp only [Act.put, List.setIfInBounds_toArray, List.set_cons_zero, List.set_cons_succ]
        refine wpAnyH_take (i := 49) (oi := { dst := some 176, op := Op.fieldAddr 73 (Operand.tmp 175) 0, type := 0, pos := "outright.go:225", after := #[{ on := 48, ground := Ground.data }, { on := 45, ground := Ground.guard }], guard := some (45, true) }) (v := ?_) rfl (by kernel_rfl) (by kernel_rfl) (by kernel_rfl) (fun _ _ _ h => h) (Or.inl ⟨by rfl, ?_⟩) (by assumption) ?_
        rotate_left
        · intro w hSw
          go_split_ands
          go_simp
          try with_reducible rfl
        try simp only [Act.put, List.setIfInBounds_toArray, List.set_cons_zero, List.set_cons_succ]
        refine wpAnyH_take (i := 50) (oi := { dst := some 177, op := Op.load 3 (Operand.tmp 176), type := 3, pos := "outright.go:225", after := #[{ on := 49, ground := Ground.data }, { on := 45, ground := Ground.guard }], guard := some (45, true) }) (v := ?_) rfl (by kernel_rfl) (by kernel_rfl) (by kernel_rfl) (fun _ _ _ h => h) (Or.inl ⟨by rfl, ?_⟩) (by assumption) ?_
        rotate_left
        · intro w hSw
          go_split_ands
          go_simp
          try with_reducible rfl
        try simp only [Act.put, List.setIfInBounds_toArray, List.set_cons_zero, List.set_cons_succ]
        refine wpAnyH_take (i := 51) (oi := { dst := some 178, op := Op.move (Operand.tmp 9), type := 29, pos := "outright.go:225", after := #[{ on := 45, ground := Ground.guard }], guard := some (45, true) }) (v := ?_) rfl (by kernel_rfl) (by kernel_rfl) (by kernel_rfl) (fun _ _ _ h => h) (Or.inl ⟨by rfl, ?_⟩) (by assumption) ?_
        rotate_left
        · intro w hSw
          go_split_ands
          go_simp
          try with_reducible rfl
        try simp only [Act.put, List.setIfInBounds_toArray, List.set_cons_zero, List.set_cons_succ]
        refine wpAnyH_take (i := 52) (oi := { dst := some 179, op := Op.move (Operand.tmp 19), type := 3, pos := "outright.go:225", after := #[{ on := 45, ground := Ground.guard }], guard := some (45, true) }) (v := ?_) rfl (by kernel_rfl) (by kernel_rfl) (by kernel_rfl) (fun _ _ _ h => h) (Or.inl ⟨by rfl, ?_⟩) (by assumption) ?_
        rotate_left
        · intro w hSw
          go_split_ands
          go_simp
          try with_reducible rfl
        try simp only [Act.put, List.setIfInBounds_toArray, List.set_cons_zero, List.set_cons_succ]
        refine wpAnyH_take (i := 53) (oi := { dst := some 180, op := Op.binOp BinOp.sub 3 (Operand.tmp 179) (Operand.const (Value.int IntKind.i64 1)) 3, type := 3, pos := "outright.go:225", after := #[{ on := 52, ground := Ground.data }, { on := 45, ground := Ground.guard }], guard := some (45, true) }) (v := ?_) rfl (by kernel_rfl) (by kernel_rfl) (by kernel_rfl) (fun _ _ _ h => h) (Or.inl ⟨by rfl, ?_⟩) (by assumption) ?_
        rotate_left
        · intro w hSw
          go_split_ands
          go_simp
          try with_reducible rfl
        try simp only [Act.put, List.setIfInBounds_toArray, List.set_cons_zero, List.set_cons_succ]
        refine wpAnyH_take (i := 54) (oi := { dst := some 181, op := Op.indexAddr 29 (Operand.tmp 178) (Operand.tmp 180), type := 0, pos := "outright.go:225", after := #[{ on := 51, ground := Ground.data }, { on := 53, ground := Ground.data }, { on := 45, ground := Ground.guard }], guard := some (45, true) }) (v := ?_) rfl (by kernel_rfl) (by kernel_rfl) (by kernel_rfl) (fun _ _ _ h => h) (Or.inl ⟨by rfl, ?_⟩) (by assumption) ?_
        rotate_left
        · intro w hSw
          go_split_ands
          go_simp
          try with_reducible rfl
        try simp only [Act.put, List.setIfInBounds_toArray, List.set_cons_zero, List.set_cons_succ]
        refine wpAnyH_take (i := 55) (oi := { dst := some 182, op := Op.fieldAddr 73 (Operand.tmp 181) 0, type := 0, pos := "outright.go:225", after := #[{ on := 54, ground := Ground.data }, { on := 45, ground := Ground.guard }], guard := some (45, true) }) (v := ?_) rfl (by kernel_rfl) (by kernel_rfl) (by kernel_rfl) (fun _ _ _ h => h) (Or.inl ⟨by rfl, ?_⟩) (by assumption) ?_
        rotate_left
        · intro w hSw
          go_split_ands
          go_simp
          try with_reducible rfl
        try simp only [Act.put, List.setIfInBounds_toArray, List.set_cons_zero, List.set_cons_succ]
        refine wpAnyH_take (i := 56) (oi := { dst := some 183, op := Op.load 3 (Operand.tmp 182), type := 3, pos := "outright.go:225", after := #[{ on := 55, ground := Ground.data }, { on := 45, ground := Ground.guard }], guard := some (45, true) }) (v := ?_) rfl (by kernel_rfl) (by kernel_rfl) (by kernel_rfl) (fun _ _ _ h => h) (Or.inl ⟨by rfl, ?_⟩) (by assumption) ?_
        rotate_left
        · intro w hSw
          go_split_ands
          go_simp
          try with_reducible rfl
        try simp only [Act.put, List.setIfInBounds_toArray, List.set_cons_zero, List.set_cons_succ]
        refine wpAnyH_take (i := 57) (oi := { dst := some 184, op := Op.binOp BinOp.leq 3 (Operand.tmp 177) (Operand.tmp 183) 3, type := 4, pos := "outright.go:225", after := #[{ on := 50, ground := Ground.data }, { on := 56, ground := Ground.data }, { on := 45, ground := Ground.guard }], guard := some (45, true) }) (v := ?_) rfl (by kernel_rfl) (by kernel_rfl) (by kernel_rfl) (fun _ _ _ h => h) (Or.inl ⟨by rfl, ?_⟩) (by assumption) ?_
        rotate_left
        · intro w hSw
          go_split_ands
          go_simp
          try with_reducible rfl
        try simp only [Act.put, List.setIfInBounds_toArray, List.set_cons_zero, List.set_cons_succ]
        refine wpAnyH_take (i := 58) (oi := { dst := some 185, op := Op.pick (Operand.tmp 172) (Operand.tmp 184) (Operand.const (Value.bool false)), type := 4, pos := "outright.go:225", after := #[{ on := 45, ground := Ground.data }, { on := 57, ground := Ground.data }, { on := 42, ground := Ground.guard }], guard := some (42, false) }) (v := ?_) rfl (by kernel_rfl) (by kernel_rfl) (by kernel_rfl) (fun _ _ _ h => h) (Or.inl ⟨by rfl, ?_⟩) (by assumption) ?_
        rotate_left
        · intro w hSw
          go_split_ands
          go_simp
          try with_reducible rfl
        try simp only [Act.put, List.setIfInBounds_toArray, List.set_cons_zero, List.set_cons_succ]
        refine wpAnyH_take (i := 59) (oi := { dst := some 186, op := Op.pick (Operand.tmp 169) (Operand.const (Value.bool true)) (Operand.tmp 185), type := 4, pos := "outright.go:225", after := #[{ on := 42, ground := Ground.data }, { on := 58, ground := Ground.data }], guard := none }) (v := ?_) rfl (by kernel_rfl) (by kernel_rfl) (by kernel_rfl) (fun _ _ _ h => h) (Or.inl ⟨by rfl, ?_⟩) (by assumption) ?_
        rotate_left
        · intro w hSw
          go_split_ands
          go_simp
          try with_reducible rfl
        try simp only [Act.put, List.setIfInBounds_toArray, List.set_cons_zero, List.set_cons_succ]
        refine wpAnyH_take (i := 60) (oi := { dst := some 187, op := Op.move (Operand.tmp 186), type := 4, pos := "outright.go:225", after := #[{ on := 59, ground := Ground.data }, { on := 45, ground := Ground.chain }], guard := none }) (v := ?_) rfl (by kernel_rfl) (by kernel_rfl) (by kernel_rfl) (fun _ _ _ h => h) (Or.inl ⟨by rfl, ?_⟩) (by assumption) ?_
        rotate_left
        · intro w hSw
          go_split_ands
          go_simp
          try with_reducible rfl
        try simp only [Act.put, List.setIfInBounds_toArray, List.set_cons_zero, List.set_cons_succ]
        refine wpAnyH_take (i := 61) (oi := { dst := some 188, op := Op.move (Operand.tmp 9), type := 29, pos := "outright.go:225", after := #[{ on := 60, ground := Ground.guard }], guard := some (60, false) }) (v := ?_) rfl (by kernel_rfl) (by kernel_rfl) (by kernel_rfl) (fun _ _ _ h => h) (Or.inl ⟨by rfl, ?_⟩) (by assumption) ?_
        rotate_left
        · intro w hSw
          go_split_ands
          go_simp
          try with_reducible rfl
        try simp only [Act.put, List.setIfInBounds_toArray, List.set_cons_zero, List.set_cons_succ]
        refine wpAnyH_take (i := 62) (oi := { dst := some 189, op := Op.move (Operand.tmp 19), type := 3, pos := "outright.go:225", after := #[{ on := 60, ground := Ground.guard }], guard := some (60, false) }) (v := ?_) rfl (by kernel_rfl) (by kernel_rfl) (by kernel_rfl) (fun _ _ _ h => h) (Or.inl ⟨by rfl, ?_⟩) (by assumption) ?_
        rotate_left
        · intro w hSw
          go_split_ands
          go_simp
          try with_reducible rfl
        try simp only [Act.put, List.setIfInBounds_toArray, List.set_cons_zero, List.set_cons_succ]
        refine wpAnyH_take (i := 63) (oi := { dst := some 190, op := Op.indexAddr 29 (Operand.tmp 188) (Operand.tmp 189), type := 0, pos := "outright.go:225", after := #[{ on := 61, ground := Ground.data }, { on := 62, ground := Ground.data }, { on := 60, ground := Ground.guard }], guard := some (60, false) }) (v := ?_) rfl (by kernel_rfl) (by kernel_rfl) (by kernel_rfl) (fun _ _ _ h => h) (Or.inl ⟨by rfl, ?_⟩) (by assumption) ?_
        rotate_left
        · intro w hSw
          go_split_ands
          go_simp
          try with_reducible rfl
        try simp only [Act.put, List.setIfInBounds_toArray, List.set_cons_zero, List.set_cons_succ]
        refine wpAnyH_take (i := 64) (oi := { dst := some 191, op := Op.load 73 (Operand.tmp 190), type := 73, pos := "outright.go:225", after := #[{ on := 63, ground := Ground.data }, { on := 60, ground := Ground.guard }], guard := some (60, false) }) (v := ?_) rfl (by kernel_rfl) (by kernel_rfl) (by kernel_rfl) (fun _ _ _ h => h) (Or.inl ⟨by rfl, ?_⟩) (by assumption) ?_
        rotate_left
        · intro w hSw
          go_split_ands
          go_simp
          try with_reducible rfl
        try simp only [Act.put, List.setIfInBounds_toArray, List.set_cons_zero, List.set_cons_succ]
        refine wpAnyH_take (i := 65) (oi := { dst := some 192, op := Op.move (Operand.tmp 7), type := 29, pos := "outright.go:225", after := #[{ on := 60, ground := Ground.guard }], guard := some (60, false) }) (v := ?_) rfl (by kernel_rfl) (by kernel_rfl) (by kernel_rfl) (fun _ _ _ h => h) (Or.inl ⟨by rfl, ?_⟩) (by assumption) ?_
        rotate_left
        · intro w hSw
          go_split_ands
          go_simp
          try with_reducible rfl
        try simp only [Act.put, List.setIfInBounds_toArray, List.set_cons_zero, List.set_cons_succ]
        refine wpAnyH_take (i := 66) (oi := { dst := some 193, op := Op.move (Operand.tmp 9), type := 29, pos := "outright.go:225", after := #[{ on := 60, ground := Ground.guard }], guard := some (60, false) }) (v := ?_) rfl (by kernel_rfl) (by kernel_rfl) (by kernel_rfl) (fun _ _ _ h => h) (Or.inl ⟨by rfl, ?_⟩) (by assumption) ?_
        rotate_left
        · intro w hSw
          go_split_ands
          go_simp
          try with_reducible rfl
        try simp only [Act.put, List.setIfInBounds_toArray, List.set_cons_zero, List.set_cons_succ]
        refine wpAnyH_take (i := 67) (oi := { dst := some 194, op := Op.move (Operand.tmp 19), type := 3, pos := "outright.go:225", after := #[{ on := 60, ground := Ground.guard }], guard := some (60, false) }) (v := ?_) rfl (by kernel_rfl) (by kernel_rfl) (by kernel_rfl) (fun _ _ _ h => h) (Or.inl ⟨by rfl, ?_⟩) (by assumption) ?_
        rotate_left
        · intro w hSw
          go_split_ands
          go_simp
          try with_reducible rfl
        try simp only [Act.put, List.setIfInBounds_toArray, List.set_cons_zero, List.set_cons_succ]
        refine wpAnyH_take (i := 68) (oi := { dst := some 195, op := Op.indexAddr 29 (Operand.tmp 193) (Operand.tmp 194), type := 0, pos := "outright.go:225", after := #[{ on := 66, ground := Ground.data }, { on := 67, ground := Ground.data }, { on := 60, ground := Ground.guard }], guard := some (60, false) }) (v := ?_) rfl (by kernel_rfl) (by kernel_rfl) (by kernel_rfl) (fun _ _ _ h => h) (Or.inl ⟨by rfl, ?_⟩) (by assumption) ?_
        rotate_left
        · intro w hSw
          go_split_ands
          go_simp
          try with_reducible rfl
        try simp only [Act.put, List.setIfInBounds_toArray, List.set_cons_zero, List.set_cons_succ]
        refine wpAnyH_take (i := 69) (oi := { dst := some 196, op := Op.fieldAddr 73 (Operand.tmp 195) 0, type := 0, pos := "outright.go:225", after := #[{ on := 68, ground := Ground.data }, { on := 60, ground := Ground.guard }], guard := some (60, false) }) (v := ?_) rfl (by kernel_rfl) (by kernel_rfl) (by kernel_rfl) (fun _ _ _ h => h) (Or.inl ⟨by rfl, ?_⟩) (by assumption) ?_
        rotate_left
        · intro w hSw
          go_split_ands
          go_simp
          try with_reducible rfl
        try simp only [Act.put, List.setIfInBounds_toArray, List.set_cons_zero, List.set_cons_succ]
        refine wpAnyH_take (i := 70) (oi := { dst := some 197, op := Op.load 3 (Operand.tmp 196), type := 3, pos := "outright.go:225", after := #[{ on := 69, ground := Ground.data }, { on := 60, ground := Ground.guard }], guard := some (60, false) }) (v := ?_) rfl (by kernel_rfl) (by kernel_rfl) (by kernel_rfl) (fun _ _ _ h => h) (Or.inl ⟨by rfl, ?_⟩) (by assumption) ?_
        rotate_left
        · intro w hSw
          go_split_ands
          go_simp
          try with_reducible rfl
        try simp only [Act.put, List.setIfInBounds_toArray, List.set_cons_zero, List.set_cons_succ]
        refine wpAnyH_take (i := 72) (oi := { dst := some 199, op := Op.move (Operand.tmp 8), type := 29, pos := "outright.go:225", after := #[{ on := 60, ground := Ground.guard }], guard := some (60, false) }) (v := ?_) rfl (by kernel_rfl) (by kernel_rfl) (by kernel_rfl) (fun _ _ _ h => h) (Or.inl ⟨by rfl, ?_⟩) (by assumption) ?_
        rotate_left
        · intro w hSw
          go_split_ands
          go_simp
          try with_reducible rfl
        try simp only [Act.put, List.setIfInBounds_toArray, List.set_cons_zero, List.set_cons_succ]
        refine wpAnyH_take (i := 73) (oi := { dst := some 200, op := Op.move (Operand.tmp 9), type := 29, pos := "outright.go:225", after := #[{ on := 60, ground := Ground.guard }], guard := some (60, false) }) (v := ?_) rfl (by kernel_rfl) (by kernel_rfl) (by kernel_rfl) (fun _ _ _ h => h) (Or.inl ⟨by rfl, ?_⟩) (by assumption) ?_
        rotate_left
        · intro w hSw
          go_split_ands
          go_simp
          try with_reducible rfl
        try simp only [Act.put, List.setIfInBounds_toArray, List.set_cons_zero, List.set_cons_succ]
        refine wpAnyH_take (i := 74) (oi := { dst := some 201, op := Op.move (Operand.tmp 19), type := 3, pos := "outright.go:225", after := #[{ on := 60, ground := Ground.guard }], guard := some (60, false) }) (v := ?_) rfl (by kernel_rfl) (by kernel_rfl) (by kernel_rfl) (fun _ _ _ h => h) (Or.inl ⟨by rfl, ?_⟩) (by assumption) ?_
        rotate_left
        · intro w hSw
          go_split_ands
          go_simp
          try with_reducible rfl
        try simp only [Act.put, List.setIfInBounds_toArray, List.set_cons_zero, List.set_cons_succ]
        refine wpAnyH_take (i := 75) (oi := { dst := some 202, op := Op.indexAddr 29 (Operand.tmp 200) (Operand.tmp 201), type := 0, pos := "outright.go:225", after := #[{ on := 73, ground := Ground.data }, { on := 74, ground := Ground.data }, { on := 60, ground := Ground.guard }], guard := some (60, false) }) (v := ?_) rfl (by kernel_rfl) (by kernel_rfl) (by kernel_rfl) (fun _ _ _ h => h) (Or.inl ⟨by rfl, ?_⟩) (by assumption) ?_
        rotate_left
        · intro w hSw
          go_split_ands
          go_simp
          try with_reducible rfl
        try simp only [Act.put, List.setIfInBounds_toArray, List.set_cons_zero, List.set_cons_succ]
        refine wpAnyH_take (i := 76) (oi := { dst := some 203, op := Op.fieldAddr 73 (Operand.tmp 202) 0, type := 0, pos := "outright.go:225", after := #[{ on := 75, ground := Ground.data }, { on := 60, ground := Ground.guard }], guard := some (60, false) }) (v := ?_) rfl (by kernel_rfl) (by kernel_rfl) (by kernel_rfl) (fun _ _ _ h => h) (Or.inl ⟨by rfl, ?_⟩) (by assumption) ?_
        rotate_left
        · intro w hSw
          go_split_ands
          go_simp
          try with_reducible rfl
        try simp only [Act.put, List.setIfInBounds_toArray, List.set_cons_zero, List.set_cons_succ]
        refine wpAnyH_take (i := 77) (oi := { dst := some 204, op := Op.load 3 (Operand.tmp 203), type := 3, pos := "outright.go:225", after := #[{ on := 76, ground := Ground.data }, { on := 60, ground := Ground.guard }], guard := some (60, false) }) (v := ?_) rfl (by kernel_rfl) (by kernel_rfl) (by kernel_rfl) (fun _ _ _ h => h) (Or.inl ⟨by rfl, ?_⟩) (by assumption) ?_
        rotate_left
        · intro w hSw
          go_split_ands
          go_simp
          try with_reducible rfl
        try simp only [Act.put, List.setIfInBounds_toArray, List.set_cons_zero, List.set_cons_succ]
        refine wpAnyH_ready (rs := [71]) (by kernel_rfl) (by simp) ?_
        refine AllReadyH.cons (o := { dst := some 198, op := Op.call { callee := Callee.value (Operand.func 44), args := #[Operand.tmp 192, Operand.tmp 197], argTypes := #[29, 3] }, type := 73, pos := "outright.go:225", after := #[{ on := 65, ground := Ground.data }, { on := 70, ground := Ground.data }, { on := 60, ground := Ground.chain }, { on := 60, ground := Ground.guard }], guard := some (60, false) }) rfl (fun K hK => ?_) AllReadyH.nil
        have HK := Lib.hid hK; clear hK
        go_simp
        refine (HOa.out _ (by go_split_ands; assumption)).mono ?_
        rintro e w22 ⟨rfl, hb22⟩
        have HC22 := Lib.hid hb22
        clear hb22
        go_wp2_with fail
        refine HK.out _ _ (HS.out _ HC22.out) (fun hHeld => ?_)
        clear HK K
        try simp only [Act.put, List.setIfInBounds_toArray, List.set_cons_zero, List.set_cons_succ]
        refine wpAnyH_ready (rs := [78]) (by kernel_rfl) (by simp) ?_
        refine AllReadyH.cons (o := { dst := some 205, op := Op.call { callee := Callee.value (Operand.func 44), args := #[Operand.tmp 199, Operand.tmp 204], argTypes := #[29, 3] }, type := 73, pos := "outright.go:225", after := #[{ on := 72, ground := Ground.data }, { on := 77, ground := Ground.data }, { on := 71, ground := Ground.chain }, { on := 60, ground := Ground.guard }], guard := some (60, false) }) rfl (fun K hK => ?_) AllReadyH.nil
        have HK := Lib.hid hK; clear hK
        go_simp
        refine (HOb.out _ (by go_split_ands; assumption)).mono ?_
        rintro e w23 ⟨rfl, hb23⟩
        have HC23 := Lib.hid hb23
        clear hb23
        go_wp2_with fail
        refine HK.out _ _ (HS.out _ HC23.out) (fun hHeld => ?_)
        clear HK K
        try simp only [Act.put, List.setIfInBounds_toArray, List.set_cons_zero, List.set_cons_succ]
        refine wpAnyH_ready (rs := [79]) (by kernel_rfl) (by simp) ?_
        refine AllReadyH.cons (o := { dst := some 206, op := Op.call { callee := Callee.value (Operand.func 43), args := #[Operand.tmp 198, Operand.tmp 205], argTypes := #[73, 73] }, type := 73, pos := "outright.go:225", after := #[{ on := 71, ground := Ground.data }, { on := 78, ground := Ground.data }, { on := 78, ground := Ground.chain }, { on := 60, ground := Ground.guard }], guard := some (60, false) }) rfl (fun K hK => ?_) AllReadyH.nil
        have HK := Lib.hid hK; clear hK
        go_simp
        refine (HDf.out _ (by go_split_ands; assumption)).mono ?_
        rintro e w24 ⟨rfl, hb24⟩
        have HC24 := Lib.hid hb24
        clear hb24
        go_wp2_with fail
        refine HK.out _ _ (HS.out _ HC24.out) (fun hHeld => ?_)
        clear HK K
        try simp only [Act.put, List.setIfInBounds_toArray, List.set_cons_zero, List.set_cons_succ]
        refine wpAnyH_take (i := 80) (oi := { dst := some 207, op := Op.binOp BinOp.neq 73 (Operand.tmp 191) (Operand.tmp 206) 73, type := 4, pos := "outright.go:225", after := #[{ on := 64, ground := Ground.data }, { on := 79, ground := Ground.data }, { on := 60, ground := Ground.guard }], guard := some (60, false) }) (v := ?_) rfl (by kernel_rfl) (by kernel_rfl) (by kernel_rfl) (fun _ _ _ h => h) (Or.inl ⟨by rfl, ?_⟩) (by assumption) ?_
        rotate_left
        · intro w hSw
          go_split_ands
          go_simp
          try with_reducible rfl
        try simp only [Act.put, List.setIfInBounds_toArray, List.set_cons_zero, List.set_cons_succ]
        refine wpAnyH_take (i := 81) (oi := { dst := some 208, op := Op.pick (Operand.tmp 187) (Operand.const (Value.bool true)) (Operand.tmp 207), type := 4, pos := "outright.go:225", after := #[{ on := 60, ground := Ground.data }, { on := 80, ground := Ground.data }], guard := none }) (v := ?_) rfl (by kernel_rfl) (by kernel_rfl) (by kernel_rfl) (fun _ _ _ h => h) (Or.inl ⟨by rfl, ?_⟩) (by assumption) ?_
        rotate_left
        · intro w hSw
          go_split_ands
          go_simp
          try with_reducible rfl
        try simp only [Act.put, List.setIfInBounds_toArray, List.set_cons_zero, List.set_cons_succ]
        refine wpAnyH_done (by kernel_rfl) ?_ _
        clear hn1 hn2 a1 a2 a3
        go_wp2_with fail
        go_roundw
        case rel => exact ⟨n + 1, hlt, by go_num, HBr.out.trans (HC24.out.mono HBr.out.size)⟩
        case measure => simp [intOf]; omega
    case neg =>
      have hp5 : ¬ (0 : Int) < (n : Int) := by omega
      have hpd : decide ((0 : Int) < (n : Int)) = false := decide_eq_false hp5
      clear hprev
      have HS := Lib.hid (fun W (h : Below wr.heap.size wr W) => And.intro h (And.intro (HCx.out W h).1 (And.intro (HCx.out W h).2.1 (And.intro (HCx.out W h).2.2.1 (And.intro (HCx.out W h).2.2.2 (HCy.out W h))))))
      as_aux_lemma =>
        go_upto_region 12 with (fail)
        try simp only [List.append_eq, List.cons_append, List.nil_append]
        refine wp_region_held_drew (S := (fun W => Below wr.heap.size wr W ∧ W.cell? ⟨bx, ox + n * 4, none⟩ = some (.int .i64 q.node) ∧ W.cell? ⟨bx, ox + n * 4 + 1, none⟩ = some (.int .i64 (-q.count)) ∧ W.cell? ⟨bx, ox + n * 4 + 2, none⟩ = some (.int .i64 (-q.work)) ∧ W.cell? ⟨bx, ox + n * 4 + 3, none⟩ = some (.int .i64 (-q.cycles)) ∧ W.cell? ⟨by', oy + n * 4, none⟩ = some (.int .i64 q.node) ∧ W.cell? ⟨by', oy + n * 4 + 1, none⟩ = some (.int .i64 q.count) ∧ W.cell? ⟨by', oy + n * 4 + 2, none⟩ = some (.int .i64 q.work) ∧ W.cell? ⟨by', oy + n * 4 + 3, none⟩ = some (.int .i64 q.cycles))) (by kernel_rfl) ?_ (fun hHeld => ?_)
        · exact HS.out _ (below_drew _)
        refine wpAnyH_take (i := 0) (oi := { dst := some 127, op := Op.move (Operand.tmp 9), type := 29, pos := "outright.go:225", after := #[], guard := none }) (v := ?_) rfl (by kernel_rfl) (by kernel_rfl) (by kernel_rfl) (fun _ _ _ h => h) (Or.inl ⟨by rfl, ?_⟩) (by assumption) ?_
        rotate_left
        · intro w hSw
          go_split_ands
          go_simp
          try with_reducible rfl
        try simp only [Act.put, List.setIfInBounds_toArray, List.set_cons_zero, List.set_cons_succ]
        refine wpAnyH_take (i := 1) (oi := { dst := some 128, op := Op.move (Operand.tmp 19), type := 3, pos := "outright.go:225", after := #[], guard := none }) (v := ?_) rfl (by kernel_rfl) (by kernel_rfl) (by kernel_rfl) (fun _ _ _ h => h) (Or.inl ⟨by rfl, ?_⟩) (by assumption) ?_
        rotate_left
        · intro w hSw
          go_split_ands
          go_simp
          try with_reducible rfl
        try simp only [Act.put, List.setIfInBounds_toArray, List.set_cons_zero, List.set_cons_succ]
        refine wpAnyH_take (i := 2) (oi := { dst := some 129, op := Op.indexAddr 29 (Operand.tmp 127) (Operand.tmp 128), type := 0, pos := "outright.go:225", after := #[{ on := 0, ground := Ground.data }, { on := 1, ground := Ground.data }], guard := none }) (v := ?_) rfl (by kernel_rfl) (by kernel_rfl) (by kernel_rfl) (fun _ _ _ h => h) (Or.inl ⟨by rfl, ?_⟩) (by assumption) ?_
        rotate_left
        · intro w hSw
          go_split_ands
          go_simp
          try with_reducible rfl
        try simp only [Act.put, List.setIfInBounds_toArray, List.set_cons_zero, List.set_cons_succ]
        refine wpAnyH_take (i := 3) (oi := { dst := some 130, op := Op.load 73 (Operand.tmp 129), type := 73, pos := "outright.go:225", after := #[{ on := 2, ground := Ground.data }], guard := none }) (v := ?_) rfl (by kernel_rfl) (by kernel_rfl) (by kernel_rfl) (fun _ _ _ h => h) (Or.inl ⟨by rfl, ?_⟩) (by assumption) ?_
        rotate_left
        · intro w hSw
          go_split_ands
          go_simp
          try with_reducible rfl
        try simp only [Act.put, List.setIfInBounds_toArray, List.set_cons_zero, List.set_cons_succ]
        refine wpAnyH_take (i := 4) (oi := { dst := some 131, op := Op.move (Operand.tmp 11), type := 29, pos := "outright.go:225", after := #[], guard := none }) (v := ?_) rfl (by kernel_rfl) (by kernel_rfl) (by kernel_rfl) (fun _ _ _ h => h) (Or.inl ⟨by rfl, ?_⟩) (by assumption) ?_
        rotate_left
        · intro w hSw
          go_split_ands
          go_simp
          try with_reducible rfl
        try simp only [Act.put, List.setIfInBounds_toArray, List.set_cons_zero, List.set_cons_succ]
        refine wpAnyH_take (i := 5) (oi := { dst := some 132, op := Op.move (Operand.tmp 19), type := 3, pos := "outright.go:225", after := #[], guard := none }) (v := ?_) rfl (by kernel_rfl) (by kernel_rfl) (by kernel_rfl) (fun _ _ _ h => h) (Or.inl ⟨by rfl, ?_⟩) (by assumption) ?_
        rotate_left
        · intro w hSw
          go_split_ands
          go_simp
          try with_reducible rfl
        try simp only [Act.put, List.setIfInBounds_toArray, List.set_cons_zero, List.set_cons_succ]
        refine wpAnyH_take (i := 6) (oi := { dst := some 133, op := Op.indexAddr 29 (Operand.tmp 131) (Operand.tmp 132), type := 0, pos := "outright.go:225", after := #[{ on := 4, ground := Ground.data }, { on := 5, ground := Ground.data }], guard := none }) (v := ?_) rfl (by kernel_rfl) (by kernel_rfl) (by kernel_rfl) (fun _ _ _ h => h) (Or.inl ⟨by rfl, ?_⟩) (by assumption) ?_
        rotate_left
        · intro w hSw
          go_split_ands
          go_simp
          try with_reducible rfl
        try simp only [Act.put, List.setIfInBounds_toArray, List.set_cons_zero, List.set_cons_succ]
        refine wpAnyH_take (i := 7) (oi := { dst := some 134, op := Op.fieldAddr 73 (Operand.tmp 133) 0, type := 0, pos := "outright.go:225", after := #[{ on := 6, ground := Ground.data }], guard := none }) (v := ?_) rfl (by kernel_rfl) (by kernel_rfl) (by kernel_rfl) (fun _ _ _ h => h) (Or.inl ⟨by rfl, ?_⟩) (by assumption) ?_
        rotate_left
        · intro w hSw
          go_split_ands
          go_simp
          try with_reducible rfl
        try simp only [Act.put, List.setIfInBounds_toArray, List.set_cons_zero, List.set_cons_succ]
        refine wpAnyH_take (i := 8) (oi := { dst := some 135, op := Op.load 3 (Operand.tmp 134), type := 3, pos := "outright.go:225", after := #[{ on := 7, ground := Ground.data }], guard := none }) (v := ?_) rfl (by kernel_rfl) (by kernel_rfl) (by kernel_rfl) (fun _ _ _ h => h) (Or.inl ⟨by rfl, ?_⟩) (by assumption) ?_
        rotate_left
        · intro w hSw
          go_split_ands
          go_simp
          try with_reducible rfl
        try simp only [Act.put, List.setIfInBounds_toArray, List.set_cons_zero, List.set_cons_succ]
        refine wpAnyH_take (i := 9) (oi := { dst := some 136, op := Op.move (Operand.tmp 11), type := 29, pos := "outright.go:225", after := #[], guard := none }) (v := ?_) rfl (by kernel_rfl) (by kernel_rfl) (by kernel_rfl) (fun _ _ _ h => h) (Or.inl ⟨by rfl, ?_⟩) (by assumption) ?_
        rotate_left
        · intro w hSw
          go_split_ands
          go_simp
          try with_reducible rfl
        try simp only [Act.put, List.setIfInBounds_toArray, List.set_cons_zero, List.set_cons_succ]
        refine wpAnyH_take (i := 10) (oi := { dst := some 137, op := Op.move (Operand.tmp 19), type := 3, pos := "outright.go:225", after := #[], guard := none }) (v := ?_) rfl (by kernel_rfl) (by kernel_rfl) (by kernel_rfl) (fun _ _ _ h => h) (Or.inl ⟨by rfl, ?_⟩) (by assumption) ?_
        rotate_left
        · intro w hSw
          go_split_ands
          go_simp
          try with_reducible rfl
        try simp only [Act.put, List.setIfInBounds_toArray, List.set_cons_zero, List.set_cons_succ]
        refine wpAnyH_take (i := 11) (oi := { dst := some 138, op := Op.indexAddr 29 (Operand.tmp 136) (Operand.tmp 137), type := 0, pos := "outright.go:225", after := #[{ on := 9, ground := Ground.data }, { on := 10, ground := Ground.data }], guard := none }) (v := ?_) rfl (by kernel_rfl) (by kernel_rfl) (by kernel_rfl) (fun _ _ _ h => h) (Or.inl ⟨by rfl, ?_⟩) (by assumption) ?_
        rotate_left
        · intro w hSw
          go_split_ands
          go_simp
          try with_reducible rfl
        try simp only [Act.put, List.setIfInBounds_toArray, List.set_cons_zero, List.set_cons_succ]
        refine wpAnyH_take (i := 12) (oi := { dst := some 139, op := Op.fieldAddr 73 (Operand.tmp 138) 1, type := 0, pos := "outright.go:225", after := #[{ on := 11, ground := Ground.data }], guard := none }) (v := ?_) rfl (by kernel_rfl) (by kernel_rfl) (by kernel_rfl) (fun _ _ _ h => h) (Or.inl ⟨by rfl, ?_⟩) (by assumption) ?_
        rotate_left
        · intro w hSw
          go_split_ands
          go_simp
          try with_reducible rfl
        try simp only [Act.put, List.setIfInBounds_toArray, List.set_cons_zero, List.set_cons_succ]
        refine wpAnyH_take (i := 13) (oi := { dst := some 140, op := Op.load 3 (Operand.tmp 139), type := 3, pos := "outright.go:225", after := #[{ on := 12, ground := Ground.data }], guard := none }) (v := ?_) rfl (by kernel_rfl) (by kernel_rfl) (by kernel_rfl) (fun _ _ _ h => h) (Or.inl ⟨by rfl, ?_⟩) (by assumption) ?_
        rotate_left
        · intro w hSw
          go_split_ands
          go_simp
          try with_reducible rfl
        try simp only [Act.put, List.setIfInBounds_toArray, List.set_cons_zero, List.set_cons_succ]
        refine wpAnyH_take (i := 14) (oi := { dst := some 141, op := Op.unOp UnOp.neg 3 (Operand.tmp 140), type := 3, pos := "outright.go:225", after := #[{ on := 13, ground := Ground.data }], guard := none }) (v := ?_) rfl (by kernel_rfl) (by kernel_rfl) (by kernel_rfl) (fun _ _ _ h => h) (Or.inl ⟨by rfl, ?_⟩) (by assumption) ?_
        rotate_left
        · intro w hSw
          go_split_ands
          go_simp
          try with_reducible rfl
        try simp only [Act.put, List.setIfInBounds_toArray, List.set_cons_zero, List.set_cons_succ]
        refine wpAnyH_take (i := 15) (oi := { dst := some 142, op := Op.move (Operand.tmp 11), type := 29, pos := "outright.go:225", after := #[], guard := none }) (v := ?_) rfl (by kernel_rfl) (by kernel_rfl) (by kernel_rfl) (fun _ _ _ h => h) (Or.inl ⟨by rfl, ?_⟩) (by assumption) ?_
        rotate_left
        · intro w hSw
          go_split_ands
          go_simp
          try with_reducible rfl
        try simp only [Act.put, List.setIfInBounds_toArray, List.set_cons_zero, List.set_cons_succ]
        refine wpAnyH_take (i := 16) (oi := { dst := some 143, op := Op.move (Operand.tmp 19), type := 3, pos := "outright.go:225", after := #[], guard := none }) (v := ?_) rfl (by kernel_rfl) (by kernel_rfl) (by kernel_rfl) (fun _ _ _ h => h) (Or.inl ⟨by rfl, ?_⟩) (by assumption) ?_
        rotate_left
        · intro w hSw
          go_split_ands
          go_simp
          try with_reducible rfl
        try simp only [Act.put, List.setIfInBounds_toArray, List.set_cons_zero, List.set_cons_succ]
        refine wpAnyH_take (i := 17) (oi := { dst := some 144, op := Op.indexAddr 29 (Operand.tmp 142) (Operand.tmp 143), type := 0, pos := "outright.go:225", after := #[{ on := 15, ground := Ground.data }, { on := 16, ground := Ground.data }], guard := none }) (v := ?_) rfl (by kernel_rfl) (by kernel_rfl) (by kernel_rfl) (fun _ _ _ h => h) (Or.inl ⟨by rfl, ?_⟩) (by assumption) ?_
        rotate_left
        · intro w hSw
          go_split_ands
          go_simp
          try with_reducible rfl
        try simp only [Act.put, List.setIfInBounds_toArray, List.set_cons_zero, List.set_cons_succ]
        refine wpAnyH_take (i := 18) (oi := { dst := some 145, op := Op.fieldAddr 73 (Operand.tmp 144) 2, type := 0, pos := "outright.go:225", after := #[{ on := 17, ground := Ground.data }], guard := none }) (v := ?_) rfl (by kernel_rfl) (by kernel_rfl) (by kernel_rfl) (fun _ _ _ h => h) (Or.inl ⟨by rfl, ?_⟩) (by assumption) ?_
        rotate_left
        · intro w hSw
          go_split_ands
          go_simp
          try with_reducible rfl
        try simp only [Act.put, List.setIfInBounds_toArray, List.set_cons_zero, List.set_cons_succ]
        refine wpAnyH_take (i := 19) (oi := { dst := some 146, op := Op.load 3 (Operand.tmp 145), type := 3, pos := "outright.go:225", after := #[{ on := 18, ground := Ground.data }], guard := none }) (v := ?_) rfl (by kernel_rfl) (by kernel_rfl) (by kernel_rfl) (fun _ _ _ h => h) (Or.inl ⟨by rfl, ?_⟩) (by assumption) ?_
        rotate_left
        · intro w hSw
          go_split_ands
          go_simp
          try with_reducible rfl
        try simp only [Act.put, List.setIfInBounds_toArray, List.set_cons_zero, List.set_cons_succ]
        refine wpAnyH_take (i := 20) (oi := { dst := some 147, op := Op.unOp UnOp.neg 3 (Operand.tmp 146), type := 3, pos := "outright.go:225", after := #[{ on := 19, ground := Ground.data }], guard := none }) (v := ?_) rfl (by kernel_rfl) (by kernel_rfl) (by kernel_rfl) (fun _ _ _ h => h) (Or.inl ⟨by rfl, ?_⟩) (by assumption) ?_
        rotate_left
        · intro w hSw
          go_split_ands
          go_simp
          try with_reducible rfl
        try simp only [Act.put, List.setIfInBounds_toArray, List.set_cons_zero, List.set_cons_succ]
        refine wpAnyH_take (i := 21) (oi := { dst := some 148, op := Op.move (Operand.tmp 11), type := 29, pos := "outright.go:225", after := #[], guard := none }) (v := ?_) rfl (by kernel_rfl) (by kernel_rfl) (by kernel_rfl) (fun _ _ _ h => h) (Or.inl ⟨by rfl, ?_⟩) (by assumption) ?_
        rotate_left
        · intro w hSw
          go_split_ands
          go_simp
          try with_reducible rfl
        try simp only [Act.put, List.setIfInBounds_toArray, List.set_cons_zero, List.set_cons_succ]
        refine wpAnyH_take (i := 22) (oi := { dst := some 149, op := Op.move (Operand.tmp 19), type := 3, pos := "outright.go:225", after := #[], guard := none }) (v := ?_) rfl (by kernel_rfl) (by kernel_rfl) (by kernel_rfl) (fun _ _ _ h => h) (Or.inl ⟨by rfl, ?_⟩) (by assumption) ?_
        rotate_left
        · intro w hSw
          go_split_ands
          go_simp
          try with_reducible rfl
        try simp only [Act.put, List.setIfInBounds_toArray, List.set_cons_zero, List.set_cons_succ]
        refine wpAnyH_take (i := 23) (oi := { dst := some 150, op := Op.indexAddr 29 (Operand.tmp 148) (Operand.tmp 149), type := 0, pos := "outright.go:225", after := #[{ on := 21, ground := Ground.data }, { on := 22, ground := Ground.data }], guard := none }) (v := ?_) rfl (by kernel_rfl) (by kernel_rfl) (by kernel_rfl) (fun _ _ _ h => h) (Or.inl ⟨by rfl, ?_⟩) (by assumption) ?_
        rotate_left
        · intro w hSw
          go_split_ands
          go_simp
          try with_reducible rfl
        try simp only [Act.put, List.setIfInBounds_toArray, List.set_cons_zero, List.set_cons_succ]
        refine wpAnyH_take (i := 24) (oi := { dst := some 151, op := Op.fieldAddr 73 (Operand.tmp 150) 3, type := 0, pos := "outright.go:225", after := #[{ on := 23, ground := Ground.data }], guard := none }) (v := ?_) rfl (by kernel_rfl) (by kernel_rfl) (by kernel_rfl) (fun _ _ _ h => h) (Or.inl ⟨by rfl, ?_⟩) (by assumption) ?_
        rotate_left
        · intro w hSw
          go_split_ands
          go_simp
          try with_reducible rfl
        try simp only [Act.put, List.setIfInBounds_toArray, List.set_cons_zero, List.set_cons_succ]
        refine wpAnyH_take (i := 25) (oi := { dst := some 152, op := Op.load 3 (Operand.tmp 151), type := 3, pos := "outright.go:225", after := #[{ on := 24, ground := Ground.data }], guard := none }) (v := ?_) rfl (by kernel_rfl) (by kernel_rfl) (by kernel_rfl) (fun _ _ _ h => h) (Or.inl ⟨by rfl, ?_⟩) (by assumption) ?_
        rotate_left
        · intro w hSw
          go_split_ands
          go_simp
          try with_reducible rfl
        try simp only [Act.put, List.setIfInBounds_toArray, List.set_cons_zero, List.set_cons_succ]
        refine wpAnyH_take (i := 26) (oi := { dst := some 153, op := Op.unOp UnOp.neg 3 (Operand.tmp 152), type := 3, pos := "outright.go:225", after := #[{ on := 25, ground := Ground.data }], guard := none }) (v := ?_) rfl (by kernel_rfl) (by kernel_rfl) (by kernel_rfl) (fun _ _ _ h => h) (Or.inl ⟨by rfl, ?_⟩) (by assumption) ?_
        rotate_left
        · intro w hSw
          go_split_ands
          go_simp
          try with_reducible rfl
        try simp only [Act.put, List.setIfInBounds_toArray, List.set_cons_zero, List.set_cons_succ]
        refine wpAnyH_ready (rs := [27]) (by kernel_rfl) (by simp) ?_
        refine AllReadyH.cons (o := { dst := some 154, op := Op.call { callee := Callee.value (Operand.func 42), args := #[Operand.tmp 135, Operand.tmp 141, Operand.tmp 147, Operand.tmp 153], argTypes := #[3, 3, 3, 3] }, type := 73, pos := "outright.go:225", after := #[{ on := 8, ground := Ground.data }, { on := 14, ground := Ground.data }, { on := 20, ground := Ground.data }, { on := 26, ground := Ground.data }], guard := none }) rfl (fun K hK => ?_) AllReadyH.nil
        have HK := Lib.hid hK; clear hK
        go_simp
        refine (HNd.out _ (by go_split_ands; assumption)).mono ?_
        rintro e w20 ⟨rfl, hb20⟩
        have HC20 := Lib.hid hb20
        clear hb20
        go_wp2_with fail
        refine HK.out _ _ (HS.out _ HC20.out) (fun hHeld => ?_)
        clear HK K
        try simp only [Act.put, List.setIfInBounds_toArray, List.set_cons_zero, List.set_cons_succ]
        refine wpAnyH_take (i := 28) (oi := { dst := some 155, op := Op.binOp BinOp.neq 73 (Operand.tmp 130) (Operand.tmp 154) 73, type := 4, pos := "outright.go:225", after := #[{ on := 3, ground := Ground.data }, { on := 27, ground := Ground.data }], guard := none }) (v := ?_) rfl (by kernel_rfl) (by kernel_rfl) (by kernel_rfl) (fun _ _ _ h => h) (Or.inl ⟨by rfl, ?_⟩) (by assumption) ?_
        rotate_left
        · intro w hSw
          go_split_ands
          go_simp
          try with_reducible rfl
        try simp only [Act.put, List.setIfInBounds_toArray, List.set_cons_zero, List.set_cons_succ]
        refine wpAnyH_take (i := 29) (oi := { dst := some 156, op := Op.move (Operand.tmp 155), type := 4, pos := "outright.go:225", after := #[{ on := 28, ground := Ground.data }, { on := 27, ground := Ground.chain }], guard := none }) (v := ?_) rfl (by kernel_rfl) (by kernel_rfl) (by kernel_rfl) (fun _ _ _ h => h) (Or.inl ⟨by rfl, ?_⟩) (by assumption) ?_
        rotate_left
        · intro w hSw
          go_split_ands
          go_simp
          try with_reducible rfl
        try simp only [Act.put, List.setIfInBounds_toArray, List.set_cons_zero, List.set_cons_succ]
        refine wpAnyH_take (i := 30) (oi := { dst := some 157, op := Op.move (Operand.tmp 9), type := 29, pos := "outright.go:225", after := #[{ on := 29, ground := Ground.guard }], guard := some (29, false) }) (v := ?_) rfl (by kernel_rfl) (by kernel_rfl) (by kernel_rfl) (fun _ _ _ h => h) (Or.inl ⟨by rfl, ?_⟩) (by assumption) ?_
        rotate_left
        · intro w hSw
          go_split_ands
          go_simp
          try with_reducible rfl
        try simp only [Act.put, List.setIfInBounds_toArray, List.set_cons_zero, List.set_cons_succ]
        refine wpAnyH_take (i := 31) (oi := { dst := some 158, op := Op.move (Operand.tmp 19), type := 3, pos := "outright.go:225", after := #[{ on := 29, ground := Ground.guard }], guard := some (29, false) }) (v := ?_) rfl (by kernel_rfl) (by kernel_rfl) (by kernel_rfl) (fun _ _ _ h => h) (Or.inl ⟨by rfl, ?_⟩) (by assumption) ?_
        rotate_left
        · intro w hSw
          go_split_ands
          go_simp
          try with_reducible rfl
        try simp only [Act.put, List.setIfInBounds_toArray, List.set_cons_zero, List.set_cons_succ]
        refine wpAnyH_take (i := 32) (oi := { dst := some 159, op := Op.indexAddr 29 (Operand.tmp 157) (Operand.tmp 158), type := 0, pos := "outright.go:225", after := #[{ on := 30, ground := Ground.data }, { on := 31, ground := Ground.data }, { on := 29, ground := Ground.guard }], guard := some (29, false) }) (v := ?_) rfl (by kernel_rfl) (by kernel_rfl) (by kernel_rfl) (fun _ _ _ h => h) (Or.inl ⟨by rfl, ?_⟩) (by assumption) ?_
        rotate_left
        · intro w hSw
          go_split_ands
          go_simp
          try with_reducible rfl
        try simp only [Act.put, List.setIfInBounds_toArray, List.set_cons_zero, List.set_cons_succ]
        refine wpAnyH_take (i := 33) (oi := { dst := some 160, op := Op.load 73 (Operand.tmp 159), type := 73, pos := "outright.go:225", after := #[{ on := 32, ground := Ground.data }, { on := 29, ground := Ground.guard }], guard := some (29, false) }) (v := ?_) rfl (by kernel_rfl) (by kernel_rfl) (by kernel_rfl) (fun _ _ _ h => h) (Or.inl ⟨by rfl, ?_⟩) (by assumption) ?_
        rotate_left
        · intro w hSw
          go_split_ands
          go_simp
          try with_reducible rfl
        try simp only [Act.put, List.setIfInBounds_toArray, List.set_cons_zero, List.set_cons_succ]
        refine wpAnyH_take (i := 34) (oi := { dst := some 161, op := Op.move (Operand.tmp 9), type := 29, pos := "outright.go:225", after := #[{ on := 29, ground := Ground.guard }], guard := some (29, false) }) (v := ?_) rfl (by kernel_rfl) (by kernel_rfl) (by kernel_rfl) (fun _ _ _ h => h) (Or.inl ⟨by rfl, ?_⟩) (by assumption) ?_
        rotate_left
        · intro w hSw
          go_split_ands
          go_simp
          try with_reducible rfl
        try simp only [Act.put, List.setIfInBounds_toArray, List.set_cons_zero, List.set_cons_succ]
        refine wpAnyH_take (i := 35) (oi := { dst := some 162, op := Op.move (Operand.tmp 19), type := 3, pos := "outright.go:225", after := #[{ on := 29, ground := Ground.guard }], guard := some (29, false) }) (v := ?_) rfl (by kernel_rfl) (by kernel_rfl) (by kernel_rfl) (fun _ _ _ h => h) (Or.inl ⟨by rfl, ?_⟩) (by assumption) ?_
        rotate_left
        · intro w hSw
          go_split_ands
          go_simp
          try with_reducible rfl
        try simp only [Act.put, List.setIfInBounds_toArray, List.set_cons_zero, List.set_cons_succ]
        refine wpAnyH_take (i := 36) (oi := { dst := some 163, op := Op.indexAddr 29 (Operand.tmp 161) (Operand.tmp 162), type := 0, pos := "outright.go:225", after := #[{ on := 34, ground := Ground.data }, { on := 35, ground := Ground.data }, { on := 29, ground := Ground.guard }], guard := some (29, false) }) (v := ?_) rfl (by kernel_rfl) (by kernel_rfl) (by kernel_rfl) (fun _ _ _ h => h) (Or.inl ⟨by rfl, ?_⟩) (by assumption) ?_
        rotate_left
        · intro w hSw
          go_split_ands
          go_simp
          try with_reducible rfl
        try simp only [Act.put, List.setIfInBounds_toArray, List.set_cons_zero, List.set_cons_succ]
        refine wpAnyH_take (i := 37) (oi := { dst := some 164, op := Op.fieldAddr 73 (Operand.tmp 163) 0, type := 0, pos := "outright.go:225", after := #[{ on := 36, ground := Ground.data }, { on := 29, ground := Ground.guard }], guard := some (29, false) }) (v := ?_) rfl (by kernel_rfl) (by kernel_rfl) (by kernel_rfl) (fun _ _ _ h => h) (Or.inl ⟨by rfl, ?_⟩) (by assumption) ?_
        rotate_left
        · intro w hSw
          go_split_ands
          go_simp
          try with_reducible rfl
        try simp only [Act.put, List.setIfInBounds_toArray, List.set_cons_zero, List.set_cons_succ]
        refine wpAnyH_take (i := 38) (oi := { dst := some 165, op := Op.load 3 (Operand.tmp 164), type := 3, pos := "outright.go:225", after := #[{ on := 37, ground := Ground.data }, { on := 29, ground := Ground.guard }], guard := some (29, false) }) (v := ?_) rfl (by kernel_rfl) (by kernel_rfl) (by kernel_rfl) (fun _ _ _ h => h) (Or.inl ⟨by rfl, ?_⟩) (by assumption) ?_
        rotate_left
        · intro w hSw
          go_split_ands
          go_simp
          try with_reducible rfl
        try simp only [Act.put, List.setIfInBounds_toArray, List.set_cons_zero, List.set_cons_succ]
        refine wpAnyH_ready (rs := [39]) (by kernel_rfl) (by simp) ?_
        refine AllReadyH.cons (o := { dst := some 166, op := Op.call { callee := Callee.value (Operand.func 42), args := #[Operand.tmp 165, Operand.const (Value.int IntKind.i64 0), Operand.const (Value.int IntKind.i64 0), Operand.const (Value.int IntKind.i64 0)], argTypes := #[3, 3, 3, 3] }, type := 73, pos := "outright.go:225", after := #[{ on := 38, ground := Ground.data }, { on := 29, ground := Ground.chain }, { on := 29, ground := Ground.guard }], guard := some (29, false) }) rfl (fun K hK => ?_) AllReadyH.nil
        have HK := Lib.hid hK; clear hK
        go_simp
        refine (HNz.out _ (by go_split_ands; assumption)).mono ?_
        rintro e w21 ⟨rfl, hb21⟩
        have HC21 := Lib.hid hb21
        clear hb21
        go_wp2_with fail
        refine HK.out _ _ (HS.out _ HC21.out) (fun hHeld => ?_)
        clear HK K
        try simp only [Act.put, List.setIfInBounds_toArray, List.set_cons_zero, List.set_cons_succ]
        refine wpAnyH_take (i := 40) (oi := { dst := some 167, op := Op.binOp BinOp.eql 73 (Operand.tmp 160) (Operand.tmp 166) 73, type := 4, pos := "outright.go:225", after := #[{ on := 33, ground := Ground.data }, { on := 39, ground := Ground.data }, { on := 29, ground := Ground.guard }], guard := some (29, false) }) (v := ?_) rfl (by kernel_rfl) (by kernel_rfl) (by kernel_rfl) (fun _ _ _ h => h) (Or.inl ⟨by rfl, ?_⟩) (by assumption) ?_
        rotate_left
        · intro w hSw
          go_split_ands
          go_simp
          try with_reducible rfl
        try simp only [Act.put, List.setIfInBounds_toArray, List.set_cons_zero, List.set_cons_succ]
        refine wpAnyH_take (i := 41) (oi := { dst := some 168, op := Op.pick (Operand.tmp 156) (Operand.const (Value.bool true)) (Operand.tmp 167), type := 4, pos := "outright.go:225", after := #[{ on := 29, ground := Ground.data }, { on := 40, ground := Ground.data }], guard := none }) (v := ?_) rfl (by kernel_rfl) (by kernel_rfl) (by kernel_rfl) (fun _ _ _ h => h) (Or.inl ⟨by rfl, ?_⟩) (by assumption) ?_
        rotate_left
        · intro w hSw
          go_split_ands
          go_simp
          try with_reducible rfl
        try simp only [Act.put, List.setIfInBounds_toArray, List.set_cons_zero, List.set_cons_succ]
        refine wpAnyH_take (i := 42) (oi := { dst := some 169, op := Op.move (Operand.tmp 168), type := 4, pos := "outright.go:225", after := #[{ on := 41, ground := Ground.data }, { on := 39, ground := Ground.chain }], guard := none }) (v := ?_) rfl (by kernel_rfl) (by kernel_rfl) (by kernel_rfl) (fun _ _ _ h => h) (Or.inl ⟨by rfl, ?_⟩) (by assumption) ?_
        rotate_left
        · intro w hSw
          go_split_ands
          go_simp
          try with_reducible rfl
        try simp only [Act.put, List.setIfInBounds_toArray, List.set_cons_zero, List.set_cons_succ]
        refine wpAnyH_take (i := 43) (oi := { dst := some 170, op := Op.move (Operand.tmp 19), type := 3, pos := "outright.go:225", after := #[{ on := 42, ground := Ground.guard }], guard := some (42, false) }) (v := ?_) rfl (by kernel_rfl) (by kernel_rfl) (by kernel_rfl) (fun _ _ _ h => h) (Or.inl ⟨by rfl, ?_⟩) (by assumption) ?_
        rotate_left
        · intro w hSw
          go_split_ands
          go_simp
          try with_reducible rfl
        try simp only [Act.put, List.setIfInBounds_toArray, List.set_cons_zero, List.set_cons_succ]
        refine wpAnyH_take (i := 44) (oi := { dst := some 171, op := Op.binOp BinOp.gtr 3 (Operand.tmp 170) (Operand.const (Value.int IntKind.i64 0)) 3, type := 4, pos := "outright.go:225", after := #[{ on := 43, ground := Ground.data }, { on := 42, ground := Ground.guard }], guard := some (42, false) }) (v := ?_) rfl (by kernel_rfl) (by kernel_rfl) (by kernel_rfl) (fun _ _ _ h => h) (Or.inl ⟨by rfl, ?_⟩) (by assumption) ?_
        rotate_left
        · intro w hSw
          go_split_ands
          go_simp
          try with_reducible rfl
        try simp only [Act.put, List.setIfInBounds_toArray, List.set_cons_zero, List.set_cons_succ]
        refine wpAnyH_take (i := 45) (oi := { dst := some 172, op := Op.move (Operand.tmp 171), type := 4, pos := "outright.go:225", after := #[{ on := 44, ground := Ground.data }, { on := 42, ground := Ground.chain }, { on := 42, ground := Ground.guard }], guard := some (42, false) }) (v := ?_) rfl (by kernel_rfl) (by kernel_rfl) (by kernel_rfl) (fun _ _ _ h => h) (Or.inl ⟨by rfl, ?_⟩) (by assumption) ?_
        rotate_left
        · intro w hSw
          go_split_ands
          go_simp
          try with_reducible rfl
        try simp only [Act.put, List.setIfInBounds_toArray, List.set_cons_zero, List.set_cons_succ]
        refine wpAnyH_take (i := 46) (oi := { dst := some 173, op := Op.move (Operand.tmp 9), type := 29, pos := "outright.go:225", after := #[{ on := 45, ground := Ground.guard }], guard := some (45, true) }) (v := undef) rfl (by kernel_rfl) (by kernel_rfl) (by kernel_rfl) (fun _ _ _ h => h) (Or.inr ⟨by rfl, rfl⟩) (by assumption) ?_
        try simp only [Act.put, List.setIfInBounds_toArray, List.set_cons_zero, List.set_cons_succ]
        refine wpAnyH_take (i := 47) (oi := { dst := some 174, op := Op.move (Operand.tmp 19), type := 3, pos := "outright.go:225", after := #[{ on := 45, ground := Ground.guard }], guard := some (45, true) }) (v := undef) rfl (by kernel_rfl) (by kernel_rfl) (by kernel_rfl) (fun _ _ _ h => h) (Or.inr ⟨by rfl, rfl⟩) (by assumption) ?_
        try simp only [Act.put, List.setIfInBounds_toArray, List.set_cons_zero, List.set_cons_succ]
        refine wpAnyH_take (i := 48) (oi := { dst := some 175, op := Op.indexAddr 29 (Operand.tmp 173) (Operand.tmp 174), type := 0, pos := "outright.go:225", after := #[{ on := 46, ground := Ground.data }, { on := 47, ground := Ground.data }, { on := 45, ground := Ground.guard }], guard := some (45, true) }) (v := undef) rfl (by kernel_rfl) (by kernel_rfl) (by kernel_rfl) (fun _ _ _ h => h) (Or.inr ⟨by rfl, rfl⟩) (by assumption) ?_
        try simp only [Act.put, List.setIfInBounds_toArray, List.set_cons_zero, List.set_cons_succ]
        refine wpAnyH_take (i := 49) (oi := { dst := some 176, op := Op.fieldAddr 73 (Operand.tmp 175) 0, type := 0, pos := "outright.go:225", after := #[{ on := 48, ground := Ground.data }, { on := 45, ground := Ground.guard }], guard := some (45, true) }) (v := undef) rfl (by kernel_rfl) (by kernel_rfl) (by kernel_rfl) (fun _ _ _ h => h) (Or.inr ⟨by rfl, rfl⟩) (by assumption) ?_
        try simp only [Act.put, List.setIfInBounds_toArray, List.set_cons_zero, List.set_cons_succ]
        refine wpAnyH_take (i := 50) (oi := { dst := some 177, op := Op.load 3 (Operand.tmp 176), type := 3, pos := "outright.go:225", after := #[{ on := 49, ground := Ground.data }, { on := 45, ground := Ground.guard }], guard := some (45, true) }) (v := undef) rfl (by kernel_rfl) (by kernel_rfl) (by kernel_rfl) (fun _ _ _ h => h) (Or.inr ⟨by rfl, rfl⟩) (by assumption) ?_
        try simp only [Act.put, List.setIfInBounds_toArray, List.set_cons_zero, List.set_cons_succ]
        refine wpAnyH_take (i := 51) (oi := { dst := some 178, op := Op.move (Operand.tmp 9), type := 29, pos := "outright.go:225", after := #[{ on := 45, ground := Ground.guard }], guard := some (45, true) }) (v := undef) rfl (by kernel_rfl) (by kernel_rfl) (by kernel_rfl) (fun _ _ _ h => h) (Or.inr ⟨by rfl, rfl⟩) (by assumption) ?_
        try simp only [Act.put, List.setIfInBounds_toArray, List.set_cons_zero, List.set_cons_succ]
        refine wpAnyH_take (i := 52) (oi := { dst := some 179, op := Op.move (Operand.tmp 19), type := 3, pos := "outright.go:225", after := #[{ on := 45, ground := Ground.guard }], guard := some (45, true) }) (v := undef) rfl (by kernel_rfl) (by kernel_rfl) (by kernel_rfl) (fun _ _ _ h => h) (Or.inr ⟨by rfl, rfl⟩) (by assumption) ?_
        try simp only [Act.put, List.setIfInBounds_toArray, List.set_cons_zero, List.set_cons_succ]
        refine wpAnyH_take (i := 53) (oi := { dst := some 180, op := Op.binOp BinOp.sub 3 (Operand.tmp 179) (Operand.const (Value.int IntKind.i64 1)) 3, type := 3, pos := "outright.go:225", after := #[{ on := 52, ground := Ground.data }, { on := 45, ground := Ground.guard }], guard := some (45, true) }) (v := undef) rfl (by kernel_rfl) (by kernel_rfl) (by kernel_rfl) (fun _ _ _ h => h) (Or.inr ⟨by rfl, rfl⟩) (by assumption) ?_
        try simp only [Act.put, List.setIfInBounds_toArray, List.set_cons_zero, List.set_cons_succ]
        refine wpAnyH_take (i := 54) (oi := { dst := some 181, op := Op.indexAddr 29 (Operand.tmp 178) (Operand.tmp 180), type := 0, pos := "outright.go:225", after := #[{ on := 51, ground := Ground.data }, { on := 53, ground := Ground.data }, { on := 45, ground := Ground.guard }], guard := some (45, true) }) (v := undef) rfl (by kernel_rfl) (by kernel_rfl) (by kernel_rfl) (fun _ _ _ h => h) (Or.inr ⟨by rfl, rfl⟩) (by assumption) ?_
        try simp only [Act.put, List.setIfInBounds_toArray, List.set_cons_zero, List.set_cons_succ]
        refine wpAnyH_take (i := 55) (oi := { dst := some 182, op := Op.fieldAddr 73 (Operand.tmp 181) 0, type := 0, pos := "outright.go:225", after := #[{ on := 54, ground := Ground.data }, { on := 45, ground := Ground.guard }], guard := some (45, true) }) (v := undef) rfl (by kernel_rfl) (by kernel_rfl) (by kernel_rfl) (fun _ _ _ h => h) (Or.inr ⟨by rfl, rfl⟩) (by assumption) ?_
        try simp only [Act.put, List.setIfInBounds_toArray, List.set_cons_zero, List.set_cons_succ]
        refine wpAnyH_take (i := 56) (oi := { dst := some 183, op := Op.load 3 (Operand.tmp 182), type := 3, pos := "outright.go:225", after := #[{ on := 55, ground := Ground.data }, { on := 45, ground := Ground.guard }], guard := some (45, true) }) (v := undef) rfl (by kernel_rfl) (by kernel_rfl) (by kernel_rfl) (fun _ _ _ h => h) (Or.inr ⟨by rfl, rfl⟩) (by assumption) ?_
        try simp only [Act.put, List.setIfInBounds_toArray, List.set_cons_zero, List.set_cons_succ]
        refine wpAnyH_take (i := 57) (oi := { dst := some 184, op := Op.binOp BinOp.leq 3 (Operand.tmp 177) (Operand.tmp 183) 3, type := 4, pos := "outright.go:225", after := #[{ on := 50, ground := Ground.data }, { on := 56, ground := Ground.data }, { on := 45, ground := Ground.guard }], guard := some (45, true) }) (v := undef) rfl (by kernel_rfl) (by kernel_rfl) (by kernel_rfl) (fun _ _ _ h => h) (Or.inr ⟨by rfl, rfl⟩) (by assumption) ?_
        try simp only [Act.put, List.setIfInBounds_toArray, List.set_cons_zero, List.set_cons_succ]
        refine wpAnyH_take (i := 58) (oi := { dst := some 185, op := Op.pick (Operand.tmp 172) (Operand.tmp 184) (Operand.const (Value.bool false)), type := 4, pos := "outright.go:225", after := #[{ on := 45, ground := Ground.data }, { on := 57, ground := Ground.data }, { on := 42, ground := Ground.guard }], guard := some (42, false) }) (v := ?_) rfl (by kernel_rfl) (by kernel_rfl) (by kernel_rfl) (fun _ _ _ h => h) (Or.inl ⟨by rfl, ?_⟩) (by assumption) ?_
        rotate_left
        · intro w hSw
          go_split_ands
          go_simp
          try with_reducible rfl
        try simp only [Act.put, List.setIfInBounds_toArray, List.set_cons_zero, List.set_cons_succ]
        refine wpAnyH_take (i := 59) (oi := { dst := some 186, op := Op.pick (Operand.tmp 169) (Operand.const (Value.bool true)) (Operand.tmp 185), type := 4, pos := "outright.go:225", after := #[{ on := 42, ground := Ground.data }, { on := 58, ground := Ground.data }], guard := none }) (v := ?_) rfl (by kernel_rfl) (by kernel_rfl) (by kernel_rfl) (fun _ _ _ h => h) (Or.inl ⟨by rfl, ?_⟩) (by assumption) ?_
        rotate_left
        · intro w hSw
          go_split_ands
          go_simp
          try with_reducible rfl
        try simp only [Act.put, List.setIfInBounds_toArray, List.set_cons_zero, List.set_cons_succ]
        refine wpAnyH_take (i := 60) (oi := { dst := some 187, op := Op.move (Operand.tmp 186), type := 4, pos := "outright.go:225", after := #[{ on := 59, ground := Ground.data }, { on := 45, ground := Ground.chain }], guard := none }) (v := ?_) rfl (by kernel_rfl) (by kernel_rfl) (by kernel_rfl) (fun _ _ _ h => h) (Or.inl ⟨by rfl, ?_⟩) (by assumption) ?_
        rotate_left
        · intro w hSw
          go_split_ands
          go_simp
          try with_reducible rfl
        try simp only [Act.put, List.setIfInBounds_toArray, List.set_cons_zero, List.set_cons_succ]
        refine wpAnyH_take (i := 61) (oi := { dst := some 188, op := Op.move (Operand.tmp 9), type := 29, pos := "outright.go:225", after := #[{ on := 60, ground := Ground.guard }], guard := some (60, false) }) (v := ?_) rfl (by kernel_rfl) (by kernel_rfl) (by kernel_rfl) (fun _ _ _ h => h) (Or.inl ⟨by rfl, ?_⟩) (by assumption) ?_
        rotate_left
        · intro w hSw
          go_split_ands
          go_simp
          try with_reducible rfl
        try simp only [Act.put, List.setIfInBounds_toArray, List.set_cons_zero, List.set_cons_succ]
        refine wpAnyH_take (i := 62) (oi := { dst := some 189, op := Op.move (Operand.tmp 19), type := 3, pos := "outright.go:225", after := #[{ on := 60, ground := Ground.guard }], guard := some (60, false) }) (v := ?_) rfl (by kernel_rfl) (by kernel_rfl) (by kernel_rfl) (fun _ _ _ h => h) (Or.inl ⟨by rfl, ?_⟩) (by assumption) ?_
        rotate_left
        · intro w hSw
          go_split_ands
          go_simp
          try with_reducible rfl
        try simp only [Act.put, List.setIfInBounds_toArray, List.set_cons_zero, List.set_cons_succ]
        refine wpAnyH_take (i := 63) (oi := { dst := some 190, op := Op.indexAddr 29 (Operand.tmp 188) (Operand.tmp 189), type := 0, pos := "outright.go:225", after := #[{ on := 61, ground := Ground.data }, { on := 62, ground := Ground.data }, { on := 60, ground := Ground.guard }], guard := some (60, false) }) (v := ?_) rfl (by kernel_rfl) (by kernel_rfl) (by kernel_rfl) (fun _ _ _ h => h) (Or.inl ⟨by rfl, ?_⟩) (by assumption) ?_
        rotate_left
        · intro w hSw
          go_split_ands
          go_simp
          try with_reducible rfl
        try simp only [Act.put, List.setIfInBounds_toArray, List.set_cons_zero, List.set_cons_succ]
        refine wpAnyH_take (i := 64) (oi := { dst := some 191, op := Op.load 73 (Operand.tmp 190), type := 73, pos := "outright.go:225", after := #[{ on := 63, ground := Ground.data }, { on := 60, ground := Ground.guard }], guard := some (60, false) }) (v := ?_) rfl (by kernel_rfl) (by kernel_rfl) (by kernel_rfl) (fun _ _ _ h => h) (Or.inl ⟨by rfl, ?_⟩) (by assumption) ?_
        rotate_left
        · intro w hSw
          go_split_ands
          go_simp
          try with_reducible rfl
        try simp only [Act.put, List.setIfInBounds_toArray, List.set_cons_zero, List.set_cons_succ]
        refine wpAnyH_take (i := 65) (oi := { dst := some 192, op := Op.move (Operand.tmp 7), type := 29, pos := "outright.go:225", after := #[{ on := 60, ground := Ground.guard }], guard := some (60, false) }) (v := ?_) rfl (by kernel_rfl) (by kernel_rfl) (by kernel_rfl) (fun _ _ _ h => h) (Or.inl ⟨by rfl, ?_⟩) (by assumption) ?_
        rotate_left
        · intro w hSw
          go_split_ands
          go_simp
          try with_reducible rfl
        try simp only [Act.put, List.setIfInBounds_toArray, List.set_cons_zero, List.set_cons_succ]
        refine wpAnyH_take (i := 66) (oi := { dst := some 193, op := Op.move (Operand.tmp 9), type := 29, pos := "outright.go:225", after := #[{ on := 60, ground := Ground.guard }], guard := some (60, false) }) (v := ?_) rfl (by kernel_rfl) (by kernel_rfl) (by kernel_rfl) (fun _ _ _ h => h) (Or.inl ⟨by rfl, ?_⟩) (by assumption) ?_
        rotate_left
        · intro w hSw
          go_split_ands
          go_simp
          try with_reducible rfl
        try simp only [Act.put, List.setIfInBounds_toArray, List.set_cons_zero, List.set_cons_succ]
        refine wpAnyH_take (i := 67) (oi := { dst := some 194, op := Op.move (Operand.tmp 19), type := 3, pos := "outright.go:225", after := #[{ on := 60, ground := Ground.guard }], guard := some (60, false) }) (v := ?_) rfl (by kernel_rfl) (by kernel_rfl) (by kernel_rfl) (fun _ _ _ h => h) (Or.inl ⟨by rfl, ?_⟩) (by assumption) ?_
        rotate_left
        · intro w hSw
          go_split_ands
          go_simp
          try with_reducible rfl
        try simp only [Act.put, List.setIfInBounds_toArray, List.set_cons_zero, List.set_cons_succ]
        refine wpAnyH_take (i := 68) (oi := { dst := some 195, op := Op.indexAddr 29 (Operand.tmp 193) (Operand.tmp 194), type := 0, pos := "outright.go:225", after := #[{ on := 66, ground := Ground.data }, { on := 67, ground := Ground.data }, { on := 60, ground := Ground.guard }], guard := some (60, false) }) (v := ?_) rfl (by kernel_rfl) (by kernel_rfl) (by kernel_rfl) (fun _ _ _ h => h) (Or.inl ⟨by rfl, ?_⟩) (by assumption) ?_
        rotate_left
        · intro w hSw
          go_split_ands
          go_simp
          try with_reducible rfl
        try simp only [Act.put, List.setIfInBounds_toArray, List.set_cons_zero, List.set_cons_succ]
        refine wpAnyH_take (i := 69) (oi := { dst := some 196, op := Op.fieldAddr 73 (Operand.tmp 195) 0, type := 0, pos := "outright.go:225", after := #[{ on := 68, ground := Ground.data }, { on := 60, ground := Ground.guard }], guard := some (60, false) }) (v := ?_) rfl (by kernel_rfl) (by kernel_rfl) (by kernel_rfl) (fun _ _ _ h => h) (Or.inl ⟨by rfl, ?_⟩) (by assumption) ?_
        rotate_left
        · intro w hSw
          go_split_ands
          go_simp
          try with_reducible rfl
        try simp only [Act.put, List.setIfInBounds_toArray, List.set_cons_zero, List.set_cons_succ]
        refine wpAnyH_take (i := 70) (oi := { dst := some 197, op := Op.load 3 (Operand.tmp 196), type := 3, pos := "outright.go:225", after := #[{ on := 69, ground := Ground.data }, { on := 60, ground := Ground.guard }], guard := some (60, false) }) (v := ?_) rfl (by kernel_rfl) (by kernel_rfl) (by kernel_rfl) (fun _ _ _ h => h) (Or.inl ⟨by rfl, ?_⟩) (by assumption) ?_
        rotate_left
        · intro w hSw
          go_split_ands
          go_simp
          try with_reducible rfl
        try simp only [Act.put, List.setIfInBounds_toArray, List.set_cons_zero, List.set_cons_succ]
        refine wpAnyH_take (i := 72) (oi := { dst := some 199, op := Op.move (Operand.tmp 8), type := 29, pos := "outright.go:225", after := #[{ on := 60, ground := Ground.guard }], guard := some (60, false) }) (v := ?_) rfl (by kernel_rfl) (by kernel_rfl) (by kernel_rfl) (fun _ _ _ h => h) (Or.inl ⟨by rfl, ?_⟩) (by assumption) ?_
        rotate_left
        · intro w hSw
          go_split_ands
          go_simp
          try with_reducible rfl
        try simp only [Act.put, List.setIfInBounds_toArray, List.set_cons_zero, List.set_cons_succ]
        refine wpAnyH_take (i := 73) (oi := { dst := some 200, op := Op.move (Operand.tmp 9), type := 29, pos := "outright.go:225", after := #[{ on := 60, ground := Ground.guard }], guard := some (60, false) }) (v := ?_) rfl (by kernel_rfl) (by kernel_rfl) (by kernel_rfl) (fun _ _ _ h => h) (Or.inl ⟨by rfl, ?_⟩) (by assumption) ?_
        rotate_left
        · intro w hSw
          go_split_ands
          go_simp
          try with_reducible rfl
        try simp only [Act.put, List.setIfInBounds_toArray, List.set_cons_zero, List.set_cons_succ]
        refine wpAnyH_take (i := 74) (oi := { dst := some 201, op := Op.move (Operand.tmp 19), type := 3, pos := "outright.go:225", after := #[{ on := 60, ground := Ground.guard }], guard := some (60, false) }) (v := ?_) rfl (by kernel_rfl) (by kernel_rfl) (by kernel_rfl) (fun _ _ _ h => h) (Or.inl ⟨by rfl, ?_⟩) (by assumption) ?_
        rotate_left
        · intro w hSw
          go_split_ands
          go_simp
          try with_reducible rfl
        try simp only [Act.put, List.setIfInBounds_toArray, List.set_cons_zero, List.set_cons_succ]
        refine wpAnyH_take (i := 75) (oi := { dst := some 202, op := Op.indexAddr 29 (Operand.tmp 200) (Operand.tmp 201), type := 0, pos := "outright.go:225", after := #[{ on := 73, ground := Ground.data }, { on := 74, ground := Ground.data }, { on := 60, ground := Ground.guard }], guard := some (60, false) }) (v := ?_) rfl (by kernel_rfl) (by kernel_rfl) (by kernel_rfl) (fun _ _ _ h => h) (Or.inl ⟨by rfl, ?_⟩) (by assumption) ?_
        rotate_left
        · intro w hSw
          go_split_ands
          go_simp
          try with_reducible rfl
        try simp only [Act.put, List.setIfInBounds_toArray, List.set_cons_zero, List.set_cons_succ]
        refine wpAnyH_take (i := 76) (oi := { dst := some 203, op := Op.fieldAddr 73 (Operand.tmp 202) 0, type := 0, pos := "outright.go:225", after := #[{ on := 75, ground := Ground.data }, { on := 60, ground := Ground.guard }], guard := some (60, false) }) (v := ?_) rfl (by kernel_rfl) (by kernel_rfl) (by kernel_rfl) (fun _ _ _ h => h) (Or.inl ⟨by rfl, ?_⟩) (by assumption) ?_
        rotate_left
        · intro w hSw
          go_split_ands
          go_simp
          try with_reducible rfl
        try simp only [Act.put, List.setIfInBounds_toArray, List.set_cons_zero, List.set_cons_succ]
        refine wpAnyH_take (i := 77) (oi := { dst := some 204, op := Op.load 3 (Operand.tmp 203), type := 3, pos := "outright.go:225", after := #[{ on := 76, ground := Ground.data }, { on := 60, ground := Ground.guard }], guard := some (60, false) }) (v := ?_) rfl (by kernel_rfl) (by kernel_rfl) (by kernel_rfl) (fun _ _ _ h => h) (Or.inl ⟨by rfl, ?_⟩) (by assumption) ?_
        rotate_left
        · intro w hSw
          go_split_ands
          go_simp
          try with_reducible rfl
        try simp only [Act.put, List.setIfInBounds_toArray, List.set_cons_zero, List.set_cons_succ]
        refine wpAnyH_ready (rs := [71]) (by kernel_rfl) (by simp) ?_
        refine AllReadyH.cons (o := { dst := some 198, op := Op.call { callee := Callee.value (Operand.func 44), args := #[Operand.tmp 192, Operand.tmp 197], argTypes := #[29, 3] }, type := 73, pos := "outright.go:225", after := #[{ on := 65, ground := Ground.data }, { on := 70, ground := Ground.data }, { on := 60, ground := Ground.chain }, { on := 60, ground := Ground.guard }], guard := some (60, false) }) rfl (fun K hK => ?_) AllReadyH.nil
        have HK := Lib.hid hK; clear hK
        go_simp
        refine (HOa.out _ (by go_split_ands; assumption)).mono ?_
        rintro e w22 ⟨rfl, hb22⟩
        have HC22 := Lib.hid hb22
        clear hb22
        go_wp2_with fail
        refine HK.out _ _ (HS.out _ HC22.out) (fun hHeld => ?_)
        clear HK K
        try simp only [Act.put, List.setIfInBounds_toArray, List.set_cons_zero, List.set_cons_succ]
        refine wpAnyH_ready (rs := [78]) (by kernel_rfl) (by simp) ?_
        refine AllReadyH.cons (o := { dst := some 205, op := Op.call { callee := Callee.value (Operand.func 44), args := #[Operand.tmp 199, Operand.tmp 204], argTypes := #[29, 3] }, type := 73, pos := "outright.go:225", after := #[{ on := 72, ground := Ground.data }, { on := 77, ground := Ground.data }, { on := 71, ground := Ground.chain }, { on := 60, ground := Ground.guard }], guard := some (60, false) }) rfl (fun K hK => ?_) AllReadyH.nil
        have HK := Lib.hid hK; clear hK
        go_simp
        refine (HOb.out _ (by go_split_ands; assumption)).mono ?_
        rintro e w23 ⟨rfl, hb23⟩
        have HC23 := Lib.hid hb23
        clear hb23
        go_wp2_with fail
        refine HK.out _ _ (HS.out _ HC23.out) (fun hHeld => ?_)
        clear HK K
        try simp only [Act.put, List.setIfInBounds_toArray, List.set_cons_zero, List.set_cons_succ]
        refine wpAnyH_ready (rs := [79]) (by kernel_rfl) (by simp) ?_
        refine AllReadyH.cons (o := { dst := some 206, op := Op.call { callee := Callee.value (Operand.func 43), args := #[Operand.tmp 198, Operand.tmp 205], argTypes := #[73, 73] }, type := 73, pos := "outright.go:225", after := #[{ on := 71, ground := Ground.data }, { on := 78, ground := Ground.data }, { on := 78, ground := Ground.chain }, { on := 60, ground := Ground.guard }], guard := some (60, false) }) rfl (fun K hK => ?_) AllReadyH.nil
        have HK := Lib.hid hK; clear hK
        go_simp
        refine (HDf.out _ (by go_split_ands; assumption)).mono ?_
        rintro e w24 ⟨rfl, hb24⟩
        have HC24 := Lib.hid hb24
        clear hb24
        go_wp2_with fail
        refine HK.out _ _ (HS.out _ HC24.out) (fun hHeld => ?_)
        clear HK K
        try simp only [Act.put, List.setIfInBounds_toArray, List.set_cons_zero, List.set_cons_succ]
        refine wpAnyH_take (i := 80) (oi := { dst := some 207, op := Op.binOp BinOp.neq 73 (Operand.tmp 191) (Operand.tmp 206) 73, type := 4, pos := "outright.go:225", after := #[{ on := 64, ground := Ground.data }, { on := 79, ground := Ground.data }, { on := 60, ground := Ground.guard }], guard := some (60, false) }) (v := ?_) rfl (by kernel_rfl) (by kernel_rfl) (by kernel_rfl) (fun _ _ _ h => h) (Or.inl ⟨by rfl, ?_⟩) (by assumption) ?_
        rotate_left
        · intro w hSw
          go_split_ands
          go_simp
          try with_reducible rfl
        try simp only [Act.put, List.setIfInBounds_toArray, List.set_cons_zero, List.set_cons_succ]
        refine wpAnyH_take (i := 81) (oi := { dst := some 208, op := Op.pick (Operand.tmp 187) (Operand.const (Value.bool true)) (Operand.tmp 207), type := 4, pos := "outright.go:225", after := #[{ on := 60, ground := Ground.data }, { on := 80, ground := Ground.data }], guard := none }) (v := ?_) rfl (by kernel_rfl) (by kernel_rfl) (by kernel_rfl) (fun _ _ _ h => h) (Or.inl ⟨by rfl, ?_⟩) (by assumption) ?_
        rotate_left
        · intro w hSw
          go_split_ands
          go_simp
          try with_reducible rfl
        try simp only [Act.put, List.setIfInBounds_toArray, List.set_cons_zero, List.set_cons_succ]
        refine wpAnyH_done (by kernel_rfl) ?_ _
        clear hn1 hn2 a1 a2 a3
        go_wp2_with fail
        go_roundw
        case rel => exact ⟨n + 1, hlt, by go_num, HBr.out.trans (HC24.out.mono HBr.out.size)⟩
        case measure => simp [intOf]; omega
  case neg =>
    have HB11 := Lib.hid (HB10.out.trans (HBr.out.mono HB10.out.size))
    replace HL := Lib.hid (NodesL.below HL.out hbr)
    replace HM := Lib.hid (NodesL.below HM.out hbr)
    replace HT := Lib.hid (NodesL.below HT.out hbr)
    have hnl : ¬ (n : Int) < (x.length : Int) := by omega
    clear hbr hn HX HY HXm HBr HB1 HB2 HB3 HB4 HB5 HB6 HB8 HB10 HDy HXY
    go_wp2_with fail
    clear hnl
    generalize wr = w11 at *
    go_loopw [20] (fun i W => ∃ n : Nat, n ≤ l.length ∧ i = .int .i64 n ∧ Below w11.heap.size w11 W) (fun i _ => l.length - (intOf i).toNat)
    case atStart => exact ⟨0, Nat.zero_le _, rfl, Below.refl _ _⟩
    case round =>
    obtain ⟨n, hn, rfl, hbr⟩ := hrel
    have HBr := Lib.hid hbr
    by_cases hlt : n < l.length
    case pos =>
      have hlT : n < T.length := by rw [HTl.out]; exact hlt
      obtain ⟨bt, ot, rfl, c0, c1, c2, c3⟩ := (HT.out.below hbr).at_ n hlT
      have hTi := refTop_is l (rightB_asc HLr.out)
      rw [HTe.out] at hTi
      have hof : ofN l T[n].node = T[n] := ofN_mem (rightB_asc HLr.out) (hTi.1.mem_iff.1 (List.getElem_mem hlT))
      have hprev : 0 < n → ∃ zn zw : Int, w11.cell? ⟨bt, ot + (n - 1) * 4, none⟩ = some (.int .i64 zn) ∧ w11.cell? ⟨bt, ot + (n - 1) * 4 + 2, none⟩ = some (.int .i64 zw) ∧ (T[n].work < zw ∨ (zw = T[n].work ∧ zn < T[n].node)) := fun h0 => by
        obtain ⟨b', o', e', z0, -, z2, -⟩ := HT.out.at_ (n - 1) (by omega)
        cases e'
        have hh := hTi.2
        rw [List.pairwise_iff_getElem] at hh
        exact ⟨_, _, z0, z2, hh (n - 1) n (by omega) hlT (by omega)⟩
      have HOa := Lib.hid (fun W (h : Below wr.heap.size wr W) => (law_of l T[n].node _ W ((HL.out.below hbr).below h)).mono fun e w' (h' : _ ∧ Below W.heap.size W w') => And.intro h'.1 (below_step h h'.2))
      rw [hof] at HOa
      generalize T[n] = q at *
      simp only [nodeCells] at HOa
      have hn1 : ∀ W, (binOp .neq 73 (.agg #[.int .i64 q.node, .int .i64 q.count, .int .i64 q.work, .int .i64 q.cycles]) (.agg #[.int .i64 q.node, .int .i64 q.count, .int .i64 q.work, .int .i64 q.cycles])).run Tryz.prog W = .ok (.bool false) W := fun W => by
        have := neq_node q q W
        rw [decide_eq_true rfl] at this
        exact this
      have hn0 : (0 : Int) ≤ (n : Int) := by omega
      have hn3 : (n : Int) < (l.length : Int) := by omega
      have HCx := Lib.hid (fun W (h : Below wr.heap.size wr W) => And.intro h (And.intro (cell_keep h c0) (And.intro (cell_keep h c1) (And.intro (cell_keep h c2) (cell_keep h c3)))))
      clear c0 c1 c2 c3 hof hTi hlT hn
      by_cases h0 : 0 < n
      case neg =>
        have hp5 : ¬ (0 : Int) < (n : Int) := by omega
        have hpd : decide ((0 : Int) < (n : Int)) = false := decide_eq_false hp5
        have HS := HCx
        clear hprev hbr
        as_aux_lemma =>
          go_upto_region 17 with (fail)
          try simp only [List.append_eq, List.cons_append, List.nil_append]
          refine wp_region_held_drew (S := (fun W => Below wr.heap.size wr W ∧ W.cell? ⟨bt, ot + n * 4, none⟩ = some (.int .i64 q.node) ∧ W.cell? ⟨bt, ot + n * 4 + 1, none⟩ = some (.int .i64 q.count) ∧ W.cell? ⟨bt, ot + n * 4 + 2, none⟩ = some (.int .i64 q.work) ∧ W.cell? ⟨bt, ot + n * 4 + 3, none⟩ = some (.int .i64 q.cycles))) (by kernel_rfl) ?_ (fun hHeld => ?_)
          · exact HS.out _ (below_drew _)
          refine wpAnyH_take (i := 0) (oi := { dst := some 215, op := Op.move (Operand.tmp 7), type := 29, pos := "outright.go:230", after := #[], guard := none }) (v := ?_) rfl (by kernel_rfl) (by kernel_rfl) (by kernel_rfl) (fun _ _ _ h => h) (Or.inl ⟨by rfl, ?_⟩) (by assumption) ?_
          rotate_left
          · intro w hSw
            go_split_ands
            go_simp
            try with_reducible rfl
          try simp only [Act.put, List.setIfInBounds_toArray, List.set_cons_zero, List.set_cons_succ]
          refine wpAnyH_take (i := 1) (oi := { dst := some 216, op := Op.move (Operand.tmp 15), type := 29, pos := "outright.go:230", after := #[], guard := none }) (v := ?_) rfl (by kernel_rfl) (by kernel_rfl) (by kernel_rfl) (fun _ _ _ h => h) (Or.inl ⟨by rfl, ?_⟩) (by assumption) ?_
          rotate_left
          · intro w hSw
            go_split_ands
            go_simp
            try with_reducible rfl
          try simp only [Act.put, List.setIfInBounds_toArray, List.set_cons_zero, List.set_cons_succ]
          refine wpAnyH_take (i := 2) (oi := { dst := some 217, op := Op.move (Operand.tmp 20), type := 3, pos := "outright.go:230", after := #[], guard := none }) (v := ?_) rfl (by kernel_rfl) (by kernel_rfl) (by kernel_rfl) (fun _ _ _ h => h) (Or.inl ⟨by rfl, ?_⟩) (by assumption) ?_
          rotate_left
          · intro w hSw
            go_split_ands
            go_simp
            try with_reducible rfl
          try simp only [Act.put, List.setIfInBounds_toArray, List.set_cons_zero, List.set_cons_succ]
          refine wpAnyH_take (i := 3) (oi := { dst := some 218, op := Op.indexAddr 29 (Operand.tmp 216) (Operand.tmp 217), type := 0, pos := "outright.go:230", after := #[{ on := 1, ground := Ground.data }, { on := 2, ground := Ground.data }], guard := none }) (v := ?_) rfl (by kernel_rfl) (by kernel_rfl) (by kernel_rfl) (fun _ _ _ h => h) (Or.inl ⟨by rfl, ?_⟩) (by assumption) ?_
          rotate_left
          · intro w hSw
            go_split_ands
            go_simp
            try with_reducible rfl
          try simp only [Act.put, List.setIfInBounds_toArray, List.set_cons_zero, List.set_cons_succ]
          refine wpAnyH_take (i := 4) (oi := { dst := some 219, op := Op.fieldAddr 73 (Operand.tmp 218) 0, type := 0, pos := "outright.go:230", after := #[{ on := 3, ground := Ground.data }], guard := none }) (v := ?_) rfl (by kernel_rfl) (by kernel_rfl) (by kernel_rfl) (fun _ _ _ h => h) (Or.inl ⟨by rfl, ?_⟩) (by assumption) ?_
          rotate_left
          · intro w hSw
            go_split_ands
            go_simp
            try with_reducible rfl
          try simp only [Act.put, List.setIfInBounds_toArray, List.set_cons_zero, List.set_cons_succ]
          refine wpAnyH_take (i := 5) (oi := { dst := some 220, op := Op.load 3 (Operand.tmp 219), type := 3, pos := "outright.go:230", after := #[{ on := 4, ground := Ground.data }], guard := none }) (v := ?_) rfl (by kernel_rfl) (by kernel_rfl) (by kernel_rfl) (fun _ _ _ h => h) (Or.inl ⟨by rfl, ?_⟩) (by assumption) ?_
          rotate_left
          · intro w hSw
            go_split_ands
            go_simp
            try with_reducible rfl
          try simp only [Act.put, List.setIfInBounds_toArray, List.set_cons_zero, List.set_cons_succ]
          refine wpAnyH_take (i := 7) (oi := { dst := some 222, op := Op.move (Operand.tmp 15), type := 29, pos := "outright.go:230", after := #[], guard := none }) (v := ?_) rfl (by kernel_rfl) (by kernel_rfl) (by kernel_rfl) (fun _ _ _ h => h) (Or.inl ⟨by rfl, ?_⟩) (by assumption) ?_
          rotate_left
          · intro w hSw
            go_split_ands
            go_simp
            try with_reducible rfl
          try simp only [Act.put, List.setIfInBounds_toArray, List.set_cons_zero, List.set_cons_succ]
          refine wpAnyH_take (i := 8) (oi := { dst := some 223, op := Op.move (Operand.tmp 20), type := 3, pos := "outright.go:230", after := #[], guard := none }) (v := ?_) rfl (by kernel_rfl) (by kernel_rfl) (by kernel_rfl) (fun _ _ _ h => h) (Or.inl ⟨by rfl, ?_⟩) (by assumption) ?_
          rotate_left
          · intro w hSw
            go_split_ands
            go_simp
            try with_reducible rfl
          try simp only [Act.put, List.setIfInBounds_toArray, List.set_cons_zero, List.set_cons_succ]
          refine wpAnyH_take (i := 9) (oi := { dst := some 224, op := Op.indexAddr 29 (Operand.tmp 222) (Operand.tmp 223), type := 0, pos := "outright.go:230", after := #[{ on := 7, ground := Ground.data }, { on := 8, ground := Ground.data }], guard := none }) (v := ?_) rfl (by kernel_rfl) (by kernel_rfl) (by kernel_rfl) (fun _ _ _ h => h) (Or.inl ⟨by rfl, ?_⟩) (by assumption) ?_
          rotate_left
          · intro w hSw
            go_split_ands
            go_simp
            try with_reducible rfl
          try simp only [Act.put, List.setIfInBounds_toArray, List.set_cons_zero, List.set_cons_succ]
          refine wpAnyH_take (i := 10) (oi := { dst := some 225, op := Op.load 73 (Operand.tmp 224), type := 73, pos := "outright.go:230", after := #[{ on := 9, ground := Ground.data }], guard := none }) (v := ?_) rfl (by kernel_rfl) (by kernel_rfl) (by kernel_rfl) (fun _ _ _ h => h) (Or.inl ⟨by rfl, ?_⟩) (by assumption) ?_
          rotate_left
          · intro w hSw
            go_split_ands
            go_simp
            try with_reducible rfl
          try simp only [Act.put, List.setIfInBounds_toArray, List.set_cons_zero, List.set_cons_succ]
          refine wpAnyH_ready (rs := [6]) (by kernel_rfl) (by simp) ?_
          refine AllReadyH.cons (o := { dst := some 221, op := Op.call { callee := Callee.value (Operand.func 44), args := #[Operand.tmp 215, Operand.tmp 220], argTypes := #[29, 3] }, type := 73, pos := "outright.go:230", after := #[{ on := 0, ground := Ground.data }, { on := 5, ground := Ground.data }], guard := none }) rfl (fun K hK => ?_) AllReadyH.nil
          have HK := Lib.hid hK; clear hK
          go_simp
          refine (HOa.out _ (by go_split_ands; assumption)).mono ?_
          rintro e w30 ⟨rfl, hb30⟩
          have HC30 := Lib.hid hb30
          clear hb30
          go_wp2_with fail
          refine HK.out _ _ (HS.out _ HC30.out) (fun hHeld => ?_)
          clear HK K
          try simp only [Act.put, List.setIfInBounds_toArray, List.set_cons_zero, List.set_cons_succ]
          refine wpAnyH_take (i := 11) (oi := { dst := some 226, op := Op.binOp BinOp.neq 73 (Operand.tmp 221) (Operand.tmp 225) 73, type := 4, pos := "outright.go:230", after := #[{ on := 6, ground := Ground.data }, { on := 10, ground := Ground.data }], guard := none }) (v := ?_) rfl (by kernel_rfl) (by kernel_rfl) (by kernel_rfl) (fun _ _ _ h => h) (Or.inl ⟨by rfl, ?_⟩) (by assumption) ?_
          rotate_left
          · intro w hSw
            go_split_ands
            go_simp
            try with_reducible rfl
          try simp only [Act.put, List.setIfInBounds_toArray, List.set_cons_zero, List.set_cons_succ]
          refine wpAnyH_take (i := 12) (oi := { dst := some 227, op := Op.move (Operand.tmp 226), type := 4, pos := "outright.go:230", after := #[{ on := 11, ground := Ground.data }, { on := 6, ground := Ground.chain }], guard := none }) (v := ?_) rfl (by kernel_rfl) (by kernel_rfl) (by kernel_rfl) (fun _ _ _ h => h) (Or.inl ⟨by rfl, ?_⟩) (by assumption) ?_
          rotate_left
          · intro w hSw
            go_split_ands
            go_simp
            try with_reducible rfl
          try simp only [Act.put, List.setIfInBounds_toArray, List.set_cons_zero, List.set_cons_succ]
          refine wpAnyH_take (i := 13) (oi := { dst := some 228, op := Op.move (Operand.tmp 20), type := 3, pos := "outright.go:230", after := #[{ on := 12, ground := Ground.guard }], guard := some (12, false) }) (v := ?_) rfl (by kernel_rfl) (by kernel_rfl) (by kernel_rfl) (fun _ _ _ h => h) (Or.inl ⟨by rfl, ?_⟩) (by assumption) ?_
          rotate_left
          · intro w hSw
            go_split_ands
            go_simp
            try with_reducible rfl
          try simp only [Act.put, List.setIfInBounds_toArray, List.set_cons_zero, List.set_cons_succ]
          refine wpAnyH_take (i := 14) (oi := { dst := some 229, op := Op.binOp BinOp.gtr 3 (Operand.tmp 228) (Operand.const (Value.int IntKind.i64 0)) 3, type := 4, pos := "outright.go:230", after := #[{ on := 13, ground := Ground.data }, { on := 12, ground := Ground.guard }], guard := some (12, false) }) (v := ?_) rfl (by kernel_rfl) (by kernel_rfl) (by kernel_rfl) (fun _ _ _ h => h) (Or.inl ⟨by rfl, ?_⟩) (by assumption) ?_
          rotate_left
          · intro w hSw
            go_split_ands
            go_simp
            try with_reducible rfl
          try simp only [Act.put, List.setIfInBounds_toArray, List.set_cons_zero, List.set_cons_succ]
          refine wpAnyH_take (i := 15) (oi := { dst := some 230, op := Op.move (Operand.tmp 229), type := 4, pos := "outright.go:230", after := #[{ on := 14, ground := Ground.data }, { on := 12, ground := Ground.chain }, { on := 12, ground := Ground.guard }], guard := some (12, false) }) (v := ?_) rfl (by kernel_rfl) (by kernel_rfl) (by kernel_rfl) (fun _ _ _ h => h) (Or.inl ⟨by rfl, ?_⟩) (by assumption) ?_
          rotate_left
          · intro w hSw
            go_split_ands
            go_simp
            try with_reducible rfl
          try simp only [Act.put, List.setIfInBounds_toArray, List.set_cons_zero, List.set_cons_succ]
          refine wpAnyH_take (i := 16) (oi := { dst := some 231, op := Op.move (Operand.tmp 15), type := 29, pos := "outright.go:230", after := #[{ on := 15, ground := Ground.guard }], guard := some (15, true) }) (v := undef) rfl (by kernel_rfl) (by kernel_rfl) (by kernel_rfl) (fun _ _ _ h => h) (Or.inr ⟨by rfl, rfl⟩) (by assumption) ?_
          try simp only [Act.put, List.setIfInBounds_toArray, List.set_cons_zero, List.set_cons_succ]
          refine wpAnyH_take (i := 17) (oi := { dst := some 232, op := Op.move (Operand.tmp 20), type := 3, pos := "outright.go:230", after := #[{ on := 15, ground := Ground.guard }], guard := some (15, true) }) (v := undef) rfl (by kernel_rfl) (by kernel_rfl) (by kernel_rfl) (fun _ _ _ h => h) (Or.inr ⟨by rfl, rfl⟩) (by assumption) ?_
          try simp only [Act.put, List.setIfInBounds_toArray, List.set_cons_zero, List.set_cons_succ]
          refine wpAnyH_take (i := 18) (oi := { dst := some 233, op := Op.indexAddr 29 (Operand.tmp 231) (Operand.tmp 232), type := 0, pos := "outright.go:230", after := #[{ on := 16, ground := Ground.data }, { on := 17, ground := Ground.data }, { on := 15, ground := Ground.guard }], guard := some (15, true) }) (v := undef) rfl (by kernel_rfl) (by kernel_rfl) (by kernel_rfl) (fun _ _ _ h => h) (Or.inr ⟨by rfl, rfl⟩) (by assumption) ?_
          try simp only [Act.put, List.setIfInBounds_toArray, List.set_cons_zero, List.set_cons_succ]
          refine wpAnyH_take (i := 19) (oi := { dst := some 234, op := Op.fieldAddr 73 (Operand.tmp 233) 2, type := 0, pos := "outright.go:230", after := #[{ on := 18, ground := Ground.data }, { on := 15, ground := Ground.guard }], guard := some (15, true) }) (v := undef) rfl (by kernel_rfl) (by kernel_rfl) (by kernel_rfl) (fun _ _ _ h => h) (Or.inr ⟨by rfl, rfl⟩) (by assumption) ?_
          try simp only [Act.put, List.setIfInBounds_toArray, List.set_cons_zero, List.set_cons_succ]
          refine wpAnyH_take (i := 20) (oi := { dst := some 235, op := Op.load 3 (Operand.tmp 234), type := 3, pos := "outright.go:230", after := #[{ on := 19, ground := Ground.data }, { on := 15, ground := Ground.guard }], guard := some (15, true) }) (v := undef) rfl (by kernel_rfl) (by kernel_rfl) (by kernel_rfl) (fun _ _ _ h => h) (Or.inr ⟨by rfl, rfl⟩) (by assumption) ?_
          try simp only [Act.put, List.setIfInBounds_toArray, List.set_cons_zero, List.set_cons_succ]
          refine wpAnyH_take (i := 21) (oi := { dst := some 236, op := Op.move (Operand.tmp 15), type := 29, pos := "outright.go:230", after := #[{ on := 15, ground := Ground.guard }], guard := some (15, true) }) (v := undef) rfl (by kernel_rfl) (by kernel_rfl) (by kernel_rfl) (fun _ _ _ h => h) (Or.inr ⟨by rfl, rfl⟩) (by assumption) ?_
          try simp only [Act.put, List.setIfInBounds_toArray, List.set_cons_zero, List.set_cons_succ]
          refine wpAnyH_take (i := 22) (oi := { dst := some 237, op := Op.move (Operand.tmp 20), type := 3, pos := "outright.go:230", after := #[{ on := 15, ground := Ground.guard }], guard := some (15, true) }) (v := undef) rfl (by kernel_rfl) (by kernel_rfl) (by kernel_rfl) (fun _ _ _ h => h) (Or.inr ⟨by rfl, rfl⟩) (by assumption) ?_
          try simp only [Act.put, List.setIfInBounds_toArray, List.set_cons_zero, List.set_cons_succ]
          refine wpAnyH_take (i := 23) (oi := { dst := some 238, op := Op.binOp BinOp.sub 3 (Operand.tmp 237) (Operand.const (Value.int IntKind.i64 1)) 3, type := 3, pos := "outright.go:230", after := #[{ on := 22, ground := Ground.data }, { on := 15, ground := Ground.guard }], guard := some (15, true) }) (v := undef) rfl (by kernel_rfl) (by kernel_rfl) (by kernel_rfl) (fun _ _ _ h => h) (Or.inr ⟨by rfl, rfl⟩) (by assumption) ?_
          try simp only [Act.put, List.setIfInBounds_toArray, List.set_cons_zero, List.set_cons_succ]
          refine wpAnyH_take (i := 24) (oi := { dst := some 239, op := Op.indexAddr 29 (Operand.tmp 236) (Operand.tmp 238), type := 0, pos := "outright.go:230", after := #[{ on := 21, ground := Ground.data }, { on := 23, ground := Ground.data }, { on := 15, ground := Ground.guard }], guard := some (15, true) }) (v := undef) rfl (by kernel_rfl) (by kernel_rfl) (by kernel_rfl) (fun _ _ _ h => h) (Or.inr ⟨by rfl, rfl⟩) (by assumption) ?_
          try simp only [Act.put, List.setIfInBounds_toArray, List.set_cons_zero, List.set_cons_succ]
          refine wpAnyH_take (i := 25) (oi := { dst := some 240, op := Op.fieldAddr 73 (Operand.tmp 239) 2, type := 0, pos := "outright.go:230", after := #[{ on := 24, ground := Ground.data }, { on := 15, ground := Ground.guard }], guard := some (15, true) }) (v := undef) rfl (by kernel_rfl) (by kernel_rfl) (by kernel_rfl) (fun _ _ _ h => h) (Or.inr ⟨by rfl, rfl⟩) (by assumption) ?_
          try simp only [Act.put, List.setIfInBounds_toArray, List.set_cons_zero, List.set_cons_succ]
          refine wpAnyH_take (i := 26) (oi := { dst := some 241, op := Op.load 3 (Operand.tmp 240), type := 3, pos := "outright.go:230", after := #[{ on := 25, ground := Ground.data }, { on := 15, ground := Ground.guard }], guard := some (15, true) }) (v := undef) rfl (by kernel_rfl) (by kernel_rfl) (by kernel_rfl) (fun _ _ _ h => h) (Or.inr ⟨by rfl, rfl⟩) (by assumption) ?_
          try simp only [Act.put, List.setIfInBounds_toArray, List.set_cons_zero, List.set_cons_succ]
          refine wpAnyH_take (i := 27) (oi := { dst := some 242, op := Op.binOp BinOp.gtr 3 (Operand.tmp 235) (Operand.tmp 241) 3, type := 4, pos := "outright.go:230", after := #[{ on := 20, ground := Ground.data }, { on := 26, ground := Ground.data }, { on := 15, ground := Ground.guard }], guard := some (15, true) }) (v := undef) rfl (by kernel_rfl) (by kernel_rfl) (by kernel_rfl) (fun _ _ _ h => h) (Or.inr ⟨by rfl, rfl⟩) (by assumption) ?_
          try simp only [Act.put, List.setIfInBounds_toArray, List.set_cons_zero, List.set_cons_succ]
          refine wpAnyH_take (i := 28) (oi := { dst := some 243, op := Op.move (Operand.tmp 242), type := 4, pos := "outright.go:230", after := #[{ on := 27, ground := Ground.data }, { on := 15, ground := Ground.chain }, { on := 15, ground := Ground.guard }], guard := some (15, true) }) (v := undef) rfl (by kernel_rfl) (by kernel_rfl) (by kernel_rfl) (fun _ _ _ h => h) (Or.inr ⟨by rfl, rfl⟩) (by assumption) ?_
          try simp only [Act.put, List.setIfInBounds_toArray, List.set_cons_zero, List.set_cons_succ]
          refine wpAnyH_take (i := 29) (oi := { dst := some 244, op := Op.move (Operand.tmp 15), type := 29, pos := "outright.go:230", after := #[{ on := 28, ground := Ground.guard }], guard := some (28, false) }) (v := undef) rfl (by kernel_rfl) (by kernel_rfl) (by kernel_rfl) (fun _ _ _ h => h) (Or.inr ⟨by rfl, rfl⟩) (by assumption) ?_
          try simp only [Act.put, List.setIfInBounds_toArray, List.set_cons_zero, List.set_cons_succ]
          refine wpAnyH_take (i := 30) (oi := { dst := some 245, op := Op.move (Operand.tmp 20), type := 3, pos := "outright.go:230", after := #[{ on := 28, ground := Ground.guard }], guard := some (28, false) }) (v := undef) rfl (by kernel_rfl) (by kernel_rfl) (by kernel_rfl) (fun _ _ _ h => h) (Or.inr ⟨by rfl, rfl⟩) (by assumption) ?_
          try simp only [Act.put, List.setIfInBounds_toArray, List.set_cons_zero, List.set_cons_succ]
          refine wpAnyH_take (i := 31) (oi := { dst := some 246, op := Op.indexAddr 29 (Operand.tmp 244) (Operand.tmp 245), type := 0, pos := "outright.go:230", after := #[{ on := 29, ground := Ground.data }, { on := 30, ground := Ground.data }, { on := 28, ground := Ground.guard }], guard := some (28, false) }) (v := undef) rfl (by kernel_rfl) (by kernel_rfl) (by kernel_rfl) (fun _ _ _ h => h) (Or.inr ⟨by rfl, rfl⟩) (by assumption) ?_
          try simp only [Act.put, List.setIfInBounds_toArray, List.set_cons_zero, List.set_cons_succ]
          refine wpAnyH_take (i := 32) (oi := { dst := some 247, op := Op.fieldAddr 73 (Operand.tmp 246) 2, type := 0, pos := "outright.go:230", after := #[{ on := 31, ground := Ground.data }, { on := 28, ground := Ground.guard }], guard := some (28, false) }) (v := undef) rfl (by kernel_rfl) (by kernel_rfl) (by kernel_rfl) (fun _ _ _ h => h) (Or.inr ⟨by rfl, rfl⟩) (by assumption) ?_
          try simp only [Act.put, List.setIfInBounds_toArray, List.set_cons_zero, List.set_cons_succ]
          refine wpAnyH_take (i := 33) (oi := { dst := some 248, op := Op.load 3 (Operand.tmp 247), type := 3, pos := "outright.go:230", after := #[{ on := 32, ground := Ground.data }, { on := 28, ground := Ground.guard }], guard := some (28, false) }) (v := undef) rfl (by kernel_rfl) (by kernel_rfl) (by kernel_rfl) (fun _ _ _ h => h) (Or.inr ⟨by rfl, rfl⟩) (by assumption) ?_
          try simp only [Act.put, List.setIfInBounds_toArray, List.set_cons_zero, List.set_cons_succ]
          refine wpAnyH_take (i := 34) (oi := { dst := some 249, op := Op.move (Operand.tmp 15), type := 29, pos := "outright.go:230", after := #[{ on := 28, ground := Ground.guard }], guard := some (28, false) }) (v := undef) rfl (by kernel_rfl) (by kernel_rfl) (by kernel_rfl) (fun _ _ _ h => h) (Or.inr ⟨by rfl, rfl⟩) (by assumption) ?_
          try simp only [Act.put, List.setIfInBounds_toArray, List.set_cons_zero, List.set_cons_succ]
          refine wpAnyH_take (i := 35) (oi := { dst := some 250, op := Op.move (Operand.tmp 20), type := 3, pos := "outright.go:230", after := #[{ on := 28, ground := Ground.guard }], guard := some (28, false) }) (v := undef) rfl (by kernel_rfl) (by kernel_rfl) (by kernel_rfl) (fun _ _ _ h => h) (Or.inr ⟨by rfl, rfl⟩) (by assumption) ?_
          try simp only [Act.put, List.setIfInBounds_toArray, List.set_cons_zero, List.set_cons_succ]
          refine wpAnyH_take (i := 36) (oi := { dst := some 251, op := Op.binOp BinOp.sub 3 (Operand.tmp 250) (Operand.const (Value.int IntKind.i64 1)) 3, type := 3, pos := "outright.go:230", after := #[{ on := 35, ground := Ground.data }, { on := 28, ground := Ground.guard }], guard := some (28, false) }) (v := undef) rfl (by kernel_rfl) (by kernel_rfl) (by kernel_rfl) (fun _ _ _ h => h) (Or.inr ⟨by rfl, rfl⟩) (by assumption) ?_
          try simp only [Act.put, List.setIfInBounds_toArray, List.set_cons_zero, List.set_cons_succ]
          refine wpAnyH_take (i := 37) (oi := { dst := some 252, op := Op.indexAddr 29 (Operand.tmp 249) (Operand.tmp 251), type := 0, pos := "outright.go:230", after := #[{ on := 34, ground := Ground.data }, { on := 36, ground := Ground.data }, { on := 28, ground := Ground.guard }], guard := some (28, false) }) (v := undef) rfl (by kernel_rfl) (by kernel_rfl) (by kernel_rfl) (fun _ _ _ h => h) (Or.inr ⟨by rfl, rfl⟩) (by assumption) ?_
          try simp only [Act.put, List.setIfInBounds_toArray, List.set_cons_zero, List.set_cons_succ]
          refine wpAnyH_take (i := 38) (oi := { dst := some 253, op := Op.fieldAddr 73 (Operand.tmp 252) 2, type := 0, pos := "outright.go:230", after := #[{ on := 37, ground := Ground.data }, { on := 28, ground := Ground.guard }], guard := some (28, false) }) (v := undef) rfl (by kernel_rfl) (by kernel_rfl) (by kernel_rfl) (fun _ _ _ h => h) (Or.inr ⟨by rfl, rfl⟩) (by assumption) ?_
          try simp only [Act.put, List.setIfInBounds_toArray, List.set_cons_zero, List.set_cons_succ]
          refine wpAnyH_take (i := 39) (oi := { dst := some 254, op := Op.load 3 (Operand.tmp 253), type := 3, pos := "outright.go:230", after := #[{ on := 38, ground := Ground.data }, { on := 28, ground := Ground.guard }], guard := some (28, false) }) (v := undef) rfl (by kernel_rfl) (by kernel_rfl) (by kernel_rfl) (fun _ _ _ h => h) (Or.inr ⟨by rfl, rfl⟩) (by assumption) ?_
          try simp only [Act.put, List.setIfInBounds_toArray, List.set_cons_zero, List.set_cons_succ]
          refine wpAnyH_take (i := 40) (oi := { dst := some 255, op := Op.binOp BinOp.eql 3 (Operand.tmp 248) (Operand.tmp 254) 3, type := 4, pos := "outright.go:230", after := #[{ on := 33, ground := Ground.data }, { on := 39, ground := Ground.data }, { on := 28, ground := Ground.guard }], guard := some (28, false) }) (v := undef) rfl (by kernel_rfl) (by kernel_rfl) (by kernel_rfl) (fun _ _ _ h => h) (Or.inr ⟨by rfl, rfl⟩) (by assumption) ?_
          try simp only [Act.put, List.setIfInBounds_toArray, List.set_cons_zero, List.set_cons_succ]
          refine wpAnyH_take (i := 41) (oi := { dst := some 256, op := Op.move (Operand.tmp 255), type := 4, pos := "outright.go:230", after := #[{ on := 40, ground := Ground.data }, { on := 28, ground := Ground.chain }, { on := 28, ground := Ground.guard }], guard := some (28, false) }) (v := undef) rfl (by kernel_rfl) (by kernel_rfl) (by kernel_rfl) (fun _ _ _ h => h) (Or.inr ⟨by rfl, rfl⟩) (by assumption) ?_
          try simp only [Act.put, List.setIfInBounds_toArray, List.set_cons_zero, List.set_cons_succ]
          refine wpAnyH_take (i := 42) (oi := { dst := some 257, op := Op.move (Operand.tmp 15), type := 29, pos := "outright.go:230", after := #[{ on := 41, ground := Ground.guard }], guard := some (41, true) }) (v := undef) rfl (by kernel_rfl) (by kernel_rfl) (by kernel_rfl) (fun _ _ _ h => h) (Or.inr ⟨by rfl, rfl⟩) (by assumption) ?_
          try simp only [Act.put, List.setIfInBounds_toArray, List.set_cons_zero, List.set_cons_succ]
          refine wpAnyH_take (i := 43) (oi := { dst := some 258, op := Op.move (Operand.tmp 20), type := 3, pos := "outright.go:230", after := #[{ on := 41, ground := Ground.guard }], guard := some (41, true) }) (v := undef) rfl (by kernel_rfl) (by kernel_rfl) (by kernel_rfl) (fun _ _ _ h => h) (Or.inr ⟨by rfl, rfl⟩) (by assumption) ?_
          try simp only [Act.put, List.setIfInBounds_toArray, List.set_cons_zero, List.set_cons_succ]
          refine wpAnyH_take (i := 44) (oi := { dst := some 259, op := Op.indexAddr 29 (Operand.tmp 257) (Operand.tmp 258), type := 0, pos := "outright.go:230", after := #[{ on := 42, ground := Ground.data }, { on := 43, ground := Ground.data }, { on := 41, ground := Ground.guard }], guard := some (41, true) }) (v := undef) rfl (by kernel_rfl) (by kernel_rfl) (by kernel_rfl) (fun _ _ _ h => h) (Or.inr ⟨by rfl, rfl⟩) (by assumption) ?_
          try simp only [Act.put, List.setIfInBounds_toArray, List.set_cons_zero, List.set_cons_succ]
          refine wpAnyH_take (i := 45) (oi := { dst := some 260, op := Op.fieldAddr 73 (Operand.tmp 259) 0, type := 0, pos := "outright.go:230", after := #[{ on := 44, ground := Ground.data }, { on := 41, ground := Ground.guard }], guard := some (41, true) }) (v := undef) rfl (by kernel_rfl) (by kernel_rfl) (by kernel_rfl) (fun _ _ _ h => h) (Or.inr ⟨by rfl, rfl⟩) (by assumption) ?_
          try simp only [Act.put, List.setIfInBounds_toArray, List.set_cons_zero, List.set_cons_succ]
          refine wpAnyH_take (i := 46) (oi := { dst := some 261, op := Op.load 3 (Operand.tmp 260), type := 3, pos := "outright.go:230", after := #[{ on := 45, ground := Ground.data }, { on := 41, ground := Ground.guard }], guard := some (41, true) }) (v := undef) rfl (by kernel_rfl) (by kernel_rfl) (by kernel_rfl) (fun _ _ _ h => h) (Or.inr ⟨by rfl, rfl⟩) (by assumption) ?_
          try simp only [Act.put, List.setIfInBounds_toArray, List.set_cons_zero, List.set_cons_succ]
          refine wpAnyH_take (i := 47) (oi := { dst := some 262, op := Op.move (Operand.tmp 15), type := 29, pos := "outright.go:230", after := #[{ on := 41, ground := Ground.guard }], guard := some (41, true) }) (v := undef) rfl (by kernel_rfl) (by kernel_rfl) (by kernel_rfl) (fun _ _ _ h => h) (Or.inr ⟨by rfl, rfl⟩) (by assumption) ?_
          try simp only [Act.put, List.setIfInBounds_toArray, List.set_cons_zero, List.set_cons_succ]
          refine wpAnyH_take (i := 48) (oi := { dst := some 263, op := Op.move (Operand.tmp 20), type := 3, pos := "outright.go:230", after := #[{ on := 41, ground := Ground.guard }], guard := some (41, true) }) (v := undef) rfl (by kernel_rfl) (by kernel_rfl) (by kernel_rfl) (fun _ _ _ h => h) (Or.inr ⟨by rfl, rfl⟩) (by assumption) ?_
          try simp only [Act.put, List.setIfInBounds_toArray, List.set_cons_zero, List.set_cons_succ]
          refine wpAnyH_take (i := 49) (oi := { dst := some 264, op := Op.binOp BinOp.sub 3 (Operand.tmp 263) (Operand.const (Value.int IntKind.i64 1)) 3, type := 3, pos := "outright.go:230", after := #[{ on := 48, ground := Ground.data }, { on := 41, ground := Ground.guard }], guard := some (41, true) }) (v := undef) rfl (by kernel_rfl) (by kernel_rfl) (by kernel_rfl) (fun _ _ _ h => h) (Or.inr ⟨by rfl, rfl⟩) (by assumption) ?_
          try simp only [Act.put, List.setIfInBounds_toArray, List.set_cons_zero, List.set_cons_succ]
          refine wpAnyH_take (i := 50) (oi := { dst := some 265, op := Op.indexAddr 29 (Operand.tmp 262) (Operand.tmp 264), type := 0, pos := "outright.go:230", after := #[{ on := 47, ground := Ground.data }, { on := 49, ground := Ground.data }, { on := 41, ground := Ground.guard }], guard := some (41, true) }) (v := undef) rfl (by kernel_rfl) (by kernel_rfl) (by kernel_rfl) (fun _ _ _ h => h) (Or.inr ⟨by rfl, rfl⟩) (by assumption) ?_
          try simp only [Act.put, List.setIfInBounds_toArray, List.set_cons_zero, List.set_cons_succ]
          refine wpAnyH_take (i := 51) (oi := { dst := some 266, op := Op.fieldAddr 73 (Operand.tmp 265) 0, type := 0, pos := "outright.go:230", after := #[{ on := 50, ground := Ground.data }, { on := 41, ground := Ground.guard }], guard := some (41, true) }) (v := undef) rfl (by kernel_rfl) (by kernel_rfl) (by kernel_rfl) (fun _ _ _ h => h) (Or.inr ⟨by rfl, rfl⟩) (by assumption) ?_
          try simp only [Act.put, List.setIfInBounds_toArray, List.set_cons_zero, List.set_cons_succ]
          refine wpAnyH_take (i := 52) (oi := { dst := some 267, op := Op.load 3 (Operand.tmp 266), type := 3, pos := "outright.go:230", after := #[{ on := 51, ground := Ground.data }, { on := 41, ground := Ground.guard }], guard := some (41, true) }) (v := undef) rfl (by kernel_rfl) (by kernel_rfl) (by kernel_rfl) (fun _ _ _ h => h) (Or.inr ⟨by rfl, rfl⟩) (by assumption) ?_
          try simp only [Act.put, List.setIfInBounds_toArray, List.set_cons_zero, List.set_cons_succ]
          refine wpAnyH_take (i := 53) (oi := { dst := some 268, op := Op.binOp BinOp.leq 3 (Operand.tmp 261) (Operand.tmp 267) 3, type := 4, pos := "outright.go:230", after := #[{ on := 46, ground := Ground.data }, { on := 52, ground := Ground.data }, { on := 41, ground := Ground.guard }], guard := some (41, true) }) (v := undef) rfl (by kernel_rfl) (by kernel_rfl) (by kernel_rfl) (fun _ _ _ h => h) (Or.inr ⟨by rfl, rfl⟩) (by assumption) ?_
          try simp only [Act.put, List.setIfInBounds_toArray, List.set_cons_zero, List.set_cons_succ]
          refine wpAnyH_take (i := 54) (oi := { dst := some 269, op := Op.pick (Operand.tmp 256) (Operand.tmp 268) (Operand.const (Value.bool false)), type := 4, pos := "outright.go:230", after := #[{ on := 41, ground := Ground.data }, { on := 53, ground := Ground.data }, { on := 28, ground := Ground.guard }], guard := some (28, false) }) (v := undef) rfl (by kernel_rfl) (by kernel_rfl) (by kernel_rfl) (fun _ _ _ h => h) (Or.inr ⟨by rfl, rfl⟩) (by assumption) ?_
          try simp only [Act.put, List.setIfInBounds_toArray, List.set_cons_zero, List.set_cons_succ]
          refine wpAnyH_take (i := 55) (oi := { dst := some 270, op := Op.pick (Operand.tmp 243) (Operand.const (Value.bool true)) (Operand.tmp 269), type := 4, pos := "outright.go:230", after := #[{ on := 28, ground := Ground.data }, { on := 54, ground := Ground.data }, { on := 15, ground := Ground.guard }], guard := some (15, true) }) (v := undef) rfl (by kernel_rfl) (by kernel_rfl) (by kernel_rfl) (fun _ _ _ h => h) (Or.inr ⟨by rfl, rfl⟩) (by assumption) ?_
          try simp only [Act.put, List.setIfInBounds_toArray, List.set_cons_zero, List.set_cons_succ]
          refine wpAnyH_take (i := 56) (oi := { dst := some 271, op := Op.pick (Operand.tmp 230) (Operand.tmp 270) (Operand.const (Value.bool false)), type := 4, pos := "outright.go:230", after := #[{ on := 15, ground := Ground.data }, { on := 55, ground := Ground.data }, { on := 12, ground := Ground.guard }], guard := some (12, false) }) (v := ?_) rfl (by kernel_rfl) (by kernel_rfl) (by kernel_rfl) (fun _ _ _ h => h) (Or.inl ⟨by rfl, ?_⟩) (by assumption) ?_
          rotate_left
          · intro w hSw
            go_split_ands
            go_simp
            try with_reducible rfl
          try simp only [Act.put, List.setIfInBounds_toArray, List.set_cons_zero, List.set_cons_succ]
          refine wpAnyH_take (i := 57) (oi := { dst := some 272, op := Op.pick (Operand.tmp 227) (Operand.const (Value.bool true)) (Operand.tmp 271), type := 4, pos := "outright.go:230", after := #[{ on := 12, ground := Ground.data }, { on := 56, ground := Ground.data }], guard := none }) (v := ?_) rfl (by kernel_rfl) (by kernel_rfl) (by kernel_rfl) (fun _ _ _ h => h) (Or.inl ⟨by rfl, ?_⟩) (by assumption) ?_
          rotate_left
          · intro w hSw
            go_split_ands
            go_simp
            try with_reducible rfl
          try simp only [Act.put, List.setIfInBounds_toArray, List.set_cons_zero, List.set_cons_succ]
          refine wpAnyH_done (by kernel_rfl) ?_ _
          clear hn1
          go_wp2_with fail
          go_roundw
          case rel => exact ⟨n + 1, hlt, by go_num, HBr.out.trans (HC30.out.mono HBr.out.size)⟩
          case measure => simp [intOf]; omega
      case pos =>
        obtain ⟨zn, zw, z0, z2, hz⟩ := hprev h0
        have hp5 : (0 : Int) < (n : Int) := by omega
        have b1 : IntKind.i64.wrap ((n : Int) - 1) = (n : Int) - 1 := IntWalk.i64_in _ (by omega)
        have b2 : ((n : Int) - 1).toNat = n - 1 := by omega
        have b3 : (0 : Int) ≤ (n : Int) - 1 := by omega
        have b4 : (n : Int) - 1 < (l.length : Int) := by omega
        have b5 : ¬ ((n : Int) - 1 < 0) := by omega
        have b6 : ¬ ((l.length : Int) ≤ (n : Int) - 1) := by omega
        have b7 : (1 : Int) ≤ (n : Int) := by omega
        have z0' := cell_keep hbr z0
        have z2' := cell_keep hbr z2
        have HS := Lib.hid (fun W (h : Below wr.heap.size wr W) => And.intro h (And.intro (HCx.out W h).2.1 (And.intro (HCx.out W h).2.2.1 (And.intro (HCx.out W h).2.2.2.1 (And.intro (HCx.out W h).2.2.2.2 (And.intro (cell_keep h z0') (cell_keep h z2')))))))
        clear hprev hbr z0 z2 z0' z2'
        rcases hz with hz | ⟨rfl, hz⟩
        case inl =>
          have hg1 : ¬ zw < q.work := by omega
          have hg2 : ¬ q.work = zw := by omega
          have hg3 : decide (zw < q.work) = false := decide_eq_false hg1
          have hg4 : decide (q.work = zw) = false := decide_eq_false hg2
          have hg5 : (q.work == zw) = false := by simpa using hg2
          clear hz
          as_aux_lemma =>
            go_upto_region 17 with (fail)
            try simp only [List.append_eq, List.cons_append, List.nil_append]
            refine wp_region_held_drew (S := (fun W => Below wr.heap.size wr W ∧ W.cell? ⟨bt, ot + n * 4, none⟩ = some (.int .i64 q.node) ∧ W.cell? ⟨bt, ot + n * 4 + 1, none⟩ = some (.int .i64 q.count) ∧ W.cell? ⟨bt, ot + n * 4 + 2, none⟩ = some (.int .i64 q.work) ∧ W.cell? ⟨bt, ot + n * 4 + 3, none⟩ = some (.int .i64 q.cycles) ∧ W.cell? ⟨bt, ot + (n - 1) * 4, none⟩ = some (.int .i64 zn) ∧ W.cell? ⟨bt, ot + (n - 1) * 4 + 2, none⟩ = some (.int .i64 zw))) (by kernel_rfl) ?_ (fun hHeld => ?_)
            · exact HS.out _ (below_drew _)
            refine wpAnyH_take (i := 0) (oi := { dst := some 215, op := Op.move (Operand.tmp 7), type := 29, pos := "outright.go:230", after := #[], guard := none }) (v := ?_) rfl (by kernel_rfl) (by kernel_rfl) (by kernel_rfl) (fun _ _ _ h => h) (Or.inl ⟨by rfl, ?_⟩) (by assumption) ?_
            rotate_left
            · intro w hSw
              go_split_ands
              go_simp
              try with_reducible rfl
            try simp only [Act.put, List.setIfInBounds_toArray, List.set_cons_zero, List.set_cons_succ]
            refine wpAnyH_take (i := 1) (oi := { dst := some 216, op := Op.move (Operand.tmp 15), type := 29, pos := "outright.go:230", after := #[], guard := none }) (v := ?_) rfl (by kernel_rfl) (by kernel_rfl) (by kernel_rfl) (fun _ _ _ h => h) (Or.inl ⟨by rfl, ?_⟩) (by assumption) ?_
            rotate_left
            · intro w hSw
              go_split_ands
              go_simp
              try with_reducible rfl
            try simp only [Act.put, List.setIfInBounds_toArray, List.set_cons_zero, List.set_cons_succ]
            refine wpAnyH_take (i := 2) (oi := { dst := some 217, op := Op.move (Operand.tmp 20), type := 3, pos := "outright.go:230", after := #[], guard := none }) (v := ?_) rfl (by kernel_rfl) (by kernel_rfl) (by kernel_rfl) (fun _ _ _ h => h) (Or.inl ⟨by rfl, ?_⟩) (by assumption) ?_
            rotate_left
            · intro w hSw
              go_split_ands
              go_simp
              try with_reducible rfl
            try simp only [Act.put, List.setIfInBounds_toArray, List.set_cons_zero, List.set_cons_succ]
            refine wpAnyH_take (i := 3) (oi := { dst := some 218, op := Op.indexAddr 29 (Operand.tmp 216) (Operand.tmp 217), type := 0, pos := "outright.go:230", after := #[{ on := 1, ground := Ground.data }, { on := 2, ground := Ground.data }], guard := none }) (v := ?_) rfl (by kernel_rfl) (by kernel_rfl) (by kernel_rfl) (fun _ _ _ h => h) (Or.inl ⟨by rfl, ?_⟩) (by assumption) ?_
            rotate_left
            · intro w hSw
              go_split_ands
              go_simp
              try with_reducible rfl
            try simp only [Act.put, List.setIfInBounds_toArray, List.set_cons_zero, List.set_cons_succ]
            refine wpAnyH_take (i := 4) (oi := { dst := some 219, op := Op.fieldAddr 73 (Operand.tmp 218) 0, type := 0, pos := "outright.go:230", after := #[{ on := 3, ground := Ground.data }], guard := none }) (v := ?_) rfl (by kernel_rfl) (by kernel_rfl) (by kernel_rfl) (fun _ _ _ h => h) (Or.inl ⟨by rfl, ?_⟩) (by assumption) ?_
            rotate_left
            · intro w hSw
              go_split_ands
              go_simp
              try with_reducible rfl
            try simp only [Act.put, List.setIfInBounds_toArray, List.set_cons_zero, List.set_cons_succ]
            refine wpAnyH_take (i := 5) (oi := { dst := some 220, op := Op.load 3 (Operand.tmp 219), type := 3, pos := "outright.go:230", after := #[{ on := 4, ground := Ground.data }], guard := none }) (v := ?_) rfl (by kernel_rfl) (by kernel_rfl) (by kernel_rfl) (fun _ _ _ h => h) (Or.inl ⟨by rfl, ?_⟩) (by assumption) ?_
            rotate_left
            · intro w hSw
              go_split_ands
              go_simp
              try with_reducible rfl
            try simp only [Act.put, List.setIfInBounds_toArray, List.set_cons_zero, List.set_cons_succ]
            refine wpAnyH_take (i := 7) (oi := { dst := some 222, op := Op.move (Operand.tmp 15), type := 29, pos := "outright.go:230", after := #[], guard := none }) (v := ?_) rfl (by kernel_rfl) (by kernel_rfl) (by kernel_rfl) (fun _ _ _ h => h) (Or.inl ⟨by rfl, ?_⟩) (by assumption) ?_
            rotate_left
            · intro w hSw
              go_split_ands
              go_simp
              try with_reducible rfl
            try simp only [Act.put, List.setIfInBounds_toArray, List.set_cons_zero, List.set_cons_succ]
            refine wpAnyH_take (i := 8) (oi := { dst := some 223, op := Op.move (Operand.tmp 20), type := 3, pos := "outright.go:230", after := #[], guard := none }) (v := ?_) rfl (by kernel_rfl) (by kernel_rfl) (by kernel_rfl) (fun _ _ _ h => h) (Or.inl ⟨by rfl, ?_⟩) (by assumption) ?_
            rotate_left
            · intro w hSw
              go_split_ands
              go_simp
              try with_reducible rfl
            try simp only [Act.put, List.setIfInBounds_toArray, List.set_cons_zero, List.set_cons_succ]
            refine wpAnyH_take (i := 9) (oi := { dst := some 224, op := Op.indexAddr 29 (Operand.tmp 222) (Operand.tmp 223), type := 0, pos := "outright.go:230", after := #[{ on := 7, ground := Ground.data }, { on := 8, ground := Ground.data }], guard := none }) (v := ?_) rfl (by kernel_rfl) (by kernel_rfl) (by kernel_rfl) (fun _ _ _ h => h) (Or.inl ⟨by rfl, ?_⟩) (by assumption) ?_
            rotate_left
            · intro w hSw
              go_split_ands
              go_simp
              try with_reducible rfl
            try simp only [Act.put, List.setIfInBounds_toArray, List.set_cons_zero, List.set_cons_succ]
            refine wpAnyH_take (i := 10) (oi := { dst := some 225, op := Op.load 73 (Operand.tmp 224), type := 73, pos := "outright.go:230", after := #[{ on := 9, ground := Ground.data }], guard := none }) (v := ?_) rfl (by kernel_rfl) (by kernel_rfl) (by kernel_rfl) (fun _ _ _ h => h) (Or.inl ⟨by rfl, ?_⟩) (by assumption) ?_
            rotate_left
            · intro w hSw
              go_split_ands
              go_simp
              try with_reducible rfl
            try simp only [Act.put, List.setIfInBounds_toArray, List.set_cons_zero, List.set_cons_succ]
            refine wpAnyH_ready (rs := [6]) (by kernel_rfl) (by simp) ?_
            refine AllReadyH.cons (o := { dst := some 221, op := Op.call { callee := Callee.value (Operand.func 44), args := #[Operand.tmp 215, Operand.tmp 220], argTypes := #[29, 3] }, type := 73, pos := "outright.go:230", after := #[{ on := 0, ground := Ground.data }, { on := 5, ground := Ground.data }], guard := none }) rfl (fun K hK => ?_) AllReadyH.nil
            have HK := Lib.hid hK; clear hK
            go_simp
            refine (HOa.out _ (by go_split_ands; assumption)).mono ?_
            rintro e w30 ⟨rfl, hb30⟩
            have HC30 := Lib.hid hb30
            clear hb30
            go_wp2_with fail
            refine HK.out _ _ (HS.out _ HC30.out) (fun hHeld => ?_)
            clear HK K
            try simp only [Act.put, List.setIfInBounds_toArray, List.set_cons_zero, List.set_cons_succ]
            refine wpAnyH_take (i := 11) (oi := { dst := some 226, op := Op.binOp BinOp.neq 73 (Operand.tmp 221) (Operand.tmp 225) 73, type := 4, pos := "outright.go:230", after := #[{ on := 6, ground := Ground.data }, { on := 10, ground := Ground.data }], guard := none }) (v := ?_) rfl (by kernel_rfl) (by kernel_rfl) (by kernel_rfl) (fun _ _ _ h => h) (Or.inl ⟨by rfl, ?_⟩) (by assumption) ?_
            rotate_left
            · intro w hSw
              go_split_ands
              go_simp
              try with_reducible rfl
            try simp only [Act.put, List.setIfInBounds_toArray, List.set_cons_zero, List.set_cons_succ]
            refine wpAnyH_take (i := 12) (oi := { dst := some 227, op := Op.move (Operand.tmp 226), type := 4, pos := "outright.go:230", after := #[{ on := 11, ground := Ground.data }, { on := 6, ground := Ground.chain }], guard := none }) (v := ?_) rfl (by kernel_rfl) (by kernel_rfl) (by kernel_rfl) (fun _ _ _ h => h) (Or.inl ⟨by rfl, ?_⟩) (by assumption) ?_
            rotate_left
            · intro w hSw
              go_split_ands
              go_simp
              try with_reducible rfl
            try simp only [Act.put, List.setIfInBounds_toArray, List.set_cons_zero, List.set_cons_succ]
            refine wpAnyH_take (i := 13) (oi := { dst := some 228, op := Op.move (Operand.tmp 20), type := 3, pos := "outright.go:230", after := #[{ on := 12, ground := Ground.guard }], guard := some (12, false) }) (v := ?_) rfl (by kernel_rfl) (by kernel_rfl) (by kernel_rfl) (fun _ _ _ h => h) (Or.inl ⟨by rfl, ?_⟩) (by assumption) ?_
            rotate_left
            · intro w hSw
              go_split_ands
              go_simp
              try with_reducible rfl
            try simp only [Act.put, List.setIfInBounds_toArray, List.set_cons_zero, List.set_cons_succ]
            refine wpAnyH_take (i := 14) (oi := { dst := some 229, op := Op.binOp BinOp.gtr 3 (Operand.tmp 228) (Operand.const (Value.int IntKind.i64 0)) 3, type := 4, pos := "outright.go:230", after := #[{ on := 13, ground := Ground.data }, { on := 12, ground := Ground.guard }], guard := some (12, false) }) (v := ?_) rfl (by kernel_rfl) (by kernel_rfl) (by kernel_rfl) (fun _ _ _ h => h) (Or.inl ⟨by rfl, ?_⟩) (by assumption) ?_
            rotate_left
            · intro w hSw
              go_split_ands
              go_simp
              try with_reducible rfl
            try simp only [Act.put, List.setIfInBounds_toArray, List.set_cons_zero, List.set_cons_succ]
            refine wpAnyH_take (i := 15) (oi := { dst := some 230, op := Op.move (Operand.tmp 229), type := 4, pos := "outright.go:230", after := #[{ on := 14, ground := Ground.data }, { on := 12, ground := Ground.chain }, { on := 12, ground := Ground.guard }], guard := some (12, false) }) (v := ?_) rfl (by kernel_rfl) (by kernel_rfl) (by kernel_rfl) (fun _ _ _ h => h) (Or.inl ⟨by rfl, ?_⟩) (by assumption) ?_
            rotate_left
            · intro w hSw
              go_split_ands
              go_simp
              try with_reducible rfl
            try simp only [Act.put, List.setIfInBounds_toArray, List.set_cons_zero, List.set_cons_succ]
            refine wpAnyH_take (i := 16) (oi := { dst := some 231, op := Op.move (Operand.tmp 15), type := 29, pos := "outright.go:230", after := #[{ on := 15, ground := Ground.guard }], guard := some (15, true) }) (v := ?_) rfl (by kernel_rfl) (by kernel_rfl) (by kernel_rfl) (fun _ _ _ h => h) (Or.inl ⟨by rfl, ?_⟩) (by assumption) ?_
            rotate_left
            · intro w hSw
              go_split_ands
              go_simp
              try with_reducible rfl
            try simp only [Act.put, List.setIfInBounds_toArray, List.set_cons_zero, List.set_cons_succ]
            refine wpAnyH_take (i := 17) (oi := { dst := some 232, op := Op.move (Operand.tmp 20), type := 3, pos := "outright.go:230", after := #[{ on := 15, ground := Ground.guard }], guard := some (15, true) }) (v := ?_) rfl (by kernel_rfl) (by kernel_rfl) (by kernel_rfl) (fun _ _ _ h => h) (Or.inl ⟨by rfl, ?_⟩) (by assumption) ?_
            rotate_left
            · intro w hSw
              go_split_ands
              go_simp
              try with_reducible rfl
            try simp only [Act.put, List.setIfInBounds_toArray, List.set_cons_zero, List.set_cons_succ]
            refine wpAnyH_take (i := 18) (oi := { dst := some 233, op := Op.indexAddr 29 (Operand.tmp 231) (Operand.tmp 232), type := 0, pos := "outright.go:230", after := #[{ on := 16, ground := Ground.data }, { on := 17, ground := Ground.data }, { on := 15, ground := Ground.guard }], guard := some (15, true) }) (v := ?_) rfl (by kernel_rfl) (by kernel_rfl) (by kernel_rfl) (fun _ _ _ h => h) (Or.inl ⟨by rfl, ?_⟩) (by assumption) ?_
            rotate_left
            · intro w hSw
              go_split_ands
              go_simp
              try with_reducible rfl
            try simp only [Act.put, List.setIfInBounds_toArray, List.set_cons_zero, List.set_cons_succ]
            refine wpAnyH_take (i := 19) (oi := { dst := some 234, op := Op.fieldAddr 73 (Operand.tmp 233) 2, type := 0, pos := "outright.go:230", after := #[{ on := 18, ground := Ground.data }, { on := 15, ground := Ground.guard }], guard := some (15, true) }) (v := ?_) rfl (by kernel_rfl) (by kernel_rfl) (by kernel_rfl) (fun _ _ _ h => h) (Or.inl ⟨by rfl, ?_⟩) (by assumption) ?_
            rotate_left
            · intro w hSw
              go_split_ands
              go_simp
              try with_reducible rfl
            try simp only [Act.put, List.setIfInBounds_toArray, List.set_cons_zero, List.set_cons_succ]
            refine wpAnyH_take (i := 20) (oi := { dst := some 235, op := Op.load 3 (Operand.tmp 234), type := 3, pos := "outright.go:230", after := #[{ on := 19, ground := Ground.data }, { on := 15, ground := Ground.guard }], guard := some (15, true) }) (v := ?_) rfl (by kernel_rfl) (by kernel_rfl) (by kernel_rfl) (fun _ _ _ h => h) (Or.inl ⟨by rfl, ?_⟩) (by assumption) ?_
            rotate_left
            · intro w hSw
              go_split_ands
              go_simp
              try with_reducible rfl
            try simp only [Act.put, List.setIfInBounds_toArray, List.set_cons_zero, List.set_cons_succ]
            refine wpAnyH_take (i := 21) (oi := { dst := some 236, op := Op.move (Operand.tmp 15), type := 29, pos := "outright.go:230", after := #[{ on := 15, ground := Ground.guard }], guard := some (15, true) }) (v := ?_) rfl (by kernel_rfl) (by kernel_rfl) (by kernel_rfl) (fun _ _ _ h => h) (Or.inl ⟨by rfl, ?_⟩) (by assumption) ?_
            rotate_left
            · intro w hSw
              go_split_ands
              go_simp
              try with_reducible rfl
            try simp only [Act.put, List.setIfInBounds_toArray, List.set_cons_zero, List.set_cons_succ]
            refine wpAnyH_take (i := 22) (oi := { dst := some 237, op := Op.move (Operand.tmp 20), type := 3, pos := "outright.go:230", after := #[{ on := 15, ground := Ground.guard }], guard := some (15, true) }) (v := ?_) rfl (by kernel_rfl) (by kernel_rfl) (by kernel_rfl) (fun _ _ _ h => h) (Or.inl ⟨by rfl, ?_⟩) (by assumption) ?_
            rotate_left
            · intro w hSw
              go_split_ands
              go_simp
              try with_reducible rfl
            try simp only [Act.put, List.setIfInBounds_toArray, List.set_cons_zero, List.set_cons_succ]
            refine wpAnyH_take (i := 23) (oi := { dst := some 238, op := Op.binOp BinOp.sub 3 (Operand.tmp 237) (Operand.const (Value.int IntKind.i64 1)) 3, type := 3, pos := "outright.go:230", after := #[{ on := 22, ground := Ground.data }, { on := 15, ground := Ground.guard }], guard := some (15, true) }) (v := ?_) rfl (by kernel_rfl) (by kernel_rfl) (by kernel_rfl) (fun _ _ _ h => h) (Or.inl ⟨by rfl, ?_⟩) (by assumption) ?_
            rotate_left
            · intro w hSw
              go_split_ands
              go_simp
              try with_reducible rfl
            try simp only [Act.put, List.setIfInBounds_toArray, List.set_cons_zero, List.set_cons_succ]
            refine wpAnyH_take (i := 24) (oi := { dst := some 239, op := Op.indexAddr 29 (Operand.tmp 236) (Operand.tmp 238), type := 0, pos := "outright.go:230", after := #[{ on := 21, ground := Ground.data }, { on := 23, ground := Ground.data }, { on := 15, ground := Ground.guard }], guard := some (15, true) }) (v := ?_) rfl (by kernel_rfl) (by kernel_rfl) (by kernel_rfl) (fun _ _ _ h => h) (Or.inl ⟨by rfl, ?_⟩) (by assumption) ?_
            rotate_left
            · intro w hSw
              go_split_ands
              go_simp
              try with_reducible rfl
            try simp only [Act.put, List.setIfInBounds_toArray, List.set_cons_zero, List.set_cons_succ]
            refine wpAnyH_take (i := 25) (oi := { dst := some 240, op := Op.fieldAddr 73 (Operand.tmp 239) 2, type := 0, pos := "outright.go:230", after := #[{ on := 24, ground := Ground.data }, { on := 15, ground := Ground.guard }], guard := some (15, true) }) (v := ?_) rfl (by kernel_rfl) (by kernel_rfl) (by kernel_rfl) (fun _ _ _ h => h) (Or.inl ⟨by rfl, ?_⟩) (by assumption) ?_
            rotate_left
            · intro w hSw
              go_split_ands
              go_simp
              try with_reducible rfl
            try simp only [Act.put, List.setIfInBounds_toArray, List.set_cons_zero, List.set_cons_succ]
            refine wpAnyH_take (i := 26) (oi := { dst := some 241, op := Op.load 3 (Operand.tmp 240), type := 3, pos := "outright.go:230", after := #[{ on := 25, ground := Ground.data }, { on := 15, ground := Ground.guard }], guard := some (15, true) }) (v := ?_) rfl (by kernel_rfl) (by kernel_rfl) (by kernel_rfl) (fun _ _ _ h => h) (Or.inl ⟨by rfl, ?_⟩) (by assumption) ?_
            rotate_left
            · intro w hSw
              go_split_ands
              go_simp
              try with_reducible rfl
            try simp only [Act.put, List.setIfInBounds_toArray, List.set_cons_zero, List.set_cons_succ]
            refine wpAnyH_take (i := 27) (oi := { dst := some 242, op := Op.binOp BinOp.gtr 3 (Operand.tmp 235) (Operand.tmp 241) 3, type := 4, pos := "outright.go:230", after := #[{ on := 20, ground := Ground.data }, { on := 26, ground := Ground.data }, { on := 15, ground := Ground.guard }], guard := some (15, true) }) (v := ?_) rfl (by kernel_rfl) (by kernel_rfl) (by kernel_rfl) (fun _ _ _ h => h) (Or.inl ⟨by rfl, ?_⟩) (by assumption) ?_
            rotate_left
            · intro w hSw
              go_split_ands
              go_simp
              try with_reducible rfl
            try simp only [Act.put, List.setIfInBounds_toArray, List.set_cons_zero, List.set_cons_succ]
            refine wpAnyH_take (i := 28) (oi := { dst := some 243, op := Op.move (Operand.tmp 242), type := 4, pos := "outright.go:230", after := #[{ on := 27, ground := Ground.data }, { on := 15, ground := Ground.chain }, { on := 15, ground := Ground.guard }], guard := some (15, true) }) (v := ?_) rfl (by kernel_rfl) (by kernel_rfl) (by kernel_rfl) (fun _ _ _ h => h) (Or.inl ⟨by rfl, ?_⟩) (by assumption) ?_
            rotate_left
            · intro w hSw
              go_split_ands
              go_simp
              try with_reducible rfl
            try simp only [Act.put, List.setIfInBounds_toArray, List.set_cons_zero, List.set_cons_succ]
            refine wpAnyH_take (i := 29) (oi := { dst := some 244, op := Op.move (Operand.tmp 15), type := 29, pos := "outright.go:230", after := #[{ on := 28, ground := Ground.guard }], guard := some (28, false) }) (v := ?_) rfl (by kernel_rfl) (by kernel_rfl) (by kernel_rfl) (fun _ _ _ h => h) (Or.inl ⟨by rfl, ?_⟩) (by assumption) ?_
            rotate_left
            · intro w hSw
              go_split_ands
              go_simp
              try with_reducible rfl
            try simp only [Act.put, List.setIfInBounds_toArray, List.set_cons_zero, List.set_cons_succ]
            refine wpAnyH_take (i := 30) (oi := { dst := some 245, op := Op.move (Operand.tmp 20), type := 3, pos := "outright.go:230", after := #[{ on := 28, ground := Ground.guard }], guard := some (28, false) }) (v := ?_) rfl (by kernel_rfl) (by kernel_rfl) (by kernel_rfl) (fun _ _ _ h => h) (Or.inl ⟨by rfl, ?_⟩) (by assumption) ?_
            rotate_left
            · intro w hSw
              go_split_ands
              go_simp
              try with_reducible rfl
            try simp only [Act.put, List.setIfInBounds_toArray, List.set_cons_zero, List.set_cons_succ]
            refine wpAnyH_take (i := 31) (oi := { dst := some 246, op := Op.indexAddr 29 (Operand.tmp 244) (Operand.tmp 245), type := 0, pos := "outright.go:230", after := #[{ on := 29, ground := Ground.data }, { on := 30, ground := Ground.data }, { on := 28, ground := Ground.guard }], guard := some (28, false) }) (v := ?_) rfl (by kernel_rfl) (by kernel_rfl) (by kernel_rfl) (fun _ _ _ h => h) (Or.inl ⟨by rfl, ?_⟩) (by assumption) ?_
            rotate_left
            · intro w hSw
              go_split_ands
              go_simp
              try with_reducible rfl
            try simp only [Act.put, List.setIfInBounds_toArray, List.set_cons_zero, List.set_cons_succ]
            refine wpAnyH_take (i := 32) (oi := { dst := some 247, op := Op.fieldAddr 73 (Operand.tmp 246) 2, type := 0, pos := "outright.go:230", after := #[{ on := 31, ground := Ground.data }, { on := 28, ground := Ground.guard }], guard := some (28, false) }) (v := ?_) rfl (by kernel_rfl) (by kernel_rfl) (by kernel_rfl) (fun _ _ _ h => h) (Or.inl ⟨by rfl, ?_⟩) (by assumption) ?_
            rotate_left
            · intro w hSw
              go_split_ands
              go_simp
              try with_reducible rfl
            try simp only [Act.put, List.setIfInBounds_toArray, List.set_cons_zero, List.set_cons_succ]
            refine wpAnyH_take (i := 33) (oi := { dst := some 248, op := Op.load 3 (Operand.tmp 247), type := 3, pos := "outright.go:230", after := #[{ on := 32, ground := Ground.data }, { on := 28, ground := Ground.guard }], guard := some (28, false) }) (v := ?_) rfl (by kernel_rfl) (by kernel_rfl) (by kernel_rfl) (fun _ _ _ h => h) (Or.inl ⟨by rfl, ?_⟩) (by assumption) ?_
            rotate_left
            · intro w hSw
              go_split_ands
              go_simp
              try with_reducible rfl
            try simp only [Act.put, List.setIfInBounds_toArray, List.set_cons_zero, List.set_cons_succ]
            refine wpAnyH_take (i := 34) (oi := { dst := some 249, op := Op.move (Operand.tmp 15), type := 29, pos := "outright.go:230", after := #[{ on := 28, ground := Ground.guard }], guard := some (28, false) }) (v := ?_) rfl (by kernel_rfl) (by kernel_rfl) (by kernel_rfl) (fun _ _ _ h => h) (Or.inl ⟨by rfl, ?_⟩) (by assumption) ?_
            rotate_left
            · intro w hSw
              go_split_ands
              go_simp
              try with_reducible rfl
            try simp only [Act.put, List.setIfInBounds_toArray, List.set_cons_zero, List.set_cons_succ]
            refine wpAnyH_take (i := 35) (oi := { dst := some 250, op := Op.move (Operand.tmp 20), type := 3, pos := "outright.go:230", after := #[{ on := 28, ground := Ground.guard }], guard := some (28, false) }) (v := ?_) rfl (by kernel_rfl) (by kernel_rfl) (by kernel_rfl) (fun _ _ _ h => h) (Or.inl ⟨by rfl, ?_⟩) (by assumption) ?_
            rotate_left
            · intro w hSw
              go_split_ands
              go_simp
              try with_reducible rfl
            try simp only [Act.put, List.setIfInBounds_toArray, List.set_cons_zero, List.set_cons_succ]
            refine wpAnyH_take (i := 36) (oi := { dst := some 251, op := Op.binOp BinOp.sub 3 (Operand.tmp 250) (Operand.const (Value.int IntKind.i64 1)) 3, type := 3, pos := "outright.go:230", after := #[{ on := 35, ground := Ground.data }, { on := 28, ground := Ground.guard }], guard := some (28, false) }) (v := ?_) rfl (by kernel_rfl) (by kernel_rfl) (by kernel_rfl) (fun _ _ _ h => h) (Or.inl ⟨by rfl, ?_⟩) (by assumption) ?_
            rotate_left
            · intro w hSw
              go_split_ands
              go_simp
              try with_reducible rfl
            try simp only [Act.put, List.setIfInBounds_toArray, List.set_cons_zero, List.set_cons_succ]
            refine wpAnyH_take (i := 37) (oi := { dst := some 252, op := Op.indexAddr 29 (Operand.tmp 249) (Operand.tmp 251), type := 0, pos := "outright.go:230", after := #[{ on := 34, ground := Ground.data }, { on := 36, ground := Ground.data }, { on := 28, ground := Ground.guard }], guard := some (28, false) }) (v := ?_) rfl (by kernel_rfl) (by kernel_rfl) (by kernel_rfl) (fun _ _ _ h => h) (Or.inl ⟨by rfl, ?_⟩) (by assumption) ?_
            rotate_left
            · intro w hSw
              go_split_ands
              go_simp
              try with_reducible rfl
            try simp only [Act.put, List.setIfInBounds_toArray, List.set_cons_zero, List.set_cons_succ]
            refine wpAnyH_take (i := 38) (oi := { dst := some 253, op := Op.fieldAddr 73 (Operand.tmp 252) 2, type := 0, pos := "outright.go:230", after := #[{ on := 37, ground := Ground.data }, { on := 28, ground := Ground.guard }], guard := some (28, false) }) (v := ?_) rfl (by kernel_rfl) (by kernel_rfl) (by kernel_rfl) (fun _ _ _ h => h) (Or.inl ⟨by rfl, ?_⟩) (by assumption) ?_
            rotate_left
            · intro w hSw
              go_split_ands
              go_simp
              try with_reducible rfl
            try simp only [Act.put, List.setIfInBounds_toArray, List.set_cons_zero, List.set_cons_succ]
            refine wpAnyH_take (i := 39) (oi := { dst := some 254, op := Op.load 3 (Operand.tmp 253), type := 3, pos := "outright.go:230", after := #[{ on := 38, ground := Ground.data }, { on := 28, ground := Ground.guard }], guard := some (28, false) }) (v := ?_) rfl (by kernel_rfl) (by kernel_rfl) (by kernel_rfl) (fun _ _ _ h => h) (Or.inl ⟨by rfl, ?_⟩) (by assumption) ?_
            rotate_left
            · intro w hSw
              go_split_ands
              go_simp
              try with_reducible rfl
            try simp only [Act.put, List.setIfInBounds_toArray, List.set_cons_zero, List.set_cons_succ]
            refine wpAnyH_take (i := 40) (oi := { dst := some 255, op := Op.binOp BinOp.eql 3 (Operand.tmp 248) (Operand.tmp 254) 3, type := 4, pos := "outright.go:230", after := #[{ on := 33, ground := Ground.data }, { on := 39, ground := Ground.data }, { on := 28, ground := Ground.guard }], guard := some (28, false) }) (v := ?_) rfl (by kernel_rfl) (by kernel_rfl) (by kernel_rfl) (fun _ _ _ h => h) (Or.inl ⟨by rfl, ?_⟩) (by assumption) ?_
            rotate_left
            · intro w hSw
              go_split_ands
              go_simp
              try with_reducible rfl
            try simp only [Act.put, List.setIfInBounds_toArray, List.set_cons_zero, List.set_cons_succ]
            refine wpAnyH_take (i := 41) (oi := { dst := some 256, op := Op.move (Operand.tmp 255), type := 4, pos := "outright.go:230", after := #[{ on := 40, ground := Ground.data }, { on := 28, ground := Ground.chain }, { on := 28, ground := Ground.guard }], guard := some (28, false) }) (v := ?_) rfl (by kernel_rfl) (by kernel_rfl) (by kernel_rfl) (fun _ _ _ h => h) (Or.inl ⟨by rfl, ?_⟩) (by assumption) ?_
            rotate_left
            · intro w hSw
              go_split_ands
              go_simp
              try with_reducible rfl
            try simp only [Act.put, List.setIfInBounds_toArray, List.set_cons_zero, List.set_cons_succ]
            refine wpAnyH_take (i := 42) (oi := { dst := some 257, op := Op.move (Operand.tmp 15), type := 29, pos := "outright.go:230", after := #[{ on := 41, ground := Ground.guard }], guard := some (41, true) }) (v := undef) rfl (by kernel_rfl) (by kernel_rfl) (by kernel_rfl) (fun _ _ _ h => h) (Or.inr ⟨by rfl, rfl⟩) (by assumption) ?_
            try simp only [Act.put, List.setIfInBounds_toArray, List.set_cons_zero, List.set_cons_succ]
            refine wpAnyH_take (i := 43) (oi := { dst := some 258, op := Op.move (Operand.tmp 20), type := 3, pos := "outright.go:230", after := #[{ on := 41, ground := Ground.guard }], guard := some (41, true) }) (v := undef) rfl (by kernel_rfl) (by kernel_rfl) (by kernel_rfl) (fun _ _ _ h => h) (Or.inr ⟨by rfl, rfl⟩) (by assumption) ?_
            try simp only [Act.put, List.setIfInBounds_toArray, List.set_cons_zero, List.set_cons_succ]
            refine wpAnyH_take (i := 44) (oi := { dst := some 259, op := Op.indexAddr 29 (Operand.tmp 257) (Operand.tmp 258), type := 0, pos := "outright.go:230", after := #[{ on := 42, ground := Ground.data }, { on := 43, ground := Ground.data }, { on := 41, ground := Ground.guard }], guard := some (41, true) }) (v := undef) rfl (by kernel_rfl) (by kernel_rfl) (by kernel_rfl) (fun _ _ _ h => h) (Or.inr ⟨by rfl, rfl⟩) (by assumption) ?_
            try simp only [Act.put, List.setIfInBounds_toArray, List.set_cons_zero, List.set_cons_succ]
            refine wpAnyH_take (i := 45) (oi := { dst := some 260, op := Op.fieldAddr 73 (Operand.tmp 259) 0, type := 0, pos := "outright.go:230", after := #[{ on := 44, ground := Ground.data }, { on := 41, ground := Ground.guard }], guard := some (41, true) }) (v := undef) rfl (by kernel_rfl) (by kernel_rfl) (by kernel_rfl) (fun _ _ _ h => h) (Or.inr ⟨by rfl, rfl⟩) (by assumption) ?_
            try simp only [Act.put, List.setIfInBounds_toArray, List.set_cons_zero, List.set_cons_succ]
            refine wpAnyH_take (i := 46) (oi := { dst := some 261, op := Op.load 3 (Operand.tmp 260), type := 3, pos := "outright.go:230", after := #[{ on := 45, ground := Ground.data }, { on := 41, ground := Ground.guard }], guard := some (41, true) }) (v := undef) rfl (by kernel_rfl) (by kernel_rfl) (by kernel_rfl) (fun _ _ _ h => h) (Or.inr ⟨by rfl, rfl⟩) (by assumption) ?_
            try simp only [Act.put, List.setIfInBounds_toArray, List.set_cons_zero, List.set_cons_succ]
            refine wpAnyH_take (i := 47) (oi := { dst := some 262, op := Op.move (Operand.tmp 15), type := 29, pos := "outright.go:230", after := #[{ on := 41, ground := Ground.guard }], guard := some (41, true) }) (v := undef) rfl (by kernel_rfl) (by kernel_rfl) (by kernel_rfl) (fun _ _ _ h => h) (Or.inr ⟨by rfl, rfl⟩) (by assumption) ?_
            try simp only [Act.put, List.setIfInBounds_toArray, List.set_cons_zero, List.set_cons_succ]
            refine wpAnyH_take (i := 48) (oi := { dst := some 263, op := Op.move (Operand.tmp 20), type := 3, pos := "outright.go:230", after := #[{ on := 41, ground := Ground.guard }], guard := some (41, true) }) (v := undef) rfl (by kernel_rfl) (by kernel_rfl) (by kernel_rfl) (fun _ _ _ h => h) (Or.inr ⟨by rfl, rfl⟩) (by assumption) ?_
            try simp only [Act.put, List.setIfInBounds_toArray, List.set_cons_zero, List.set_cons_succ]
            refine wpAnyH_take (i := 49) (oi := { dst := some 264, op := Op.binOp BinOp.sub 3 (Operand.tmp 263) (Operand.const (Value.int IntKind.i64 1)) 3, type := 3, pos := "outright.go:230", after := #[{ on := 48, ground := Ground.data }, { on := 41, ground := Ground.guard }], guard := some (41, true) }) (v := undef) rfl (by kernel_rfl) (by kernel_rfl) (by kernel_rfl) (fun _ _ _ h => h) (Or.inr ⟨by rfl, rfl⟩) (by assumption) ?_
            try simp only [Act.put, List.setIfInBounds_toArray, List.set_cons_zero, List.set_cons_succ]
            refine wpAnyH_take (i := 50) (oi := { dst := some 265, op := Op.indexAddr 29 (Operand.tmp 262) (Operand.tmp 264), type := 0, pos := "outright.go:230", after := #[{ on := 47, ground := Ground.data }, { on := 49, ground := Ground.data }, { on := 41, ground := Ground.guard }], guard := some (41, true) }) (v := undef) rfl (by kernel_rfl) (by kernel_rfl) (by kernel_rfl) (fun _ _ _ h => h) (Or.inr ⟨by rfl, rfl⟩) (by assumption) ?_
            try simp only [Act.put, List.setIfInBounds_toArray, List.set_cons_zero, List.set_cons_succ]
            refine wpAnyH_take (i := 51) (oi := { dst := some 266, op := Op.fieldAddr 73 (Operand.tmp 265) 0, type := 0, pos := "outright.go:230", after := #[{ on := 50, ground := Ground.data }, { on := 41, ground := Ground.guard }], guard := some (41, true) }) (v := undef) rfl (by kernel_rfl) (by kernel_rfl) (by kernel_rfl) (fun _ _ _ h => h) (Or.inr ⟨by rfl, rfl⟩) (by assumption) ?_
            try simp only [Act.put, List.setIfInBounds_toArray, List.set_cons_zero, List.set_cons_succ]
            refine wpAnyH_take (i := 52) (oi := { dst := some 267, op := Op.load 3 (Operand.tmp 266), type := 3, pos := "outright.go:230", after := #[{ on := 51, ground := Ground.data }, { on := 41, ground := Ground.guard }], guard := some (41, true) }) (v := undef) rfl (by kernel_rfl) (by kernel_rfl) (by kernel_rfl) (fun _ _ _ h => h) (Or.inr ⟨by rfl, rfl⟩) (by assumption) ?_
            try simp only [Act.put, List.setIfInBounds_toArray, List.set_cons_zero, List.set_cons_succ]
            refine wpAnyH_take (i := 53) (oi := { dst := some 268, op := Op.binOp BinOp.leq 3 (Operand.tmp 261) (Operand.tmp 267) 3, type := 4, pos := "outright.go:230", after := #[{ on := 46, ground := Ground.data }, { on := 52, ground := Ground.data }, { on := 41, ground := Ground.guard }], guard := some (41, true) }) (v := undef) rfl (by kernel_rfl) (by kernel_rfl) (by kernel_rfl) (fun _ _ _ h => h) (Or.inr ⟨by rfl, rfl⟩) (by assumption) ?_
            try simp only [Act.put, List.setIfInBounds_toArray, List.set_cons_zero, List.set_cons_succ]
            refine wpAnyH_take (i := 54) (oi := { dst := some 269, op := Op.pick (Operand.tmp 256) (Operand.tmp 268) (Operand.const (Value.bool false)), type := 4, pos := "outright.go:230", after := #[{ on := 41, ground := Ground.data }, { on := 53, ground := Ground.data }, { on := 28, ground := Ground.guard }], guard := some (28, false) }) (v := ?_) rfl (by kernel_rfl) (by kernel_rfl) (by kernel_rfl) (fun _ _ _ h => h) (Or.inl ⟨by rfl, ?_⟩) (by assumption) ?_
            rotate_left
            · intro w hSw
              go_split_ands
              go_simp
              try with_reducible rfl
            try simp only [Act.put, List.setIfInBounds_toArray, List.set_cons_zero, List.set_cons_succ]
            refine wpAnyH_take (i := 55) (oi := { dst := some 270, op := Op.pick (Operand.tmp 243) (Operand.const (Value.bool true)) (Operand.tmp 269), type := 4, pos := "outright.go:230", after := #[{ on := 28, ground := Ground.data }, { on := 54, ground := Ground.data }, { on := 15, ground := Ground.guard }], guard := some (15, true) }) (v := ?_) rfl (by kernel_rfl) (by kernel_rfl) (by kernel_rfl) (fun _ _ _ h => h) (Or.inl ⟨by rfl, ?_⟩) (by assumption) ?_
            rotate_left
            · intro w hSw
              go_split_ands
              go_simp
              try with_reducible rfl
            try simp only [Act.put, List.setIfInBounds_toArray, List.set_cons_zero, List.set_cons_succ]
            refine wpAnyH_take (i := 56) (oi := { dst := some 271, op := Op.pick (Operand.tmp 230) (Operand.tmp 270) (Operand.const (Value.bool false)), type := 4, pos := "outright.go:230", after := #[{ on := 15, ground := Ground.data }, { on := 55, ground := Ground.data }, { on := 12, ground := Ground.guard }], guard := some (12, false) }) (v := ?_) rfl (by kernel_rfl) (by kernel_rfl) (by kernel_rfl) (fun _ _ _ h => h) (Or.inl ⟨by rfl, ?_⟩) (by assumption) ?_
            rotate_left
            · intro w hSw
              go_split_ands
              go_simp
              try with_reducible rfl
            try simp only [Act.put, List.setIfInBounds_toArray, List.set_cons_zero, List.set_cons_succ]
            refine wpAnyH_take (i := 57) (oi := { dst := some 272, op := Op.pick (Operand.tmp 227) (Operand.const (Value.bool true)) (Operand.tmp 271), type := 4, pos := "outright.go:230", after := #[{ on := 12, ground := Ground.data }, { on := 56, ground := Ground.data }], guard := none }) (v := ?_) rfl (by kernel_rfl) (by kernel_rfl) (by kernel_rfl) (fun _ _ _ h => h) (Or.inl ⟨by rfl, ?_⟩) (by assumption) ?_
            rotate_left
            · intro w hSw
              go_split_ands
              go_simp
              try with_reducible rfl
            try simp only [Act.put, List.setIfInBounds_toArray, List.set_cons_zero, List.set_cons_succ]
            refine wpAnyH_done (by kernel_rfl) ?_ _
            clear hn1
            go_wp2_with fail
            go_roundw
            case rel => exact ⟨n + 1, hlt, by go_num, HBr.out.trans (HC30.out.mono HBr.out.size)⟩
            case measure => simp [intOf]; omega
        case inr =>
          have hg1 : ¬ q.node ≤ zn := by omega
          have hg3 : decide (q.node ≤ zn) = false := decide_eq_false hg1
          clear hz
          as_aux_lemma =>
            go_upto_region 17 with (fail)
            try simp only [List.append_eq, List.cons_append, List.nil_append]
            refine wp_region_held_drew (S := (fun W => Below wr.heap.size wr W ∧ W.cell? ⟨bt, ot + n * 4, none⟩ = some (.int .i64 q.node) ∧ W.cell? ⟨bt, ot + n * 4 + 1, none⟩ = some (.int .i64 q.count) ∧ W.cell? ⟨bt, ot + n * 4 + 2, none⟩ = some (.int .i64 q.work) ∧ W.cell? ⟨bt, ot + n * 4 + 3, none⟩ = some (.int .i64 q.cycles) ∧ W.cell? ⟨bt, ot + (n - 1) * 4, none⟩ = some (.int .i64 zn) ∧ W.cell? ⟨bt, ot + (n - 1) * 4 + 2, none⟩ = some (.int .i64 q.work))) (by kernel_rfl) ?_ (fun hHeld => ?_)
            · exact HS.out _ (below_drew _)
            refine wpAnyH_take (i := 0) (oi := { dst := some 215, op := Op.move (Operand.tmp 7), type := 29, pos := "outright.go:230", after := #[], guard := none }) (v := ?_) rfl (by kernel_rfl) (by kernel_rfl) (by kernel_rfl) (fun _ _ _ h => h) (Or.inl ⟨by rfl, ?_⟩) (by assumption) ?_
            rotate_left
            · intro w hSw
              go_split_ands
              go_simp
              try with_reducible rfl
            try simp only [Act.put, List.setIfInBounds_toArray, List.set_cons_zero, List.set_cons_succ]
            refine wpAnyH_take (i := 1) (oi := { dst := some 216, op := Op.move (Operand.tmp 15), type := 29, pos := "outright.go:230", after := #[], guard := none }) (v := ?_) rfl (by kernel_rfl) (by kernel_rfl) (by kernel_rfl) (fun _ _ _ h => h) (Or.inl ⟨by rfl, ?_⟩) (by assumption) ?_
            rotate_left
            · intro w hSw
              go_split_ands
              go_simp
              try with_reducible rfl
            try simp only [Act.put, List.setIfInBounds_toArray, List.set_cons_zero, List.set_cons_succ]
            refine wpAnyH_take (i := 2) (oi := { dst := some 217, op := Op.move (Operand.tmp 20), type := 3, pos := "outright.go:230", after := #[], guard := none }) (v := ?_) rfl (by kernel_rfl) (by kernel_rfl) (by kernel_rfl) (fun _ _ _ h => h) (Or.inl ⟨by rfl, ?_⟩) (by assumption) ?_
            rotate_left
            · intro w hSw
              go_split_ands
              go_simp
              try with_reducible rfl
            try simp only [Act.put, List.setIfInBounds_toArray, List.set_cons_zero, List.set_cons_succ]
            refine wpAnyH_take (i := 3) (oi := { dst := some 218, op := Op.indexAddr 29 (Operand.tmp 216) (Operand.tmp 217), type := 0, pos := "outright.go:230", after := #[{ on := 1, ground := Ground.data }, { on := 2, ground := Ground.data }], guard := none }) (v := ?_) rfl (by kernel_rfl) (by kernel_rfl) (by kernel_rfl) (fun _ _ _ h => h) (Or.inl ⟨by rfl, ?_⟩) (by assumption) ?_
            rotate_left
            · intro w hSw
              go_split_ands
              go_simp
              try with_reducible rfl
            try simp only [Act.put, List.setIfInBounds_toArray, List.set_cons_zero, List.set_cons_succ]
            refine wpAnyH_take (i := 4) (oi := { dst := some 219, op := Op.fieldAddr 73 (Operand.tmp 218) 0, type := 0, pos := "outright.go:230", after := #[{ on := 3, ground := Ground.data }], guard := none }) (v := ?_) rfl (by kernel_rfl) (by kernel_rfl) (by kernel_rfl) (fun _ _ _ h => h) (Or.inl ⟨by rfl, ?_⟩) (by assumption) ?_
            rotate_left
            · intro w hSw
              go_split_ands
              go_simp
              try with_reducible rfl
            try simp only [Act.put, List.setIfInBounds_toArray, List.set_cons_zero, List.set_cons_succ]
            refine wpAnyH_take (i := 5) (oi := { dst := some 220, op := Op.load 3 (Operand.tmp 219), type := 3, pos := "outright.go:230", after := #[{ on := 4, ground := Ground.data }], guard := none }) (v := ?_) rfl (by kernel_rfl) (by kernel_rfl) (by kernel_rfl) (fun _ _ _ h => h) (Or.inl ⟨by rfl, ?_⟩) (by assumption) ?_
            rotate_left
            · intro w hSw
              go_split_ands
              go_simp
              try with_reducible rfl
            try simp only [Act.put, List.setIfInBounds_toArray, List.set_cons_zero, List.set_cons_succ]
            refine wpAnyH_take (i := 7) (oi := { dst := some 222, op := Op.move (Operand.tmp 15), type := 29, pos := "outright.go:230", after := #[], guard := none }) (v := ?_) rfl (by kernel_rfl) (by kernel_rfl) (by kernel_rfl) (fun _ _ _ h => h) (Or.inl ⟨by rfl, ?_⟩) (by assumption) ?_
            rotate_left
            · intro w hSw
              go_split_ands
              go_simp
              try with_reducible rfl
            try simp only [Act.put, List.setIfInBounds_toArray, List.set_cons_zero, List.set_cons_succ]
            refine wpAnyH_take (i := 8) (oi := { dst := some 223, op := Op.move (Operand.tmp 20), type := 3, pos := "outright.go:230", after := #[], guard := none }) (v := ?_) rfl (by kernel_rfl) (by kernel_rfl) (by kernel_rfl) (fun _ _ _ h => h) (Or.inl ⟨by rfl, ?_⟩) (by assumption) ?_
            rotate_left
            · intro w hSw
              go_split_ands
              go_simp
              try with_reducible rfl
            try simp only [Act.put, List.setIfInBounds_toArray, List.set_cons_zero, List.set_cons_succ]
            refine wpAnyH_take (i := 9) (oi := { dst := some 224, op := Op.indexAddr 29 (Operand.tmp 222) (Operand.tmp 223), type := 0, pos := "outright.go:230", after := #[{ on := 7, ground := Ground.data }, { on := 8, ground := Ground.data }], guard := none }) (v := ?_) rfl (by kernel_rfl) (by kernel_rfl) (by kernel_rfl) (fun _ _ _ h => h) (Or.inl ⟨by rfl, ?_⟩) (by assumption) ?_
            rotate_left
            · intro w hSw
              go_split_ands
              go_simp
              try with_reducible rfl
            try simp only [Act.put, List.setIfInBounds_toArray, List.set_cons_zero, List.set_cons_succ]
            refine wpAnyH_take (i := 10) (oi := { dst := some 225, op := Op.load 73 (Operand.tmp 224), type := 73, pos := "outright.go:230", after := #[{ on := 9, ground := Ground.data }], guard := none }) (v := ?_) rfl (by kernel_rfl) (by kernel_rfl) (by kernel_rfl) (fun _ _ _ h => h) (Or.inl ⟨by rfl, ?_⟩) (by assumption) ?_
            rotate_left
            · intro w hSw
              go_split_ands
              go_simp
              try with_reducible rfl
            try simp only [Act.put, List.setIfInBounds_toArray, List.set_cons_zero, List.set_cons_succ]
            refine wpAnyH_ready (rs := [6]) (by kernel_rfl) (by simp) ?_
            refine AllReadyH.cons (o := { dst := some 221, op := Op.call { callee := Callee.value (Operand.func 44), args := #[Operand.tmp 215, Operand.tmp 220], argTypes := #[29, 3] }, type := 73, pos := "outright.go:230", after := #[{ on := 0, ground := Ground.data }, { on := 5, ground := Ground.data }], guard := none }) rfl (fun K hK => ?_) AllReadyH.nil
            have HK := Lib.hid hK; clear hK
            go_simp
            refine (HOa.out _ (by go_split_ands; assumption)).mono ?_
            rintro e w30 ⟨rfl, hb30⟩
            have HC30 := Lib.hid hb30
            clear hb30
            go_wp2_with fail
            refine HK.out _ _ (HS.out _ HC30.out) (fun hHeld => ?_)
            clear HK K
            try simp only [Act.put, List.setIfInBounds_toArray, List.set_cons_zero, List.set_cons_succ]
            refine wpAnyH_take (i := 11) (oi := { dst := some 226, op := Op.binOp BinOp.neq 73 (Operand.tmp 221) (Operand.tmp 225) 73, type := 4, pos := "outright.go:230", after := #[{ on := 6, ground := Ground.data }, { on := 10, ground := Ground.data }], guard := none }) (v := ?_) rfl (by kernel_rfl) (by kernel_rfl) (by kernel_rfl) (fun _ _ _ h => h) (Or.inl ⟨by rfl, ?_⟩) (by assumption) ?_
            rotate_left
            · intro w hSw
              go_split_ands
              go_simp
              try with_reducible rfl
            try simp only [Act.put, List.setIfInBounds_toArray, List.set_cons_zero, List.set_cons_succ]
            refine wpAnyH_take (i := 12) (oi := { dst := some 227, op := Op.move (Operand.tmp 226), type := 4, pos := "outright.go:230", after := #[{ on := 11, ground := Ground.data }, { on := 6, ground := Ground.chain }], guard := none }) (v := ?_) rfl (by kernel_rfl) (by kernel_rfl) (by kernel_rfl) (fun _ _ _ h => h) (Or.inl ⟨by rfl, ?_⟩) (by assumption) ?_
            rotate_left
            · intro w hSw
              go_split_ands
              go_simp
              try with_reducible rfl
            try simp only [Act.put, List.setIfInBounds_toArray, List.set_cons_zero, List.set_cons_succ]
            refine wpAnyH_take (i := 13) (oi := { dst := some 228, op := Op.move (Operand.tmp 20), type := 3, pos := "outright.go:230", after := #[{ on := 12, ground := Ground.guard }], guard := some (12, false) }) (v := ?_) rfl (by kernel_rfl) (by kernel_rfl) (by kernel_rfl) (fun _ _ _ h => h) (Or.inl ⟨by rfl, ?_⟩) (by assumption) ?_
            rotate_left
            · intro w hSw
              go_split_ands
              go_simp
              try with_reducible rfl
            try simp only [Act.put, List.setIfInBounds_toArray, List.set_cons_zero, List.set_cons_succ]
            refine wpAnyH_take (i := 14) (oi := { dst := some 229, op := Op.binOp BinOp.gtr 3 (Operand.tmp 228) (Operand.const (Value.int IntKind.i64 0)) 3, type := 4, pos := "outright.go:230", after := #[{ on := 13, ground := Ground.data }, { on := 12, ground := Ground.guard }], guard := some (12, false) }) (v := ?_) rfl (by kernel_rfl) (by kernel_rfl) (by kernel_rfl) (fun _ _ _ h => h) (Or.inl ⟨by rfl, ?_⟩) (by assumption) ?_
            rotate_left
            · intro w hSw
              go_split_ands
              go_simp
              try with_reducible rfl
            try simp only [Act.put, List.setIfInBounds_toArray, List.set_cons_zero, List.set_cons_succ]
            refine wpAnyH_take (i := 15) (oi := { dst := some 230, op := Op.move (Operand.tmp 229), type := 4, pos := "outright.go:230", after := #[{ on := 14, ground := Ground.data }, { on := 12, ground := Ground.chain }, { on := 12, ground := Ground.guard }], guard := some (12, false) }) (v := ?_) rfl (by kernel_rfl) (by kernel_rfl) (by kernel_rfl) (fun _ _ _ h => h) (Or.inl ⟨by rfl, ?_⟩) (by assumption) ?_
            rotate_left
            · intro w hSw
              go_split_ands
              go_simp
              try with_reducible rfl
            try simp only [Act.put, List.setIfInBounds_toArray, List.set_cons_zero, List.set_cons_succ]
            refine wpAnyH_take (i := 16) (oi := { dst := some 231, op := Op.move (Operand.tmp 15), type := 29, pos := "outright.go:230", after := #[{ on := 15, ground := Ground.guard }], guard := some (15, true) }) (v := ?_) rfl (by kernel_rfl) (by kernel_rfl) (by kernel_rfl) (fun _ _ _ h => h) (Or.inl ⟨by rfl, ?_⟩) (by assumption) ?_
            rotate_left
            · intro w hSw
              go_split_ands
              go_simp
              try with_reducible rfl
            try simp only [Act.put, List.setIfInBounds_toArray, List.set_cons_zero, List.set_cons_succ]
            refine wpAnyH_take (i := 17) (oi := { dst := some 232, op := Op.move (Operand.tmp 20), type := 3, pos := "outright.go:230", after := #[{ on := 15, ground := Ground.guard }], guard := some (15, true) }) (v := ?_) rfl (by kernel_rfl) (by kernel_rfl) (by kernel_rfl) (fun _ _ _ h => h) (Or.inl ⟨by rfl, ?_⟩) (by assumption) ?_
            rotate_left
            · intro w hSw
              go_split_ands
              go_simp
              try with_reducible rfl
            try simp only [Act.put, List.setIfInBounds_toArray, List.set_cons_zero, List.set_cons_succ]
            refine wpAnyH_take (i := 18) (oi := { dst := some 233, op := Op.indexAddr 29 (Operand.tmp 231) (Operand.tmp 232), type := 0, pos := "outright.go:230", after := #[{ on := 16, ground := Ground.data }, { on := 17, ground := Ground.data }, { on := 15, ground := Ground.guard }], guard := some (15, true) }) (v := ?_) rfl (by kernel_rfl) (by kernel_rfl) (by kernel_rfl) (fun _ _ _ h => h) (Or.inl ⟨by rfl, ?_⟩) (by assumption) ?_
            rotate_left
            · intro w hSw
              go_split_ands
              go_simp
              try with_reducible rfl
            try simp only [Act.put, List.setIfInBounds_toArray, List.set_cons_zero, List.set_cons_succ]
            refine wpAnyH_take (i := 19) (oi := { dst := some 234, op := Op.fieldAddr 73 (Operand.tmp 233) 2, type := 0, pos := "outright.go:230", after := #[{ on := 18, ground := Ground.data }, { on := 15, ground := Ground.guard }], guard := some (15, true) }) (v := ?_) rfl (by kernel_rfl) (by kernel_rfl) (by kernel_rfl) (fun _ _ _ h => h) (Or.inl ⟨by rfl, ?_⟩) (by assumption) ?_
            rotate_left
            · intro w hSw
              go_split_ands
              go_simp
              try with_reducible rfl
            try simp only [Act.put, List.setIfInBounds_toArray, List.set_cons_zero, List.set_cons_succ]
            refine wpAnyH_take (i := 20) (oi := { dst := some 235, op := Op.load 3 (Operand.tmp 234), type := 3, pos := "outright.go:230", after := #[{ on := 19, ground := Ground.data }, { on := 15, ground := Ground.guard }], guard := some (15, true) }) (v := ?_) rfl (by kernel_rfl) (by kernel_rfl) (by kernel_rfl) (fun _ _ _ h => h) (Or.inl ⟨by rfl, ?_⟩) (by assumption) ?_
            rotate_left
            · intro w hSw
              go_split_ands
              go_simp
              try with_reducible rfl
            try simp only [Act.put, List.setIfInBounds_toArray, List.set_cons_zero, List.set_cons_succ]
            refine wpAnyH_take (i := 21) (oi := { dst := some 236, op := Op.move (Operand.tmp 15), type := 29, pos := "outright.go:230", after := #[{ on := 15, ground := Ground.guard }], guard := some (15, true) }) (v := ?_) rfl (by kernel_rfl) (by kernel_rfl) (by kernel_rfl) (fun _ _ _ h => h) (Or.inl ⟨by rfl, ?_⟩) (by assumption) ?_
            rotate_left
            · intro w hSw
              go_split_ands
              go_simp
              try with_reducible rfl
            try simp only [Act.put, List.setIfInBounds_toArray, List.set_cons_zero, List.set_cons_succ]
            refine wpAnyH_take (i := 22) (oi := { dst := some 237, op := Op.move (Operand.tmp 20), type := 3, pos := "outright.go:230", after := #[{ on := 15, ground := Ground.guard }], guard := some (15, true) }) (v := ?_) rfl (by kernel_rfl) (by kernel_rfl) (by kernel_rfl) (fun _ _ _ h => h) (Or.inl ⟨by rfl, ?_⟩) (by assumption) ?_
            rotate_left
            · intro w hSw
              go_split_ands
              go_simp
              try with_reducible rfl
            try simp only [Act.put, List.setIfInBounds_toArray, List.set_cons_zero, List.set_cons_succ]
            refine wpAnyH_take (i := 23) (oi := { dst := some 238, op := Op.binOp BinOp.sub 3 (Operand.tmp 237) (Operand.const (Value.int IntKind.i64 1)) 3, type := 3, pos := "outright.go:230", after := #[{ on := 22, ground := Ground.data }, { on := 15, ground := Ground.guard }], guard := some (15, true) }) (v := ?_) rfl (by kernel_rfl) (by kernel_rfl) (by kernel_rfl) (fun _ _ _ h => h) (Or.inl ⟨by rfl, ?_⟩) (by assumption) ?_
            rotate_left
            · intro w hSw
              go_split_ands
              go_simp
              try with_reducible rfl
            try simp only [Act.put, List.setIfInBounds_toArray, List.set_cons_zero, List.set_cons_succ]
            refine wpAnyH_take (i := 24) (oi := { dst := some 239, op := Op.indexAddr 29 (Operand.tmp 236) (Operand.tmp 238), type := 0, pos := "outright.go:230", after := #[{ on := 21, ground := Ground.data }, { on := 23, ground := Ground.data }, { on := 15, ground := Ground.guard }], guard := some (15, true) }) (v := ?_) rfl (by kernel_rfl) (by kernel_rfl) (by kernel_rfl) (fun _ _ _ h => h) (Or.inl ⟨by rfl, ?_⟩) (by assumption) ?_
            rotate_left
            · intro w hSw
              go_split_ands
              go_simp
              try with_reducible rfl
            try simp only [Act.put, List.setIfInBounds_toArray, List.set_cons_zero, List.set_cons_succ]
            refine wpAnyH_take (i := 25) (oi := { dst := some 240, op := Op.fieldAddr 73 (Operand.tmp 239) 2, type := 0, pos := "outright.go:230", after := #[{ on := 24, ground := Ground.data }, { on := 15, ground := Ground.guard }], guard := some (15, true) }) (v := ?_) rfl (by kernel_rfl) (by kernel_rfl) (by kernel_rfl) (fun _ _ _ h => h) (Or.inl ⟨by rfl, ?_⟩) (by assumption) ?_
            rotate_left
            · intro w hSw
              go_split_ands
              go_simp
              try with_reducible rfl
            try simp only [Act.put, List.setIfInBounds_toArray, List.set_cons_zero, List.set_cons_succ]
            refine wpAnyH_take (i := 26) (oi := { dst := some 241, op := Op.load 3 (Operand.tmp 240), type := 3, pos := "outright.go:230", after := #[{ on := 25, ground := Ground.data }, { on := 15, ground := Ground.guard }], guard := some (15, true) }) (v := ?_) rfl (by kernel_rfl) (by kernel_rfl) (by kernel_rfl) (fun _ _ _ h => h) (Or.inl ⟨by rfl, ?_⟩) (by assumption) ?_
            rotate_left
            · intro w hSw
              go_split_ands
              go_simp
              try with_reducible rfl
            try simp only [Act.put, List.setIfInBounds_toArray, List.set_cons_zero, List.set_cons_succ]
            refine wpAnyH_take (i := 27) (oi := { dst := some 242, op := Op.binOp BinOp.gtr 3 (Operand.tmp 235) (Operand.tmp 241) 3, type := 4, pos := "outright.go:230", after := #[{ on := 20, ground := Ground.data }, { on := 26, ground := Ground.data }, { on := 15, ground := Ground.guard }], guard := some (15, true) }) (v := ?_) rfl (by kernel_rfl) (by kernel_rfl) (by kernel_rfl) (fun _ _ _ h => h) (Or.inl ⟨by rfl, ?_⟩) (by assumption) ?_
            rotate_left
            · intro w hSw
              go_split_ands
              go_simp
              try with_reducible rfl
            try simp only [Act.put, List.setIfInBounds_toArray, List.set_cons_zero, List.set_cons_succ]
            refine wpAnyH_take (i := 28) (oi := { dst := some 243, op := Op.move (Operand.tmp 242), type := 4, pos := "outright.go:230", after := #[{ on := 27, ground := Ground.data }, { on := 15, ground := Ground.chain }, { on := 15, ground := Ground.guard }], guard := some (15, true) }) (v := ?_) rfl (by kernel_rfl) (by kernel_rfl) (by kernel_rfl) (fun _ _ _ h => h) (Or.inl ⟨by rfl, ?_⟩) (by assumption) ?_
            rotate_left
            · intro w hSw
              go_split_ands
              go_simp
              try with_reducible rfl
            try simp only [Act.put, List.setIfInBounds_toArray, List.set_cons_zero, List.set_cons_succ]
            refine wpAnyH_take (i := 29) (oi := { dst := some 244, op := Op.move (Operand.tmp 15), type := 29, pos := "outright.go:230", after := #[{ on := 28, ground := Ground.guard }], guard := some (28, false) }) (v := ?_) rfl (by kernel_rfl) (by kernel_rfl) (by kernel_rfl) (fun _ _ _ h => h) (Or.inl ⟨by rfl, ?_⟩) (by assumption) ?_
            rotate_left
            · intro w hSw
              go_split_ands
              go_simp
              try with_reducible rfl
            try simp only [Act.put, List.setIfInBounds_toArray, List.set_cons_zero, List.set_cons_succ]
            refine wpAnyH_take (i := 30) (oi := { dst := some 245, op := Op.move (Operand.tmp 20), type := 3, pos := "outright.go:230", after := #[{ on := 28, ground := Ground.guard }], guard := some (28, false) }) (v := ?_) rfl (by kernel_rfl) (by kernel_rfl) (by kernel_rfl) (fun _ _ _ h => h) (Or.inl ⟨by rfl, ?_⟩) (by assumption) ?_
            rotate_left
            · intro w hSw
              go_split_ands
              go_simp
              try with_reducible rfl
            try simp only [Act.put, List.setIfInBounds_toArray, List.set_cons_zero, List.set_cons_succ]
            refine wpAnyH_take (i := 31) (oi := { dst := some 246, op := Op.indexAddr 29 (Operand.tmp 244) (Operand.tmp 245), type := 0, pos := "outright.go:230", after := #[{ on := 29, ground := Ground.data }, { on := 30, ground := Ground.data }, { on := 28, ground := Ground.guard }], guard := some (28, false) }) (v := ?_) rfl (by kernel_rfl) (by kernel_rfl) (by kernel_rfl) (fun _ _ _ h => h) (Or.inl ⟨by rfl, ?_⟩) (by assumption) ?_
            rotate_left
            · intro w hSw
              go_split_ands
              go_simp
              try with_reducible rfl
            try simp only [Act.put, List.setIfInBounds_toArray, List.set_cons_zero, List.set_cons_succ]
            refine wpAnyH_take (i := 32) (oi := { dst := some 247, op := Op.fieldAddr 73 (Operand.tmp 246) 2, type := 0, pos := "outright.go:230", after := #[{ on := 31, ground := Ground.data }, { on := 28, ground := Ground.guard }], guard := some (28, false) }) (v := ?_) rfl (by kernel_rfl) (by kernel_rfl) (by kernel_rfl) (fun _ _ _ h => h) (Or.inl ⟨by rfl, ?_⟩) (by assumption) ?_
            rotate_left
            · intro w hSw
              go_split_ands
              go_simp
              try with_reducible rfl
            try simp only [Act.put, List.setIfInBounds_toArray, List.set_cons_zero, List.set_cons_succ]
            refine wpAnyH_take (i := 33) (oi := { dst := some 248, op := Op.load 3 (Operand.tmp 247), type := 3, pos := "outright.go:230", after := #[{ on := 32, ground := Ground.data }, { on := 28, ground := Ground.guard }], guard := some (28, false) }) (v := ?_) rfl (by kernel_rfl) (by kernel_rfl) (by kernel_rfl) (fun _ _ _ h => h) (Or.inl ⟨by rfl, ?_⟩) (by assumption) ?_
            rotate_left
            · intro w hSw
              go_split_ands
              go_simp
              try with_reducible rfl
            try simp only [Act.put, List.setIfInBounds_toArray, List.set_cons_zero, List.set_cons_succ]
            refine wpAnyH_take (i := 34) (oi := { dst := some 249, op := Op.move (Operand.tmp 15), type := 29, pos := "outright.go:230", after := #[{ on := 28, ground := Ground.guard }], guard := some (28, false) }) (v := ?_) rfl (by kernel_rfl) (by kernel_rfl) (by kernel_rfl) (fun _ _ _ h => h) (Or.inl ⟨by rfl, ?_⟩) (by assumption) ?_
            rotate_left
            · intro w hSw
              go_split_ands
              go_simp
              try with_reducible rfl
            try simp only [Act.put, List.setIfInBounds_toArray, List.set_cons_zero, List.set_cons_succ]
            refine wpAnyH_take (i := 35) (oi := { dst := some 250, op := Op.move (Operand.tmp 20), type := 3, pos := "outright.go:230", after := #[{ on := 28, ground := Ground.guard }], guard := some (28, false) }) (v := ?_) rfl (by kernel_rfl) (by kernel_rfl) (by kernel_rfl) (fun _ _ _ h => h) (Or.inl ⟨by rfl, ?_⟩) (by assumption) ?_
            rotate_left
            · intro w hSw
              go_split_ands
              go_simp
              try with_reducible rfl
            try simp only [Act.put, List.setIfInBounds_toArray, List.set_cons_zero, List.set_cons_succ]
            refine wpAnyH_take (i := 36) (oi := { dst := some 251, op := Op.binOp BinOp.sub 3 (Operand.tmp 250) (Operand.const (Value.int IntKind.i64 1)) 3, type := 3, pos := "outright.go:230", after := #[{ on := 35, ground := Ground.data }, { on := 28, ground := Ground.guard }], guard := some (28, false) }) (v := ?_) rfl (by kernel_rfl) (by kernel_rfl) (by kernel_rfl) (fun _ _ _ h => h) (Or.inl ⟨by rfl, ?_⟩) (by assumption) ?_
            rotate_left
            · intro w hSw
              go_split_ands
              go_simp
              try with_reducible rfl
            try simp only [Act.put, List.setIfInBounds_toArray, List.set_cons_zero, List.set_cons_succ]
            refine wpAnyH_take (i := 37) (oi := { dst := some 252, op := Op.indexAddr 29 (Operand.tmp 249) (Operand.tmp 251), type := 0, pos := "outright.go:230", after := #[{ on := 34, ground := Ground.data }, { on := 36, ground := Ground.data }, { on := 28, ground := Ground.guard }], guard := some (28, false) }) (v := ?_) rfl (by kernel_rfl) (by kernel_rfl) (by kernel_rfl) (fun _ _ _ h => h) (Or.inl ⟨by rfl, ?_⟩) (by assumption) ?_
            rotate_left
            · intro w hSw
              go_split_ands
              go_simp
              try with_reducible rfl
            try simp only [Act.put, List.setIfInBounds_toArray, List.set_cons_zero, List.set_cons_succ]
            refine wpAnyH_take (i := 38) (oi := { dst := some 253, op := Op.fieldAddr 73 (Operand.tmp 252) 2, type := 0, pos := "outright.go:230", after := #[{ on := 37, ground := Ground.data }, { on := 28, ground := Ground.guard }], guard := some (28, false) }) (v := ?_) rfl (by kernel_rfl) (by kernel_rfl) (by kernel_rfl) (fun _ _ _ h => h) (Or.inl ⟨by rfl, ?_⟩) (by assumption) ?_
            rotate_left
            · intro w hSw
              go_split_ands
              go_simp
              try with_reducible rfl
            try simp only [Act.put, List.setIfInBounds_toArray, List.set_cons_zero, List.set_cons_succ]
            refine wpAnyH_take (i := 39) (oi := { dst := some 254, op := Op.load 3 (Operand.tmp 253), type := 3, pos := "outright.go:230", after := #[{ on := 38, ground := Ground.data }, { on := 28, ground := Ground.guard }], guard := some (28, false) }) (v := ?_) rfl (by kernel_rfl) (by kernel_rfl) (by kernel_rfl) (fun _ _ _ h => h) (Or.inl ⟨by rfl, ?_⟩) (by assumption) ?_
            rotate_left
            · intro w hSw
              go_split_ands
              go_simp
              try with_reducible rfl
            try simp only [Act.put, List.setIfInBounds_toArray, List.set_cons_zero, List.set_cons_succ]
            refine wpAnyH_take (i := 40) (oi := { dst := some 255, op := Op.binOp BinOp.eql 3 (Operand.tmp 248) (Operand.tmp 254) 3, type := 4, pos := "outright.go:230", after := #[{ on := 33, ground := Ground.data }, { on := 39, ground := Ground.data }, { on := 28, ground := Ground.guard }], guard := some (28, false) }) (v := ?_) rfl (by kernel_rfl) (by kernel_rfl) (by kernel_rfl) (fun _ _ _ h => h) (Or.inl ⟨by rfl, ?_⟩) (by assumption) ?_
            rotate_left
            · intro w hSw
              go_split_ands
              go_simp
              try with_reducible rfl
            try simp only [Act.put, List.setIfInBounds_toArray, List.set_cons_zero, List.set_cons_succ]
            refine wpAnyH_take (i := 41) (oi := { dst := some 256, op := Op.move (Operand.tmp 255), type := 4, pos := "outright.go:230", after := #[{ on := 40, ground := Ground.data }, { on := 28, ground := Ground.chain }, { on := 28, ground := Ground.guard }], guard := some (28, false) }) (v := ?_) rfl (by kernel_rfl) (by kernel_rfl) (by kernel_rfl) (fun _ _ _ h => h) (Or.inl ⟨by rfl, ?_⟩) (by assumption) ?_
            rotate_left
            · intro w hSw
              go_split_ands
              go_simp
              try with_reducible rfl
            try simp only [Act.put, List.setIfInBounds_toArray, List.set_cons_zero, List.set_cons_succ]
            refine wpAnyH_take (i := 42) (oi := { dst := some 257, op := Op.move (Operand.tmp 15), type := 29, pos := "outright.go:230", after := #[{ on := 41, ground := Ground.guard }], guard := some (41, true) }) (v := ?_) rfl (by kernel_rfl) (by kernel_rfl) (by kernel_rfl) (fun _ _ _ h => h) (Or.inl ⟨by rfl, ?_⟩) (by assumption) ?_
            rotate_left
            · intro w hSw
              go_split_ands
              go_simp
              try with_reducible rfl
            try simp only [Act.put, List.setIfInBounds_toArray, List.set_cons_zero, List.set_cons_succ]
            refine wpAnyH_take (i := 43) (oi := { dst := some 258, op := Op.move (Operand.tmp 20), type := 3, pos := "outright.go:230", after := #[{ on := 41, ground := Ground.guard }], guard := some (41, true) }) (v := ?_) rfl (by kernel_rfl) (by kernel_rfl) (by kernel_rfl) (fun _ _ _ h => h) (Or.inl ⟨by rfl, ?_⟩) (by assumption) ?_
            rotate_left
            · intro w hSw
              go_split_ands
              go_simp
              try with_reducible rfl
            try simp only [Act.put, List.setIfInBounds_toArray, List.set_cons_zero, List.set_cons_succ]
            refine wpAnyH_take (i := 44) (oi := { dst := some 259, op := Op.indexAddr 29 (Operand.tmp 257) (Operand.tmp 258), type := 0, pos := "outright.go:230", after := #[{ on := 42, ground := Ground.data }, { on := 43, ground := Ground.data }, { on := 41, ground := Ground.guard }], guard := some (41, true) }) (v := ?_) rfl (by kernel_rfl) (by kernel_rfl) (by kernel_rfl) (fun _ _ _ h => h) (Or.inl ⟨by rfl, ?_⟩) (by assumption) ?_
            rotate_left
            · intro w hSw
              go_split_ands
              go_simp
              try with_reducible rfl
            try simp only [Act.put, List.setIfInBounds_toArray, List.set_cons_zero, List.set_cons_succ]
            refine wpAnyH_take (i := 45) (oi := { dst := some 260, op := Op.fieldAddr 73 (Operand.tmp 259) 0, type := 0, pos := "outright.go:230", after := #[{ on := 44, ground := Ground.data }, { on := 41, ground := Ground.guard }], guard := some (41, true) }) (v := ?_) rfl (by kernel_rfl) (by kernel_rfl) (by kernel_rfl) (fun _ _ _ h => h) (Or.inl ⟨by rfl, ?_⟩) (by assumption) ?_
            rotate_left
            · intro w hSw
              go_split_ands
              go_simp
              try with_reducible rfl
            try simp only [Act.put, List.setIfInBounds_toArray, List.set_cons_zero, List.set_cons_succ]
            refine wpAnyH_take (i := 46) (oi := { dst := some 261, op := Op.load 3 (Operand.tmp 260), type := 3, pos := "outright.go:230", after := #[{ on := 45, ground := Ground.data }, { on := 41, ground := Ground.guard }], guard := some (41, true) }) (v := ?_) rfl (by kernel_rfl) (by kernel_rfl) (by kernel_rfl) (fun _ _ _ h => h) (Or.inl ⟨by rfl, ?_⟩) (by assumption) ?_
            rotate_left
            · intro w hSw
              go_split_ands
              go_simp
              try with_reducible rfl
            try simp only [Act.put, List.setIfInBounds_toArray, List.set_cons_zero, List.set_cons_succ]
            refine wpAnyH_take (i := 47) (oi := { dst := some 262, op := Op.move (Operand.tmp 15), type := 29, pos := "outright.go:230", after := #[{ on := 41, ground := Ground.guard }], guard := some (41, true) }) (v := ?_) rfl (by kernel_rfl) (by kernel_rfl) (by kernel_rfl) (fun _ _ _ h => h) (Or.inl ⟨by rfl, ?_⟩) (by assumption) ?_
            rotate_left
            · intro w hSw
              go_split_ands
              go_simp
              try with_reducible rfl
            try simp only [Act.put, List.setIfInBounds_toArray, List.set_cons_zero, List.set_cons_succ]
            refine wpAnyH_take (i := 48) (oi := { dst := some 263, op := Op.move (Operand.tmp 20), type := 3, pos := "outright.go:230", after := #[{ on := 41, ground := Ground.guard }], guard := some (41, true) }) (v := ?_) rfl (by kernel_rfl) (by kernel_rfl) (by kernel_rfl) (fun _ _ _ h => h) (Or.inl ⟨by rfl, ?_⟩) (by assumption) ?_
            rotate_left
            · intro w hSw
              go_split_ands
              go_simp
              try with_reducible rfl
            try simp only [Act.put, List.setIfInBounds_toArray, List.set_cons_zero, List.set_cons_succ]
            refine wpAnyH_take (i := 49) (oi := { dst := some 264, op := Op.binOp BinOp.sub 3 (Operand.tmp 263) (Operand.const (Value.int IntKind.i64 1)) 3, type := 3, pos := "outright.go:230", after := #[{ on := 48, ground := Ground.data }, { on := 41, ground := Ground.guard }], guard := some (41, true) }) (v := ?_) rfl (by kernel_rfl) (by kernel_rfl) (by kernel_rfl) (fun _ _ _ h => h) (Or.inl ⟨by rfl, ?_⟩) (by assumption) ?_
            rotate_left
            · intro w hSw
              go_split_ands
              go_simp
              try with_reducible rfl
            try simp only [Act.put, List.setIfInBounds_toArray, List.set_cons_zero, List.set_cons_succ]
            refine wpAnyH_take (i := 50) (oi := { dst := some 265, op := Op.indexAddr 29 (Operand.tmp 262) (Operand.tmp 264), type := 0, pos := "outright.go:230", after := #[{ on := 47, ground := Ground.data }, { on := 49, ground := Ground.data }, { on := 41, ground := Ground.guard }], guard := some (41, true) }) (v := ?_) rfl (by kernel_rfl) (by kernel_rfl) (by kernel_rfl) (fun _ _ _ h => h) (Or.inl ⟨by rfl, ?_⟩) (by assumption) ?_
            rotate_left
            · intro w hSw
              go_split_ands
              go_simp
              try with_reducible rfl
            try simp only [Act.put, List.setIfInBounds_toArray, List.set_cons_zero, List.set_cons_succ]
            refine wpAnyH_take (i := 51) (oi := { dst := some 266, op := Op.fieldAddr 73 (Operand.tmp 265) 0, type := 0, pos := "outright.go:230", after := #[{ on := 50, ground := Ground.data }, { on := 41, ground := Ground.guard }], guard := some (41, true) }) (v := ?_) rfl (by kernel_rfl) (by kernel_rfl) (by kernel_rfl) (fun _ _ _ h => h) (Or.inl ⟨by rfl, ?_⟩) (by assumption) ?_
            rotate_left
            · intro w hSw
              go_split_ands
              go_simp
              try with_reducible rfl
            try simp only [Act.put, List.setIfInBounds_toArray, List.set_cons_zero, List.set_cons_succ]
            refine wpAnyH_take (i := 52) (oi := { dst := some 267, op := Op.load 3 (Operand.tmp 266), type := 3, pos := "outright.go:230", after := #[{ on := 51, ground := Ground.data }, { on := 41, ground := Ground.guard }], guard := some (41, true) }) (v := ?_) rfl (by kernel_rfl) (by kernel_rfl) (by kernel_rfl) (fun _ _ _ h => h) (Or.inl ⟨by rfl, ?_⟩) (by assumption) ?_
            rotate_left
            · intro w hSw
              go_split_ands
              go_simp
              try with_reducible rfl
            try simp only [Act.put, List.setIfInBounds_toArray, List.set_cons_zero, List.set_cons_succ]
            refine wpAnyH_take (i := 53) (oi := { dst := some 268, op := Op.binOp BinOp.leq 3 (Operand.tmp 261) (Operand.tmp 267) 3, type := 4, pos := "outright.go:230", after := #[{ on := 46, ground := Ground.data }, { on := 52, ground := Ground.data }, { on := 41, ground := Ground.guard }], guard := some (41, true) }) (v := ?_) rfl (by kernel_rfl) (by kernel_rfl) (by kernel_rfl) (fun _ _ _ h => h) (Or.inl ⟨by rfl, ?_⟩) (by assumption) ?_
            rotate_left
            · intro w hSw
              go_split_ands
              go_simp
              try with_reducible rfl
            try simp only [Act.put, List.setIfInBounds_toArray, List.set_cons_zero, List.set_cons_succ]
            refine wpAnyH_take (i := 54) (oi := { dst := some 269, op := Op.pick (Operand.tmp 256) (Operand.tmp 268) (Operand.const (Value.bool false)), type := 4, pos := "outright.go:230", after := #[{ on := 41, ground := Ground.data }, { on := 53, ground := Ground.data }, { on := 28, ground := Ground.guard }], guard := some (28, false) }) (v := ?_) rfl (by kernel_rfl) (by kernel_rfl) (by kernel_rfl) (fun _ _ _ h => h) (Or.inl ⟨by rfl, ?_⟩) (by assumption) ?_
            rotate_left
            · intro w hSw
              go_split_ands
              go_simp
              try with_reducible rfl
            try simp only [Act.put, List.setIfInBounds_toArray, List.set_cons_zero, List.set_cons_succ]
            refine wpAnyH_take (i := 55) (oi := { dst := some 270, op := Op.pick (Operand.tmp 243) (Operand.const (Value.bool true)) (Operand.tmp 269), type := 4, pos := "outright.go:230", after := #[{ on := 28, ground := Ground.data }, { on := 54, ground := Ground.data }, { on := 15, ground := Ground.guard }], guard := some (15, true) }) (v := ?_) rfl (by kernel_rfl) (by kernel_rfl) (by kernel_rfl) (fun _ _ _ h => h) (Or.inl ⟨by rfl, ?_⟩) (by assumption) ?_
            rotate_left
            · intro w hSw
              go_split_ands
              go_simp
              try with_reducible rfl
            try simp only [Act.put, List.setIfInBounds_toArray, List.set_cons_zero, List.set_cons_succ]
            refine wpAnyH_take (i := 56) (oi := { dst := some 271, op := Op.pick (Operand.tmp 230) (Operand.tmp 270) (Operand.const (Value.bool false)), type := 4, pos := "outright.go:230", after := #[{ on := 15, ground := Ground.data }, { on := 55, ground := Ground.data }, { on := 12, ground := Ground.guard }], guard := some (12, false) }) (v := ?_) rfl (by kernel_rfl) (by kernel_rfl) (by kernel_rfl) (fun _ _ _ h => h) (Or.inl ⟨by rfl, ?_⟩) (by assumption) ?_
            rotate_left
            · intro w hSw
              go_split_ands
              go_simp
              try with_reducible rfl
            try simp only [Act.put, List.setIfInBounds_toArray, List.set_cons_zero, List.set_cons_succ]
            refine wpAnyH_take (i := 57) (oi := { dst := some 272, op := Op.pick (Operand.tmp 227) (Operand.const (Value.bool true)) (Operand.tmp 271), type := 4, pos := "outright.go:230", after := #[{ on := 12, ground := Ground.data }, { on := 56, ground := Ground.data }], guard := none }) (v := ?_) rfl (by kernel_rfl) (by kernel_rfl) (by kernel_rfl) (fun _ _ _ h => h) (Or.inl ⟨by rfl, ?_⟩) (by assumption) ?_
            rotate_left
            · intro w hSw
              go_split_ands
              go_simp
              try with_reducible rfl
            try simp only [Act.put, List.setIfInBounds_toArray, List.set_cons_zero, List.set_cons_succ]
            refine wpAnyH_done (by kernel_rfl) ?_ _
            clear hn1
            go_wp2_with fail
            go_roundw
            case rel => exact ⟨n + 1, hlt, by go_num, HBr.out.trans (HC30.out.mono HBr.out.size)⟩
            case measure => simp [intOf]; omega
    case neg =>
      have HB12 := Lib.hid (HB11.out.trans (HBr.out.mono HB11.out.size))
      replace HL := Lib.hid (NodesL.below HL.out hbr)
      replace HM := Lib.hid (NodesL.below HM.out hbr)
      have hnl : ¬ (n : Int) < (l.length : Int) := by omega
      clear hbr hn HT HBr HB11
      go_wp2_with fail
      clear hnl
      generalize wr = w12 at *
      go_loopw [21, 22] (fun c i W => ∃ j : Nat, j ≤ 202 ∧ i = .int .i64 ((j : Int) - 2) ∧ c = .int .i64 ((((nodeRange.take j).filter fun n => decide (ofN l n ≠ ofN m n)).length : Nat) : Int) ∧ Below w12.heap.size w12 W) (fun _ i _ => 202 - (intOf i + 2).toNat)
      case atStart => exact ⟨0, by omega, rfl, rfl, Below.refl _ _⟩
      case round =>
      obtain ⟨j, hj, rfl, rfl, hbr⟩ := hrel
      have HBr := Lib.hid hbr
      by_cases hlt : j < 202
      case neg =>
        obtain rfl : j = 202 := by omega
        have hmany : ((nodeRange.take 202).filter fun n => decide (ofN l n ≠ ofN m n)).length = x.length := by
          rw [List.take_of_length_le (by simp [nodeRange])]
          exact diff_many HDx.out (fun z hz => (HLb.out z hz).1) (fun z hz => (HMb.out z hz).1)
        rw [hmany]
        have HB13 := Lib.hid (HB12.out.trans (HBr.out.mono HB12.out.size))
        clear hmany hbr
        go_wp2_with fail
        refine (law_profiled _ (HG.out.below HB13.out)).mono ?_
        rintro e w14 ⟨rfl, hb14⟩
        have HB14 := Lib.hid (HB13.out.trans (hb14.mono HB13.out.size))
        clear hb14
        go_wp2_with fail
        go_ret
        exact ⟨rfl, HB14.out⟩
      case pos =>
        have hlt' : (j : Int) - 2 < 200 := by omega
        have HOa := Lib.hid (fun W (h : Below wr.heap.size wr W) => law_of l ((j : Int) - 2) _ W ((HL.out.below hbr).below h))
        have HOb := Lib.hid (fun W (h : Below wr.heap.size wr W) => law_of m ((j : Int) - 2) _ W ((HM.out.below hbr).below h))
        have hstep : ((nodeRange.take (j + 1)).filter fun n => decide (ofN l n ≠ ofN m n)).length = ((nodeRange.take j).filter fun n => decide (ofN l n ≠ ofN m n)).length + (if ofN l ((j : Int) - 2) ≠ ofN m ((j : Int) - 2) then 1 else 0) := by
          have hj2 : j < nodeRange.length := by simp [nodeRange]; exact hlt
          have hg : nodeRange[j] = (j : Int) - 2 := by simp [nodeRange]
          rw [List.take_succ_eq_append_getElem hj2, List.filter_append, List.length_append, hg]
          by_cases h : ofN l ((j : Int) - 2) ≠ ofN m ((j : Int) - 2) <;> simp [h]
        have hbnd : ((nodeRange.take j).filter fun n => decide (ofN l n ≠ ofN m n)).length ≤ 202 := by
          refine Nat.le_trans (List.length_filter_le _ _) ?_
          rw [List.length_take]; omega
        have HSt := Lib.hid hstep
        generalize ((nodeRange.take j).filter fun n => decide (ofN l n ≠ ofN m n)).length = cnt at *
        generalize ofN l ((j : Int) - 2) = a at *
        generalize ofN m ((j : Int) - 2) = b at *
        have hne := neq_node a b
        simp only [nodeCells] at HOa HOb hne
        clear hstep hbr
        by_cases hab : a = b
        case pos =>
          subst hab
          rw [if_neg (by simp)] at HSt
          have hne2 : ∀ W, (binOp .neq 73 (.agg #[.int .i64 a.node, .int .i64 a.count, .int .i64 a.work, .int .i64 a.cycles]) (.agg #[.int .i64 a.node, .int .i64 a.count, .int .i64 a.work, .int .i64 a.cycles])).run Tryz.prog W = .ok (.bool false) W := fun W => by have := hne W; rw [decide_eq_true rfl] at this; exact this
          clear hne
          go_wp2_with fail
          refine (HOa.out _ (by first | exact Below.refl _ _ | exact below_drew _)).mono ?_
          rintro e w40 ⟨rfl, hb40⟩
          have HB40 := Lib.hid hb40
          have HOb2 := HOb.out w40 hb40
          clear hb40
          go_wp2_with fail
          refine HOb2.mono ?_
          rintro e w41 ⟨rfl, hb41⟩
          have HB41 := Lib.hid (HBr.out.trans ((HB40.out.trans (hb41.mono HB40.out.size)).mono HBr.out.size))
          clear hb41
          go_wp2_with fail
          go_roundw
          case rel => exact ⟨j + 1, hlt, by congr 1; omega, by rw [HSt.out]; rfl, HB41.out⟩
          case measure => simp [intOf]; omega
        case neg =>
          rw [if_pos hab] at HSt
          have hne2 : ∀ W, (binOp .neq 73 (.agg #[.int .i64 a.node, .int .i64 a.count, .int .i64 a.work, .int .i64 a.cycles]) (.agg #[.int .i64 b.node, .int .i64 b.count, .int .i64 b.work, .int .i64 b.cycles])).run Tryz.prog W = .ok (.bool true) W := fun W => by have := hne W; rw [decide_eq_false hab] at this; exact this
          clear hne hab
          go_wp2_with fail
          refine (HOa.out _ (by first | exact Below.refl _ _ | exact below_drew _)).mono ?_
          rintro e w40 ⟨rfl, hb40⟩
          have HB40 := Lib.hid hb40
          have HOb2 := HOb.out w40 hb40
          clear hb40
          go_wp2_with fail
          refine HOb2.mono ?_
          rintro e w41 ⟨rfl, hb41⟩
          have HB41 := Lib.hid (HBr.out.trans ((HB40.out.trans (hb41.mono HB40.out.size)).mono HBr.out.size))
          clear hb41
          go_wp2_with fail
          go_roundw
          case rel => exact ⟨j + 1, hlt, by congr 1; omega, by rw [HSt.out]; congr 1, HB41.out⟩
          case measure => simp [intOf]; omega
end Go.Proofs.YtdkcjeaabbkdeaaGreatDoor
