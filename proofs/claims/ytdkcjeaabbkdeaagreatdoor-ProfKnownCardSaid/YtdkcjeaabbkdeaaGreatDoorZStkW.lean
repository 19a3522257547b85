/- Package prof: Stacks. -/
import Derived.Test.YtdkcjeaabbkdeaaGreatDoorZFunsW
import Derived.Test.YtdkcjeaabbkdeaaGreatDoorZOwnS
import Derived.Deep.CutRange
set_option linter.unusedVariables false
set_option linter.unusedSimpArgs false
set_option linter.unnecessarySimpa false
set_option linter.unusedSectionVars false
namespace Go.Proofs.YtdkcjeaabbkdeaaGreatDoor
open Go.RowKit Go.Sort Go.Shelf Go.Maps
set_option linter.unusedVariables false
set_option linter.unusedSimpArgs false
attribute [local go_sem] Oper.semAt_some

def NGlob (w : World) : Prop := w.cell? ⟨0, 0, none⟩ = some (.string ⟨#[]⟩)
def StacksPost (p : Pr) (r : List Step × Int) (w : World) (e : Ending) (w' : World) : Prop := RowKit.Below w.heap.size w w' ∧ ∃ v err, e = .returned (.tuple #[v, .int .i64 err]) ∧
  if r.2 ≠ 0 then err = r.2 ∧ v = .slice none 0 0 else
    err = 0 ∧ ∃ d, StksIs r.1 d ∧ StksL w' v d
theorem infoStk : (Tryz.prog.info? 65).map (fun i => (i.zero, i.size, i.bytes)) = some (some (.agg #[.slice none 0 0, .int .i64 0]), 2, 32) := by kernel_rfl
theorem zero3 (u : World) : (zeroValue 3).run Tryz.prog u = .ok (.int .i64 0) u := by kernel_rfl

set_option maxRecDepth 100000 in
set_option maxHeartbeats 2000000 in
theorem prof_stacks (p : Pr) (sem : Ins → List (List Int) → List (List Int) × Int) (cp : List Value) (args : List (List Int)) (va : Value) (left : Int) (w : World) (hp : RPr w cp p) (hs : Sane p) (hd : ∀ f ∈ p.funs, ∀ x ∈ f.code, x.op ≠ 16 → Does sem x) (hg : Glob w) (ha : Lists w va args) (htab : Tab w) (hng : NGlob w)
    (hok : ∀ s ∈ (traceF sem p args left).1, StepIn p s) (hlen : (traceF sem p args left).1.length ≤ 1000000) (hfl : p.funs.length ≤ 1000) (hsome : (traceF sem p args left).2 = 0 → (traceF sem p args left).1 ≠ []) :
    Calls Tryz.prog 17 #[.agg cp.toArray, va, .int .i64 left] w (StacksPost p (traceF sem p args left) w) := by
  have HT := Lib.hid (fun W (hb : RowKit.Below w.heap.size w W) => vec_trace p sem cp args va left W (stays_pr _ _ _ _ (reads_below hb) hp) hs hd (hg.below hb) (ha.below hb))
  have HP := Lib.hid hp
  have HOK := Lib.hid hok
  have HTab := Lib.hid htab
  have HNg := Lib.hid hng
  generalize hr : traceF sem p args left = r at *
  clear hr
  obtain ⟨r1, r2⟩ := r
  obtain ⟨vfs, rfl, hfs⟩ := hp
  obtain ⟨S, sc, rfl, hsm, -⟩ := hfs.form
  obtain ⟨A, ac, rfl, ham⟩ := ha.form
  have HFs := Lib.hid hfs
  have hlen' : r1.length ≤ 1000000 := hlen
  have hsome' : Hid (r2 = 0 → r1 ≠ []) := hsome
  have HIn := Lib.hid (stkAt_in p r1 HOK.out)
  clear hs hd hg ha hfs hok hlen htab hng hsome
  have hb1 := below1 w (.cells #[.slice S p.funs.length sc, .int .i64 p.main] 25)
  have HB1 := Lib.hid hb1
  have HT1 := Lib.hid (HT.out _ hb1)
  clear hb1
  refine calls_of_wpV Tryz.func17 rfl ?_
  simp only [Tryz.ntmps17, List.size_toArray, List.length_cons, List.length_nil, Nat.reduceAdd, Nat.reduceSub, Array.replicate_succ, Array.replicate_zero, List.push_toArray, List.append_toArray, List.nil_append, List.cons_append]
  refine wpV_seq (wpV_of_wp ?_)
  go_wp2
  refine wpV_seq (wpV_of_wp ?_)
  go_wp2_with fail
  refine HT1.out.mono ?_
  rintro e w1 ⟨hb1, vt, rfl, hst⟩
  have HB1' := Lib.hid (RowKit.Below.trans HB1.out (hb1.mono HB1.out.size))
  have HSt := Lib.hid hst
  obtain ⟨T, tc, rfl, htm⟩ := hst.form
  clear hb1 hst
  by_cases hr2 : r2 = 0
  case neg =>
    go_wp2_with fail
    refine wpV_seq (wpV_of_wp ?_)
    go_wp2_with fail
    refine leaveM_nil (results_tmp2 rfl _ _ _) ?_
    refine ⟨HB1'.out, _, r2, rfl, ?_⟩
    rw [if_pos hr2]
    exact ⟨rfl, rfl⟩
  subst hr2
  go_wp2_with fail
  refine wpV_seq (wpV_of_wp ?_)
  go_wp2_with fail
  have hmm := @run_makeMap Tryz.prog
  refine wpV_seq (wpV_of_wp ?_)
  go_wp2_with fail
  refine wpV_seq (wpV_seq (wpV_of_wp ?_))
  go_wp2_with fail
  refine (prof_steps _ _ _ _).mono ?_
  rintro e w4 ⟨rfl, rfl⟩
  go_wp2_with fail
  refine wpV_block ?_
  clear hmm
  have h0 : StkAt w1 w1.heap.size (w1.heap.size + 1) (w1.heap.size + 1 + 1) (w1.heap.size + 1 + 1 + 1) (w1.heap.size + 1 + 1 + 1 + 1) T r1.length tc (w1.heap.size + 5) 0 (sumK r1 0) (fun _ => none) (.slice none 0 0) (stkAt r1 0)
      (((((w1.alloc (.map #[] 0)).alloc (.map #[] 0)).alloc (.cells #[.map (some w1.heap.size)] 103)).alloc (.cells #[.map (some (w1.heap.size + 1))] 104)).alloc (.cells #[.slice T r1.length tc] 53)) := by
    have h1 := alloc_new ((w1.alloc (.map #[] 0)).alloc (.map #[] 0)) (.cells #[.map (some w1.heap.size)] 103)
    have h2 := alloc_new (((w1.alloc (.map #[] 0)).alloc (.map #[] 0)).alloc (.cells #[.map (some w1.heap.size)] 103)) (.cells #[.map (some (w1.heap.size + 1))] 104)
    have h3 := alloc_new ((((w1.alloc (.map #[] 0)).alloc (.map #[] 0)).alloc (.cells #[.map (some w1.heap.size)] 103)).alloc (.cells #[.map (some (w1.heap.size + 1))] 104)) (.cells #[.slice T r1.length tc] 53)
    simp only [World.size_alloc] at h1 h2 h3
    have hm1 := (mapF_made (mkK := keyL) (mkV := intV) w1 Tryz.prog 106).below (below4 _ (.map #[] 0) (.cells #[.map (some w1.heap.size)] 103) (.cells #[.map (some (w1.heap.size + 1))] 104) (.cells #[.slice T r1.length tc] 53))
    have hm2 := (mapF_made (mkK := keyL) (mkV := rowV) (w1.alloc (.map #[] 0)) Tryz.prog 106).below (below3 _ (.cells #[.map (some w1.heap.size)] 103) (.cells #[.map (some (w1.heap.size + 1))] 104) (.cells #[.slice T r1.length tc] 53))
    simp only [World.size_alloc] at hm2
    exact ⟨below_step (below1 _ _) (below4 _ _ _ _ _), by omega, by omega, by omega, by simp only [World.size_alloc]; omega, heap_alloc (heap_alloc h1 _) _, heap_alloc h2 _, h3, hm1, hm2, fun key g l h => (by cases h), World.ownsRow_nil _ _ _ _⟩
  have hs4 : (((((w1.alloc (.map #[] 0)).alloc (.map #[] 0)).alloc (.cells #[.map (some w1.heap.size)] 103)).alloc (.cells #[.map (some (w1.heap.size + 1))] 104)).alloc (.cells #[.slice T r1.length tc] 53)).heap.size = w1.heap.size + 5 := by simp only [World.size_alloc]
  have HF4 := Lib.hid h0
  clear h0
  try simp only [World.size_alloc]
  generalize ((((w1.alloc (.map #[] 0)).alloc (.map #[] 0)).alloc (.cells #[.map (some w1.heap.size)] 103)).alloc (.cells #[.map (some (w1.heap.size + 1))] 104)).alloc (.cells #[.slice T r1.length tc] 53) = w4 at *
  have HBle := Lib.hid HB1'.out.size
  generalize hR : w1.heap.size = R at *
  refine rngZ (gf := 101) (lb := #[.pointer (some ⟨R + 1 + 1 + 1 + 1, 0, none⟩)]) (by simp [Act.eval]) enters101 ⟨_, Tryz.func17⟩ r1.length (fun i v => stepArg r1 i v) (fun i v => rfl) (.slice none 0 0)
    (fun k v W => ∃ G, (∀ key, (G key).map Prod.snd = firK r1 k key) ∧ StkAt w1 R (R + 1) (R + 1 + 1) (R + 1 + 1 + 1) (R + 1 + 1 + 1 + 1) T r1.length tc (R + 5) (2 * k) (sumK r1 k) G v (stkAt r1 k) W)
    (fun k v W => ∃ G, (∀ key, (G key).map Prod.snd = firK r1 k key) ∧ StkAt w1 R (R + 1) (R + 1 + 1) (R + 1 + 1 + 1) (R + 1 + 1 + 1 + 1) T r1.length tc (R + 5) (2 * k) (sumK r1 k) G v (stkAt r1 (k + 1)) W)
    (fun _ _ => False) (fun _ _ => False) ?hI ?hYp ?hIB ?hIx ?h0 ?hround ?hiter ?hdone ?hstop ?hpanic
  case hI => exact fun i v W o hl ⟨G, hG, h⟩ => ⟨G, hG, h.putObj hl (by omega)⟩
  case hYp => exact fun i v W o hl ⟨G, hG, h⟩ => ⟨G, hG, h.putObj hl (by omega)⟩
  case hIB => exact fun i v W W' ⟨G, hG, h⟩ hb => ⟨G, hG, h.below hb⟩
  case hIx => exact fun _ _ _ _ h => h.elim
  case h0 => exact fun o => ⟨fun _ => none, fun _ => rfl, HF4.out.below (below2 _ _ _)⟩
  case hiter =>
    rintro J JY Jx Jp W1 hJI hJB hJY hY h0 hb hlt
    refine steps_iter _ (R + 1 + 1 + 1 + 1) r1 T tc (R + 5) hlen' J JY Jx Jp (fun i v W hj => ?_) (fun i v v' W W' hi hj hg hloc ho => ?_) (fun i v W hi hj => hY i v W hi hj) (fun s hs => (HOK.out s hs).deep) W1 h0
    · obtain ⟨G, hG, h⟩ := hJI i v W hj
      exact ⟨h.above, (block_cell h.seq 0 (by simp)).1, Sl.reads stays_step HSt.out (reads_below h.low), h.own⟩
    · obtain ⟨G, hG, h⟩ := hJI i v W hj
      refine hJY i v v' W W' hj ⟨G, hG, h.grown hg hloc ho⟩ (Books.of_grown hg fun k hk => ?_)
      rcases h.own.2 with ⟨rfl, -⟩ | ⟨g, cap, cur, rfl, -, hh, -⟩
      · cases hk
      · simp only [Value.ownBlock, Option.some.injEq] at hk
        subst hk
        exact ⟨_, hh, rfl⟩
  case hdone =>
    rintro v W ⟨G, hG, hF5⟩ hD
    have hwD : w4.heap.size = R + 5 := hs4
    rw [hwD] at hD
    have HF5 := Lib.hid hF5
    have HG := Lib.hid hG
    have HD := Lib.hid hD
    have c2 := (block_cell hF5.box2 0 (by simp)).1
    simp only [List.getElem_toArray, List.getElem_cons_zero, List.getElem_cons_succ] at c2
    have hge0 := HB1'.out
    have hlowW : RowKit.Below R w1 W := by have := hF5.low; rwa [hR] at this
    have hngW : W.cell? ⟨0, 0, none⟩ = some (.string ⟨#[]⟩) := by
      have h1 := cell_keep HB1'.out HNg.out
      exact cell_keep (by rw [hR]; exact hlowW) h1
    have HNgW := Lib.hid hngW
    have HLowW := Lib.hid hlowW
    clear hG hD hF5 hwD hge0 hlowW hngW
    refine wpV_of_wp ?_
    simp only [marked, hs4]
    go_wp2_with (at_range; refine wpList_range_mapF _ rfl _ 104 rfl 106 22 keyed106 Tryz.underlying104 (R + 1) _ G rfl HF5.out.rows ?_; intro w0 cnt hu hg0 hs0)
    go_frame
    have HU0 := Lib.hid hu
    have HB0 := Lib.hid ((RowKit.Below.refl W.heap.size W).grown hg0 (Nat.le_refl _) (fun j hj => by cases hj))
    have HS0 := Lib.hid hs0
    have HRg : Hid (R + 5 < W.heap.size) := by unfold Hid; exact (Array.getElem?_eq_some_iff.1 HD.out).1
    clear hu hg0 hs0 c2
    generalize hRg : W.heap.size = Rg at *
    go_loopw [16, 17, 18] (fun v _ _ wr => ∃ ks cnt, Under keyL rowV Tryz.prog 106 wr (R + 1) Rg (2 * r1.length) G ks cnt ∧ wr.ownsRow (Rg + 1) 65 2 v (ks.map (stkOf r1)).length ((ks.map (stkOf r1)).flatMap stkCells) ∧ RowKit.Below Rg W wr ∧ Rg + 1 ≤ wr.heap.size) (fun _ _ _ wr => wr.rangeLeft (R + 1) Rg)
    case atStart => exact ⟨[], cnt, HU0.out, World.ownsRow_nil _ _ _ _, HB0.out, by have := HS0.out; omega⟩
    case round =>
    obtain ⟨ks, cnt, hu, hown, hb, hsz⟩ := hrel
    have HU := Lib.hid hu
    have HOwn := Lib.hid hown
    have HBr := Lib.hid hb
    have HSz := Lib.hid hsz
    clear hu hown hb hsz HB0 HU0 HS0
    have hlen : (ks.map (stkOf r1)).length = ks.length := by simp
    have HLen := Lib.hid hlen
    clear hlen
    have hkeys : ∀ key y, G key = some y → ∃ kl, keyOf Tryz.prog 106 (keyL key) = some kl := fun key y hy => keyOf_keyL key (HF5.out.each key y.1 y.2 hy).2.1
    have HKeys := Lib.hid hkeys
    clear hkeys
    go_wp2_with (at_next; refine wpList_next_mapF _ rfl _ rfl 106 keyed106 keyL_inj (R + 1) _ _ _ ks cnt rfl HU.out ?_ ?_)
    · intro hmet
      have HMet := Lib.hid hmet
      have hne : ks.map (stkOf r1) ≠ [] := by
        have := met_some r1 (hsome'.out (by trivial)) G HG.out HKeys.out _ ks hmet
        simpa using this
      have hP : ∀ y ∈ ks.map (stkOf r1), ∀ b, u16.ownBlock = some b → NoRow wr b y := fun y hy b hb => by
        obtain ⟨q, hq, rfl⟩ := List.mem_map.1 hy
        obtain ⟨-, -, h3, -, -, h6⟩ := HF5.out.each q.1 q.2.1 q.2.2 (hmet.2.1 q hq)
        rw [hRg] at h3
        have hb1 := (HOwn.out.lt b hb).1
        exact Ints.of_block h6 ((hide_heap (k := q.2.1) _ _ (by omega)).trans (HBr.out.block _ h3))
      have hsrt := sorted_stacks (ks.map (stkOf r1)) u16 (Rg + 1) wr hne hP (by have h1 := HLen.out; have h2 := hmet.2.2.2; omega) HOwn.out HSz.out
      have HSrt := Lib.hid hsrt
      clear hmet hsrt hP hne
      go_wp2_with fail
      refine HSrt.out.mono ?_
      rintro e w9 ⟨rfl, d, hperm, hsorted, hb9, hd, -, -⟩
      have HDd := Lib.hid hd
      have HB9 := Lib.hid (HBr.out.trans (hb9.mono (by omega)))
      have HP := Lib.hid hperm
      have HO := Lib.hid hsorted
      clear hd hb9 hperm hsorted
      go_wp2_with fail
      have hD9 := (HB9.out.block (R + 5) HRg.out).trans HD.out
      refine leaveM_mark (by simp) hD9 (leaveM_nil (results_tmp2 rfl _ _ _) ?_)
      refine ⟨below_putObj (RowKit.Below.trans HB1'.out (HLowW.out.mono HBle.out |>.trans (HB9.out.mono (by have := HRg.out; have := HBle.out; omega)))) (by have := HBle.out; omega), _, 0, rfl, ?_⟩
      rw [if_neg (by simp)]
      exact ⟨rfl, d, stksIs_of r1 G HG.out HKeys.out _ ks HMet.out d HP.out (fun i j h1 h2 => by have := HO.out i j h1 h2; omega), HDd.out.reads (reads_putBook hD9 rfl)⟩
    · intro x g l kl w1' cnt1 hkey hf hu1 hlt1 hg1 hs1 hen
      have hown1 := HOwn.out.kept hg1 (.inr (fun e => by have := (HOwn.out.lt Rg e).1; omega))
      have hb1 := HBr.out.grown hg1 (by have := HSz.out; omega) (fun j hj => by cases hj; exact Nat.le_refl _)
      simp only [keyL, tkey, rowV] at hen
      have HU1 := Lib.hid hu1
      have HB1w := Lib.hid hb1
      have HLt1 := Lib.hid hlt1
      have HOwn1 := Lib.hid hown1
      have HKx := Lib.hid hkey
      have HXs := Lib.hid (HF5.out.each x g l hf)
      have hsz1 : Hid (Rg + 1 ≤ w1'.heap.size) := by unfold Hid; rw [hs1]; exact HSz.out
      clear hu1 hown1 hb1 hlt1 hkey hf hg1 hs1
      go_upto_region 16 with (fail)
      have hy := below1 w1' (.cells #[.string ⟨x.toArray⟩] 106)
      have hq2 := alloc_new w1' (.cells #[.string ⟨x.toArray⟩] 106)
      have hbw2 := HB1w.out.trans (hy.mono (by have := hsz1.out; omega))
      have HOwn2 := Lib.hid (HOwn1.out.alloc (.cells #[.string ⟨x.toArray⟩] 106))
      have HU2 := Lib.hid (HU1.out.below hy)
      have HBw2 := Lib.hid hbw2
      have hsz2 : Hid (Rg + 1 ≤ (w1'.alloc (.cells #[.string ⟨x.toArray⟩] 106)).heap.size) := by unfold Hid; have h2 := hy.size; have h3 := hsz1.out; omega
      have HF6 := Lib.hid (HF5.out.below (by rw [hRg]; exact hbw2))
      have ng := cell_keep (w := W) (by rw [hRg]; exact hbw2) HNgW.out
      clear hy hbw2 hen
      generalize hW2 : w1'.alloc (.cells #[.string ⟨x.toArray⟩] 106) = w2' at *
      clear hW2
      have q0 := (block_cell hq2 0 (by simp)).1
      have c1 := (block_cell HF6.out.box1 0 (by simp)).1
      simp only [List.getElem_toArray, List.getElem_cons_zero, List.getElem_cons_succ] at q0 c1
      have hlk := HF6.out.sums.lookup keyed106 Tryz.underlying103 (zero3 _) HKx.out
      have hlk2 : (Instr.lookup 103 (.map (some R)) (.agg #[.string ⟨x.toArray⟩]) false).run Tryz.prog w2' = .ok (.int .i64 ((sumK r1 r1.length x).getD 0)) w2' := by
        rw [show (Value.agg #[.string ⟨x.toArray⟩]) = keyL x from rfl, hlk]
        cases sumK r1 r1.length x <;> rfl
      have hxne := HXs.out.1
      clear hq2 hlk
      go_upto_region 17 with (fail)
      clear ng hxne
      obtain ⟨i0, hi, hzz⟩ := Option.map_eq_some_iff.1 infoStk
      simp only [Prod.mk.injEq] at hzz
      obtain ⟨hz0, hz1, hz2⟩ := hzz
      generalize hval : (sumK r1 r1.length x).getD 0 = sv at *
      have HVal := Lib.hid hval
      clear hval
      have hnews : ∀ j u, ([.slice (some ⟨g, 0, none⟩) l.length l.length, .int .i64 sv] : List Value)[j]? = some u → (w2'.alloc (.cells #[.slice (some ⟨g, 0, none⟩) l.length l.length, .int .i64 sv] 65)).cell? ((⟨w2'.heap.size, 0, none⟩ : Addr).add j) = some u := by
        intro j u hj
        obtain ⟨hlt, hj⟩ := List.getElem?_eq_some_iff.1 hj
        rw [show (⟨w2'.heap.size, 0, none⟩ : Addr).add j = ⟨w2'.heap.size, j, none⟩ by unfold Addr.add; split <;> simp_all]
        rw [cell_of_heap (alloc_new w2' (.cells #[.slice (some ⟨g, 0, none⟩) l.length l.length, .int .i64 sv] 65)) j]
        rw [← hj]
        exact (Array.getElem?_eq_getElem (by simpa using hlt))
      have HNews := Lib.hid hnews
      have hone : ∀ u ∈ ([.slice (some ⟨g, 0, none⟩) l.length l.length, .int .i64 sv] : List Value), u.oneCell' = true := by intro u hu; simp at hu; rcases hu with rfl | rfl <;> rfl
      have HOne := Lib.hid hone
      have hbd : Hid ((ks.map (stkOf r1)).length + 1 ≤ 200000001) := by
        unfold Hid
        have h1 := HLen.out
        have h2 := HU2.out.len
        simp at h2; omega
      have HOwn3 := Lib.hid (HOwn2.out.alloc (.cells #[.slice (some ⟨g, 0, none⟩) l.length l.length, .int .i64 sv] 65))
      clear hnews hone
      go_wp2_with (at_builtin; refine wpList_append_own _ rfl _ _ 36 rfl (Rg + 1) 65 i0 _ 2 32 Tryz.underlying36 hi hz0 hz1 hz2 rfl (by omega) u16 _ _ rfl HOwn3.out ⟨w2'.heap.size, 0, none⟩ 1 1 [.slice (some ⟨g, 0, none⟩) l.length l.length, .int .i64 sv] rfl rfl HNews.out HOne.out (by have := hbd.out; unfold maxLen; omega) (by have := hbd.out; omega) (by have := hsz2.out; simp; omega) ?_; intro v' w3' ho' hg' hn'; have HO2 := Lib.hid ho'; have HG2 := Lib.hid hg'; clear ho' hg' hn')
      have hfil : (ks ++ [(x, (g, l))]).map (stkOf r1) = ks.map (stkOf r1) ++ [stkOf r1 (x, (g, l))] := by simp
      have hvals : (ks.map (stkOf r1) ++ [stkOf r1 (x, (g, l))]).flatMap stkCells = (ks.map (stkOf r1)).flatMap stkCells ++ [.slice (some ⟨g, 0, none⟩) l.length l.length, .int .i64 sv] := by
        rw [List.flatMap_append, List.flatMap_singleton]
        unfold stkOf stkCells rowV
        rw [HVal.out]
      have hle := HOwn2.out.lt
      have hrow : ∀ j, u16.ownBlock = some j → Rg + 1 ≤ j := fun j hj => (hle j hj).1
      have hBR : R + 1 < Rg := by have := HRg.out; omega
      have hu3 := (HU2.out.below (below1 w2' (.cells #[.slice (some ⟨g, 0, none⟩) l.length l.length, .int .i64 sv] 65))).kept HG2.out (fun e => by have := hrow _ e.symm; omega) (fun e => by have := hrow _ e.symm; omega)
      have hb3 := (HBw2.out.trans ((below1 w2' (.cells #[.slice (some ⟨g, 0, none⟩) l.length l.length, .int .i64 sv] 65)).mono (by have := hsz2.out; omega))).grown HG2.out (by have := hsz2.out; simp; omega) (fun j hj => by have := hrow j hj; omega)
      go_roundw
      case rel => exact ⟨ks ++ [(x, (g, l))], cnt1, hu3, by rw [hfil, hvals, List.length_append]; exact HO2.out, hb3, by have h1 := hsz2.out; have h2 := HG2.out.size; simp at h2; omega⟩
      case measure => rw [hu3.left_eq, HU.out.left_eq]; exact HLt1.out
  case hstop => exact fun _ _ h => h.elim
  case hpanic => exact fun _ _ h => h.elim
  case hround =>
    rintro i v W hi ⟨G, hG, hY⟩ hsz
    obtain ⟨U, uc, rfl⟩ : ∃ U uc, v = .slice U (stkAt r1 (i + 1)).length uc := by
      rcases hY.own.2 with ⟨rfl, h0⟩ | ⟨g, cap, cur, rfl, -, -, -⟩
      · exact ⟨none, 0, by rw [h0]⟩
      · exact ⟨_, _, rfl⟩
    have hst : r1.getD i ⟨0, 0, 0, 0⟩ = r1[i] := by rw [List.getD_eq_getElem?_getD, List.getElem?_eq_getElem hi]; rfl
    have hsum : sumK r1 (i + 1) = fupd (sumK r1 i) (keyT (stkAt r1 (i + 1))) (wrap64 ((sumK r1 i (keyT (stkAt r1 (i + 1)))).getD 0 + r1[i].work)) := by
      show fupd (sumK r1 i) (keyT (stkAt r1 (i + 1))) (wrap64 ((sumK r1 i (keyT (stkAt r1 (i + 1)))).getD 0 + (r1.getD i ⟨0, 0, 0, 0⟩).work)) = _
      rw [hst]
    have hfir : firK r1 (i + 1) = if (sumK r1 i (keyT (stkAt r1 (i + 1)))).isSome then firK r1 i else fupd (firK r1 i) (keyT (stkAt r1 (i + 1))) (stkAt r1 (i + 1)) := rfl
    have hin := HIn.out (i + 1)
    have hstl := stkAt_length r1 (i + 1)
    have hsts := stkAt_some r1 i hi
    have HFir := Lib.hid hfir
    generalize firK r1 (i + 1) = fr1 at *
    simp only [stepArg, hst, cutV]
    rw [hsum]
    generalize sumK r1 i = F at *
    generalize firK r1 i = fr at *
    generalize stkAt r1 (i + 1) = st at *
    generalize r1[i] = s at *
    clear hst hsum hfir
    have hinI : ∀ x ∈ st, inInt x := fun x hx => by have := hin x hx; unfold inInt; omega
    have hkl := keyT_length st hinI
    have hks := keyT_some st hsts
    have HY := Lib.hid hY
    have HG := Lib.hid hG
    have HInI := Lib.hid hinI
    have HKs := Lib.hid (And.intro hks hsts)
    clear hY hin hG hinI hks hsts
    gi_wp2
    refine ⟨Books.of_below (below1 W _), ?_⟩
    rintro W₂ ⟨r, hW₂⟩ ⟨r', hl⟩
    have hY2 : StkAt w1 R (R + 1) (R + 1 + 1) (R + 1 + 1 + 1) (R + 1 + 1 + 1 + 1) T r1.length tc (R + 5) (2 * i) F G (.slice U st.length uc) st W₂ := by rw [hW₂]; exact (HY.out.below (below1 W _)).putObj ⟨_, hl⟩ (by omega)
    have hx : W₂.heap[W.heap.size]? = some (.cells #[.int .i64 s.deep, .int .i64 s.fn, .int .i64 s.ins, .int .i64 s.work, .slice U st.length st.length] 101) := by rw [hW₂]; exact heap_putObj ⟨_, hl⟩ (alloc_new W _) rfl
    have hXR : R + 5 ≤ W.heap.size := HY.out.above
    clear hW₂ hl r r' HY hsz
    generalize W.heap.size = X at *
    have hints : Ints W₂ (.slice U st.length st.length) st := by
      have := ints_prefix (c' := st.length) (ints_of_own hY2.own) st.length (Nat.le_refl _) (Nat.le_refl _)
      rwa [List.take_length] at this
    have hlow : RowKit.Below R w1 W₂ := by have := hY2.low; rwa [hR] at this
    have htab2 : Tab W₂ := HTab.out.below (HB1'.out.trans (hlow.mono (by have := HBle.out; omega)))
    have hkey := prof_keyOf st _ W₂ hints HInI.out (by omega) htab2
    have HKey := Lib.hid hkey
    have x4 := (block_cell hx 4 (by simp)).1
    simp only [List.getElem_toArray, List.getElem_cons_zero, List.getElem_cons_succ] at x4
    have H2 := Lib.hid hY2
    have HX2 := Lib.hid hx
    clear hkey hlow htab2 hY2 hx
    gi_wp2
    refine ⟨trivial, (CallsIn.inRound _ ((callsIn_wide (n := 4)).2 HKey.out)).mono ?_⟩
    rintro e w6 ⟨rfl, hb6⟩
    have H6 := Lib.hid (H2.out.below hb6)
    have HX6 := Lib.hid (heap_keep hb6 HX2.out)
    have HBk6 := Lib.hid (Books.of_below hb6)
    have HInt6 := Lib.hid (hints.below hb6)
    clear hb6 H2 HX2 hints x4 HKey
    gi_upto_region 8 with (fail)
    have hb7 := below1 w6 (.cells #[.string ⟨(keyT st).toArray⟩] 106)
    have hk7 := alloc_new w6 (.cells #[.string ⟨(keyT st).toArray⟩] 106)
    have H7 := Lib.hid (H6.out.below hb7)
    have HX7 := Lib.hid (heap_keep hb7 HX6.out)
    have HBk7 := Lib.hid (HBk6.out.trans (Books.of_below hb7))
    have HInt7 := Lib.hid (HInt6.out.below hb7)
    have hKX : X < w6.heap.size := (Array.getElem?_eq_some_iff.1 HX6.out).1
    clear hb7 H6 HX6 HBk6 HInt6
    generalize w6.alloc (.cells #[.string ⟨(keyT st).toArray⟩] 106) = W7 at *
    generalize w6.heap.size = Y at *
    obtain ⟨kl, hkl2⟩ := keyOf_keyL (keyT st) (by omega)
    have hlk := H7.out.sums.look_ok keyed106 Tryz.underlying103 (zero3 _) hkl2
    have hin0 : intV 0 = .int .i64 0 := rfl
    have hlk2 : (Instr.lookup 103 (.map (some R)) (.agg #[.string ⟨(keyT st).toArray⟩]) true).run Tryz.prog W7 = .ok (.tuple #[.int .i64 ((F (keyT st)).getD 0), .bool (F (keyT st)).isSome]) W7 := by
      rw [show (Value.agg #[.string ⟨(keyT st).toArray⟩]) = keyL (keyT st) from rfl, hlk]
      cases F (keyT st) <;> rfl
    have m1c := (block_cell H7.out.box1 0 (by simp)).1
    have kc := (block_cell hk7 0 (by simp)).1
    simp only [List.getElem_toArray, List.getElem_cons_zero, List.getElem_cons_succ] at m1c kc
    have HK7 := Lib.hid hk7
    have HKl := Lib.hid hkl2
    clear hk7 hkl2 hlk hin0
    generalize hbv : (F (keyT st)).isSome = bv at *
    have HBv := Lib.hid hbv
    clear hbv
    gi_upto_if 44 with (fail)
    clear hlk2 m1c kc
    gi_cut [] from 45 (fun wx => ∃ G', (∀ key, (G' key).map Prod.snd = fr1 key) ∧ StkAt w1 R (R + 1) (R + 1 + 1) (R + 1 + 1 + 1) (R + 1 + 1 + 1 + 1) T r1.length tc (R + 5) (2 * i + 1) F G' (.slice U st.length uc) st wx ∧ wx.heap[X]? = some (.cells #[.int .i64 s.deep, .int .i64 s.fn, .int .i64 s.ins, .int .i64 s.work, .slice U st.length st.length] 101) ∧ wx.heap[Y]? = some (.cells #[.string ⟨(keyT st).toArray⟩] 106) ∧ Books W₂ wx)
    case first =>
      cases bv
      case true =>
        gi_wp2
        gi_meet
        case rel => exact ⟨G, fun key => by rw [HFir.out, if_pos trivial]; exact HG.out key, H7.out.mono (by omega), HX7.out, HK7.out, HBk7.out⟩
      case false =>
        have x4 := (block_cell HX7.out 4 (by simp)).1
        have kc := (block_cell HK7.out 0 (by simp)).1
        have m2c := (block_cell H7.out.box2 0 (by simp)).1
        simp only [List.getElem_toArray, List.getElem_cons_zero, List.getElem_cons_succ] at x4 kc m2c
        have hS : ∀ W' : World, (∀ (i : Nat) (o : Obj), W7.heap[i]? = some o → isBook o = false → i ≠ R + 1 → W'.heap[i]? = some o) → W'.cell? ⟨R + 1 + 1 + 1, 0, none⟩ = some (.map (some (R + 1))) ∧ W'.cell? ⟨Y, 0, none⟩ = some (.string ⟨(keyT st).toArray⟩) ∧ W'.cell? ⟨X, 4, none⟩ = some (.slice U st.length st.length) := fun W' h => by
          have e1 := (block_cell (h _ _ H7.out.box2 rfl (by omega)) 0 (by simp)).1
          have e2 := (block_cell (h _ _ HK7.out rfl (by omega)) 0 (by simp)).1
          have e3 := (block_cell (h _ _ HX7.out rfl (by omega)) 4 (by simp)).1
          exact ⟨e1, e2, e3⟩
        have HS := Lib.hid hS
        clear hS
        gi_upto_region 10 with (fail)
        refine round_region (S := fun W' => W'.cell? ⟨R + 1 + 1 + 1, 0, none⟩ = some (.map (some (R + 1))) ∧ W'.cell? ⟨Y, 0, none⟩ = some (.string ⟨(keyT st).toArray⟩) ∧ W'.cell? ⟨X, 4, none⟩ = some (.slice U st.length st.length)) followsMixed (by kernel_rfl) (fun ⟨_, _, h⟩ => h) ⟨m2c, kc, x4⟩ (fun hHeld => ?_)
        clear x4 kc m2c
        refine wpAnyH_take (i := 0) (oi := _) (v := ?_) rfl (by kernel_rfl) (by kernel_rfl) (by kernel_rfl) (fun _ _ _ h => h) (Or.inl ⟨by rfl, ?_⟩) (by assumption) ?_
        rotate_left
        · intro w hSw
          go_split_ands
          go_simp
          try with_reducible rfl
        try simp only [Act.put, List.setIfInBounds_toArray, List.set_cons_zero, List.set_cons_succ]
        refine wpAnyH_take (i := 1) (oi := _) (v := ?_) rfl (by kernel_rfl) (by kernel_rfl) (by kernel_rfl) (fun _ _ _ h => h) (Or.inl ⟨by rfl, ?_⟩) (by assumption) ?_
        rotate_left
        · intro w hSw
          go_split_ands
          go_simp
          try with_reducible rfl
        try simp only [Act.put, List.setIfInBounds_toArray, List.set_cons_zero, List.set_cons_succ]
        refine wpAnyH_take (i := 2) (oi := _) (v := ?_) rfl (by kernel_rfl) (by kernel_rfl) (by kernel_rfl) (fun _ _ _ h => h) (Or.inl ⟨by rfl, ?_⟩) (by assumption) ?_
        rotate_left
        · intro w hSw
          go_split_ands
          go_simp
          try with_reducible rfl
        try simp only [Act.put, List.setIfInBounds_toArray, List.set_cons_zero, List.set_cons_succ]
        refine wpAnyH_take (i := 3) (oi := _) (v := ?_) rfl (by kernel_rfl) (by kernel_rfl) (by kernel_rfl) (fun _ _ _ h => h) (Or.inl ⟨by rfl, ?_⟩) (by assumption) ?_
        rotate_left
        · intro w hSw
          go_split_ands
          go_simp
          try with_reducible rfl
        try simp only [Act.put, List.setIfInBounds_toArray, List.set_cons_zero, List.set_cons_succ]
        refine wpAnyH_ready (rs := [4]) (by kernel_rfl) (by simp) ?_
        refine AllReadyH.cons (o := _) rfl (fun K hK => ?_) AllReadyH.nil
        have HK := Lib.hid hK; clear hK
        go_simp
        refine (prof_own st _ W7.drew (HInt7.out.below (below_drew W7)) (by omega)).mono ?_
        rintro e w8 ⟨g, rfl, hi8, hb8, hg8⟩
        have hb8' : RowKit.Below W7.heap.size W7 w8 := below_step (below_drew W7) hb8
        have H8 := Lib.hid (H7.out.below hb8')
        have hS8 := HS.out w8 (fun i o h1 _ _ => heap_keep hb8' h1)
        have hg8' : W7.heap.size ≤ g := hg8
        have hgl : g < w8.heap.size := by
          cases st with
          | nil => exact absurd rfl HKs.out.2
          | cons a st' =>
            obtain ⟨b', off', e', c'⟩ := hi8.at_ 0 (by simp)
            cases e'
            exact World.block_lt_of_cell? w8 _ c'
        have hbs : R + 5 ≤ g := by have := H7.out.above; omega
        have hvo : (Value.slice U st.length uc).ownBlock ≠ some g := fun e => by
          have := (World.ownsRow.lt H7.out.own g e).2; omega
        obtain ⟨w9, hrun, hm9, ht9⟩ := H8.out.rows.update keyL_inj keyed106 Tryz.underlying104 (by unfold maxLen; omega) (x := keyT st) (y := (g, st)) HKl.out
        have h9 := H8.out.turned2 ht9 hm9 HKs.out.1 (by omega) hgl hbs hvo hi8
        have H9 := Lib.hid h9
        have hg9 := ht9.grown
        have hk9 : ∀ (i : Nat) (o : Obj), W7.heap[i]? = some o → isBook o = false → i ≠ R + 1 → w9.heap[i]? = some o := fun i o h1 _ h2 => (hg9.block i (Array.getElem?_eq_some_iff.1 (heap_keep hb8' h1)).1 (fun e => h2 (by injection e))).trans (heap_keep hb8' h1)
        have hS9 := HS.out w9 hk9
        have HX9 := Lib.hid (hk9 _ _ HX7.out rfl (by omega))
        have HK9 := Lib.hid (hk9 _ _ HK7.out rfl (by omega))
        have HBk9 := Lib.hid (HBk7.out.trans ((Books.of_below hb8').trans (books_turned ht9)))
        have HG9 : Hid (∀ key, (fupd G (keyT st) (g, st) key).map Prod.snd = fr1 key) := fun key => by
          rw [HFir.out, if_neg (by simp)]
          unfold fupd
          split
          · rfl
          · exact HG.out key
        simp only [keyL, tkey, rowV] at hrun
        clear h9 hg9 hk9 hm9 ht9 hb8 hi8 hb8' H8 hg8 hg8' hgl hbs hvo
        refine HK.out _ _ hS8 (fun hHeld => ?_)
        clear HK K hS8
        try simp only [Act.put, List.setIfInBounds_toArray, List.set_cons_zero, List.set_cons_succ]
        refine wpAnyH_ready (rs := [5]) (by kernel_rfl) (by simp) ?_
        refine AllReadyH.cons (o := _) rfl (fun K hK => ?_) AllReadyH.nil
        have HK := Lib.hid hK; clear hK
        go_simp
        refine HK.out _ _ hS9 (fun hHeld => ?_)
        refine wpAnyH_done (by kernel_rfl) ?_ _
        clear HK K hHeld hrun hS9
        gi_wp2
        gi_meet
        case rel => exact ⟨_, HG9.out, H9.out, HX9.out, HK9.out, HBk9.out⟩
    case rest =>
    obtain ⟨G', hG', h9, hx9, hk9, hbk9⟩ := hcut
    have HG9 := Lib.hid hG'
    have H9 := Lib.hid (h9.below (below_drew wc))
    have HX9 : Hid (wc.drew.heap[X]? = some (.cells #[.int .i64 s.deep, .int .i64 s.fn, .int .i64 s.ins, .int .i64 s.work, .slice U st.length st.length] 101)) := hx9
    have HK9 : Hid (wc.drew.heap[Y]? = some (.cells #[.string ⟨(keyT st).toArray⟩] 106)) := hk9
    have HBk9 := Lib.hid (hbk9.trans (Books.of_below (below_drew wc)))
    clear hG' h9 hx9 hk9 hbk9 H7 HX7 HBk7 HInt7 HK7 HG HFir HBv
    gi_upto_region 11 with (fail)
    generalize hdw : wc.drew = W9 at *
    have hlk := H9.out.sums.lookup keyed106 Tryz.underlying103 (zero3 _) HKl.out
    have hlk2 : (Instr.lookup 103 (.map (some R)) (.agg #[.string ⟨(keyT st).toArray⟩]) false).run Tryz.prog W9 = .ok (.int .i64 ((F (keyT st)).getD 0)) W9 := by
      rw [show (Value.agg #[.string ⟨(keyT st).toArray⟩]) = keyL (keyT st) from rfl, hlk]
      cases F (keyT st) <;> rfl
    obtain ⟨v0, stp, wE, hrunE, htE, hrest⟩ := H9.out.sums.entry keyL_inj keyed106 law106 Tryz.underlying103 zero3 (by unfold maxLen; omega) HKl.out
    have hlkE := H9.out.sums.entry_look keyL_inj keyed106 law106 Tryz.underlying103 (y0 := 0) zero3 (by unfold maxLen; omega) HKl.out hrunE
    have hlk3 : (Instr.lookup 103 (.map (some R)) (.agg #[.string ⟨(keyT st).toArray⟩]) false).run Tryz.prog wE = .ok (.int .i64 ((F (keyT st)).getD 0)) wE := by
      rw [show (Value.agg #[.string ⟨(keyT st).toArray⟩]) = keyL (keyT st) from rfl, hlkE]
      cases F (keyT st) <;> rfl
    obtain ⟨wS, hrunS, hmS, htS⟩ := hrest (wrap64 ((F (keyT st)).getD 0 + s.work))
    have a5 : IntKind.i64.wrap ((F (keyT st)).getD 0 + s.work) = wrap64 ((F (keyT st)).getD 0 + s.work) := wrapIs _
    have hS9 : W9.cell? ⟨R + 1 + 1, 0, none⟩ = some (.map (some R)) ∧ W9.cell? ⟨Y, 0, none⟩ = some (.string ⟨(keyT st).toArray⟩) ∧ W9.cell? ⟨X, 3, none⟩ = some (.int .i64 s.work) := by
      have e1 := (block_cell H9.out.box1 0 (by simp)).1
      have e2 := (block_cell HK9.out 0 (by simp)).1
      have e3 := (block_cell HX9.out 3 (by simp)).1
      exact ⟨e1, e2, e3⟩
    have hSE := And.intro (reads_turned htE _ _ hS9.1) (And.intro (reads_turned htE _ _ hS9.2.1) (reads_turned htE _ _ hS9.2.2))
    have hSS := And.intro (reads_turned htS _ _ hS9.1) (And.intro (reads_turned htS _ _ hS9.2.1) (reads_turned htS _ _ hS9.2.2))
    have HRes := Lib.hid (And.intro (HBk9.out.trans (books_turned htS)) (H9.out.turned1 htS hmS))
    have HSs := Lib.hid (And.intro hSE hSS)
    have hkeq : keyL (keyT st) = .agg #[.string ⟨(keyT st).toArray⟩] := rfl
    simp only [hkeq, intV, goInt] at hrunE hrunS
    clear hrest htE hmS htS hSE hSS hlk hlkE H9 HX9 HK9 HBk9
    refine round_region (S := fun W' => W'.cell? ⟨R + 1 + 1, 0, none⟩ = some (.map (some R)) ∧ W'.cell? ⟨Y, 0, none⟩ = some (.string ⟨(keyT st).toArray⟩) ∧ W'.cell? ⟨X, 3, none⟩ = some (.int .i64 s.work)) followsMixed (by kernel_rfl) (fun ⟨_, _, h⟩ => h) (by rw [hdw]; exact hS9) (fun hHeld => ?_)
    rw [hdw] at hHeld ⊢
    clear hS9
    refine wpAnyH_take (i := 0) (oi := _) (v := ?_) rfl (by kernel_rfl) (by kernel_rfl) (by kernel_rfl) (fun _ _ _ h => h) (Or.inl ⟨by rfl, ?_⟩) (by assumption) ?_
    rotate_left
    · intro w hSw
      go_split_ands
      go_simp
      try with_reducible rfl
    try simp only [Act.put, List.setIfInBounds_toArray, List.set_cons_zero, List.set_cons_succ]
    refine wpAnyH_take (i := 1) (oi := _) (v := ?_) rfl (by kernel_rfl) (by kernel_rfl) (by kernel_rfl) (fun _ _ _ h => h) (Or.inl ⟨by rfl, ?_⟩) (by assumption) ?_
    rotate_left
    · intro w hSw
      go_split_ands
      go_simp
      try with_reducible rfl
    try simp only [Act.put, List.setIfInBounds_toArray, List.set_cons_zero, List.set_cons_succ]
    refine wpAnyH_take (i := 3) (oi := _) (v := ?_) rfl (by kernel_rfl) (by kernel_rfl) (by kernel_rfl) (fun _ _ _ h => h) (Or.inl ⟨by rfl, ?_⟩) (by assumption) ?_
    rotate_left
    · intro w hSw
      go_split_ands
      go_simp
      try with_reducible rfl
    try simp only [Act.put, List.setIfInBounds_toArray, List.set_cons_zero, List.set_cons_succ]
    refine wpAnyH_take (i := 4) (oi := _) (v := ?_) rfl (by kernel_rfl) (by kernel_rfl) (by kernel_rfl) (fun _ _ _ h => h) (Or.inl ⟨by rfl, ?_⟩) (by assumption) ?_
    rotate_left
    · intro w hSw
      go_split_ands
      go_simp
      try with_reducible rfl
    try simp only [Act.put, List.setIfInBounds_toArray, List.set_cons_zero, List.set_cons_succ]
    refine wpAnyH_take (i := 5) (oi := _) (v := ?_) rfl (by kernel_rfl) (by kernel_rfl) (by kernel_rfl) (fun _ _ _ h => h) (Or.inl ⟨by rfl, ?_⟩) (by assumption) ?_
    rotate_left
    · intro w hSw
      go_split_ands
      go_simp
      try with_reducible rfl
    try simp only [Act.put, List.setIfInBounds_toArray, List.set_cons_zero, List.set_cons_succ]
    refine wpAnyH_ready (rs := [2, 7]) (by kernel_rfl) (by simp) ?_
    refine AllReadyH.cons (o := _) rfl (fun K hK => ?_) (AllReadyH.cons (o := _) rfl (fun K hK => ?_) AllReadyH.nil)
    all_goals (have HK := Lib.hid hK; clear hK)
    · go_simp
      · refine HK.out _ _ hHeld (fun hHeld => ?_)
        clear HK K
        try simp only [Act.put, List.setIfInBounds_toArray, List.set_cons_zero, List.set_cons_succ]
        refine wpAnyH_take (i := 6) (oi := _) (v := ?_) rfl (by kernel_rfl) (by kernel_rfl) (by kernel_rfl) (fun _ _ _ h => h) (Or.inl ⟨by rfl, ?_⟩) (by assumption) ?_
        rotate_left
        · intro w hSw
          go_split_ands
          go_simp
          try with_reducible rfl
        try simp only [Act.put, List.setIfInBounds_toArray, List.set_cons_zero, List.set_cons_succ]
        refine wpAnyH_ready (rs := [7]) (by kernel_rfl) (by simp) ?_
        refine AllReadyH.cons (o := _) rfl (fun K hK => ?_) AllReadyH.nil
        have HK := Lib.hid hK; clear hK
        go_simp
        refine HK.out _ _ HSs.out.1 (fun hHeld => ?_)
        clear HK K
        try simp only [Act.put, List.setIfInBounds_toArray, List.set_cons_zero, List.set_cons_succ]
        refine wpAnyH_take (i := 8) (oi := _) (v := ?_) rfl (by kernel_rfl) (by kernel_rfl) (by kernel_rfl) (fun _ _ _ h => h) (Or.inl ⟨by rfl, ?_⟩) (by assumption) ?_
        rotate_left
        · intro w hSw
          go_split_ands
          go_simp
          try with_reducible rfl
        try simp only [Act.put, List.setIfInBounds_toArray, List.set_cons_zero, List.set_cons_succ]
        refine wpAnyH_ready (rs := [9]) (by kernel_rfl) (by simp) ?_
        refine AllReadyH.cons (o := _) rfl (fun K hK => ?_) AllReadyH.nil
        have HK := Lib.hid hK; clear hK
        go_simp
        refine HK.out _ _ HSs.out.2 (fun hHeld => ?_)
        refine wpAnyH_done (by kernel_rfl) ?_ _
        clear HK K hHeld hlk2 hlk3 hrunE hrunS a5
        gi_wp2
        exact ⟨HRes.out.1, G', HG9.out, HRes.out.2⟩
    · go_simp
      · refine HK.out _ _ HSs.out.1 (fun hHeld => ?_)
        clear HK K
        try simp only [Act.put, List.setIfInBounds_toArray, List.set_cons_zero, List.set_cons_succ]
        refine wpAnyH_take (i := 8) (oi := _) (v := ?_) rfl (by kernel_rfl) (by kernel_rfl) (by kernel_rfl) (fun _ _ _ h => h) (Or.inl ⟨by rfl, ?_⟩) (by assumption) ?_
        rotate_left
        · intro w hSw
          go_split_ands
          go_simp
          try with_reducible rfl
        try simp only [Act.put, List.setIfInBounds_toArray, List.set_cons_zero, List.set_cons_succ]
        refine wpAnyH_ready (rs := [2]) (by kernel_rfl) (by simp) ?_
        refine AllReadyH.cons (o := _) rfl (fun K hK => ?_) AllReadyH.nil
        have HK := Lib.hid hK; clear hK
        go_simp
        refine HK.out _ _ HSs.out.1 (fun hHeld => ?_)
        clear HK K
        try simp only [Act.put, List.setIfInBounds_toArray, List.set_cons_zero, List.set_cons_succ]
        refine wpAnyH_take (i := 6) (oi := _) (v := ?_) rfl (by kernel_rfl) (by kernel_rfl) (by kernel_rfl) (fun _ _ _ h => h) (Or.inl ⟨by rfl, ?_⟩) (by assumption) ?_
        rotate_left
        · intro w hSw
          go_split_ands
          go_simp
          try with_reducible rfl
        try simp only [Act.put, List.setIfInBounds_toArray, List.set_cons_zero, List.set_cons_succ]
        refine wpAnyH_ready (rs := [9]) (by kernel_rfl) (by simp) ?_
        refine AllReadyH.cons (o := _) rfl (fun K hK => ?_) AllReadyH.nil
        have HK := Lib.hid hK; clear hK
        go_simp
        refine HK.out _ _ HSs.out.2 (fun hHeld => ?_)
        refine wpAnyH_done (by kernel_rfl) ?_ _
        clear HK K hHeld hlk2 hlk3 hrunE hrunS a5
        gi_wp2
        exact ⟨HRes.out.1, G', HG9.out, HRes.out.2⟩
end Go.Proofs.YtdkcjeaabbkdeaaGreatDoor
