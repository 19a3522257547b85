/- Package prof: Diff. Package prof: Nodes. -/
import Derived.Test.YtdkcjeaabbkdeaaGreatDoorZSortN
import Derived.Test.YtdkcjeaabbkdeaaGreatDoorZMapF
import Derived.Test.YtdkcjeaabbkdeaaGreatDoorZMapv
import Derived.Test.YtdkcjeaabbkdeaaGreatDoorZProfA
import Derived.Test.YtdkcjeaabbkdeaaGreatDoorZStop
set_option linter.unusedVariables false
set_option linter.unusedSimpArgs false
set_option linter.unnecessarySimpa false
set_option linter.unusedSectionVars false
section
namespace Go.Proofs.YtdkcjeaabbkdeaaGreatDoor
open Go.RowKit Go.Sort Go.Shelf Go.Maps
set_option linter.unusedVariables false
set_option linter.unusedSimpArgs false

/-- A number as a key; costs as an element. -/
abbrev numK : Int → Value := fun x => .int .i64 x
abbrev nodeV : NodeC → Value := fun x => .agg #[.int .i64 x.node, .int .i64 x.count, .int .i64 x.work, .int .i64 x.cycles]
theorem numK_inj : ∀ x y, numK x = numK y → x = y := fun x y h => by simpa [numK] using h
theorem zeroNode (W : World) : (zeroValue 73).run Tryz.prog W = .ok (nodeV zeroN) W := by kernel_rfl
theorem enters73 : Enters Tryz.prog 73 := enters_of Tryz.func73 (by kernel_rfl) rfl
/-- What Diff gives: an error, or what is different. -/
def DiffPost (l m : List NodeC) (w : World) (e : Ending) (w' : World) : Prop := RowKit.Below w.heap.size w w' ∧ ∃ v err, e = .returned (.tuple #[v, .int .i64 err]) ∧
  if rightB l = false ∨ rightB m = false then err = 1 ∧ NodesL w' v [] else err = 0 ∧ ∃ d, DiffL l m d ∧ NodesL w' v d
/-- The list as one of nodes of which something is asked. -/
def asP {P : NodeC → Prop} (l : List NodeC) (h : ∀ x ∈ l, P x) : Array {x : NodeC // P x} := (l.attach.map fun x => ⟨x.1, h x.1 x.2⟩).toArray
theorem asP_size {P : NodeC → Prop} {l : List NodeC} (h : ∀ x ∈ l, P x) : (asP l h).size = l.length := by simp [asP]
theorem asP_val {P : NodeC → Prop} {l : List NodeC} (h : ∀ x ∈ l, P x) : (asP l h).toList.map Subtype.val = l := by simp [asP]
theorem asP_vals {P : NodeC → Prop} {l : List NodeC} (h : ∀ x ∈ l, P x) : (asP l h).toList.flatMap encN = nodeVals l := by
  have e : ∀ m : List {x : NodeC // P x}, m.flatMap encN = (m.map Subtype.val).flatMap nodeCells := fun m => by rw [List.flatMap_map]; rfl
  rw [e, asP_val]; rfl
/-- A row of nodes of the call's own, put in order. -/
theorem sorted_own (g : Nat) (P : NodeC → Prop) (z : {x : NodeC // P x}) (cf : NodeC → NodeC → Int) (hg : Enters Tryz.prog g) (hc : CmpN g P cf) (hO : SWO (ltOf fun x y : {x : NodeC // P x} => cf x.1 y.1)) (l : List NodeC) (hP : ∀ x ∈ l, P x) (v : Value) (base : Nat) (w : World)
    (hsz : l.length ≤ 1000000000) (h : w.ownsRow base 73 4 v l.length (nodeVals l)) (hbase : base ≤ w.heap.size) :
    Calls Tryz.prog 51 #[.agg #[.func (.func g) #[] #[]], v] w fun e w' => e = .returned v ∧ ∃ m : List NodeC, m.Perm l ∧ (∀ i j (h1 : i < j) (h2 : j < m.length), ¬ cf m[j] m[i] < 0) ∧ RowKit.Below base w w' ∧ NodesL w' v m ∧ ∃ A c, v = .slice A m.length c ∧ (A = none → m = [] ∧ c = 0) := by
  have hl0 := h.2
  rcases hl0 with ⟨rfl, h0⟩ | ⟨b, cap, cur, rfl, -⟩
  · obtain rfl : l = [] := List.eq_nil_of_length_eq_zero h0
    refine prof_sorted g none 0 0 w _ ((sort_nil _ _).mono fun e w' ⟨h1, h2⟩ => ⟨h1, [], List.Perm.refl _, fun i j h1 h2 => by simp at h2, ?_, nodesL_nil _ _ _, none, 0, rfl, fun _ => ⟨rfl, rfl⟩⟩)
    rw [h2]; exact (below1 w _).mono hbase
  · have hown := h.alloc (.cells #[.func (.func g) #[] #[]] 95)
    haveI : Inhabited {x : NodeC // P x} := ⟨z⟩
    have hs := sort_nodes g cf hg hc hO (asP l hP) b cap base (w.alloc (.cells #[.func (.func g) #[] #[]] 95)) (by rw [asP_size]; omega) (by rw [asP_size, asP_vals]; exact hown)
    rw [asP_size, asP_val] at hs
    refine prof_sorted g (some ⟨b, 0, none⟩) l.length cap w _ (hs.mono ?_)
    rintro e w' ⟨h1, m, hp, ho, hb, hn⟩
    exact ⟨h1, m, hp, ho, ((below1 w (.cells #[.func (.func g) #[] #[]] 95)).mono hbase).trans hb, hn, _, cap, by rw [hp.length_eq], fun e => by cases e⟩
theorem foldl_take_succ {α β : Type} (f : β → α → β) (b : β) (l : List α) (k : Nat) (h : k < l.length) : (l.take (k + 1)).foldl f b = f ((l.take k).foldl f b) l[k] := by
  rw [List.take_succ_eq_append_getElem h, List.foldl_append]; rfl
theorem putM_take (m : List NodeC) (k : Nat) (h : k < m.length) : putM (m.take (k + 1)) = fupd (putM (m.take k)) m[k].node m[k] := foldl_take_succ _ _ _ _ h
theorem map_getD (o : Option NodeC) (z : NodeC) : (o.map nodeV).getD (nodeV z) = nodeV (o.getD z) := by cases o <;> rfl
def putK (l m : List NodeC) (k : Nat) : Int → Option NodeC := (l.take k).foldl stepL (putM m)
theorem putK_succ (l m : List NodeC) (k : Nat) (h : k < l.length) : putK l m (k + 1) = stepL (putK l m k) l[k] := foldl_take_succ _ _ _ _ h
theorem rightB_in {l : List NodeC} (h : rightB l = true) (f : Fits l) (k : Nat) (hk : k < l.length) : inInt l[k].node := by
  have := (rightAt_of h k hk).1
  have := (f _ (List.getElem_mem hk)).1
  unfold inInt; omega

set_option maxRecDepth 100000 in
set_option maxHeartbeats 2000000 in
theorem prof_diff (l m : List NodeC) (vl vm : Value) (w : World) (hg : PGlob w) (hl : NodesL w vl l) (hm : NodesL w vm m) (fl : Fits l) (fm : Fits m) (hll : l.length ≤ 100000000) (hml : m.length ≤ 100000000) :
    Calls Tryz.prog 25 #[vl, vm] w (DiffPost l m w) := by
  obtain ⟨A, ac, rfl, hma, -⟩ := hl.form
  obtain ⟨B, bc, rfl, hmb, -⟩ := hm.form
  have HR1 := Lib.hid (prof_right l _ w hg hl)
  have HG := Lib.hid hg
  have HL := Lib.hid hl
  have HM := Lib.hid hm
  have HFL := Lib.hid fl
  have HFM := Lib.hid fm
  have HR2 := Lib.hid (fun W (hb : RowKit.Below w.heap.size w W) => prof_right m _ W (hg.below hb) (hm.below hb))
  clear hg hl hm fl fm
  go_enter Tryz.func25, Tryz.ntmps25
  go_wp2_with fail
  refine HR1.out.mono ?_
  rintro e w1 ⟨rfl, hb1⟩
  have HB1 := Lib.hid hb1
  clear hb1
  cases hrl : rightB l
  case false =>
    have Hrl := Lib.hid hrl
    clear hrl
    go_wp2_with fail
    go_ret2
    refine ⟨HB1.out, _, 1, rfl, ?_⟩
    rw [if_pos (.inl Hrl.out)]
    exact ⟨rfl, nodesL_nil _ _ _⟩
  have Hrl := Lib.hid hrl
  clear hrl
  go_wp2_with fail
  refine (HR2.out w1 HB1.out).mono ?_
  rintro e w2 ⟨rfl, hb2⟩
  have HB2 := Lib.hid (below_step HB1.out hb2)
  clear hb2
  cases hrm : rightB m
  case false =>
    have Hrm := Lib.hid hrm
    clear hrm
    go_wp2_with fail
    go_ret2
    refine ⟨HB2.out, _, 1, rfl, ?_⟩
    rw [if_pos (.inr Hrm.out)]
    exact ⟨rfl, nodesL_nil _ _ _⟩
  have Hrm := Lib.hid hrm
  clear hrm
  have hmm := @run_makeMap Tryz.prog
  go_wp2_with fail
  have hM0 := mapF_made (mkK := numK) (mkV := nodeV) w2 Tryz.prog 3
  have HM0 := Lib.hid hM0
  have HB3 := Lib.hid (HB2.out.alloc HB2.out.size (.map #[] 0))
  have HBm := Lib.hid HB2.out.size
  clear hM0 hmm
  generalize w2.alloc (.map #[] 0) = w3 at *
  generalize w2.heap.size = Bm at *
  go_loopw [8, 26] (fun _ i wr => RowKit.Below w.heap.size w wr ∧ ∃ k : Nat, k ≤ m.length ∧ i = .int .i64 k ∧ MapF numK nodeV Tryz.prog 3 wr Bm k (putM (m.take k))) (fun _ i _ => m.length - (intOf i).toNat)
  case atStart => exact ⟨HB3.out, 0, Nat.zero_le _, rfl, HM0.out⟩
  case round =>
  obtain ⟨hb, k, hk, rfl, hmap⟩ := hrel
  have HB := Lib.hid hb
  have HMap := Lib.hid hmap
  clear hb hmap
  by_cases hlt : k < m.length
  case pos =>
    obtain ⟨b, off, rfl, c0, c1, c2, c3⟩ := (HM.out.below HB.out).at_ k hlt
    have hkey := rightB_in Hrm.out HFM.out k hlt
    have HPut := Lib.hid (putM_take m k hlt)
    generalize m[k] = x at *
    obtain ⟨w5, hrun, hmap5, hturn⟩ := (HMap.out.below (below1 wr (.cells #[.int .i64 x.node, .int .i64 x.count, .int .i64 x.work, .int .i64 x.cycles] 73))).update numK_inj keyed3 Tryz.underlying90 (by unfold maxLen; omega) (x := x.node) (y := x) (keyOf_num x.node hkey)
    have HMap5 := Lib.hid hmap5
    have HB5 := Lib.hid ((HB.out.alloc HB.out.size (.cells #[.int .i64 x.node, .int .i64 x.count, .int .i64 x.work, .int .i64 x.cycles] 73)).grown hturn.grown (by have := HB.out.size; simp; omega) (fun j hj => by cases hj; exact HBm.out))
    simp only [numK, nodeV] at hrun
    clear hmap5 hturn hkey
    go_wp2_with fail
    go_roundw
    case rel => exact ⟨HB5.out, k + 1, hlt, by go_num, by rw [HPut.out]; exact HMap5.out⟩
    case measure => simp [intOf]; omega
  obtain rfl : k = m.length := by omega
  have hmap0 : MapF numK nodeV Tryz.prog 3 wr Bm (m.length + 0) (putK l m 0) := by
    have := HMap.out
    rw [List.take_length] at this
    exact this
  have HMap0 := Lib.hid hmap0
  clear hmap0 HMap hlt hk
  go_wp2_with fail
  have HBw := HB
  clear HB
  go_loopw [10, 11, 37] (fun _ _ i wr => RowKit.Below w.heap.size w wr ∧ ∃ k : Nat, k ≤ l.length ∧ i = .int .i64 k ∧ MapF numK nodeV Tryz.prog 3 wr Bm (m.length + k) (putK l m k)) (fun _ _ i _ => l.length - (intOf i).toNat)
  case atStart => exact ⟨HBw.out, 0, Nat.zero_le _, rfl, HMap0.out⟩
  case round =>
  obtain ⟨hb, k, hk, rfl, hmap⟩ := hrel
  have HB := Lib.hid hb
  have HMap := Lib.hid hmap
  clear hb hmap
  by_cases hlt : k < l.length
  case pos =>
    obtain ⟨b, off, rfl, c0, c1, c2, c3⟩ := (HL.out.below HB.out).at_ k hlt
    have hkey := rightB_in Hrl.out HFL.out k hlt
    have hput := putK_succ l m k hlt
    generalize l[k] = x at *
    have hlk := (HMap.out.below (below1 wr (.cells #[.int .i64 x.node, .int .i64 x.count, .int .i64 x.work, .int .i64 x.cycles] 73))).lookup keyed3 Tryz.underlying90 (zeroNode _) (x := x.node) (keyOf_num x.node hkey)
    rw [map_getD] at hlk
    have hputc : putK l m (k + 1) = fupd (putK l m k) x.node (cut ((putK l m k x.node).getD zeroN) x) := hput
    generalize (putK l m k x.node).getD zeroN = c at *
    obtain ⟨w5, hrun, hmap5, hturn⟩ := (HMap.out.below (below2 wr (.cells #[.int .i64 x.node, .int .i64 x.count, .int .i64 x.work, .int .i64 x.cycles] 73) (.cells #[.int .i64 c.node, .int .i64 c.count, .int .i64 c.work, .int .i64 c.cycles] 73))).update numK_inj keyed3 Tryz.underlying90 (by unfold maxLen; omega) (x := x.node) (y := cut c x) (keyOf_num x.node hkey)
    have HMap5 := Lib.hid hmap5
    have HPut := Lib.hid hputc
    have HB5 := Lib.hid ((HB.out.trans ((below2 wr (.cells #[.int .i64 x.node, .int .i64 x.count, .int .i64 x.work, .int .i64 x.cycles] 73) (.cells #[.int .i64 c.node, .int .i64 c.count, .int .i64 c.work, .int .i64 c.cycles] 73)).mono HB.out.size)).grown hturn.grown (by have := HB.out.size; simp; omega) (fun j hj => by cases hj; exact HBm.out))
    simp only [numK, nodeV, cut] at hrun hlk
    clear hmap5 hturn hkey hput hputc
    go_wp2_with fail
    go_roundw
    case rel => exact ⟨HB5.out, k + 1, hlt, by go_num, by rw [HPut.out]; exact HMap5.out⟩
    case measure => simp [intOf]; omega
  obtain rfl : k = l.length := by omega
  have hmap0 : MapF numK nodeV Tryz.prog 3 wr Bm (m.length + l.length) (putL l m) := by
    have := HMap.out
    unfold putK at this
    rw [List.take_length] at this
    exact this
  have HMapL := Lib.hid hmap0
  clear hmap0 HMap HMap0 hlt hk
  go_wp2_with (at_range; refine wpList_range_mapF _ rfl _ 90 rfl 3 73 keyed3 Tryz.underlying90 Bm _ (putL l m) rfl HMapL.out ?_; intro w0 cnt hu hg0 hs0)
  go_frame
  have HU0 := Lib.hid hu
  have HB0 := Lib.hid (HB.out.grown hg0 HB.out.size (fun j hj => by cases hj))
  have HR0 := Lib.hid HB.out.size
  have HS0 := Lib.hid hs0
  have HBR := Lib.hid HMapL.out.lt
  clear hu hg0 hs0
  generalize wr.heap.size = R at *
  go_loopw [12, 14] (fun v _ W => ∃ ks cnt, Under numK nodeV Tryz.prog 3 W Bm R (m.length + l.length) (putL l m) ks cnt ∧ W.ownsRow (R + 1) 73 4 v ((ks.map Prod.snd).filter nonzero).length (nodeVals ((ks.map Prod.snd).filter nonzero)) ∧ RowKit.Below w.heap.size w W ∧ R + 1 ≤ W.heap.size) (fun _ _ W => W.rangeLeft Bm R)
  case atStart => exact ⟨[], cnt, HU0.out, World.ownsRow_nil _ _ _ _, HB0.out, by have := HS0.out; omega⟩
  case round =>
  obtain ⟨ks, cnt, hu, hown, hb, hsz⟩ := hrel
  have HU := Lib.hid hu
  have HOwn := Lib.hid hown
  have HBr := Lib.hid hb
  have HSz := Lib.hid hsz
  clear hu hown hb hsz HB
  have hlen : ((ks.map Prod.snd).filter nonzero).length ≤ ks.length := by have := List.length_filter_le nonzero (ks.map Prod.snd); simpa using this
  have HLen := Lib.hid hlen
  clear hlen
  go_wp2_with (at_next; refine wpList_next_mapF _ rfl _ rfl 3 keyed3 numK_inj Bm _ _ _ ks cnt rfl HU.out ?_ ?_)
  · intro hmet
    have HMet := Lib.hid hmet
    have hsrt := sorted_own 73 (fun _ => True) ⟨zeroN, trivial⟩ _ enters73 cmp_diff swo_diff _ (fun _ _ => trivial) u12 (R + 1) wr (by have h1 := HLen.out; have h2 := hmet.2.2.2; omega) HOwn.out HSz.out
    have HSrt := Lib.hid hsrt
    clear hmet hsrt
    go_wp2_with fail
    refine HSrt.out.mono ?_
    rintro e w9 ⟨rfl, d, hperm, hsorted, hb9, hd, -⟩
    have HD := Lib.hid hd
    have HB9 := Lib.hid hb9
    have HP := Lib.hid hperm
    have HO := Lib.hid hsorted
    clear hd hb9 hperm hsorted
    go_wp2_with fail
    go_ret2
    refine ⟨HBr.out.trans (HB9.out.mono (by have := HR0.out; omega)), _, 0, rfl, ?_⟩
    rw [if_neg (by rw [Hrl.out, Hrm.out]; simp)]
    obtain ⟨m1, m2, m3, m4⟩ := HMet.out
    have hin : ∀ x y, putL l m x = some y → inInt x := fun x y h => by
      have e := putL_is l m Hrl.out Hrm.out HFL.out HFM.out x
      have hx : (∃ z ∈ l, z.node = x) ∨ (∃ z ∈ m, z.node = x) := by
        apply Classical.byContradiction
        intro hn
        obtain ⟨n1, n2⟩ := not_or.1 hn
        have g := (putL_get l m (rightB_asc Hrl.out)).2 x (fun z hz e => n1 ⟨z, hz, e⟩)
        rw [(putM_get m (rightB_asc Hrm.out)).2 x (fun z hz e => n2 ⟨z, hz, e⟩)] at g
        rw [g] at h; cases h
      rcases hx with ⟨z, hz, rfl⟩ | ⟨z, hz, rfl⟩
      · obtain ⟨i, hi, rfl⟩ := List.getElem_of_mem hz
        exact rightB_in Hrl.out HFL.out i hi
      · obtain ⟨i, hi, rfl⟩ := List.getElem_of_mem hz
        exact rightB_in Hrm.out HFM.out i hi
    refine ⟨rfl, d, progDiff_is l m Hrl.out Hrm.out HFL.out HFM.out ks m1 m2 (fun x y h => m3 x y _ (keyOf_num x (hin x y h)) h) d HP.out (fun i j h1 h2 => ?_), HD.out⟩
    have := HO.out i j h1 h2
    exact fun hlt => by have h2 := (cmpI_lt _ _).2 hlt; omega
  · intro x y kl w1 cnt1 hkey hf hu1 hlt1 hg1 hs1 hen
    have hown1 := HOwn.out.kept hg1 (.inr (fun e => by have := (HOwn.out.lt R e).1; omega))
    have hb1 := HBr.out.grown hg1 HBr.out.size (fun j hj => by cases hj; exact HR0.out)
    have hy := below1 w1 (.cells #[.int .i64 y.node, .int .i64 y.count, .int .i64 y.work, .int .i64 y.cycles] 73)
    have hq := alloc_new w1 (.cells #[.int .i64 y.node, .int .i64 y.count, .int .i64 y.work, .int .i64 y.cycles] 73)
    have hnz := prof_nonzero y w1.heap.size 73 (w1.alloc (.cells #[.int .i64 y.node, .int .i64 y.count, .int .i64 y.work, .int .i64 y.cycles] 73)) ((HG.out.below hb1).below hy) hq
    have HNZ := Lib.hid hnz
    have HQ := Lib.hid hq
    have HY := Lib.hid hy
    have HU1 := Lib.hid hu1
    have HOwn1 := Lib.hid hown1
    have HB1' := Lib.hid hb1
    have HLt1 := Lib.hid hlt1
    have hsz1 : Hid (R + 1 ≤ w1.heap.size) := by unfold Hid; rw [hs1]; exact HSz.out
    clear hnz hq hy hu1 hown1 hb1 hlt1 hkey hf hg1 hs1
    go_wp2_with fail
    refine HNZ.out.mono ?_
    rintro e w2' ⟨rfl, hb2⟩
    have HB2' := Lib.hid hb2
    have hown2 := ((HOwn1.out.kept (row := none) ⟨HY.out.os, HY.out.tape, HY.out.output, HY.out.size, fun i hi _ => HY.out.block i hi⟩ (by cases u12.ownBlock <;> simp)).kept (row := none) ⟨hb2.os, hb2.tape, hb2.output, hb2.size, fun i hi _ => hb2.block i hi⟩ (by cases u12.ownBlock <;> simp))
    have hu2 := (HU1.out.below HY.out).below hb2
    have hbw2 := HB1'.out.trans ((HY.out.trans (hb2.mono HY.out.size)).mono HB1'.out.size)
    have hsz2 : R + 1 ≤ w2'.heap.size := by have h1 := hb2.size; have h2 := HY.out.size; have h3 := hsz1.out; omega
    have hq2 := heap_keep hb2 HQ.out
    have HOwn2 := Lib.hid hown2
    have HU2 := Lib.hid hu2
    have HBw2 := Lib.hid hbw2
    have HSz2 := Lib.hid hsz2
    have HQ2 := Lib.hid hq2
    clear hb2 hown2 hu2 hbw2 hsz2 hq2
    cases hz : nonzero y
    case false =>
      have HZ := Lib.hid hz
      clear hz
      go_wp2_with fail
      have hfil : ((ks ++ [(x, y)]).map Prod.snd).filter nonzero = (ks.map Prod.snd).filter nonzero := by rw [List.map_append, List.filter_append]; simp [HZ.out]
      go_roundw
      case rel => exact ⟨ks ++ [(x, y)], cnt1, HU2.out, by rw [hfil]; exact HOwn2.out, HBw2.out, HSz2.out⟩
      case measure => rw [HU2.out.left_eq, HU.out.left_eq]; exact HLt1.out
    case true =>
      have HZ := Lib.hid hz
      clear hz
      have q0 := (block_cell HQ2.out 0 (by simp)).1
      have q1 := (block_cell HQ2.out 1 (by simp)).1
      have q2 := (block_cell HQ2.out 2 (by simp)).1
      have q3 := (block_cell HQ2.out 3 (by simp)).1
      simp only [List.getElem_toArray, List.getElem_cons_zero, List.getElem_cons_succ] at q0 q1 q2 q3
      obtain ⟨i0, hi, hzz⟩ := Option.map_eq_some_iff.1 infoNode
      simp only [Prod.mk.injEq] at hzz
      obtain ⟨hz0, hz1, hz2⟩ := hzz
      have hnews : ∀ j u, (nodeCells y)[j]? = some u → (w2'.alloc (.cells #[.int .i64 y.node, .int .i64 y.count, .int .i64 y.work, .int .i64 y.cycles] 73)).cell? ((⟨w2'.heap.size, 0, none⟩ : Addr).add j) = some u := by
        intro j u hj
        obtain ⟨hlt, hj⟩ := List.getElem?_eq_some_iff.1 hj
        rw [show (⟨w2'.heap.size, 0, none⟩ : Addr).add j = ⟨w2'.heap.size, j, none⟩ by unfold Addr.add; split <;> simp_all]
        rw [cell_of_heap (alloc_new w2' (.cells #[.int .i64 y.node, .int .i64 y.count, .int .i64 y.work, .int .i64 y.cycles] 73)) j]
        rw [← hj]
        exact (Array.getElem?_eq_getElem (by simpa [nodeCells] using hlt))
      have HNews := Lib.hid hnews
      have hone : ∀ u ∈ nodeCells y, u.oneCell' = true := by intro u hu; simp [nodeCells] at hu; rcases hu with rfl | rfl | rfl | rfl <;> rfl
      have HOne := Lib.hid hone
      have hbd : Hid (((ks.map Prod.snd).filter nonzero).length + 1 ≤ 200000001) := by
        unfold Hid
        have h1 := HLen.out
        have h2 := HU2.out.len
        simp at h2; omega
      have HOwn3 := Lib.hid (HOwn2.out.alloc (.cells #[.int .i64 y.node, .int .i64 y.count, .int .i64 y.work, .int .i64 y.cycles] 73))
      clear hnews hone
      go_wp2_with (at_builtin; refine wpList_append_own _ rfl _ _ 29 rfl (R + 1) 73 i0 _ 4 32 Tryz.underlying29 hi hz0 hz1 hz2 rfl (by omega) u12 _ _ rfl HOwn3.out ⟨w2'.heap.size, 0, none⟩ 1 1 (nodeCells y) rfl rfl HNews.out HOne.out (by have := hbd.out; unfold maxLen; omega) (by have := hbd.out; omega) (by have := HSz2.out; simp; omega) ?_; intro v' w3 ho' hg' hn'; have HO2 := Lib.hid ho'; have HG2 := Lib.hid hg'; clear ho' hg' hn')
      have hfil : ((ks ++ [(x, y)]).map Prod.snd).filter nonzero = (ks.map Prod.snd).filter nonzero ++ [y] := by rw [List.map_append, List.filter_append]; simp [HZ.out]
      have hvals : nodeVals ((ks.map Prod.snd).filter nonzero ++ [y]) = nodeVals ((ks.map Prod.snd).filter nonzero) ++ nodeCells y := by simp [nodeVals]
      have hle := HOwn2.out.lt
      have hbl := HU2.out.map.lt
      have hrl := HU2.out.lt
      have hrow : ∀ j, u12.ownBlock = some j → R + 1 ≤ j := fun j hj => (hle j hj).1
      have hBR := HBR.out
      have hu3 := (HU2.out.below (below1 w2' (.cells #[.int .i64 y.node, .int .i64 y.count, .int .i64 y.work, .int .i64 y.cycles] 73))).kept HG2.out (fun e => by have := hrow _ e.symm; omega) (fun e => by have := hrow _ e.symm; omega)
      have hb3 := (HBw2.out.trans ((below1 w2' (.cells #[.int .i64 y.node, .int .i64 y.count, .int .i64 y.work, .int .i64 y.cycles] 73)).mono HBw2.out.size)).grown HG2.out (by have := HBw2.out.size; simp; omega) (fun j hj => by have := hrow j hj; have := HR0.out; omega)
      go_roundw
      case rel => exact ⟨ks ++ [(x, y)], cnt1, hu3, by rw [hfil, hvals, List.length_append]; exact HO2.out, hb3, by have h1 := HSz2.out; have h2 := HG2.out.size; simp at h2; omega⟩
      case measure => rw [hu3.left_eq, HU.out.left_eq]; exact HLt1.out
end Go.Proofs.YtdkcjeaabbkdeaaGreatDoor
end
section
namespace Go.Proofs.YtdkcjeaabbkdeaaGreatDoor
open Go.RowKit Go.Sort Go.Shelf Go.Maps
set_option linter.unusedVariables false
set_option linter.unusedSimpArgs false

/-- The function of a step; its node. -/
def fnOf (p : Pr) (s : Step) : Fn' := p.funs.getD s.fn.toNat ⟨0, [], [], []⟩
def nodeOf (p : Pr) (s : Step) : Int := if (fnOf p s).at_.length = 0 then -1 else (fnOf p s).at_.getD s.ins.toNat 0
/-- What is asked of a step. -/
structure StepOK (p : Pr) (s : Step) : Prop where
  fn : 0 ≤ s.fn ∧ s.fn < p.funs.length
  ins : 0 ≤ s.ins ∧ ((fnOf p s).at_.length ≠ 0 → s.ins < (fnOf p s).at_.length)
  node : -4611686018427387904 ≤ nodeOf p s ∧ nodeOf p s ≤ 4611686018427387903
  work : 1 ≤ s.work ∧ s.work ≤ 1125899906842624
def costOf (lanes : Int) (n : Int) (c : NodeC) (s : Step) : NodeC := ⟨n, wrap64 (c.count + 1), wrap64 (c.work + s.work), sumL [c.cycles, 1, (s.work - 1 + lanes - 1) / lanes]⟩
def stepS (p : Pr) (lanes : Int) (f : Int → Option NodeC) (s : Step) : Int → Option NodeC := fupd f (nodeOf p s) (costOf lanes (nodeOf p s) ((f (nodeOf p s)).getD zeroN) s)
/-- What stands at the nodes behind the loop over the steps. -/
def putS (p : Pr) (lanes : Int) (l : List Step) : Int → Option NodeC := l.foldl (stepS p lanes) (fun _ => none)
theorem putS_take (p : Pr) (lanes : Int) (l : List Step) (k : Nat) (h : k < l.length) : putS p lanes (l.take (k + 1)) = stepS p lanes (putS p lanes (l.take k)) l[k] := foldl_take_succ _ _ _ _ h
/-- The costs of all nodes. -/
def NodesIs (p : Pr) (lanes : Int) (l : List Step) (d : List NodeC) : Prop := Asc d ∧ ∀ x, x ∈ d ↔ putS p lanes l x.node = some x
def NodesPost (p : Pr) (lanes : Int) (r : List Step × Int) (w : World) (e : Ending) (w' : World) : Prop := RowKit.Below w.heap.size w w' ∧ ∃ v err, e = .returned (.tuple #[v, .int .i64 err]) ∧
  if r.2 ≠ 0 then err = r.2 ∧ NodesL w' v [] else if lanes < 1 ∨ 64 < lanes then err = 2 ∧ NodesL w' v [] else
    err = 0 ∧ ∃ d A c, v = .slice A d.length c ∧ NodesIs p lanes r.1 d ∧ NodesL w' v d ∧ (A = none → d = [] ∧ c = 0)
theorem putS_in (p : Pr) (lanes : Int) (l : List Step) : ∀ x y, putS p lanes l x = some y → y.node = x ∧ ∃ s ∈ l, nodeOf p s = x := by
  have key : ∀ (l : List Step) (f : Int → Option NodeC) (Q : Int → Prop), (∀ x y, f x = some y → y.node = x ∧ Q x) → ∀ x y, l.foldl (stepS p lanes) f x = some y → y.node = x ∧ (Q x ∨ ∃ s ∈ l, nodeOf p s = x) := by
    intro l
    induction l with
    | nil => intro f Q hf x y h; exact ⟨(hf x y h).1, .inl (hf x y h).2⟩
    | cons a l ih =>
      intro f Q hf x y h
      rw [List.foldl_cons] at h
      obtain ⟨h1, h2⟩ := ih (stepS p lanes f a) (fun x => Q x ∨ nodeOf p a = x) (fun x y hxy => by
        unfold stepS fupd at hxy
        by_cases e : x = nodeOf p a
        · rw [if_pos e] at hxy
          cases hxy
          exact ⟨e.symm, .inr e.symm⟩
        · rw [if_neg e] at hxy
          exact ⟨(hf x y hxy).1, .inl (hf x y hxy).2⟩) x y h
      refine ⟨h1, ?_⟩
      rcases h2 with (h2 | h2) | ⟨s, hs, h2⟩
      · exact .inl h2
      · exact .inr ⟨a, by simp, h2⟩
      · exact .inr ⟨s, List.mem_cons_of_mem _ hs, h2⟩
  intro x y h
  obtain ⟨h1, h2⟩ := key l _ (fun _ => False) (fun x y h => by cases h) x y h
  exact ⟨h1, h2.resolve_left id⟩
/-- What the program's Nodes gives. -/
theorem nodesIs_of (p : Pr) (lanes : Int) (l : List Step) (hin : ∀ s ∈ l, inInt (nodeOf p s)) (n : Nat) (ks : List (Int × NodeC)) (h : Met numK Tryz.prog 3 n (putS p lanes l) ks) (d : List NodeC) (hp : d.Perm (ks.map Prod.snd)) (hs : ∀ i j (h1 : i < j) (h2 : j < d.length), ¬ d[j].node - d[i].node < 0) : NodesIs p lanes l d := by
  obtain ⟨h1, h2, h3, h4⟩ := h
  have hnd : ((ks.map Prod.snd).map NodeC.node).Nodup := by
    have : (ks.map Prod.snd).map NodeC.node = ks.map Prod.fst := by
      rw [List.map_map]
      exact List.map_congr_left fun q hq => (putS_in p lanes l _ _ (h2 q hq)).1
    rw [this]; exact h1
  have hdn : (d.map NodeC.node).Nodup := (hp.map NodeC.node).nodup_iff.2 hnd
  refine ⟨?_, fun x => ?_⟩
  · unfold Asc
    rw [List.pairwise_iff_getElem]
    intro i j hi hj hij
    have := hs i j hij hj
    have hne : d[i].node ≠ d[j].node := fun e => by
      unfold List.Nodup at hdn
      rw [List.pairwise_iff_getElem] at hdn
      have := hdn i j (by simpa using hi) (by simpa using hj) hij
      simp at this
      exact this e
    omega
  · rw [hp.mem_iff]
    constructor
    · intro a
      obtain ⟨q, hq, rfl⟩ := List.mem_map.1 a
      have e := h2 q hq
      rw [(putS_in p lanes l _ _ e).1]; exact e
    · intro a
      obtain ⟨-, s, hs, e⟩ := putS_in p lanes l _ _ a
      exact List.mem_map.2 ⟨_, h3 _ _ _ (keyOf_num _ (e ▸ hin s hs)) a, rfl⟩
theorem enters52 : Enters Tryz.prog 52 := enters_of Tryz.func52 (by kernel_rfl) rfl
theorem stepsL_at {w : World} {A : Option Addr} {n c : Nat} {xs : List Step} (h : Sl 4 RStep w (.slice A n c) xs) (j : Nat) (hj : j < xs.length) : ∃ b off, A = some ⟨b, off, none⟩ ∧ w.cell? ⟨b, off + j * 4, none⟩ = some (.int .i64 xs[j].deep) ∧ w.cell? ⟨b, off + j * 4 + 1, none⟩ = some (.int .i64 xs[j].fn) ∧ w.cell? ⟨b, off + j * 4 + 2, none⟩ = some (.int .i64 xs[j].ins) ∧ w.cell? ⟨b, off + j * 4 + 3, none⟩ = some (.int .i64 xs[j].work) := by
  obtain ⟨A', c', he, hm, hc⟩ := h
  cases he
  obtain ⟨b, off, cs, hA, hl, hcs, hr⟩ := hc j hj
  obtain rfl : cs = stepCells xs[j] := hr
  exact ⟨b, off, hA, by simpa [stepCells] using hcs 0 (by simp [stepCells]), by simpa [stepCells] using hcs 1 (by simp [stepCells]), by simpa [stepCells] using hcs 2 (by simp [stepCells]), by simpa [stepCells] using hcs 3 (by simp [stepCells])⟩

theorem reads_turned {w w' : World} {b : Nat} (h : w.mapTurned w' b) : Reads w w' := by
  have hg := h.grown
  obtain ⟨es, cl, es', cl', hb, -⟩ := h
  intro a v hc
  refine (World.cell?_of_block (hg.block a.block (World.block_lt_of_cell? w a hc) ?_)).trans hc
  intro e
  injection e with e
  subst e
  unfold World.cell? at hc
  rw [hb] at hc
  simp at hc
theorem wrapIs (x : Int) : IntKind.i64.wrap x = wrap64 x := IntWalk.i64_left x
set_option maxRecDepth 100000 in
set_option maxHeartbeats 2000000 in
theorem prof_nodes (p : Pr) (sem : Ins → List (List Int) → List (List Int) × Int) (cp : List Value) (args : List (List Int)) (va : Value) (left lanes : Int) (w : World) (hp : RPr w cp p) (hs : Sane p) (hd : ∀ f ∈ p.funs, ∀ x ∈ f.code, x.op ≠ 16 → Does sem x) (hg : Glob w) (ha : Lists w va args)
    (hok : ∀ s ∈ (traceF sem p args left).1, StepOK p s) (hlen : (traceF sem p args left).1.length ≤ 1000000) :
    Calls Tryz.prog 13 #[.agg cp.toArray, va, .int .i64 left, .int .i64 lanes] w (NodesPost p lanes (traceF sem p args left) w) := by
  have HT := Lib.hid (fun W (hb : RowKit.Below w.heap.size w W) => vec_trace p sem cp args va left W (stays_pr _ _ _ _ (reads_below hb) hp) hs hd (hg.below hb) (ha.below hb))
  have HP := Lib.hid hp
  have HOK := Lib.hid hok
  generalize hr : traceF sem p args left = r at *
  clear hr
  obtain ⟨r1, r2⟩ := r
  obtain ⟨vfs, rfl, hfs⟩ := hp
  obtain ⟨S, sc, rfl, hsm, -⟩ := hfs.form
  obtain ⟨A, ac, rfl, ham⟩ := ha.form
  have HFs := Lib.hid hfs
  have hlen' : r1.length ≤ 1000000 := hlen
  clear hs hd hg ha hfs hok hlen
  have hb1 := below1 w (.cells #[.slice S p.funs.length sc, .int .i64 p.main] 25)
  have HQ := Lib.hid (alloc_new w (.cells #[.slice S p.funs.length sc, .int .i64 p.main] 25))
  have HB1 := Lib.hid hb1
  have HT1 := Lib.hid (HT.out _ hb1)
  clear hb1
  go_enter Tryz.func13, Tryz.ntmps13
  go_wp2_with fail
  refine HT1.out.mono ?_
  rintro e w1 ⟨hb1, vt, rfl, hst⟩
  have HB1' := Lib.hid (RowKit.Below.trans HB1.out (hb1.mono HB1.out.size))
  have HQ1 := Lib.hid (heap_keep hb1 HQ.out)
  have HSt := Lib.hid hst
  obtain ⟨T, tc, rfl, htm⟩ := hst.form
  clear hb1 hst
  by_cases hr2 : r2 = 0
  case neg =>
    go_wp2_with fail
    go_ret2
    refine ⟨HB1'.out, _, r2, rfl, ?_⟩
    rw [if_pos hr2]
    exact ⟨rfl, nodesL_nil _ _ _⟩
  subst hr2
  by_cases hl1 : lanes < 1
  case pos =>
    go_wp2_with fail
    go_ret2
    refine ⟨HB1'.out, _, 2, rfl, ?_⟩
    rw [if_neg (by simp), if_pos (.inl hl1)]
    exact ⟨rfl, nodesL_nil _ _ _⟩
  by_cases hl2 : 64 < lanes
  case pos =>
    go_wp2_with fail
    go_ret2
    refine ⟨HB1'.out, _, 2, rfl, ?_⟩
    rw [if_neg (by simp), if_pos (.inr hl2)]
    exact ⟨rfl, nodesL_nil _ _ _⟩
  have hmm := @run_makeMap Tryz.prog
  go_wp2_with fail
  have hM0 := mapF_made (mkK := numK) (mkV := nodeV) w1 Tryz.prog 3
  have HM0 := Lib.hid hM0
  have HB3 := Lib.hid (HB1'.out.alloc HB1'.out.size (.map #[] 0))
  have HBm := Lib.hid HB1'.out.size
  have HSt3 := Lib.hid (HSt.out.reads stays_step (reads_below (below1 w1 (.map #[] 0))))
  have HQ3 := Lib.hid (heap_keep (below1 w1 (.map #[] 0)) HQ1.out)
  clear hM0 hmm
  have HQlt : Hid (w.heap.size < w1.heap.size) := by unfold Hid; have := (Array.getElem?_eq_some_iff.1 HQ1.out).1; exact this
  generalize hw3 : w1.alloc (.map #[] 0) = w3 at *
  clear hw3
  generalize hBm : w1.heap.size = Bm at *
  clear hBm
  go_loopw [14, 15, 16, 17, 40] (fun _ _ _ _ i wr => RowKit.Below w.heap.size w wr ∧ ∃ k : Nat, k ≤ r1.length ∧ i = .int .i64 k ∧ MapF numK nodeV Tryz.prog 3 wr Bm k (putS p lanes (r1.take k)) ∧ Reads w3 wr) (fun _ _ _ _ i _ => r1.length - (intOf i).toNat)
  case atStart => exact ⟨HB3.out, 0, Nat.zero_le _, rfl, HM0.out, Reads.refl _⟩
  case round =>
  obtain ⟨hb, k, hk, rfl, hmap, hold⟩ := hrel
  have HB := Lib.hid hb
  have HMap := Lib.hid hmap
  have HR := Lib.hid hold
  clear hb hmap hold
  by_cases hlt : k < r1.length
  case pos =>
    obtain ⟨b, off, rfl, c0, c1, c2, c3⟩ := stepsL_at (Sl.reads stays_step HSt3.out HR.out) k hlt
    have hok := HOK.out r1[k] (List.getElem_mem hlt)
    have HPut := Lib.hid (putS_take p lanes r1 k hlt)
    generalize r1[k] = s at *
    obtain ⟨F, hF⟩ : ∃ F : Nat, s.fn = F := ⟨s.fn.toNat, by have := hok.fn; omega⟩
    obtain ⟨I, hI⟩ : ∃ I : Nat, s.ins = I := ⟨s.ins.toNat, by have := hok.ins; omega⟩
    have hFl : F < p.funs.length := by have := hok.fn; omega
    obtain ⟨fb, foff, vc, vo, vat, rfl, -, -, -, d3, -, -, hat⟩ := fn_at (Sl.below stays_fn HFs.out HB.out) F hFl
    obtain ⟨U, uc, rfl, hum⟩ := hat.form
    have k0 := HR.out _ _ (block_cell HQ3.out 0 (by simp)).1
    simp only [List.getElem_toArray, List.getElem_cons_zero] at k0
    have hfn : fnOf p s = p.funs[F] := by unfold fnOf; rw [hF, Int.toNat_natCast, List.getD_eq_getElem?_getD, List.getElem?_eq_getElem hFl]; rfl
    have hnode : nodeOf p s = if p.funs[F].at_.length = 0 then -1 else p.funs[F].at_.getD I 0 := by unfold nodeOf; rw [hfn, hI, Int.toNat_natCast]
    have hin : inInt (nodeOf p s) := by have := hok.node; unfold inInt; omega
    have hwk := hok.work
    have hIl : p.funs[F].at_.length ≠ 0 → I < p.funs[F].at_.length := by have := hok.ins.2; rw [hfn, hI] at this; intro h; have := this h; omega
    have HIn := Lib.hid hin
    have HIl := Lib.hid hIl
    have HHat := Lib.hid hat
    have HNode := Lib.hid hnode
    generalize hats : p.funs[F].at_ = ats at *
    rw [hF] at c1
    rw [hI] at c2
    have hf0 : (0 : Int) ≤ (F : Int) := by omega
    have hf1 : (F : Int) < (p.funs.length : Int) := by omega
    have hi0 : (0 : Int) ≤ (I : Int) := by omega
    clear hok hfn hnode hin hIl hat hats
    have hlk := (HMap.out.below (below1 wr (.cells #[.int .i64 s.deep, .int .i64 F, .int .i64 I, .int .i64 s.work] 58))).lookup keyed3 Tryz.underlying90 (zeroNode _) (x := nodeOf p s) (keyOf_num _ HIn.out)
    rw [map_getD] at hlk
    have hput : putS p lanes (r1.take (k + 1)) = fupd (putS p lanes (r1.take k)) (nodeOf p s) (costOf lanes (nodeOf p s) ((putS p lanes (r1.take k) (nodeOf p s)).getD zeroN) s) := HPut.out
    generalize (putS p lanes (r1.take k) (nodeOf p s)).getD zeroN = c at *
    obtain ⟨W1, hW1⟩ : ∃ W1, W1 = (wr.alloc (.cells #[.int .i64 s.deep, .int .i64 F, .int .i64 I, .int .i64 s.work] 58)).alloc (.cells #[.int .i64 c.node, .int .i64 c.count, .int .i64 c.work, .int .i64 c.cycles] 73) := ⟨_, rfl⟩
    have hb2 : RowKit.Below wr.heap.size wr W1 := by rw [hW1]; exact below2 _ _ _
    have hx : W1.heap[wr.heap.size]? = some (.cells #[.int .i64 s.deep, .int .i64 F, .int .i64 I, .int .i64 s.work] 58) := by rw [hW1]; exact heap_alloc (alloc_new wr _) _
    have hc : W1.heap[wr.heap.size + 1]? = some (.cells #[.int .i64 c.node, .int .i64 c.count, .int .i64 c.work, .int .i64 c.cycles] 73) := by
      rw [hW1]
      have := alloc_new (wr.alloc (.cells #[.int .i64 s.deep, .int .i64 F, .int .i64 I, .int .i64 s.work] 58)) (.cells #[.int .i64 c.node, .int .i64 c.count, .int .i64 c.work, .int .i64 c.cycles] 73)
      simpa using this
    have hS : ∀ W, RowKit.Below W1.heap.size W1 W → W.cell? ⟨wr.heap.size + 1, 1, none⟩ = some (.int .i64 c.count) ∧ W.cell? ⟨wr.heap.size + 1, 2, none⟩ = some (.int .i64 c.work) ∧ W.cell? ⟨wr.heap.size + 1, 3, none⟩ = some (.int .i64 c.cycles) ∧ W.cell? ⟨wr.heap.size, 3, none⟩ = some (.int .i64 s.work) := fun W hb => by
      have g1 := heap_keep hb hx
      have g2 := heap_keep hb hc
      exact ⟨(block_cell g2 1 (by simp)).1, (block_cell g2 2 (by simp)).1, (block_cell g2 3 (by simp)).1, (block_cell g1 3 (by simp)).1⟩
    have hrow := alloc_new W1 (.cells #[.int .i64 c.cycles, .int .i64 1, .int .i64 ((s.work - 1 + lanes - 1) / lanes)] 3)
    have hints : Ints (W1.alloc (.cells #[.int .i64 c.cycles, .int .i64 1, .int .i64 ((s.work - 1 + lanes - 1) / lanes)] 3)).drew (.slice (some ⟨W1.heap.size, 0, none⟩) 3 3) [c.cycles, 1, (s.work - 1 + lanes - 1) / lanes] := by
      refine ⟨_, 3, rfl, by simp, fun j hj => ⟨W1.heap.size, 0, [.int .i64 ([c.cycles, 1, (s.work - 1 + lanes - 1) / lanes][j])], rfl, rfl, fun i hi => ?_, rfl⟩⟩
      have hi0 : i = 0 := by simpa using hi
      subst hi0
      have hj3 : j < 3 := by simpa using hj
      have := (block_cell hrow j (by simpa using hj3)).1
      simp only [Nat.zero_add, Nat.mul_one, Nat.add_zero]
      refine Eq.trans ?_ (this.trans ?_)
      · rfl
      · have : j = 0 ∨ j = 1 ∨ j = 2 := by omega
        rcases this with rfl | rfl | rfl <;> rfl
    have hsum := prof_sum [c.cycles, 1, (s.work - 1 + lanes - 1) / lanes] _ _ hints (by simp)
    have hb3 : RowKit.Below W1.heap.size W1 (W1.alloc (.cells #[.int .i64 c.cycles, .int .i64 1, .int .i64 ((s.work - 1 + lanes - 1) / lanes)] 3)).drew := (below1 W1 _).drew
    obtain ⟨w5, hrun, hmap5, hturn⟩ := ((HMap.out.below hb2).below hb3).update numK_inj keyed3 Tryz.underlying90 (by unfold maxLen; omega) (x := nodeOf p s) (y := costOf lanes (nodeOf p s) c s) (keyOf_num _ HIn.out)
    have hr5 : Reads wr w5 := ((reads_below hb2).trans (reads_below hb3)).trans (reads_turned hturn)
    have hs5 := (hS _ hb3)
    have hS5 := And.intro (reads_turned hturn _ _ hs5.1) (And.intro (reads_turned hturn _ _ hs5.2.1) (And.intro (reads_turned hturn _ _ hs5.2.2.1) (reads_turned hturn _ _ hs5.2.2.2)))
    have hb5 := ((HB.out.trans (hb2.mono HB.out.size)).trans (hb3.mono (by have := HB.out.size; have := hb2.size; omega))).grown hturn.grown (by have h1 := HB.out.size; have h2 := hb2.size; have h3 := hb3.size; omega) (fun j hj => by cases hj; exact HBm.out)
    have HMap5 := Lib.hid hmap5
    have HPut2 := Lib.hid hput
    have HR5 := Lib.hid hr5
    have HS := Lib.hid hS
    have HS5 := Lib.hid hS5
    have HSum := Lib.hid hsum
    have HB5 := Lib.hid hb5
    have HW1 := Lib.hid hW1
    have HX := Lib.hid (And.intro hx hc)
    have HB2' := Lib.hid hb2
    have a1 : IntKind.i64.wrap (s.work - 1) = s.work - 1 := IntWalk.i64_in _ (by omega)
    have a2 : IntKind.i64.wrap (s.work - 1 + lanes) = s.work - 1 + lanes := IntWalk.i64_in _ (by omega)
    have a3 : IntKind.i64.wrap (s.work - 1 + lanes - 1) = s.work - 1 + lanes - 1 := IntWalk.i64_in _ (by omega)
    have a4 : IntKind.i64.wrap ((s.work - 1 + lanes - 1).tdiv lanes) = (s.work - 1 + lanes - 1) / lanes := IntWalk.i64_quo _ _ (by omega)
    have a5 : IntKind.i64.wrap (c.count + 1) = wrap64 (c.count + 1) := wrapIs _
    have a6 : IntKind.i64.wrap (c.work + s.work) = wrap64 (c.work + s.work) := wrapIs _
    have a7 : (lanes == 0) = false := by simp; omega
    have HA := Lib.hid (And.intro a1 (And.intro a2 (And.intro a3 (And.intro a4 (And.intro a5 (And.intro a6 a7))))))
    simp only [numK, nodeV, costOf] at hrun hlk
    have HRun := Lib.hid hrun
    clear hmap5 hturn hput hS hs5 hS5 hrow hints hsum hb2 hb3 hb5 hr5 hx hc hW1 a1 a2 a3 a4 a5 a6 a7 hrun
    have HK0 := Lib.hid (cell_alloc k0 (.cells #[.int .i64 s.deep, .int .i64 F, .int .i64 I, .int .i64 s.work] 58))
    have HD3 := Lib.hid (cell_alloc d3 (.cells #[.int .i64 s.deep, .int .i64 F, .int .i64 I, .int .i64 s.work] 58))
    have HAt := Lib.hid (HHat.out.below (below1 wr (.cells #[.int .i64 s.deep, .int .i64 F, .int .i64 I, .int .i64 s.work] 58)))
    have HNx := Lib.hid (alloc_new wr (.cells #[.int .i64 s.deep, .int .i64 F, .int .i64 I, .int .i64 s.work] 58))
    have HLk := Lib.hid hlk
    have HSzx : Hid ((wr.alloc (.cells #[.int .i64 s.deep, .int .i64 F, .int .i64 I, .int .i64 s.work] 58)).heap.size = wr.heap.size + 1) := by unfold Hid; simp
    clear k0 d3 hlk
    go_upto_region 10 with (fail)
    clear c0 c1 c2 c3
    generalize hWx : wr.alloc (.cells #[.int .i64 s.deep, .int .i64 F, .int .i64 I, .int .i64 s.work] 58) = Wx at *
    clear hWx
    have k0 := HK0.out
    have d3 := HD3.out
    have x1 := (block_cell HNx.out 1 (by simp)).1
    have x2 := (block_cell HNx.out 2 (by simp)).1
    simp only [List.getElem_toArray, List.getElem_cons_zero, List.getElem_cons_succ] at x1 x2
    by_cases hat0 : ats.length = 0
    case pos =>
      have hn : nodeOf p s = -1 := by rw [HNode.out, if_pos hat0]
      have hlk := HLk.out
      rw [hn] at hlk
      have HN := Lib.hid hn
      clear hn
      go_wp2_with fail
      rw [HSzx.out, ← HW1.out]
      clear hlk k0 d3 x1 x2
      obtain ⟨a1, a2, a3, a4, a5, a6, a7⟩ := HA.out
      have a8 : ¬ lanes = 0 := by simpa using a7
      have hrun := HRun.out
      rw [HN.out] at hrun
      go_region_held3 (fun W => W.cell? ⟨wr.heap.size + 1, 1, none⟩ = some (.int .i64 c.count) ∧ W.cell? ⟨wr.heap.size + 1, 2, none⟩ = some (.int .i64 c.work) ∧ W.cell? ⟨wr.heap.size + 1, 3, none⟩ = some (.int .i64 c.cycles) ∧ W.cell? ⟨wr.heap.size, 3, none⟩ = some (.int .i64 s.work)) (first | assumption | exact HS.out _ (below_drew _) | exact HS.out _ (below1 _ _).drew | exact HS5.out) (first | (refine HSum.out.mono ?_; rintro e w6 ⟨rfl, rfl⟩))
      clear hrun a1 a2 a3 a4 a5 a6 a7 a8
      go_wp2_with fail
      go_roundw
      case rel => exact ⟨HB5.out, k + 1, hlt, by go_num, by rw [HPut2.out]; exact HMap5.out, HR.out.trans HR5.out⟩
      case measure => simp [intOf]; omega
    case neg =>
      have hIl := HIl.out hat0
      obtain ⟨ub, uoff, rfl, e0⟩ := HAt.out.at_ I hIl
      have hn : nodeOf p s = ats[I] := by rw [HNode.out, if_neg hat0, List.getD_eq_getElem?_getD, List.getElem?_eq_getElem hIl]; rfl
      have hlk := HLk.out
      generalize ats[I] = n at *
      rw [hn] at hlk
      have HN := Lib.hid hn
      have hpos : 0 < ats.length := by omega
      clear hn
      go_wp2_with fail
      rw [HSzx.out, ← HW1.out]
      clear hlk k0 d3 x1 x2 e0
      obtain ⟨a1, a2, a3, a4, a5, a6, a7⟩ := HA.out
      have a8 : ¬ lanes = 0 := by simpa using a7
      have hrun := HRun.out
      rw [HN.out] at hrun
      go_region_held3 (fun W => W.cell? ⟨wr.heap.size + 1, 1, none⟩ = some (.int .i64 c.count) ∧ W.cell? ⟨wr.heap.size + 1, 2, none⟩ = some (.int .i64 c.work) ∧ W.cell? ⟨wr.heap.size + 1, 3, none⟩ = some (.int .i64 c.cycles) ∧ W.cell? ⟨wr.heap.size, 3, none⟩ = some (.int .i64 s.work)) (first | assumption | exact HS.out _ (below_drew _) | exact HS.out _ (below1 _ _).drew | exact HS5.out) (first | (refine HSum.out.mono ?_; rintro e w6 ⟨rfl, rfl⟩))
      clear hrun a1 a2 a3 a4 a5 a6 a7 a8
      go_wp2_with fail
      go_roundw
      case rel => exact ⟨HB5.out, k + 1, hlt, by go_num, by rw [HPut2.out]; exact HMap5.out, HR.out.trans HR5.out⟩
      case measure => simp [intOf]; omega
  obtain rfl : k = r1.length := by omega
  have hmap0 : MapF numK nodeV Tryz.prog 3 wr Bm r1.length (putS p lanes r1) := by
    have := HMap.out
    rw [List.take_length] at this
    exact this
  have HMapL := Lib.hid hmap0
  clear hmap0 HMap hlt hk
  go_wp2_with (at_range; refine wpList_range_mapF _ rfl _ 90 rfl 3 73 keyed3 Tryz.underlying90 Bm _ (putS p lanes r1) rfl HMapL.out ?_; intro w0 cnt hu hg0 hs0)
  go_frame
  have HU0 := Lib.hid hu
  have HB0 := Lib.hid (HB.out.grown hg0 HB.out.size (fun j hj => by cases hj))
  have HR0 := Lib.hid HB.out.size
  have HS0 := Lib.hid hs0
  have HBR := Lib.hid HMapL.out.lt
  clear hu hg0 hs0
  generalize wr.heap.size = R at *
  go_loopw [18, 20] (fun v _ W => ∃ ks cnt, Under numK nodeV Tryz.prog 3 W Bm R r1.length (putS p lanes r1) ks cnt ∧ W.ownsRow (R + 1) 73 4 v (ks.map Prod.snd).length (nodeVals (ks.map Prod.snd)) ∧ RowKit.Below w.heap.size w W ∧ R + 1 ≤ W.heap.size) (fun _ _ W => W.rangeLeft Bm R)
  case atStart => exact ⟨[], cnt, HU0.out, World.ownsRow_nil _ _ _ _, HB0.out, by have := HS0.out; omega⟩
  case round =>
  obtain ⟨ks, cnt, hu, hown, hb, hsz⟩ := hrel
  have HU := Lib.hid hu
  have HOwn := Lib.hid hown
  have HBr := Lib.hid hb
  have HSz := Lib.hid hsz
  clear hu hown hb hsz HB
  have hlen : (ks.map Prod.snd).length = ks.length := by simp
  have HLen := Lib.hid hlen
  clear hlen
  go_wp2_with (at_next; refine wpList_next_mapF _ rfl _ rfl 3 keyed3 numK_inj Bm _ _ _ ks cnt rfl HU.out ?_ ?_)
  · intro hmet
    have HMet := Lib.hid hmet
    have hP : ∀ x ∈ ks.map Prod.snd, -4611686018427387904 ≤ x.node ∧ x.node ≤ 4611686018427387903 := fun x hx => by
      obtain ⟨q, hq, rfl⟩ := List.mem_map.1 hx
      obtain ⟨h1, t, ht, h2⟩ := putS_in p lanes r1 _ _ (hmet.2.1 q hq)
      have := (HOK.out t ht).node
      omega
    have hsrt := sorted_own 52 _ ⟨zeroN, by simp [zeroN]⟩ _ enters52 cmp_nodes swo_nodes (ks.map Prod.snd) hP u18 (R + 1) wr (by have h1 := HLen.out; have h2 := hmet.2.2.2; omega) HOwn.out HSz.out
    have HSrt := Lib.hid hsrt
    clear hmet hsrt hP
    go_wp2_with fail
    refine HSrt.out.mono ?_
    rintro e w9 ⟨rfl, d, hperm, hsorted, hb9, hd, Av, cv, hv, hvn⟩
    have HD := Lib.hid hd
    have HB9 := Lib.hid hb9
    have HP := Lib.hid hperm
    have HO := Lib.hid hsorted
    have HV := Lib.hid (And.intro hv hvn)
    clear hd hb9 hperm hsorted hv hvn
    go_wp2_with fail
    go_ret2
    refine ⟨HBr.out.trans (HB9.out.mono (by have := HR0.out; omega)), _, 0, rfl, ?_⟩
    rw [if_neg (by simp), if_neg (by omega)]
    exact ⟨rfl, d, Av, cv, HV.out.1, nodesIs_of p lanes r1 (fun t ht => by have := (HOK.out t ht).node; unfold inInt; omega) _ ks HMet.out d HP.out (fun i j h1 h2 => by have := HO.out i j h1 h2; omega), HD.out, HV.out.2⟩
  · intro x y kl w1' cnt1 hkey hf hu1 hlt1 hg1 hs1 hen
    have hown1 := HOwn.out.kept hg1 (.inr (fun e => by have := (HOwn.out.lt R e).1; omega))
    have hb1 := HBr.out.grown hg1 HBr.out.size (fun j hj => by cases hj; exact HR0.out)
    have hy := below1 w1' (.cells #[.int .i64 y.node, .int .i64 y.count, .int .i64 y.work, .int .i64 y.cycles] 73)
    have HY := Lib.hid hy
    have HU1 := Lib.hid hu1
    have HB1 := Lib.hid hb1
    have HLt1 := Lib.hid hlt1
    have HOwn1 := Lib.hid hown1
    have hsz1 : Hid (R + 1 ≤ w1'.heap.size) := by unfold Hid; rw [hs1]; exact HSz.out
    clear hy hu1 hown1 hb1 hlt1 hkey hf hg1 hs1
    go_upto_region 21 with (fail)
    have hq2 := alloc_new w1' (.cells #[.int .i64 y.node, .int .i64 y.count, .int .i64 y.work, .int .i64 y.cycles] 73)
    have hown2 := HOwn1.out.alloc (.cells #[.int .i64 y.node, .int .i64 y.count, .int .i64 y.work, .int .i64 y.cycles] 73)
    have hu2 := HU1.out.below HY.out
    have hbw2 := HB1.out.trans (HY.out.mono HB1.out.size)
    have hsz2 : R + 1 ≤ (w1'.alloc (.cells #[.int .i64 y.node, .int .i64 y.count, .int .i64 y.work, .int .i64 y.cycles] 73)).heap.size := by have h2 := HY.out.size; have h3 := hsz1.out; omega
    have HOwn2 := Lib.hid hown2
    have HU2 := Lib.hid hu2
    have HBw2 := Lib.hid hbw2
    have HSz2 := Lib.hid hsz2
    have HQ2 := Lib.hid hq2
    clear hown2 hu2 hbw2 hsz2 hq2 hen
    generalize hW2 : w1'.alloc (.cells #[.int .i64 y.node, .int .i64 y.count, .int .i64 y.work, .int .i64 y.cycles] 73) = w2' at *
    clear hW2
    have q0 := (block_cell HQ2.out 0 (by simp)).1
    have q1 := (block_cell HQ2.out 1 (by simp)).1
    have q2 := (block_cell HQ2.out 2 (by simp)).1
    have q3 := (block_cell HQ2.out 3 (by simp)).1
    simp only [List.getElem_toArray, List.getElem_cons_zero, List.getElem_cons_succ] at q0 q1 q2 q3
    obtain ⟨i0, hi, hzz⟩ := Option.map_eq_some_iff.1 infoNode
    simp only [Prod.mk.injEq] at hzz
    obtain ⟨hz0, hz1, hz2⟩ := hzz
    have hnews : ∀ j u, (nodeCells y)[j]? = some u → (w2'.alloc (.cells #[.int .i64 y.node, .int .i64 y.count, .int .i64 y.work, .int .i64 y.cycles] 73)).cell? ((⟨w2'.heap.size, 0, none⟩ : Addr).add j) = some u := by
      intro j u hj
      obtain ⟨hlt, hj⟩ := List.getElem?_eq_some_iff.1 hj
      rw [show (⟨w2'.heap.size, 0, none⟩ : Addr).add j = ⟨w2'.heap.size, j, none⟩ by unfold Addr.add; split <;> simp_all]
      rw [cell_of_heap (alloc_new w2' (.cells #[.int .i64 y.node, .int .i64 y.count, .int .i64 y.work, .int .i64 y.cycles] 73)) j]
      rw [← hj]
      exact (Array.getElem?_eq_getElem (by simpa [nodeCells] using hlt))
    have HNews := Lib.hid hnews
    have hone : ∀ u ∈ nodeCells y, u.oneCell' = true := by intro u hu; simp [nodeCells] at hu; rcases hu with rfl | rfl | rfl | rfl <;> rfl
    have HOne := Lib.hid hone
    have hbd : Hid ((ks.map Prod.snd).length + 1 ≤ 200000001) := by
      unfold Hid
      have h1 := HLen.out
      have h2 := HU2.out.len
      simp at h2; omega
    have HOwn3 := Lib.hid (HOwn2.out.alloc (.cells #[.int .i64 y.node, .int .i64 y.count, .int .i64 y.work, .int .i64 y.cycles] 73))
    clear hnews hone
    go_wp2_with (at_builtin; refine wpList_append_own _ rfl _ _ 29 rfl (R + 1) 73 i0 _ 4 32 Tryz.underlying29 hi hz0 hz1 hz2 rfl (by omega) u18 _ _ rfl HOwn3.out ⟨w2'.heap.size, 0, none⟩ 1 1 (nodeCells y) rfl rfl HNews.out HOne.out (by have := hbd.out; unfold maxLen; omega) (by have := hbd.out; omega) (by have := HSz2.out; simp; omega) ?_; intro v' w3' ho' hg' hn'; have HO2 := Lib.hid ho'; have HG2 := Lib.hid hg'; clear ho' hg' hn')
    have hfil : (ks ++ [(x, y)]).map Prod.snd = ks.map Prod.snd ++ [y] := by simp
    have hvals : nodeVals (ks.map Prod.snd ++ [y]) = nodeVals (ks.map Prod.snd) ++ nodeCells y := by simp [nodeVals]
    have hle := HOwn2.out.lt
    have hbl := HU2.out.map.lt
    have hrl := HU2.out.lt
    have hrow : ∀ j, u18.ownBlock = some j → R + 1 ≤ j := fun j hj => (hle j hj).1
    have hBR := HBR.out
    have hu3 := (HU2.out.below (below1 w2' (.cells #[.int .i64 y.node, .int .i64 y.count, .int .i64 y.work, .int .i64 y.cycles] 73))).kept HG2.out (fun e => by have := hrow _ e.symm; omega) (fun e => by have := hrow _ e.symm; omega)
    have hb3 := (HBw2.out.trans ((below1 w2' (.cells #[.int .i64 y.node, .int .i64 y.count, .int .i64 y.work, .int .i64 y.cycles] 73)).mono HBw2.out.size)).grown HG2.out (by have := HBw2.out.size; simp; omega) (fun j hj => by have := hrow j hj; have := HR0.out; omega)
    go_roundw
    case rel => exact ⟨ks ++ [(x, y)], cnt1, hu3, by rw [hfil, hvals, List.length_append]; exact HO2.out, hb3, by have h1 := HSz2.out; have h2 := HG2.out.size; simp at h2; omega⟩
    case measure => rw [hu3.left_eq, HU.out.left_eq]; exact HLt1.out
end Go.Proofs.YtdkcjeaabbkdeaaGreatDoor
end
