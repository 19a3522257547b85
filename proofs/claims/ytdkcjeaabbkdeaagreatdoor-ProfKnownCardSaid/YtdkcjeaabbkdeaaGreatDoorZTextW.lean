/- Package prof: Text. The law's comparisons of lists. -/
import Derived.Test.YtdkcjeaabbkdeaaGreatDoorZOrdS
import Derived.Test.YtdkcjeaabbkdeaaGreatDoorZProfA
import Derived.Laws.AppendOwn
import Derived.Laws.StructEq
set_option linter.unusedVariables false
set_option linter.unusedSimpArgs false
set_option linter.unnecessarySimpa false
set_option linter.unusedSectionVars false
section
namespace Go.Proofs.YtdkcjeaabbkdeaaGreatDoor
open Go.RowKit
set_option linter.unusedVariables false
set_option linter.unusedSimpArgs false

/-- A text in one cell. -/
def RText (_ : World) (cs : List Value) (x : List UInt8) : Prop := cs = [.string ⟨x.toArray⟩]
theorem stays_text : Stays RText := fun _ _ _ _ _ h => h
abbrev TextsL := Sl 1 RText
theorem TextsL.below {w w1 : World} {v : Value} {xs : List (List UInt8)} (h : TextsL w v xs) (hb : Below w.heap.size w w1) : TextsL w1 v xs := Sl.below stays_text h hb
theorem textsL_nil (w : World) (A : Option Addr) (c : Nat) : TextsL w (.slice A 0 c) [] := ⟨A, c, rfl, by simp, fun j hj => absurd hj (by simp)⟩
theorem TextsL.at_ {w : World} {A : Option Addr} {n c : Nat} {xs : List (List UInt8)} (h : TextsL w (.slice A n c) xs) (j : Nat) (hj : j < xs.length) : ∃ b off, A = some ⟨b, off, none⟩ ∧ w.cell? ⟨b, off + j, none⟩ = some (.string ⟨xs[j].toArray⟩) := by
  obtain ⟨A', c', he, hm, hc⟩ := h
  cases he
  obtain ⟨b, off, cs, hA, hl, hcs, hr⟩ := hc j hj
  obtain rfl : cs = [.string ⟨xs[j].toArray⟩] := hr
  exact ⟨b, off, hA, by simpa using hcs 0 (by simp)⟩
def textVals (l : List (List UInt8)) : List Value := l.map fun x => .string ⟨x.toArray⟩
theorem texts_of_own {w : World} {base : Nat} {v : Value} {xs : List (List UInt8)} {e : TypeId} (h : w.ownsRow base e 1 v xs.length (textVals xs)) : TextsL w v xs := by
  rcases h.2 with ⟨rfl, h0⟩ | ⟨g, cap, cur, rfl, hb, hh, hn, hm, hs, ht⟩
  · obtain rfl : xs = [] := List.eq_nil_of_length_eq_zero h0
    exact textsL_nil _ _ _
  · refine ⟨_, cap, rfl, by simp only [maxLen] at hm; omega, fun j hj => ⟨g, 0, [.string ⟨xs[j].toArray⟩], rfl, rfl, ?_, rfl⟩⟩
    intro i hi
    obtain rfl : i = 0 := by simp at hi; omega
    have hc := h.cells (g := g) rfl j (.string ⟨xs[j].toArray⟩) (by simp [textVals, hj])
    have ha : (⟨g, 0, none⟩ : Addr).add j = ⟨g, 0 + j * 1 + 0, none⟩ := by unfold Addr.add; split <;> simp_all
    rw [ha] at hc
    simpa using hc
/-- A stack, as a line. -/
def lineT (x : StackC) : List UInt8 := keyT x.stack ++ 32 :: Lib.itoa x.work
def textOfStacks (l : List StackC) : List (List UInt8) × Int := if ordB l = false then ([], 1) else if l.any (fun x => decide (4000 < (lineT x).length)) then ([], 3) else (l.map lineT, 0)
def TextPost (r : List (List UInt8) × Int) (w : World) (e : Ending) (w' : World) : Prop := Below w.heap.size w w' ∧ ∃ v, e = .returned (.tuple #[v, .int .i64 r.2]) ∧ TextsL w' v r.1
theorem infoText : (Tryz.prog.info? 9).map (fun i => (i.zero, i.size, i.bytes)) = some (some (.string ⟨#[]⟩), 1, 16) := by kernel_rfl
theorem field106 (d : Value) (W : World) : (Instr.field 106 (.agg #[d]) 0).run Tryz.prog W = .ok d W := by kernel_rfl
structure StackFits (x : StackC) : Prop where
  work : inInt x.work
  stack : ∀ n ∈ x.stack, inInt n
  len : x.stack.length ≤ 1000000000

set_option maxRecDepth 100000 in
set_option maxHeartbeats 1000000 in
theorem prof_text (l : List StackC) (v : Value) (w : World) (hl : StksL w v l) (hf : ∀ x ∈ l, StackFits x) (hlen : l.length ≤ 1000000000) (ht : Tab w) : Calls Tryz.prog 27 #[v] w (TextPost (textOfStacks l) w) := by
  have HO := Lib.hid (prof_ordered l v w hl)
  obtain ⟨A, ac, rfl, hm, -⟩ := hl.form
  have HL := Lib.hid hl
  have HF := Lib.hid hf
  have HT := Lib.hid ht
  obtain ⟨i0, hi, hzz⟩ := Option.map_eq_some_iff.1 infoText
  simp only [Prod.mk.injEq] at hzz
  obtain ⟨hz0, hz1, hz2⟩ := hzz
  clear hl hf ht
  go_enter Tryz.func27, Tryz.ntmps27
  go_wp2_with fail
  refine HO.out.mono ?_
  rintro e w1 ⟨rfl, hb1⟩
  have HB1 := Lib.hid hb1
  clear hb1
  cases ho : ordB l
  case false =>
    have Ho := Lib.hid ho
    clear ho
    go_wp2_with fail
    go_ret2
    have hT : textOfStacks l = ([], 1) := by unfold textOfStacks; rw [if_pos Ho.out]
    rw [hT]
    exact ⟨HB1.out, _, rfl, textsL_nil _ _ _⟩
  have Ho := Lib.hid ho
  clear ho
  go_wp2_with fail
  go_loopw [4, 6, 7, 13] (fun o _ _ i wr => ∃ k : Nat, k ≤ l.length ∧ i = .int .i64 k ∧ Below w.heap.size w wr ∧ wr.ownsRow w.heap.size 9 1 o k (textVals ((l.take k).map lineT)) ∧ ∀ j (h : j < l.length), j < k → (lineT l[j]).length ≤ 4000) (fun _ _ _ i _ => l.length - (intOf i).toNat)
  case atStart => exact ⟨0, Nat.zero_le _, rfl, HB1.out, World.ownsRow_nil _ _ _ _, fun j _ h => absurd h (by omega)⟩
  case round =>
    obtain ⟨k, hk, rfl, hb, hown, hall⟩ := hrel
    have HB := Lib.hid hb
    have HOwn := Lib.hid hown
    have HAll := Lib.hid hall
    clear hb hown hall
    by_cases hlt : k < l.length
    · obtain ⟨b, off, vx, rfl, c0, c1, hix⟩ := (HL.out.below HB.out).at_ k hlt
      have hfx := HF.out l[k] (List.getElem_mem hlt)
      have htk : (l.take (k + 1)).map lineT = (l.take k).map lineT ++ [lineT l[k]] := by rw [List.take_succ_eq_append_getElem hlt, List.map_append]; rfl
      have hbad : 4000 < (lineT l[k]).length → textOfStacks l = ([], 3) := fun h => by
        unfold textOfStacks
        rw [if_neg (by rw [Ho.out]; simp), if_pos]
        rw [List.any_eq_true]
        exact ⟨l[k], List.getElem_mem hlt, by simpa using h⟩
      have HTk := Lib.hid htk
      have HBad := Lib.hid hbad
      have hgood : (lineT l[k]).length ≤ 4000 → ∀ j (h : j < l.length), j < k + 1 → (lineT l[j]).length ≤ 4000 := fun h j hj hjk => by
        by_cases e : j = k
        · subst e; exact h
        · exact HAll.out j hj (by omega)
      have HGood := Lib.hid hgood
      clear htk hbad hgood
      generalize l[k] = x at *
      have hbx := below1 wr (.cells #[vx, .int .i64 x.work] 65)
      have hq := alloc_new wr (.cells #[vx, .int .i64 x.work] 65)
      have HQ := Lib.hid hq
      have HBW := Lib.hid (below_step HB.out hbx)
      have HIx := Lib.hid (hix.below hbx)
      have HOwx := Lib.hid (HOwn.out.alloc (.cells #[vx, .int .i64 x.work] 65))
      obtain ⟨X, xc, rfl, hxm⟩ := hix.form
      clear hbx hq hix
      go_upto_region 7 with (fail)
      clear c0 c1
      generalize hwx : wr.alloc (.cells #[.slice X x.stack.length xc, .int .i64 x.work] 65) = wx at *
      generalize hqb : wr.heap.size = q at *
      clear hwx hqb
      have hS0 : ∀ W, Below wx.heap.size wx W → Below wx.heap.size wx W ∧ W.cell? ⟨q, 0, none⟩ = some (.slice X x.stack.length xc) ∧ W.cell? ⟨q, 1, none⟩ = some (.int .i64 x.work) := fun W hb => ⟨hb, (block_cell (heap_keep hb HQ.out) 0 (by simp)).1, (block_cell (heap_keep hb HQ.out) 1 (by simp)).1⟩
      have HS0 := Lib.hid hS0
      have hkl := keyT_length x.stack hfx.stack
      have hil := Lib.itoa_length_le x.work hfx.work.1 hfx.work.2
      have hfl := hfx.len
      obtain ⟨ka, hka⟩ : ∃ ka : ByteArray, ka = ⟨(keyT x.stack).toArray⟩ := ⟨_, rfl⟩
      obtain ⟨ia, hia⟩ : ∃ ia : ByteArray, ia = ⟨(Lib.itoa x.work).toArray⟩ := ⟨_, rfl⟩
      have hkey : ∀ W, Below wx.heap.size wx W → Calls Tryz.prog 60 #[.slice X x.stack.length xc] W fun e w' => e = .returned (.agg #[.string ka]) ∧ Below wx.heap.size wx w' := fun W hb => by
        rw [hka]
        exact (prof_keyOf x.stack _ W (HIx.out.below hb) hfx.stack hfl (HT.out.below (below_step HBW.out hb))).mono fun e w' ⟨h1, h2⟩ => ⟨h1, below_step hb h2⟩
      have hito : ∀ W, Below wx.heap.size wx W → Calls Tryz.prog 75 #[.int .i64 x.work] W fun e w' => e = .returned (.string ia) ∧ Below wx.heap.size wx w' := fun W hb => by
        rw [hia]
        exact (itoa_of x.work hfx.work W (HT.out.below (below_step HBW.out hb))).mono fun e w' ⟨h1, h2⟩ => ⟨h1, below_step hb h2⟩
      have HKey := Lib.hid hkey
      have HIto := Lib.hid hito
      have hks : ka.size = (keyT x.stack).length := by rw [hka]; rfl
      have his : ia.size = (Lib.itoa x.work).length := by rw [hia]; rfl
      have HKA := Lib.hid hka
      have HIA := Lib.hid hia
      have hk47 : ka.size ≤ 140737488355328 := by omega
      have hi47 : ia.size ≤ 140737488355328 := by omega
      clear hS0 hkl hil hfl hkey hito hks his hka hia hfx
      have hfd := field106 (.string ka)
      have hk63 : ¬ 9223372036854775807 < ka.size + 1 := by omega
      have hk64 : ¬ 9223372036854775807 < ka.size + 1 + ia.size := by omega
      go_region_held3 (fun W => Below wx.heap.size wx W ∧ W.cell? ⟨q, 0, none⟩ = some (.slice X x.stack.length xc) ∧ W.cell? ⟨q, 1, none⟩ = some (.int .i64 x.work)) (first | assumption | exact HS0.out _ (below_drew _) | exact HS0.out _ (by assumption)) (first | (go_at_call 60; refine (HKey.out _ (by go_split_ands; assumption)).mono ?_; rintro e w7 ⟨rfl, hb7⟩; have HB7 := Lib.hid hb7) | (go_at_call 75; refine (HIto.out _ (by go_split_ands; assumption)).mono ?_; rintro e w7 ⟨rfl, hb7⟩; have HB7 := Lib.hid hb7))
      all_goals
        have hsz : (ka ++ ⟨#[32]⟩ ++ ia : ByteArray).data.toList = lineT x := by rw [HKA.out, HIA.out]; simp [lineT]
        generalize (ka ++ ⟨#[32]⟩ ++ ia : ByteArray) = sx at *
        have hsx : sx = ⟨(lineT x).toArray⟩ := by
          cases sx with
          | mk d => simp at hsz; rw [← hsz]
        have hsn : sx.size = (lineT x).length := by rw [hsx]; rfl
        have HSx := Lib.hid hsx
        have HSn := Lib.hid hsn
        have hsmall : sx.size ≤ 140737488355328 * 3 := by
          have h1 : (Lib.itoa x.work).length = ia.size := by rw [HIA.out]; rfl
          have h2 : (keyT x.stack).length = ka.size := by rw [HKA.out]; rfl
          rw [hsn]; unfold lineT; simp; omega
        have hBW7 := below_step HBW.out HB7.out
        have HBW7 := Lib.hid hBW7
        have hOw7 := HOwx.out.kept (row := none) ⟨HB7.out.os, HB7.out.tape, HB7.out.output, HB7.out.size, fun i hi _ => HB7.out.block i hi⟩ (by cases u4.ownBlock <;> simp)
        have HOw8 := Lib.hid (hOw7.alloc (.cells #[.string sx] 9))
        have HOw7 := Lib.hid hOw7
        have hbs := HBW7.out.size
        have HBs := Lib.hid hbs
        clear hsz hsx hsn hBW7 hOw7 hfd hbs
        by_cases hbig : 4000 < sx.size
        · have hT := HBad.out (by rw [← HSn.out]; exact hbig)
          have HTx := Lib.hid hT
          have hbig' : (4000 : Int) < (sx.size : Int) := by omega
          clear hT hbig
          go_wp2_with fail
          go_ret2
          rw [HTx.out]
          exact ⟨HBW7.out, _, rfl, textsL_nil _ _ _⟩
        · have hbig' : ¬ (4000 : Int) < (sx.size : Int) := by omega
          have HG := Lib.hid (HGood.out (by rw [← HSn.out]; omega))
          have hnews : ∀ j u, ([.string sx] : List Value)[j]? = some u → (w7.alloc (.cells #[.string sx] 9)).cell? ((⟨w7.heap.size, 0, none⟩ : Addr).add j) = some u := by
            intro j u hj
            match j, hj with
            | 0, hj => simp at hj; subst hj; simp [Addr.add]
          have HNews := Lib.hid hnews
          clear hnews hbig
          go_wp2_with (at_builtin; refine wpList_append_own _ rfl _ _ 47 rfl w.heap.size 9 i0 _ 1 16 Tryz.underlying47 hi hz0 hz1 hz2 rfl (by omega) u4 k _ rfl HOw8.out ⟨w7.heap.size, 0, none⟩ 1 1 [.string sx] rfl rfl HNews.out (by simp [Value.oneCell']) (by unfold maxLen; omega) (by omega) (by have := HBs.out; simp; omega) ?_; intro v' w9 ho' hg' hn'; have HO2 := Lib.hid ho'; have HG2 := Lib.hid hg'; clear ho' hg' hn')
          go_roundw
          case rel =>
            refine ⟨k + 1, hlt, by go_num, ?_, ?_, HG.out⟩
            · exact (HBW7.out.alloc HBs.out _).grown HG2.out (by have := HBs.out; simp; omega) (fun j hj => (HOw7.out.lt j hj).1)
            · have h9 := HO2.out
              rw [HTk.out]
              unfold textVals at h9 ⊢
              rw [List.map_append, List.map_singleton, ← HSx.out]
              exact h9
          case measure => simp [intOf]; omega
    · obtain rfl : k = l.length := by omega
      go_wp2_with fail
      go_ret2
      have hT : textOfStacks l = (l.map lineT, 0) := by
        unfold textOfStacks
        rw [if_neg (by rw [Ho.out]; simp), if_neg]
        intro h
        rw [List.any_eq_true] at h
        obtain ⟨x, hx, h⟩ := h
        obtain ⟨j, hj, rfl⟩ := List.getElem_of_mem hx
        have := HAll.out j hj hj
        simp at h; omega
      rw [hT]
      have := HOwn.out
      rw [List.take_length] at this
      exact ⟨HB.out, _, rfl, texts_of_own (by rw [List.length_map]; exact this)⟩
end Go.Proofs.YtdkcjeaabbkdeaaGreatDoor
end
section
namespace Go.Proofs.YtdkcjeaabbkdeaaGreatDoor
open Go.RowKit
set_option linter.unusedVariables false
set_option linter.unusedSimpArgs false
theorem node_eqd (x y : NodeC) : (x.node == y.node && (x.count == y.count && (x.work == y.work && x.cycles == y.cycles))) = decide (x = y) := by
  obtain ⟨a, b, c, d⟩ := x
  obtain ⟨a', b', c', d'⟩ := y
  rw [Bool.eq_iff_iff]
  simp
theorem eql_four (t : TypeId) (ht : t = 73 ∨ t = 68) (a b c d a' b' c' d' : Int) (W : World) : (Op.equalIn 10000 t (.agg #[.int .i64 a, .int .i64 b, .int .i64 c, .int .i64 d]) (.agg #[.int .i64 a', .int .i64 b', .int .i64 c', .int .i64 d'])).run Tryz.prog W = .ok (a == a' && (b == b' && (c == c' && d == d'))) W := by
  have h3 := Tryz.underlying3
  have h73 := Tryz.underlying73
  have h68 := Tryz.underlying68
  rcases ht with rfl | rfl
  all_goals
    rw [show (10000 : Nat) = 9998 + 1 + 1 from rfl, run_equalIn_agg _ _ _ _ _ (by kernel_rfl) (by kernel_rfl)]
    simp only [Program.fieldsOf, h73, h68, Op.eqFields]
    cases e1 : (a == a') <;> cases e2 : (b == b') <;> cases e3 : (c == c') <;> cases e4 : (d == d') <;> simp [go_sem, e1, e2, e3, e4]
theorem eql_node (x y : NodeC) (W : World) : (binOp .eql 73 (.agg (nodeCells x).toArray) (.agg (nodeCells y).toArray)).run Tryz.prog W = .ok (.bool (decide (x = y))) W := by
  rw [run_eql_struct]
  unfold nodeCells
  rw [eql_four 73 (.inl rfl), node_eqd]; rfl
theorem neq_node (x y : NodeC) (W : World) : (binOp .neq 73 (.agg (nodeCells x).toArray) (.agg (nodeCells y).toArray)).run Tryz.prog W = .ok (.bool (!decide (x = y))) W := by
  rw [run_neq_struct]
  unfold nodeCells
  rw [eql_four 73 (.inl rfl), node_eqd]; rfl
theorem take_beq {α : Type} [DecidableEq α] (l m : List α) (k : Nat) (h1 : k < l.length) (h2 : k < m.length) : decide (l.take (k + 1) = m.take (k + 1)) = (decide (l.take k = m.take k) && decide (l[k] = m[k])) := by
  rw [Bool.eq_iff_iff]
  simp only [decide_eq_true_eq, Bool.and_eq_true]
  rw [List.take_succ_eq_append_getElem h1, List.take_succ_eq_append_getElem h2]
  constructor
  · intro h
    obtain ⟨a, b⟩ := List.append_inj h (by simp [List.length_take]; omega)
    exact ⟨a, by simpa using b⟩
  · rintro ⟨a, b⟩; rw [a, b]
theorem same_no {α : Type} [DecidableEq α] (l m : List α) (k : Nat) (h : (decide (l.length = m.length) && decide (l.take k = m.take k)) = false) : decide (l = m) = false := by
  rw [decide_eq_false_iff_not]
  rintro rfl
  simp at h
theorem same_yes {α : Type} [DecidableEq α] (l m : List α) (h : (decide (l.length = m.length) && decide (l.take l.length = m.take l.length)) = true) : decide (l = m) = true := by
  simp only [Bool.and_eq_true, decide_eq_true_eq] at h ⊢
  obtain ⟨h1, h2⟩ := h
  rw [List.take_length, h1, List.take_length] at h2
  exact h2
set_option maxRecDepth 100000 in
set_option maxHeartbeats 1000000 in
theorem law_same (l m : List NodeC) (vl vm : Value) (w : World) (hl : NodesL w vl l) (hm : NodesL w vm m) : Calls Tryz.prog 41 #[vl, vm] w (Gives w (.bool (decide (l = m)))) := by
  obtain ⟨A, ac, rfl, hma, -⟩ := hl.form
  obtain ⟨B, bc, rfl, hmb, -⟩ := hm.form
  have HL := Lib.hid hl
  have HM := Lib.hid hm
  have HQ : Hid (((l.length : Int) == (m.length : Int)) = decide (l.length = m.length)) := by unfold Hid; rw [len_beq]; rw [Bool.eq_iff_iff]; simp
  clear hl hm
  go_enter Tryz.func41, Tryz.ntmps41
  go_wp2_with fail
  rw [HQ.out]
  go_loopw [5, 6] (fun b i wr => Below w.heap.size w wr ∧ ∃ k : Nat, k ≤ l.length ∧ i = .int .i64 k ∧ b = .bool (decide (l.length = m.length) && decide (l.take k = m.take k)) ) (fun _ i _ => l.length - (intOf i).toNat)
  case atStart => exact ⟨Below.refl _ _, 0, Nat.zero_le _, rfl, by simp⟩
  case round =>
  obtain ⟨hb, k, hk, rfl, rfl⟩ := hrel
  have HB := Lib.hid hb
  clear hb
  cases hbb : (decide (l.length = m.length) && decide (l.take k = m.take k)) with
  | false =>
    have hno := same_no l m k hbb
    have HN := Lib.hid hno
    clear hno
    go_wp2_with fail
    go_ret
    rw [HN.out]
    exact ⟨rfl, HB.out⟩
  | true =>
    have HBB := Lib.hid hbb
    clear hbb
    by_cases hlt : k < l.length
    case neg =>
      obtain rfl : k = l.length := by omega
      have HN := Lib.hid (same_yes l m HBB.out)
      go_wp2_with fail
      go_ret
      rw [HN.out]
      exact ⟨rfl, HB.out⟩
    case pos =>
      obtain ⟨hlen, htk⟩ : l.length = m.length ∧ l.take k = m.take k := by have := HBB.out; simpa only [Bool.and_eq_true, decide_eq_true_eq] using this
      have hkm : k < m.length := by omega
      have HT := Lib.hid (take_beq l m k hlt hkm)
      have HE := Lib.hid (And.intro hlen htk)
      obtain ⟨b, off, rfl, c0, c1, c2, c3⟩ := (HL.out.below HB.out).at_ k hlt
      obtain ⟨b', off', rfl, d0, d1, d2, d3⟩ := (HM.out.below HB.out).at_ k hkm
      have hk0 : (0 : Int) ≤ (k : Int) := by omega
      have hk1 : (k : Int) < (l.length : Int) := by omega
      have hk2 : (k : Int) < (m.length : Int) := by omega
      clear hlen htk
      generalize l[k] = x at *
      generalize m[k] = y at *
      have heq := eql_node x y
      simp only [nodeCells] at heq
      go_upto_region 5 with (fail)
      go_quiet (fail)
      go_wp2_with fail
      have HDr := below_drewN wr nq
      refine ⟨⟨HB.out.trans (HDr.mono HB.out.size), k + 1, hlt, by go_num, ?_⟩, by simp [intOf]; omega⟩
      rw [HT.out, decide_eq_true HE.out.1, decide_eq_true HE.out.2, Bool.true_and, Bool.true_and]

set_option maxRecDepth 100000 in
set_option maxHeartbeats 1000000 in
theorem law_equalTexts (l m : List (List UInt8)) (vl vm : Value) (w : World) (hl : TextsL w vl l) (hm : TextsL w vm m) : Calls Tryz.prog 31 #[vl, vm] w (Gives w (.bool (decide (l = m)))) := by
  obtain ⟨A, ac, rfl, hma, -⟩ : ∃ A c, vl = .slice A l.length c ∧ (l.length ≤ 9223372036854775807 ∧ l.length ≤ c) := by obtain ⟨A, c, rfl, hm, _⟩ := hl; exact ⟨A, c, rfl, hm⟩
  obtain ⟨B, bc, rfl, hmb, -⟩ : ∃ A c, vm = .slice A m.length c ∧ (m.length ≤ 9223372036854775807 ∧ m.length ≤ c) := by obtain ⟨A, c, rfl, hm, _⟩ := hm; exact ⟨A, c, rfl, hm⟩
  have HL := Lib.hid hl
  have HM := Lib.hid hm
  have HQ : Hid (((l.length : Int) == (m.length : Int)) = decide (l.length = m.length)) := by unfold Hid; rw [len_beq]; rw [Bool.eq_iff_iff]; simp
  clear hl hm
  go_enter Tryz.func31, Tryz.ntmps31
  go_wp2_with fail
  rw [HQ.out]
  go_loopw [5, 6] (fun b i wr => Below w.heap.size w wr ∧ ∃ k : Nat, k ≤ l.length ∧ i = .int .i64 k ∧ b = .bool (decide (l.length = m.length) && decide (l.take k = m.take k)) ) (fun _ i _ => l.length - (intOf i).toNat)
  case atStart => exact ⟨Below.refl _ _, 0, Nat.zero_le _, rfl, by simp⟩
  case round =>
  obtain ⟨hb, k, hk, rfl, rfl⟩ := hrel
  have HB := Lib.hid hb
  clear hb
  cases hbb : (decide (l.length = m.length) && decide (l.take k = m.take k)) with
  | false =>
    have hno := same_no l m k hbb
    have HN := Lib.hid hno
    clear hno
    go_wp2_with fail
    go_ret
    rw [HN.out]
    exact ⟨rfl, HB.out⟩
  | true =>
    have HBB := Lib.hid hbb
    clear hbb
    by_cases hlt : k < l.length
    case neg =>
      obtain rfl : k = l.length := by omega
      have HN := Lib.hid (same_yes l m HBB.out)
      go_wp2_with fail
      go_ret
      rw [HN.out]
      exact ⟨rfl, HB.out⟩
    case pos =>
      obtain ⟨hlen, htk⟩ : l.length = m.length ∧ l.take k = m.take k := by have := HBB.out; simpa only [Bool.and_eq_true, decide_eq_true_eq] using this
      have hkm : k < m.length := by omega
      have HT := Lib.hid (take_beq l m k hlt hkm)
      have HE := Lib.hid (And.intro hlen htk)
      obtain ⟨b, off, rfl, c0⟩ := (HL.out.below HB.out).at_ k hlt
      obtain ⟨b', off', rfl, d0⟩ := (HM.out.below HB.out).at_ k hkm
      have hk0 : (0 : Int) ≤ (k : Int) := by omega
      have hk1 : (k : Int) < (l.length : Int) := by omega
      have hk2 : (k : Int) < (m.length : Int) := by omega
      clear hlen htk
      generalize l[k] = x at *
      generalize m[k] = y at *
      have hxy : (x == y) = decide (x = y) := by rw [Bool.eq_iff_iff]; simp
      have HXY := Lib.hid hxy
      clear hxy
      go_upto_region 5 with (fail)
      go_quiet (fail)
      go_wp2_with fail
      have HDr := below_drewN wr nq
      refine ⟨⟨HB.out.trans (HDr.mono HB.out.size), k + 1, hlt, by go_num, ?_⟩, by simp [intOf]; omega⟩
      rw [HT.out, decide_eq_true HE.out.1, decide_eq_true HE.out.2, Bool.true_and, Bool.true_and]
      try rw [HXY.out]
end Go.Proofs.YtdkcjeaabbkdeaaGreatDoor
end
