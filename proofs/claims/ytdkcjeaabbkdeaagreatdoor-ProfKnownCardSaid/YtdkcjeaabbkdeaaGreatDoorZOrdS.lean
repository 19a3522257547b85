/- Package prof: stacks; which lists of stacks are right. Package prof: stacks, put in order. -/
import Derived.Test.YtdkcjeaabbkdeaaGreatDoorZProfA
import Derived.Test.YtdkcjeaabbkdeaaGreatDoorZStr
import Derived.Test.YtdkcjeaabbkdeaaGreatDoorZSortN
import Derived.Deep.CutRange
set_option linter.unusedVariables false
set_option linter.unusedSimpArgs false
set_option linter.unnecessarySimpa false
set_option linter.unusedSectionVars false
section
namespace Go.Proofs.YtdkcjeaabbkdeaaGreatDoor
open Go.RowKit
set_option linter.unusedVariables false
set_option linter.unusedSimpArgs false

/-- A stack, and its work. -/
structure StackC where
  stack : List Int
  work : Int
deriving DecidableEq
def RStk (w : World) (cs : List Value) (x : StackC) : Prop := ∃ v, cs = [v, .int .i64 x.work] ∧ Ints w v x.stack
theorem stays_stk : Stays RStk := fun _ _ _ _ hb ⟨v, h, k⟩ => ⟨v, h, k.reads hb⟩
abbrev StksL := Sl 2 RStk
theorem StksL.below {w w1 : World} {v : Value} {xs : List StackC} (h : StksL w v xs) (hb : Below w.heap.size w w1) : StksL w1 v xs := Sl.below stays_stk h hb
theorem StksL.reads {w w1 : World} {v : Value} {xs : List StackC} (h : StksL w v xs) (hb : Reads w w1) : StksL w1 v xs := Sl.reads stays_stk h hb
theorem stksL_nil (w : World) (A : Option Addr) (c : Nat) : StksL w (.slice A 0 c) [] := ⟨A, c, rfl, by simp, fun j hj => absurd hj (by simp)⟩
theorem StksL.form {w : World} {v : Value} {xs : List StackC} (h : StksL w v xs) : ∃ A c, v = .slice A xs.length c ∧ (xs.length ≤ 9223372036854775807 ∧ xs.length ≤ c) := by
  obtain ⟨A, c, rfl, hm, _⟩ := h; exact ⟨A, c, rfl, hm⟩
theorem StksL.at_ {w : World} {A : Option Addr} {n c : Nat} {xs : List StackC} (h : StksL w (.slice A n c) xs) (j : Nat) (hj : j < xs.length) : ∃ b off v, A = some ⟨b, off, none⟩ ∧ w.cell? ⟨b, off + j * 2, none⟩ = some v ∧ w.cell? ⟨b, off + j * 2 + 1, none⟩ = some (.int .i64 xs[j].work) ∧ Ints w v xs[j].stack := by
  obtain ⟨A', c', he, hm, hc⟩ := h
  cases he
  obtain ⟨b, off, cs, hA, hl, hcs, v, rfl, hr⟩ := hc j hj
  exact ⟨b, off, v, hA, by simpa using hcs 0 (by simp), by simpa using hcs 1 (by simp), hr⟩

set_option maxRecDepth 100000 in
theorem prof_compare (x y : List Int) (vx vy : Value) (a b : Int) (w : World) (hx : Ints w vx x) (hy : Ints w vy y) : Calls Tryz.prog 63 #[.agg #[vx, .int .i64 a], .agg #[vy, .int .i64 b]] w (Gives w (.int .i64 (cmpL x y))) := by
  have hb := below2 w (.cells #[vx, .int .i64 a] 65) (.cells #[vy, .int .i64 b] 65)
  have HC := Lib.hid (prof_compareL x y vx vy _ (hx.below hb) (hy.below hb))
  obtain ⟨A, ca, rfl, -⟩ := hx.form
  obtain ⟨B, cb, rfl, -⟩ := hy.form
  clear hx hy
  go_enter Tryz.func63, Tryz.ntmps63
  go_wp2_with fail
  refine HC.out.mono ?_
  rintro e w1 ⟨rfl, rfl⟩
  go_wp2_with fail
  go_ret
  exact ⟨rfl, hb⟩
/-- Is a number no function's? -/
def badFn (n : Int) : Bool := decide (n < 0) || decide (400 ≤ n)
theorem enters112 : Enters Tryz.prog 112 := enters_of Tryz.func112 (by kernel_rfl) rfl
set_option maxRecDepth 100000 in
theorem prof_badFn (n : Int) (w : World) : Calls Tryz.prog 112 #[.int .i64 n] w fun e w' => e = .returned (.bool (badFn n)) ∧ w' = w := by
  unfold badFn
  by_cases h : n < 0
  · go_enter Tryz.func112, Tryz.ntmps112
    go_wp2_with fail
    go_ret
    exact ⟨ret_bool (by simp [h]), rfl⟩
  · by_cases h2 : 400 ≤ n
    · go_enter Tryz.func112, Tryz.ntmps112
      go_wp2_with fail
      go_ret
      exact ⟨ret_bool (by simp [h, h2]), rfl⟩
    · go_enter Tryz.func112, Tryz.ntmps112
      go_wp2_with fail
      go_ret
      exact ⟨ret_bool (by simp [h, h2]), rfl⟩
set_option maxRecDepth 100000 in
set_option maxHeartbeats 400000 in
theorem prof_anyBadAt (l : List Int) (v : Value) (w : World) (hl : Ints w v l) : Calls Tryz.prog 144 #[v, .func (.func 112) #[] #[]] w fun e w' => ∃ k : Int, e = .returned (.int .i64 k) ∧ decide (0 ≤ k) = l.any badFn ∧ w' = w := by
  obtain ⟨A, c, rfl, hm⟩ := hl.form
  have HL := Lib.hid hl
  have HC := Lib.hid prof_badFn
  have he := enters112
  clear hl
  go_enter Tryz.func144, Tryz.ntmps144
  go_wp2_with fail
  go_loopw [5, 8] (fun _ i wr => wr = w ∧ ∃ k : Nat, k ≤ l.length ∧ i = .int .i64 k ∧ ∀ j (h : j < l.length), j < k → badFn l[j] = false) (fun _ i _ => l.length - (intOf i).toNat)
  case atStart => exact ⟨rfl, 0, Nat.zero_le _, rfl, fun j _ h => absurd h (by omega)⟩
  case round =>
    obtain ⟨rfl, k, hk, rfl, hall⟩ := hrel
    have HAll := Lib.hid hall
    clear hall
    by_cases hlt : k < l.length
    · obtain ⟨b, off, rfl, hc⟩ := HL.out.at_ k hlt
      have HCk := Lib.hid (HC.out l[k] wr)
      cases hx : badFn l[k]
      · have HX := Lib.hid hx
        clear hx
        rw [HX.out] at HCk
        go_wp2_with fail
        refine HCk.out.mono ?_
        rintro e w1 ⟨rfl, rfl⟩
        go_wp2_with fail
        go_roundw
        case rel =>
          refine ⟨trivial, k + 1, hlt, by go_num, fun j h1 h2 => ?_⟩
          by_cases e : j = k
          · subst e; exact HX.out
          · exact HAll.out j h1 (by omega)
        case measure => simp [intOf]; omega
      · have HX := Lib.hid hx
        clear hx
        have hV : Hid (l.any badFn = true) := by unfold Hid; rw [List.any_eq_true]; exact ⟨_, List.getElem_mem hlt, HX.out⟩
        rw [HX.out] at HCk
        go_wp2_with fail
        refine HCk.out.mono ?_
        rintro e w1 ⟨rfl, rfl⟩
        go_wp2_with fail
        go_ret
        exact ⟨k, rfl, by rw [hV.out]; simp, rfl⟩
    · have hV : Hid (l.any badFn = false) := by
        unfold Hid
        rw [List.any_eq_false]
        intro x hx
        obtain ⟨j, hj, rfl⟩ := List.getElem_of_mem hx
        rw [HAll.out j hj (by omega)]; simp
      go_wp2_with fail
      go_ret
      exact ⟨-1, rfl, by rw [hV.out]; rfl, rfl⟩
set_option maxRecDepth 100000 in
theorem prof_anyBad (l : List Int) (v : Value) (w : World) (hl : Ints w v l) : Calls Tryz.prog 111 #[v, .func (.func 112) #[] #[]] w fun e w' => e = .returned (.bool (l.any badFn)) ∧ w' = w := by
  have HC := Lib.hid (prof_anyBadAt l v w hl)
  obtain ⟨A, c, rfl, hm⟩ := hl.form
  clear hl
  go_enter Tryz.func111, Tryz.ntmps111
  go_wp2_with fail
  refine HC.out.mono ?_
  rintro e w1 ⟨k, rfl, hk, rfl⟩
  go_wp2_with fail
  go_ret
  exact ⟨ret_bool (by rw [← hk]), rfl⟩
/-- Is an entry of a list of stacks wrong? -/
def wrongC (i : Nat) (x : StackC) (z : List Int) : Bool := decide (x.stack.length = 0) || (decide (x.work < 0) || (decide (0 < i) && decide (0 ≤ cmpL z x.stack) || x.stack.any badFn))
def wrongAt (l : List StackC) (i : Nat) : Bool := wrongC i (l.getD i ⟨[], 0⟩) (l.getD (i - 1) ⟨[], 0⟩).stack
def ordB (l : List StackC) : Bool := (List.range l.length).all fun i => !wrongAt l i
theorem ordB_no {l : List StackC} {k : Nat} (hk : k < l.length) (h : wrongAt l k = true) : ordB l = false := by
  unfold ordB; rw [List.all_eq_false]; exact ⟨k, List.mem_range.2 hk, by simp [h]⟩
theorem ordB_yes {l : List StackC} (h : ∀ j, j < l.length → wrongAt l j = false) : ordB l = true := by
  unfold ordB; rw [List.all_eq_true]; exact fun j hj => by simp [h j (List.mem_range.1 hj)]
set_option maxRecDepth 100000 in
set_option maxHeartbeats 2000000 in
theorem prof_ordered (l : List StackC) (v : Value) (w : World) (hl : StksL w v l) : Calls Tryz.prog 74 #[v] w (Gives w (.bool (ordB l))) := by
  obtain ⟨A, ac, rfl, hm, -⟩ := hl.form
  have HL := Lib.hid hl
  clear hl
  go_enter Tryz.func74, Tryz.ntmps74
  go_wp2_with fail
  go_loopw [3, 4, 7] (fun _ _ i wr => Below w.heap.size w wr ∧ ∃ k : Nat, k ≤ l.length ∧ i = .int .i64 k ∧ ∀ j, j < k → wrongAt l j = false) (fun _ _ i _ => l.length - (intOf i).toNat)
  case atStart => exact ⟨Below.refl _ _, 0, Nat.zero_le _, rfl, fun j h => absurd h (by omega)⟩
  case round =>
    obtain ⟨hb, k, hk, rfl, hall⟩ := hrel
    have HB := Lib.hid hb
    have HAll := Lib.hid hall
    clear hb hall
    by_cases hlt : k < l.length
    · obtain ⟨b, off, vx, rfl, c0, c1, hix⟩ := (HL.out.below HB.out).at_ k hlt
      have hkd : l.getD k ⟨[], 0⟩ = l[k] := by rw [List.getD_eq_getElem?_getD, List.getElem?_eq_getElem hlt]; rfl
      have hW : wrongAt l k = wrongC k l[k] (l.getD (k - 1) ⟨[], 0⟩).stack := by unfold wrongAt; rw [hkd]
      generalize hx : l[k] = x at *
      have hbx := below1 wr (.cells #[vx, .int .i64 x.work] 65)
      have hq := alloc_new wr (.cells #[vx, .int .i64 x.work] 65)
      have HBx := Lib.hid hbx
      have HQ := Lib.hid hq
      have HBW := Lib.hid (below_step HB.out hbx)
      have HIx := Lib.hid (hix.below hbx)
      obtain ⟨X, xc, rfl, hxm⟩ := hix.form
      have HW := Lib.hid hW
      clear hkd hW hx hbx hq hix
      go_upto_region 4 with (fail)
      clear c0 c1
      generalize hwx : wr.alloc (.cells #[.slice X x.stack.length xc, .int .i64 x.work] 65) = wx at *
      generalize hqb : wr.heap.size = q at *
      clear hwx hqb
      have hS0 : ∀ W, Below wx.heap.size wx W → Below wx.heap.size wx W ∧ W.cell? ⟨q, 0, none⟩ = some (.slice X x.stack.length xc) ∧ W.cell? ⟨q, 1, none⟩ = some (.int .i64 x.work) := fun W hb => ⟨hb, (block_cell (heap_keep hb HQ.out) 0 (by simp)).1, (block_cell (heap_keep hb HQ.out) 1 (by simp)).1⟩
      have HS0 := Lib.hid hS0
      have hany : ∀ W, Below wx.heap.size wx W → Calls Tryz.prog 111 #[.slice X x.stack.length xc, .func (.func 112) #[] #[]] W fun e w' => e = .returned (.bool (x.stack.any badFn)) ∧ Below wx.heap.size wx w' := fun W hb => (prof_anyBad x.stack _ W (HIx.out.below hb)).mono fun e w' ⟨h1, h2⟩ => ⟨h1, h2 ▸ hb⟩
      have HAny := Lib.hid hany
      clear hS0 hany
      by_cases h1 : x.stack.length = 0
      · have hV : Hid (ordB l = false) := ordB_no hlt (by rw [HW.out]; unfold wrongC; simp [h1])
        have g1 : (((x.stack.length : Nat) : Int) == 0) = true := by simp [h1]
        have H1 := Lib.hid h1
        clear h1
        obtain ⟨-, q0, q1⟩ := HS0.out wx (Below.refl _ _)
        go_quiet (fail)
        go_wp2_with fail
        go_ret
        rw [hV.out]
        exact ⟨rfl, HBW.out.trans ((below_drewN wx _).mono HBW.out.size)⟩
      have g1 : (((x.stack.length : Nat) : Int) == 0) = false := by simp; intro h; exact h1 (by rw [h]; rfl)
      have H1 := Lib.hid h1
      clear h1
      by_cases h2 : x.work < 0
      · have hV : Hid (ordB l = false) := ordB_no hlt (by rw [HW.out]; unfold wrongC; simp [h2])
        obtain ⟨-, q0, q1⟩ := HS0.out wx (Below.refl _ _)
        go_quiet (fail)
        go_wp2_with fail
        go_ret
        rw [hV.out]
        exact ⟨rfl, HBW.out.trans ((below_drewN wx _).mono HBW.out.size)⟩
      by_cases h3 : k = 0
      · subst h3
        obtain ⟨-, q0, q1⟩ := HS0.out wx (Below.refl _ _)
        cases h4 : x.stack.any badFn
        · have H4 := Lib.hid h4
          clear h4
          have hV : Hid (wrongAt l 0 = false) := by unfold Hid; rw [HW.out]; unfold wrongC; rw [H4.out]; simp [H1.out, h2]
          have hc : ∀ n, Calls Tryz.prog 111 #[.slice X x.stack.length xc, .func (.func 112) #[] #[]] (wx.drewN n) fun e w' => e = .returned (.bool false) ∧ w' = wx.drewN n := fun n => by
            refine (prof_anyBad x.stack _ _ (HIx.out.below (below_drewN wx n))).mono ?_
            rintro e w' ⟨h5, h6⟩
            exact ⟨by rw [h5, H4.out], h6⟩
          have HC := Lib.hid hc
          clear hc
          go_quiet ((go_at_call 111; exact Calls.quiet_of_same (HC.out _)))
          go_wp2_with fail
          go_roundw
          case rel => exact ⟨HBW.out.trans ((below_drewN wx _).mono HBW.out.size), 1, hlt, by go_num, fun j hj => by
            obtain rfl : j = 0 := by omega
            exact hV.out⟩
          case measure => simp [intOf]; omega
        · have H4 := Lib.hid h4
          clear h4
          have hV : Hid (ordB l = false) := ordB_no hlt (by rw [HW.out]; unfold wrongC; rw [H4.out]; simp)
          have hc : ∀ n, Calls Tryz.prog 111 #[.slice X x.stack.length xc, .func (.func 112) #[] #[]] (wx.drewN n) fun e w' => e = .returned (.bool true) ∧ w' = wx.drewN n := fun n => by
            refine (prof_anyBad x.stack _ _ (HIx.out.below (below_drewN wx n))).mono ?_
            rintro e w' ⟨h5, h6⟩
            exact ⟨by rw [h5, H4.out], h6⟩
          have HC := Lib.hid hc
          clear hc
          go_quiet ((go_at_call 111; exact Calls.quiet_of_same (HC.out _)))
          go_wp2_with fail
          go_ret
          rw [hV.out]
          exact ⟨rfl, HBW.out.trans ((below_drewN wx _).mono HBW.out.size)⟩
      · have hk1 : 0 < k := by omega
        have hkz : (0 : Int) < (k : Int) := by omega
        have hk2 : k - 1 < l.length := by omega
        have hprev : ∃ b' off' vz, some (⟨b, off, none⟩ : Addr) = some ⟨b', off', none⟩ ∧ wx.cell? ⟨b', off' + (k - 1) * 2, none⟩ = some vz ∧ wx.cell? ⟨b', off' + (k - 1) * 2 + 1, none⟩ = some (.int .i64 l[k - 1].work) ∧ Ints wx vz l[k - 1].stack := (HL.out.below HBW.out).at_ (k - 1) hk2
        obtain ⟨b', off', vz, he, z0, z1, hiz⟩ := hprev
        cases he
        have hpd : l.getD (k - 1) ⟨[], 0⟩ = l[k - 1] := by rw [List.getD_eq_getElem?_getD, List.getElem?_eq_getElem hk2]; rfl
        have HPD := Lib.hid hpd
        generalize l[k - 1] = z at *
        obtain ⟨Z, zc, rfl, hzm⟩ := hiz.form
        have hS1 : ∀ W, Below wx.heap.size wx W → Below wx.heap.size wx W ∧ W.cell? ⟨q, 0, none⟩ = some (.slice X x.stack.length xc) ∧ W.cell? ⟨q, 1, none⟩ = some (.int .i64 x.work) ∧ W.cell? ⟨b, off + (k - 1) * 2, none⟩ = some (.slice Z z.stack.length zc) ∧ W.cell? ⟨b, off + (k - 1) * 2 + 1, none⟩ = some (.int .i64 z.work) := fun W hb => ⟨hb, (HS0.out W hb).2.1, (HS0.out W hb).2.2, cell_keep hb z0, cell_keep hb z1⟩
        have HS1 := Lib.hid hS1
        have hcmp : ∀ W, Below wx.heap.size wx W → Calls Tryz.prog 63 #[.agg #[.slice Z z.stack.length zc, .int .i64 z.work], .agg #[.slice X x.stack.length xc, .int .i64 x.work]] W fun e w' => e = .returned (.int .i64 (cmpL z.stack x.stack)) ∧ Below wx.heap.size wx w' := fun W hb => (prof_compare z.stack x.stack _ _ _ _ W (hiz.below hb) (HIx.out.below hb)).mono fun e w' ⟨h1, h2⟩ => ⟨h1, below_step hb h2⟩
        have HCmp := Lib.hid hcmp
        have a1 : IntKind.i64.wrap ((k : Int) - 1) = (k : Int) - 1 := IntWalk.i64_in _ (by omega)
        have a2 : ((k : Int) - 1).toNat = k - 1 := by omega
        have a3 : (0 : Int) ≤ (k : Int) - 1 := by omega
        have a4 : (k : Int) - 1 < (l.length : Int) := by omega
        have a5 : ¬ ((k : Int) - 1 < 0) := by omega
        have a6 : ¬ ((l.length : Int) ≤ (k : Int) - 1) := by omega
        have a7 : (1 : Int) ≤ (k : Int) := by omega
        clear hpd hS1 hcmp z0 z1 hiz
        by_cases h4 : 0 ≤ cmpL z.stack x.stack
        · have hV : Hid (ordB l = false) := ordB_no hlt (by rw [HW.out]; unfold wrongC; rw [HPD.out]; simp [h4, hk1])
          rcases cmpL_three z.stack x.stack with hc | hc | hc
          · exact absurd h4 (by omega)
          all_goals
            rw [hc] at HCmp
            clear h4 hc
            refine wp_region_held_drew (S := (fun W => Below wx.heap.size wx W ∧ W.cell? ⟨q, 0, none⟩ = some (.slice X x.stack.length xc) ∧ W.cell? ⟨q, 1, none⟩ = some (.int .i64 x.work) ∧ W.cell? ⟨b, off + (k - 1) * 2, none⟩ = some (.slice Z z.stack.length zc) ∧ W.cell? ⟨b, off + (k - 1) * 2 + 1, none⟩ = some (.int .i64 z.work))) (by kernel_rfl) ?_ (fun hHeld => ?_)
            · exact HS1.out _ (below_drew _)
            refine wpAnyH_take (i := 0) (oi := { dst := some 12, op := Op.fieldAddr 65 (Operand.tmp 4) 0, type := 0, pos := "prof.go:225", after := #[], guard := none }) (v := ?_) rfl (by kernel_rfl) (by kernel_rfl) (by kernel_rfl) (fun _ _ _ h => h) (Or.inl ⟨by rfl, ?_⟩) (by assumption) ?_
            rotate_left
            · intro w hSw
              go_split_ands
              go_simp
              try with_reducible rfl
            try simp only [Act.put, List.setIfInBounds_toArray, List.set_cons_zero, List.set_cons_succ]
            refine wpAnyH_take (i := 1) (oi := { dst := some 13, op := Op.load 22 (Operand.tmp 12), type := 22, pos := "prof.go:225", after := #[{ on := 0, ground := Ground.data }], guard := none }) (v := ?_) rfl (by kernel_rfl) (by kernel_rfl) (by kernel_rfl) (fun _ _ _ h => h) (Or.inl ⟨by rfl, ?_⟩) (by assumption) ?_
            rotate_left
            · intro w hSw
              go_split_ands
              go_simp
              try with_reducible rfl
            try simp only [Act.put, List.setIfInBounds_toArray, List.set_cons_zero, List.set_cons_succ]
            refine wpAnyH_take (i := 2) (oi := { dst := some 14, op := Op.call { callee := Callee.builtin Builtin.len, args := #[Operand.tmp 13], argTypes := #[22] }, type := 3, pos := "prof.go:225", after := #[{ on := 1, ground := Ground.data }], guard := none }) (v := ?_) rfl (by kernel_rfl) (by kernel_rfl) (by kernel_rfl) (fun _ _ _ h => h) (Or.inl ⟨by rfl, ?_⟩) (by assumption) ?_
            rotate_left
            · intro w hSw
              go_split_ands
              go_simp
              try with_reducible rfl
            try simp only [Act.put, List.setIfInBounds_toArray, List.set_cons_zero, List.set_cons_succ]
            refine wpAnyH_take (i := 3) (oi := { dst := some 15, op := Op.binOp BinOp.eql 3 (Operand.tmp 14) (Operand.const (Value.int IntKind.i64 0)) 3, type := 4, pos := "prof.go:225", after := #[{ on := 2, ground := Ground.data }], guard := none }) (v := ?_) rfl (by kernel_rfl) (by kernel_rfl) (by kernel_rfl) (fun _ _ _ h => h) (Or.inl ⟨by rfl, ?_⟩) (by assumption) ?_
            rotate_left
            · intro w hSw
              go_split_ands
              go_simp
              try with_reducible rfl
            try simp only [Act.put, List.setIfInBounds_toArray, List.set_cons_zero, List.set_cons_succ]
            refine wpAnyH_take (i := 4) (oi := { dst := some 16, op := Op.move (Operand.tmp 15), type := 4, pos := "prof.go:225", after := #[{ on := 3, ground := Ground.data }], guard := none }) (v := ?_) rfl (by kernel_rfl) (by kernel_rfl) (by kernel_rfl) (fun _ _ _ h => h) (Or.inl ⟨by rfl, ?_⟩) (by assumption) ?_
            rotate_left
            · intro w hSw
              go_split_ands
              go_simp
              try with_reducible rfl
            try simp only [Act.put, List.setIfInBounds_toArray, List.set_cons_zero, List.set_cons_succ]
            refine wpAnyH_take (i := 5) (oi := { dst := some 17, op := Op.fieldAddr 65 (Operand.tmp 4) 1, type := 0, pos := "prof.go:225", after := #[{ on := 4, ground := Ground.guard }], guard := some (4, false) }) (v := ?_) rfl (by kernel_rfl) (by kernel_rfl) (by kernel_rfl) (fun _ _ _ h => h) (Or.inl ⟨by rfl, ?_⟩) (by assumption) ?_
            rotate_left
            · intro w hSw
              go_split_ands
              go_simp
              try with_reducible rfl
            try simp only [Act.put, List.setIfInBounds_toArray, List.set_cons_zero, List.set_cons_succ]
            refine wpAnyH_take (i := 6) (oi := { dst := some 18, op := Op.load 3 (Operand.tmp 17), type := 3, pos := "prof.go:225", after := #[{ on := 5, ground := Ground.data }, { on := 4, ground := Ground.guard }], guard := some (4, false) }) (v := ?_) rfl (by kernel_rfl) (by kernel_rfl) (by kernel_rfl) (fun _ _ _ h => h) (Or.inl ⟨by rfl, ?_⟩) (by assumption) ?_
            rotate_left
            · intro w hSw
              go_split_ands
              go_simp
              try with_reducible rfl
            try simp only [Act.put, List.setIfInBounds_toArray, List.set_cons_zero, List.set_cons_succ]
            refine wpAnyH_take (i := 7) (oi := { dst := some 19, op := Op.binOp BinOp.lss 3 (Operand.tmp 18) (Operand.const (Value.int IntKind.i64 0)) 3, type := 4, pos := "prof.go:225", after := #[{ on := 6, ground := Ground.data }, { on := 4, ground := Ground.guard }], guard := some (4, false) }) (v := ?_) rfl (by kernel_rfl) (by kernel_rfl) (by kernel_rfl) (fun _ _ _ h => h) (Or.inl ⟨by rfl, ?_⟩) (by assumption) ?_
            rotate_left
            · intro w hSw
              go_split_ands
              go_simp
              try with_reducible rfl
            try simp only [Act.put, List.setIfInBounds_toArray, List.set_cons_zero, List.set_cons_succ]
            refine wpAnyH_take (i := 8) (oi := { dst := some 20, op := Op.pick (Operand.tmp 16) (Operand.const (Value.bool true)) (Operand.tmp 19), type := 4, pos := "prof.go:225", after := #[{ on := 4, ground := Ground.data }, { on := 7, ground := Ground.data }], guard := none }) (v := ?_) rfl (by kernel_rfl) (by kernel_rfl) (by kernel_rfl) (fun _ _ _ h => h) (Or.inl ⟨by rfl, ?_⟩) (by assumption) ?_
            rotate_left
            · intro w hSw
              go_split_ands
              go_simp
              try with_reducible rfl
            try simp only [Act.put, List.setIfInBounds_toArray, List.set_cons_zero, List.set_cons_succ]
            refine wpAnyH_take (i := 9) (oi := { dst := some 21, op := Op.move (Operand.tmp 20), type := 4, pos := "prof.go:225", after := #[{ on := 8, ground := Ground.data }, { on := 4, ground := Ground.chain }], guard := none }) (v := ?_) rfl (by kernel_rfl) (by kernel_rfl) (by kernel_rfl) (fun _ _ _ h => h) (Or.inl ⟨by rfl, ?_⟩) (by assumption) ?_
            rotate_left
            · intro w hSw
              go_split_ands
              go_simp
              try with_reducible rfl
            try simp only [Act.put, List.setIfInBounds_toArray, List.set_cons_zero, List.set_cons_succ]
            refine wpAnyH_take (i := 10) (oi := { dst := some 22, op := Op.move (Operand.tmp 3), type := 3, pos := "prof.go:225", after := #[{ on := 9, ground := Ground.guard }], guard := some (9, false) }) (v := ?_) rfl (by kernel_rfl) (by kernel_rfl) (by kernel_rfl) (fun _ _ _ h => h) (Or.inl ⟨by rfl, ?_⟩) (by assumption) ?_
            rotate_left
            · intro w hSw
              go_split_ands
              go_simp
              try with_reducible rfl
            try simp only [Act.put, List.setIfInBounds_toArray, List.set_cons_zero, List.set_cons_succ]
            refine wpAnyH_take (i := 11) (oi := { dst := some 23, op := Op.binOp BinOp.gtr 3 (Operand.tmp 22) (Operand.const (Value.int IntKind.i64 0)) 3, type := 4, pos := "prof.go:225", after := #[{ on := 10, ground := Ground.data }, { on := 9, ground := Ground.guard }], guard := some (9, false) }) (v := ?_) rfl (by kernel_rfl) (by kernel_rfl) (by kernel_rfl) (fun _ _ _ h => h) (Or.inl ⟨by rfl, ?_⟩) (by assumption) ?_
            rotate_left
            · intro w hSw
              go_split_ands
              go_simp
              try with_reducible rfl
            try simp only [Act.put, List.setIfInBounds_toArray, List.set_cons_zero, List.set_cons_succ]
            refine wpAnyH_take (i := 12) (oi := { dst := some 24, op := Op.move (Operand.tmp 23), type := 4, pos := "prof.go:225", after := #[{ on := 11, ground := Ground.data }, { on := 9, ground := Ground.chain }, { on := 9, ground := Ground.guard }], guard := some (9, false) }) (v := ?_) rfl (by kernel_rfl) (by kernel_rfl) (by kernel_rfl) (fun _ _ _ h => h) (Or.inl ⟨by rfl, ?_⟩) (by assumption) ?_
            rotate_left
            · intro w hSw
              go_split_ands
              go_simp
              try with_reducible rfl
            try simp only [Act.put, List.setIfInBounds_toArray, List.set_cons_zero, List.set_cons_succ]
            refine wpAnyH_take (i := 13) (oi := { dst := some 25, op := Op.move (Operand.tmp 0), type := 36, pos := "prof.go:225", after := #[{ on := 12, ground := Ground.guard }], guard := some (12, true) }) (v := ?_) rfl (by kernel_rfl) (by kernel_rfl) (by kernel_rfl) (fun _ _ _ h => h) (Or.inl ⟨by rfl, ?_⟩) (by assumption) ?_
            rotate_left
            · intro w hSw
              go_split_ands
              go_simp
              try with_reducible rfl
            try simp only [Act.put, List.setIfInBounds_toArray, List.set_cons_zero, List.set_cons_succ]
            refine wpAnyH_take (i := 14) (oi := { dst := some 26, op := Op.move (Operand.tmp 3), type := 3, pos := "prof.go:225", after := #[{ on := 12, ground := Ground.guard }], guard := some (12, true) }) (v := ?_) rfl (by kernel_rfl) (by kernel_rfl) (by kernel_rfl) (fun _ _ _ h => h) (Or.inl ⟨by rfl, ?_⟩) (by assumption) ?_
            rotate_left
            · intro w hSw
              go_split_ands
              go_simp
              try with_reducible rfl
            try simp only [Act.put, List.setIfInBounds_toArray, List.set_cons_zero, List.set_cons_succ]
            refine wpAnyH_take (i := 15) (oi := { dst := some 27, op := Op.binOp BinOp.sub 3 (Operand.tmp 26) (Operand.const (Value.int IntKind.i64 1)) 3, type := 3, pos := "prof.go:225", after := #[{ on := 14, ground := Ground.data }, { on := 12, ground := Ground.guard }], guard := some (12, true) }) (v := ?_) rfl (by kernel_rfl) (by kernel_rfl) (by kernel_rfl) (fun _ _ _ h => h) (Or.inl ⟨by rfl, ?_⟩) (by assumption) ?_
            rotate_left
            · intro w hSw
              go_split_ands
              go_simp
              try with_reducible rfl
            try simp only [Act.put, List.setIfInBounds_toArray, List.set_cons_zero, List.set_cons_succ]
            refine wpAnyH_take (i := 18) (oi := { dst := some 30, op := Op.load 65 (Operand.tmp 4), type := 65, pos := "prof.go:225", after := #[{ on := 12, ground := Ground.guard }], guard := some (12, true) }) (v := ?_) rfl (by kernel_rfl) (by kernel_rfl) (by kernel_rfl) (fun _ _ _ h => h) (Or.inl ⟨by rfl, ?_⟩) (by assumption) ?_
            rotate_left
            · intro w hSw
              go_split_ands
              go_simp
              try with_reducible rfl
            try simp only [Act.put, List.setIfInBounds_toArray, List.set_cons_zero, List.set_cons_succ]
            refine wpAnyH_take (i := 16) (oi := { dst := some 28, op := Op.indexAddr 36 (Operand.tmp 25) (Operand.tmp 27), type := 0, pos := "prof.go:225", after := #[{ on := 13, ground := Ground.data }, { on := 15, ground := Ground.data }, { on := 12, ground := Ground.guard }], guard := some (12, true) }) (v := ?_) rfl (by kernel_rfl) (by kernel_rfl) (by kernel_rfl) (fun _ _ _ h => h) (Or.inl ⟨by rfl, ?_⟩) (by assumption) ?_
            rotate_left
            · intro w hSw
              go_split_ands
              go_simp
              try with_reducible rfl
            try simp only [Act.put, List.setIfInBounds_toArray, List.set_cons_zero, List.set_cons_succ]
            refine wpAnyH_take (i := 17) (oi := { dst := some 29, op := Op.load 65 (Operand.tmp 28), type := 65, pos := "prof.go:225", after := #[{ on := 16, ground := Ground.data }, { on := 12, ground := Ground.guard }], guard := some (12, true) }) (v := ?_) rfl (by kernel_rfl) (by kernel_rfl) (by kernel_rfl) (fun _ _ _ h => h) (Or.inl ⟨by rfl, ?_⟩) (by assumption) ?_
            rotate_left
            · intro w hSw
              go_split_ands
              go_simp
              try with_reducible rfl
            try simp only [Act.put, List.setIfInBounds_toArray, List.set_cons_zero, List.set_cons_succ]
            refine wpAnyH_ready (rs := [19]) (by kernel_rfl) (by simp) ?_
            refine AllReadyH.cons (o := { dst := some 31, op := Op.call { callee := Callee.value (Operand.func 63), args := #[Operand.tmp 29, Operand.tmp 30], argTypes := #[65, 65] }, type := 3, pos := "prof.go:225", after := #[{ on := 17, ground := Ground.data }, { on := 18, ground := Ground.data }, { on := 12, ground := Ground.chain }, { on := 12, ground := Ground.guard }], guard := some (12, true) }) rfl (fun K hK => ?_) AllReadyH.nil
            have HK := Lib.hid hK; clear hK
            go_simp
            refine (HCmp.out _ (by go_split_ands; assumption)).mono ?_
            rintro e w7 ⟨rfl, hb7⟩
            have HB7 := Lib.hid hb7
            go_wp2_with fail
            refine HK.out _ _ (HS1.out _ HB7.out) (fun hHeld => ?_)
            clear HK K
            try simp only [Act.put, List.setIfInBounds_toArray, List.set_cons_zero, List.set_cons_succ]
            refine wpAnyH_take (i := 20) (oi := { dst := some 32, op := Op.binOp BinOp.geq 3 (Operand.tmp 31) (Operand.const (Value.int IntKind.i64 0)) 3, type := 4, pos := "prof.go:225", after := #[{ on := 19, ground := Ground.data }, { on := 12, ground := Ground.guard }], guard := some (12, true) }) (v := ?_) rfl (by kernel_rfl) (by kernel_rfl) (by kernel_rfl) (fun _ _ _ h => h) (Or.inl ⟨by rfl, ?_⟩) (by assumption) ?_
            rotate_left
            · intro w hSw
              go_split_ands
              go_simp
              try with_reducible rfl
            try simp only [Act.put, List.setIfInBounds_toArray, List.set_cons_zero, List.set_cons_succ]
            refine wpAnyH_take (i := 21) (oi := { dst := some 33, op := Op.pick (Operand.tmp 24) (Operand.tmp 32) (Operand.const (Value.bool false)), type := 4, pos := "prof.go:225", after := #[{ on := 12, ground := Ground.data }, { on := 20, ground := Ground.data }, { on := 9, ground := Ground.guard }], guard := some (9, false) }) (v := ?_) rfl (by kernel_rfl) (by kernel_rfl) (by kernel_rfl) (fun _ _ _ h => h) (Or.inl ⟨by rfl, ?_⟩) (by assumption) ?_
            rotate_left
            · intro w hSw
              go_split_ands
              go_simp
              try with_reducible rfl
            try simp only [Act.put, List.setIfInBounds_toArray, List.set_cons_zero, List.set_cons_succ]
            refine wpAnyH_take (i := 22) (oi := { dst := some 34, op := Op.pick (Operand.tmp 21) (Operand.const (Value.bool true)) (Operand.tmp 33), type := 4, pos := "prof.go:225", after := #[{ on := 9, ground := Ground.data }, { on := 21, ground := Ground.data }], guard := none }) (v := ?_) rfl (by kernel_rfl) (by kernel_rfl) (by kernel_rfl) (fun _ _ _ h => h) (Or.inl ⟨by rfl, ?_⟩) (by assumption) ?_
            rotate_left
            · intro w hSw
              go_split_ands
              go_simp
              try with_reducible rfl
            try simp only [Act.put, List.setIfInBounds_toArray, List.set_cons_zero, List.set_cons_succ]
            refine wpAnyH_take (i := 23) (oi := { dst := some 35, op := Op.move (Operand.tmp 34), type := 4, pos := "prof.go:225", after := #[{ on := 22, ground := Ground.data }, { on := 19, ground := Ground.chain }], guard := none }) (v := ?_) rfl (by kernel_rfl) (by kernel_rfl) (by kernel_rfl) (fun _ _ _ h => h) (Or.inl ⟨by rfl, ?_⟩) (by assumption) ?_
            rotate_left
            · intro w hSw
              go_split_ands
              go_simp
              try with_reducible rfl
            try simp only [Act.put, List.setIfInBounds_toArray, List.set_cons_zero, List.set_cons_succ]
            refine wpAnyH_take (i := 24) (oi := { dst := some 36, op := Op.fieldAddr 65 (Operand.tmp 4) 0, type := 0, pos := "prof.go:225", after := #[{ on := 23, ground := Ground.guard }], guard := some (23, false) }) (v := undef) rfl (by kernel_rfl) (by kernel_rfl) (by kernel_rfl) (fun _ _ _ h => h) (Or.inr ⟨by rfl, rfl⟩) (by assumption) ?_
            try simp only [Act.put, List.setIfInBounds_toArray, List.set_cons_zero, List.set_cons_succ]
            refine wpAnyH_take (i := 25) (oi := { dst := some 37, op := Op.load 22 (Operand.tmp 36), type := 22, pos := "prof.go:225", after := #[{ on := 24, ground := Ground.data }, { on := 23, ground := Ground.guard }], guard := some (23, false) }) (v := undef) rfl (by kernel_rfl) (by kernel_rfl) (by kernel_rfl) (fun _ _ _ h => h) (Or.inr ⟨by rfl, rfl⟩) (by assumption) ?_
            try simp only [Act.put, List.setIfInBounds_toArray, List.set_cons_zero, List.set_cons_succ]
            refine wpAnyH_ready (rs := [26]) (by kernel_rfl) (by simp) ?_
            refine AllReadyH.cons (o := { dst := some 38, op := Op.call { callee := Callee.value (Operand.func 111), args := #[Operand.tmp 37, Operand.func 112], argTypes := #[22, 179] }, type := 4, pos := "prof.go:225", after := #[{ on := 25, ground := Ground.data }, { on := 23, ground := Ground.chain }, { on := 23, ground := Ground.guard }], guard := some (23, false) }) rfl (fun K hK => ?_) AllReadyH.nil
            have HK := Lib.hid hK; clear hK
            go_simp
            refine HK.out _ _ (HS1.out _ HB7.out) (fun hHeld => ?_)
            clear HK K
            try simp only [Act.put, List.setIfInBounds_toArray, List.set_cons_zero, List.set_cons_succ]
            refine wpAnyH_take (i := 27) (oi := { dst := some 39, op := Op.pick (Operand.tmp 35) (Operand.const (Value.bool true)) (Operand.tmp 38), type := 4, pos := "prof.go:225", after := #[{ on := 23, ground := Ground.data }, { on := 26, ground := Ground.data }], guard := none }) (v := ?_) rfl (by kernel_rfl) (by kernel_rfl) (by kernel_rfl) (fun _ _ _ h => h) (Or.inl ⟨by rfl, ?_⟩) (by assumption) ?_
            rotate_left
            · intro w hSw
              go_split_ands
              go_simp
              try with_reducible rfl
            try simp only [Act.put, List.setIfInBounds_toArray, List.set_cons_zero, List.set_cons_succ]
            refine wpAnyH_done (by kernel_rfl) ?_ _
          all_goals
            obtain ⟨hb9, -⟩ := HS1.out _ HB7.out
            go_wp2_with fail
            go_ret
            rw [hV.out]
            exact ⟨rfl, HBW.out.trans (HB7.out.mono HBW.out.size)⟩
        · have h4' : ¬ (0 ≤ cmpL z.stack x.stack) := h4
          have hc : cmpL z.stack x.stack = -1 := by rcases cmpL_three z.stack x.stack with hc | hc | hc <;> omega
          cases h5 : x.stack.any badFn
          · have H5 := Lib.hid h5
            have hany2 : ∀ W, Below wx.heap.size wx W → Calls Tryz.prog 111 #[.slice X x.stack.length xc, .func (.func 112) #[] #[]] W fun e w' => e = .returned (.bool false) ∧ Below wx.heap.size wx w' := fun W hb => by
              have := HAny.out W hb
              rw [h5] at this
              exact this
            have HAny2 := Lib.hid hany2
            have hV : Hid (wrongAt l k = false) := by unfold Hid; rw [HW.out, HPD.out]; unfold wrongC; rw [h5]; simp [H1.out, h2, h4']
            rw [hc] at HCmp
            clear h4 h4' hc h5 hany2
            first
            | go_region_held3 (fun W => Below wx.heap.size wx W ∧ W.cell? ⟨q, 0, none⟩ = some (.slice X x.stack.length xc) ∧ W.cell? ⟨q, 1, none⟩ = some (.int .i64 x.work) ∧ W.cell? ⟨b, off + (k - 1) * 2, none⟩ = some (.slice Z z.stack.length zc) ∧ W.cell? ⟨b, off + (k - 1) * 2 + 1, none⟩ = some (.int .i64 z.work)) (first | assumption | exact HS1.out _ (below_drew _) | exact HS1.out _ (by assumption)) (first | (go_at_call 63; refine (HCmp.out _ (by go_split_ands; assumption)).mono ?_; rintro e w7 ⟨rfl, hb7⟩; have HB7 := Lib.hid hb7) | (go_at_call 111; refine (HAny2.out _ (by go_split_ands; assumption)).mono ?_; rintro e w8 ⟨rfl, hb8⟩; have HB8 := Lib.hid hb8))
            | fail
            go_wp2_with fail
            go_roundw
            case rel => exact ⟨HBW.out.trans (HB8.out.mono HBW.out.size), k + 1, hlt, by go_num, fun j hj => by
              by_cases e : j = k
              · subst e; exact hV.out
              · exact HAll.out j (by omega)⟩
            case measure => simp [intOf]; omega
          · have H5 := Lib.hid h5
            have hany2 : ∀ W, Below wx.heap.size wx W → Calls Tryz.prog 111 #[.slice X x.stack.length xc, .func (.func 112) #[] #[]] W fun e w' => e = .returned (.bool true) ∧ Below wx.heap.size wx w' := fun W hb => by
              have := HAny.out W hb
              rw [h5] at this
              exact this
            have HAny2 := Lib.hid hany2
            have hV : Hid (ordB l = false) := ordB_no hlt (by rw [HW.out]; unfold wrongC; rw [h5]; simp)
            rw [hc] at HCmp
            clear h4 h4' hc h5 hany2
            first
            | go_region_held3 (fun W => Below wx.heap.size wx W ∧ W.cell? ⟨q, 0, none⟩ = some (.slice X x.stack.length xc) ∧ W.cell? ⟨q, 1, none⟩ = some (.int .i64 x.work) ∧ W.cell? ⟨b, off + (k - 1) * 2, none⟩ = some (.slice Z z.stack.length zc) ∧ W.cell? ⟨b, off + (k - 1) * 2 + 1, none⟩ = some (.int .i64 z.work)) (first | assumption | exact HS1.out _ (below_drew _) | exact HS1.out _ (by assumption)) (first | (go_at_call 63; refine (HCmp.out _ (by go_split_ands; assumption)).mono ?_; rintro e w7 ⟨rfl, hb7⟩; have HB7 := Lib.hid hb7) | (go_at_call 111; refine (HAny2.out _ (by go_split_ands; assumption)).mono ?_; rintro e w8 ⟨rfl, hb8⟩; have HB8 := Lib.hid hb8))
            | fail
            go_wp2_with fail
            go_ret
            rw [hV.out]
            exact ⟨rfl, HBW.out.trans (HB8.out.mono HBW.out.size)⟩
    · obtain rfl : k = l.length := by omega
      have hV : Hid (ordB l = true) := ordB_yes HAll.out
      go_wp2_with fail
      go_ret
      rw [hV.out]
      exact ⟨rfl, HB.out⟩
end Go.Proofs.YtdkcjeaabbkdeaaGreatDoor
end
section
namespace Go.Proofs.YtdkcjeaabbkdeaaGreatDoor
open Go.RowKit Go.Sort Go.Shelf
set_option linter.unusedVariables false
set_option linter.unusedSimpArgs false

theorem cmpL_self (x : List Int) : cmpL x x = 0 := by
  induction x with
  | nil => rfl
  | cons a x ih => simp [cmpL, cmpI, ih]
theorem cmpI_cases (a b : Int) : (cmpI a b = -1 ∧ a < b) ∨ (cmpI a b = 1 ∧ b < a) ∨ (cmpI a b = 0 ∧ a = b) := by
  unfold cmpI; split
  · exact .inl ⟨rfl, by assumption⟩
  · split
    · exact .inr (.inl ⟨rfl, by assumption⟩)
    · exact .inr (.inr ⟨rfl, by omega⟩)
theorem cmpL_cons (a b : Int) (x y : List Int) : (cmpL (a :: x) (b :: y) = -1 ∧ a < b) ∨ (cmpL (a :: x) (b :: y) = 1 ∧ b < a) ∨ (cmpL (a :: x) (b :: y) = cmpL x y ∧ a = b) := by
  rcases cmpI_cases a b with ⟨h, k⟩ | ⟨h, k⟩ | ⟨h, k⟩
  · exact .inl ⟨by simp [cmpL, h], k⟩
  · exact .inr (.inl ⟨by simp [cmpL, h], k⟩)
  · exact .inr (.inr ⟨by simp [cmpL, h], k⟩)
theorem cmpL_trans (x y z : List Int) (h1 : cmpL x y < 0) (h2 : cmpL y z < 0) : cmpL x z < 0 := by
  induction x generalizing y z with
  | nil =>
    cases z with
    | nil => cases y <;> simp [cmpL] at h1 h2
    | cons c z => simp [cmpL]
  | cons a x ih =>
    cases y with
    | nil => simp [cmpL] at h1
    | cons b y =>
      cases z with
      | nil => simp [cmpL] at h2
      | cons c z =>
        rcases cmpL_cons a b x y with ⟨e, k⟩ | ⟨e, k⟩ | ⟨e, k⟩ <;> rcases cmpL_cons b c y z with ⟨e2, k2⟩ | ⟨e2, k2⟩ | ⟨e2, k2⟩ <;> rcases cmpL_cons a c x z with ⟨e3, k3⟩ | ⟨e3, k3⟩ | ⟨e3, k3⟩ <;> first | omega | (rw [e3]; rw [e] at h1; rw [e2] at h2; exact ih _ _ h1 h2)
theorem cmpL_ntrans (x y z : List Int) (h1 : 0 ≤ cmpL x y) (h2 : 0 ≤ cmpL y z) : 0 ≤ cmpL x z := by
  induction x generalizing y z with
  | nil =>
    cases y with
    | nil => exact h2
    | cons b y => simp [cmpL] at h1
  | cons a x ih =>
    cases z with
    | nil => simp [cmpL]
    | cons c z =>
      cases y with
      | nil => simp [cmpL] at h2
      | cons b y =>
        rcases cmpL_cons a b x y with ⟨e, k⟩ | ⟨e, k⟩ | ⟨e, k⟩ <;> rcases cmpL_cons b c y z with ⟨e2, k2⟩ | ⟨e2, k2⟩ | ⟨e2, k2⟩ <;> rcases cmpL_cons a c x z with ⟨e3, k3⟩ | ⟨e3, k3⟩ | ⟨e3, k3⟩ <;> first | omega | (rw [e3]; rw [e] at h1; rw [e2] at h2; exact ih _ _ h1 h2)

set_option maxRecDepth 100000 in
theorem prof_compare_w (x y : List Int) (vx vy : Value) (a b : Int) (w : World) (hx : Ints w vx x) (hy : Ints w vy y) : Calls Tryz.prog 63 #[.agg #[vx, .int .i64 a], .agg #[vy, .int .i64 b]] w fun e w' => e = .returned (.int .i64 (cmpL x y)) ∧ w' = (w.alloc (.cells #[vx, .int .i64 a] 65)).alloc (.cells #[vy, .int .i64 b] 65) := by
  have hb := below2 w (.cells #[vx, .int .i64 a] 65) (.cells #[vy, .int .i64 b] 65)
  have HC := Lib.hid (prof_compareL x y vx vy _ (hx.below hb) (hy.below hb))
  obtain ⟨A, ca, rfl, -⟩ := hx.form
  obtain ⟨B, cb, rfl, -⟩ := hy.form
  clear hx hy
  go_enter Tryz.func63, Tryz.ntmps63
  go_wp2_with fail
  refine HC.out.mono ?_
  rintro e w1 ⟨rfl, rfl⟩
  go_wp2_with fail
  go_ret
  exact ⟨rfl, rfl⟩

/-- A stack with the slice that holds it. -/
abbrev StkV := Value × StackC
def stkCells (y : StkV) : List Value := [y.1, .int .i64 y.2.work]
def NoRow (w : World) (blk : Nat) (y : StkV) : Prop := Ints (hide (· = blk) w) y.1 y.2.stack
def encS {P : StkV → Prop} (y : {y : StkV // P y}) : List Value := stkCells y.1
theorem flat2_get {α : Type} (f : α → List Value) (hf : ∀ x, (f x).length = 2) (l : List α) (j i : Nat) (hj : j < l.length) (hi : i < 2) : (l.flatMap f)[j * 2 + i]? = (f l[j])[i]? := by
  induction l generalizing j with
  | nil => simp at hj
  | cons s l ih =>
    rw [List.flatMap_cons]
    cases j with
    | zero =>
      rw [List.getElem?_append_left (by rw [hf]; omega)]; simp
    | succ j =>
      rw [List.getElem?_append_right (by rw [hf]; omega)]
      have : (j + 1) * 2 + i - (f s).length = j * 2 + i := by rw [hf]; omega
      rw [this, ih j (by simpa using hj)]; rfl
section
variable {P : StkV → Prop} [Inhabited {y : StkV // P y}]
theorem stks_of_holds {w : World} {blk off cap : Nat} {d : Array {y : StkV // P y}} (h : HoldsK encS 2 w blk off d) (hm : d.size ≤ 9223372036854775807 ∧ d.size ≤ cap) (hr : ∀ y, P y → Ints w y.1 y.2.stack) : StksL w (.slice (some ⟨blk, off, none⟩) d.size cap) (d.toList.map fun y => y.1.2) := by
  refine ⟨some ⟨blk, off, none⟩, cap, by simp, by simpa using hm, fun j hj => ?_⟩
  have hj' : j < d.size := by simpa using hj
  refine ⟨blk, off, stkCells d[j].1, rfl, rfl, fun i hi => ?_, ⟨d[j].1.1, by simp [stkCells], ?_⟩⟩
  · have hi2 : i < 2 := by simpa [stkCells] using hi
    have hc := (h.cell hj' hi2).1
    rw [getElem!_pos d j hj', getElem!_pos _ i (by simpa [encS, stkCells] using hi2)] at hc
    simpa [encS, Nat.add_assoc] using hc
  · have := hr _ d[j].2
    simpa using this
theorem holdsS_of_own {w : World} {base g cap : Nat} {d : Array {y : StkV // P y}} (h : w.ownsRow base 65 2 (.slice (some ⟨g, 0, none⟩) d.size cap) d.size (d.toList.flatMap encS)) : HoldsK encS 2 w g 0 d := by
  intro j hj
  have hj' : j < d.size * 2 := by simpa using hj
  refine ⟨?_, h.frozenAt _⟩
  rw [Nat.zero_add, h.cellAt j hj', get_flatK _ _ _ _ hj']
  have hd : j / 2 < d.size := by omega
  have e : j = j / 2 * 2 + j % 2 := by omega
  have := flat2_get encS (fun _ => rfl) d.toList (j / 2) (j % 2) (by simpa using hd) (by omega)
  rw [← e] at this
  rw [this, getElem!_pos d (j / 2) hd, getElem!_pos _ (j % 2) (by simp [encS, stkCells]; omega), List.getElem?_eq_getElem (by simp [encS, stkCells]; omega)]
  rfl
end
theorem swo_stacks (P : StkV → Prop) : SWO (ltOf fun x y : {y : StkV // P y} => cmpL x.1.2.stack y.1.2.stack) := by
  refine ⟨fun x => ?_, fun x y z h1 h2 => ?_, fun x y z h1 h2 => ?_⟩ <;> unfold ltOf at *
  · simp [cmpL_self]
  · simp only [decide_eq_true_eq] at *; exact cmpL_trans _ _ _ h1 h2
  · simp only [decide_eq_false_iff_not, Int.not_lt] at *; exact cmpL_ntrans _ _ _ h1 h2
theorem enters63 : Enters Tryz.prog 63 := enters_of Tryz.func63 (by kernel_rfl) rfl

set_option maxHeartbeats 1000000 in
theorem sort_stacks (w : World) (blk cap base : Nat) (d : Array {y : StkV // NoRow w blk y}) [Inhabited {y : StkV // NoRow w blk y}]
    (hsz : d.size < 4611686018427387904) (h : w.ownsRow base 65 2 (.slice (some ⟨blk, 0, none⟩) d.size cap) d.size (d.toList.flatMap encS)) :
    Calls Tryz.prog 107 #[.slice (some ⟨blk, 0, none⟩) d.size cap, .func (.func 63) #[] #[]] w fun e w' => e = .returned (.tuple #[]) ∧ ∃ l : List StackC, l.Perm (d.toList.map fun y => y.1.2) ∧ (∀ i j (h1 : i < j) (h2 : j < l.length), ¬ cmpL l[j].stack l[i].stack < 0) ∧ RowKit.Below base w w' ∧ StksL w' (.slice (some ⟨blk, 0, none⟩) d.size cap) l ∧ (∀ k, k < w.heap.size → k ≠ blk → w'.heap[k]? = w.heap[k]?) := by
  obtain ⟨hb, hlt⟩ := h.lt blk rfl
  have hcap : d.size ≤ cap ∧ cap ≤ maxLen := by
    rcases h.2 with ⟨h', _⟩ | ⟨g', cap', cur, h', _, hg, h1, h2, _⟩
    · simp at h'
    · cases h'; exact ⟨h1, h2⟩
  have hH := holdsS_of_own h
  have hps : ∀ n (dk : Array {y : StkV // NoRow w blk y}), (putRowK encS 2 (Sort.ahead w n) blk 0 dk).heap.size = w.heap.size := fun n dk => by
    show (w.heap.modify blk _).size = _
    rw [Array.size_modify]
  have hheap : ∀ n (dk : Array {y : StkV // NoRow w blk y}) os k, k < w.heap.size → k ≠ blk → (grow (putRowK encS 2 (Sort.ahead w n) blk 0 dk) os).heap[k]? = w.heap[k]? := fun n dk os k hk hne => by
    rw [heap_grow_old _ _ (by rw [hps]; omega)]
    show (w.heap.modify blk _)[k]? = _
    rw [Array.getElem?_modify, if_neg (by omega)]
  have hreads : ∀ n (dk : Array {y : StkV // NoRow w blk y}) os, Reads (hide (· = blk) w) (grow (putRowK encS 2 (Sort.ahead w n) blk 0 dk) os) := fun n dk os a v hc => by
    obtain ⟨hs, hc⟩ := hide_some hc
    exact (World.cell?_of_block (hheap n dk os a.block (World.block_lt_of_cell? w a hc) hs)).trans hc
  have hcon := AnyQ.slices_SortFunc Tryz.sortStack 2 Tryz.isAgg65 Tryz.sizeOf65 (encS (P := NoRow w blk)) (fun _ => rfl) (fun x v hv => by
      obtain ⟨A, c, e, -⟩ := Ints.form x.2
      simp only [encS, stkCells, e, List.mem_cons, List.not_mem_nil, or_false] at hv
      rcases hv with rfl | rfl <;> rfl) (fun x y => cmpL x.1.2.stack y.1.2.stack) (swo_stacks _) 63 #[] blk 0 cap d w enters63 (fun m os dk _ x y =>
      (prof_compare_w x.1.2.stack y.1.2.stack x.1.1 y.1.1 x.1.2.work y.1.2.work _ (Ints.reads x.2 (hreads m dk os)) (Ints.reads y.2 (hreads m dk os))).mono (by rintro e w' ⟨rfl, rfl⟩; exact ⟨rfl, 0, _, by rw [alloc_eq_grow, alloc_eq_grow, grow_grow]; rfl⟩)) hH hlt hsz
  change Calls Tryz.prog 107 _ _ _ at hcon
  refine hcon.mono ?_
  rintro e w' ⟨rfl, d', n, os, hp, hs, rfl⟩
  have hex : ∀ a : Array {y : StkV // NoRow w blk y}, a.size = d.size → (a.extract 0 d.size).toList = a.toList := fun a ha => by rw [← ha, Array.extract_size]
  refine ⟨rfl, d'.toList.map fun y => y.1.2, ?_, fun i j h1 h2 => ?_, ?_, ?_, fun k hk hne => hheap n d' os k hk hne⟩
  · have := hp.2.2
    rw [hex d' hp.1, hex d rfl] at this
    exact this.map _
  · have hj : j < d'.size := by simpa using h2
    have hi : i < d'.size := by omega
    have := hs i j (Nat.zero_le _) h1 (by rw [← hp.1]; exact hj)
    rw [getElem!_pos d' j hj, getElem!_pos d' i hi] at this
    unfold ltOf at this
    simpa using this
  · refine ⟨rfl, rfl, rfl, ?_, fun k hk => hheap n d' os k (by omega) (by omega)⟩
    show w.heap.size ≤ (grow (putRowK encS 2 (Sort.ahead w n) blk 0 d') os).heap.size
    rw [size_grow, hps]; omega
  · have := stks_of_holds (cap := cap) (holdsK_grow encS 2 (putRowK encS 2 (Sort.ahead w n) blk 0 d') os blk 0 d' (by rw [hps]; exact hlt) (holdsK_putRowK encS 2 (Sort.ahead w n) blk 0 d d' (holdsK_ahead encS 2 w n blk 0 d hH) hp.1)) ⟨by have := hp.1; omega, by rw [hp.1]; exact hcap.1⟩ (fun y hy => Ints.reads hy (hreads n d' os))
    rw [hp.1] at this
    exact this

set_option maxRecDepth 100000 in
theorem prof_sortedS (A : Option Addr) (n c : Nat) (w : World) (Q : World → Prop) (h : Calls Tryz.prog 107 #[.slice A n c, .func (.func 63) #[] #[]] (w.alloc (.cells #[.func (.func 63) #[] #[]] 113)) fun e w' => e = .returned (.tuple #[]) ∧ Q w') :
    Calls Tryz.prog 62 #[.agg #[.func (.func 63) #[] #[]], .slice A n c] w fun e w' => e = .returned (.slice A n c) ∧ Q w' := by
  have HH := Lib.hid h
  clear h
  go_enter Tryz.func62, Tryz.ntmps62
  go_wp2_with fail
  refine HH.out.mono ?_
  rintro e w1 ⟨rfl, hq⟩
  go_wp2_with fail
  go_ret
  exact ⟨rfl, hq⟩
/-- A row of stacks of the call's own, put in order. -/
theorem sorted_stacks (l : List StkV) (v : Value) (base : Nat) (w : World) (hne : l ≠ []) (hP : ∀ y ∈ l, ∀ b, v.ownBlock = some b → NoRow w b y)
    (hsz : l.length ≤ 1000000000) (h : w.ownsRow base 65 2 v l.length (l.flatMap stkCells)) (hbase : base ≤ w.heap.size) :
    Calls Tryz.prog 62 #[.agg #[.func (.func 63) #[] #[]], v] w fun e w' => e = .returned v ∧ ∃ m : List StackC, m.Perm (l.map Prod.snd) ∧ (∀ i j (h1 : i < j) (h2 : j < m.length), ¬ cmpL m[j].stack m[i].stack < 0) ∧ RowKit.Below base w w' ∧ StksL w' v m ∧ (∃ A c, v = .slice A m.length c) ∧ (∀ k, k < w.heap.size → v.ownBlock ≠ some k → w'.heap[k]? = w.heap[k]?) := by
  have hl0 := h.2
  rcases hl0 with ⟨rfl, h0⟩ | ⟨b, cap, cur, rfl, -⟩
  · exact absurd (List.eq_nil_of_length_eq_zero h0) hne
  · have hown := h.alloc (.cells #[.func (.func 63) #[] #[]] 113)
    have hlt := (h.lt b rfl).2
    have hP2 : ∀ y ∈ l, NoRow (w.alloc (.cells #[.func (.func 63) #[] #[]] 113)) b y := fun y hy => Ints.reads (hP y hy b rfl) (reads_hide fun a v hs hc => ⟨hs, cell_alloc hc _⟩)
    obtain ⟨y0, l0, rfl⟩ : ∃ y0 l0, l = y0 :: l0 := by cases l with | nil => exact absurd rfl hne | cons a b => exact ⟨_, _, rfl⟩
    haveI : Inhabited {y : StkV // NoRow (w.alloc (.cells #[.func (.func 63) #[] #[]] 113)) b y} := ⟨⟨y0, hP2 y0 (by simp)⟩⟩
    generalize y0 :: l0 = l at *
    have hsz2 : (l.attach.map fun y => (⟨y.1, hP2 y.1 y.2⟩ : {y : StkV // NoRow (w.alloc (.cells #[.func (.func 63) #[] #[]] 113)) b y})).toArray.size = l.length := by simp
    have hv : ((l.attach.map fun y => (⟨y.1, hP2 y.1 y.2⟩ : {y : StkV // NoRow (w.alloc (.cells #[.func (.func 63) #[] #[]] 113)) b y})).toArray.toList.flatMap encS) = l.flatMap stkCells := by
      have e := congrArg (fun z : List StkV => z.flatMap stkCells) (List.attach_map_subtype_val l)
      simp only [List.flatMap_map] at e ⊢
      exact e
    have hm : ((l.attach.map fun y => (⟨y.1, hP2 y.1 y.2⟩ : {y : StkV // NoRow (w.alloc (.cells #[.func (.func 63) #[] #[]] 113)) b y})).toArray.toList.map fun y => y.1.2) = l.map Prod.snd := by
      have e := congrArg (fun z : List StkV => z.map Prod.snd) (List.attach_map_subtype_val l)
      simp only [List.map_map] at e ⊢
      exact e
    have hs := sort_stacks (w.alloc (.cells #[.func (.func 63) #[] #[]] 113)) b cap base (l.attach.map fun y => (⟨y.1, hP2 y.1 y.2⟩ : {y : StkV // NoRow (w.alloc (.cells #[.func (.func 63) #[] #[]] 113)) b y})).toArray (by rw [hsz2]; omega) (by rw [hsz2, hv]; exact hown)
    rw [hsz2, hm] at hs
    refine prof_sortedS (some ⟨b, 0, none⟩) l.length cap w _ (hs.mono ?_)
    rintro e w' ⟨h1, m, hp, ho, hb, hn, hh⟩
    exact ⟨h1, m, hp, ho, ((below1 w (.cells #[.func (.func 63) #[] #[]] 113)).mono hbase).trans hb, hn, ⟨_, cap, by rw [hp.length_eq, List.length_map]⟩, fun k hk hne => (hh k (by simp; omega) (fun e => hne (by rw [e]; rfl))).trans (Below.heap_alloc _ _ _ hk)⟩
end Go.Proofs.YtdkcjeaabbkdeaaGreatDoor
end
