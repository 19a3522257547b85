/- Package prof: a line is read. -/
import Derived.Test.YtdkcjeaabbkdeaaGreatDoorZReadA
import Derived.Test.YtdkcjeaabbkdeaaGreatDoorZRunA
import Derived.Test.YtdkcjeaabbkdeaaGreatDoorZOrdS
set_option linter.unusedVariables false
set_option linter.unusedSimpArgs false
set_option linter.unnecessarySimpa false
set_option linter.unusedSectionVars false
namespace Go.Proofs.YtdkcjeaabbkdeaaGreatDoor
open Go.RowKit Go.Shelf
set_option linter.unusedVariables false
set_option linter.unusedSimpArgs false

/-- The rest of a line, behind the functions acc. -/
def stackS : Nat → List UInt8 → List Int → Option StackC
  | 0, _, _ => none
  | f + 1, s, acc => match numS 399 [59, 32] s with
    | none => none
    | some (n, rest) => if rest.getD 0 0 = 32 then (match numS 4611686018427387904 [] (rest.drop 1) with
        | none => none
        | some (m, _) => some ⟨acc ++ [n], m⟩)
      else stackS f (rest.drop 1) (acc ++ [n])
def lineS (s : List UInt8) : Option StackC := if s.length ≤ 4000 then stackS (s.length + 1) s [] else none
theorem numS_rest {s : List UInt8} {n : Int} {rest : List UInt8} (h : numS 399 [59, 32] s = some (n, rest)) : rest ≠ [] ∧ rest.length ≤ s.length ∧ ∀ c ∈ rest, c ∈ s := by
  unfold numS at h
  split at h
  · cases h
  · next hi =>
    split at h
    · cases h
    · split at h
      · cases h
        refine ⟨?_, by simp, fun c hc => List.mem_of_mem_drop hc⟩
        have : upto [59, 32] s < s.length := by
          unfold upto placeOf at hi ⊢
          rw [if_neg (by simp)] at hi ⊢
          split
          · next i hi2 =>
            have := (List.findIdx?_eq_some_iff_getElem.1 hi2).1
            omega
          · next h2 => rw [h2] at hi; simp at hi
        intro e
        have := congrArg List.length e
        simp at this
        omega
      · cases h
theorem ownsRow_cells {W W' : World} {base e k n : Nat} {v : Value} {xs : List Value} (h : W.ownsRow base e k v n xs) (hh : ∀ g o, v.ownBlock = some g → W.heap[g]? = some o → W'.heap[g]? = some o) : W'.ownsRow base e k v n xs := by
  refine ⟨h.1, ?_⟩
  rcases h.2 with h | ⟨g, cap, cur, rfl, hg, hc, r⟩
  · exact .inl h
  · exact .inr ⟨g, cap, cur, rfl, hg, hh g _ rfl hc, r⟩
theorem Ints.of_block1 {w w' : World} {g n c : Nat} {l : List Int} (h : Ints w (.slice (some ⟨g, 0, none⟩) n c) l) (e : w'.heap[g]? = w.heap[g]?) : Ints w' (.slice (some ⟨g, 0, none⟩) n c) l := by
  obtain ⟨A, c', he, hm, hc⟩ := h
  cases he
  refine ⟨_, _, rfl, hm, fun j hj => ?_⟩
  obtain ⟨b, off, cs, h1, h2, h3, h4⟩ := hc j hj
  cases h1
  exact ⟨g, 0, cs, rfl, h2, fun i hi => (World.cell?_of_block e).trans (h3 i hi), h4⟩
/-- A line that is being read. -/
def StkR (w : World) (q : Nat) (s : List UInt8) (acc : List Int) (hdr : Value) (W : World) : Prop := w.grownBy W (some q) ∧ W.heap[q]? = some (.cells #[.string (bytesOf s)] 129) ∧ W.heap[w.heap.size]? = some (.cells #[.slice none 0 0, .int .i64 0] 65) ∧
  W.heap[w.heap.size + 1]? = some (.cells #[hdr, .int .i64 0] 65) ∧ W.ownsRow (w.heap.size + 2) 3 1 hdr acc.length (nums acc) ∧ w.heap.size + 2 ≤ W.heap.size
theorem StkR.below {w W W' : World} {q : Nat} {s : List UInt8} {acc : List Int} {hdr : Value} (h : StkR w q s acc hdr W) (hb : Below W.heap.size W W') : StkR w q s acc hdr W' := by
  obtain ⟨h1, h2, h3, h4, h5, h6⟩ := h
  exact ⟨h1.trans (grown_of_below hb), heap_keep hb h2, heap_keep hb h3, heap_keep hb h4, h5.kept (row := none) (grown_of_below hb) (by cases hdr.ownBlock <;> simp), Nat.le_trans h6 hb.size⟩
theorem StkR.line {w W W' : World} {q : Nat} {s s' : List UInt8} {acc : List Int} {hdr : Value} (h : StkR w q s acc hdr W) (hq : q < w.heap.size) (hg : W.grownBy W' (some q)) (hq' : W'.heap[q]? = some (.cells #[.string (bytesOf s')] 129)) : StkR w q s' acc hdr W' := by
  obtain ⟨h1, h2, h3, h4, h5, h6⟩ := h
  have key : ∀ i o, i ≠ q → W.heap[i]? = some o → W'.heap[i]? = some o := fun i o hi ho => (hg.block i (Array.getElem?_eq_some_iff.1 ho).1 (fun e => hi (by injection e))).trans ho
  refine ⟨h1.trans hg, hq', key _ _ (by omega) h3, key _ _ (by omega) h4, h5.kept hg (.inr fun e => ?_), Nat.le_trans h6 hg.size⟩
  have := (h5.lt q e).1; omega
theorem StkR.head7 {w W W6 W7 : World} {q : Nat} {s : List UInt8} {acc : List Int} {hdr : Value} (h : StkR w q s acc hdr W) (hb : Below W.heap.size W W6) (hg : W6.grownBy W7 hdr.ownBlock) : W7.heap[w.heap.size + 1]? = some (.cells #[hdr, .int .i64 0] 65) := by
  obtain ⟨h1, h2, h3, h4, h5, h6⟩ := h.below hb
  exact (hg.block _ (Array.getElem?_eq_some_iff.1 h4).1 (fun e => by have := (h5.lt _ e.symm).1; omega)).trans h4
theorem StkR.push {w W W6 W7 : World} {q : Nat} {s : List UInt8} {acc : List Int} {hdr v' : Value} {n : Int} (h : StkR w q s acc hdr W) (hq : q < w.heap.size) (hb : Below W.heap.size W W6) (hg : W6.grownBy W7 hdr.ownBlock) (ho : W7.ownsRow (w.heap.size + 2) 3 1 v' (acc.length + 1) (nums acc ++ [.int .i64 n])) :
    StkR w q s (acc ++ [n]) v' (W7.setCell ⟨w.heap.size + 1, 0, none⟩ v') := by
  obtain ⟨h1, h2, h3, h4, h5, h6⟩ := h.below hb
  have hlt : ∀ k, hdr.ownBlock = some k → w.heap.size + 2 ≤ k := fun k hk => (h5.lt k hk).1
  have key : ∀ i o, i < w.heap.size + 2 → W6.heap[i]? = some o → W7.heap[i]? = some o := fun i o hi hoo => (hg.block i (Array.getElem?_eq_some_iff.1 hoo).1 (fun e => by have := hlt i e.symm; omega)).trans hoo
  have hne : ∀ i o, i ≠ w.heap.size + 1 → W7.heap[i]? = some o → (W7.setCell ⟨w.heap.size + 1, 0, none⟩ v').heap[i]? = some o := fun i o hi hoo => by
    rw [Below.heap_setCell _ _ _ _ hi]; exact hoo
  have h47 := key _ _ (by omega) h4
  refine ⟨⟨hg.os.trans h1.os, hg.tape.trans h1.tape, hg.output.trans h1.output, by rw [World.size_setCell]; exact Nat.le_trans h1.size hg.size, fun k hk hkq => ?_⟩, hne _ _ (by omega) (key _ _ (by omega) h2), hne _ _ (by omega) (key _ _ (by omega) h3), ?_, ?_, by rw [World.size_setCell]; exact Nat.le_trans h6 hg.size⟩
  · rw [Below.heap_setCell _ _ _ _ (by simp; omega)]
    exact (hg.block k (Nat.lt_of_lt_of_le hk h1.size) (fun e => by have := hlt k e.symm; omega)).trans (h1.block k hk hkq)
  · simpa using heap_setCell h47 0 v'
  · have : (acc ++ [n]).length = acc.length + 1 := by simp
    rw [this, nums_append]
    refine ownsRow_cells ho fun g o hg2 hoo => hne _ _ (fun e => ?_) hoo
    have := (ho.lt g hg2).1; omega
def lineLen (w : World) (q : Nat) : Nat := match w.cell? ⟨q, 0, none⟩ with | some (.string b) => b.size | _ => 0
theorem lineLen_of {w : World} {q : Nat} {s : List UInt8} (h : w.heap[q]? = some (.cells #[.string (bytesOf s)] 129)) : lineLen w q = s.length := by
  have c := (block_cell h 0 (by simp)).1
  simp only [List.getElem_toArray, List.getElem_cons_zero] at c
  unfold lineLen
  rw [c]
  exact bytesOf_size s
theorem grown_setCell (w : World) (q : Nat) (v : Value) : w.grownBy (w.setCell ⟨q, 0, none⟩ v) (some q) :=
  ⟨rfl, rfl, rfl, by rw [World.size_setCell]; exact Nat.le_refl _, fun k hk hne => Below.heap_setCell _ _ _ _ (fun e => hne (by rw [e]))⟩
def StackPost (q : Nat) (s : List UInt8) (w : World) (e : Ending) (w' : World) : Prop := w.grownBy w' (some q) ∧ match lineS s with
  | some x => ∃ g c, e = .returned (.agg #[.slice (some ⟨g, 0, none⟩) x.stack.length c, .int .i64 x.work]) ∧ Ints w' (.slice (some ⟨g, 0, none⟩) x.stack.length c) x.stack ∧ w.heap.size ≤ g
  | none => e = .panicked badE
set_option maxRecDepth 100000 in
set_option maxHeartbeats 2000000 in
theorem prof_stack (s : List UInt8) (q : Nat) (w0 w : World) (hB0 : Below w0.heap.size w0 w) (hq0 : w0.heap.size ≤ q) (hq : w.heap[q]? = some (.cells #[.string (bytesOf s)] 129)) (ha : Ascii s) (hs : s.length ≤ 1000000) (hg : EGlob w0) (ht : Tab w0) :
    Calls Tryz.prog 79 #[.pointer (some ⟨q, 0, none⟩)] w (StackPost q s w) := by
  have hmf : ∀ (fn : Fn) (first cap : Array Value) (w : World), (Instr.makeFunc fn first cap).run Tryz.prog w = .ok (.func fn first cap) w := fun _ _ _ _ => rfl
  have HG := Lib.hid hg
  have HT := Lib.hid ht
  have HA := Lib.hid ha
  have hqlt : q < w.heap.size := (Array.getElem?_eq_some_iff.1 hq).1
  have hb2 := below2 w (.cells #[.slice none 0 0, .int .i64 0] 65) (.cells #[.slice none 0 0, .int .i64 0] 65)
  have h2 := heap_alloc (alloc_new w (.cells #[.slice none 0 0, .int .i64 0] 65)) (.cells #[.slice none 0 0, .int .i64 0] 65)
  have h3 := alloc_new (w.alloc (.cells #[.slice none 0 0, .int .i64 0] 65)) (.cells #[.slice none 0 0, .int .i64 0] 65)
  rw [World.size_alloc] at h3
  have hsz2 : ((w.alloc (.cells #[.slice none 0 0, .int .i64 0] 65)).alloc (.cells #[.slice none 0 0, .int .i64 0] 65)).heap.size = w.heap.size + 2 := by simp
  have HB2 := Lib.hid hb2
  have HQ2 := Lib.hid (heap_keep hb2 hq)
  have H2 := Lib.hid h2
  have H3 := Lib.hid h3
  have HSz2 := Lib.hid hsz2
  have c0 := (block_cell (heap_keep hb2 hq) 0 (by simp)).1
  simp only [List.getElem_toArray, List.getElem_cons_zero] at c0
  have hsl : (bytesOf s).size = s.length := bytesOf_size s
  have hs63 : s.length ≤ 9223372036854775807 := by omega
  have HR2 : Hid (StkR w q s [] (.slice none 0 0) ((w.alloc (.cells #[.slice none 0 0, .int .i64 0] 65)).alloc (.cells #[.slice none 0 0, .int .i64 0] 65))) :=
    ⟨grown_of_below hb2, heap_keep hb2 hq, h2, h3, World.ownsRow_nil _ _ _ _, by rw [hsz2]; exact Nat.le_refl _⟩
  have HB0 := Lib.hid hB0
  clear hg ht ha hq hb2 h2 h3 hsz2 hB0
  go_enter Tryz.func79, Tryz.ntmps79
  go_wp2_with fail
  generalize (w.alloc (.cells #[.slice none 0 0, .int .i64 0] 65)).alloc (.cells #[.slice none 0 0, .int .i64 0] 65) = w2 at *
  by_cases hlong : s.length ≤ 4000
  case neg =>
    have h0 : decide ((s.length : Int) ≤ 4000) = false := by simp; omega
    have hn : lineS s = none := by unfold lineS; rw [if_neg hlong]
    try rw [h0]
    refine (must_no _).mono ?_
    rintro e w3 ⟨rfl, rfl⟩
    refine ⟨rfl, grown_of_below HB2.out, ?_⟩
    rw [hn]
  have h0 : decide ((s.length : Int) ≤ 4000) = true := by simp; omega
  have hline : lineS s = stackS (s.length + 1) s [] := by unfold lineS; rw [if_pos hlong]
  try rw [h0]
  refine (must_yes _).mono ?_
  rintro e w3 ⟨rfl, rfl⟩
  have HLine := Lib.hid hline
  have hln : (s.length : Int) ≤ 4000 := by omega
  clear h0 hline
  go_wp2_with fail
  go_loopw [5] (fun _ wr => ∃ f s' acc hdr, stackS f s' acc = lineS s ∧ s'.length < f ∧ acc.length + s'.length ≤ 4000 ∧ Ascii s' ∧ StkR w q s' acc hdr wr) (fun _ wr => lineLen wr q)
  case atStart => exact ⟨s.length + 1, s, [], _, HLine.out.symm, by omega, by simp; omega, HA.out, HR2.out⟩
  case round =>
  obtain ⟨f, s', acc, hdr, hst, hf, hal, has, hrr⟩ := hrel
  obtain ⟨f, rfl⟩ : ∃ f', f = f' + 1 := ⟨f - 1, by omega⟩
  have HR := Lib.hid hrr
  have HSt := Lib.hid hst
  have HAs := Lib.hid has
  have hbel2 : ∀ {s'' : List UInt8} {acc'' : List Int} {hdr'' : Value} (W : World), StkR w q s'' acc'' hdr'' W → Below w0.heap.size w0 W := fun W h => HB0.out.grown h.1 HB0.out.size (fun j hj => by cases hj; exact hq0)
  have hbel : ∀ W, StkR w q s' acc hdr W → Below w0.heap.size w0 W := fun W h => HB0.out.grown h.1 HB0.out.size (fun j hj => by cases hj; exact hq0)
  have hnum := prof_number 399 [59, 32] s' (.inr rfl) q wr.drew hrr.2.1 has (by omega) (by omega) (HG.out.below (hbel _ (hrr.below (below_drew wr)))) (HT.out.below (hbel _ (hrr.below (below_drew wr))))
  have HNum := Lib.hid hnum
  have c3 := (block_cell hrr.2.2.2.1 0 (by simp)).1
  simp only [List.getElem_toArray, List.getElem_cons_zero] at c3
  clear hst hnum hrr HLine HR2 has
  go_upto_region 4 with (fail)
  cases hn : numS 399 [59, 32] s' with
  | none =>
    have hl : lineS s = none := by rw [← HSt.out]; unfold stackS; rw [hn]
    refine wp_region_held_drew (S := fun W => W.cell? ⟨w.heap.size + 1, 0, none⟩ = some hdr) (by kernel_rfl) c3 (fun hHeld => ?_)
    refine wpAnyH_take (i := 0) (oi := _) (v := ?_) rfl (by kernel_rfl) (by kernel_rfl) (by kernel_rfl) (fun _ _ _ h => h) (Or.inl ⟨by rfl, ?_⟩) (by assumption) ?_
    rotate_left
    · intro w hSw
      go_split_ands
      go_simp
      try with_reducible rfl
    try simp only [Act.put, List.setIfInBounds_toArray, List.set_cons_zero, List.set_cons_succ]
    refine wpAnyH_take (i := 1) (oi := _) (v := ?_) rfl (by kernel_rfl) (by kernel_rfl) (by kernel_rfl) (fun _ _ _ h => h) (Or.inl ⟨by rfl, ?_⟩) (by assumption) ?_
    rotate_left
    · intro w hSw
      go_split_ands
      go_simp
      try with_reducible rfl
    try simp only [Act.put, List.setIfInBounds_toArray, List.set_cons_zero, List.set_cons_succ]
    refine wpAnyH_take (i := 2) (oi := _) (v := ?_) rfl (by kernel_rfl) (by kernel_rfl) (by kernel_rfl) (fun _ _ _ h => h) (Or.inl ⟨by rfl, ?_⟩) (by assumption) ?_
    rotate_left
    · intro w hSw
      go_split_ands
      go_simp
      try with_reducible rfl
    try simp only [Act.put, List.setIfInBounds_toArray, List.set_cons_zero, List.set_cons_succ]
    refine wpAnyH_ready (rs := [3]) (by kernel_rfl) (by simp) ?_
    refine AllReadyH.cons (o := _) rfl (fun K hK => ?_) AllReadyH.nil
    have HK := Lib.hid hK; clear hK
    go_simp
    refine HNum.out.mono ?_
    rintro e w5 ⟨hg5, he⟩
    rw [hn] at he
    obtain rfl : e = .panicked badE := he
    refine ⟨rfl, HR.out.1.trans ((grown_of_below (below_drew wr)).trans hg5), ?_⟩
    rw [hl]
  | some r =>
    obtain ⟨n, rest⟩ := r
    obtain ⟨hr1, hr2, hr3⟩ := numS_rest hn
    have HN := Lib.hid hn
    go_cut [] from 15 (fun wx => ∃ hdr', StkR w q rest (acc ++ [n]) hdr' wx)
    case first =>
      obtain ⟨i0, hi, hzz⟩ := Option.map_eq_some_iff.1 infoInt
      simp only [Prod.mk.injEq] at hzz
      obtain ⟨hz0, hz1, hz2⟩ := hzz
      refine wp_region_held_drew (S := fun W => True) (by kernel_rfl) trivial (fun hHeld => ?_)
      refine wpAnyH_take (i := 0) (oi := _) (v := ?_) rfl (by kernel_rfl) (by kernel_rfl) (by kernel_rfl) (fun _ _ _ h => h) (Or.inl ⟨by rfl, ?_⟩) (by assumption) ?_
      rotate_left
      · intro w hSw
        go_split_ands
        go_simp
        try with_reducible rfl
      try simp only [Act.put, List.setIfInBounds_toArray, List.set_cons_zero, List.set_cons_succ]
      refine wpAnyH_take (i := 2) (oi := _) (v := ?_) rfl (by kernel_rfl) (by kernel_rfl) (by kernel_rfl) (fun _ _ _ h => h) (Or.inl ⟨by rfl, ?_⟩) (by assumption) ?_
      rotate_left
      · intro w hSw
        go_split_ands
        go_simp
        try with_reducible rfl
      try simp only [Act.put, List.setIfInBounds_toArray, List.set_cons_zero, List.set_cons_succ]
      refine wpAnyH_ready (rs := [1, 3]) (by kernel_rfl) (by simp) ?_
      refine AllReadyH.cons (o := _) rfl (fun K hK => ?_) (AllReadyH.cons (o := _) rfl (fun K hK => ?_) AllReadyH.nil)
      all_goals (have HK := Lib.hid hK; clear hK)
      · go_simp
        refine HK.out _ _ trivial (fun hHeld => ?_)
        clear HK K
        try simp only [Act.put, List.setIfInBounds_toArray, List.set_cons_zero, List.set_cons_succ]
        refine wpAnyH_ready (rs := [3]) (by kernel_rfl) (by simp) ?_
        refine AllReadyH.cons (o := _) rfl (fun K hK => ?_) AllReadyH.nil
        have HK := Lib.hid hK; clear hK
        go_simp
        refine HNum.out.mono ?_
        rintro e w5 ⟨hg5, he⟩
        rw [HN.out] at he
        obtain ⟨rfl, hq5⟩ := he
        have hr5 := (HR.out.below (below_drew wr)).line hqlt hg5 hq5
        have c5 := (block_cell hr5.2.2.2.1 0 (by simp)).1
        simp only [List.getElem_toArray, List.getElem_cons_zero] at c5
        have hb6 := below1 w5 (.cells #[.int .i64 n] 3)
        have c6 := cell_keep hb6 c5
        have hsz5 := hr5.2.2.2.2.2
        refine HK.out _ _ trivial (fun hHeld => ?_)
        clear HK K
        try simp only [Act.put, List.setIfInBounds_toArray, List.set_cons_zero, List.set_cons_succ]
        refine wpAnyH_ready (rs := [4]) (by kernel_rfl) (by simp) ?_
        refine AllReadyH.cons (o := _) rfl (fun K hK => ?_) AllReadyH.nil
        have HK := Lib.hid hK; clear hK
        go_simp
        refine HK.out _ _ trivial (fun hHeld => ?_)
        clear HK K
        try simp only [Act.put, List.setIfInBounds_toArray, List.set_cons_zero, List.set_cons_succ]
        refine wpAnyH_ready (rs := [5]) (by kernel_rfl) (by simp) ?_
        refine AllReadyH.cons (o := _) rfl (fun K hK => ?_) AllReadyH.nil
        have HK := Lib.hid hK; clear hK
        refine step_append_own_at rfl _ _ 22 rfl (w.heap.size + 2) 3 i0 _ 1 8 Tryz.underlying22 hi hz0 hz1 hz2 rfl (by omega) hdr acc.length (nums acc) rfl (hr5.2.2.2.2.1.alloc _) ⟨w5.heap.size, 0, none⟩ 1 1 [.int .i64 n] rfl rfl (news_row w5 _ 3) (by simp [Value.oneCell']) (by unfold maxLen; omega) (by omega) (by simp; omega) ?_
        intro v' w7 hown' hg' hnil' hat'
        obtain ⟨g', cap', rfl⟩ := ownsRow_succ hown'
        have hp := hr5.push hqlt hb6 hg' hown'
        obtain ⟨c7, f7⟩ := block_cell (hr5.head7 hb6 hg') 0 (by simp)
        simp only [List.getElem_toArray, List.getElem_cons_zero] at c7
        have HP := Lib.hid hp
        clear hp hown' hg' hnil' hat' c5 c6
        refine HK.out _ _ trivial (fun hHeld => ?_)
        clear HK K
        try simp only [Act.put, List.setIfInBounds_toArray, List.set_cons_zero, List.set_cons_succ]
        refine wpAnyH_take (i := 6) (oi := _) (v := ?_) rfl (by kernel_rfl) (by kernel_rfl) (by kernel_rfl) (fun _ _ _ h => h) (Or.inl ⟨by rfl, ?_⟩) (by assumption) ?_
        rotate_left
        · intro w hSw
          go_split_ands
          go_simp
          try with_reducible rfl
        try simp only [Act.put, List.setIfInBounds_toArray, List.set_cons_zero, List.set_cons_succ]
        refine wpAnyH_ready (rs := [7]) (by kernel_rfl) (by simp) ?_
        refine AllReadyH.cons (o := _) rfl (fun K hK => ?_) AllReadyH.nil
        have HK := Lib.hid hK; clear hK
        go_simp
        refine HK.out _ _ trivial (fun hHeld => ?_)
        refine wpAnyH_done (by kernel_rfl) ?_ _
        clear HK K hHeld c7 f7
        go_wp2_with fail
        go_meet
        case rel => exact ⟨_, HP.out⟩
      · go_simp
        refine HNum.out.mono ?_
        rintro e w5 ⟨hg5, he⟩
        rw [HN.out] at he
        obtain ⟨rfl, hq5⟩ := he
        have hr5 := (HR.out.below (below_drew wr)).line hqlt hg5 hq5
        have c5 := (block_cell hr5.2.2.2.1 0 (by simp)).1
        simp only [List.getElem_toArray, List.getElem_cons_zero] at c5
        have hb6 := below1 w5 (.cells #[.int .i64 n] 3)
        have c6 := cell_keep hb6 c5
        have hsz5 := hr5.2.2.2.2.2
        refine HK.out _ _ trivial (fun hHeld => ?_)
        clear HK K
        try simp only [Act.put, List.setIfInBounds_toArray, List.set_cons_zero, List.set_cons_succ]
        refine wpAnyH_ready (rs := [1, 4]) (by kernel_rfl) (by simp) ?_
        refine AllReadyH.cons (o := _) rfl (fun K hK => ?_) (AllReadyH.cons (o := _) rfl (fun K hK => ?_) AllReadyH.nil)
        all_goals (have HK := Lib.hid hK; clear hK)
        · go_simp
          refine HK.out _ _ trivial (fun hHeld => ?_)
          clear HK K
          try simp only [Act.put, List.setIfInBounds_toArray, List.set_cons_zero, List.set_cons_succ]
          refine wpAnyH_ready (rs := [4]) (by kernel_rfl) (by simp) ?_
          refine AllReadyH.cons (o := _) rfl (fun K hK => ?_) AllReadyH.nil
          have HK := Lib.hid hK; clear hK
          go_simp
          refine HK.out _ _ trivial (fun hHeld => ?_)
          clear HK K
          try simp only [Act.put, List.setIfInBounds_toArray, List.set_cons_zero, List.set_cons_succ]
          refine wpAnyH_ready (rs := [5]) (by kernel_rfl) (by simp) ?_
          refine AllReadyH.cons (o := _) rfl (fun K hK => ?_) AllReadyH.nil
          have HK := Lib.hid hK; clear hK
          refine step_append_own_at rfl _ _ 22 rfl (w.heap.size + 2) 3 i0 _ 1 8 Tryz.underlying22 hi hz0 hz1 hz2 rfl (by omega) hdr acc.length (nums acc) rfl (hr5.2.2.2.2.1.alloc _) ⟨w5.heap.size, 0, none⟩ 1 1 [.int .i64 n] rfl rfl (news_row w5 _ 3) (by simp [Value.oneCell']) (by unfold maxLen; omega) (by omega) (by simp; omega) ?_
          intro v' w7 hown' hg' hnil' hat'
          obtain ⟨g', cap', rfl⟩ := ownsRow_succ hown'
          have hp := hr5.push hqlt hb6 hg' hown'
          obtain ⟨c7, f7⟩ := block_cell (hr5.head7 hb6 hg') 0 (by simp)
          simp only [List.getElem_toArray, List.getElem_cons_zero] at c7
          have HP := Lib.hid hp
          clear hp hown' hg' hnil' hat' c5 c6
          refine HK.out _ _ trivial (fun hHeld => ?_)
          clear HK K
          try simp only [Act.put, List.setIfInBounds_toArray, List.set_cons_zero, List.set_cons_succ]
          refine wpAnyH_take (i := 6) (oi := _) (v := ?_) rfl (by kernel_rfl) (by kernel_rfl) (by kernel_rfl) (fun _ _ _ h => h) (Or.inl ⟨by rfl, ?_⟩) (by assumption) ?_
          rotate_left
          · intro w hSw
            go_split_ands
            go_simp
            try with_reducible rfl
          try simp only [Act.put, List.setIfInBounds_toArray, List.set_cons_zero, List.set_cons_succ]
          refine wpAnyH_ready (rs := [7]) (by kernel_rfl) (by simp) ?_
          refine AllReadyH.cons (o := _) rfl (fun K hK => ?_) AllReadyH.nil
          have HK := Lib.hid hK; clear hK
          go_simp
          refine HK.out _ _ trivial (fun hHeld => ?_)
          refine wpAnyH_done (by kernel_rfl) ?_ _
          clear HK K hHeld c7 f7
          go_wp2_with fail
          go_meet
          case rel => exact ⟨_, HP.out⟩
        · go_simp
          refine HK.out _ _ trivial (fun hHeld => ?_)
          clear HK K
          try simp only [Act.put, List.setIfInBounds_toArray, List.set_cons_zero, List.set_cons_succ]
          refine wpAnyH_ready (rs := [1]) (by kernel_rfl) (by simp) ?_
          refine AllReadyH.cons (o := _) rfl (fun K hK => ?_) AllReadyH.nil
          have HK := Lib.hid hK; clear hK
          go_simp
          refine HK.out _ _ trivial (fun hHeld => ?_)
          clear HK K
          try simp only [Act.put, List.setIfInBounds_toArray, List.set_cons_zero, List.set_cons_succ]
          refine wpAnyH_ready (rs := [5]) (by kernel_rfl) (by simp) ?_
          refine AllReadyH.cons (o := _) rfl (fun K hK => ?_) AllReadyH.nil
          have HK := Lib.hid hK; clear hK
          refine step_append_own_at rfl _ _ 22 rfl (w.heap.size + 2) 3 i0 _ 1 8 Tryz.underlying22 hi hz0 hz1 hz2 rfl (by omega) hdr acc.length (nums acc) rfl (hr5.2.2.2.2.1.alloc _) ⟨w5.heap.size, 0, none⟩ 1 1 [.int .i64 n] rfl rfl (news_row w5 _ 3) (by simp [Value.oneCell']) (by unfold maxLen; omega) (by omega) (by simp; omega) ?_
          intro v' w7 hown' hg' hnil' hat'
          obtain ⟨g', cap', rfl⟩ := ownsRow_succ hown'
          have hp := hr5.push hqlt hb6 hg' hown'
          obtain ⟨c7, f7⟩ := block_cell (hr5.head7 hb6 hg') 0 (by simp)
          simp only [List.getElem_toArray, List.getElem_cons_zero] at c7
          have HP := Lib.hid hp
          clear hp hown' hg' hnil' hat' c5 c6
          refine HK.out _ _ trivial (fun hHeld => ?_)
          clear HK K
          try simp only [Act.put, List.setIfInBounds_toArray, List.set_cons_zero, List.set_cons_succ]
          refine wpAnyH_take (i := 6) (oi := _) (v := ?_) rfl (by kernel_rfl) (by kernel_rfl) (by kernel_rfl) (fun _ _ _ h => h) (Or.inl ⟨by rfl, ?_⟩) (by assumption) ?_
          rotate_left
          · intro w hSw
            go_split_ands
            go_simp
            try with_reducible rfl
          try simp only [Act.put, List.setIfInBounds_toArray, List.set_cons_zero, List.set_cons_succ]
          refine wpAnyH_ready (rs := [7]) (by kernel_rfl) (by simp) ?_
          refine AllReadyH.cons (o := _) rfl (fun K hK => ?_) AllReadyH.nil
          have HK := Lib.hid hK; clear hK
          go_simp
          refine HK.out _ _ trivial (fun hHeld => ?_)
          refine wpAnyH_done (by kernel_rfl) ?_ _
          clear HK K hHeld c7 f7
          go_wp2_with fail
          go_meet
          case rel => exact ⟨_, HP.out⟩
    case rest =>
    obtain ⟨hdr', hcr⟩ := hcut
    obtain ⟨b, rs, rfl⟩ : ∃ b rs, rest = b :: rs := by cases rest with | nil => exact absurd rfl hr1 | cons b rs => exact ⟨b, rs, rfl⟩
    have HCr := Lib.hid hcr
    obtain ⟨qc, qf⟩ := block_cell hcr.2.1 0 (by simp)
    simp only [List.getElem_toArray, List.getElem_cons_zero] at qc
    have hbs : (bytesOf (b :: rs)).size = rs.length + 1 := by rw [bytesOf_size]; rfl
    have hb0 : (bytesOf (b :: rs)).data[0]? = some b := by show ((b :: rs).toArray)[0]? = _; simp
    have hrl : rs.length + 1 ≤ 4000 := by simp at hr2; omega
    clear hcr c3
    go_upto_region 7 with (fail)
    have hb1 : ∀ h, (bytesOf (b :: rs))[0]'h = b := fun h => bytesOf_get (b :: rs) 0 (by simp)
    simp only [hb1]
    rw [bytesOf_drop (b :: rs) 1 (rs.length + 1) (by simp)]
    simp only [List.drop_succ_cons, List.drop_zero]
    have hset := heap_setCell HCr.out.2.1 0 (.string (bytesOf rs))
    have hrd := HCr.out.line hqlt (grown_setCell wc q (.string (bytesOf rs))) (by simpa using hset)
    have HRd := Lib.hid hrd
    have hrne := runeEq b 32
    rw [show (((32 : UInt8).toNat : Nat) : Int) = 32 from rfl] at hrne
    rw [hrne]
    clear hset hrd hrne hb1 qc qf hbs hb0 HCr
    generalize wc.setCell ⟨q, 0, none⟩ (.string (bytesOf rs)) = wd at *
    by_cases hb : b = 32
    case neg =>
      have hb' : (b == 32) = false := by rw [beq_eq_false_iff_ne]; exact hb
      rw [hb']
      go_wp2_with fail
      go_roundw
      case rel =>
        refine ⟨f, rs, acc ++ [n], _, ?_, by simp at hr2; omega, by simp at hr2 ⊢; omega, fun c hc => HAs.out c (hr3 c (List.mem_cons_of_mem _ hc)), HRd.out⟩
        rw [← HSt.out, stackS, HN.out]
        simp only [List.getD_cons_zero, List.drop_succ_cons, List.drop_zero]
        rw [if_neg hb]
      case measure =>
        rw [lineLen_of HRd.out.2.1, lineLen_of HR.out.2.1]
        simp at hr2; omega
    case pos =>
    have hb' : (b == 32) = true := by rw [beq_iff_eq]; exact hb
    rw [hb']
    have hbd := hbel2 _ HRd.out
    have hnum2 := prof_number 4611686018427387904 [] rs (.inl rfl) q wd HRd.out.2.1 (fun c hc => HAs.out c (hr3 c (List.mem_cons_of_mem _ hc))) (by omega) (by omega) (HG.out.below hbd) (HT.out.below hbd)
    have HNum2 := Lib.hid hnum2
    have hln2 : lineS s = match numS 4611686018427387904 [] rs with
        | none => none
        | some (m, _) => some ⟨acc ++ [n], m⟩ := by
      rw [← HSt.out, stackS, HN.out]
      simp only [List.getD_cons_zero, List.drop_succ_cons, List.drop_zero]
      rw [if_pos hb]
    have HLn2 := Lib.hid hln2
    clear hnum2 hbd hln2
    go_wp2_with fail
    refine HNum2.out.mono ?_
    rintro e w5 ⟨hg5, he⟩
    cases hn2 : numS 4611686018427387904 [] rs with
    | none =>
      rw [hn2] at he
      obtain rfl : e = .panicked badE := he
      have hl : lineS s = none := by rw [HLn2.out, hn2]
      refine ⟨rfl, HRd.out.1.trans hg5, ?_⟩
      rw [hl]
    | some r2 =>
      obtain ⟨m, rest2⟩ := r2
      rw [hn2] at he
      obtain ⟨rfl, hq5⟩ := he
      have hl : lineS s = some ⟨acc ++ [n], m⟩ := by rw [HLn2.out, hn2]
      have hr5 := HRd.out.line hqlt hg5 hq5
      have hown := hr5.2.2.2.2.1
      rw [show (acc ++ [n]).length = acc.length + 1 by simp] at hown
      obtain ⟨g', cap', rfl⟩ := ownsRow_succ hown
      have HR5 := Lib.hid hr5
      obtain ⟨a0, f0⟩ := block_cell hr5.2.2.1 0 (by simp)
      obtain ⟨a1, f1⟩ := block_cell hr5.2.2.1 1 (by simp)
      obtain ⟨d0, g0⟩ := block_cell hr5.2.2.2.1 0 (by simp)
      obtain ⟨d1, g1⟩ := block_cell hr5.2.2.2.1 1 (by simp)
      simp only [List.getElem_toArray, List.getElem_cons_zero, List.getElem_cons_succ] at a0 a1 d0 d1
      have HL := Lib.hid hl
      clear hown hr5 hl hg5 hq5
      go_wp2_with fail
      have hsz5 := HR5.out.2.2.2.2.2
      have hlt2 : w.heap.size < w5.heap.size := by omega
      -- the frame
      have hgr : w.grownBy (((w5.setCell ⟨w.heap.size + 1, 1, none⟩ (.int .i64 m)).setCell ⟨w.heap.size, 0, none⟩ (.slice (some ⟨g', 0, none⟩) (acc.length + 1) cap')).setCell ⟨w.heap.size, 1, none⟩ (.int .i64 m)) (some q) := by
        have h := HR5.out.1
        exact ⟨h.os, h.tape, h.output, by rw [World.size_setCell, World.size_setCell, World.size_setCell]; exact h.size, fun k hk hne => by
          rw [Below.heap_setCell _ _ _ _ (by simp; omega), Below.heap_setCell _ _ _ _ (by simp; omega), Below.heap_setCell _ _ _ _ (by simp; omega)]; exact h.block k hk hne⟩
      have hh : (((w5.setCell ⟨w.heap.size + 1, 1, none⟩ (.int .i64 m)).setCell ⟨w.heap.size, 0, none⟩ (.slice (some ⟨g', 0, none⟩) (acc.length + 1) cap')).setCell ⟨w.heap.size, 1, none⟩ (.int .i64 m)).heap[w.heap.size]? = some (.cells #[.slice (some ⟨g', 0, none⟩) (acc.length + 1) cap', .int .i64 m] 65) := by
        have h1 : (w5.setCell ⟨w.heap.size + 1, 1, none⟩ (.int .i64 m)).heap[w.heap.size]? = some (.cells #[.slice none 0 0, .int .i64 0] 65) := (Below.heap_setCell _ _ _ _ (by simp)).trans HR5.out.2.2.1
        have h2 := heap_setCell (heap_setCell h1 0 (.slice (some ⟨g', 0, none⟩) (acc.length + 1) cap')) 1 (.int .i64 m)
        simpa using h2
      have hrow : Ints (((w5.setCell ⟨w.heap.size + 1, 1, none⟩ (.int .i64 m)).setCell ⟨w.heap.size, 0, none⟩ (.slice (some ⟨g', 0, none⟩) (acc.length + 1) cap')).setCell ⟨w.heap.size, 1, none⟩ (.int .i64 m)) (.slice (some ⟨g', 0, none⟩) (acc.length + 1) cap') (acc ++ [n]) := by
        have h := ints_of_own HR5.out.2.2.2.2.1
        have hg := (HR5.out.2.2.2.2.1.lt g' rfl).1
        exact Ints.of_block1 h (by rw [Below.heap_setCell _ _ _ _ (by simp; omega), Below.heap_setCell _ _ _ _ (by simp; omega), Below.heap_setCell _ _ _ _ (by simp; omega)])
      obtain ⟨n0, -⟩ := block_cell hh 0 (by simp)
      obtain ⟨n1, -⟩ := block_cell hh 1 (by simp)
      simp only [List.getElem_toArray, List.getElem_cons_zero, List.getElem_cons_succ] at n0 n1
      have HG9 := Lib.hid hgr
      have HR9 := Lib.hid hrow
      clear hgr hrow hh
      refine bodyPost_ret (v := .agg #[.slice (some ⟨g', 0, none⟩) (acc.length + 1) cap', .int .i64 m]) ?_ rfl ?_
      · simp [results, Tryz.results79, go_sem, n0, n1]
      · refine ⟨HG9.out, ?_⟩
        rw [HL.out]
        have hlen9 : (acc ++ [n]).length = acc.length + 1 := by simp
        refine ⟨g', cap', by simp only [hlen9], ?_, by have := (HR5.out.2.2.2.2.1.lt g' rfl).1; omega⟩
        simp only [hlen9]
        exact HR9.out
end Go.Proofs.YtdkcjeaabbkdeaaGreatDoor
