/- A map of the call's own, as a function from its keys' values to the values that stand there. The keys of the maps: numbers, pairs of numbers, texts. What keys read as: numbers, pairs of numbers, texts. -/
import Derived.Test.YtdkcjeaabbkdeaaGreatDoorZBase
import Derived.Maps.OwnIn
import Derived.DeepKeys4
set_option linter.unusedVariables false
set_option linter.unusedSimpArgs false
set_option linter.unnecessarySimpa false
set_option linter.unusedSectionVars false
section
namespace Go.Proofs.YtdkcjeaabbkdeaaGreatDoor
open Go.RowKit Go.Maps Go.WideElems
set_option linter.unusedVariables false
set_option linter.unusedSimpArgs false

/-- An element reads as itself. -/
def heldR (v : Value) : Option (DataW Value × List MemPlace) := some (.held v, [])
/-- Block b is a map of at most n entries; M: what stands at a key. -/
def MapV (P : Program) (k : TypeId) (w : World) (b n : Nat) (M : Value → Option Value) : Prop :=
  ∃ D : DataW Value, w.ownsMap P k heldR b n D ∧ ∀ key kl, keyOf P k key = some kl → (∀ zd, D.atKey kl zd = match M key with | some v => .held v | none => zd) ∧ Maps.has D kl = (M key).isSome
open Classical in
/-- A key more, or another value there. -/
noncomputable def upd (M : Value → Option Value) (key v : Value) : Value → Option Value := fun x => if x = key then some v else M x
open Classical in
noncomputable def del (M : Value → Option Value) (key : Value) : Value → Option Value := fun x => if x = key then none else M x

section
variable {P : Program} {k e t : TypeId} {w : World} {b n : Nat} {M : Value → Option Value}
theorem mapV_made (w : World) (P : Program) (k : TypeId) : MapV P k (w.alloc (.map #[] 0)) w.heap.size 0 (fun _ => none) :=
  ⟨_, World.ownsMap_made w P k heldR, fun key kl h => ⟨fun zd => rfl, rfl⟩⟩
theorem MapV.kept {w' : World} {row : Option Nat} (h : MapV P k w b n M) (hg : w.grownBy w' row) (hne : some b ≠ row) : MapV P k w' b n M := by
  obtain ⟨D, h1, h2⟩ := h; exact ⟨D, h1.kept hg hne, h2⟩
theorem MapV.of_heap {w' : World} (h : MapV P k w b n M) (he : w'.heap[b]? = w.heap[b]?) : MapV P k w' b n M := by
  obtain ⟨D, ⟨es, clock, hb, F, hs, hD⟩, h2⟩ := h; exact ⟨D, ⟨es, clock, he.trans hb, F, hs, hD⟩, h2⟩
theorem MapV.mono (h : MapV P k w b n M) {n' : Nat} (hn : n ≤ n') : MapV P k w b n' M := by
  obtain ⟨D, h1, h2⟩ := h; exact ⟨D, h1.mono hn, h2⟩
theorem MapV.lt (h : MapV P k w b n M) : b < w.heap.size := by obtain ⟨D, h1, h2⟩ := h; exact h1.lt
theorem MapV.heap (h : MapV P k w b n M) : ∃ es clock, w.heap[b]? = some (.map es clock) := by
  obtain ⟨D, ⟨es, clock, hb, _⟩, h2⟩ := h; exact ⟨es, clock, hb⟩
theorem MapV.lookup (h : MapV P k w b n M) (K : Keyed P k) (ht : P.underlying t = some (.map k e)) {z : Value} (hz : (zeroValue e).run P w = .ok z w) {key : Value} {kl : Lit} (hkey : keyOf P k key = some kl) :
    (Instr.lookup t (.map (some b)) key false).run P w = .ok ((M key).getD z) w := by
  obtain ⟨D, h1, h2⟩ := h
  obtain ⟨v, ps, hr, hv⟩ := h1.lookup K ht hz (zd := .held z) (zp := []) rfl hkey
  rw [hr]
  have e1 := (h2 key kl hkey).1 (.held z)
  simp only [heldR, Option.some.injEq, Prod.mk.injEq] at hv
  rw [e1] at hv
  cases hM : M key with
  | none => rw [hM] at hv; simp only [DataW.held.injEq] at hv; rw [hv.1]; rfl
  | some u => rw [hM] at hv; simp only [DataW.held.injEq] at hv; rw [hv.1]; rfl
theorem MapV.look_ok (h : MapV P k w b n M) (K : Keyed P k) (ht : P.underlying t = some (.map k e)) {z : Value} (hz : (zeroValue e).run P w = .ok z w) {key : Value} {kl : Lit} (hkey : keyOf P k key = some kl) :
    (Instr.lookup t (.map (some b)) key true).run P w = .ok (.tuple #[(M key).getD z, .bool (M key).isSome]) w := by
  obtain ⟨D, h1, h2⟩ := h
  obtain ⟨v, ps, hr, hv⟩ := h1.look_ok K ht hz (zd := .held z) (zp := []) rfl hkey
  rw [hr]
  have e1 := (h2 key kl hkey).1 (.held z)
  rw [(h2 key kl hkey).2]
  simp only [heldR, Option.some.injEq, Prod.mk.injEq] at hv
  rw [e1] at hv
  cases hM : M key with
  | none => rw [hM] at hv; simp only [DataW.held.injEq] at hv; rw [hv.1]; rfl
  | some u => rw [hM] at hv; simp only [DataW.held.injEq] at hv; rw [hv.1]; rfl
theorem MapV.len (h : MapV P k w b n M) (ht : P.underlying t = some (.map k e)) : True := trivial
theorem MapV.update (h : MapV P k w b n M) (K : Keyed P k) (ht : P.underlying t = some (.map k e)) (hn : n < maxLen) {key val : Value} {kl : Lit} (hkey : keyOf P k key = some kl) :
    ∃ w', (Instr.mapUpdate t (.map (some b)) key val).run P w = .ok () w' ∧ MapV P k w' b (n + 1) (upd M key val) ∧ w.mapTurned w' b := by
  obtain ⟨D, h1, h2⟩ := h
  obtain ⟨w', hr, ho, hm⟩ := h1.store K ht hn hkey (d := .held val) (ps := []) rfl
  refine ⟨w', hr, ⟨_, ho, fun key' kl' hk' => ?_⟩, hm⟩
  unfold upd
  by_cases hkk : key' = key
  · subst hkk
    obtain rfl : kl' = kl := by rw [hkey] at hk'; cases hk'; rfl
    rw [if_pos rfl]
    exact ⟨fun zd => atKey_put_same h1.isMap (K.key hkey) _ _, has_put_same h1.isMap (K.key hkey) _⟩
  · have hne : kl' ≠ kl := fun e => hkk (K.inj hk' (e ▸ hkey))
    rw [if_neg hkk]
    exact ⟨fun zd => (atKey_put_other hne _ _).trans ((h2 key' kl' hk').1 zd), (has_put_other hne _).trans (h2 key' kl' hk').2⟩
theorem MapV.delete (h : MapV P k w b n M) (K : Keyed P k) (ht : P.underlying t = some (.map k e)) {key : Value} {kl : Lit} (hkey : keyOf P k key = some kl) (ty : TypeId) :
    ∃ w', (Builtin.delete_ #[t, k] ty #[.map (some b), key]).run P w = .ok (.tuple #[]) w' ∧ MapV P k w' b n (del M key) ∧ w.mapTurned w' b := by
  obtain ⟨D, h1, h2⟩ := h
  obtain ⟨w', hr, ho, hm⟩ := h1.drop K ht hkey ty
  refine ⟨w', hr, ⟨_, ho, fun key' kl' hk' => ?_⟩, hm⟩
  unfold del
  by_cases hkk : key' = key
  · subst hkk
    obtain rfl : kl' = kl := by rw [hkey] at hk'; cases hk'; rfl
    rw [if_pos rfl]
    exact ⟨fun zd => atKey_del_same _, has_del_same⟩
  · have hne : kl' ≠ kl := fun e => hkk (K.inj hk' (e ▸ hkey))
    rw [if_neg hkk]
    exact ⟨fun zd => (atKey_del_other hne _).trans ((h2 key' kl' hk').1 zd), (has_del_other hne).trans (h2 key' kl' hk').2⟩
end
end Go.Proofs.YtdkcjeaabbkdeaaGreatDoor
end
section
namespace Go.Proofs.YtdkcjeaabbkdeaaGreatDoor
open Go.RowKit Go.Maps Go.WideElems
set_option linter.unusedVariables false
set_option linter.unusedSimpArgs false
theorem laidOut : laidOutB Tryz.prog = true := by kernel_rfl
theorem keyed194 : Keyed Tryz.prog 194 := Keyed.of_law (deep_law_laid laidOut (m := 2) (by omega) (of_decide_eq_true (by kernel_rfl)) (by kernel_rfl) (by rw [Tryz.underlying194]))
theorem keyed106 : Keyed Tryz.prog 106 := Keyed.of_law (deep_law_laid laidOut (m := 2) (by omega) (of_decide_eq_true (by kernel_rfl)) (by kernel_rfl) (by rw [Tryz.underlying106]))
theorem keyed3 : Keyed Tryz.prog 3 := int_keyed Tryz.underlying3
end Go.Proofs.YtdkcjeaabbkdeaaGreatDoor
end
section
namespace Go.Proofs.YtdkcjeaabbkdeaaGreatDoor
open Go.RowKit Go.Maps Go.WideElems
set_option linter.unusedVariables false
set_option linter.unusedSimpArgs false
theorem kt194 : Tryz.prog.keyType 194 = true := by kernel_rfl
theorem kt106 : Tryz.prog.keyType 106 = true := by kernel_rfl
theorem co194 : Tryz.prog.cellsOf 194 = 2 := by kernel_rfl
theorem co106 : Tryz.prog.cellsOf 106 = 1 := by kernel_rfl
/-- The key of a register of a call. -/
def hkey (c n : Int) : Value := .agg #[.int .i64 c, .int .i64 n]
def inInt (n : Int) : Prop := -9223372036854775808 ≤ n ∧ n ≤ 9223372036854775807
theorem wf_i64' {n : Int} (h : inInt n) : (Lit.int .i64 n).wf = true := WalkArith.wf_i64 h
theorem typesSize : Tryz.prog.types.size = 378 := by kernel_rfl
theorem co3 : Tryz.prog.cellsOf 3 = 1 := by kernel_rfl
theorem co9 : Tryz.prog.cellsOf 9 = 1 := by kernel_rfl
theorem keyLits3 (d : Nat) (n : Int) (h : inInt n) : Tryz.prog.keyLits (d + 1) 3 [.int .i64 n] = some [.int .i64 n] := by
  rw [Program.keyLits.eq_def]
  simp [Tryz.underlying3, wf_i64' h]
theorem keyLits9 (d : Nat) (s : ByteArray) (h : s.size ≤ maxLen) : Tryz.prog.keyLits (d + 1) 9 [.string s] = some [.string s.data.toList] := by
  rw [Program.keyLits.eq_def]
  simp [Tryz.underlying9, h]
theorem keyLits194 (d : Nat) (c n : Int) (hc : inInt c) (hn : inInt n) : Tryz.prog.keyLits (d + 1 + 1) 194 [.int .i64 c, .int .i64 n] = some [.int .i64 c, .int .i64 n] := by
  rw [Program.keyLits.eq_def]
  simp [Tryz.underlying194, co194, co3, keyLits3, hc, hn]
theorem keyLits106 (d : Nat) (s : ByteArray) (h : s.size ≤ maxLen) : Tryz.prog.keyLits (d + 1 + 1) 106 [.string s] = some [.string s.data.toList] := by
  rw [Program.keyLits.eq_def]
  simp [Tryz.underlying106, co106, co9, keyLits9, h]
theorem typesSize' : Tryz.prog.types.size + 1 = 377 + 1 + 1 := by kernel_rfl
theorem formed194 (c n : Int) : Value.formed Tryz.prog 194 (.agg #[.int .i64 c, .int .i64 n]) = true := by
  simp [Value.formed, Tryz.underlying194, co194]
theorem formed106 (s : ByteArray) : Value.formed Tryz.prog 106 (.agg #[.string s]) = true := by
  simp [Value.formed, Tryz.underlying106, co106]
theorem keyOf_held (c n : Int) (hc : inInt c) (hn : inInt n) : ∃ kl, keyOf Tryz.prog 194 (hkey c n) = some kl := by
  refine ⟨.string (keyBytes [.int .i64 c, .int .i64 n]), ?_⟩
  unfold keyOf hkey
  rw [Tryz.underlying194]
  simp only [kt194, formed194, Bool.and_self, if_true]
  rw [typesSize', show (Value.agg #[Value.int IntKind.i64 c, Value.int IntKind.i64 n]).cells.toList = [.int .i64 c, .int .i64 n] from rfl, keyLits194 _ _ _ hc hn]
  rfl
/-- The key of a stack's text. -/
def tkey (s : ByteArray) : Value := .agg #[.string s]
theorem keyOf_text (s : ByteArray) (h : s.size ≤ maxLen) : ∃ kl, keyOf Tryz.prog 106 (tkey s) = some kl := by
  refine ⟨.string (keyBytes [.string s.data.toList]), ?_⟩
  unfold keyOf tkey
  rw [Tryz.underlying106]
  simp only [kt106, formed106, Bool.and_self, if_true]
  rw [typesSize', show (Value.agg #[Value.string s]).cells.toList = [.string s] from rfl, keyLits106 _ _ h]
  rfl
theorem keyOf_num (n : Int) (h : inInt n) : keyOf Tryz.prog 3 (.int .i64 n) = some (.int .i64 n) := by
  simp [keyOf, Tryz.underlying3, mapKey, wf_i64' h]
end Go.Proofs.YtdkcjeaabbkdeaaGreatDoor
end
