/-
  NARROWER THAN 'FOR EVERY INPUT', by the rows' own cells (each row's printed sentence says how): ProfCosts: laid · ProfTops: laid · ProfLines: laid · ProfStacks: laid · ProfLanes: laid · ProfBack: laid · ProfDiffs: laid · ProfKnown: laid · ProfWhole: laid.
  DERIVED. THE GIVEN ROWS OF THIS SEAT. 9 by the template 'for every input the law returns true; each argument reads behind the call as it read before'; 0 by the template 'total and deterministic' (their statements: YtdkcjeaabbkdeaaGreatDoorTotals.lean).
  GIVEN WITH THE SEED: the statements are not yours to turn. If you find one false, say at which input.
  Laid BY PROGRAM, IN A SANDBOX (cutbox-rows.mjs): the forced cells as the released guide's own fill.sh prints them over the translation e06eddace776b545… (all of the seat's roots in one cut). By AI agents, Wed Nov 11 2026. No macro, syntax, notation, axiom, sorry.
-/
import Derived.Test.YtdkcjeaabbkdeaaGreatDoorChecked
import GoSem.Claim
import GoSem.ClaimJoined
import GoSem.ClaimMapViews
import Derived.JoinedTies
import Derived.KernelRfl
namespace Go.Proofs.YtdkcjeaabbkdeaaGreatDoor
/- THE CELL 'sum', in the pinned program and in every row, IS THE sha256 OF THE DUMP (.gsa) THAT YtdkcjeaabbkdeaaGreatDoorProg.lean LOADS. Nothing in Lean hashes anything: it is a label: what it is worth is what the hold of that sum in a sandbox is worth. -/
noncomputable def Tryz.pinned : Pinned := { name := "ytdkcjeaabbkdeaagreatdoor", sum := "e06eddace776b5452c7ab326f671020a3380fea0c55f7e582ba106c0f56ac8c5", checked := Tryz.checked }
namespace Rows
def none {H : Type} : Left H := { results := [], args := [] }

/- WHAT THE LISTED PACKAGE-LEVEL VARIABLES READ AS WHEN THE CALL BEGINS. Each datum BY PROGRAM (the guide's laid-datum.mjs) off the statement by which the dump's own 'gosem.cut.vars' lays the variable. In a bare row this is a premise. The card (YtdkcjeaabbkdeaaGreatDoorCards.lean) ties it to the program's text. -/
def laid_math_bits_deBruijn32tab {H : Type} : DataW H := .agg [.lit (.int .u8 0), .lit (.int .u8 1), .lit (.int .u8 28), .lit (.int .u8 2), .lit (.int .u8 29), .lit (.int .u8 14), .lit (.int .u8 24), .lit (.int .u8 3), .lit (.int .u8 30), .lit (.int .u8 22), .lit (.int .u8 20), .lit (.int .u8 15), .lit (.int .u8 25), .lit (.int .u8 17), .lit (.int .u8 4), .lit (.int .u8 8), .lit (.int .u8 31), .lit (.int .u8 27), .lit (.int .u8 13), .lit (.int .u8 23), .lit (.int .u8 21), .lit (.int .u8 19), .lit (.int .u8 16), .lit (.int .u8 7), .lit (.int .u8 26), .lit (.int .u8 12), .lit (.int .u8 18), .lit (.int .u8 6), .lit (.int .u8 11), .lit (.int .u8 5), .lit (.int .u8 10), .lit (.int .u8 9)]
def laid_math_bits_deBruijn64tab {H : Type} : DataW H := .agg [.lit (.int .u8 0), .lit (.int .u8 1), .lit (.int .u8 56), .lit (.int .u8 2), .lit (.int .u8 57), .lit (.int .u8 49), .lit (.int .u8 28), .lit (.int .u8 3), .lit (.int .u8 61), .lit (.int .u8 58), .lit (.int .u8 42), .lit (.int .u8 50), .lit (.int .u8 38), .lit (.int .u8 29), .lit (.int .u8 17), .lit (.int .u8 4), .lit (.int .u8 62), .lit (.int .u8 47), .lit (.int .u8 59), .lit (.int .u8 36), .lit (.int .u8 45), .lit (.int .u8 43), .lit (.int .u8 51), .lit (.int .u8 22), .lit (.int .u8 53), .lit (.int .u8 39), .lit (.int .u8 33), .lit (.int .u8 30), .lit (.int .u8 24), .lit (.int .u8 18), .lit (.int .u8 12), .lit (.int .u8 5), .lit (.int .u8 63), .lit (.int .u8 55), .lit (.int .u8 48), .lit (.int .u8 27), .lit (.int .u8 60), .lit (.int .u8 41), .lit (.int .u8 37), .lit (.int .u8 16), .lit (.int .u8 46), .lit (.int .u8 35), .lit (.int .u8 44), .lit (.int .u8 21), .lit (.int .u8 52), .lit (.int .u8 32), .lit (.int .u8 23), .lit (.int .u8 11), .lit (.int .u8 54), .lit (.int .u8 26), .lit (.int .u8 40), .lit (.int .u8 15), .lit (.int .u8 34), .lit (.int .u8 20), .lit (.int .u8 31), .lit (.int .u8 10), .lit (.int .u8 25), .lit (.int .u8 14), .lit (.int .u8 19), .lit (.int .u8 9), .lit (.int .u8 13), .lit (.int .u8 8), .lit (.int .u8 7), .lit (.int .u8 6)]
def laid_internal_strconv_uint64pow10 {H : Type} : DataW H := .agg [.lit (.int .u64 1), .lit (.int .u64 10), .lit (.int .u64 100), .lit (.int .u64 1000), .lit (.int .u64 10000), .lit (.int .u64 100000), .lit (.int .u64 1000000), .lit (.int .u64 10000000), .lit (.int .u64 100000000), .lit (.int .u64 1000000000), .lit (.int .u64 10000000000), .lit (.int .u64 100000000000), .lit (.int .u64 1000000000000), .lit (.int .u64 10000000000000), .lit (.int .u64 100000000000000), .lit (.int .u64 1000000000000000), .lit (.int .u64 10000000000000000), .lit (.int .u64 100000000000000000), .lit (.int .u64 1000000000000000000), .lit (.int .u64 10000000000000000000)]
def laid_strconv_ErrRange {H : Type} : DataW H := .iface "*errors.errorString" (.ptr (.agg [.lit (.string [118, 97, 108, 117, 101, 32, 111, 117, 116, 32, 111, 102, 32, 114, 97, 110, 103, 101])]))
def laid_strconv_ErrSyntax {H : Type} : DataW H := .iface "*errors.errorString" (.ptr (.agg [.lit (.string [105, 110, 118, 97, 108, 105, 100, 32, 115, 121, 110, 116, 97, 120])]))
def laid_sheafworks_word_deeds {H : Type} : DataW H := .iface "func table" (.agg [.iface "func" (.lit (.string [40, 115, 104, 101, 97, 102, 119, 111, 114, 107, 115, 47, 119, 111, 114, 100, 46, 112, 97, 105, 114, 41, 46, 97, 100, 100])), .iface "func" (.lit (.string [40, 115, 104, 101, 97, 102, 119, 111, 114, 107, 115, 47, 119, 111, 114, 100, 46, 112, 97, 105, 114, 41, 46, 115, 117, 98])), .iface "func" (.lit (.string [40, 115, 104, 101, 97, 102, 119, 111, 114, 107, 115, 47, 119, 111, 114, 100, 46, 112, 97, 105, 114, 41, 46, 109, 117, 108])), .iface "func" (.lit (.string [40, 115, 104, 101, 97, 102, 119, 111, 114, 107, 115, 47, 119, 111, 114, 100, 46, 112, 97, 105, 114, 41, 46, 100, 105, 118])), .iface "func" (.lit (.string [40, 115, 104, 101, 97, 102, 119, 111, 114, 107, 115, 47, 119, 111, 114, 100, 46, 112, 97, 105, 114, 41, 46, 109, 111, 100])), .iface "func" (.lit (.string [40, 115, 104, 101, 97, 102, 119, 111, 114, 107, 115, 47, 119, 111, 114, 100, 46, 112, 97, 105, 114, 41, 46, 108, 101, 115, 115])), .iface "func" (.lit (.string [40, 115, 104, 101, 97, 102, 119, 111, 114, 107, 115, 47, 119, 111, 114, 100, 46, 112, 97, 105, 114, 41, 46, 115, 97, 109, 101])), .iface "func" (.lit (.string [40, 115, 104, 101, 97, 102, 119, 111, 114, 107, 115, 47, 119, 111, 114, 100, 46, 112, 97, 105, 114, 41, 46, 109, 105, 110])), .iface "func" (.lit (.string [40, 115, 104, 101, 97, 102, 119, 111, 114, 107, 115, 47, 119, 111, 114, 100, 46, 112, 97, 105, 114, 41, 46, 109, 97, 120])), .iface "func" (.lit (.string [40, 115, 104, 101, 97, 102, 119, 111, 114, 107, 115, 47, 119, 111, 114, 100, 46, 112, 97, 105, 114, 41, 46, 97, 110, 100])), .iface "func" (.lit (.string [40, 115, 104, 101, 97, 102, 119, 111, 114, 107, 115, 47, 119, 111, 114, 100, 46, 112, 97, 105, 114, 41, 46, 111, 114])), .iface "func" (.lit (.string [40, 115, 104, 101, 97, 102, 119, 111, 114, 107, 115, 47, 119, 111, 114, 100, 46, 112, 97, 105, 114, 41, 46, 120, 111, 114]))])
def laid_sheafworks_word_laws {H : Type} : DataW H := .agg [.agg [.lit (.bool true), .lit (.bool true), .lit (.bool false)], .agg [.lit (.bool false), .lit (.bool false), .lit (.bool false)], .agg [.lit (.bool true), .lit (.bool true), .lit (.bool false)], .agg [.lit (.bool false), .lit (.bool false), .lit (.bool false)], .agg [.lit (.bool false), .lit (.bool false), .lit (.bool false)], .agg [.lit (.bool false), .lit (.bool false), .lit (.bool false)], .agg [.lit (.bool false), .lit (.bool true), .lit (.bool false)], .agg [.lit (.bool true), .lit (.bool true), .lit (.bool true)], .agg [.lit (.bool true), .lit (.bool true), .lit (.bool true)], .agg [.lit (.bool true), .lit (.bool true), .lit (.bool true)], .agg [.lit (.bool true), .lit (.bool true), .lit (.bool true)], .agg [.lit (.bool true), .lit (.bool true), .lit (.bool false)]]
def laid_sheafworks_word_neutrals {H : Type} : DataW H := .agg [.lit (.int .i64 0), .lit (.int .i64 0), .lit (.int .i64 1), .lit (.int .i64 0), .lit (.int .i64 0), .lit (.int .i64 0), .lit (.int .i64 0), .lit (.int .i64 2147483647), .lit (.int .i64 (-2147483648)), .lit (.int .i64 (-1)), .lit (.int .i64 0), .lit (.int .i64 0)]
def laid_sheafworks_prof_nobody {H : Type} : DataW H := .agg [.lit (.string [])]
def laid_sheafworks_prof_fields {H : Type} : DataW H := .iface "func table" (.agg [.iface "func" (.lit (.string [40, 115, 104, 101, 97, 102, 119, 111, 114, 107, 115, 47, 112, 114, 111, 102, 46, 101, 110, 116, 114, 121, 41, 46, 99, 111, 117, 110, 116])), .iface "func" (.lit (.string [40, 115, 104, 101, 97, 102, 119, 111, 114, 107, 115, 47, 112, 114, 111, 102, 46, 101, 110, 116, 114, 121, 41, 46, 119, 111, 114, 107])), .iface "func" (.lit (.string [40, 115, 104, 101, 97, 102, 119, 111, 114, 107, 115, 47, 112, 114, 111, 102, 46, 101, 110, 116, 114, 121, 41, 46, 99, 121, 99, 108, 101, 115]))])

/-- 'sheafworkslaw31.ProfCosts': WHATEVER THE INPUT: true; the input reads as it did. -/
def profCostsSpec : ChangeSpec := { name := "profCosts", fn := fun _ => fun
  | [d1, d2, d3] => { results := [.lit (.bool true)], args := [d1, d2, d3] }
  | _ => none }
def profCostsRow : OpenClaim := { program := "ytdkcjeaabbkdeaagreatdoor", sum := "e06eddace776b5452c7ab326f671020a3380fea0c55f7e582ba106c0f56ac8c5", func := "sheafworks/sheafworkslaw31.ProfCosts", spec := "profCosts", inPlace := ["internal/abi.NoEscape"], unfollowed := true, recurses := true, named := ["sheafworks/word.deeds", "sheafworks/word.neutrals", "sheafworks/word.laws", "sheafworks/prof.nobody", "internal/strconv.uint64pow10", "math/bits.deBruijn32tab", "math/bits.deBruijn64tab", "sheafworks/prof.fields", "strconv.ErrSyntax", "strconv.ErrRange"], plainKeys := false, apart := false, laid := [("math/bits.deBruijn32tab", laid_math_bits_deBruijn32tab), ("math/bits.deBruijn64tab", laid_math_bits_deBruijn64tab), ("internal/strconv.uint64pow10", laid_internal_strconv_uint64pow10), ("strconv.ErrRange", laid_strconv_ErrRange), ("strconv.ErrSyntax", laid_strconv_ErrSyntax), ("sheafworks/word.deeds", laid_sheafworks_word_deeds), ("sheafworks/word.laws", laid_sheafworks_word_laws), ("sheafworks/word.neutrals", laid_sheafworks_word_neutrals), ("sheafworks/prof.nobody", laid_sheafworks_prof_nobody), ("sheafworks/prof.fields", laid_sheafworks_prof_fields)] }
def ProfCostsSaid : Prop := profCostsRow.holds Tryz.pinned (OpenSpec.ofChange profCostsSpec)

/-- ITS FALSE NEIGHBOUR: 'it returns false'. Refute it at one input. -/
def profCostsWrong : ChangeSpec := { name := "profCosts", fn := fun _ => fun
  | [d1, d2, d3] => { results := [.lit (.bool false)], args := [d1, d2, d3] }
  | _ => none }
def ProfCostsWrongFalsely : Prop := profCostsRow.holds Tryz.pinned (OpenSpec.ofChange profCostsWrong)

/-- 'sheafworkslaw31.ProfTops': WHATEVER THE INPUT: true; the input reads as it did. -/
def profTopsSpec : ChangeSpec := { name := "profTops", fn := fun _ => fun
  | [d1, d2, d3] => { results := [.lit (.bool true)], args := [d1, d2, d3] }
  | _ => none }
def profTopsRow : OpenClaim := { program := "ytdkcjeaabbkdeaagreatdoor", sum := "e06eddace776b5452c7ab326f671020a3380fea0c55f7e582ba106c0f56ac8c5", func := "sheafworks/sheafworkslaw31.ProfTops", spec := "profTops", inPlace := ["internal/abi.NoEscape"], unfollowed := true, recurses := true, named := ["sheafworks/word.deeds", "sheafworks/word.neutrals", "sheafworks/word.laws", "sheafworks/prof.nobody", "internal/strconv.uint64pow10", "math/bits.deBruijn32tab", "math/bits.deBruijn64tab", "sheafworks/prof.fields", "strconv.ErrSyntax", "strconv.ErrRange"], plainKeys := false, apart := false, laid := [("math/bits.deBruijn32tab", laid_math_bits_deBruijn32tab), ("math/bits.deBruijn64tab", laid_math_bits_deBruijn64tab), ("internal/strconv.uint64pow10", laid_internal_strconv_uint64pow10), ("strconv.ErrRange", laid_strconv_ErrRange), ("strconv.ErrSyntax", laid_strconv_ErrSyntax), ("sheafworks/word.deeds", laid_sheafworks_word_deeds), ("sheafworks/word.laws", laid_sheafworks_word_laws), ("sheafworks/word.neutrals", laid_sheafworks_word_neutrals), ("sheafworks/prof.nobody", laid_sheafworks_prof_nobody), ("sheafworks/prof.fields", laid_sheafworks_prof_fields)] }
def ProfTopsSaid : Prop := profTopsRow.holds Tryz.pinned (OpenSpec.ofChange profTopsSpec)

/-- ITS FALSE NEIGHBOUR: 'it returns false'. Refute it at one input. -/
def profTopsWrong : ChangeSpec := { name := "profTops", fn := fun _ => fun
  | [d1, d2, d3] => { results := [.lit (.bool false)], args := [d1, d2, d3] }
  | _ => none }
def ProfTopsWrongFalsely : Prop := profTopsRow.holds Tryz.pinned (OpenSpec.ofChange profTopsWrong)

/-- 'sheafworkslaw31.ProfLines': WHATEVER THE INPUT: true; the input reads as it did. -/
def profLinesSpec : ChangeSpec := { name := "profLines", fn := fun _ => fun
  | [d1, d2] => { results := [.lit (.bool true)], args := [d1, d2] }
  | _ => none }
def profLinesRow : OpenClaim := { program := "ytdkcjeaabbkdeaagreatdoor", sum := "e06eddace776b5452c7ab326f671020a3380fea0c55f7e582ba106c0f56ac8c5", func := "sheafworks/sheafworkslaw31.ProfLines", spec := "profLines", inPlace := ["internal/abi.NoEscape"], unfollowed := true, recurses := true, named := ["sheafworks/word.deeds", "sheafworks/word.neutrals", "sheafworks/word.laws", "sheafworks/prof.nobody", "internal/strconv.uint64pow10", "math/bits.deBruijn32tab", "math/bits.deBruijn64tab", "sheafworks/prof.fields", "strconv.ErrSyntax", "strconv.ErrRange"], plainKeys := false, apart := false, laid := [("math/bits.deBruijn32tab", laid_math_bits_deBruijn32tab), ("math/bits.deBruijn64tab", laid_math_bits_deBruijn64tab), ("internal/strconv.uint64pow10", laid_internal_strconv_uint64pow10), ("strconv.ErrRange", laid_strconv_ErrRange), ("strconv.ErrSyntax", laid_strconv_ErrSyntax), ("sheafworks/word.deeds", laid_sheafworks_word_deeds), ("sheafworks/word.laws", laid_sheafworks_word_laws), ("sheafworks/word.neutrals", laid_sheafworks_word_neutrals), ("sheafworks/prof.nobody", laid_sheafworks_prof_nobody), ("sheafworks/prof.fields", laid_sheafworks_prof_fields)] }
def ProfLinesSaid : Prop := profLinesRow.holds Tryz.pinned (OpenSpec.ofChange profLinesSpec)

/-- ITS FALSE NEIGHBOUR: 'it returns false'. Refute it at one input. -/
def profLinesWrong : ChangeSpec := { name := "profLines", fn := fun _ => fun
  | [d1, d2] => { results := [.lit (.bool false)], args := [d1, d2] }
  | _ => none }
def ProfLinesWrongFalsely : Prop := profLinesRow.holds Tryz.pinned (OpenSpec.ofChange profLinesWrong)

/-- 'sheafworkslaw31.ProfStacks': WHATEVER THE INPUT: true; the input reads as it did. -/
def profStacksSpec : ChangeSpec := { name := "profStacks", fn := fun _ => fun
  | [d] => { results := [.lit (.bool true)], args := [d] }
  | _ => none }
def profStacksRow : OpenClaim := { program := "ytdkcjeaabbkdeaagreatdoor", sum := "e06eddace776b5452c7ab326f671020a3380fea0c55f7e582ba106c0f56ac8c5", func := "sheafworks/sheafworkslaw31.ProfStacks", spec := "profStacks", inPlace := ["internal/abi.NoEscape"], unfollowed := true, recurses := true, named := ["sheafworks/prof.nobody", "sheafworks/word.deeds", "sheafworks/word.neutrals", "sheafworks/word.laws", "internal/strconv.uint64pow10", "math/bits.deBruijn32tab", "math/bits.deBruijn64tab", "sheafworks/prof.fields", "strconv.ErrSyntax", "strconv.ErrRange"], plainKeys := false, apart := false, laid := [("math/bits.deBruijn32tab", laid_math_bits_deBruijn32tab), ("math/bits.deBruijn64tab", laid_math_bits_deBruijn64tab), ("internal/strconv.uint64pow10", laid_internal_strconv_uint64pow10), ("strconv.ErrRange", laid_strconv_ErrRange), ("strconv.ErrSyntax", laid_strconv_ErrSyntax), ("sheafworks/word.deeds", laid_sheafworks_word_deeds), ("sheafworks/word.laws", laid_sheafworks_word_laws), ("sheafworks/word.neutrals", laid_sheafworks_word_neutrals), ("sheafworks/prof.nobody", laid_sheafworks_prof_nobody), ("sheafworks/prof.fields", laid_sheafworks_prof_fields)] }
def ProfStacksSaid : Prop := profStacksRow.holds Tryz.pinned (OpenSpec.ofChange profStacksSpec)

/-- ITS FALSE NEIGHBOUR: 'it returns false'. Refute it at one input. -/
def profStacksWrong : ChangeSpec := { name := "profStacks", fn := fun _ => fun
  | [d] => { results := [.lit (.bool false)], args := [d] }
  | _ => none }
def ProfStacksWrongFalsely : Prop := profStacksRow.holds Tryz.pinned (OpenSpec.ofChange profStacksWrong)

/-- 'sheafworkslaw31.ProfLanes': WHATEVER THE INPUT: true; the input reads as it did. -/
def profLanesSpec : ChangeSpec := { name := "profLanes", fn := fun _ => fun
  | [d1, d2, d3] => { results := [.lit (.bool true)], args := [d1, d2, d3] }
  | _ => none }
def profLanesRow : OpenClaim := { program := "ytdkcjeaabbkdeaagreatdoor", sum := "e06eddace776b5452c7ab326f671020a3380fea0c55f7e582ba106c0f56ac8c5", func := "sheafworks/sheafworkslaw31.ProfLanes", spec := "profLanes", inPlace := ["internal/abi.NoEscape"], unfollowed := true, recurses := true, named := ["sheafworks/word.deeds", "sheafworks/word.neutrals", "sheafworks/word.laws", "sheafworks/prof.nobody", "internal/strconv.uint64pow10", "math/bits.deBruijn32tab", "math/bits.deBruijn64tab", "sheafworks/prof.fields", "strconv.ErrSyntax", "strconv.ErrRange"], plainKeys := false, apart := false, laid := [("math/bits.deBruijn32tab", laid_math_bits_deBruijn32tab), ("math/bits.deBruijn64tab", laid_math_bits_deBruijn64tab), ("internal/strconv.uint64pow10", laid_internal_strconv_uint64pow10), ("strconv.ErrRange", laid_strconv_ErrRange), ("strconv.ErrSyntax", laid_strconv_ErrSyntax), ("sheafworks/word.deeds", laid_sheafworks_word_deeds), ("sheafworks/word.laws", laid_sheafworks_word_laws), ("sheafworks/word.neutrals", laid_sheafworks_word_neutrals), ("sheafworks/prof.nobody", laid_sheafworks_prof_nobody), ("sheafworks/prof.fields", laid_sheafworks_prof_fields)] }
def ProfLanesSaid : Prop := profLanesRow.holds Tryz.pinned (OpenSpec.ofChange profLanesSpec)

/-- ITS FALSE NEIGHBOUR: 'it returns false'. Refute it at one input. -/
def profLanesWrong : ChangeSpec := { name := "profLanes", fn := fun _ => fun
  | [d1, d2, d3] => { results := [.lit (.bool false)], args := [d1, d2, d3] }
  | _ => none }
def ProfLanesWrongFalsely : Prop := profLanesRow.holds Tryz.pinned (OpenSpec.ofChange profLanesWrong)

/-- 'sheafworkslaw31.ProfBack': WHATEVER THE INPUT: true; the input reads as it did. -/
def profBackSpec : ChangeSpec := { name := "profBack", fn := fun _ => fun
  | [d] => { results := [.lit (.bool true)], args := [d] }
  | _ => none }
def profBackRow : OpenClaim := { program := "ytdkcjeaabbkdeaagreatdoor", sum := "e06eddace776b5452c7ab326f671020a3380fea0c55f7e582ba106c0f56ac8c5", func := "sheafworks/sheafworkslaw31.ProfBack", spec := "profBack", inPlace := ["internal/abi.NoEscape"], unfollowed := true, recurses := true, named := ["sheafworks/prof.nobody", "sheafworks/word.deeds", "sheafworks/word.neutrals", "sheafworks/word.laws", "internal/strconv.uint64pow10", "math/bits.deBruijn32tab", "math/bits.deBruijn64tab", "sheafworks/prof.fields", "strconv.ErrSyntax", "strconv.ErrRange"], plainKeys := false, apart := false, laid := [("math/bits.deBruijn32tab", laid_math_bits_deBruijn32tab), ("math/bits.deBruijn64tab", laid_math_bits_deBruijn64tab), ("internal/strconv.uint64pow10", laid_internal_strconv_uint64pow10), ("strconv.ErrRange", laid_strconv_ErrRange), ("strconv.ErrSyntax", laid_strconv_ErrSyntax), ("sheafworks/word.deeds", laid_sheafworks_word_deeds), ("sheafworks/word.laws", laid_sheafworks_word_laws), ("sheafworks/word.neutrals", laid_sheafworks_word_neutrals), ("sheafworks/prof.nobody", laid_sheafworks_prof_nobody), ("sheafworks/prof.fields", laid_sheafworks_prof_fields)] }
def ProfBackSaid : Prop := profBackRow.holds Tryz.pinned (OpenSpec.ofChange profBackSpec)

/-- ITS FALSE NEIGHBOUR: 'it returns false'. Refute it at one input. -/
def profBackWrong : ChangeSpec := { name := "profBack", fn := fun _ => fun
  | [d] => { results := [.lit (.bool false)], args := [d] }
  | _ => none }
def ProfBackWrongFalsely : Prop := profBackRow.holds Tryz.pinned (OpenSpec.ofChange profBackWrong)

/-- 'sheafworkslaw31.ProfDiffs': WHATEVER THE INPUT: true; the input reads as it did. -/
def profDiffsSpec : ChangeSpec := { name := "profDiffs", fn := fun _ => fun
  | [d1, d2, d3] => { results := [.lit (.bool true)], args := [d1, d2, d3] }
  | _ => none }
def profDiffsRow : OpenClaim := { program := "ytdkcjeaabbkdeaagreatdoor", sum := "e06eddace776b5452c7ab326f671020a3380fea0c55f7e582ba106c0f56ac8c5", func := "sheafworks/sheafworkslaw31.ProfDiffs", spec := "profDiffs", inPlace := ["internal/abi.NoEscape"], unfollowed := true, recurses := true, named := ["sheafworks/prof.fields", "sheafworks/word.deeds", "sheafworks/word.neutrals", "sheafworks/word.laws", "sheafworks/prof.nobody", "internal/strconv.uint64pow10", "math/bits.deBruijn32tab", "math/bits.deBruijn64tab", "strconv.ErrSyntax", "strconv.ErrRange"], plainKeys := false, apart := false, laid := [("math/bits.deBruijn32tab", laid_math_bits_deBruijn32tab), ("math/bits.deBruijn64tab", laid_math_bits_deBruijn64tab), ("internal/strconv.uint64pow10", laid_internal_strconv_uint64pow10), ("strconv.ErrRange", laid_strconv_ErrRange), ("strconv.ErrSyntax", laid_strconv_ErrSyntax), ("sheafworks/word.deeds", laid_sheafworks_word_deeds), ("sheafworks/word.laws", laid_sheafworks_word_laws), ("sheafworks/word.neutrals", laid_sheafworks_word_neutrals), ("sheafworks/prof.nobody", laid_sheafworks_prof_nobody), ("sheafworks/prof.fields", laid_sheafworks_prof_fields)] }
def ProfDiffsSaid : Prop := profDiffsRow.holds Tryz.pinned (OpenSpec.ofChange profDiffsSpec)

/-- ITS FALSE NEIGHBOUR: 'it returns false'. Refute it at one input. -/
def profDiffsWrong : ChangeSpec := { name := "profDiffs", fn := fun _ => fun
  | [d1, d2, d3] => { results := [.lit (.bool false)], args := [d1, d2, d3] }
  | _ => none }
def ProfDiffsWrongFalsely : Prop := profDiffsRow.holds Tryz.pinned (OpenSpec.ofChange profDiffsWrong)

/-- 'sheafworkslaw31.ProfKnown': WHATEVER THE INPUT: true; the input reads as it did. -/
def profKnownSpec : ChangeSpec := { name := "profKnown", fn := fun _ => fun
  | [] => { results := [.lit (.bool true)], args := [] }
  | _ => none }
def profKnownRow : OpenClaim := { program := "ytdkcjeaabbkdeaagreatdoor", sum := "e06eddace776b5452c7ab326f671020a3380fea0c55f7e582ba106c0f56ac8c5", func := "sheafworks/sheafworkslaw31.ProfKnown", spec := "profKnown", inPlace := ["internal/abi.NoEscape"], unfollowed := true, recurses := true, named := ["sheafworks/word.deeds", "sheafworks/word.neutrals", "sheafworks/word.laws", "sheafworks/prof.nobody", "internal/strconv.uint64pow10", "math/bits.deBruijn32tab", "math/bits.deBruijn64tab", "sheafworks/prof.fields", "strconv.ErrSyntax", "strconv.ErrRange"], plainKeys := false, apart := false, laid := [("math/bits.deBruijn32tab", laid_math_bits_deBruijn32tab), ("math/bits.deBruijn64tab", laid_math_bits_deBruijn64tab), ("internal/strconv.uint64pow10", laid_internal_strconv_uint64pow10), ("strconv.ErrRange", laid_strconv_ErrRange), ("strconv.ErrSyntax", laid_strconv_ErrSyntax), ("sheafworks/word.deeds", laid_sheafworks_word_deeds), ("sheafworks/word.laws", laid_sheafworks_word_laws), ("sheafworks/word.neutrals", laid_sheafworks_word_neutrals), ("sheafworks/prof.nobody", laid_sheafworks_prof_nobody), ("sheafworks/prof.fields", laid_sheafworks_prof_fields)] }
def ProfKnownSaid : Prop := profKnownRow.holds Tryz.pinned (OpenSpec.ofChange profKnownSpec)

/-- ITS FALSE NEIGHBOUR: 'it returns false'. Refute it at one input. -/
def profKnownWrong : ChangeSpec := { name := "profKnown", fn := fun _ => fun
  | [] => { results := [.lit (.bool false)], args := [] }
  | _ => none }
def ProfKnownWrongFalsely : Prop := profKnownRow.holds Tryz.pinned (OpenSpec.ofChange profKnownWrong)

/-- 'sheafworkslaw31.ProfWhole': WHATEVER THE INPUT: true; the input reads as it did. -/
def profWholeSpec : ChangeSpec := { name := "profWhole", fn := fun _ => fun
  | [d1, d2] => { results := [.lit (.bool true)], args := [d1, d2] }
  | _ => none }
def profWholeRow : OpenClaim := { program := "ytdkcjeaabbkdeaagreatdoor", sum := "e06eddace776b5452c7ab326f671020a3380fea0c55f7e582ba106c0f56ac8c5", func := "sheafworks/sheafworkslaw31.ProfWhole", spec := "profWhole", inPlace := ["internal/abi.NoEscape"], unfollowed := true, recurses := true, named := ["sheafworks/word.deeds", "sheafworks/word.neutrals", "sheafworks/word.laws", "sheafworks/prof.nobody", "internal/strconv.uint64pow10", "math/bits.deBruijn32tab", "math/bits.deBruijn64tab", "sheafworks/prof.fields", "strconv.ErrSyntax", "strconv.ErrRange"], plainKeys := false, apart := false, laid := [("math/bits.deBruijn32tab", laid_math_bits_deBruijn32tab), ("math/bits.deBruijn64tab", laid_math_bits_deBruijn64tab), ("internal/strconv.uint64pow10", laid_internal_strconv_uint64pow10), ("strconv.ErrRange", laid_strconv_ErrRange), ("strconv.ErrSyntax", laid_strconv_ErrSyntax), ("sheafworks/word.deeds", laid_sheafworks_word_deeds), ("sheafworks/word.laws", laid_sheafworks_word_laws), ("sheafworks/word.neutrals", laid_sheafworks_word_neutrals), ("sheafworks/prof.nobody", laid_sheafworks_prof_nobody), ("sheafworks/prof.fields", laid_sheafworks_prof_fields)] }
def ProfWholeSaid : Prop := profWholeRow.holds Tryz.pinned (OpenSpec.ofChange profWholeSpec)

/-- ITS FALSE NEIGHBOUR: 'it returns false'. Refute it at one input. -/
def profWholeWrong : ChangeSpec := { name := "profWhole", fn := fun _ => fun
  | [d1, d2] => { results := [.lit (.bool false)], args := [d1, d2] }
  | _ => none }
def ProfWholeWrongFalsely : Prop := profWholeRow.holds Tryz.pinned (OpenSpec.ofChange profWholeWrong)

/- THE SECOND FORM. 'bulk': how many values and letters a reading holds, each counted each time it is reached (what is shared counts as often as it is met; a slice's spare places count too). A statement '..UptoSaid' is the law's where the arguments, and the package variables that the reading takes, are together of bulk at most 1048576: NARROWER than '..Said'. Prove '..Said' where nothing that the law and all that it calls make is longer than what came in: it says more and counts as full. Else prove '..UptoSaid'. A law counts once. -/
mutual
def uptoBulk {H : Type} : DataW H → Nat
  | .lit (.string bytes) => bytes.length + 1
  | .lit _ => 1
  | .nil => 1
  | .ptr d => uptoBulk d + 1
  | .slice elems spare => uptoBulkAll elems + uptoBulkAll spare + 1
  | .agg parts => uptoBulkAll parts + 1
  | .iface _ d => uptoBulk d + 1
  | .map entries => uptoBulkEntries entries + 1
  | .held _ => 1
def uptoBulkAll {H : Type} : List (DataW H) → Nat
  | [] => 0
  | d :: r => uptoBulk d + uptoBulkAll r
def uptoBulkEntries {H : Type} : List (Lit × DataW H) → Nat
  | [] => 0
  | x :: r => uptoBulkEntry x + uptoBulkEntries r
def uptoBulkEntry {H : Type} : Lit × DataW H → Nat
  | (.string bytes, d) => bytes.length + uptoBulk d + 1
  | (_, d) => uptoBulk d + 1
 end
def uptoSmall : (H : Type) → List (DataW H) → Bool := fun _ ds => decide (uptoBulkAll ds ≤ 1048576)
def OpenSpec.upto (s : _root_.Go.ChangeSpec) : _root_.Go.OpenSpec := { _root_.Go.OpenSpec.ofChange s with cond := some uptoSmall }

/-- 'sheafworkslaw31.ProfCosts', WHERE WHAT IT READS IS OF BULK AT MOST 1048576: true; the input reads as it did. -/
def profCostsUptoRow : OpenClaim := { program := "ytdkcjeaabbkdeaagreatdoor", sum := "e06eddace776b5452c7ab326f671020a3380fea0c55f7e582ba106c0f56ac8c5", func := "sheafworks/sheafworkslaw31.ProfCosts", spec := "profCosts", inPlace := ["internal/abi.NoEscape"], unfollowed := true, recurses := true, named := ["sheafworks/word.deeds", "sheafworks/word.neutrals", "sheafworks/word.laws", "sheafworks/prof.nobody", "internal/strconv.uint64pow10", "math/bits.deBruijn32tab", "math/bits.deBruijn64tab", "sheafworks/prof.fields", "strconv.ErrSyntax", "strconv.ErrRange"], plainKeys := false, apart := false, laid := [("math/bits.deBruijn32tab", laid_math_bits_deBruijn32tab), ("math/bits.deBruijn64tab", laid_math_bits_deBruijn64tab), ("internal/strconv.uint64pow10", laid_internal_strconv_uint64pow10), ("strconv.ErrRange", laid_strconv_ErrRange), ("strconv.ErrSyntax", laid_strconv_ErrSyntax), ("sheafworks/word.deeds", laid_sheafworks_word_deeds), ("sheafworks/word.laws", laid_sheafworks_word_laws), ("sheafworks/word.neutrals", laid_sheafworks_word_neutrals), ("sheafworks/prof.nobody", laid_sheafworks_prof_nobody), ("sheafworks/prof.fields", laid_sheafworks_prof_fields)], narrowed := true }
def ProfCostsUptoSaid : Prop := profCostsUptoRow.holds Tryz.pinned (OpenSpec.upto profCostsSpec)

/-- 'sheafworkslaw31.ProfTops', WHERE WHAT IT READS IS OF BULK AT MOST 1048576: true; the input reads as it did. -/
def profTopsUptoRow : OpenClaim := { program := "ytdkcjeaabbkdeaagreatdoor", sum := "e06eddace776b5452c7ab326f671020a3380fea0c55f7e582ba106c0f56ac8c5", func := "sheafworks/sheafworkslaw31.ProfTops", spec := "profTops", inPlace := ["internal/abi.NoEscape"], unfollowed := true, recurses := true, named := ["sheafworks/word.deeds", "sheafworks/word.neutrals", "sheafworks/word.laws", "sheafworks/prof.nobody", "internal/strconv.uint64pow10", "math/bits.deBruijn32tab", "math/bits.deBruijn64tab", "sheafworks/prof.fields", "strconv.ErrSyntax", "strconv.ErrRange"], plainKeys := false, apart := false, laid := [("math/bits.deBruijn32tab", laid_math_bits_deBruijn32tab), ("math/bits.deBruijn64tab", laid_math_bits_deBruijn64tab), ("internal/strconv.uint64pow10", laid_internal_strconv_uint64pow10), ("strconv.ErrRange", laid_strconv_ErrRange), ("strconv.ErrSyntax", laid_strconv_ErrSyntax), ("sheafworks/word.deeds", laid_sheafworks_word_deeds), ("sheafworks/word.laws", laid_sheafworks_word_laws), ("sheafworks/word.neutrals", laid_sheafworks_word_neutrals), ("sheafworks/prof.nobody", laid_sheafworks_prof_nobody), ("sheafworks/prof.fields", laid_sheafworks_prof_fields)], narrowed := true }
def ProfTopsUptoSaid : Prop := profTopsUptoRow.holds Tryz.pinned (OpenSpec.upto profTopsSpec)

/-- 'sheafworkslaw31.ProfLines', WHERE WHAT IT READS IS OF BULK AT MOST 1048576: true; the input reads as it did. -/
def profLinesUptoRow : OpenClaim := { program := "ytdkcjeaabbkdeaagreatdoor", sum := "e06eddace776b5452c7ab326f671020a3380fea0c55f7e582ba106c0f56ac8c5", func := "sheafworks/sheafworkslaw31.ProfLines", spec := "profLines", inPlace := ["internal/abi.NoEscape"], unfollowed := true, recurses := true, named := ["sheafworks/word.deeds", "sheafworks/word.neutrals", "sheafworks/word.laws", "sheafworks/prof.nobody", "internal/strconv.uint64pow10", "math/bits.deBruijn32tab", "math/bits.deBruijn64tab", "sheafworks/prof.fields", "strconv.ErrSyntax", "strconv.ErrRange"], plainKeys := false, apart := false, laid := [("math/bits.deBruijn32tab", laid_math_bits_deBruijn32tab), ("math/bits.deBruijn64tab", laid_math_bits_deBruijn64tab), ("internal/strconv.uint64pow10", laid_internal_strconv_uint64pow10), ("strconv.ErrRange", laid_strconv_ErrRange), ("strconv.ErrSyntax", laid_strconv_ErrSyntax), ("sheafworks/word.deeds", laid_sheafworks_word_deeds), ("sheafworks/word.laws", laid_sheafworks_word_laws), ("sheafworks/word.neutrals", laid_sheafworks_word_neutrals), ("sheafworks/prof.nobody", laid_sheafworks_prof_nobody), ("sheafworks/prof.fields", laid_sheafworks_prof_fields)], narrowed := true }
def ProfLinesUptoSaid : Prop := profLinesUptoRow.holds Tryz.pinned (OpenSpec.upto profLinesSpec)

/-- 'sheafworkslaw31.ProfStacks', WHERE WHAT IT READS IS OF BULK AT MOST 1048576: true; the input reads as it did. -/
def profStacksUptoRow : OpenClaim := { program := "ytdkcjeaabbkdeaagreatdoor", sum := "e06eddace776b5452c7ab326f671020a3380fea0c55f7e582ba106c0f56ac8c5", func := "sheafworks/sheafworkslaw31.ProfStacks", spec := "profStacks", inPlace := ["internal/abi.NoEscape"], unfollowed := true, recurses := true, named := ["sheafworks/prof.nobody", "sheafworks/word.deeds", "sheafworks/word.neutrals", "sheafworks/word.laws", "internal/strconv.uint64pow10", "math/bits.deBruijn32tab", "math/bits.deBruijn64tab", "sheafworks/prof.fields", "strconv.ErrSyntax", "strconv.ErrRange"], plainKeys := false, apart := false, laid := [("math/bits.deBruijn32tab", laid_math_bits_deBruijn32tab), ("math/bits.deBruijn64tab", laid_math_bits_deBruijn64tab), ("internal/strconv.uint64pow10", laid_internal_strconv_uint64pow10), ("strconv.ErrRange", laid_strconv_ErrRange), ("strconv.ErrSyntax", laid_strconv_ErrSyntax), ("sheafworks/word.deeds", laid_sheafworks_word_deeds), ("sheafworks/word.laws", laid_sheafworks_word_laws), ("sheafworks/word.neutrals", laid_sheafworks_word_neutrals), ("sheafworks/prof.nobody", laid_sheafworks_prof_nobody), ("sheafworks/prof.fields", laid_sheafworks_prof_fields)], narrowed := true }
def ProfStacksUptoSaid : Prop := profStacksUptoRow.holds Tryz.pinned (OpenSpec.upto profStacksSpec)

/-- 'sheafworkslaw31.ProfLanes', WHERE WHAT IT READS IS OF BULK AT MOST 1048576: true; the input reads as it did. -/
def profLanesUptoRow : OpenClaim := { program := "ytdkcjeaabbkdeaagreatdoor", sum := "e06eddace776b5452c7ab326f671020a3380fea0c55f7e582ba106c0f56ac8c5", func := "sheafworks/sheafworkslaw31.ProfLanes", spec := "profLanes", inPlace := ["internal/abi.NoEscape"], unfollowed := true, recurses := true, named := ["sheafworks/word.deeds", "sheafworks/word.neutrals", "sheafworks/word.laws", "sheafworks/prof.nobody", "internal/strconv.uint64pow10", "math/bits.deBruijn32tab", "math/bits.deBruijn64tab", "sheafworks/prof.fields", "strconv.ErrSyntax", "strconv.ErrRange"], plainKeys := false, apart := false, laid := [("math/bits.deBruijn32tab", laid_math_bits_deBruijn32tab), ("math/bits.deBruijn64tab", laid_math_bits_deBruijn64tab), ("internal/strconv.uint64pow10", laid_internal_strconv_uint64pow10), ("strconv.ErrRange", laid_strconv_ErrRange), ("strconv.ErrSyntax", laid_strconv_ErrSyntax), ("sheafworks/word.deeds", laid_sheafworks_word_deeds), ("sheafworks/word.laws", laid_sheafworks_word_laws), ("sheafworks/word.neutrals", laid_sheafworks_word_neutrals), ("sheafworks/prof.nobody", laid_sheafworks_prof_nobody), ("sheafworks/prof.fields", laid_sheafworks_prof_fields)], narrowed := true }
def ProfLanesUptoSaid : Prop := profLanesUptoRow.holds Tryz.pinned (OpenSpec.upto profLanesSpec)

/-- 'sheafworkslaw31.ProfBack', WHERE WHAT IT READS IS OF BULK AT MOST 1048576: true; the input reads as it did. -/
def profBackUptoRow : OpenClaim := { program := "ytdkcjeaabbkdeaagreatdoor", sum := "e06eddace776b5452c7ab326f671020a3380fea0c55f7e582ba106c0f56ac8c5", func := "sheafworks/sheafworkslaw31.ProfBack", spec := "profBack", inPlace := ["internal/abi.NoEscape"], unfollowed := true, recurses := true, named := ["sheafworks/prof.nobody", "sheafworks/word.deeds", "sheafworks/word.neutrals", "sheafworks/word.laws", "internal/strconv.uint64pow10", "math/bits.deBruijn32tab", "math/bits.deBruijn64tab", "sheafworks/prof.fields", "strconv.ErrSyntax", "strconv.ErrRange"], plainKeys := false, apart := false, laid := [("math/bits.deBruijn32tab", laid_math_bits_deBruijn32tab), ("math/bits.deBruijn64tab", laid_math_bits_deBruijn64tab), ("internal/strconv.uint64pow10", laid_internal_strconv_uint64pow10), ("strconv.ErrRange", laid_strconv_ErrRange), ("strconv.ErrSyntax", laid_strconv_ErrSyntax), ("sheafworks/word.deeds", laid_sheafworks_word_deeds), ("sheafworks/word.laws", laid_sheafworks_word_laws), ("sheafworks/word.neutrals", laid_sheafworks_word_neutrals), ("sheafworks/prof.nobody", laid_sheafworks_prof_nobody), ("sheafworks/prof.fields", laid_sheafworks_prof_fields)], narrowed := true }
def ProfBackUptoSaid : Prop := profBackUptoRow.holds Tryz.pinned (OpenSpec.upto profBackSpec)

/-- 'sheafworkslaw31.ProfDiffs', WHERE WHAT IT READS IS OF BULK AT MOST 1048576: true; the input reads as it did. -/
def profDiffsUptoRow : OpenClaim := { program := "ytdkcjeaabbkdeaagreatdoor", sum := "e06eddace776b5452c7ab326f671020a3380fea0c55f7e582ba106c0f56ac8c5", func := "sheafworks/sheafworkslaw31.ProfDiffs", spec := "profDiffs", inPlace := ["internal/abi.NoEscape"], unfollowed := true, recurses := true, named := ["sheafworks/prof.fields", "sheafworks/word.deeds", "sheafworks/word.neutrals", "sheafworks/word.laws", "sheafworks/prof.nobody", "internal/strconv.uint64pow10", "math/bits.deBruijn32tab", "math/bits.deBruijn64tab", "strconv.ErrSyntax", "strconv.ErrRange"], plainKeys := false, apart := false, laid := [("math/bits.deBruijn32tab", laid_math_bits_deBruijn32tab), ("math/bits.deBruijn64tab", laid_math_bits_deBruijn64tab), ("internal/strconv.uint64pow10", laid_internal_strconv_uint64pow10), ("strconv.ErrRange", laid_strconv_ErrRange), ("strconv.ErrSyntax", laid_strconv_ErrSyntax), ("sheafworks/word.deeds", laid_sheafworks_word_deeds), ("sheafworks/word.laws", laid_sheafworks_word_laws), ("sheafworks/word.neutrals", laid_sheafworks_word_neutrals), ("sheafworks/prof.nobody", laid_sheafworks_prof_nobody), ("sheafworks/prof.fields", laid_sheafworks_prof_fields)], narrowed := true }
def ProfDiffsUptoSaid : Prop := profDiffsUptoRow.holds Tryz.pinned (OpenSpec.upto profDiffsSpec)

/-- 'sheafworkslaw31.ProfKnown', WHERE WHAT IT READS IS OF BULK AT MOST 1048576: true; the input reads as it did. -/
def profKnownUptoRow : OpenClaim := { program := "ytdkcjeaabbkdeaagreatdoor", sum := "e06eddace776b5452c7ab326f671020a3380fea0c55f7e582ba106c0f56ac8c5", func := "sheafworks/sheafworkslaw31.ProfKnown", spec := "profKnown", inPlace := ["internal/abi.NoEscape"], unfollowed := true, recurses := true, named := ["sheafworks/word.deeds", "sheafworks/word.neutrals", "sheafworks/word.laws", "sheafworks/prof.nobody", "internal/strconv.uint64pow10", "math/bits.deBruijn32tab", "math/bits.deBruijn64tab", "sheafworks/prof.fields", "strconv.ErrSyntax", "strconv.ErrRange"], plainKeys := false, apart := false, laid := [("math/bits.deBruijn32tab", laid_math_bits_deBruijn32tab), ("math/bits.deBruijn64tab", laid_math_bits_deBruijn64tab), ("internal/strconv.uint64pow10", laid_internal_strconv_uint64pow10), ("strconv.ErrRange", laid_strconv_ErrRange), ("strconv.ErrSyntax", laid_strconv_ErrSyntax), ("sheafworks/word.deeds", laid_sheafworks_word_deeds), ("sheafworks/word.laws", laid_sheafworks_word_laws), ("sheafworks/word.neutrals", laid_sheafworks_word_neutrals), ("sheafworks/prof.nobody", laid_sheafworks_prof_nobody), ("sheafworks/prof.fields", laid_sheafworks_prof_fields)], narrowed := true }
def ProfKnownUptoSaid : Prop := profKnownUptoRow.holds Tryz.pinned (OpenSpec.upto profKnownSpec)

/-- 'sheafworkslaw31.ProfWhole', WHERE WHAT IT READS IS OF BULK AT MOST 1048576: true; the input reads as it did. -/
def profWholeUptoRow : OpenClaim := { program := "ytdkcjeaabbkdeaagreatdoor", sum := "e06eddace776b5452c7ab326f671020a3380fea0c55f7e582ba106c0f56ac8c5", func := "sheafworks/sheafworkslaw31.ProfWhole", spec := "profWhole", inPlace := ["internal/abi.NoEscape"], unfollowed := true, recurses := true, named := ["sheafworks/word.deeds", "sheafworks/word.neutrals", "sheafworks/word.laws", "sheafworks/prof.nobody", "internal/strconv.uint64pow10", "math/bits.deBruijn32tab", "math/bits.deBruijn64tab", "sheafworks/prof.fields", "strconv.ErrSyntax", "strconv.ErrRange"], plainKeys := false, apart := false, laid := [("math/bits.deBruijn32tab", laid_math_bits_deBruijn32tab), ("math/bits.deBruijn64tab", laid_math_bits_deBruijn64tab), ("internal/strconv.uint64pow10", laid_internal_strconv_uint64pow10), ("strconv.ErrRange", laid_strconv_ErrRange), ("strconv.ErrSyntax", laid_strconv_ErrSyntax), ("sheafworks/word.deeds", laid_sheafworks_word_deeds), ("sheafworks/word.laws", laid_sheafworks_word_laws), ("sheafworks/word.neutrals", laid_sheafworks_word_neutrals), ("sheafworks/prof.nobody", laid_sheafworks_prof_nobody), ("sheafworks/prof.fields", laid_sheafworks_prof_fields)], narrowed := true }
def ProfWholeUptoSaid : Prop := profWholeUptoRow.holds Tryz.pinned (OpenSpec.upto profWholeSpec)

end Rows
end Go.Proofs.YtdkcjeaabbkdeaaGreatDoor
