/-
  NARROWER THAN 'FOR EVERY INPUT', by the rows' own cells (each row's printed sentence says how): RelateOfNothing: laid · RelateSelf: loops, laid · RelateUnions: loops, laid · RelateArrays: loops, laid · RelateObjects: loops, laid · RelateFuncs: loops, laid · NarrowTwice: loops, laid · RelateAnswers: loops, laid · RelatePairs: loops, laid · NarrowParts: loops, laid · NarrowKeeps: loops, laid · NarrowOfNothing: laid · NarrowAssigned: loops, laid.
  DERIVED. THE GIVEN ROWS OF THIS SEAT. 13 by the template 'for every input the law returns true; each argument reads behind the call as it read before'; 0 by the template 'total and deterministic' (their statements: YtiaepldmgighbaaGreatDoorTotals.lean).
  GIVEN WITH THE SEED: the statements are not yours to turn. If you find one false, say at which input.
  Laid BY PROGRAM, IN A SANDBOX (cutbox-rows.mjs): the forced cells as the released guide's own fill.sh prints them over the translation ac7e9af0f090f6ef… (all of the seat's roots in one cut). By AI agents, Wed Nov 11 2026. No macro, syntax, notation, axiom, sorry.
-/
import Derived.Test.YtiaepldmgighbaaGreatDoorChecked
import GoSem.Claim
import GoSem.ClaimJoined
import GoSem.ClaimMapViews
import Derived.JoinedTies
import Derived.KernelRfl
namespace Go.Proofs.YtiaepldmgighbaaGreatDoor
/- THE CELL 'sum', in the pinned program and in every row, IS THE sha256 OF THE DUMP (.gsa) THAT YtiaepldmgighbaaGreatDoorProg.lean LOADS. Nothing in Lean hashes anything: it is a label: what it is worth is what the hold of that sum in a sandbox is worth. -/
noncomputable def Tryz.pinned : Pinned := { name := "ytiaepldmgighbaagreatdoor", sum := "ac7e9af0f090f6ef10c19bc7e36fd76ca072f85e056597945cbecf84cd26f533", checked := Tryz.checked }
namespace Rows
def none {H : Type} : Left H := { results := [], args := [] }

/- WHAT THE LISTED PACKAGE-LEVEL VARIABLES READ AS WHEN THE CALL BEGINS. Each datum BY PROGRAM (the guide's laid-datum.mjs) off the statement by which the dump's own 'gosem.cut.vars' lays the variable. In a bare row this is a premise. The card (YtiaepldmgighbaaGreatDoorCards.lean) ties it to the program's text. -/
def laid_math_bits_deBruijn32tab {H : Type} : DataW H := .agg [.lit (.int .u8 0), .lit (.int .u8 1), .lit (.int .u8 28), .lit (.int .u8 2), .lit (.int .u8 29), .lit (.int .u8 14), .lit (.int .u8 24), .lit (.int .u8 3), .lit (.int .u8 30), .lit (.int .u8 22), .lit (.int .u8 20), .lit (.int .u8 15), .lit (.int .u8 25), .lit (.int .u8 17), .lit (.int .u8 4), .lit (.int .u8 8), .lit (.int .u8 31), .lit (.int .u8 27), .lit (.int .u8 13), .lit (.int .u8 23), .lit (.int .u8 21), .lit (.int .u8 19), .lit (.int .u8 16), .lit (.int .u8 7), .lit (.int .u8 26), .lit (.int .u8 12), .lit (.int .u8 18), .lit (.int .u8 6), .lit (.int .u8 11), .lit (.int .u8 5), .lit (.int .u8 10), .lit (.int .u8 9)]
def laid_math_bits_deBruijn64tab {H : Type} : DataW H := .agg [.lit (.int .u8 0), .lit (.int .u8 1), .lit (.int .u8 56), .lit (.int .u8 2), .lit (.int .u8 57), .lit (.int .u8 49), .lit (.int .u8 28), .lit (.int .u8 3), .lit (.int .u8 61), .lit (.int .u8 58), .lit (.int .u8 42), .lit (.int .u8 50), .lit (.int .u8 38), .lit (.int .u8 29), .lit (.int .u8 17), .lit (.int .u8 4), .lit (.int .u8 62), .lit (.int .u8 47), .lit (.int .u8 59), .lit (.int .u8 36), .lit (.int .u8 45), .lit (.int .u8 43), .lit (.int .u8 51), .lit (.int .u8 22), .lit (.int .u8 53), .lit (.int .u8 39), .lit (.int .u8 33), .lit (.int .u8 30), .lit (.int .u8 24), .lit (.int .u8 18), .lit (.int .u8 12), .lit (.int .u8 5), .lit (.int .u8 63), .lit (.int .u8 55), .lit (.int .u8 48), .lit (.int .u8 27), .lit (.int .u8 60), .lit (.int .u8 41), .lit (.int .u8 37), .lit (.int .u8 16), .lit (.int .u8 46), .lit (.int .u8 35), .lit (.int .u8 44), .lit (.int .u8 21), .lit (.int .u8 52), .lit (.int .u8 32), .lit (.int .u8 23), .lit (.int .u8 11), .lit (.int .u8 54), .lit (.int .u8 26), .lit (.int .u8 40), .lit (.int .u8 15), .lit (.int .u8 34), .lit (.int .u8 20), .lit (.int .u8 31), .lit (.int .u8 10), .lit (.int .u8 25), .lit (.int .u8 14), .lit (.int .u8 19), .lit (.int .u8 9), .lit (.int .u8 13), .lit (.int .u8 8), .lit (.int .u8 7), .lit (.int .u8 6)]
def laid_internal_strconv_uint64pow10 {H : Type} : DataW H := .agg [.lit (.int .u64 1), .lit (.int .u64 10), .lit (.int .u64 100), .lit (.int .u64 1000), .lit (.int .u64 10000), .lit (.int .u64 100000), .lit (.int .u64 1000000), .lit (.int .u64 10000000), .lit (.int .u64 100000000), .lit (.int .u64 1000000000), .lit (.int .u64 10000000000), .lit (.int .u64 100000000000), .lit (.int .u64 1000000000000), .lit (.int .u64 10000000000000), .lit (.int .u64 100000000000000), .lit (.int .u64 1000000000000000), .lit (.int .u64 10000000000000000), .lit (.int .u64 100000000000000000), .lit (.int .u64 1000000000000000000), .lit (.int .u64 10000000000000000000)]

/-- 'shucklaw9.RelateOfNothing': WHATEVER THE INPUT: true; the input reads as it did. -/
def relateOfNothingSpec : ChangeSpec := { name := "relateOfNothing", fn := fun _ => fun
  | [d1, d2] => { results := [.lit (.bool true)], args := [d1, d2] }
  | _ => none }
def relateOfNothingRow : OpenClaim := { program := "ytiaepldmgighbaagreatdoor", sum := "ac7e9af0f090f6ef10c19bc7e36fd76ca072f85e056597945cbecf84cd26f533", func := "shuck/shucklaw9.RelateOfNothing", spec := "relateOfNothing", inPlace := ["internal/abi.NoEscape", "internal/bytealg.MakeNoZero", "internal/bytealg.IndexByteString", "internal/bytealg.IndexString"], unfollowed := true, recurses := true, named := ["internal/strconv.uint64pow10", "math/bits.deBruijn32tab", "math/bits.deBruijn64tab", "internal/bytealg.MaxLen"], plainKeys := false, apart := false, laid := [("math/bits.deBruijn32tab", laid_math_bits_deBruijn32tab), ("math/bits.deBruijn64tab", laid_math_bits_deBruijn64tab), ("internal/strconv.uint64pow10", laid_internal_strconv_uint64pow10)] }
def RelateOfNothingSaid : Prop := relateOfNothingRow.holds Tryz.pinned (OpenSpec.ofChange relateOfNothingSpec)

/-- ITS FALSE NEIGHBOUR: 'it returns false'. Refute it at one input. -/
def relateOfNothingWrong : ChangeSpec := { name := "relateOfNothing", fn := fun _ => fun
  | [d1, d2] => { results := [.lit (.bool false)], args := [d1, d2] }
  | _ => none }
def RelateOfNothingWrongFalsely : Prop := relateOfNothingRow.holds Tryz.pinned (OpenSpec.ofChange relateOfNothingWrong)

/-- 'shucklaw9.RelateSelf': WHATEVER THE INPUT: true; the input reads as it did. -/
def relateSelfSpec : ChangeSpec := { name := "relateSelf", fn := fun _ => fun
  | [d1, d2, d3] => { results := [.lit (.bool true)], args := [d1, d2, d3] }
  | _ => none }
def relateSelfRow : OpenClaim := { program := "ytiaepldmgighbaagreatdoor", sum := "ac7e9af0f090f6ef10c19bc7e36fd76ca072f85e056597945cbecf84cd26f533", func := "shuck/shucklaw9.RelateSelf", spec := "relateSelf", inPlace := ["internal/abi.NoEscape", "internal/bytealg.MakeNoZero", "internal/bytealg.IndexByteString", "internal/bytealg.IndexString"], unfollowed := true, recurses := true, named := ["internal/strconv.uint64pow10", "math/bits.deBruijn32tab", "math/bits.deBruijn64tab", "internal/bytealg.MaxLen"], loops := true, plainKeys := false, apart := false, laid := [("math/bits.deBruijn32tab", laid_math_bits_deBruijn32tab), ("math/bits.deBruijn64tab", laid_math_bits_deBruijn64tab), ("internal/strconv.uint64pow10", laid_internal_strconv_uint64pow10)] }
def RelateSelfSaid : Prop := relateSelfRow.holds Tryz.pinned (OpenSpec.ofChange relateSelfSpec)

/-- ITS FALSE NEIGHBOUR: 'it returns false'. Refute it at one input. -/
def relateSelfWrong : ChangeSpec := { name := "relateSelf", fn := fun _ => fun
  | [d1, d2, d3] => { results := [.lit (.bool false)], args := [d1, d2, d3] }
  | _ => none }
def RelateSelfWrongFalsely : Prop := relateSelfRow.holds Tryz.pinned (OpenSpec.ofChange relateSelfWrong)

/-- 'shucklaw9.RelateUnions': WHATEVER THE INPUT: true; the input reads as it did. -/
def relateUnionsSpec : ChangeSpec := { name := "relateUnions", fn := fun _ => fun
  | [d1, d2, d3] => { results := [.lit (.bool true)], args := [d1, d2, d3] }
  | _ => none }
def relateUnionsRow : OpenClaim := { program := "ytiaepldmgighbaagreatdoor", sum := "ac7e9af0f090f6ef10c19bc7e36fd76ca072f85e056597945cbecf84cd26f533", func := "shuck/shucklaw9.RelateUnions", spec := "relateUnions", inPlace := ["internal/abi.NoEscape", "internal/bytealg.MakeNoZero", "internal/bytealg.IndexByteString", "internal/bytealg.IndexString"], unfollowed := true, recurses := true, named := ["internal/strconv.uint64pow10", "math/bits.deBruijn32tab", "math/bits.deBruijn64tab", "internal/bytealg.MaxLen"], loops := true, plainKeys := false, apart := false, laid := [("math/bits.deBruijn32tab", laid_math_bits_deBruijn32tab), ("math/bits.deBruijn64tab", laid_math_bits_deBruijn64tab), ("internal/strconv.uint64pow10", laid_internal_strconv_uint64pow10)] }
def RelateUnionsSaid : Prop := relateUnionsRow.holds Tryz.pinned (OpenSpec.ofChange relateUnionsSpec)

/-- ITS FALSE NEIGHBOUR: 'it returns false'. Refute it at one input. -/
def relateUnionsWrong : ChangeSpec := { name := "relateUnions", fn := fun _ => fun
  | [d1, d2, d3] => { results := [.lit (.bool false)], args := [d1, d2, d3] }
  | _ => none }
def RelateUnionsWrongFalsely : Prop := relateUnionsRow.holds Tryz.pinned (OpenSpec.ofChange relateUnionsWrong)

/-- 'shucklaw9.RelateArrays': WHATEVER THE INPUT: true; the input reads as it did. -/
def relateArraysSpec : ChangeSpec := { name := "relateArrays", fn := fun _ => fun
  | [d1, d2] => { results := [.lit (.bool true)], args := [d1, d2] }
  | _ => none }
def relateArraysRow : OpenClaim := { program := "ytiaepldmgighbaagreatdoor", sum := "ac7e9af0f090f6ef10c19bc7e36fd76ca072f85e056597945cbecf84cd26f533", func := "shuck/shucklaw9.RelateArrays", spec := "relateArrays", inPlace := ["internal/abi.NoEscape", "internal/bytealg.MakeNoZero", "internal/bytealg.IndexByteString", "internal/bytealg.IndexString"], unfollowed := true, recurses := true, named := ["internal/strconv.uint64pow10", "math/bits.deBruijn32tab", "math/bits.deBruijn64tab", "internal/bytealg.MaxLen"], loops := true, plainKeys := false, apart := false, laid := [("math/bits.deBruijn32tab", laid_math_bits_deBruijn32tab), ("math/bits.deBruijn64tab", laid_math_bits_deBruijn64tab), ("internal/strconv.uint64pow10", laid_internal_strconv_uint64pow10)] }
def RelateArraysSaid : Prop := relateArraysRow.holds Tryz.pinned (OpenSpec.ofChange relateArraysSpec)

/-- ITS FALSE NEIGHBOUR: 'it returns false'. Refute it at one input. -/
def relateArraysWrong : ChangeSpec := { name := "relateArrays", fn := fun _ => fun
  | [d1, d2] => { results := [.lit (.bool false)], args := [d1, d2] }
  | _ => none }
def RelateArraysWrongFalsely : Prop := relateArraysRow.holds Tryz.pinned (OpenSpec.ofChange relateArraysWrong)

/-- 'shucklaw9.RelateObjects': WHATEVER THE INPUT: true; the input reads as it did. -/
def relateObjectsSpec : ChangeSpec := { name := "relateObjects", fn := fun _ => fun
  | [d1, d2, d3] => { results := [.lit (.bool true)], args := [d1, d2, d3] }
  | _ => none }
def relateObjectsRow : OpenClaim := { program := "ytiaepldmgighbaagreatdoor", sum := "ac7e9af0f090f6ef10c19bc7e36fd76ca072f85e056597945cbecf84cd26f533", func := "shuck/shucklaw9.RelateObjects", spec := "relateObjects", inPlace := ["internal/abi.NoEscape", "internal/bytealg.MakeNoZero", "internal/bytealg.IndexByteString", "internal/bytealg.IndexString"], unfollowed := true, recurses := true, named := ["internal/strconv.uint64pow10", "math/bits.deBruijn32tab", "math/bits.deBruijn64tab", "internal/bytealg.MaxLen"], loops := true, plainKeys := false, apart := false, laid := [("math/bits.deBruijn32tab", laid_math_bits_deBruijn32tab), ("math/bits.deBruijn64tab", laid_math_bits_deBruijn64tab), ("internal/strconv.uint64pow10", laid_internal_strconv_uint64pow10)] }
def RelateObjectsSaid : Prop := relateObjectsRow.holds Tryz.pinned (OpenSpec.ofChange relateObjectsSpec)

/-- ITS FALSE NEIGHBOUR: 'it returns false'. Refute it at one input. -/
def relateObjectsWrong : ChangeSpec := { name := "relateObjects", fn := fun _ => fun
  | [d1, d2, d3] => { results := [.lit (.bool false)], args := [d1, d2, d3] }
  | _ => none }
def RelateObjectsWrongFalsely : Prop := relateObjectsRow.holds Tryz.pinned (OpenSpec.ofChange relateObjectsWrong)

/-- 'shucklaw9.RelateFuncs': WHATEVER THE INPUT: true; the input reads as it did. -/
def relateFuncsSpec : ChangeSpec := { name := "relateFuncs", fn := fun _ => fun
  | [d1, d2, d3, d4] => { results := [.lit (.bool true)], args := [d1, d2, d3, d4] }
  | _ => none }
def relateFuncsRow : OpenClaim := { program := "ytiaepldmgighbaagreatdoor", sum := "ac7e9af0f090f6ef10c19bc7e36fd76ca072f85e056597945cbecf84cd26f533", func := "shuck/shucklaw9.RelateFuncs", spec := "relateFuncs", inPlace := ["internal/abi.NoEscape", "internal/bytealg.MakeNoZero", "internal/bytealg.IndexByteString", "internal/bytealg.IndexString"], unfollowed := true, recurses := true, named := ["internal/strconv.uint64pow10", "math/bits.deBruijn32tab", "math/bits.deBruijn64tab", "internal/bytealg.MaxLen"], loops := true, plainKeys := false, apart := false, laid := [("math/bits.deBruijn32tab", laid_math_bits_deBruijn32tab), ("math/bits.deBruijn64tab", laid_math_bits_deBruijn64tab), ("internal/strconv.uint64pow10", laid_internal_strconv_uint64pow10)] }
def RelateFuncsSaid : Prop := relateFuncsRow.holds Tryz.pinned (OpenSpec.ofChange relateFuncsSpec)

/-- ITS FALSE NEIGHBOUR: 'it returns false'. Refute it at one input. -/
def relateFuncsWrong : ChangeSpec := { name := "relateFuncs", fn := fun _ => fun
  | [d1, d2, d3, d4] => { results := [.lit (.bool false)], args := [d1, d2, d3, d4] }
  | _ => none }
def RelateFuncsWrongFalsely : Prop := relateFuncsRow.holds Tryz.pinned (OpenSpec.ofChange relateFuncsWrong)

/-- 'shucklaw10.NarrowTwice': WHATEVER THE INPUT: true; the input reads as it did. -/
def narrowTwiceSpec : ChangeSpec := { name := "narrowTwice", fn := fun _ => fun
  | [d1, d2] => { results := [.lit (.bool true)], args := [d1, d2] }
  | _ => none }
def narrowTwiceRow : OpenClaim := { program := "ytiaepldmgighbaagreatdoor", sum := "ac7e9af0f090f6ef10c19bc7e36fd76ca072f85e056597945cbecf84cd26f533", func := "shuck/shucklaw10.NarrowTwice", spec := "narrowTwice", inPlace := ["internal/abi.NoEscape", "internal/bytealg.MakeNoZero", "internal/bytealg.IndexByteString", "internal/bytealg.IndexString"], unfollowed := true, recurses := true, named := ["internal/strconv.uint64pow10", "math/bits.deBruijn32tab", "math/bits.deBruijn64tab", "internal/bytealg.MaxLen"], loops := true, plainKeys := false, apart := false, laid := [("math/bits.deBruijn32tab", laid_math_bits_deBruijn32tab), ("math/bits.deBruijn64tab", laid_math_bits_deBruijn64tab), ("internal/strconv.uint64pow10", laid_internal_strconv_uint64pow10)] }
def NarrowTwiceSaid : Prop := narrowTwiceRow.holds Tryz.pinned (OpenSpec.ofChange narrowTwiceSpec)

/-- ITS FALSE NEIGHBOUR: 'it returns false'. Refute it at one input. -/
def narrowTwiceWrong : ChangeSpec := { name := "narrowTwice", fn := fun _ => fun
  | [d1, d2] => { results := [.lit (.bool false)], args := [d1, d2] }
  | _ => none }
def NarrowTwiceWrongFalsely : Prop := narrowTwiceRow.holds Tryz.pinned (OpenSpec.ofChange narrowTwiceWrong)

/-- 'shucklaw9.RelateAnswers': WHATEVER THE INPUT: true; the input reads as it did. -/
def relateAnswersSpec : ChangeSpec := { name := "relateAnswers", fn := fun _ => fun
  | [d1, d2, d3] => { results := [.lit (.bool true)], args := [d1, d2, d3] }
  | _ => none }
def relateAnswersRow : OpenClaim := { program := "ytiaepldmgighbaagreatdoor", sum := "ac7e9af0f090f6ef10c19bc7e36fd76ca072f85e056597945cbecf84cd26f533", func := "shuck/shucklaw9.RelateAnswers", spec := "relateAnswers", inPlace := ["internal/abi.NoEscape", "internal/bytealg.MakeNoZero", "internal/bytealg.IndexByteString", "internal/bytealg.IndexString"], unfollowed := true, recurses := true, named := ["internal/strconv.uint64pow10", "math/bits.deBruijn32tab", "math/bits.deBruijn64tab", "internal/bytealg.MaxLen"], loops := true, plainKeys := false, apart := false, laid := [("math/bits.deBruijn32tab", laid_math_bits_deBruijn32tab), ("math/bits.deBruijn64tab", laid_math_bits_deBruijn64tab), ("internal/strconv.uint64pow10", laid_internal_strconv_uint64pow10)] }
def RelateAnswersSaid : Prop := relateAnswersRow.holds Tryz.pinned (OpenSpec.ofChange relateAnswersSpec)

/-- ITS FALSE NEIGHBOUR: 'it returns false'. Refute it at one input. -/
def relateAnswersWrong : ChangeSpec := { name := "relateAnswers", fn := fun _ => fun
  | [d1, d2, d3] => { results := [.lit (.bool false)], args := [d1, d2, d3] }
  | _ => none }
def RelateAnswersWrongFalsely : Prop := relateAnswersRow.holds Tryz.pinned (OpenSpec.ofChange relateAnswersWrong)

/-- 'shucklaw9.RelatePairs': WHATEVER THE INPUT: true; the input reads as it did. -/
def relatePairsSpec : ChangeSpec := { name := "relatePairs", fn := fun _ => fun
  | [d1, d2, d3, d4] => { results := [.lit (.bool true)], args := [d1, d2, d3, d4] }
  | _ => none }
def relatePairsRow : OpenClaim := { program := "ytiaepldmgighbaagreatdoor", sum := "ac7e9af0f090f6ef10c19bc7e36fd76ca072f85e056597945cbecf84cd26f533", func := "shuck/shucklaw9.RelatePairs", spec := "relatePairs", inPlace := ["internal/abi.NoEscape", "internal/bytealg.MakeNoZero", "internal/bytealg.IndexByteString", "internal/bytealg.IndexString"], unfollowed := true, recurses := true, named := ["internal/strconv.uint64pow10", "math/bits.deBruijn32tab", "math/bits.deBruijn64tab", "internal/bytealg.MaxLen"], loops := true, plainKeys := false, apart := false, laid := [("math/bits.deBruijn32tab", laid_math_bits_deBruijn32tab), ("math/bits.deBruijn64tab", laid_math_bits_deBruijn64tab), ("internal/strconv.uint64pow10", laid_internal_strconv_uint64pow10)] }
def RelatePairsSaid : Prop := relatePairsRow.holds Tryz.pinned (OpenSpec.ofChange relatePairsSpec)

/-- ITS FALSE NEIGHBOUR: 'it returns false'. Refute it at one input. -/
def relatePairsWrong : ChangeSpec := { name := "relatePairs", fn := fun _ => fun
  | [d1, d2, d3, d4] => { results := [.lit (.bool false)], args := [d1, d2, d3, d4] }
  | _ => none }
def RelatePairsWrongFalsely : Prop := relatePairsRow.holds Tryz.pinned (OpenSpec.ofChange relatePairsWrong)

/-- 'shucklaw10.NarrowParts': WHATEVER THE INPUT: true; the input reads as it did. -/
def narrowPartsSpec : ChangeSpec := { name := "narrowParts", fn := fun _ => fun
  | [d1, d2, d3, d4] => { results := [.lit (.bool true)], args := [d1, d2, d3, d4] }
  | _ => none }
def narrowPartsRow : OpenClaim := { program := "ytiaepldmgighbaagreatdoor", sum := "ac7e9af0f090f6ef10c19bc7e36fd76ca072f85e056597945cbecf84cd26f533", func := "shuck/shucklaw10.NarrowParts", spec := "narrowParts", inPlace := ["internal/abi.NoEscape", "internal/bytealg.MakeNoZero", "internal/bytealg.IndexByteString", "internal/bytealg.IndexString"], unfollowed := true, recurses := true, named := ["internal/strconv.uint64pow10", "math/bits.deBruijn32tab", "math/bits.deBruijn64tab", "internal/bytealg.MaxLen"], loops := true, plainKeys := false, apart := false, laid := [("math/bits.deBruijn32tab", laid_math_bits_deBruijn32tab), ("math/bits.deBruijn64tab", laid_math_bits_deBruijn64tab), ("internal/strconv.uint64pow10", laid_internal_strconv_uint64pow10)] }
def NarrowPartsSaid : Prop := narrowPartsRow.holds Tryz.pinned (OpenSpec.ofChange narrowPartsSpec)

/-- ITS FALSE NEIGHBOUR: 'it returns false'. Refute it at one input. -/
def narrowPartsWrong : ChangeSpec := { name := "narrowParts", fn := fun _ => fun
  | [d1, d2, d3, d4] => { results := [.lit (.bool false)], args := [d1, d2, d3, d4] }
  | _ => none }
def NarrowPartsWrongFalsely : Prop := narrowPartsRow.holds Tryz.pinned (OpenSpec.ofChange narrowPartsWrong)

/-- 'shucklaw10.NarrowKeeps': WHATEVER THE INPUT: true; the input reads as it did. -/
def narrowKeepsSpec : ChangeSpec := { name := "narrowKeeps", fn := fun _ => fun
  | [d1, d2, d3, d4, d5] => { results := [.lit (.bool true)], args := [d1, d2, d3, d4, d5] }
  | _ => none }
def narrowKeepsRow : OpenClaim := { program := "ytiaepldmgighbaagreatdoor", sum := "ac7e9af0f090f6ef10c19bc7e36fd76ca072f85e056597945cbecf84cd26f533", func := "shuck/shucklaw10.NarrowKeeps", spec := "narrowKeeps", inPlace := ["internal/abi.NoEscape", "internal/bytealg.MakeNoZero", "internal/bytealg.IndexByteString", "internal/bytealg.IndexString"], unfollowed := true, recurses := true, named := ["internal/strconv.uint64pow10", "math/bits.deBruijn32tab", "math/bits.deBruijn64tab", "internal/bytealg.MaxLen"], loops := true, plainKeys := false, apart := false, laid := [("math/bits.deBruijn32tab", laid_math_bits_deBruijn32tab), ("math/bits.deBruijn64tab", laid_math_bits_deBruijn64tab), ("internal/strconv.uint64pow10", laid_internal_strconv_uint64pow10)] }
def NarrowKeepsSaid : Prop := narrowKeepsRow.holds Tryz.pinned (OpenSpec.ofChange narrowKeepsSpec)

/-- ITS FALSE NEIGHBOUR: 'it returns false'. Refute it at one input. -/
def narrowKeepsWrong : ChangeSpec := { name := "narrowKeeps", fn := fun _ => fun
  | [d1, d2, d3, d4, d5] => { results := [.lit (.bool false)], args := [d1, d2, d3, d4, d5] }
  | _ => none }
def NarrowKeepsWrongFalsely : Prop := narrowKeepsRow.holds Tryz.pinned (OpenSpec.ofChange narrowKeepsWrong)

/-- 'shucklaw10.NarrowOfNothing': WHATEVER THE INPUT: true; the input reads as it did. -/
def narrowOfNothingSpec : ChangeSpec := { name := "narrowOfNothing", fn := fun _ => fun
  | [d1, d2, d3] => { results := [.lit (.bool true)], args := [d1, d2, d3] }
  | _ => none }
def narrowOfNothingRow : OpenClaim := { program := "ytiaepldmgighbaagreatdoor", sum := "ac7e9af0f090f6ef10c19bc7e36fd76ca072f85e056597945cbecf84cd26f533", func := "shuck/shucklaw10.NarrowOfNothing", spec := "narrowOfNothing", inPlace := ["internal/abi.NoEscape", "internal/bytealg.MakeNoZero", "internal/bytealg.IndexByteString", "internal/bytealg.IndexString"], unfollowed := true, recurses := true, named := ["internal/strconv.uint64pow10", "math/bits.deBruijn32tab", "math/bits.deBruijn64tab", "internal/bytealg.MaxLen"], plainKeys := false, apart := false, laid := [("math/bits.deBruijn32tab", laid_math_bits_deBruijn32tab), ("math/bits.deBruijn64tab", laid_math_bits_deBruijn64tab), ("internal/strconv.uint64pow10", laid_internal_strconv_uint64pow10)] }
def NarrowOfNothingSaid : Prop := narrowOfNothingRow.holds Tryz.pinned (OpenSpec.ofChange narrowOfNothingSpec)

/-- ITS FALSE NEIGHBOUR: 'it returns false'. Refute it at one input. -/
def narrowOfNothingWrong : ChangeSpec := { name := "narrowOfNothing", fn := fun _ => fun
  | [d1, d2, d3] => { results := [.lit (.bool false)], args := [d1, d2, d3] }
  | _ => none }
def NarrowOfNothingWrongFalsely : Prop := narrowOfNothingRow.holds Tryz.pinned (OpenSpec.ofChange narrowOfNothingWrong)

/-- 'shucklaw10.NarrowAssigned': WHATEVER THE INPUT: true; the input reads as it did. -/
def narrowAssignedSpec : ChangeSpec := { name := "narrowAssigned", fn := fun _ => fun
  | [d1, d2] => { results := [.lit (.bool true)], args := [d1, d2] }
  | _ => none }
def narrowAssignedRow : OpenClaim := { program := "ytiaepldmgighbaagreatdoor", sum := "ac7e9af0f090f6ef10c19bc7e36fd76ca072f85e056597945cbecf84cd26f533", func := "shuck/shucklaw10.NarrowAssigned", spec := "narrowAssigned", inPlace := ["internal/abi.NoEscape", "internal/bytealg.MakeNoZero", "internal/bytealg.IndexByteString", "internal/bytealg.IndexString"], unfollowed := true, recurses := true, named := ["internal/strconv.uint64pow10", "math/bits.deBruijn32tab", "math/bits.deBruijn64tab", "internal/bytealg.MaxLen"], loops := true, plainKeys := false, apart := false, laid := [("math/bits.deBruijn32tab", laid_math_bits_deBruijn32tab), ("math/bits.deBruijn64tab", laid_math_bits_deBruijn64tab), ("internal/strconv.uint64pow10", laid_internal_strconv_uint64pow10)] }
def NarrowAssignedSaid : Prop := narrowAssignedRow.holds Tryz.pinned (OpenSpec.ofChange narrowAssignedSpec)

/-- ITS FALSE NEIGHBOUR: 'it returns false'. Refute it at one input. -/
def narrowAssignedWrong : ChangeSpec := { name := "narrowAssigned", fn := fun _ => fun
  | [d1, d2] => { results := [.lit (.bool false)], args := [d1, d2] }
  | _ => none }
def NarrowAssignedWrongFalsely : Prop := narrowAssignedRow.holds Tryz.pinned (OpenSpec.ofChange narrowAssignedWrong)

/- THE SECOND FORM. 'bulk': how many values and letters a reading holds, each counted each time it is reached (what is shared counts as often as it is met; a slice's spare places count too). A statement '..UptoSaid' is the law's where the arguments, and the package variables that the reading takes, are together of bulk at most 1048576: NARROWER than '..Said'. Prove '..Said' where nothing that the law and all that it calls make is longer than what came in: it says more and counts as full. Else prove '..UptoSaid'. A law counts once. -/
mutual
def uptoBulk {H : Type} : DataW H → Nat
  | .lit (.string bytes) => bytes.length + 1
  | .lit _ => 1
  | .nil => 1
  | .ptr d => uptoBulk d + 1
  | .slice elems spare => uptoBulkAll elems + uptoBulkAll spare + 1
  | .agg parts => uptoBulkAll parts + 1
  | .iface _ d => uptoBulk d + 1
  | .map entries => uptoBulkEntries entries + 1
  | .held _ => 1
def uptoBulkAll {H : Type} : List (DataW H) → Nat
  | [] => 0
  | d :: r => uptoBulk d + uptoBulkAll r
def uptoBulkEntries {H : Type} : List (Lit × DataW H) → Nat
  | [] => 0
  | x :: r => uptoBulkEntry x + uptoBulkEntries r
def uptoBulkEntry {H : Type} : Lit × DataW H → Nat
  | (.string bytes, d) => bytes.length + uptoBulk d + 1
  | (_, d) => uptoBulk d + 1
 end
def uptoSmall : (H : Type) → List (DataW H) → Bool := fun _ ds => decide (uptoBulkAll ds ≤ 1048576)
def OpenSpec.upto (s : _root_.Go.ChangeSpec) : _root_.Go.OpenSpec := { _root_.Go.OpenSpec.ofChange s with cond := some uptoSmall }

/-- 'shucklaw9.RelateOfNothing', WHERE WHAT IT READS IS OF BULK AT MOST 1048576: true; the input reads as it did. -/
def relateOfNothingUptoRow : OpenClaim := { program := "ytiaepldmgighbaagreatdoor", sum := "ac7e9af0f090f6ef10c19bc7e36fd76ca072f85e056597945cbecf84cd26f533", func := "shuck/shucklaw9.RelateOfNothing", spec := "relateOfNothing", inPlace := ["internal/abi.NoEscape", "internal/bytealg.MakeNoZero", "internal/bytealg.IndexByteString", "internal/bytealg.IndexString"], unfollowed := true, recurses := true, named := ["internal/strconv.uint64pow10", "math/bits.deBruijn32tab", "math/bits.deBruijn64tab", "internal/bytealg.MaxLen"], plainKeys := false, apart := false, laid := [("math/bits.deBruijn32tab", laid_math_bits_deBruijn32tab), ("math/bits.deBruijn64tab", laid_math_bits_deBruijn64tab), ("internal/strconv.uint64pow10", laid_internal_strconv_uint64pow10)], narrowed := true }
def RelateOfNothingUptoSaid : Prop := relateOfNothingUptoRow.holds Tryz.pinned (OpenSpec.upto relateOfNothingSpec)

/-- 'shucklaw9.RelateSelf', WHERE WHAT IT READS IS OF BULK AT MOST 1048576: true; the input reads as it did. -/
def relateSelfUptoRow : OpenClaim := { program := "ytiaepldmgighbaagreatdoor", sum := "ac7e9af0f090f6ef10c19bc7e36fd76ca072f85e056597945cbecf84cd26f533", func := "shuck/shucklaw9.RelateSelf", spec := "relateSelf", inPlace := ["internal/abi.NoEscape", "internal/bytealg.MakeNoZero", "internal/bytealg.IndexByteString", "internal/bytealg.IndexString"], unfollowed := true, recurses := true, named := ["internal/strconv.uint64pow10", "math/bits.deBruijn32tab", "math/bits.deBruijn64tab", "internal/bytealg.MaxLen"], loops := true, plainKeys := false, apart := false, laid := [("math/bits.deBruijn32tab", laid_math_bits_deBruijn32tab), ("math/bits.deBruijn64tab", laid_math_bits_deBruijn64tab), ("internal/strconv.uint64pow10", laid_internal_strconv_uint64pow10)], narrowed := true }
def RelateSelfUptoSaid : Prop := relateSelfUptoRow.holds Tryz.pinned (OpenSpec.upto relateSelfSpec)

/-- 'shucklaw9.RelateUnions', WHERE WHAT IT READS IS OF BULK AT MOST 1048576: true; the input reads as it did. -/
def relateUnionsUptoRow : OpenClaim := { program := "ytiaepldmgighbaagreatdoor", sum := "ac7e9af0f090f6ef10c19bc7e36fd76ca072f85e056597945cbecf84cd26f533", func := "shuck/shucklaw9.RelateUnions", spec := "relateUnions", inPlace := ["internal/abi.NoEscape", "internal/bytealg.MakeNoZero", "internal/bytealg.IndexByteString", "internal/bytealg.IndexString"], unfollowed := true, recurses := true, named := ["internal/strconv.uint64pow10", "math/bits.deBruijn32tab", "math/bits.deBruijn64tab", "internal/bytealg.MaxLen"], loops := true, plainKeys := false, apart := false, laid := [("math/bits.deBruijn32tab", laid_math_bits_deBruijn32tab), ("math/bits.deBruijn64tab", laid_math_bits_deBruijn64tab), ("internal/strconv.uint64pow10", laid_internal_strconv_uint64pow10)], narrowed := true }
def RelateUnionsUptoSaid : Prop := relateUnionsUptoRow.holds Tryz.pinned (OpenSpec.upto relateUnionsSpec)

/-- 'shucklaw9.RelateArrays', WHERE WHAT IT READS IS OF BULK AT MOST 1048576: true; the input reads as it did. -/
def relateArraysUptoRow : OpenClaim := { program := "ytiaepldmgighbaagreatdoor", sum := "ac7e9af0f090f6ef10c19bc7e36fd76ca072f85e056597945cbecf84cd26f533", func := "shuck/shucklaw9.RelateArrays", spec := "relateArrays", inPlace := ["internal/abi.NoEscape", "internal/bytealg.MakeNoZero", "internal/bytealg.IndexByteString", "internal/bytealg.IndexString"], unfollowed := true, recurses := true, named := ["internal/strconv.uint64pow10", "math/bits.deBruijn32tab", "math/bits.deBruijn64tab", "internal/bytealg.MaxLen"], loops := true, plainKeys := false, apart := false, laid := [("math/bits.deBruijn32tab", laid_math_bits_deBruijn32tab), ("math/bits.deBruijn64tab", laid_math_bits_deBruijn64tab), ("internal/strconv.uint64pow10", laid_internal_strconv_uint64pow10)], narrowed := true }
def RelateArraysUptoSaid : Prop := relateArraysUptoRow.holds Tryz.pinned (OpenSpec.upto relateArraysSpec)

/-- 'shucklaw9.RelateObjects', WHERE WHAT IT READS IS OF BULK AT MOST 1048576: true; the input reads as it did. -/
def relateObjectsUptoRow : OpenClaim := { program := "ytiaepldmgighbaagreatdoor", sum := "ac7e9af0f090f6ef10c19bc7e36fd76ca072f85e056597945cbecf84cd26f533", func := "shuck/shucklaw9.RelateObjects", spec := "relateObjects", inPlace := ["internal/abi.NoEscape", "internal/bytealg.MakeNoZero", "internal/bytealg.IndexByteString", "internal/bytealg.IndexString"], unfollowed := true, recurses := true, named := ["internal/strconv.uint64pow10", "math/bits.deBruijn32tab", "math/bits.deBruijn64tab", "internal/bytealg.MaxLen"], loops := true, plainKeys := false, apart := false, laid := [("math/bits.deBruijn32tab", laid_math_bits_deBruijn32tab), ("math/bits.deBruijn64tab", laid_math_bits_deBruijn64tab), ("internal/strconv.uint64pow10", laid_internal_strconv_uint64pow10)], narrowed := true }
def RelateObjectsUptoSaid : Prop := relateObjectsUptoRow.holds Tryz.pinned (OpenSpec.upto relateObjectsSpec)

/-- 'shucklaw9.RelateFuncs', WHERE WHAT IT READS IS OF BULK AT MOST 1048576: true; the input reads as it did. -/
def relateFuncsUptoRow : OpenClaim := { program := "ytiaepldmgighbaagreatdoor", sum := "ac7e9af0f090f6ef10c19bc7e36fd76ca072f85e056597945cbecf84cd26f533", func := "shuck/shucklaw9.RelateFuncs", spec := "relateFuncs", inPlace := ["internal/abi.NoEscape", "internal/bytealg.MakeNoZero", "internal/bytealg.IndexByteString", "internal/bytealg.IndexString"], unfollowed := true, recurses := true, named := ["internal/strconv.uint64pow10", "math/bits.deBruijn32tab", "math/bits.deBruijn64tab", "internal/bytealg.MaxLen"], loops := true, plainKeys := false, apart := false, laid := [("math/bits.deBruijn32tab", laid_math_bits_deBruijn32tab), ("math/bits.deBruijn64tab", laid_math_bits_deBruijn64tab), ("internal/strconv.uint64pow10", laid_internal_strconv_uint64pow10)], narrowed := true }
def RelateFuncsUptoSaid : Prop := relateFuncsUptoRow.holds Tryz.pinned (OpenSpec.upto relateFuncsSpec)

/-- 'shucklaw10.NarrowTwice', WHERE WHAT IT READS IS OF BULK AT MOST 1048576: true; the input reads as it did. -/
def narrowTwiceUptoRow : OpenClaim := { program := "ytiaepldmgighbaagreatdoor", sum := "ac7e9af0f090f6ef10c19bc7e36fd76ca072f85e056597945cbecf84cd26f533", func := "shuck/shucklaw10.NarrowTwice", spec := "narrowTwice", inPlace := ["internal/abi.NoEscape", "internal/bytealg.MakeNoZero", "internal/bytealg.IndexByteString", "internal/bytealg.IndexString"], unfollowed := true, recurses := true, named := ["internal/strconv.uint64pow10", "math/bits.deBruijn32tab", "math/bits.deBruijn64tab", "internal/bytealg.MaxLen"], loops := true, plainKeys := false, apart := false, laid := [("math/bits.deBruijn32tab", laid_math_bits_deBruijn32tab), ("math/bits.deBruijn64tab", laid_math_bits_deBruijn64tab), ("internal/strconv.uint64pow10", laid_internal_strconv_uint64pow10)], narrowed := true }
def NarrowTwiceUptoSaid : Prop := narrowTwiceUptoRow.holds Tryz.pinned (OpenSpec.upto narrowTwiceSpec)

/-- 'shucklaw9.RelateAnswers', WHERE WHAT IT READS IS OF BULK AT MOST 1048576: true; the input reads as it did. -/
def relateAnswersUptoRow : OpenClaim := { program := "ytiaepldmgighbaagreatdoor", sum := "ac7e9af0f090f6ef10c19bc7e36fd76ca072f85e056597945cbecf84cd26f533", func := "shuck/shucklaw9.RelateAnswers", spec := "relateAnswers", inPlace := ["internal/abi.NoEscape", "internal/bytealg.MakeNoZero", "internal/bytealg.IndexByteString", "internal/bytealg.IndexString"], unfollowed := true, recurses := true, named := ["internal/strconv.uint64pow10", "math/bits.deBruijn32tab", "math/bits.deBruijn64tab", "internal/bytealg.MaxLen"], loops := true, plainKeys := false, apart := false, laid := [("math/bits.deBruijn32tab", laid_math_bits_deBruijn32tab), ("math/bits.deBruijn64tab", laid_math_bits_deBruijn64tab), ("internal/strconv.uint64pow10", laid_internal_strconv_uint64pow10)], narrowed := true }
def RelateAnswersUptoSaid : Prop := relateAnswersUptoRow.holds Tryz.pinned (OpenSpec.upto relateAnswersSpec)

/-- 'shucklaw9.RelatePairs', WHERE WHAT IT READS IS OF BULK AT MOST 1048576: true; the input reads as it did. -/
def relatePairsUptoRow : OpenClaim := { program := "ytiaepldmgighbaagreatdoor", sum := "ac7e9af0f090f6ef10c19bc7e36fd76ca072f85e056597945cbecf84cd26f533", func := "shuck/shucklaw9.RelatePairs", spec := "relatePairs", inPlace := ["internal/abi.NoEscape", "internal/bytealg.MakeNoZero", "internal/bytealg.IndexByteString", "internal/bytealg.IndexString"], unfollowed := true, recurses := true, named := ["internal/strconv.uint64pow10", "math/bits.deBruijn32tab", "math/bits.deBruijn64tab", "internal/bytealg.MaxLen"], loops := true, plainKeys := false, apart := false, laid := [("math/bits.deBruijn32tab", laid_math_bits_deBruijn32tab), ("math/bits.deBruijn64tab", laid_math_bits_deBruijn64tab), ("internal/strconv.uint64pow10", laid_internal_strconv_uint64pow10)], narrowed := true }
def RelatePairsUptoSaid : Prop := relatePairsUptoRow.holds Tryz.pinned (OpenSpec.upto relatePairsSpec)

/-- 'shucklaw10.NarrowParts', WHERE WHAT IT READS IS OF BULK AT MOST 1048576: true; the input reads as it did. -/
def narrowPartsUptoRow : OpenClaim := { program := "ytiaepldmgighbaagreatdoor", sum := "ac7e9af0f090f6ef10c19bc7e36fd76ca072f85e056597945cbecf84cd26f533", func := "shuck/shucklaw10.NarrowParts", spec := "narrowParts", inPlace := ["internal/abi.NoEscape", "internal/bytealg.MakeNoZero", "internal/bytealg.IndexByteString", "internal/bytealg.IndexString"], unfollowed := true, recurses := true, named := ["internal/strconv.uint64pow10", "math/bits.deBruijn32tab", "math/bits.deBruijn64tab", "internal/bytealg.MaxLen"], loops := true, plainKeys := false, apart := false, laid := [("math/bits.deBruijn32tab", laid_math_bits_deBruijn32tab), ("math/bits.deBruijn64tab", laid_math_bits_deBruijn64tab), ("internal/strconv.uint64pow10", laid_internal_strconv_uint64pow10)], narrowed := true }
def NarrowPartsUptoSaid : Prop := narrowPartsUptoRow.holds Tryz.pinned (OpenSpec.upto narrowPartsSpec)

/-- 'shucklaw10.NarrowKeeps', WHERE WHAT IT READS IS OF BULK AT MOST 1048576: true; the input reads as it did. -/
def narrowKeepsUptoRow : OpenClaim := { program := "ytiaepldmgighbaagreatdoor", sum := "ac7e9af0f090f6ef10c19bc7e36fd76ca072f85e056597945cbecf84cd26f533", func := "shuck/shucklaw10.NarrowKeeps", spec := "narrowKeeps", inPlace := ["internal/abi.NoEscape", "internal/bytealg.MakeNoZero", "internal/bytealg.IndexByteString", "internal/bytealg.IndexString"], unfollowed := true, recurses := true, named := ["internal/strconv.uint64pow10", "math/bits.deBruijn32tab", "math/bits.deBruijn64tab", "internal/bytealg.MaxLen"], loops := true, plainKeys := false, apart := false, laid := [("math/bits.deBruijn32tab", laid_math_bits_deBruijn32tab), ("math/bits.deBruijn64tab", laid_math_bits_deBruijn64tab), ("internal/strconv.uint64pow10", laid_internal_strconv_uint64pow10)], narrowed := true }
def NarrowKeepsUptoSaid : Prop := narrowKeepsUptoRow.holds Tryz.pinned (OpenSpec.upto narrowKeepsSpec)

/-- 'shucklaw10.NarrowOfNothing', WHERE WHAT IT READS IS OF BULK AT MOST 1048576: true; the input reads as it did. -/
def narrowOfNothingUptoRow : OpenClaim := { program := "ytiaepldmgighbaagreatdoor", sum := "ac7e9af0f090f6ef10c19bc7e36fd76ca072f85e056597945cbecf84cd26f533", func := "shuck/shucklaw10.NarrowOfNothing", spec := "narrowOfNothing", inPlace := ["internal/abi.NoEscape", "internal/bytealg.MakeNoZero", "internal/bytealg.IndexByteString", "internal/bytealg.IndexString"], unfollowed := true, recurses := true, named := ["internal/strconv.uint64pow10", "math/bits.deBruijn32tab", "math/bits.deBruijn64tab", "internal/bytealg.MaxLen"], plainKeys := false, apart := false, laid := [("math/bits.deBruijn32tab", laid_math_bits_deBruijn32tab), ("math/bits.deBruijn64tab", laid_math_bits_deBruijn64tab), ("internal/strconv.uint64pow10", laid_internal_strconv_uint64pow10)], narrowed := true }
def NarrowOfNothingUptoSaid : Prop := narrowOfNothingUptoRow.holds Tryz.pinned (OpenSpec.upto narrowOfNothingSpec)

/-- 'shucklaw10.NarrowAssigned', WHERE WHAT IT READS IS OF BULK AT MOST 1048576: true; the input reads as it did. -/
def narrowAssignedUptoRow : OpenClaim := { program := "ytiaepldmgighbaagreatdoor", sum := "ac7e9af0f090f6ef10c19bc7e36fd76ca072f85e056597945cbecf84cd26f533", func := "shuck/shucklaw10.NarrowAssigned", spec := "narrowAssigned", inPlace := ["internal/abi.NoEscape", "internal/bytealg.MakeNoZero", "internal/bytealg.IndexByteString", "internal/bytealg.IndexString"], unfollowed := true, recurses := true, named := ["internal/strconv.uint64pow10", "math/bits.deBruijn32tab", "math/bits.deBruijn64tab", "internal/bytealg.MaxLen"], loops := true, plainKeys := false, apart := false, laid := [("math/bits.deBruijn32tab", laid_math_bits_deBruijn32tab), ("math/bits.deBruijn64tab", laid_math_bits_deBruijn64tab), ("internal/strconv.uint64pow10", laid_internal_strconv_uint64pow10)], narrowed := true }
def NarrowAssignedUptoSaid : Prop := narrowAssignedUptoRow.holds Tryz.pinned (OpenSpec.upto narrowAssignedSpec)

end Rows
end Go.Proofs.YtiaepldmgighbaaGreatDoor
