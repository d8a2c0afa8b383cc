/-
  NARROWER THAN 'FOR EVERY INPUT', by the rows' own cells (each row's printed sentence says how): LexTells: laid · LexJoins: laid · LexAgain: laid · LiveTells: laid · LiveFlows: laid · SyntaxParses: laid · SyntaxJoins: laid · SyntaxCuts: laid · SyntaxDeep: laid · DeadTells: laid · DeadNone: laid · SlotsTells: laid · SlotsApart: laid · SlotsApplied: laid · LiveJunk: laid · DeadMeans: laid · SlotsMean: laid.
  DERIVED. THE GIVEN ROWS OF THIS SEAT. 17 by the template 'for every input the law returns true; each argument reads behind the call as it read before'; 0 by the template 'total and deterministic' (their statements: YtkeoalhglkfbkaaDoorTotals.lean).
  GIVEN WITH THE SEED: the statements are not yours to turn. If you find one false, say at which input.
  Laid BY PROGRAM, IN A SANDBOX (cutbox-rows.mjs): the forced cells as the released guide's own fill.sh prints them over the translation 45efcd1a5d448c71… (all of the seat's roots in one cut). By AI agents, Wed Nov 11 2026. No macro, syntax, notation, axiom, sorry.
-/
import Derived.Test.YtkeoalhglkfbkaaDoorChecked
import GoSem.Claim
import GoSem.ClaimJoined
import GoSem.ClaimMapViews
import Derived.JoinedTies
import Derived.KernelRfl
namespace Go.Proofs.YtkeoalhglkfbkaaDoor
/- THE CELL 'sum', in the pinned program and in every row, IS THE sha256 OF THE DUMP (.gsa) THAT YtkeoalhglkfbkaaDoorProg.lean LOADS. Nothing in Lean hashes anything: it is a label: what it is worth is what the hold of that sum in a sandbox is worth. -/
noncomputable def Tryd.pinned : Pinned := { name := "ytkeoalhglkfbkaadoor", sum := "45efcd1a5d448c71ed912db6d946e24b082eab56a4e4c06c96fbdc777392cf04", checked := Tryd.checked }
namespace Rows
def none {H : Type} : Left H := { results := [], args := [] }

/- WHAT THE LISTED PACKAGE-LEVEL VARIABLES READ AS WHEN THE CALL BEGINS. Each datum BY PROGRAM (the guide's laid-datum.mjs) off the statement by which the dump's own 'gosem.cut.vars' lays the variable. In a bare row this is a premise. The card (YtkeoalhglkfbkaaDoorCards.lean) ties it to the program's text. -/
def laid_unicode_White_Space {H : Type} : DataW H := .ptr (.agg [.slice [.agg [.lit (.int .u16 9), .lit (.int .u16 13), .lit (.int .u16 1)], .agg [.lit (.int .u16 32), .lit (.int .u16 133), .lit (.int .u16 101)], .agg [.lit (.int .u16 160), .lit (.int .u16 5760), .lit (.int .u16 5600)], .agg [.lit (.int .u16 8192), .lit (.int .u16 8202), .lit (.int .u16 1)], .agg [.lit (.int .u16 8232), .lit (.int .u16 8233), .lit (.int .u16 1)], .agg [.lit (.int .u16 8239), .lit (.int .u16 8287), .lit (.int .u16 48)], .agg [.lit (.int .u16 12288), .lit (.int .u16 12288), .lit (.int .u16 1)]] [], .nil, .lit (.int .i64 2)])
def laid_strings_asciiSpace {H : Type} : DataW H := .agg [.lit (.int .u8 0), .lit (.int .u8 0), .lit (.int .u8 0), .lit (.int .u8 0), .lit (.int .u8 0), .lit (.int .u8 0), .lit (.int .u8 0), .lit (.int .u8 0), .lit (.int .u8 0), .lit (.int .u8 1), .lit (.int .u8 1), .lit (.int .u8 1), .lit (.int .u8 1), .lit (.int .u8 1), .lit (.int .u8 0), .lit (.int .u8 0), .lit (.int .u8 0), .lit (.int .u8 0), .lit (.int .u8 0), .lit (.int .u8 0), .lit (.int .u8 0), .lit (.int .u8 0), .lit (.int .u8 0), .lit (.int .u8 0), .lit (.int .u8 0), .lit (.int .u8 0), .lit (.int .u8 0), .lit (.int .u8 0), .lit (.int .u8 0), .lit (.int .u8 0), .lit (.int .u8 0), .lit (.int .u8 0), .lit (.int .u8 1), .lit (.int .u8 0), .lit (.int .u8 0), .lit (.int .u8 0), .lit (.int .u8 0), .lit (.int .u8 0), .lit (.int .u8 0), .lit (.int .u8 0), .lit (.int .u8 0), .lit (.int .u8 0), .lit (.int .u8 0), .lit (.int .u8 0), .lit (.int .u8 0), .lit (.int .u8 0), .lit (.int .u8 0), .lit (.int .u8 0), .lit (.int .u8 0), .lit (.int .u8 0), .lit (.int .u8 0), .lit (.int .u8 0), .lit (.int .u8 0), .lit (.int .u8 0), .lit (.int .u8 0), .lit (.int .u8 0), .lit (.int .u8 0), .lit (.int .u8 0), .lit (.int .u8 0), .lit (.int .u8 0), .lit (.int .u8 0), .lit (.int .u8 0), .lit (.int .u8 0), .lit (.int .u8 0), .lit (.int .u8 0), .lit (.int .u8 0), .lit (.int .u8 0), .lit (.int .u8 0), .lit (.int .u8 0), .lit (.int .u8 0), .lit (.int .u8 0), .lit (.int .u8 0), .lit (.int .u8 0), .lit (.int .u8 0), .lit (.int .u8 0), .lit (.int .u8 0), .lit (.int .u8 0), .lit (.int .u8 0), .lit (.int .u8 0), .lit (.int .u8 0), .lit (.int .u8 0), .lit (.int .u8 0), .lit (.int .u8 0), .lit (.int .u8 0), .lit (.int .u8 0), .lit (.int .u8 0), .lit (.int .u8 0), .lit (.int .u8 0), .lit (.int .u8 0), .lit (.int .u8 0), .lit (.int .u8 0), .lit (.int .u8 0), .lit (.int .u8 0), .lit (.int .u8 0), .lit (.int .u8 0), .lit (.int .u8 0), .lit (.int .u8 0), .lit (.int .u8 0), .lit (.int .u8 0), .lit (.int .u8 0), .lit (.int .u8 0), .lit (.int .u8 0), .lit (.int .u8 0), .lit (.int .u8 0), .lit (.int .u8 0), .lit (.int .u8 0), .lit (.int .u8 0), .lit (.int .u8 0), .lit (.int .u8 0), .lit (.int .u8 0), .lit (.int .u8 0), .lit (.int .u8 0), .lit (.int .u8 0), .lit (.int .u8 0), .lit (.int .u8 0), .lit (.int .u8 0), .lit (.int .u8 0), .lit (.int .u8 0), .lit (.int .u8 0), .lit (.int .u8 0), .lit (.int .u8 0), .lit (.int .u8 0), .lit (.int .u8 0), .lit (.int .u8 0), .lit (.int .u8 0), .lit (.int .u8 0), .lit (.int .u8 0), .lit (.int .u8 0), .lit (.int .u8 0), .lit (.int .u8 0), .lit (.int .u8 0), .lit (.int .u8 0), .lit (.int .u8 0), .lit (.int .u8 0), .lit (.int .u8 0), .lit (.int .u8 0), .lit (.int .u8 0), .lit (.int .u8 0), .lit (.int .u8 0), .lit (.int .u8 0), .lit (.int .u8 0), .lit (.int .u8 0), .lit (.int .u8 0), .lit (.int .u8 0), .lit (.int .u8 0), .lit (.int .u8 0), .lit (.int .u8 0), .lit (.int .u8 0), .lit (.int .u8 0), .lit (.int .u8 0), .lit (.int .u8 0), .lit (.int .u8 0), .lit (.int .u8 0), .lit (.int .u8 0), .lit (.int .u8 0), .lit (.int .u8 0), .lit (.int .u8 0), .lit (.int .u8 0), .lit (.int .u8 0), .lit (.int .u8 0), .lit (.int .u8 0), .lit (.int .u8 0), .lit (.int .u8 0), .lit (.int .u8 0), .lit (.int .u8 0), .lit (.int .u8 0), .lit (.int .u8 0), .lit (.int .u8 0), .lit (.int .u8 0), .lit (.int .u8 0), .lit (.int .u8 0), .lit (.int .u8 0), .lit (.int .u8 0), .lit (.int .u8 0), .lit (.int .u8 0), .lit (.int .u8 0), .lit (.int .u8 0), .lit (.int .u8 0), .lit (.int .u8 0), .lit (.int .u8 0), .lit (.int .u8 0), .lit (.int .u8 0), .lit (.int .u8 0), .lit (.int .u8 0), .lit (.int .u8 0), .lit (.int .u8 0), .lit (.int .u8 0), .lit (.int .u8 0), .lit (.int .u8 0), .lit (.int .u8 0), .lit (.int .u8 0), .lit (.int .u8 0), .lit (.int .u8 0), .lit (.int .u8 0), .lit (.int .u8 0), .lit (.int .u8 0), .lit (.int .u8 0), .lit (.int .u8 0), .lit (.int .u8 0), .lit (.int .u8 0), .lit (.int .u8 0), .lit (.int .u8 0), .lit (.int .u8 0), .lit (.int .u8 0), .lit (.int .u8 0), .lit (.int .u8 0), .lit (.int .u8 0), .lit (.int .u8 0), .lit (.int .u8 0), .lit (.int .u8 0), .lit (.int .u8 0), .lit (.int .u8 0), .lit (.int .u8 0), .lit (.int .u8 0), .lit (.int .u8 0), .lit (.int .u8 0), .lit (.int .u8 0), .lit (.int .u8 0), .lit (.int .u8 0), .lit (.int .u8 0), .lit (.int .u8 0), .lit (.int .u8 0), .lit (.int .u8 0), .lit (.int .u8 0), .lit (.int .u8 0), .lit (.int .u8 0), .lit (.int .u8 0), .lit (.int .u8 0), .lit (.int .u8 0), .lit (.int .u8 0), .lit (.int .u8 0), .lit (.int .u8 0), .lit (.int .u8 0), .lit (.int .u8 0), .lit (.int .u8 0), .lit (.int .u8 0), .lit (.int .u8 0), .lit (.int .u8 0), .lit (.int .u8 0), .lit (.int .u8 0), .lit (.int .u8 0), .lit (.int .u8 0), .lit (.int .u8 0), .lit (.int .u8 0), .lit (.int .u8 0), .lit (.int .u8 0), .lit (.int .u8 0), .lit (.int .u8 0), .lit (.int .u8 0), .lit (.int .u8 0), .lit (.int .u8 0), .lit (.int .u8 0), .lit (.int .u8 0), .lit (.int .u8 0), .lit (.int .u8 0), .lit (.int .u8 0)]
def laid_math_bits_deBruijn64tab {H : Type} : DataW H := .agg [.lit (.int .u8 0), .lit (.int .u8 1), .lit (.int .u8 56), .lit (.int .u8 2), .lit (.int .u8 57), .lit (.int .u8 49), .lit (.int .u8 28), .lit (.int .u8 3), .lit (.int .u8 61), .lit (.int .u8 58), .lit (.int .u8 42), .lit (.int .u8 50), .lit (.int .u8 38), .lit (.int .u8 29), .lit (.int .u8 17), .lit (.int .u8 4), .lit (.int .u8 62), .lit (.int .u8 47), .lit (.int .u8 59), .lit (.int .u8 36), .lit (.int .u8 45), .lit (.int .u8 43), .lit (.int .u8 51), .lit (.int .u8 22), .lit (.int .u8 53), .lit (.int .u8 39), .lit (.int .u8 33), .lit (.int .u8 30), .lit (.int .u8 24), .lit (.int .u8 18), .lit (.int .u8 12), .lit (.int .u8 5), .lit (.int .u8 63), .lit (.int .u8 55), .lit (.int .u8 48), .lit (.int .u8 27), .lit (.int .u8 60), .lit (.int .u8 41), .lit (.int .u8 37), .lit (.int .u8 16), .lit (.int .u8 46), .lit (.int .u8 35), .lit (.int .u8 44), .lit (.int .u8 21), .lit (.int .u8 52), .lit (.int .u8 32), .lit (.int .u8 23), .lit (.int .u8 11), .lit (.int .u8 54), .lit (.int .u8 26), .lit (.int .u8 40), .lit (.int .u8 15), .lit (.int .u8 34), .lit (.int .u8 20), .lit (.int .u8 31), .lit (.int .u8 10), .lit (.int .u8 25), .lit (.int .u8 14), .lit (.int .u8 19), .lit (.int .u8 9), .lit (.int .u8 13), .lit (.int .u8 8), .lit (.int .u8 7), .lit (.int .u8 6)]

/-- 'hauberklaw11.LexTells': WHATEVER THE INPUT: true; the input reads as it did. -/
def lexTellsSpec : ChangeSpec := { name := "lexTells", fn := fun _ => fun
  | [d] => { results := [.lit (.bool true)], args := [d] }
  | _ => none }
def lexTellsRow : OpenClaim := { program := "ytkeoalhglkfbkaadoor", sum := "45efcd1a5d448c71ed912db6d946e24b082eab56a4e4c06c96fbdc777392cf04", func := "hauberk/hauberklaw11.LexTells", spec := "lexTells", inPlace := ["internal/bytealg.IndexByteString"], unfollowed := true, recurses := true, named := ["strings.asciiSpace", "unicode.White_Space"], apart := false, laid := [("unicode.White_Space", laid_unicode_White_Space), ("strings.asciiSpace", laid_strings_asciiSpace)] }
def LexTellsSaid : Prop := lexTellsRow.holds Tryd.pinned (OpenSpec.ofChange lexTellsSpec)

/-- ITS FALSE NEIGHBOUR: 'it returns false'. Refute it at one input. -/
def lexTellsWrong : ChangeSpec := { name := "lexTells", fn := fun _ => fun
  | [d] => { results := [.lit (.bool false)], args := [d] }
  | _ => none }
def LexTellsWrongFalsely : Prop := lexTellsRow.holds Tryd.pinned (OpenSpec.ofChange lexTellsWrong)

/-- 'hauberklaw11.LexJoins': WHATEVER THE INPUT: true; the input reads as it did. -/
def lexJoinsSpec : ChangeSpec := { name := "lexJoins", fn := fun _ => fun
  | [d1, d2] => { results := [.lit (.bool true)], args := [d1, d2] }
  | _ => none }
def lexJoinsRow : OpenClaim := { program := "ytkeoalhglkfbkaadoor", sum := "45efcd1a5d448c71ed912db6d946e24b082eab56a4e4c06c96fbdc777392cf04", func := "hauberk/hauberklaw11.LexJoins", spec := "lexJoins", inPlace := ["internal/bytealg.IndexByteString"], unfollowed := true, recurses := true, named := ["strings.asciiSpace", "unicode.White_Space"], apart := false, laid := [("unicode.White_Space", laid_unicode_White_Space), ("strings.asciiSpace", laid_strings_asciiSpace)] }
def LexJoinsSaid : Prop := lexJoinsRow.holds Tryd.pinned (OpenSpec.ofChange lexJoinsSpec)

/-- ITS FALSE NEIGHBOUR: 'it returns false'. Refute it at one input. -/
def lexJoinsWrong : ChangeSpec := { name := "lexJoins", fn := fun _ => fun
  | [d1, d2] => { results := [.lit (.bool false)], args := [d1, d2] }
  | _ => none }
def LexJoinsWrongFalsely : Prop := lexJoinsRow.holds Tryd.pinned (OpenSpec.ofChange lexJoinsWrong)

/-- 'hauberklaw11.LexAgain': WHATEVER THE INPUT: true; the input reads as it did. -/
def lexAgainSpec : ChangeSpec := { name := "lexAgain", fn := fun _ => fun
  | [d] => { results := [.lit (.bool true)], args := [d] }
  | _ => none }
def lexAgainRow : OpenClaim := { program := "ytkeoalhglkfbkaadoor", sum := "45efcd1a5d448c71ed912db6d946e24b082eab56a4e4c06c96fbdc777392cf04", func := "hauberk/hauberklaw11.LexAgain", spec := "lexAgain", inPlace := ["internal/bytealg.IndexByteString"], unfollowed := true, recurses := true, named := ["strings.asciiSpace", "unicode.White_Space"], apart := false, laid := [("unicode.White_Space", laid_unicode_White_Space), ("strings.asciiSpace", laid_strings_asciiSpace)] }
def LexAgainSaid : Prop := lexAgainRow.holds Tryd.pinned (OpenSpec.ofChange lexAgainSpec)

/-- ITS FALSE NEIGHBOUR: 'it returns false'. Refute it at one input. -/
def lexAgainWrong : ChangeSpec := { name := "lexAgain", fn := fun _ => fun
  | [d] => { results := [.lit (.bool false)], args := [d] }
  | _ => none }
def LexAgainWrongFalsely : Prop := lexAgainRow.holds Tryd.pinned (OpenSpec.ofChange lexAgainWrong)

/-- 'hauberklaw21.LiveTells': WHATEVER THE INPUT: true; the input reads as it did. -/
def liveTellsSpec : ChangeSpec := { name := "liveTells", fn := fun _ => fun
  | [d] => { results := [.lit (.bool true)], args := [d] }
  | _ => none }
def liveTellsRow : OpenClaim := { program := "ytkeoalhglkfbkaadoor", sum := "45efcd1a5d448c71ed912db6d946e24b082eab56a4e4c06c96fbdc777392cf04", func := "hauberk/hauberklaw21.LiveTells", spec := "liveTells", unfollowed := true, recurses := true, named := ["math/bits.deBruijn64tab"], apart := false, laid := [("math/bits.deBruijn64tab", laid_math_bits_deBruijn64tab)] }
def LiveTellsSaid : Prop := liveTellsRow.holds Tryd.pinned (OpenSpec.ofChange liveTellsSpec)

/-- ITS FALSE NEIGHBOUR: 'it returns false'. Refute it at one input. -/
def liveTellsWrong : ChangeSpec := { name := "liveTells", fn := fun _ => fun
  | [d] => { results := [.lit (.bool false)], args := [d] }
  | _ => none }
def LiveTellsWrongFalsely : Prop := liveTellsRow.holds Tryd.pinned (OpenSpec.ofChange liveTellsWrong)

/-- 'hauberklaw21.LiveFlows': WHATEVER THE INPUT: true; the input reads as it did. -/
def liveFlowsSpec : ChangeSpec := { name := "liveFlows", fn := fun _ => fun
  | [d] => { results := [.lit (.bool true)], args := [d] }
  | _ => none }
def liveFlowsRow : OpenClaim := { program := "ytkeoalhglkfbkaadoor", sum := "45efcd1a5d448c71ed912db6d946e24b082eab56a4e4c06c96fbdc777392cf04", func := "hauberk/hauberklaw21.LiveFlows", spec := "liveFlows", unfollowed := true, recurses := true, named := ["math/bits.deBruijn64tab"], apart := false, laid := [("math/bits.deBruijn64tab", laid_math_bits_deBruijn64tab)] }
def LiveFlowsSaid : Prop := liveFlowsRow.holds Tryd.pinned (OpenSpec.ofChange liveFlowsSpec)

/-- ITS FALSE NEIGHBOUR: 'it returns false'. Refute it at one input. -/
def liveFlowsWrong : ChangeSpec := { name := "liveFlows", fn := fun _ => fun
  | [d] => { results := [.lit (.bool false)], args := [d] }
  | _ => none }
def LiveFlowsWrongFalsely : Prop := liveFlowsRow.holds Tryd.pinned (OpenSpec.ofChange liveFlowsWrong)

/-- 'hauberklaw12.SyntaxParses': WHATEVER THE INPUT: true; the input reads as it did. -/
def syntaxParsesSpec : ChangeSpec := { name := "syntaxParses", fn := fun _ => fun
  | [d] => { results := [.lit (.bool true)], args := [d] }
  | _ => none }
def syntaxParsesRow : OpenClaim := { program := "ytkeoalhglkfbkaadoor", sum := "45efcd1a5d448c71ed912db6d946e24b082eab56a4e4c06c96fbdc777392cf04", func := "hauberk/hauberklaw12.SyntaxParses", spec := "syntaxParses", inPlace := ["internal/bytealg.IndexByteString"], unfollowed := true, recurses := true, named := ["strings.asciiSpace", "unicode.White_Space"], apart := false, laid := [("unicode.White_Space", laid_unicode_White_Space), ("strings.asciiSpace", laid_strings_asciiSpace)] }
def SyntaxParsesSaid : Prop := syntaxParsesRow.holds Tryd.pinned (OpenSpec.ofChange syntaxParsesSpec)

/-- ITS FALSE NEIGHBOUR: 'it returns false'. Refute it at one input. -/
def syntaxParsesWrong : ChangeSpec := { name := "syntaxParses", fn := fun _ => fun
  | [d] => { results := [.lit (.bool false)], args := [d] }
  | _ => none }
def SyntaxParsesWrongFalsely : Prop := syntaxParsesRow.holds Tryd.pinned (OpenSpec.ofChange syntaxParsesWrong)

/-- 'hauberklaw12.SyntaxJoins': WHATEVER THE INPUT: true; the input reads as it did. -/
def syntaxJoinsSpec : ChangeSpec := { name := "syntaxJoins", fn := fun _ => fun
  | [d1, d2] => { results := [.lit (.bool true)], args := [d1, d2] }
  | _ => none }
def syntaxJoinsRow : OpenClaim := { program := "ytkeoalhglkfbkaadoor", sum := "45efcd1a5d448c71ed912db6d946e24b082eab56a4e4c06c96fbdc777392cf04", func := "hauberk/hauberklaw12.SyntaxJoins", spec := "syntaxJoins", inPlace := ["internal/bytealg.IndexByteString"], unfollowed := true, recurses := true, named := ["strings.asciiSpace", "unicode.White_Space"], apart := false, laid := [("unicode.White_Space", laid_unicode_White_Space), ("strings.asciiSpace", laid_strings_asciiSpace)] }
def SyntaxJoinsSaid : Prop := syntaxJoinsRow.holds Tryd.pinned (OpenSpec.ofChange syntaxJoinsSpec)

/-- ITS FALSE NEIGHBOUR: 'it returns false'. Refute it at one input. -/
def syntaxJoinsWrong : ChangeSpec := { name := "syntaxJoins", fn := fun _ => fun
  | [d1, d2] => { results := [.lit (.bool false)], args := [d1, d2] }
  | _ => none }
def SyntaxJoinsWrongFalsely : Prop := syntaxJoinsRow.holds Tryd.pinned (OpenSpec.ofChange syntaxJoinsWrong)

/-- 'hauberklaw12.SyntaxCuts': WHATEVER THE INPUT: true; the input reads as it did. -/
def syntaxCutsSpec : ChangeSpec := { name := "syntaxCuts", fn := fun _ => fun
  | [d1, d2] => { results := [.lit (.bool true)], args := [d1, d2] }
  | _ => none }
def syntaxCutsRow : OpenClaim := { program := "ytkeoalhglkfbkaadoor", sum := "45efcd1a5d448c71ed912db6d946e24b082eab56a4e4c06c96fbdc777392cf04", func := "hauberk/hauberklaw12.SyntaxCuts", spec := "syntaxCuts", inPlace := ["internal/bytealg.IndexByteString"], unfollowed := true, recurses := true, named := ["strings.asciiSpace", "unicode.White_Space"], apart := false, laid := [("unicode.White_Space", laid_unicode_White_Space), ("strings.asciiSpace", laid_strings_asciiSpace)] }
def SyntaxCutsSaid : Prop := syntaxCutsRow.holds Tryd.pinned (OpenSpec.ofChange syntaxCutsSpec)

/-- ITS FALSE NEIGHBOUR: 'it returns false'. Refute it at one input. -/
def syntaxCutsWrong : ChangeSpec := { name := "syntaxCuts", fn := fun _ => fun
  | [d1, d2] => { results := [.lit (.bool false)], args := [d1, d2] }
  | _ => none }
def SyntaxCutsWrongFalsely : Prop := syntaxCutsRow.holds Tryd.pinned (OpenSpec.ofChange syntaxCutsWrong)

/-- 'hauberklaw12.SyntaxDeep': WHATEVER THE INPUT: true; the input reads as it did. -/
def syntaxDeepSpec : ChangeSpec := { name := "syntaxDeep", fn := fun _ => fun
  | [d1, d2] => { results := [.lit (.bool true)], args := [d1, d2] }
  | _ => none }
def syntaxDeepRow : OpenClaim := { program := "ytkeoalhglkfbkaadoor", sum := "45efcd1a5d448c71ed912db6d946e24b082eab56a4e4c06c96fbdc777392cf04", func := "hauberk/hauberklaw12.SyntaxDeep", spec := "syntaxDeep", inPlace := ["internal/bytealg.IndexByteString"], unfollowed := true, recurses := true, named := ["strings.asciiSpace", "unicode.White_Space"], apart := false, laid := [("unicode.White_Space", laid_unicode_White_Space), ("strings.asciiSpace", laid_strings_asciiSpace)] }
def SyntaxDeepSaid : Prop := syntaxDeepRow.holds Tryd.pinned (OpenSpec.ofChange syntaxDeepSpec)

/-- ITS FALSE NEIGHBOUR: 'it returns false'. Refute it at one input. -/
def syntaxDeepWrong : ChangeSpec := { name := "syntaxDeep", fn := fun _ => fun
  | [d1, d2] => { results := [.lit (.bool false)], args := [d1, d2] }
  | _ => none }
def SyntaxDeepWrongFalsely : Prop := syntaxDeepRow.holds Tryd.pinned (OpenSpec.ofChange syntaxDeepWrong)

/-- 'hauberklaw22.DeadTells': WHATEVER THE INPUT: true; the input reads as it did. -/
def deadTellsSpec : ChangeSpec := { name := "deadTells", fn := fun _ => fun
  | [d] => { results := [.lit (.bool true)], args := [d] }
  | _ => none }
def deadTellsRow : OpenClaim := { program := "ytkeoalhglkfbkaadoor", sum := "45efcd1a5d448c71ed912db6d946e24b082eab56a4e4c06c96fbdc777392cf04", func := "hauberk/hauberklaw22.DeadTells", spec := "deadTells", unfollowed := true, recurses := true, named := ["math/bits.deBruijn64tab"], apart := false, laid := [("math/bits.deBruijn64tab", laid_math_bits_deBruijn64tab)] }
def DeadTellsSaid : Prop := deadTellsRow.holds Tryd.pinned (OpenSpec.ofChange deadTellsSpec)

/-- ITS FALSE NEIGHBOUR: 'it returns false'. Refute it at one input. -/
def deadTellsWrong : ChangeSpec := { name := "deadTells", fn := fun _ => fun
  | [d] => { results := [.lit (.bool false)], args := [d] }
  | _ => none }
def DeadTellsWrongFalsely : Prop := deadTellsRow.holds Tryd.pinned (OpenSpec.ofChange deadTellsWrong)

/-- 'hauberklaw22.DeadNone': WHATEVER THE INPUT: true; the input reads as it did. -/
def deadNoneSpec : ChangeSpec := { name := "deadNone", fn := fun _ => fun
  | [d] => { results := [.lit (.bool true)], args := [d] }
  | _ => none }
def deadNoneRow : OpenClaim := { program := "ytkeoalhglkfbkaadoor", sum := "45efcd1a5d448c71ed912db6d946e24b082eab56a4e4c06c96fbdc777392cf04", func := "hauberk/hauberklaw22.DeadNone", spec := "deadNone", unfollowed := true, recurses := true, named := ["math/bits.deBruijn64tab"], apart := false, laid := [("math/bits.deBruijn64tab", laid_math_bits_deBruijn64tab)] }
def DeadNoneSaid : Prop := deadNoneRow.holds Tryd.pinned (OpenSpec.ofChange deadNoneSpec)

/-- ITS FALSE NEIGHBOUR: 'it returns false'. Refute it at one input. -/
def deadNoneWrong : ChangeSpec := { name := "deadNone", fn := fun _ => fun
  | [d] => { results := [.lit (.bool false)], args := [d] }
  | _ => none }
def DeadNoneWrongFalsely : Prop := deadNoneRow.holds Tryd.pinned (OpenSpec.ofChange deadNoneWrong)

/-- 'hauberklaw25.SlotsTells': WHATEVER THE INPUT: true; the input reads as it did. -/
def slotsTellsSpec : ChangeSpec := { name := "slotsTells", fn := fun _ => fun
  | [d] => { results := [.lit (.bool true)], args := [d] }
  | _ => none }
def slotsTellsRow : OpenClaim := { program := "ytkeoalhglkfbkaadoor", sum := "45efcd1a5d448c71ed912db6d946e24b082eab56a4e4c06c96fbdc777392cf04", func := "hauberk/hauberklaw25.SlotsTells", spec := "slotsTells", unfollowed := true, recurses := true, named := ["math/bits.deBruijn64tab"], apart := false, laid := [("math/bits.deBruijn64tab", laid_math_bits_deBruijn64tab)] }
def SlotsTellsSaid : Prop := slotsTellsRow.holds Tryd.pinned (OpenSpec.ofChange slotsTellsSpec)

/-- ITS FALSE NEIGHBOUR: 'it returns false'. Refute it at one input. -/
def slotsTellsWrong : ChangeSpec := { name := "slotsTells", fn := fun _ => fun
  | [d] => { results := [.lit (.bool false)], args := [d] }
  | _ => none }
def SlotsTellsWrongFalsely : Prop := slotsTellsRow.holds Tryd.pinned (OpenSpec.ofChange slotsTellsWrong)

/-- 'hauberklaw25.SlotsApart': WHATEVER THE INPUT: true; the input reads as it did. -/
def slotsApartSpec : ChangeSpec := { name := "slotsApart", fn := fun _ => fun
  | [d] => { results := [.lit (.bool true)], args := [d] }
  | _ => none }
def slotsApartRow : OpenClaim := { program := "ytkeoalhglkfbkaadoor", sum := "45efcd1a5d448c71ed912db6d946e24b082eab56a4e4c06c96fbdc777392cf04", func := "hauberk/hauberklaw25.SlotsApart", spec := "slotsApart", unfollowed := true, recurses := true, named := ["math/bits.deBruijn64tab"], apart := false, laid := [("math/bits.deBruijn64tab", laid_math_bits_deBruijn64tab)] }
def SlotsApartSaid : Prop := slotsApartRow.holds Tryd.pinned (OpenSpec.ofChange slotsApartSpec)

/-- ITS FALSE NEIGHBOUR: 'it returns false'. Refute it at one input. -/
def slotsApartWrong : ChangeSpec := { name := "slotsApart", fn := fun _ => fun
  | [d] => { results := [.lit (.bool false)], args := [d] }
  | _ => none }
def SlotsApartWrongFalsely : Prop := slotsApartRow.holds Tryd.pinned (OpenSpec.ofChange slotsApartWrong)

/-- 'hauberklaw25.SlotsApplied': WHATEVER THE INPUT: true; the input reads as it did. -/
def slotsAppliedSpec : ChangeSpec := { name := "slotsApplied", fn := fun _ => fun
  | [d1, d2] => { results := [.lit (.bool true)], args := [d1, d2] }
  | _ => none }
def slotsAppliedRow : OpenClaim := { program := "ytkeoalhglkfbkaadoor", sum := "45efcd1a5d448c71ed912db6d946e24b082eab56a4e4c06c96fbdc777392cf04", func := "hauberk/hauberklaw25.SlotsApplied", spec := "slotsApplied", unfollowed := true, recurses := true, named := ["math/bits.deBruijn64tab"], apart := false, laid := [("math/bits.deBruijn64tab", laid_math_bits_deBruijn64tab)] }
def SlotsAppliedSaid : Prop := slotsAppliedRow.holds Tryd.pinned (OpenSpec.ofChange slotsAppliedSpec)

/-- ITS FALSE NEIGHBOUR: 'it returns false'. Refute it at one input. -/
def slotsAppliedWrong : ChangeSpec := { name := "slotsApplied", fn := fun _ => fun
  | [d1, d2] => { results := [.lit (.bool false)], args := [d1, d2] }
  | _ => none }
def SlotsAppliedWrongFalsely : Prop := slotsAppliedRow.holds Tryd.pinned (OpenSpec.ofChange slotsAppliedWrong)

/-- 'hauberklaw21.LiveJunk': WHATEVER THE INPUT: true; the input reads as it did. -/
def liveJunkSpec : ChangeSpec := { name := "liveJunk", fn := fun _ => fun
  | [d1, d2, d3, d4, d5] => { results := [.lit (.bool true)], args := [d1, d2, d3, d4, d5] }
  | _ => none }
def liveJunkRow : OpenClaim := { program := "ytkeoalhglkfbkaadoor", sum := "45efcd1a5d448c71ed912db6d946e24b082eab56a4e4c06c96fbdc777392cf04", func := "hauberk/hauberklaw21.LiveJunk", spec := "liveJunk", unfollowed := true, recurses := true, named := ["math/bits.deBruijn64tab"], apart := false, laid := [("math/bits.deBruijn64tab", laid_math_bits_deBruijn64tab)] }
def LiveJunkSaid : Prop := liveJunkRow.holds Tryd.pinned (OpenSpec.ofChange liveJunkSpec)

/-- ITS FALSE NEIGHBOUR: 'it returns false'. Refute it at one input. -/
def liveJunkWrong : ChangeSpec := { name := "liveJunk", fn := fun _ => fun
  | [d1, d2, d3, d4, d5] => { results := [.lit (.bool false)], args := [d1, d2, d3, d4, d5] }
  | _ => none }
def LiveJunkWrongFalsely : Prop := liveJunkRow.holds Tryd.pinned (OpenSpec.ofChange liveJunkWrong)

/-- 'hauberklaw22.DeadMeans': WHATEVER THE INPUT: true; the input reads as it did. -/
def deadMeansSpec : ChangeSpec := { name := "deadMeans", fn := fun _ => fun
  | [d1, d2, d3] => { results := [.lit (.bool true)], args := [d1, d2, d3] }
  | _ => none }
def deadMeansRow : OpenClaim := { program := "ytkeoalhglkfbkaadoor", sum := "45efcd1a5d448c71ed912db6d946e24b082eab56a4e4c06c96fbdc777392cf04", func := "hauberk/hauberklaw22.DeadMeans", spec := "deadMeans", unfollowed := true, recurses := true, named := ["math/bits.deBruijn64tab"], apart := false, laid := [("math/bits.deBruijn64tab", laid_math_bits_deBruijn64tab)] }
def DeadMeansSaid : Prop := deadMeansRow.holds Tryd.pinned (OpenSpec.ofChange deadMeansSpec)

/-- ITS FALSE NEIGHBOUR: 'it returns false'. Refute it at one input. -/
def deadMeansWrong : ChangeSpec := { name := "deadMeans", fn := fun _ => fun
  | [d1, d2, d3] => { results := [.lit (.bool false)], args := [d1, d2, d3] }
  | _ => none }
def DeadMeansWrongFalsely : Prop := deadMeansRow.holds Tryd.pinned (OpenSpec.ofChange deadMeansWrong)

/-- 'hauberklaw25.SlotsMean': WHATEVER THE INPUT: true; the input reads as it did. -/
def slotsMeanSpec : ChangeSpec := { name := "slotsMean", fn := fun _ => fun
  | [d1, d2, d3] => { results := [.lit (.bool true)], args := [d1, d2, d3] }
  | _ => none }
def slotsMeanRow : OpenClaim := { program := "ytkeoalhglkfbkaadoor", sum := "45efcd1a5d448c71ed912db6d946e24b082eab56a4e4c06c96fbdc777392cf04", func := "hauberk/hauberklaw25.SlotsMean", spec := "slotsMean", unfollowed := true, recurses := true, named := ["math/bits.deBruijn64tab"], apart := false, laid := [("math/bits.deBruijn64tab", laid_math_bits_deBruijn64tab)] }
def SlotsMeanSaid : Prop := slotsMeanRow.holds Tryd.pinned (OpenSpec.ofChange slotsMeanSpec)

/-- ITS FALSE NEIGHBOUR: 'it returns false'. Refute it at one input. -/
def slotsMeanWrong : ChangeSpec := { name := "slotsMean", fn := fun _ => fun
  | [d1, d2, d3] => { results := [.lit (.bool false)], args := [d1, d2, d3] }
  | _ => none }
def SlotsMeanWrongFalsely : Prop := slotsMeanRow.holds Tryd.pinned (OpenSpec.ofChange slotsMeanWrong)

/- THE SECOND FORM. 'bulk': how many values and letters a reading holds, each counted each time it is reached (what is shared counts as often as it is met; a slice's spare places count too). A statement '..UptoSaid' is the law's where the arguments, and the package variables that the reading takes, are together of bulk at most 1048576: NARROWER than '..Said'. Prove '..Said' where nothing that the law and all that it calls make is longer than what came in: it says more and counts as full. Else prove '..UptoSaid'. A law counts once. -/
mutual
def uptoBulk {H : Type} : DataW H → Nat
  | .lit (.string bytes) => bytes.length + 1
  | .lit _ => 1
  | .nil => 1
  | .ptr d => uptoBulk d + 1
  | .slice elems spare => uptoBulkAll elems + uptoBulkAll spare + 1
  | .agg parts => uptoBulkAll parts + 1
  | .iface _ d => uptoBulk d + 1
  | .map entries => uptoBulkEntries entries + 1
  | .held _ => 1
def uptoBulkAll {H : Type} : List (DataW H) → Nat
  | [] => 0
  | d :: r => uptoBulk d + uptoBulkAll r
def uptoBulkEntries {H : Type} : List (Lit × DataW H) → Nat
  | [] => 0
  | x :: r => uptoBulkEntry x + uptoBulkEntries r
def uptoBulkEntry {H : Type} : Lit × DataW H → Nat
  | (.string bytes, d) => bytes.length + uptoBulk d + 1
  | (_, d) => uptoBulk d + 1
 end
def uptoSmall : (H : Type) → List (DataW H) → Bool := fun _ ds => decide (uptoBulkAll ds ≤ 1048576)
def OpenSpec.upto (s : _root_.Go.ChangeSpec) : _root_.Go.OpenSpec := { _root_.Go.OpenSpec.ofChange s with cond := some uptoSmall }

/-- 'hauberklaw11.LexTells', WHERE WHAT IT READS IS OF BULK AT MOST 1048576: true; the input reads as it did. -/
def lexTellsUptoRow : OpenClaim := { program := "ytkeoalhglkfbkaadoor", sum := "45efcd1a5d448c71ed912db6d946e24b082eab56a4e4c06c96fbdc777392cf04", func := "hauberk/hauberklaw11.LexTells", spec := "lexTells", inPlace := ["internal/bytealg.IndexByteString"], unfollowed := true, recurses := true, named := ["strings.asciiSpace", "unicode.White_Space"], apart := false, laid := [("unicode.White_Space", laid_unicode_White_Space), ("strings.asciiSpace", laid_strings_asciiSpace)], narrowed := true }
def LexTellsUptoSaid : Prop := lexTellsUptoRow.holds Tryd.pinned (OpenSpec.upto lexTellsSpec)

/-- 'hauberklaw11.LexJoins', WHERE WHAT IT READS IS OF BULK AT MOST 1048576: true; the input reads as it did. -/
def lexJoinsUptoRow : OpenClaim := { program := "ytkeoalhglkfbkaadoor", sum := "45efcd1a5d448c71ed912db6d946e24b082eab56a4e4c06c96fbdc777392cf04", func := "hauberk/hauberklaw11.LexJoins", spec := "lexJoins", inPlace := ["internal/bytealg.IndexByteString"], unfollowed := true, recurses := true, named := ["strings.asciiSpace", "unicode.White_Space"], apart := false, laid := [("unicode.White_Space", laid_unicode_White_Space), ("strings.asciiSpace", laid_strings_asciiSpace)], narrowed := true }
def LexJoinsUptoSaid : Prop := lexJoinsUptoRow.holds Tryd.pinned (OpenSpec.upto lexJoinsSpec)

/-- 'hauberklaw11.LexAgain', WHERE WHAT IT READS IS OF BULK AT MOST 1048576: true; the input reads as it did. -/
def lexAgainUptoRow : OpenClaim := { program := "ytkeoalhglkfbkaadoor", sum := "45efcd1a5d448c71ed912db6d946e24b082eab56a4e4c06c96fbdc777392cf04", func := "hauberk/hauberklaw11.LexAgain", spec := "lexAgain", inPlace := ["internal/bytealg.IndexByteString"], unfollowed := true, recurses := true, named := ["strings.asciiSpace", "unicode.White_Space"], apart := false, laid := [("unicode.White_Space", laid_unicode_White_Space), ("strings.asciiSpace", laid_strings_asciiSpace)], narrowed := true }
def LexAgainUptoSaid : Prop := lexAgainUptoRow.holds Tryd.pinned (OpenSpec.upto lexAgainSpec)

/-- 'hauberklaw21.LiveTells', WHERE WHAT IT READS IS OF BULK AT MOST 1048576: true; the input reads as it did. -/
def liveTellsUptoRow : OpenClaim := { program := "ytkeoalhglkfbkaadoor", sum := "45efcd1a5d448c71ed912db6d946e24b082eab56a4e4c06c96fbdc777392cf04", func := "hauberk/hauberklaw21.LiveTells", spec := "liveTells", unfollowed := true, recurses := true, named := ["math/bits.deBruijn64tab"], apart := false, laid := [("math/bits.deBruijn64tab", laid_math_bits_deBruijn64tab)], narrowed := true }
def LiveTellsUptoSaid : Prop := liveTellsUptoRow.holds Tryd.pinned (OpenSpec.upto liveTellsSpec)

/-- 'hauberklaw21.LiveFlows', WHERE WHAT IT READS IS OF BULK AT MOST 1048576: true; the input reads as it did. -/
def liveFlowsUptoRow : OpenClaim := { program := "ytkeoalhglkfbkaadoor", sum := "45efcd1a5d448c71ed912db6d946e24b082eab56a4e4c06c96fbdc777392cf04", func := "hauberk/hauberklaw21.LiveFlows", spec := "liveFlows", unfollowed := true, recurses := true, named := ["math/bits.deBruijn64tab"], apart := false, laid := [("math/bits.deBruijn64tab", laid_math_bits_deBruijn64tab)], narrowed := true }
def LiveFlowsUptoSaid : Prop := liveFlowsUptoRow.holds Tryd.pinned (OpenSpec.upto liveFlowsSpec)

/-- 'hauberklaw12.SyntaxParses', WHERE WHAT IT READS IS OF BULK AT MOST 1048576: true; the input reads as it did. -/
def syntaxParsesUptoRow : OpenClaim := { program := "ytkeoalhglkfbkaadoor", sum := "45efcd1a5d448c71ed912db6d946e24b082eab56a4e4c06c96fbdc777392cf04", func := "hauberk/hauberklaw12.SyntaxParses", spec := "syntaxParses", inPlace := ["internal/bytealg.IndexByteString"], unfollowed := true, recurses := true, named := ["strings.asciiSpace", "unicode.White_Space"], apart := false, laid := [("unicode.White_Space", laid_unicode_White_Space), ("strings.asciiSpace", laid_strings_asciiSpace)], narrowed := true }
def SyntaxParsesUptoSaid : Prop := syntaxParsesUptoRow.holds Tryd.pinned (OpenSpec.upto syntaxParsesSpec)

/-- 'hauberklaw12.SyntaxJoins', WHERE WHAT IT READS IS OF BULK AT MOST 1048576: true; the input reads as it did. -/
def syntaxJoinsUptoRow : OpenClaim := { program := "ytkeoalhglkfbkaadoor", sum := "45efcd1a5d448c71ed912db6d946e24b082eab56a4e4c06c96fbdc777392cf04", func := "hauberk/hauberklaw12.SyntaxJoins", spec := "syntaxJoins", inPlace := ["internal/bytealg.IndexByteString"], unfollowed := true, recurses := true, named := ["strings.asciiSpace", "unicode.White_Space"], apart := false, laid := [("unicode.White_Space", laid_unicode_White_Space), ("strings.asciiSpace", laid_strings_asciiSpace)], narrowed := true }
def SyntaxJoinsUptoSaid : Prop := syntaxJoinsUptoRow.holds Tryd.pinned (OpenSpec.upto syntaxJoinsSpec)

/-- 'hauberklaw12.SyntaxCuts', WHERE WHAT IT READS IS OF BULK AT MOST 1048576: true; the input reads as it did. -/
def syntaxCutsUptoRow : OpenClaim := { program := "ytkeoalhglkfbkaadoor", sum := "45efcd1a5d448c71ed912db6d946e24b082eab56a4e4c06c96fbdc777392cf04", func := "hauberk/hauberklaw12.SyntaxCuts", spec := "syntaxCuts", inPlace := ["internal/bytealg.IndexByteString"], unfollowed := true, recurses := true, named := ["strings.asciiSpace", "unicode.White_Space"], apart := false, laid := [("unicode.White_Space", laid_unicode_White_Space), ("strings.asciiSpace", laid_strings_asciiSpace)], narrowed := true }
def SyntaxCutsUptoSaid : Prop := syntaxCutsUptoRow.holds Tryd.pinned (OpenSpec.upto syntaxCutsSpec)

/-- 'hauberklaw12.SyntaxDeep', WHERE WHAT IT READS IS OF BULK AT MOST 1048576: true; the input reads as it did. -/
def syntaxDeepUptoRow : OpenClaim := { program := "ytkeoalhglkfbkaadoor", sum := "45efcd1a5d448c71ed912db6d946e24b082eab56a4e4c06c96fbdc777392cf04", func := "hauberk/hauberklaw12.SyntaxDeep", spec := "syntaxDeep", inPlace := ["internal/bytealg.IndexByteString"], unfollowed := true, recurses := true, named := ["strings.asciiSpace", "unicode.White_Space"], apart := false, laid := [("unicode.White_Space", laid_unicode_White_Space), ("strings.asciiSpace", laid_strings_asciiSpace)], narrowed := true }
def SyntaxDeepUptoSaid : Prop := syntaxDeepUptoRow.holds Tryd.pinned (OpenSpec.upto syntaxDeepSpec)

/-- 'hauberklaw22.DeadTells', WHERE WHAT IT READS IS OF BULK AT MOST 1048576: true; the input reads as it did. -/
def deadTellsUptoRow : OpenClaim := { program := "ytkeoalhglkfbkaadoor", sum := "45efcd1a5d448c71ed912db6d946e24b082eab56a4e4c06c96fbdc777392cf04", func := "hauberk/hauberklaw22.DeadTells", spec := "deadTells", unfollowed := true, recurses := true, named := ["math/bits.deBruijn64tab"], apart := false, laid := [("math/bits.deBruijn64tab", laid_math_bits_deBruijn64tab)], narrowed := true }
def DeadTellsUptoSaid : Prop := deadTellsUptoRow.holds Tryd.pinned (OpenSpec.upto deadTellsSpec)

/-- 'hauberklaw22.DeadNone', WHERE WHAT IT READS IS OF BULK AT MOST 1048576: true; the input reads as it did. -/
def deadNoneUptoRow : OpenClaim := { program := "ytkeoalhglkfbkaadoor", sum := "45efcd1a5d448c71ed912db6d946e24b082eab56a4e4c06c96fbdc777392cf04", func := "hauberk/hauberklaw22.DeadNone", spec := "deadNone", unfollowed := true, recurses := true, named := ["math/bits.deBruijn64tab"], apart := false, laid := [("math/bits.deBruijn64tab", laid_math_bits_deBruijn64tab)], narrowed := true }
def DeadNoneUptoSaid : Prop := deadNoneUptoRow.holds Tryd.pinned (OpenSpec.upto deadNoneSpec)

/-- 'hauberklaw25.SlotsTells', WHERE WHAT IT READS IS OF BULK AT MOST 1048576: true; the input reads as it did. -/
def slotsTellsUptoRow : OpenClaim := { program := "ytkeoalhglkfbkaadoor", sum := "45efcd1a5d448c71ed912db6d946e24b082eab56a4e4c06c96fbdc777392cf04", func := "hauberk/hauberklaw25.SlotsTells", spec := "slotsTells", unfollowed := true, recurses := true, named := ["math/bits.deBruijn64tab"], apart := false, laid := [("math/bits.deBruijn64tab", laid_math_bits_deBruijn64tab)], narrowed := true }
def SlotsTellsUptoSaid : Prop := slotsTellsUptoRow.holds Tryd.pinned (OpenSpec.upto slotsTellsSpec)

/-- 'hauberklaw25.SlotsApart', WHERE WHAT IT READS IS OF BULK AT MOST 1048576: true; the input reads as it did. -/
def slotsApartUptoRow : OpenClaim := { program := "ytkeoalhglkfbkaadoor", sum := "45efcd1a5d448c71ed912db6d946e24b082eab56a4e4c06c96fbdc777392cf04", func := "hauberk/hauberklaw25.SlotsApart", spec := "slotsApart", unfollowed := true, recurses := true, named := ["math/bits.deBruijn64tab"], apart := false, laid := [("math/bits.deBruijn64tab", laid_math_bits_deBruijn64tab)], narrowed := true }
def SlotsApartUptoSaid : Prop := slotsApartUptoRow.holds Tryd.pinned (OpenSpec.upto slotsApartSpec)

/-- 'hauberklaw25.SlotsApplied', WHERE WHAT IT READS IS OF BULK AT MOST 1048576: true; the input reads as it did. -/
def slotsAppliedUptoRow : OpenClaim := { program := "ytkeoalhglkfbkaadoor", sum := "45efcd1a5d448c71ed912db6d946e24b082eab56a4e4c06c96fbdc777392cf04", func := "hauberk/hauberklaw25.SlotsApplied", spec := "slotsApplied", unfollowed := true, recurses := true, named := ["math/bits.deBruijn64tab"], apart := false, laid := [("math/bits.deBruijn64tab", laid_math_bits_deBruijn64tab)], narrowed := true }
def SlotsAppliedUptoSaid : Prop := slotsAppliedUptoRow.holds Tryd.pinned (OpenSpec.upto slotsAppliedSpec)

/-- 'hauberklaw21.LiveJunk', WHERE WHAT IT READS IS OF BULK AT MOST 1048576: true; the input reads as it did. -/
def liveJunkUptoRow : OpenClaim := { program := "ytkeoalhglkfbkaadoor", sum := "45efcd1a5d448c71ed912db6d946e24b082eab56a4e4c06c96fbdc777392cf04", func := "hauberk/hauberklaw21.LiveJunk", spec := "liveJunk", unfollowed := true, recurses := true, named := ["math/bits.deBruijn64tab"], apart := false, laid := [("math/bits.deBruijn64tab", laid_math_bits_deBruijn64tab)], narrowed := true }
def LiveJunkUptoSaid : Prop := liveJunkUptoRow.holds Tryd.pinned (OpenSpec.upto liveJunkSpec)

/-- 'hauberklaw22.DeadMeans', WHERE WHAT IT READS IS OF BULK AT MOST 1048576: true; the input reads as it did. -/
def deadMeansUptoRow : OpenClaim := { program := "ytkeoalhglkfbkaadoor", sum := "45efcd1a5d448c71ed912db6d946e24b082eab56a4e4c06c96fbdc777392cf04", func := "hauberk/hauberklaw22.DeadMeans", spec := "deadMeans", unfollowed := true, recurses := true, named := ["math/bits.deBruijn64tab"], apart := false, laid := [("math/bits.deBruijn64tab", laid_math_bits_deBruijn64tab)], narrowed := true }
def DeadMeansUptoSaid : Prop := deadMeansUptoRow.holds Tryd.pinned (OpenSpec.upto deadMeansSpec)

/-- 'hauberklaw25.SlotsMean', WHERE WHAT IT READS IS OF BULK AT MOST 1048576: true; the input reads as it did. -/
def slotsMeanUptoRow : OpenClaim := { program := "ytkeoalhglkfbkaadoor", sum := "45efcd1a5d448c71ed912db6d946e24b082eab56a4e4c06c96fbdc777392cf04", func := "hauberk/hauberklaw25.SlotsMean", spec := "slotsMean", unfollowed := true, recurses := true, named := ["math/bits.deBruijn64tab"], apart := false, laid := [("math/bits.deBruijn64tab", laid_math_bits_deBruijn64tab)], narrowed := true }
def SlotsMeanUptoSaid : Prop := slotsMeanUptoRow.holds Tryd.pinned (OpenSpec.upto slotsMeanSpec)

end Rows
end Go.Proofs.YtkeoalhglkfbkaaDoor
