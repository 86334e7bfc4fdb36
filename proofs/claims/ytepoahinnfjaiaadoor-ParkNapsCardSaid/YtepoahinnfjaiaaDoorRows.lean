/-
  NARROWER THAN 'FOR EVERY INPUT', by the rows' own cells (each row's printed sentence says how): PartChecks: laid · MemNews: laid · PackedWords: laid · FairIs: laid · ScriptBytes: laid · JudgeChecks: laid · PhaserDoes: laid · LinReplays: laid · ParkNaps: laid · StoryPrints: laid · MemTouches: laid.
  DERIVED. THE GIVEN ROWS OF THIS SEAT. 11 by the template 'for every input the law returns true; each argument reads behind the call as it read before'; 0 by the template 'total and deterministic' (their statements: YtepoahinnfjaiaaDoorTotals.lean).
  GIVEN WITH THE SEED: the statements are not yours to turn. If you find one false, say at which input.
  Laid BY PROGRAM, IN A SANDBOX (cutbox-rows.mjs): the forced cells as the released guide's own fill.sh prints them over the translation a20bf67ddb7aca7a… (all of the seat's roots in one cut). By AI agents, Wed Nov 11 2026. No macro, syntax, notation, axiom, sorry.
-/
import Derived.Test.YtepoahinnfjaiaaDoorChecked
import GoSem.Claim
import GoSem.ClaimJoined
import GoSem.ClaimMapViews
import Derived.JoinedTies
import Derived.KernelRfl
namespace Go.Proofs.YtepoahinnfjaiaaDoor
/- THE CELL 'sum', in the pinned program and in every row, IS THE sha256 OF THE DUMP (.gsa) THAT YtepoahinnfjaiaaDoorProg.lean LOADS. Nothing in Lean hashes anything: it is a label: what it is worth is what the hold of that sum in a sandbox is worth. -/
noncomputable def Tryd.pinned : Pinned := { name := "ytepoahinnfjaiaadoor", sum := "a20bf67ddb7aca7aac3842d86ad2453f8409cdf5fa5743a2e6bf1d7496c72572", checked := Tryd.checked }
namespace Rows
def none {H : Type} : Left H := { results := [], args := [] }

/- WHAT THE LISTED PACKAGE-LEVEL VARIABLES READ AS WHEN THE CALL BEGINS. Each datum BY PROGRAM (the guide's laid-datum.mjs) off the statement by which the dump's own 'gosem.cut.vars' lays the variable. In a bare row this is a premise. The card (YtepoahinnfjaiaaDoorCards.lean) ties it to the program's text. -/
def laid_errors_errorType {H : Type} : DataW H := .iface "internal/reflectlite.rtype" (.agg [.ptr (.lit (.string [101, 114, 114, 111, 114]))])
def laid_math_bits_deBruijn32tab {H : Type} : DataW H := .agg [.lit (.int .u8 0), .lit (.int .u8 1), .lit (.int .u8 28), .lit (.int .u8 2), .lit (.int .u8 29), .lit (.int .u8 14), .lit (.int .u8 24), .lit (.int .u8 3), .lit (.int .u8 30), .lit (.int .u8 22), .lit (.int .u8 20), .lit (.int .u8 15), .lit (.int .u8 25), .lit (.int .u8 17), .lit (.int .u8 4), .lit (.int .u8 8), .lit (.int .u8 31), .lit (.int .u8 27), .lit (.int .u8 13), .lit (.int .u8 23), .lit (.int .u8 21), .lit (.int .u8 19), .lit (.int .u8 16), .lit (.int .u8 7), .lit (.int .u8 26), .lit (.int .u8 12), .lit (.int .u8 18), .lit (.int .u8 6), .lit (.int .u8 11), .lit (.int .u8 5), .lit (.int .u8 10), .lit (.int .u8 9)]
def laid_math_bits_deBruijn64tab {H : Type} : DataW H := .agg [.lit (.int .u8 0), .lit (.int .u8 1), .lit (.int .u8 56), .lit (.int .u8 2), .lit (.int .u8 57), .lit (.int .u8 49), .lit (.int .u8 28), .lit (.int .u8 3), .lit (.int .u8 61), .lit (.int .u8 58), .lit (.int .u8 42), .lit (.int .u8 50), .lit (.int .u8 38), .lit (.int .u8 29), .lit (.int .u8 17), .lit (.int .u8 4), .lit (.int .u8 62), .lit (.int .u8 47), .lit (.int .u8 59), .lit (.int .u8 36), .lit (.int .u8 45), .lit (.int .u8 43), .lit (.int .u8 51), .lit (.int .u8 22), .lit (.int .u8 53), .lit (.int .u8 39), .lit (.int .u8 33), .lit (.int .u8 30), .lit (.int .u8 24), .lit (.int .u8 18), .lit (.int .u8 12), .lit (.int .u8 5), .lit (.int .u8 63), .lit (.int .u8 55), .lit (.int .u8 48), .lit (.int .u8 27), .lit (.int .u8 60), .lit (.int .u8 41), .lit (.int .u8 37), .lit (.int .u8 16), .lit (.int .u8 46), .lit (.int .u8 35), .lit (.int .u8 44), .lit (.int .u8 21), .lit (.int .u8 52), .lit (.int .u8 32), .lit (.int .u8 23), .lit (.int .u8 11), .lit (.int .u8 54), .lit (.int .u8 26), .lit (.int .u8 40), .lit (.int .u8 15), .lit (.int .u8 34), .lit (.int .u8 20), .lit (.int .u8 31), .lit (.int .u8 10), .lit (.int .u8 25), .lit (.int .u8 14), .lit (.int .u8 19), .lit (.int .u8 9), .lit (.int .u8 13), .lit (.int .u8 8), .lit (.int .u8 7), .lit (.int .u8 6)]
def laid_internal_strconv_uint64pow10 {H : Type} : DataW H := .agg [.lit (.int .u64 1), .lit (.int .u64 10), .lit (.int .u64 100), .lit (.int .u64 1000), .lit (.int .u64 10000), .lit (.int .u64 100000), .lit (.int .u64 1000000), .lit (.int .u64 10000000), .lit (.int .u64 100000000), .lit (.int .u64 1000000000), .lit (.int .u64 10000000000), .lit (.int .u64 100000000000), .lit (.int .u64 1000000000000), .lit (.int .u64 10000000000000), .lit (.int .u64 100000000000000), .lit (.int .u64 1000000000000000), .lit (.int .u64 10000000000000000), .lit (.int .u64 100000000000000000), .lit (.int .u64 1000000000000000000), .lit (.int .u64 10000000000000000000)]
def laid_quadrille_story_names {H : Type} : DataW H := .agg [.lit (.string []), .lit (.string [99, 97, 109, 101]), .lit (.string [103, 111, 110, 101]), .lit (.string [116, 111, 108, 100])]

/-- 'quadrillelaw.PartChecks': WHATEVER THE INPUT: true; the input reads as it did. -/
def partChecksSpec : ChangeSpec := { name := "partChecks", fn := fun _ => fun
  | [d1, d2, d3] => { results := [.lit (.bool true)], args := [d1, d2, d3] }
  | _ => none }
def partChecksRow : OpenClaim := { program := "ytepoahinnfjaiaadoor", sum := "a20bf67ddb7aca7aac3842d86ad2453f8409cdf5fa5743a2e6bf1d7496c72572", func := "quadrille/quadrillelaw.PartChecks", spec := "partChecks", inPlace := ["internal/reflectlite.ValueOf", "(internal/reflectlite.Value).Type", "(internal/reflectlite.Value).IsNil", "internal/reflectlite.TypeOf", "(internal/reflectlite.Value).Elem", "(internal/reflectlite.Value).Set"], unfollowed := true, recurses := true, named := ["errors.errorType"], plainKeys := false, apart := false, laid := [("errors.errorType", laid_errors_errorType)] }
def PartChecksSaid : Prop := partChecksRow.holds Tryd.pinned (OpenSpec.ofChange partChecksSpec)

/-- ITS FALSE NEIGHBOUR: 'it returns false'. Refute it at one input. -/
def partChecksWrong : ChangeSpec := { name := "partChecks", fn := fun _ => fun
  | [d1, d2, d3] => { results := [.lit (.bool false)], args := [d1, d2, d3] }
  | _ => none }
def PartChecksWrongFalsely : Prop := partChecksRow.holds Tryd.pinned (OpenSpec.ofChange partChecksWrong)

/-- 'quadrillelaw.MemNews': WHATEVER THE INPUT: true; the input reads as it did. -/
def memNewsSpec : ChangeSpec := { name := "memNews", fn := fun _ => fun
  | [d] => { results := [.lit (.bool true)], args := [d] }
  | _ => none }
def memNewsRow : OpenClaim := { program := "ytepoahinnfjaiaadoor", sum := "a20bf67ddb7aca7aac3842d86ad2453f8409cdf5fa5743a2e6bf1d7496c72572", func := "quadrille/quadrillelaw.MemNews", spec := "memNews", inPlace := ["internal/reflectlite.ValueOf", "(internal/reflectlite.Value).Type", "(internal/reflectlite.Value).IsNil", "internal/reflectlite.TypeOf", "(internal/reflectlite.Value).Elem", "(internal/reflectlite.Value).Set"], unfollowed := true, recurses := true, named := ["errors.errorType"], plainKeys := false, apart := false, laid := [("errors.errorType", laid_errors_errorType)] }
def MemNewsSaid : Prop := memNewsRow.holds Tryd.pinned (OpenSpec.ofChange memNewsSpec)

/-- ITS FALSE NEIGHBOUR: 'it returns false'. Refute it at one input. -/
def memNewsWrong : ChangeSpec := { name := "memNews", fn := fun _ => fun
  | [d] => { results := [.lit (.bool false)], args := [d] }
  | _ => none }
def MemNewsWrongFalsely : Prop := memNewsRow.holds Tryd.pinned (OpenSpec.ofChange memNewsWrong)

/-- 'quadrillelaw.PackedWords': WHATEVER THE INPUT: true; the input reads as it did. -/
def packedWordsSpec : ChangeSpec := { name := "packedWords", fn := fun _ => fun
  | [d1, d2] => { results := [.lit (.bool true)], args := [d1, d2] }
  | _ => none }
def packedWordsRow : OpenClaim := { program := "ytepoahinnfjaiaadoor", sum := "a20bf67ddb7aca7aac3842d86ad2453f8409cdf5fa5743a2e6bf1d7496c72572", func := "quadrille/quadrillelaw.PackedWords", spec := "packedWords", inPlace := ["internal/reflectlite.ValueOf", "(internal/reflectlite.Value).Type", "(internal/reflectlite.Value).IsNil", "internal/reflectlite.TypeOf", "(internal/reflectlite.Value).Elem", "(internal/reflectlite.Value).Set"], unfollowed := true, recurses := true, named := ["errors.errorType"], plainKeys := false, apart := false, laid := [("errors.errorType", laid_errors_errorType)] }
def PackedWordsSaid : Prop := packedWordsRow.holds Tryd.pinned (OpenSpec.ofChange packedWordsSpec)

/-- ITS FALSE NEIGHBOUR: 'it returns false'. Refute it at one input. -/
def packedWordsWrong : ChangeSpec := { name := "packedWords", fn := fun _ => fun
  | [d1, d2] => { results := [.lit (.bool false)], args := [d1, d2] }
  | _ => none }
def PackedWordsWrongFalsely : Prop := packedWordsRow.holds Tryd.pinned (OpenSpec.ofChange packedWordsWrong)

/-- 'quadrillelaw.FairIs': WHATEVER THE INPUT: true; the input reads as it did. -/
def fairIsSpec : ChangeSpec := { name := "fairIs", fn := fun _ => fun
  | [d1, d2, d3, d4] => { results := [.lit (.bool true)], args := [d1, d2, d3, d4] }
  | _ => none }
def fairIsRow : OpenClaim := { program := "ytepoahinnfjaiaadoor", sum := "a20bf67ddb7aca7aac3842d86ad2453f8409cdf5fa5743a2e6bf1d7496c72572", func := "quadrille/quadrillelaw.FairIs", spec := "fairIs", inPlace := ["internal/reflectlite.ValueOf", "(internal/reflectlite.Value).Type", "(internal/reflectlite.Value).IsNil", "internal/reflectlite.TypeOf", "(internal/reflectlite.Value).Elem", "(internal/reflectlite.Value).Set"], unfollowed := true, recurses := true, named := ["errors.errorType"], plainKeys := false, apart := false, laid := [("errors.errorType", laid_errors_errorType)] }
def FairIsSaid : Prop := fairIsRow.holds Tryd.pinned (OpenSpec.ofChange fairIsSpec)

/-- ITS FALSE NEIGHBOUR: 'it returns false'. Refute it at one input. -/
def fairIsWrong : ChangeSpec := { name := "fairIs", fn := fun _ => fun
  | [d1, d2, d3, d4] => { results := [.lit (.bool false)], args := [d1, d2, d3, d4] }
  | _ => none }
def FairIsWrongFalsely : Prop := fairIsRow.holds Tryd.pinned (OpenSpec.ofChange fairIsWrong)

/-- 'quadrillelaw.ScriptBytes': WHATEVER THE INPUT: true; the input reads as it did. -/
def scriptBytesSpec : ChangeSpec := { name := "scriptBytes", fn := fun _ => fun
  | [d1, d2] => { results := [.lit (.bool true)], args := [d1, d2] }
  | _ => none }
def scriptBytesRow : OpenClaim := { program := "ytepoahinnfjaiaadoor", sum := "a20bf67ddb7aca7aac3842d86ad2453f8409cdf5fa5743a2e6bf1d7496c72572", func := "quadrille/quadrillelaw.ScriptBytes", spec := "scriptBytes", inPlace := ["internal/reflectlite.ValueOf", "(internal/reflectlite.Value).Type", "(internal/reflectlite.Value).IsNil", "internal/reflectlite.TypeOf", "(internal/reflectlite.Value).Elem", "(internal/reflectlite.Value).Set"], unfollowed := true, recurses := true, named := ["errors.errorType"], plainKeys := false, apart := false, laid := [("errors.errorType", laid_errors_errorType)] }
def ScriptBytesSaid : Prop := scriptBytesRow.holds Tryd.pinned (OpenSpec.ofChange scriptBytesSpec)

/-- ITS FALSE NEIGHBOUR: 'it returns false'. Refute it at one input. -/
def scriptBytesWrong : ChangeSpec := { name := "scriptBytes", fn := fun _ => fun
  | [d1, d2] => { results := [.lit (.bool false)], args := [d1, d2] }
  | _ => none }
def ScriptBytesWrongFalsely : Prop := scriptBytesRow.holds Tryd.pinned (OpenSpec.ofChange scriptBytesWrong)

/-- 'quadrillelaw.JudgeChecks': WHATEVER THE INPUT: true; the input reads as it did. -/
def judgeChecksSpec : ChangeSpec := { name := "judgeChecks", fn := fun _ => fun
  | [d1, d2] => { results := [.lit (.bool true)], args := [d1, d2] }
  | _ => none }
def judgeChecksRow : OpenClaim := { program := "ytepoahinnfjaiaadoor", sum := "a20bf67ddb7aca7aac3842d86ad2453f8409cdf5fa5743a2e6bf1d7496c72572", func := "quadrille/quadrillelaw.JudgeChecks", spec := "judgeChecks", inPlace := ["internal/reflectlite.ValueOf", "(internal/reflectlite.Value).Type", "(internal/reflectlite.Value).IsNil", "internal/reflectlite.TypeOf", "(internal/reflectlite.Value).Elem", "(internal/reflectlite.Value).Set"], unfollowed := true, recurses := true, named := ["errors.errorType"], plainKeys := false, apart := false, laid := [("errors.errorType", laid_errors_errorType)] }
def JudgeChecksSaid : Prop := judgeChecksRow.holds Tryd.pinned (OpenSpec.ofChange judgeChecksSpec)

/-- ITS FALSE NEIGHBOUR: 'it returns false'. Refute it at one input. -/
def judgeChecksWrong : ChangeSpec := { name := "judgeChecks", fn := fun _ => fun
  | [d1, d2] => { results := [.lit (.bool false)], args := [d1, d2] }
  | _ => none }
def JudgeChecksWrongFalsely : Prop := judgeChecksRow.holds Tryd.pinned (OpenSpec.ofChange judgeChecksWrong)

/-- 'quadrillelaw.PhaserDoes': WHATEVER THE INPUT: true; the input reads as it did. -/
def phaserDoesSpec : ChangeSpec := { name := "phaserDoes", fn := fun _ => fun
  | [d1, d2] => { results := [.lit (.bool true)], args := [d1, d2] }
  | _ => none }
def phaserDoesRow : OpenClaim := { program := "ytepoahinnfjaiaadoor", sum := "a20bf67ddb7aca7aac3842d86ad2453f8409cdf5fa5743a2e6bf1d7496c72572", func := "quadrille/quadrillelaw.PhaserDoes", spec := "phaserDoes", inPlace := ["internal/reflectlite.ValueOf", "(internal/reflectlite.Value).Type", "(internal/reflectlite.Value).IsNil", "internal/reflectlite.TypeOf", "(internal/reflectlite.Value).Elem", "(internal/reflectlite.Value).Set"], unfollowed := true, recurses := true, named := ["errors.errorType"], plainKeys := false, apart := false, laid := [("errors.errorType", laid_errors_errorType)] }
def PhaserDoesSaid : Prop := phaserDoesRow.holds Tryd.pinned (OpenSpec.ofChange phaserDoesSpec)

/-- ITS FALSE NEIGHBOUR: 'it returns false'. Refute it at one input. -/
def phaserDoesWrong : ChangeSpec := { name := "phaserDoes", fn := fun _ => fun
  | [d1, d2] => { results := [.lit (.bool false)], args := [d1, d2] }
  | _ => none }
def PhaserDoesWrongFalsely : Prop := phaserDoesRow.holds Tryd.pinned (OpenSpec.ofChange phaserDoesWrong)

/-- 'quadrillelaw.LinReplays': WHATEVER THE INPUT: true; the input reads as it did. -/
def linReplaysSpec : ChangeSpec := { name := "linReplays", fn := fun _ => fun
  | [d1, d2, d3] => { results := [.lit (.bool true)], args := [d1, d2, d3] }
  | _ => none }
def linReplaysRow : OpenClaim := { program := "ytepoahinnfjaiaadoor", sum := "a20bf67ddb7aca7aac3842d86ad2453f8409cdf5fa5743a2e6bf1d7496c72572", func := "quadrille/quadrillelaw.LinReplays", spec := "linReplays", inPlace := ["internal/reflectlite.ValueOf", "(internal/reflectlite.Value).Type", "(internal/reflectlite.Value).IsNil", "internal/reflectlite.TypeOf", "(internal/reflectlite.Value).Elem", "(internal/reflectlite.Value).Set"], unfollowed := true, recurses := true, named := ["errors.errorType"], plainKeys := false, apart := false, laid := [("errors.errorType", laid_errors_errorType)] }
def LinReplaysSaid : Prop := linReplaysRow.holds Tryd.pinned (OpenSpec.ofChange linReplaysSpec)

/-- ITS FALSE NEIGHBOUR: 'it returns false'. Refute it at one input. -/
def linReplaysWrong : ChangeSpec := { name := "linReplays", fn := fun _ => fun
  | [d1, d2, d3] => { results := [.lit (.bool false)], args := [d1, d2, d3] }
  | _ => none }
def LinReplaysWrongFalsely : Prop := linReplaysRow.holds Tryd.pinned (OpenSpec.ofChange linReplaysWrong)

/-- 'quadrillelaw.ParkNaps': WHATEVER THE INPUT: true; the input reads as it did. -/
def parkNapsSpec : ChangeSpec := { name := "parkNaps", fn := fun _ => fun
  | [d1, d2] => { results := [.lit (.bool true)], args := [d1, d2] }
  | _ => none }
def parkNapsRow : OpenClaim := { program := "ytepoahinnfjaiaadoor", sum := "a20bf67ddb7aca7aac3842d86ad2453f8409cdf5fa5743a2e6bf1d7496c72572", func := "quadrille/quadrillelaw.ParkNaps", spec := "parkNaps", inPlace := ["internal/reflectlite.ValueOf", "(internal/reflectlite.Value).Type", "(internal/reflectlite.Value).IsNil", "internal/reflectlite.TypeOf", "(internal/reflectlite.Value).Elem", "(internal/reflectlite.Value).Set"], unfollowed := true, recurses := true, named := ["errors.errorType"], plainKeys := false, apart := false, laid := [("errors.errorType", laid_errors_errorType)] }
def ParkNapsSaid : Prop := parkNapsRow.holds Tryd.pinned (OpenSpec.ofChange parkNapsSpec)

/-- ITS FALSE NEIGHBOUR: 'it returns false'. Refute it at one input. -/
def parkNapsWrong : ChangeSpec := { name := "parkNaps", fn := fun _ => fun
  | [d1, d2] => { results := [.lit (.bool false)], args := [d1, d2] }
  | _ => none }
def ParkNapsWrongFalsely : Prop := parkNapsRow.holds Tryd.pinned (OpenSpec.ofChange parkNapsWrong)

/-- 'quadrillelaw.StoryPrints': WHATEVER THE INPUT: true; the input reads as it did. -/
def storyPrintsSpec : ChangeSpec := { name := "storyPrints", fn := fun _ => fun
  | [d] => { results := [.lit (.bool true)], args := [d] }
  | _ => none }
def storyPrintsRow : OpenClaim := { program := "ytepoahinnfjaiaadoor", sum := "a20bf67ddb7aca7aac3842d86ad2453f8409cdf5fa5743a2e6bf1d7496c72572", func := "quadrille/quadrillelaw.StoryPrints", spec := "storyPrints", inPlace := ["internal/abi.NoEscape", "internal/reflectlite.ValueOf", "(internal/reflectlite.Value).Type", "(internal/reflectlite.Value).IsNil", "internal/reflectlite.TypeOf", "(internal/reflectlite.Value).Elem", "(internal/reflectlite.Value).Set"], unfollowed := true, recurses := true, named := ["internal/strconv.uint64pow10", "math/bits.deBruijn32tab", "math/bits.deBruijn64tab", "quadrille/story.names", "errors.errorType"], plainKeys := false, apart := false, laid := [("math/bits.deBruijn32tab", laid_math_bits_deBruijn32tab), ("math/bits.deBruijn64tab", laid_math_bits_deBruijn64tab), ("internal/strconv.uint64pow10", laid_internal_strconv_uint64pow10), ("errors.errorType", laid_errors_errorType), ("quadrille/story.names", laid_quadrille_story_names)] }
def StoryPrintsSaid : Prop := storyPrintsRow.holds Tryd.pinned (OpenSpec.ofChange storyPrintsSpec)

/-- ITS FALSE NEIGHBOUR: 'it returns false'. Refute it at one input. -/
def storyPrintsWrong : ChangeSpec := { name := "storyPrints", fn := fun _ => fun
  | [d] => { results := [.lit (.bool false)], args := [d] }
  | _ => none }
def StoryPrintsWrongFalsely : Prop := storyPrintsRow.holds Tryd.pinned (OpenSpec.ofChange storyPrintsWrong)

/-- 'quadrillelaw.MemTouches': WHATEVER THE INPUT: true; the input reads as it did. -/
def memTouchesSpec : ChangeSpec := { name := "memTouches", fn := fun _ => fun
  | [d1, d2] => { results := [.lit (.bool true)], args := [d1, d2] }
  | _ => none }
def memTouchesRow : OpenClaim := { program := "ytepoahinnfjaiaadoor", sum := "a20bf67ddb7aca7aac3842d86ad2453f8409cdf5fa5743a2e6bf1d7496c72572", func := "quadrille/quadrillelaw.MemTouches", spec := "memTouches", inPlace := ["internal/reflectlite.ValueOf", "(internal/reflectlite.Value).Type", "(internal/reflectlite.Value).IsNil", "internal/reflectlite.TypeOf", "(internal/reflectlite.Value).Elem", "(internal/reflectlite.Value).Set", "math/bits.Add64"], unfollowed := true, recurses := true, named := ["errors.errorType", "internal/strconv.uint64pow10", "math/bits.deBruijn32tab", "math/bits.deBruijn64tab"], plainKeys := false, apart := false, laid := [("math/bits.deBruijn32tab", laid_math_bits_deBruijn32tab), ("math/bits.deBruijn64tab", laid_math_bits_deBruijn64tab), ("internal/strconv.uint64pow10", laid_internal_strconv_uint64pow10), ("errors.errorType", laid_errors_errorType)] }
def MemTouchesSaid : Prop := memTouchesRow.holds Tryd.pinned (OpenSpec.ofChange memTouchesSpec)

/-- ITS FALSE NEIGHBOUR: 'it returns false'. Refute it at one input. -/
def memTouchesWrong : ChangeSpec := { name := "memTouches", fn := fun _ => fun
  | [d1, d2] => { results := [.lit (.bool false)], args := [d1, d2] }
  | _ => none }
def MemTouchesWrongFalsely : Prop := memTouchesRow.holds Tryd.pinned (OpenSpec.ofChange memTouchesWrong)

/- THE SECOND FORM. 'bulk': how many values and letters a reading holds, each counted each time it is reached (what is shared counts as often as it is met; a slice's spare places count too). A statement '..UptoSaid' is the law's where the arguments, and the package variables that the reading takes, are together of bulk at most 1048576: NARROWER than '..Said'. Prove '..Said' where nothing that the law and all that it calls make is longer than what came in: it says more and counts as full. Else prove '..UptoSaid'. A law counts once. -/
mutual
def uptoBulk {H : Type} : DataW H → Nat
  | .lit (.string bytes) => bytes.length + 1
  | .lit _ => 1
  | .nil => 1
  | .ptr d => uptoBulk d + 1
  | .slice elems spare => uptoBulkAll elems + uptoBulkAll spare + 1
  | .agg parts => uptoBulkAll parts + 1
  | .iface _ d => uptoBulk d + 1
  | .map entries => uptoBulkEntries entries + 1
  | .held _ => 1
def uptoBulkAll {H : Type} : List (DataW H) → Nat
  | [] => 0
  | d :: r => uptoBulk d + uptoBulkAll r
def uptoBulkEntries {H : Type} : List (Lit × DataW H) → Nat
  | [] => 0
  | x :: r => uptoBulkEntry x + uptoBulkEntries r
def uptoBulkEntry {H : Type} : Lit × DataW H → Nat
  | (.string bytes, d) => bytes.length + uptoBulk d + 1
  | (_, d) => uptoBulk d + 1
 end
def uptoSmall : (H : Type) → List (DataW H) → Bool := fun _ ds => decide (uptoBulkAll ds ≤ 1048576)
def OpenSpec.upto (s : _root_.Go.ChangeSpec) : _root_.Go.OpenSpec := { _root_.Go.OpenSpec.ofChange s with cond := some uptoSmall }

/-- 'quadrillelaw.PartChecks', WHERE WHAT IT READS IS OF BULK AT MOST 1048576: true; the input reads as it did. -/
def partChecksUptoRow : OpenClaim := { program := "ytepoahinnfjaiaadoor", sum := "a20bf67ddb7aca7aac3842d86ad2453f8409cdf5fa5743a2e6bf1d7496c72572", func := "quadrille/quadrillelaw.PartChecks", spec := "partChecks", inPlace := ["internal/reflectlite.ValueOf", "(internal/reflectlite.Value).Type", "(internal/reflectlite.Value).IsNil", "internal/reflectlite.TypeOf", "(internal/reflectlite.Value).Elem", "(internal/reflectlite.Value).Set"], unfollowed := true, recurses := true, named := ["errors.errorType"], plainKeys := false, apart := false, laid := [("errors.errorType", laid_errors_errorType)], narrowed := true }
def PartChecksUptoSaid : Prop := partChecksUptoRow.holds Tryd.pinned (OpenSpec.upto partChecksSpec)

/-- 'quadrillelaw.MemNews', WHERE WHAT IT READS IS OF BULK AT MOST 1048576: true; the input reads as it did. -/
def memNewsUptoRow : OpenClaim := { program := "ytepoahinnfjaiaadoor", sum := "a20bf67ddb7aca7aac3842d86ad2453f8409cdf5fa5743a2e6bf1d7496c72572", func := "quadrille/quadrillelaw.MemNews", spec := "memNews", inPlace := ["internal/reflectlite.ValueOf", "(internal/reflectlite.Value).Type", "(internal/reflectlite.Value).IsNil", "internal/reflectlite.TypeOf", "(internal/reflectlite.Value).Elem", "(internal/reflectlite.Value).Set"], unfollowed := true, recurses := true, named := ["errors.errorType"], plainKeys := false, apart := false, laid := [("errors.errorType", laid_errors_errorType)], narrowed := true }
def MemNewsUptoSaid : Prop := memNewsUptoRow.holds Tryd.pinned (OpenSpec.upto memNewsSpec)

/-- 'quadrillelaw.PackedWords', WHERE WHAT IT READS IS OF BULK AT MOST 1048576: true; the input reads as it did. -/
def packedWordsUptoRow : OpenClaim := { program := "ytepoahinnfjaiaadoor", sum := "a20bf67ddb7aca7aac3842d86ad2453f8409cdf5fa5743a2e6bf1d7496c72572", func := "quadrille/quadrillelaw.PackedWords", spec := "packedWords", inPlace := ["internal/reflectlite.ValueOf", "(internal/reflectlite.Value).Type", "(internal/reflectlite.Value).IsNil", "internal/reflectlite.TypeOf", "(internal/reflectlite.Value).Elem", "(internal/reflectlite.Value).Set"], unfollowed := true, recurses := true, named := ["errors.errorType"], plainKeys := false, apart := false, laid := [("errors.errorType", laid_errors_errorType)], narrowed := true }
def PackedWordsUptoSaid : Prop := packedWordsUptoRow.holds Tryd.pinned (OpenSpec.upto packedWordsSpec)

/-- 'quadrillelaw.FairIs', WHERE WHAT IT READS IS OF BULK AT MOST 1048576: true; the input reads as it did. -/
def fairIsUptoRow : OpenClaim := { program := "ytepoahinnfjaiaadoor", sum := "a20bf67ddb7aca7aac3842d86ad2453f8409cdf5fa5743a2e6bf1d7496c72572", func := "quadrille/quadrillelaw.FairIs", spec := "fairIs", inPlace := ["internal/reflectlite.ValueOf", "(internal/reflectlite.Value).Type", "(internal/reflectlite.Value).IsNil", "internal/reflectlite.TypeOf", "(internal/reflectlite.Value).Elem", "(internal/reflectlite.Value).Set"], unfollowed := true, recurses := true, named := ["errors.errorType"], plainKeys := false, apart := false, laid := [("errors.errorType", laid_errors_errorType)], narrowed := true }
def FairIsUptoSaid : Prop := fairIsUptoRow.holds Tryd.pinned (OpenSpec.upto fairIsSpec)

/-- 'quadrillelaw.ScriptBytes', WHERE WHAT IT READS IS OF BULK AT MOST 1048576: true; the input reads as it did. -/
def scriptBytesUptoRow : OpenClaim := { program := "ytepoahinnfjaiaadoor", sum := "a20bf67ddb7aca7aac3842d86ad2453f8409cdf5fa5743a2e6bf1d7496c72572", func := "quadrille/quadrillelaw.ScriptBytes", spec := "scriptBytes", inPlace := ["internal/reflectlite.ValueOf", "(internal/reflectlite.Value).Type", "(internal/reflectlite.Value).IsNil", "internal/reflectlite.TypeOf", "(internal/reflectlite.Value).Elem", "(internal/reflectlite.Value).Set"], unfollowed := true, recurses := true, named := ["errors.errorType"], plainKeys := false, apart := false, laid := [("errors.errorType", laid_errors_errorType)], narrowed := true }
def ScriptBytesUptoSaid : Prop := scriptBytesUptoRow.holds Tryd.pinned (OpenSpec.upto scriptBytesSpec)

/-- 'quadrillelaw.JudgeChecks', WHERE WHAT IT READS IS OF BULK AT MOST 1048576: true; the input reads as it did. -/
def judgeChecksUptoRow : OpenClaim := { program := "ytepoahinnfjaiaadoor", sum := "a20bf67ddb7aca7aac3842d86ad2453f8409cdf5fa5743a2e6bf1d7496c72572", func := "quadrille/quadrillelaw.JudgeChecks", spec := "judgeChecks", inPlace := ["internal/reflectlite.ValueOf", "(internal/reflectlite.Value).Type", "(internal/reflectlite.Value).IsNil", "internal/reflectlite.TypeOf", "(internal/reflectlite.Value).Elem", "(internal/reflectlite.Value).Set"], unfollowed := true, recurses := true, named := ["errors.errorType"], plainKeys := false, apart := false, laid := [("errors.errorType", laid_errors_errorType)], narrowed := true }
def JudgeChecksUptoSaid : Prop := judgeChecksUptoRow.holds Tryd.pinned (OpenSpec.upto judgeChecksSpec)

/-- 'quadrillelaw.PhaserDoes', WHERE WHAT IT READS IS OF BULK AT MOST 1048576: true; the input reads as it did. -/
def phaserDoesUptoRow : OpenClaim := { program := "ytepoahinnfjaiaadoor", sum := "a20bf67ddb7aca7aac3842d86ad2453f8409cdf5fa5743a2e6bf1d7496c72572", func := "quadrille/quadrillelaw.PhaserDoes", spec := "phaserDoes", inPlace := ["internal/reflectlite.ValueOf", "(internal/reflectlite.Value).Type", "(internal/reflectlite.Value).IsNil", "internal/reflectlite.TypeOf", "(internal/reflectlite.Value).Elem", "(internal/reflectlite.Value).Set"], unfollowed := true, recurses := true, named := ["errors.errorType"], plainKeys := false, apart := false, laid := [("errors.errorType", laid_errors_errorType)], narrowed := true }
def PhaserDoesUptoSaid : Prop := phaserDoesUptoRow.holds Tryd.pinned (OpenSpec.upto phaserDoesSpec)

/-- 'quadrillelaw.LinReplays', WHERE WHAT IT READS IS OF BULK AT MOST 1048576: true; the input reads as it did. -/
def linReplaysUptoRow : OpenClaim := { program := "ytepoahinnfjaiaadoor", sum := "a20bf67ddb7aca7aac3842d86ad2453f8409cdf5fa5743a2e6bf1d7496c72572", func := "quadrille/quadrillelaw.LinReplays", spec := "linReplays", inPlace := ["internal/reflectlite.ValueOf", "(internal/reflectlite.Value).Type", "(internal/reflectlite.Value).IsNil", "internal/reflectlite.TypeOf", "(internal/reflectlite.Value).Elem", "(internal/reflectlite.Value).Set"], unfollowed := true, recurses := true, named := ["errors.errorType"], plainKeys := false, apart := false, laid := [("errors.errorType", laid_errors_errorType)], narrowed := true }
def LinReplaysUptoSaid : Prop := linReplaysUptoRow.holds Tryd.pinned (OpenSpec.upto linReplaysSpec)

/-- 'quadrillelaw.ParkNaps', WHERE WHAT IT READS IS OF BULK AT MOST 1048576: true; the input reads as it did. -/
def parkNapsUptoRow : OpenClaim := { program := "ytepoahinnfjaiaadoor", sum := "a20bf67ddb7aca7aac3842d86ad2453f8409cdf5fa5743a2e6bf1d7496c72572", func := "quadrille/quadrillelaw.ParkNaps", spec := "parkNaps", inPlace := ["internal/reflectlite.ValueOf", "(internal/reflectlite.Value).Type", "(internal/reflectlite.Value).IsNil", "internal/reflectlite.TypeOf", "(internal/reflectlite.Value).Elem", "(internal/reflectlite.Value).Set"], unfollowed := true, recurses := true, named := ["errors.errorType"], plainKeys := false, apart := false, laid := [("errors.errorType", laid_errors_errorType)], narrowed := true }
def ParkNapsUptoSaid : Prop := parkNapsUptoRow.holds Tryd.pinned (OpenSpec.upto parkNapsSpec)

/-- 'quadrillelaw.StoryPrints', WHERE WHAT IT READS IS OF BULK AT MOST 1048576: true; the input reads as it did. -/
def storyPrintsUptoRow : OpenClaim := { program := "ytepoahinnfjaiaadoor", sum := "a20bf67ddb7aca7aac3842d86ad2453f8409cdf5fa5743a2e6bf1d7496c72572", func := "quadrille/quadrillelaw.StoryPrints", spec := "storyPrints", inPlace := ["internal/abi.NoEscape", "internal/reflectlite.ValueOf", "(internal/reflectlite.Value).Type", "(internal/reflectlite.Value).IsNil", "internal/reflectlite.TypeOf", "(internal/reflectlite.Value).Elem", "(internal/reflectlite.Value).Set"], unfollowed := true, recurses := true, named := ["internal/strconv.uint64pow10", "math/bits.deBruijn32tab", "math/bits.deBruijn64tab", "quadrille/story.names", "errors.errorType"], plainKeys := false, apart := false, laid := [("math/bits.deBruijn32tab", laid_math_bits_deBruijn32tab), ("math/bits.deBruijn64tab", laid_math_bits_deBruijn64tab), ("internal/strconv.uint64pow10", laid_internal_strconv_uint64pow10), ("errors.errorType", laid_errors_errorType), ("quadrille/story.names", laid_quadrille_story_names)], narrowed := true }
def StoryPrintsUptoSaid : Prop := storyPrintsUptoRow.holds Tryd.pinned (OpenSpec.upto storyPrintsSpec)

/-- 'quadrillelaw.MemTouches', WHERE WHAT IT READS IS OF BULK AT MOST 1048576: true; the input reads as it did. -/
def memTouchesUptoRow : OpenClaim := { program := "ytepoahinnfjaiaadoor", sum := "a20bf67ddb7aca7aac3842d86ad2453f8409cdf5fa5743a2e6bf1d7496c72572", func := "quadrille/quadrillelaw.MemTouches", spec := "memTouches", inPlace := ["internal/reflectlite.ValueOf", "(internal/reflectlite.Value).Type", "(internal/reflectlite.Value).IsNil", "internal/reflectlite.TypeOf", "(internal/reflectlite.Value).Elem", "(internal/reflectlite.Value).Set", "math/bits.Add64"], unfollowed := true, recurses := true, named := ["errors.errorType", "internal/strconv.uint64pow10", "math/bits.deBruijn32tab", "math/bits.deBruijn64tab"], plainKeys := false, apart := false, laid := [("math/bits.deBruijn32tab", laid_math_bits_deBruijn32tab), ("math/bits.deBruijn64tab", laid_math_bits_deBruijn64tab), ("internal/strconv.uint64pow10", laid_internal_strconv_uint64pow10), ("errors.errorType", laid_errors_errorType)], narrowed := true }
def MemTouchesUptoSaid : Prop := memTouchesUptoRow.holds Tryd.pinned (OpenSpec.upto memTouchesSpec)

end Rows
end Go.Proofs.YtepoahinnfjaiaaDoor
