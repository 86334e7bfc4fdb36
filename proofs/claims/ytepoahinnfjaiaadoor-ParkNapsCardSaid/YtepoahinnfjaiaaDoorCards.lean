/-
  DERIVED. GIVEN WITH THE SEED: THE CARDS: each row of YtepoahinnfjaiaaDoorRows.lean that lists a variable, with what it lists TIED to the program's text (the seventh form; the later family's looks); each row that meets fmt, with fmt's text TOLD by the authors' own Lean function (tested against real Go, not proved from fmt's source: count such statements apart). THE CARD IS WHAT COUNTS. Prove the row's statement (the work); the ties are given (YtepoahinnfjaiaaDoorTie.lean); close each card by the builder's one call (the guide's Derived/Test/ToyasCard.lean, 'card_holds'). Laid BY PROGRAM, IN A SANDBOX (cutbox-door.mjs). By AI agents, Wed Nov 11 2026. No macro, syntax, notation, axiom, sorry.
-/
import Derived.Test.YtepoahinnfjaiaaDoorRows
import GoSem.ClaimSeven
namespace Go.Proofs.YtepoahinnfjaiaaDoor
namespace Rows

/-- THE TIED CARD OF 'quadrillelaw.PartChecks'. -/
def partChecksCard : Claim7 := { stood := { row := partChecksRow, standIns := [], harness := (true, "a11afc923c0dacaef70c4ea0d8d46930f36e5e35ed0e24c32dc0a292536b41a6"), looks := true }, kinds := [], alts := [], laidByText := true, laidKinds := [.handle], laidTests := true, laidLooks := .later }
def PartChecksCardSaid : Prop := Claim7.holds Tryd.pinned (.plain (OpenSpec.ofChange partChecksSpec)) partChecksCard

/-- THE TIED CARD OF 'quadrillelaw.MemNews'. -/
def memNewsCard : Claim7 := { stood := { row := memNewsRow, standIns := [], harness := (true, "a11afc923c0dacaef70c4ea0d8d46930f36e5e35ed0e24c32dc0a292536b41a6"), looks := true }, kinds := [], alts := [], laidByText := true, laidKinds := [.handle], laidTests := true, laidLooks := .later }
def MemNewsCardSaid : Prop := Claim7.holds Tryd.pinned (.plain (OpenSpec.ofChange memNewsSpec)) memNewsCard

/-- THE TIED CARD OF 'quadrillelaw.PackedWords'. -/
def packedWordsCard : Claim7 := { stood := { row := packedWordsRow, standIns := [], harness := (true, "a11afc923c0dacaef70c4ea0d8d46930f36e5e35ed0e24c32dc0a292536b41a6"), looks := true }, kinds := [], alts := [], laidByText := true, laidKinds := [.handle], laidTests := true, laidLooks := .later }
def PackedWordsCardSaid : Prop := Claim7.holds Tryd.pinned (.plain (OpenSpec.ofChange packedWordsSpec)) packedWordsCard

/-- THE TIED CARD OF 'quadrillelaw.FairIs'. -/
def fairIsCard : Claim7 := { stood := { row := fairIsRow, standIns := [], harness := (true, "a11afc923c0dacaef70c4ea0d8d46930f36e5e35ed0e24c32dc0a292536b41a6"), looks := true }, kinds := [], alts := [], laidByText := true, laidKinds := [.handle], laidTests := true, laidLooks := .later }
def FairIsCardSaid : Prop := Claim7.holds Tryd.pinned (.plain (OpenSpec.ofChange fairIsSpec)) fairIsCard

/-- THE TIED CARD OF 'quadrillelaw.ScriptBytes'. -/
def scriptBytesCard : Claim7 := { stood := { row := scriptBytesRow, standIns := [], harness := (true, "a11afc923c0dacaef70c4ea0d8d46930f36e5e35ed0e24c32dc0a292536b41a6"), looks := true }, kinds := [], alts := [], laidByText := true, laidKinds := [.handle], laidTests := true, laidLooks := .later }
def ScriptBytesCardSaid : Prop := Claim7.holds Tryd.pinned (.plain (OpenSpec.ofChange scriptBytesSpec)) scriptBytesCard

/-- THE TIED CARD OF 'quadrillelaw.JudgeChecks'. -/
def judgeChecksCard : Claim7 := { stood := { row := judgeChecksRow, standIns := [], harness := (true, "a11afc923c0dacaef70c4ea0d8d46930f36e5e35ed0e24c32dc0a292536b41a6"), looks := true }, kinds := [], alts := [], laidByText := true, laidKinds := [.handle], laidTests := true, laidLooks := .later }
def JudgeChecksCardSaid : Prop := Claim7.holds Tryd.pinned (.plain (OpenSpec.ofChange judgeChecksSpec)) judgeChecksCard

/-- THE TIED CARD OF 'quadrillelaw.PhaserDoes'. -/
def phaserDoesCard : Claim7 := { stood := { row := phaserDoesRow, standIns := [], harness := (true, "a11afc923c0dacaef70c4ea0d8d46930f36e5e35ed0e24c32dc0a292536b41a6"), looks := true }, kinds := [], alts := [], laidByText := true, laidKinds := [.handle], laidTests := true, laidLooks := .later }
def PhaserDoesCardSaid : Prop := Claim7.holds Tryd.pinned (.plain (OpenSpec.ofChange phaserDoesSpec)) phaserDoesCard

/-- THE TIED CARD OF 'quadrillelaw.LinReplays'. -/
def linReplaysCard : Claim7 := { stood := { row := linReplaysRow, standIns := [], harness := (true, "a11afc923c0dacaef70c4ea0d8d46930f36e5e35ed0e24c32dc0a292536b41a6"), looks := true }, kinds := [], alts := [], laidByText := true, laidKinds := [.handle], laidTests := true, laidLooks := .later }
def LinReplaysCardSaid : Prop := Claim7.holds Tryd.pinned (.plain (OpenSpec.ofChange linReplaysSpec)) linReplaysCard

/-- THE TIED CARD OF 'quadrillelaw.ParkNaps'. -/
def parkNapsCard : Claim7 := { stood := { row := parkNapsRow, standIns := [], harness := (true, "a11afc923c0dacaef70c4ea0d8d46930f36e5e35ed0e24c32dc0a292536b41a6"), looks := true }, kinds := [], alts := [], laidByText := true, laidKinds := [.handle], laidTests := true, laidLooks := .later }
def ParkNapsCardSaid : Prop := Claim7.holds Tryd.pinned (.plain (OpenSpec.ofChange parkNapsSpec)) parkNapsCard

/-- THE TIED CARD OF 'quadrillelaw.StoryPrints'. -/
def storyPrintsCard : Claim7 := { stood := { row := storyPrintsRow, standIns := [], harness := (true, "a11afc923c0dacaef70c4ea0d8d46930f36e5e35ed0e24c32dc0a292536b41a6"), looks := true }, kinds := [], alts := [], laidByText := true, laidKinds := [.data, .data, .data, .handle, .data], laidTests := true, laidLooks := .later }
def StoryPrintsCardSaid : Prop := Claim7.holds Tryd.pinned (.plain (OpenSpec.ofChange storyPrintsSpec)) storyPrintsCard

/-- THE TIED CARD OF 'quadrillelaw.MemTouches'. -/
def memTouchesCard : Claim7 := { stood := { row := memTouchesRow, standIns := [], harness := (true, "a11afc923c0dacaef70c4ea0d8d46930f36e5e35ed0e24c32dc0a292536b41a6"), looks := true }, kinds := [], alts := [], laidByText := true, laidKinds := [.data, .data, .data, .handle], laidTests := true, laidLooks := .later }
def MemTouchesCardSaid : Prop := Claim7.holds Tryd.pinned (.plain (OpenSpec.ofChange memTouchesSpec)) memTouchesCard

/-- THE SECOND FORM's CARD OF 'quadrillelaw.PartChecks'. -/
def partChecksUptoCard : Claim7 := { stood := { row := partChecksUptoRow, standIns := [], harness := (true, "a11afc923c0dacaef70c4ea0d8d46930f36e5e35ed0e24c32dc0a292536b41a6"), looks := true }, kinds := [], alts := [], laidByText := true, laidKinds := [.handle], laidTests := true, laidLooks := .later }
def PartChecksUptoCardSaid : Prop := Claim7.holds Tryd.pinned (.plain (OpenSpec.upto partChecksSpec)) partChecksUptoCard

/-- THE SECOND FORM's CARD OF 'quadrillelaw.MemNews'. -/
def memNewsUptoCard : Claim7 := { stood := { row := memNewsUptoRow, standIns := [], harness := (true, "a11afc923c0dacaef70c4ea0d8d46930f36e5e35ed0e24c32dc0a292536b41a6"), looks := true }, kinds := [], alts := [], laidByText := true, laidKinds := [.handle], laidTests := true, laidLooks := .later }
def MemNewsUptoCardSaid : Prop := Claim7.holds Tryd.pinned (.plain (OpenSpec.upto memNewsSpec)) memNewsUptoCard

/-- THE SECOND FORM's CARD OF 'quadrillelaw.PackedWords'. -/
def packedWordsUptoCard : Claim7 := { stood := { row := packedWordsUptoRow, standIns := [], harness := (true, "a11afc923c0dacaef70c4ea0d8d46930f36e5e35ed0e24c32dc0a292536b41a6"), looks := true }, kinds := [], alts := [], laidByText := true, laidKinds := [.handle], laidTests := true, laidLooks := .later }
def PackedWordsUptoCardSaid : Prop := Claim7.holds Tryd.pinned (.plain (OpenSpec.upto packedWordsSpec)) packedWordsUptoCard

/-- THE SECOND FORM's CARD OF 'quadrillelaw.FairIs'. -/
def fairIsUptoCard : Claim7 := { stood := { row := fairIsUptoRow, standIns := [], harness := (true, "a11afc923c0dacaef70c4ea0d8d46930f36e5e35ed0e24c32dc0a292536b41a6"), looks := true }, kinds := [], alts := [], laidByText := true, laidKinds := [.handle], laidTests := true, laidLooks := .later }
def FairIsUptoCardSaid : Prop := Claim7.holds Tryd.pinned (.plain (OpenSpec.upto fairIsSpec)) fairIsUptoCard

/-- THE SECOND FORM's CARD OF 'quadrillelaw.ScriptBytes'. -/
def scriptBytesUptoCard : Claim7 := { stood := { row := scriptBytesUptoRow, standIns := [], harness := (true, "a11afc923c0dacaef70c4ea0d8d46930f36e5e35ed0e24c32dc0a292536b41a6"), looks := true }, kinds := [], alts := [], laidByText := true, laidKinds := [.handle], laidTests := true, laidLooks := .later }
def ScriptBytesUptoCardSaid : Prop := Claim7.holds Tryd.pinned (.plain (OpenSpec.upto scriptBytesSpec)) scriptBytesUptoCard

/-- THE SECOND FORM's CARD OF 'quadrillelaw.JudgeChecks'. -/
def judgeChecksUptoCard : Claim7 := { stood := { row := judgeChecksUptoRow, standIns := [], harness := (true, "a11afc923c0dacaef70c4ea0d8d46930f36e5e35ed0e24c32dc0a292536b41a6"), looks := true }, kinds := [], alts := [], laidByText := true, laidKinds := [.handle], laidTests := true, laidLooks := .later }
def JudgeChecksUptoCardSaid : Prop := Claim7.holds Tryd.pinned (.plain (OpenSpec.upto judgeChecksSpec)) judgeChecksUptoCard

/-- THE SECOND FORM's CARD OF 'quadrillelaw.PhaserDoes'. -/
def phaserDoesUptoCard : Claim7 := { stood := { row := phaserDoesUptoRow, standIns := [], harness := (true, "a11afc923c0dacaef70c4ea0d8d46930f36e5e35ed0e24c32dc0a292536b41a6"), looks := true }, kinds := [], alts := [], laidByText := true, laidKinds := [.handle], laidTests := true, laidLooks := .later }
def PhaserDoesUptoCardSaid : Prop := Claim7.holds Tryd.pinned (.plain (OpenSpec.upto phaserDoesSpec)) phaserDoesUptoCard

/-- THE SECOND FORM's CARD OF 'quadrillelaw.LinReplays'. -/
def linReplaysUptoCard : Claim7 := { stood := { row := linReplaysUptoRow, standIns := [], harness := (true, "a11afc923c0dacaef70c4ea0d8d46930f36e5e35ed0e24c32dc0a292536b41a6"), looks := true }, kinds := [], alts := [], laidByText := true, laidKinds := [.handle], laidTests := true, laidLooks := .later }
def LinReplaysUptoCardSaid : Prop := Claim7.holds Tryd.pinned (.plain (OpenSpec.upto linReplaysSpec)) linReplaysUptoCard

/-- THE SECOND FORM's CARD OF 'quadrillelaw.ParkNaps'. -/
def parkNapsUptoCard : Claim7 := { stood := { row := parkNapsUptoRow, standIns := [], harness := (true, "a11afc923c0dacaef70c4ea0d8d46930f36e5e35ed0e24c32dc0a292536b41a6"), looks := true }, kinds := [], alts := [], laidByText := true, laidKinds := [.handle], laidTests := true, laidLooks := .later }
def ParkNapsUptoCardSaid : Prop := Claim7.holds Tryd.pinned (.plain (OpenSpec.upto parkNapsSpec)) parkNapsUptoCard

/-- THE SECOND FORM's CARD OF 'quadrillelaw.StoryPrints'. -/
def storyPrintsUptoCard : Claim7 := { stood := { row := storyPrintsUptoRow, standIns := [], harness := (true, "a11afc923c0dacaef70c4ea0d8d46930f36e5e35ed0e24c32dc0a292536b41a6"), looks := true }, kinds := [], alts := [], laidByText := true, laidKinds := [.data, .data, .data, .handle, .data], laidTests := true, laidLooks := .later }
def StoryPrintsUptoCardSaid : Prop := Claim7.holds Tryd.pinned (.plain (OpenSpec.upto storyPrintsSpec)) storyPrintsUptoCard

/-- THE SECOND FORM's CARD OF 'quadrillelaw.MemTouches'. -/
def memTouchesUptoCard : Claim7 := { stood := { row := memTouchesUptoRow, standIns := [], harness := (true, "a11afc923c0dacaef70c4ea0d8d46930f36e5e35ed0e24c32dc0a292536b41a6"), looks := true }, kinds := [], alts := [], laidByText := true, laidKinds := [.data, .data, .data, .handle], laidTests := true, laidLooks := .later }
def MemTouchesUptoCardSaid : Prop := Claim7.holds Tryd.pinned (.plain (OpenSpec.upto memTouchesSpec)) memTouchesUptoCard
end Rows
end Go.Proofs.YtepoahinnfjaiaaDoor
