/-
  DERIVED. GIVEN WITH THE SEED: THE CARDS: each row of YthnbbgmajdjgeaaDoorRows.lean that lists a variable, with what it lists TIED to the program's text (the seventh form; the later family's looks); each row that meets fmt, with fmt's text TOLD by the authors' own Lean function (tested against real Go, not proved from fmt's source: count such statements apart). THE CARD IS WHAT COUNTS. Prove the row's statement (the work); the ties are given (YthnbbgmajdjgeaaDoorTie.lean); close each card by the builder's one call (the guide's Derived/Test/ToyasCard.lean, 'card_holds'). Laid BY PROGRAM, IN A SANDBOX (cutbox-door.mjs). By AI agents, Wed Nov 11 2026. No macro, syntax, notation, axiom, sorry.
-/
import Derived.Test.YthnbbgmajdjgeaaDoorRows
import GoSem.ClaimSeven
namespace Go.Proofs.YthnbbgmajdjgeaaDoor
namespace Rows

/-- THE TIED CARD OF 'quadrillelaw.LinPoints'. -/
def linPointsCard : Claim7 := { stood := { row := linPointsRow, standIns := [], harness := (true, "9053c3f06dfd1e320e5b882d34121b7056dae62b776727cc2bbc86419ea6c8eb"), looks := true }, kinds := [], alts := [], laidByText := true, laidKinds := [.handle], laidTests := true, laidLooks := .later }
def LinPointsCardSaid : Prop := Claim7.holds Tryd.pinned (.plain (OpenSpec.ofChange linPointsSpec)) linPointsCard

/-- THE TIED CARD OF 'quadrillelaw.StoryParses'. -/
def storyParsesCard : Claim7 := { stood := { row := storyParsesRow, standIns := [], harness := (true, "9053c3f06dfd1e320e5b882d34121b7056dae62b776727cc2bbc86419ea6c8eb"), looks := true }, kinds := [], alts := [], laidByText := true, laidKinds := [.data, .data, .data, .data, .handle, .sentinel, .sentinel, .listed, .data, .data, .pinned], laidTests := true, laidLooks := .later }
def StoryParsesCardSaid : Prop := Claim7.holds Tryd.pinned (.plain (OpenSpec.ofChange storyParsesSpec)) storyParsesCard

/-- THE SECOND FORM's CARD OF 'quadrillelaw.LinPoints'. -/
def linPointsUptoCard : Claim7 := { stood := { row := linPointsUptoRow, standIns := [], harness := (true, "9053c3f06dfd1e320e5b882d34121b7056dae62b776727cc2bbc86419ea6c8eb"), looks := true }, kinds := [], alts := [], laidByText := true, laidKinds := [.handle], laidTests := true, laidLooks := .later }
def LinPointsUptoCardSaid : Prop := Claim7.holds Tryd.pinned (.plain (OpenSpec.upto linPointsSpec)) linPointsUptoCard

/-- THE SECOND FORM's CARD OF 'quadrillelaw.StoryParses'. -/
def storyParsesUptoCard : Claim7 := { stood := { row := storyParsesUptoRow, standIns := [], harness := (true, "9053c3f06dfd1e320e5b882d34121b7056dae62b776727cc2bbc86419ea6c8eb"), looks := true }, kinds := [], alts := [], laidByText := true, laidKinds := [.data, .data, .data, .data, .handle, .sentinel, .sentinel, .listed, .data, .data, .pinned], laidTests := true, laidLooks := .later }
def StoryParsesUptoCardSaid : Prop := Claim7.holds Tryd.pinned (.plain (OpenSpec.upto storyParsesSpec)) storyParsesUptoCard
end Rows
end Go.Proofs.YthnbbgmajdjgeaaDoor
