/-
  DERIVED. GIVEN WITH THE SEED: THE CARDS: each row of YtpcmofhmhggcoaaDoorRows.lean that lists a variable, with what it lists TIED to the program's text (the seventh form; the later family's looks); each row that meets fmt, with fmt's text TOLD by the authors' own Lean function (tested against real Go, not proved from fmt's source: count such statements apart). THE CARD IS WHAT COUNTS. Prove the row's statement (the work); the ties are given (YtpcmofhmhggcoaaDoorTie.lean); close each card by the builder's one call (the guide's Derived/Test/ToyasCard.lean, 'card_holds'). Laid BY PROGRAM, IN A SANDBOX (cutbox-door.mjs). By AI agents, Wed Nov 11 2026. No macro, syntax, notation, axiom, sorry.
-/
import Derived.Test.YtpcmofhmhggcoaaDoorRows
import GoSem.ClaimSeven
namespace Go.Proofs.YtpcmofhmhggcoaaDoor
namespace Rows

/-- THE TIED CARD OF 'brambleweirlaw3.CliqueSays'. -/
def cliqueSaysCard : Claim7 := { stood := { row := cliqueSaysRow, standIns := [], harness := (true, "130da78fc1654d024b83b2d13b9f9a584f2638dad16079385b5dd562392ab5b4"), looks := true }, kinds := [], alts := [], laidByText := true, laidKinds := [.handle], laidTests := true, laidLooks := .later }
def CliqueSaysCardSaid : Prop := Claim7.holds Tryd.pinned (.plain (OpenSpec.ofChange cliqueSaysSpec)) cliqueSaysCard

/-- THE TIED CARD OF 'brambleweirlaw3.CliqueOther'. -/
def cliqueOtherCard : Claim7 := { stood := { row := cliqueOtherRow, standIns := [], harness := (true, "130da78fc1654d024b83b2d13b9f9a584f2638dad16079385b5dd562392ab5b4"), looks := true }, kinds := [], alts := [], laidByText := true, laidKinds := [.handle], laidTests := true, laidLooks := .later }
def CliqueOtherCardSaid : Prop := Claim7.holds Tryd.pinned (.plain (OpenSpec.ofChange cliqueOtherSpec)) cliqueOtherCard

/-- THE SECOND FORM's CARD OF 'brambleweirlaw3.CliqueSays'. -/
def cliqueSaysUptoCard : Claim7 := { stood := { row := cliqueSaysUptoRow, standIns := [], harness := (true, "130da78fc1654d024b83b2d13b9f9a584f2638dad16079385b5dd562392ab5b4"), looks := true }, kinds := [], alts := [], laidByText := true, laidKinds := [.handle], laidTests := true, laidLooks := .later }
def CliqueSaysUptoCardSaid : Prop := Claim7.holds Tryd.pinned (.plain (OpenSpec.upto cliqueSaysSpec)) cliqueSaysUptoCard

/-- THE SECOND FORM's CARD OF 'brambleweirlaw3.CliqueOther'. -/
def cliqueOtherUptoCard : Claim7 := { stood := { row := cliqueOtherUptoRow, standIns := [], harness := (true, "130da78fc1654d024b83b2d13b9f9a584f2638dad16079385b5dd562392ab5b4"), looks := true }, kinds := [], alts := [], laidByText := true, laidKinds := [.handle], laidTests := true, laidLooks := .later }
def CliqueOtherUptoCardSaid : Prop := Claim7.holds Tryd.pinned (.plain (OpenSpec.upto cliqueOtherSpec)) cliqueOtherUptoCard
end Rows
end Go.Proofs.YtpcmofhmhggcoaaDoor
