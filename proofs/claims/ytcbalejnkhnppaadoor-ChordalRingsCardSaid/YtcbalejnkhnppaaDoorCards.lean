/-
  DERIVED. GIVEN WITH THE SEED: THE CARDS: each row of YtcbalejnkhnppaaDoorRows.lean that lists a variable, with what it lists TIED to the program's text (the seventh form; the later family's looks); each row that meets fmt, with fmt's text TOLD by the authors' own Lean function (tested against real Go, not proved from fmt's source: count such statements apart). THE CARD IS WHAT COUNTS. Prove the row's statement (the work); the ties are given (YtcbalejnkhnppaaDoorTie.lean); close each card by the builder's one call (the guide's Derived/Test/ToyasCard.lean, 'card_holds'). Laid BY PROGRAM, IN A SANDBOX (cutbox-door.mjs). By AI agents, Wed Nov 11 2026. No macro, syntax, notation, axiom, sorry.
-/
import Derived.Test.YtcbalejnkhnppaaDoorRows
import GoSem.ClaimSeven
namespace Go.Proofs.YtcbalejnkhnppaaDoor
namespace Rows

/-- THE TIED CARD OF 'brambleweirlaw3.ChordalRings'. -/
def chordalRingsCard : Claim7 := { stood := { row := chordalRingsRow, standIns := [], harness := (true, "6feb030b0c1eea3057dcd878525f0c38110da10a01f07ade2211860a6a259db0"), looks := true }, kinds := [], alts := [], laidByText := true, laidKinds := [.handle], laidTests := true, laidLooks := .later }
def ChordalRingsCardSaid : Prop := Claim7.holds Tryd.pinned (.plain (OpenSpec.ofChange chordalRingsSpec)) chordalRingsCard

/-- THE TIED CARD OF 'brambleweirlaw3.ChordalSays'. -/
def chordalSaysCard : Claim7 := { stood := { row := chordalSaysRow, standIns := [], harness := (true, "6feb030b0c1eea3057dcd878525f0c38110da10a01f07ade2211860a6a259db0"), looks := true }, kinds := [], alts := [], laidByText := true, laidKinds := [.handle], laidTests := true, laidLooks := .later }
def ChordalSaysCardSaid : Prop := Claim7.holds Tryd.pinned (.plain (OpenSpec.ofChange chordalSaysSpec)) chordalSaysCard

/-- THE TIED CARD OF 'brambleweirlaw3.ChordalTwo'. -/
def chordalTwoCard : Claim7 := { stood := { row := chordalTwoRow, standIns := [], harness := (true, "6feb030b0c1eea3057dcd878525f0c38110da10a01f07ade2211860a6a259db0"), looks := true }, kinds := [], alts := [], laidByText := true, laidKinds := [.handle], laidTests := true, laidLooks := .later }
def ChordalTwoCardSaid : Prop := Claim7.holds Tryd.pinned (.plain (OpenSpec.ofChange chordalTwoSpec)) chordalTwoCard

/-- THE TIED CARD OF 'brambleweirlaw3.ChordalLess'. -/
def chordalLessCard : Claim7 := { stood := { row := chordalLessRow, standIns := [], harness := (true, "6feb030b0c1eea3057dcd878525f0c38110da10a01f07ade2211860a6a259db0"), looks := true }, kinds := [], alts := [], laidByText := true, laidKinds := [.handle], laidTests := true, laidLooks := .later }
def ChordalLessCardSaid : Prop := Claim7.holds Tryd.pinned (.plain (OpenSpec.ofChange chordalLessSpec)) chordalLessCard

/-- THE SECOND FORM's CARD OF 'brambleweirlaw3.ChordalRings'. -/
def chordalRingsUptoCard : Claim7 := { stood := { row := chordalRingsUptoRow, standIns := [], harness := (true, "6feb030b0c1eea3057dcd878525f0c38110da10a01f07ade2211860a6a259db0"), looks := true }, kinds := [], alts := [], laidByText := true, laidKinds := [.handle], laidTests := true, laidLooks := .later }
def ChordalRingsUptoCardSaid : Prop := Claim7.holds Tryd.pinned (.plain (OpenSpec.upto chordalRingsSpec)) chordalRingsUptoCard

/-- THE SECOND FORM's CARD OF 'brambleweirlaw3.ChordalSays'. -/
def chordalSaysUptoCard : Claim7 := { stood := { row := chordalSaysUptoRow, standIns := [], harness := (true, "6feb030b0c1eea3057dcd878525f0c38110da10a01f07ade2211860a6a259db0"), looks := true }, kinds := [], alts := [], laidByText := true, laidKinds := [.handle], laidTests := true, laidLooks := .later }
def ChordalSaysUptoCardSaid : Prop := Claim7.holds Tryd.pinned (.plain (OpenSpec.upto chordalSaysSpec)) chordalSaysUptoCard

/-- THE SECOND FORM's CARD OF 'brambleweirlaw3.ChordalTwo'. -/
def chordalTwoUptoCard : Claim7 := { stood := { row := chordalTwoUptoRow, standIns := [], harness := (true, "6feb030b0c1eea3057dcd878525f0c38110da10a01f07ade2211860a6a259db0"), looks := true }, kinds := [], alts := [], laidByText := true, laidKinds := [.handle], laidTests := true, laidLooks := .later }
def ChordalTwoUptoCardSaid : Prop := Claim7.holds Tryd.pinned (.plain (OpenSpec.upto chordalTwoSpec)) chordalTwoUptoCard

/-- THE SECOND FORM's CARD OF 'brambleweirlaw3.ChordalLess'. -/
def chordalLessUptoCard : Claim7 := { stood := { row := chordalLessUptoRow, standIns := [], harness := (true, "6feb030b0c1eea3057dcd878525f0c38110da10a01f07ade2211860a6a259db0"), looks := true }, kinds := [], alts := [], laidByText := true, laidKinds := [.handle], laidTests := true, laidLooks := .later }
def ChordalLessUptoCardSaid : Prop := Claim7.holds Tryd.pinned (.plain (OpenSpec.upto chordalLessSpec)) chordalLessUptoCard
end Rows
end Go.Proofs.YtcbalejnkhnppaaDoor
