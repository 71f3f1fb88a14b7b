/-
  DERIVED. GIVEN WITH THE SEED: THE CARDS: each row of YtoiidngnlhhanaaDoorRows.lean that lists a variable, with what it lists TIED to the program's text (the seventh form; the later family's looks); each row that meets fmt, with fmt's text TOLD by the authors' own Lean function (tested against real Go, not proved from fmt's source: count such statements apart). THE CARD IS WHAT COUNTS. Prove the row's statement (the work); the ties are given (YtoiidngnlhhanaaDoorTie.lean); close each card by the builder's one call (the guide's Derived/Test/ToyasCard.lean, 'card_holds'). Laid BY PROGRAM, IN A SANDBOX (cutbox-door.mjs). By AI agents, Wed Nov 11 2026. No macro, syntax, notation, axiom, sorry.
-/
import Derived.Test.YtoiidngnlhhanaaDoorRows
import GoSem.ClaimSeven
namespace Go.Proofs.YtoiidngnlhhanaaDoor
namespace Rows

/-- THE TIED CARD OF 'brambleweirtop.TopOrders'. -/
def topOrdersCard : Claim7 := { stood := { row := topOrdersRow, standIns := [], harness := (true, "bfedfd577a8d72b4ad3054a0aa39275464a82f6df8a2f25ae845de51e54f2994"), looks := true }, kinds := [], alts := [], laidByText := true, laidKinds := [.handle], laidTests := true, laidLooks := .later }
def TopOrdersCardSaid : Prop := Claim7.holds Tryd.pinned (.plain (OpenSpec.ofChange topOrdersSpec)) topOrdersCard

/-- THE TIED CARD OF 'brambleweirtop.TopBeaten'. -/
def topBeatenCard : Claim7 := { stood := { row := topBeatenRow, standIns := [], harness := (true, "bfedfd577a8d72b4ad3054a0aa39275464a82f6df8a2f25ae845de51e54f2994"), looks := true }, kinds := [], alts := [], laidByText := true, laidKinds := [.handle], laidTests := true, laidLooks := .later }
def TopBeatenCardSaid : Prop := Claim7.holds Tryd.pinned (.plain (OpenSpec.ofChange topBeatenSpec)) topBeatenCard

/-- THE SECOND FORM's CARD OF 'brambleweirtop.TopOrders'. -/
def topOrdersUptoCard : Claim7 := { stood := { row := topOrdersUptoRow, standIns := [], harness := (true, "bfedfd577a8d72b4ad3054a0aa39275464a82f6df8a2f25ae845de51e54f2994"), looks := true }, kinds := [], alts := [], laidByText := true, laidKinds := [.handle], laidTests := true, laidLooks := .later }
def TopOrdersUptoCardSaid : Prop := Claim7.holds Tryd.pinned (.plain (OpenSpec.upto topOrdersSpec)) topOrdersUptoCard

/-- THE SECOND FORM's CARD OF 'brambleweirtop.TopBeaten'. -/
def topBeatenUptoCard : Claim7 := { stood := { row := topBeatenUptoRow, standIns := [], harness := (true, "bfedfd577a8d72b4ad3054a0aa39275464a82f6df8a2f25ae845de51e54f2994"), looks := true }, kinds := [], alts := [], laidByText := true, laidKinds := [.handle], laidTests := true, laidLooks := .later }
def TopBeatenUptoCardSaid : Prop := Claim7.holds Tryd.pinned (.plain (OpenSpec.upto topBeatenSpec)) topBeatenUptoCard
end Rows
end Go.Proofs.YtoiidngnlhhanaaDoor
