/-
  DERIVED. GIVEN WITH THE SEED: THE CARDS: each row of YtgabmidkonphdaaDoorRows.lean that lists a variable, with what it lists TIED to the program's text (the seventh form; the later family's looks); each row that meets fmt, with fmt's text TOLD by the authors' own Lean function (tested against real Go, not proved from fmt's source: count such statements apart). THE CARD IS WHAT COUNTS. Prove the row's statement (the work); the ties are given (YtgabmidkonphdaaDoorTie.lean); close each card by the builder's one call (the guide's Derived/Test/ToyasCard.lean, 'card_holds'). Laid BY PROGRAM, IN A SANDBOX (cutbox-door.mjs). By AI agents, Wed Nov 11 2026. No macro, syntax, notation, axiom, sorry.
-/
import Derived.Test.YtgabmidkonphdaaDoorRows
import GoSem.ClaimSeven
namespace Go.Proofs.YtgabmidkonphdaaDoor
namespace Rows

/-- THE TIED CARD OF 'assentlaw07.WalFrames'. -/
def walFramesCard : Claim7 := { stood := { row := walFramesRow, standIns := [], harness := (true, "270fed751b913708af5cc75a37b416efdd8feb7cb29043228c2ecf1393b3eaf5"), looks := false }, kinds := [], alts := [], laidByText := true, laidKinds := [.data], laidTests := true, laidLooks := .later }
def WalFramesCardSaid : Prop := Claim7.holds Tryd.pinned (.plain (OpenSpec.ofChange walFramesSpec)) walFramesCard

/-- THE SECOND FORM's CARD OF 'assentlaw07.WalFrames'. -/
def walFramesUptoCard : Claim7 := { stood := { row := walFramesUptoRow, standIns := [], harness := (true, "270fed751b913708af5cc75a37b416efdd8feb7cb29043228c2ecf1393b3eaf5"), looks := false }, kinds := [], alts := [], laidByText := true, laidKinds := [.data], laidTests := true, laidLooks := .later }
def WalFramesUptoCardSaid : Prop := Claim7.holds Tryd.pinned (.plain (OpenSpec.upto walFramesSpec)) walFramesUptoCard
end Rows
end Go.Proofs.YtgabmidkonphdaaDoor
