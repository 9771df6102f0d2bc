/-
  DERIVED. GIVEN WITH THE SEED: THE CARDS: each row of YtkfckanbpmkbgaaDoorRows.lean that lists a variable, with what it lists TIED to the program's text (the seventh form; the later family's looks); each row that meets fmt, with fmt's text TOLD by the authors' own Lean function (tested against real Go, not proved from fmt's source: count such statements apart). THE CARD IS WHAT COUNTS. Prove the row's statement (the work); the ties are given (YtkfckanbpmkbgaaDoorTie.lean); close each card by the builder's one call (the guide's Derived/Test/ToyasCard.lean, 'card_holds'). Laid BY PROGRAM, IN A SANDBOX (cutbox-door.mjs). By AI agents, Wed Nov 11 2026. No macro, syntax, notation, axiom, sorry.
-/
import Derived.Test.YtkfckanbpmkbgaaDoorRows
import GoSem.ClaimSeven
namespace Go.Proofs.YtkfckanbpmkbgaaDoor
namespace Rows

/-- THE TIED CARD OF 'raillaw3.DriveSays'. -/
def driveSaysCard : Claim7 := { stood := { row := driveSaysRow, standIns := [], harness := (true, "f1c97c1274a9e095d41271d098ce89ad2bba4f600047572295d11c57e213c9b5"), looks := true }, kinds := [], alts := [], laidByText := true, laidKinds := [.handle], laidTests := true, laidLooks := .later }
def DriveSaysCardSaid : Prop := Claim7.holds Tryd.pinned (.plain (OpenSpec.ofChange driveSaysSpec)) driveSaysCard

/-- THE TIED CARD OF 'raillaw2.DrivePlays'. -/
def drivePlaysCard : Claim7 := { stood := { row := drivePlaysRow, standIns := [], harness := (true, "f1c97c1274a9e095d41271d098ce89ad2bba4f600047572295d11c57e213c9b5"), looks := true }, kinds := [], alts := [], laidByText := true, laidKinds := [.handle], laidTests := true, laidLooks := .later }
def DrivePlaysCardSaid : Prop := Claim7.holds Tryd.pinned (.plain (OpenSpec.ofChange drivePlaysSpec)) drivePlaysCard

/-- THE SECOND FORM's CARD OF 'raillaw3.DriveSays'. -/
def driveSaysUptoCard : Claim7 := { stood := { row := driveSaysUptoRow, standIns := [], harness := (true, "f1c97c1274a9e095d41271d098ce89ad2bba4f600047572295d11c57e213c9b5"), looks := true }, kinds := [], alts := [], laidByText := true, laidKinds := [.handle], laidTests := true, laidLooks := .later }
def DriveSaysUptoCardSaid : Prop := Claim7.holds Tryd.pinned (.plain (OpenSpec.upto driveSaysSpec)) driveSaysUptoCard

/-- THE SECOND FORM's CARD OF 'raillaw2.DrivePlays'. -/
def drivePlaysUptoCard : Claim7 := { stood := { row := drivePlaysUptoRow, standIns := [], harness := (true, "f1c97c1274a9e095d41271d098ce89ad2bba4f600047572295d11c57e213c9b5"), looks := true }, kinds := [], alts := [], laidByText := true, laidKinds := [.handle], laidTests := true, laidLooks := .later }
def DrivePlaysUptoCardSaid : Prop := Claim7.holds Tryd.pinned (.plain (OpenSpec.upto drivePlaysSpec)) drivePlaysUptoCard
end Rows
end Go.Proofs.YtkfckanbpmkbgaaDoor
