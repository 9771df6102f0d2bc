/-
  DERIVED. GIVEN WITH THE SEED: THE CARDS: each row of YthimhcbjboffcaaDoorRows.lean that lists a variable, with what it lists TIED to the program's text (the seventh form; the later family's looks); each row that meets fmt, with fmt's text TOLD by the authors' own Lean function (tested against real Go, not proved from fmt's source: count such statements apart). THE CARD IS WHAT COUNTS. Prove the row's statement (the work); the ties are given (YthimhcbjboffcaaDoorTie.lean); close each card by the builder's one call (the guide's Derived/Test/ToyasCard.lean, 'card_holds'). Laid BY PROGRAM, IN A SANDBOX (cutbox-door.mjs). By AI agents, Wed Nov 11 2026. No macro, syntax, notation, axiom, sorry.
-/
import Derived.Test.YthimhcbjboffcaaDoorRows
import GoSem.ClaimSeven
namespace Go.Proofs.YthimhcbjboffcaaDoor
namespace Rows

/-- THE TIED CARD OF 'raillaw2.AgentOnce'. -/
def agentOnceCard : Claim7 := { stood := { row := agentOnceRow, standIns := [], harness := (true, "98d8d731a06b1ceb64d795651c5cfc5998a49a03b4d7bf765f9d7aa9228b3e26"), looks := true }, kinds := [], alts := [], laidByText := true, laidKinds := [.handle], laidTests := true, laidLooks := .later }
def AgentOnceCardSaid : Prop := Claim7.holds Tryd.pinned (.plain (OpenSpec.ofChange agentOnceSpec)) agentOnceCard

/-- THE SECOND FORM's CARD OF 'raillaw2.AgentOnce'. -/
def agentOnceUptoCard : Claim7 := { stood := { row := agentOnceUptoRow, standIns := [], harness := (true, "98d8d731a06b1ceb64d795651c5cfc5998a49a03b4d7bf765f9d7aa9228b3e26"), looks := true }, kinds := [], alts := [], laidByText := true, laidKinds := [.handle], laidTests := true, laidLooks := .later }
def AgentOnceUptoCardSaid : Prop := Claim7.holds Tryd.pinned (.plain (OpenSpec.upto agentOnceSpec)) agentOnceUptoCard
end Rows
end Go.Proofs.YthimhcbjboffcaaDoor
