/-
  DERIVED. GIVEN WITH THE SEED: THE CARDS: each row of YtjdmggaeagnolaaGreatDoorRows.lean that lists a variable, with what it lists TIED to the program's text (the seventh form; the later family's looks); each row that meets fmt, with fmt's text TOLD by the authors' own Lean function (tested against real Go, not proved from fmt's source: count such statements apart). THE CARD IS WHAT COUNTS. Prove the row's statement (the work); the ties are given (YtjdmggaeagnolaaGreatDoorTie.lean); close each card by the builder's one call (the guide's Derived/Test/ToyasCard.lean, 'card_holds'). Laid BY PROGRAM, IN A SANDBOX (cutbox-door.mjs). By AI agents, Wed Nov 11 2026. No macro, syntax, notation, axiom, sorry.
-/
import Derived.Test.YtjdmggaeagnolaaGreatDoorRows
import GoSem.ClaimSeven
namespace Go.Proofs.YtjdmggaeagnolaaGreatDoor
namespace Rows

/-- THE TIED CARD OF 'shadowbooklaw13.SpaceCrash'. -/
def spaceCrashCard : Claim7 := { stood := { row := spaceCrashRow, standIns := [], harness := (true, "4cdd1b7552014b570a0171fe5e959793ac2562d3f58ec8cd6400dea7ab9fba20"), looks := false }, kinds := [], alts := [], laidByText := true, laidKinds := [.data], laidTests := true, laidLooks := .later }
def SpaceCrashCardSaid : Prop := Claim7.holds Tryz.pinned (.plain (OpenSpec.ofChange spaceCrashSpec)) spaceCrashCard

/-- THE SECOND FORM's CARD OF 'shadowbooklaw13.SpaceCrash'. -/
def spaceCrashUptoCard : Claim7 := { stood := { row := spaceCrashUptoRow, standIns := [], harness := (true, "4cdd1b7552014b570a0171fe5e959793ac2562d3f58ec8cd6400dea7ab9fba20"), looks := false }, kinds := [], alts := [], laidByText := true, laidKinds := [.data], laidTests := true, laidLooks := .later }
def SpaceCrashUptoCardSaid : Prop := Claim7.holds Tryz.pinned (.plain (OpenSpec.upto spaceCrashSpec)) spaceCrashUptoCard
end Rows
end Go.Proofs.YtjdmggaeagnolaaGreatDoor
