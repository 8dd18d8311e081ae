/-
  DERIVED. GIVEN WITH THE SEED: THE CARDS: each row of YtpbjbhcejgnhiaaDoorRows.lean that lists a variable, with what it lists TIED to the program's text (the seventh form; the later family's looks); each row that meets fmt, with fmt's text TOLD by the authors' own Lean function (tested against real Go, not proved from fmt's source: count such statements apart). THE CARD IS WHAT COUNTS. Prove the row's statement (the work); the ties are given (YtpbjbhcejgnhiaaDoorTie.lean); close each card by the builder's one call (the guide's Derived/Test/ToyasCard.lean, 'card_holds'). Laid BY PROGRAM, IN A SANDBOX (cutbox-door.mjs). By AI agents, Wed Nov 11 2026. No macro, syntax, notation, axiom, sorry.
-/
import Derived.Test.YtpbjbhcejgnhiaaDoorRows
import GoSem.ClaimSeven
namespace Go.Proofs.YtpbjbhcejgnhiaaDoor
namespace Rows

/-- THE TIED CARD OF 'shadowbooklaw03.DeviceLast'. -/
def deviceLastCard : Claim7 := { stood := { row := deviceLastRow, standIns := [], harness := (true, "c3397eccbbe1c2d1235d8022f5868d914a173825cc553f9bb4d6a14c6e4163d1"), looks := false }, kinds := [], alts := [], laidByText := true, laidKinds := [.data], laidTests := true, laidLooks := .later }
def DeviceLastCardSaid : Prop := Claim7.holds Tryd.pinned (.plain (OpenSpec.ofChange deviceLastSpec)) deviceLastCard

/-- THE TIED CARD OF 'shadowbooklaw03.DeviceCrash'. -/
def deviceCrashCard : Claim7 := { stood := { row := deviceCrashRow, standIns := [], harness := (true, "c3397eccbbe1c2d1235d8022f5868d914a173825cc553f9bb4d6a14c6e4163d1"), looks := false }, kinds := [], alts := [], laidByText := true, laidKinds := [.data], laidTests := true, laidLooks := .later }
def DeviceCrashCardSaid : Prop := Claim7.holds Tryd.pinned (.plain (OpenSpec.ofChange deviceCrashSpec)) deviceCrashCard

/-- THE TIED CARD OF 'shadowbooklaw03.DeviceFuses'. -/
def deviceFusesCard : Claim7 := { stood := { row := deviceFusesRow, standIns := [], harness := (true, "c3397eccbbe1c2d1235d8022f5868d914a173825cc553f9bb4d6a14c6e4163d1"), looks := false }, kinds := [], alts := [], laidByText := true, laidKinds := [.data], laidTests := true, laidLooks := .later }
def DeviceFusesCardSaid : Prop := Claim7.holds Tryd.pinned (.plain (OpenSpec.ofChange deviceFusesSpec)) deviceFusesCard

/-- THE TIED CARD OF 'shadowbooklaw03.DeviceNames'. -/
def deviceNamesCard : Claim7 := { stood := { row := deviceNamesRow, standIns := [], harness := (true, "c3397eccbbe1c2d1235d8022f5868d914a173825cc553f9bb4d6a14c6e4163d1"), looks := false }, kinds := [], alts := [], laidByText := true, laidKinds := [.data], laidTests := true, laidLooks := .later }
def DeviceNamesCardSaid : Prop := Claim7.holds Tryd.pinned (.plain (OpenSpec.ofChange deviceNamesSpec)) deviceNamesCard

/-- THE TIED CARD OF 'shadowbooklaw03.DeviceRot'. -/
def deviceRotCard : Claim7 := { stood := { row := deviceRotRow, standIns := [], harness := (true, "c3397eccbbe1c2d1235d8022f5868d914a173825cc553f9bb4d6a14c6e4163d1"), looks := false }, kinds := [], alts := [], laidByText := true, laidKinds := [.data], laidTests := true, laidLooks := .later }
def DeviceRotCardSaid : Prop := Claim7.holds Tryd.pinned (.plain (OpenSpec.ofChange deviceRotSpec)) deviceRotCard

/-- THE TIED CARD OF 'shadowbooklaw03.DeviceScript'. -/
def deviceScriptCard : Claim7 := { stood := { row := deviceScriptRow, standIns := [], harness := (true, "c3397eccbbe1c2d1235d8022f5868d914a173825cc553f9bb4d6a14c6e4163d1"), looks := false }, kinds := [], alts := [], laidByText := true, laidKinds := [.data], laidTests := true, laidLooks := .later }
def DeviceScriptCardSaid : Prop := Claim7.holds Tryd.pinned (.plain (OpenSpec.ofChange deviceScriptSpec)) deviceScriptCard

/-- THE SECOND FORM's CARD OF 'shadowbooklaw03.DeviceLast'. -/
def deviceLastUptoCard : Claim7 := { stood := { row := deviceLastUptoRow, standIns := [], harness := (true, "c3397eccbbe1c2d1235d8022f5868d914a173825cc553f9bb4d6a14c6e4163d1"), looks := false }, kinds := [], alts := [], laidByText := true, laidKinds := [.data], laidTests := true, laidLooks := .later }
def DeviceLastUptoCardSaid : Prop := Claim7.holds Tryd.pinned (.plain (OpenSpec.upto deviceLastSpec)) deviceLastUptoCard

/-- THE SECOND FORM's CARD OF 'shadowbooklaw03.DeviceCrash'. -/
def deviceCrashUptoCard : Claim7 := { stood := { row := deviceCrashUptoRow, standIns := [], harness := (true, "c3397eccbbe1c2d1235d8022f5868d914a173825cc553f9bb4d6a14c6e4163d1"), looks := false }, kinds := [], alts := [], laidByText := true, laidKinds := [.data], laidTests := true, laidLooks := .later }
def DeviceCrashUptoCardSaid : Prop := Claim7.holds Tryd.pinned (.plain (OpenSpec.upto deviceCrashSpec)) deviceCrashUptoCard

/-- THE SECOND FORM's CARD OF 'shadowbooklaw03.DeviceFuses'. -/
def deviceFusesUptoCard : Claim7 := { stood := { row := deviceFusesUptoRow, standIns := [], harness := (true, "c3397eccbbe1c2d1235d8022f5868d914a173825cc553f9bb4d6a14c6e4163d1"), looks := false }, kinds := [], alts := [], laidByText := true, laidKinds := [.data], laidTests := true, laidLooks := .later }
def DeviceFusesUptoCardSaid : Prop := Claim7.holds Tryd.pinned (.plain (OpenSpec.upto deviceFusesSpec)) deviceFusesUptoCard

/-- THE SECOND FORM's CARD OF 'shadowbooklaw03.DeviceNames'. -/
def deviceNamesUptoCard : Claim7 := { stood := { row := deviceNamesUptoRow, standIns := [], harness := (true, "c3397eccbbe1c2d1235d8022f5868d914a173825cc553f9bb4d6a14c6e4163d1"), looks := false }, kinds := [], alts := [], laidByText := true, laidKinds := [.data], laidTests := true, laidLooks := .later }
def DeviceNamesUptoCardSaid : Prop := Claim7.holds Tryd.pinned (.plain (OpenSpec.upto deviceNamesSpec)) deviceNamesUptoCard

/-- THE SECOND FORM's CARD OF 'shadowbooklaw03.DeviceRot'. -/
def deviceRotUptoCard : Claim7 := { stood := { row := deviceRotUptoRow, standIns := [], harness := (true, "c3397eccbbe1c2d1235d8022f5868d914a173825cc553f9bb4d6a14c6e4163d1"), looks := false }, kinds := [], alts := [], laidByText := true, laidKinds := [.data], laidTests := true, laidLooks := .later }
def DeviceRotUptoCardSaid : Prop := Claim7.holds Tryd.pinned (.plain (OpenSpec.upto deviceRotSpec)) deviceRotUptoCard

/-- THE SECOND FORM's CARD OF 'shadowbooklaw03.DeviceScript'. -/
def deviceScriptUptoCard : Claim7 := { stood := { row := deviceScriptUptoRow, standIns := [], harness := (true, "c3397eccbbe1c2d1235d8022f5868d914a173825cc553f9bb4d6a14c6e4163d1"), looks := false }, kinds := [], alts := [], laidByText := true, laidKinds := [.data], laidTests := true, laidLooks := .later }
def DeviceScriptUptoCardSaid : Prop := Claim7.holds Tryd.pinned (.plain (OpenSpec.upto deviceScriptSpec)) deviceScriptUptoCard
end Rows
end Go.Proofs.YtpbjbhcejgnhiaaDoor
