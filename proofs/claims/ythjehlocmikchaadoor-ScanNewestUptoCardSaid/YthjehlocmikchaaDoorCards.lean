/-
  DERIVED. GIVEN WITH THE SEED: THE CARDS: each row of YthjehlocmikchaaDoorRows.lean that lists a variable, with what it lists TIED to the program's text (the seventh form; the later family's looks); each row that meets fmt, with fmt's text TOLD by the authors' own Lean function (tested against real Go, not proved from fmt's source: count such statements apart). THE CARD IS WHAT COUNTS. Prove the row's statement (the work); the ties are given (YthjehlocmikchaaDoorTie.lean); close each card by the builder's one call (the guide's Derived/Test/ToyasCard.lean, 'card_holds'). Laid BY PROGRAM, IN A SANDBOX (cutbox-door.mjs). By AI agents, Wed Nov 11 2026. No macro, syntax, notation, axiom, sorry.
-/
import Derived.Test.YthjehlocmikchaaDoorRows
import GoSem.ClaimSeven
namespace Go.Proofs.YthjehlocmikchaaDoor
namespace Rows

/-- THE TIED CARD OF 'cellarlaw06.ScanNames'. -/
def scanNamesCard : Claim7 := { stood := { row := scanNamesRow, standIns := [], harness := (true, "fd1c295e2013cacc763d6f98fad1a8f856d78432b91b6e1d7314a50bf912ace8"), looks := false }, kinds := [], alts := [], laidByText := true, laidKinds := [.data, .data], laidTests := true, laidLooks := .later }
def ScanNamesCardSaid : Prop := Claim7.holds Tryd.pinned (.plain (OpenSpec.ofChange scanNamesSpec)) scanNamesCard

/-- THE TIED CARD OF 'cellarlaw06.ScanSurveys'. -/
def scanSurveysCard : Claim7 := { stood := { row := scanSurveysRow, standIns := [], harness := (true, "fd1c295e2013cacc763d6f98fad1a8f856d78432b91b6e1d7314a50bf912ace8"), looks := false }, kinds := [], alts := [], laidByText := true, laidKinds := [.data, .data], laidTests := true, laidLooks := .later }
def ScanSurveysCardSaid : Prop := Claim7.holds Tryd.pinned (.plain (OpenSpec.ofChange scanSurveysSpec)) scanSurveysCard

/-- THE TIED CARD OF 'cellarlaw06.ScanBack'. -/
def scanBackCard : Claim7 := { stood := { row := scanBackRow, standIns := [], harness := (true, "fd1c295e2013cacc763d6f98fad1a8f856d78432b91b6e1d7314a50bf912ace8"), looks := false }, kinds := [], alts := [], laidByText := true, laidKinds := [.data, .data], laidTests := true, laidLooks := .later }
def ScanBackCardSaid : Prop := Claim7.holds Tryd.pinned (.plain (OpenSpec.ofChange scanBackSpec)) scanBackCard

/-- THE TIED CARD OF 'cellarlaw06.ScanKept'. -/
def scanKeptCard : Claim7 := { stood := { row := scanKeptRow, standIns := [], harness := (true, "fd1c295e2013cacc763d6f98fad1a8f856d78432b91b6e1d7314a50bf912ace8"), looks := false }, kinds := [], alts := [], laidByText := true, laidKinds := [.data, .data], laidTests := true, laidLooks := .later }
def ScanKeptCardSaid : Prop := Claim7.holds Tryd.pinned (.plain (OpenSpec.ofChange scanKeptSpec)) scanKeptCard

/-- THE TIED CARD OF 'cellarlaw06.ScanDevices'. -/
def scanDevicesCard : Claim7 := { stood := { row := scanDevicesRow, standIns := [], harness := (true, "fd1c295e2013cacc763d6f98fad1a8f856d78432b91b6e1d7314a50bf912ace8"), looks := false }, kinds := [], alts := [], laidByText := true, laidKinds := [.data, .data], laidTests := true, laidLooks := .later }
def ScanDevicesCardSaid : Prop := Claim7.holds Tryd.pinned (.plain (OpenSpec.ofChange scanDevicesSpec)) scanDevicesCard

/-- THE TIED CARD OF 'cellarlaw06.ScanOrders'. -/
def scanOrdersCard : Claim7 := { stood := { row := scanOrdersRow, standIns := [], harness := (true, "fd1c295e2013cacc763d6f98fad1a8f856d78432b91b6e1d7314a50bf912ace8"), looks := false }, kinds := [], alts := [], laidByText := true, laidKinds := [.data, .data], laidTests := true, laidLooks := .later }
def ScanOrdersCardSaid : Prop := Claim7.holds Tryd.pinned (.plain (OpenSpec.ofChange scanOrdersSpec)) scanOrdersCard

/-- THE TIED CARD OF 'cellarlaw06.ScanNewest'. -/
def scanNewestCard : Claim7 := { stood := { row := scanNewestRow, standIns := [], harness := (true, "fd1c295e2013cacc763d6f98fad1a8f856d78432b91b6e1d7314a50bf912ace8"), looks := false }, kinds := [], alts := [], laidByText := true, laidKinds := [.data, .data], laidTests := true, laidLooks := .later }
def ScanNewestCardSaid : Prop := Claim7.holds Tryd.pinned (.plain (OpenSpec.ofChange scanNewestSpec)) scanNewestCard

/-- THE SECOND FORM's CARD OF 'cellarlaw06.ScanNames'. -/
def scanNamesUptoCard : Claim7 := { stood := { row := scanNamesUptoRow, standIns := [], harness := (true, "fd1c295e2013cacc763d6f98fad1a8f856d78432b91b6e1d7314a50bf912ace8"), looks := false }, kinds := [], alts := [], laidByText := true, laidKinds := [.data, .data], laidTests := true, laidLooks := .later }
def ScanNamesUptoCardSaid : Prop := Claim7.holds Tryd.pinned (.plain (OpenSpec.upto scanNamesSpec)) scanNamesUptoCard

/-- THE SECOND FORM's CARD OF 'cellarlaw06.ScanSurveys'. -/
def scanSurveysUptoCard : Claim7 := { stood := { row := scanSurveysUptoRow, standIns := [], harness := (true, "fd1c295e2013cacc763d6f98fad1a8f856d78432b91b6e1d7314a50bf912ace8"), looks := false }, kinds := [], alts := [], laidByText := true, laidKinds := [.data, .data], laidTests := true, laidLooks := .later }
def ScanSurveysUptoCardSaid : Prop := Claim7.holds Tryd.pinned (.plain (OpenSpec.upto scanSurveysSpec)) scanSurveysUptoCard

/-- THE SECOND FORM's CARD OF 'cellarlaw06.ScanBack'. -/
def scanBackUptoCard : Claim7 := { stood := { row := scanBackUptoRow, standIns := [], harness := (true, "fd1c295e2013cacc763d6f98fad1a8f856d78432b91b6e1d7314a50bf912ace8"), looks := false }, kinds := [], alts := [], laidByText := true, laidKinds := [.data, .data], laidTests := true, laidLooks := .later }
def ScanBackUptoCardSaid : Prop := Claim7.holds Tryd.pinned (.plain (OpenSpec.upto scanBackSpec)) scanBackUptoCard

/-- THE SECOND FORM's CARD OF 'cellarlaw06.ScanKept'. -/
def scanKeptUptoCard : Claim7 := { stood := { row := scanKeptUptoRow, standIns := [], harness := (true, "fd1c295e2013cacc763d6f98fad1a8f856d78432b91b6e1d7314a50bf912ace8"), looks := false }, kinds := [], alts := [], laidByText := true, laidKinds := [.data, .data], laidTests := true, laidLooks := .later }
def ScanKeptUptoCardSaid : Prop := Claim7.holds Tryd.pinned (.plain (OpenSpec.upto scanKeptSpec)) scanKeptUptoCard

/-- THE SECOND FORM's CARD OF 'cellarlaw06.ScanDevices'. -/
def scanDevicesUptoCard : Claim7 := { stood := { row := scanDevicesUptoRow, standIns := [], harness := (true, "fd1c295e2013cacc763d6f98fad1a8f856d78432b91b6e1d7314a50bf912ace8"), looks := false }, kinds := [], alts := [], laidByText := true, laidKinds := [.data, .data], laidTests := true, laidLooks := .later }
def ScanDevicesUptoCardSaid : Prop := Claim7.holds Tryd.pinned (.plain (OpenSpec.upto scanDevicesSpec)) scanDevicesUptoCard

/-- THE SECOND FORM's CARD OF 'cellarlaw06.ScanOrders'. -/
def scanOrdersUptoCard : Claim7 := { stood := { row := scanOrdersUptoRow, standIns := [], harness := (true, "fd1c295e2013cacc763d6f98fad1a8f856d78432b91b6e1d7314a50bf912ace8"), looks := false }, kinds := [], alts := [], laidByText := true, laidKinds := [.data, .data], laidTests := true, laidLooks := .later }
def ScanOrdersUptoCardSaid : Prop := Claim7.holds Tryd.pinned (.plain (OpenSpec.upto scanOrdersSpec)) scanOrdersUptoCard

/-- THE SECOND FORM's CARD OF 'cellarlaw06.ScanNewest'. -/
def scanNewestUptoCard : Claim7 := { stood := { row := scanNewestUptoRow, standIns := [], harness := (true, "fd1c295e2013cacc763d6f98fad1a8f856d78432b91b6e1d7314a50bf912ace8"), looks := false }, kinds := [], alts := [], laidByText := true, laidKinds := [.data, .data], laidTests := true, laidLooks := .later }
def ScanNewestUptoCardSaid : Prop := Claim7.holds Tryd.pinned (.plain (OpenSpec.upto scanNewestSpec)) scanNewestUptoCard
end Rows
end Go.Proofs.YthjehlocmikchaaDoor
