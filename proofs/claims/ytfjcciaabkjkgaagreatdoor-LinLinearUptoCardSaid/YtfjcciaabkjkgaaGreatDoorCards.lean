/-
  DERIVED. GIVEN WITH THE SEED: THE CARDS: each row of YtfjcciaabkjkgaaGreatDoorRows.lean that lists a variable, with what it lists TIED to the program's text (the seventh form; the later family's looks); each row that meets fmt, with fmt's text TOLD by the authors' own Lean function (tested against real Go, not proved from fmt's source: count such statements apart). THE CARD IS WHAT COUNTS. Prove the row's statement (the work); the ties are given (YtfjcciaabkjkgaaGreatDoorTie.lean); close each card by the builder's one call (the guide's Derived/Test/ToyasCard.lean, 'card_holds'). Laid BY PROGRAM, IN A SANDBOX (cutbox-door.mjs). By AI agents, Wed Nov 11 2026. No macro, syntax, notation, axiom, sorry.
-/
import Derived.Test.YtfjcciaabkjkgaaGreatDoorRows
import GoSem.ClaimSeven
namespace Go.Proofs.YtfjcciaabkjkgaaGreatDoor
namespace Rows

/-- THE TIED CARD OF 'cellarlaw25.LinKeys'. -/
def linKeysCard : Claim7 := { stood := { row := linKeysRow, standIns := [], harness := (true, "6431d20359589cb0d8f80e522fb2b44a6a86d546431a64823f1af89508ee34fc"), looks := false }, kinds := [], alts := [], laidByText := true, laidKinds := [.data, .data, .data, .data, .pinned, .pinned, .pinned, .pinned, .pinned, .pinned], laidTests := true, laidLooks := .later }
def LinKeysCardSaid : Prop := Claim7.holds Tryz.pinned (.plain (OpenSpec.ofChange linKeysSpec)) linKeysCard

/-- THE TIED CARD OF 'cellarlaw25.LinFinds'. -/
def linFindsCard : Claim7 := { stood := { row := linFindsRow, standIns := [], harness := (true, "6431d20359589cb0d8f80e522fb2b44a6a86d546431a64823f1af89508ee34fc"), looks := false }, kinds := [], alts := [], laidByText := true, laidKinds := [.data, .data, .data, .data, .pinned, .pinned, .pinned, .pinned, .pinned, .pinned], laidTests := true, laidLooks := .later }
def LinFindsCardSaid : Prop := Claim7.holds Tryz.pinned (.plain (OpenSpec.ofChange linFindsSpec)) linFindsCard

/-- THE TIED CARD OF 'cellarlaw25.LinLocal'. -/
def linLocalCard : Claim7 := { stood := { row := linLocalRow, standIns := [], harness := (true, "6431d20359589cb0d8f80e522fb2b44a6a86d546431a64823f1af89508ee34fc"), looks := false }, kinds := [], alts := [], laidByText := true, laidKinds := [.data, .data, .data, .data, .pinned, .pinned, .pinned, .pinned, .pinned, .pinned], laidTests := true, laidLooks := .later }
def LinLocalCardSaid : Prop := Claim7.holds Tryz.pinned (.plain (OpenSpec.ofChange linLocalSpec)) linLocalCard

/-- THE TIED CARD OF 'cellarlaw25.LinStays'. -/
def linStaysCard : Claim7 := { stood := { row := linStaysRow, standIns := [], harness := (true, "6431d20359589cb0d8f80e522fb2b44a6a86d546431a64823f1af89508ee34fc"), looks := false }, kinds := [], alts := [], laidByText := true, laidKinds := [.data, .data, .data, .data, .pinned, .pinned, .pinned, .pinned, .pinned, .pinned], laidTests := true, laidLooks := .later }
def LinStaysCardSaid : Prop := Claim7.holds Tryz.pinned (.plain (OpenSpec.ofChange linStaysSpec)) linStaysCard

/-- THE TIED CARD OF 'cellarlaw25.LinLinear'. -/
def linLinearCard : Claim7 := { stood := { row := linLinearRow, standIns := [], harness := (true, "6431d20359589cb0d8f80e522fb2b44a6a86d546431a64823f1af89508ee34fc"), looks := false }, kinds := [], alts := [], laidByText := true, laidKinds := [.data, .data, .data, .data, .pinned, .pinned, .pinned, .pinned, .pinned, .pinned], laidTests := true, laidLooks := .later }
def LinLinearCardSaid : Prop := Claim7.holds Tryz.pinned (.plain (OpenSpec.ofChange linLinearSpec)) linLinearCard

/-- THE SECOND FORM's CARD OF 'cellarlaw25.LinKeys'. -/
def linKeysUptoCard : Claim7 := { stood := { row := linKeysUptoRow, standIns := [], harness := (true, "6431d20359589cb0d8f80e522fb2b44a6a86d546431a64823f1af89508ee34fc"), looks := false }, kinds := [], alts := [], laidByText := true, laidKinds := [.data, .data, .data, .data, .pinned, .pinned, .pinned, .pinned, .pinned, .pinned], laidTests := true, laidLooks := .later }
def LinKeysUptoCardSaid : Prop := Claim7.holds Tryz.pinned (.plain (OpenSpec.upto linKeysSpec)) linKeysUptoCard

/-- THE SECOND FORM's CARD OF 'cellarlaw25.LinFinds'. -/
def linFindsUptoCard : Claim7 := { stood := { row := linFindsUptoRow, standIns := [], harness := (true, "6431d20359589cb0d8f80e522fb2b44a6a86d546431a64823f1af89508ee34fc"), looks := false }, kinds := [], alts := [], laidByText := true, laidKinds := [.data, .data, .data, .data, .pinned, .pinned, .pinned, .pinned, .pinned, .pinned], laidTests := true, laidLooks := .later }
def LinFindsUptoCardSaid : Prop := Claim7.holds Tryz.pinned (.plain (OpenSpec.upto linFindsSpec)) linFindsUptoCard

/-- THE SECOND FORM's CARD OF 'cellarlaw25.LinLocal'. -/
def linLocalUptoCard : Claim7 := { stood := { row := linLocalUptoRow, standIns := [], harness := (true, "6431d20359589cb0d8f80e522fb2b44a6a86d546431a64823f1af89508ee34fc"), looks := false }, kinds := [], alts := [], laidByText := true, laidKinds := [.data, .data, .data, .data, .pinned, .pinned, .pinned, .pinned, .pinned, .pinned], laidTests := true, laidLooks := .later }
def LinLocalUptoCardSaid : Prop := Claim7.holds Tryz.pinned (.plain (OpenSpec.upto linLocalSpec)) linLocalUptoCard

/-- THE SECOND FORM's CARD OF 'cellarlaw25.LinStays'. -/
def linStaysUptoCard : Claim7 := { stood := { row := linStaysUptoRow, standIns := [], harness := (true, "6431d20359589cb0d8f80e522fb2b44a6a86d546431a64823f1af89508ee34fc"), looks := false }, kinds := [], alts := [], laidByText := true, laidKinds := [.data, .data, .data, .data, .pinned, .pinned, .pinned, .pinned, .pinned, .pinned], laidTests := true, laidLooks := .later }
def LinStaysUptoCardSaid : Prop := Claim7.holds Tryz.pinned (.plain (OpenSpec.upto linStaysSpec)) linStaysUptoCard

/-- THE SECOND FORM's CARD OF 'cellarlaw25.LinLinear'. -/
def linLinearUptoCard : Claim7 := { stood := { row := linLinearUptoRow, standIns := [], harness := (true, "6431d20359589cb0d8f80e522fb2b44a6a86d546431a64823f1af89508ee34fc"), looks := false }, kinds := [], alts := [], laidByText := true, laidKinds := [.data, .data, .data, .data, .pinned, .pinned, .pinned, .pinned, .pinned, .pinned], laidTests := true, laidLooks := .later }
def LinLinearUptoCardSaid : Prop := Claim7.holds Tryz.pinned (.plain (OpenSpec.upto linLinearSpec)) linLinearUptoCard
end Rows
end Go.Proofs.YtfjcciaabkjkgaaGreatDoor
