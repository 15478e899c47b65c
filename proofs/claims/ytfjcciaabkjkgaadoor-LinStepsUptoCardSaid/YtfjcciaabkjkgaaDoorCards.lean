/-
  DERIVED. GIVEN WITH THE SEED: THE CARDS: each row of YtfjcciaabkjkgaaDoorRows.lean that lists a variable, with what it lists TIED to the program's text (the seventh form; the later family's looks); each row that meets fmt, with fmt's text TOLD by the authors' own Lean function (tested against real Go, not proved from fmt's source: count such statements apart). THE CARD IS WHAT COUNTS. Prove the row's statement (the work); the ties are given (YtfjcciaabkjkgaaDoorTie.lean); close each card by the builder's one call (the guide's Derived/Test/ToyasCard.lean, 'card_holds'). Laid BY PROGRAM, IN A SANDBOX (cutbox-door.mjs). By AI agents, Wed Nov 11 2026. No macro, syntax, notation, axiom, sorry.
-/
import Derived.Test.YtfjcciaabkjkgaaDoorRows
import GoSem.ClaimSeven
namespace Go.Proofs.YtfjcciaabkjkgaaDoor
namespace Rows

/-- THE TIED CARD OF 'cellarlaw25.LinWitnesses'. -/
def linWitnessesCard : Claim7 := { stood := { row := linWitnessesRow, standIns := [], harness := (true, "a720f6b2325f43dff4adbf844ddd151d12b465f845ff286d5ab9b0a1d241a7ec"), looks := false }, kinds := [], alts := [], laidByText := true, laidKinds := [.data, .data, .data, .data, .pinned, .pinned, .pinned, .pinned, .pinned, .pinned], laidTests := true, laidLooks := .later }
def LinWitnessesCardSaid : Prop := Claim7.holds Tryd.pinned (.plain (OpenSpec.ofChange linWitnessesSpec)) linWitnessesCard

/-- THE TIED CARD OF 'cellarlaw25.LinSteps'. -/
def linStepsCard : Claim7 := { stood := { row := linStepsRow, standIns := [], harness := (true, "a720f6b2325f43dff4adbf844ddd151d12b465f845ff286d5ab9b0a1d241a7ec"), looks := false }, kinds := [], alts := [], laidByText := true, laidKinds := [.data, .data, .data, .data, .pinned, .pinned, .pinned, .pinned, .pinned, .pinned], laidTests := true, laidLooks := .later }
def LinStepsCardSaid : Prop := Claim7.holds Tryd.pinned (.plain (OpenSpec.ofChange linStepsSpec)) linStepsCard

/-- THE SECOND FORM's CARD OF 'cellarlaw25.LinWitnesses'. -/
def linWitnessesUptoCard : Claim7 := { stood := { row := linWitnessesUptoRow, standIns := [], harness := (true, "a720f6b2325f43dff4adbf844ddd151d12b465f845ff286d5ab9b0a1d241a7ec"), looks := false }, kinds := [], alts := [], laidByText := true, laidKinds := [.data, .data, .data, .data, .pinned, .pinned, .pinned, .pinned, .pinned, .pinned], laidTests := true, laidLooks := .later }
def LinWitnessesUptoCardSaid : Prop := Claim7.holds Tryd.pinned (.plain (OpenSpec.upto linWitnessesSpec)) linWitnessesUptoCard

/-- THE SECOND FORM's CARD OF 'cellarlaw25.LinSteps'. -/
def linStepsUptoCard : Claim7 := { stood := { row := linStepsUptoRow, standIns := [], harness := (true, "a720f6b2325f43dff4adbf844ddd151d12b465f845ff286d5ab9b0a1d241a7ec"), looks := false }, kinds := [], alts := [], laidByText := true, laidKinds := [.data, .data, .data, .data, .pinned, .pinned, .pinned, .pinned, .pinned, .pinned], laidTests := true, laidLooks := .later }
def LinStepsUptoCardSaid : Prop := Claim7.holds Tryd.pinned (.plain (OpenSpec.upto linStepsSpec)) linStepsUptoCard
end Rows
end Go.Proofs.YtfjcciaabkjkgaaDoor
