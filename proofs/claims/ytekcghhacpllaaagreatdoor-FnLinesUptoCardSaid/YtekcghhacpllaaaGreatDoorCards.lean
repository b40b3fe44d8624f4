/-
  DERIVED. GIVEN WITH THE SEED: THE CARDS: each row of YtekcghhacpllaaaGreatDoorRows.lean that lists a variable, with what it lists TIED to the program's text (the seventh form; the later family's looks); each row that meets fmt, with fmt's text TOLD by the authors' own Lean function (tested against real Go, not proved from fmt's source: count such statements apart). THE CARD IS WHAT COUNTS. Prove the row's statement (the work); the ties are given (YtekcghhacpllaaaGreatDoorTie.lean); close each card by the builder's one call (the guide's Derived/Test/ToyasCard.lean, 'card_holds'). Laid BY PROGRAM, IN A SANDBOX (cutbox-door.mjs). By AI agents, Wed Nov 11 2026. No macro, syntax, notation, axiom, sorry.
-/
import Derived.Test.YtekcghhacpllaaaGreatDoorRows
import GoSem.ClaimSeven
namespace Go.Proofs.YtekcghhacpllaaaGreatDoor
namespace Rows

/-- THE TIED CARD OF 'laws.FnSchema'. -/
def fnSchemaCard : Claim7 := { stood := { row := fnSchemaRow, standIns := [], harness := (true, "f6a652cb987c6a567d3d9c97e0b935cb1dc6caa3148bd31c23be3aaeea9695de"), looks := true }, kinds := [], alts := [], laidByText := true, laidKinds := [.data, .data, .data, .sentinel, .sentinel], laidTests := true, laidLooks := .later }
def FnSchemaCardSaid : Prop := Claim7.holds Tryz.pinned (.plain (OpenSpec.ofChange fnSchemaSpec)) fnSchemaCard

/-- THE TIED CARD OF 'laws.FnLines'. -/
def fnLinesCard : Claim7 := { stood := { row := fnLinesRow, standIns := [], harness := (true, "f6a652cb987c6a567d3d9c97e0b935cb1dc6caa3148bd31c23be3aaeea9695de"), looks := true }, kinds := [], alts := [], laidByText := true, laidKinds := [.data, .data, .data, .data, .sentinel, .sentinel, .pinned], laidTests := true, laidLooks := .later }
def FnLinesCardSaid : Prop := Claim7.holds Tryz.pinned (.plain (OpenSpec.ofChange fnLinesSpec)) fnLinesCard

/-- THE SECOND FORM's CARD OF 'laws.FnSchema'. -/
def fnSchemaUptoCard : Claim7 := { stood := { row := fnSchemaUptoRow, standIns := [], harness := (true, "f6a652cb987c6a567d3d9c97e0b935cb1dc6caa3148bd31c23be3aaeea9695de"), looks := true }, kinds := [], alts := [], laidByText := true, laidKinds := [.data, .data, .data, .sentinel, .sentinel], laidTests := true, laidLooks := .later }
def FnSchemaUptoCardSaid : Prop := Claim7.holds Tryz.pinned (.plain (OpenSpec.upto fnSchemaSpec)) fnSchemaUptoCard

/-- THE SECOND FORM's CARD OF 'laws.FnLines'. -/
def fnLinesUptoCard : Claim7 := { stood := { row := fnLinesUptoRow, standIns := [], harness := (true, "f6a652cb987c6a567d3d9c97e0b935cb1dc6caa3148bd31c23be3aaeea9695de"), looks := true }, kinds := [], alts := [], laidByText := true, laidKinds := [.data, .data, .data, .data, .sentinel, .sentinel, .pinned], laidTests := true, laidLooks := .later }
def FnLinesUptoCardSaid : Prop := Claim7.holds Tryz.pinned (.plain (OpenSpec.upto fnLinesSpec)) fnLinesUptoCard
end Rows
end Go.Proofs.YtekcghhacpllaaaGreatDoor
