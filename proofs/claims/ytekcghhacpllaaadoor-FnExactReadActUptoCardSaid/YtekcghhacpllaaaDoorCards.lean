/-
  DERIVED. GIVEN WITH THE SEED: THE CARDS: each row of YtekcghhacpllaaaDoorRows.lean that lists a variable, with what it lists TIED to the program's text (the seventh form; the later family's looks); each row that meets fmt, with fmt's text TOLD by the authors' own Lean function (tested against real Go, not proved from fmt's source: count such statements apart). THE CARD IS WHAT COUNTS. Prove the row's statement (the work); the ties are given (YtekcghhacpllaaaDoorTie.lean); close each card by the builder's one call (the guide's Derived/Test/ToyasCard.lean, 'card_holds'). Laid BY PROGRAM, IN A SANDBOX (cutbox-door.mjs). By AI agents, Wed Nov 11 2026. No macro, syntax, notation, axiom, sorry.
-/
import Derived.Test.YtekcghhacpllaaaDoorRows
import GoSem.ClaimSeven
namespace Go.Proofs.YtekcghhacpllaaaDoor
namespace Rows

/-- THE TIED CARD OF 'laws.FnExactStoreLines'. -/
def fnExactStoreLinesCard : Claim7 := { stood := { row := fnExactStoreLinesRow, standIns := [], harness := (true, "2a44cb7eb05a0464dc1f917ba021779bde39f672552e0f879621248e52ed15ca"), looks := true }, kinds := [], alts := [], laidByText := true, laidKinds := [.data, .data, .data], laidTests := true, laidLooks := .later }
def FnExactStoreLinesCardSaid : Prop := Claim7.holds Tryd.pinned (.plain (OpenSpec.ofChange fnExactStoreLinesSpec)) fnExactStoreLinesCard

/-- THE TIED CARD OF 'laws.FnExactFieldLines'. -/
def fnExactFieldLinesCard : Claim7 := { stood := { row := fnExactFieldLinesRow, standIns := [], harness := (true, "2a44cb7eb05a0464dc1f917ba021779bde39f672552e0f879621248e52ed15ca"), looks := true }, kinds := [], alts := [], laidByText := true, laidKinds := [.data, .data, .data], laidTests := true, laidLooks := .later }
def FnExactFieldLinesCardSaid : Prop := Claim7.holds Tryd.pinned (.plain (OpenSpec.ofChange fnExactFieldLinesSpec)) fnExactFieldLinesCard

/-- THE TIED CARD OF 'laws.FnExactReadAct'. -/
def fnExactReadActCard : Claim7 := { stood := { row := fnExactReadActRow, standIns := [], harness := (true, "2a44cb7eb05a0464dc1f917ba021779bde39f672552e0f879621248e52ed15ca"), looks := true }, kinds := [], alts := [], laidByText := true, laidKinds := [.data, .data, .data, .data, .sentinel, .sentinel, .pinned], laidTests := true, laidLooks := .later }
def FnExactReadActCardSaid : Prop := Claim7.holds Tryd.pinned (.plain (OpenSpec.ofChange fnExactReadActSpec)) fnExactReadActCard

/-- THE SECOND FORM's CARD OF 'laws.FnExactStoreLines'. -/
def fnExactStoreLinesUptoCard : Claim7 := { stood := { row := fnExactStoreLinesUptoRow, standIns := [], harness := (true, "2a44cb7eb05a0464dc1f917ba021779bde39f672552e0f879621248e52ed15ca"), looks := true }, kinds := [], alts := [], laidByText := true, laidKinds := [.data, .data, .data], laidTests := true, laidLooks := .later }
def FnExactStoreLinesUptoCardSaid : Prop := Claim7.holds Tryd.pinned (.plain (OpenSpec.upto fnExactStoreLinesSpec)) fnExactStoreLinesUptoCard

/-- THE SECOND FORM's CARD OF 'laws.FnExactFieldLines'. -/
def fnExactFieldLinesUptoCard : Claim7 := { stood := { row := fnExactFieldLinesUptoRow, standIns := [], harness := (true, "2a44cb7eb05a0464dc1f917ba021779bde39f672552e0f879621248e52ed15ca"), looks := true }, kinds := [], alts := [], laidByText := true, laidKinds := [.data, .data, .data], laidTests := true, laidLooks := .later }
def FnExactFieldLinesUptoCardSaid : Prop := Claim7.holds Tryd.pinned (.plain (OpenSpec.upto fnExactFieldLinesSpec)) fnExactFieldLinesUptoCard

/-- THE SECOND FORM's CARD OF 'laws.FnExactReadAct'. -/
def fnExactReadActUptoCard : Claim7 := { stood := { row := fnExactReadActUptoRow, standIns := [], harness := (true, "2a44cb7eb05a0464dc1f917ba021779bde39f672552e0f879621248e52ed15ca"), looks := true }, kinds := [], alts := [], laidByText := true, laidKinds := [.data, .data, .data, .data, .sentinel, .sentinel, .pinned], laidTests := true, laidLooks := .later }
def FnExactReadActUptoCardSaid : Prop := Claim7.holds Tryd.pinned (.plain (OpenSpec.upto fnExactReadActSpec)) fnExactReadActUptoCard
end Rows
end Go.Proofs.YtekcghhacpllaaaDoor
