/-
  DERIVED. GIVEN WITH THE SEED: THE CARDS: each row of YtpccgdlgfblaeaaDoorRows.lean that lists a variable, with what it lists TIED to the program's text (the seventh form; the later family's looks); each row that meets fmt, with fmt's text TOLD by the authors' own Lean function (tested against real Go, not proved from fmt's source: count such statements apart). THE CARD IS WHAT COUNTS. Prove the row's statement (the work); the ties are given (YtpccgdlgfblaeaaDoorTie.lean); close each card by the builder's one call (the guide's Derived/Test/ToyasCard.lean, 'card_holds'). Laid BY PROGRAM, IN A SANDBOX (cutbox-door.mjs). By AI agents, Wed Nov 11 2026. No macro, syntax, notation, axiom, sorry.
-/
import Derived.Test.YtpccgdlgfblaeaaDoorRows
import GoSem.ClaimSeven
namespace Go.Proofs.YtpccgdlgfblaeaaDoor
namespace Rows

/-- THE TIED CARD OF 'seneschaltop.TopLabelsMore'. -/
def topLabelsMoreCard : Claim7 := { stood := { row := topLabelsMoreRow, standIns := [], harness := (true, "fe389ebe6d575238bc6f53f77dc8e3373dff6905b1cc9254f21f1958dec944fc"), looks := false }, kinds := [], alts := [], laidByText := true, laidKinds := [.data, .pinned], laidTests := true, laidLooks := .later }
def TopLabelsMoreCardSaid : Prop := Claim7.holds Tryd.pinned (.plain (OpenSpec.ofChange topLabelsMoreSpec)) topLabelsMoreCard

/-- THE SECOND FORM's CARD OF 'seneschaltop.TopLabelsMore'. -/
def topLabelsMoreUptoCard : Claim7 := { stood := { row := topLabelsMoreUptoRow, standIns := [], harness := (true, "fe389ebe6d575238bc6f53f77dc8e3373dff6905b1cc9254f21f1958dec944fc"), looks := false }, kinds := [], alts := [], laidByText := true, laidKinds := [.data, .pinned], laidTests := true, laidLooks := .later }
def TopLabelsMoreUptoCardSaid : Prop := Claim7.holds Tryd.pinned (.plain (OpenSpec.upto topLabelsMoreSpec)) topLabelsMoreUptoCard
end Rows
end Go.Proofs.YtpccgdlgfblaeaaDoor
