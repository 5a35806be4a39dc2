/-
  DERIVED. GIVEN WITH THE SEED: THE CARDS: each row of YtaeobokijndboaaDoorRows.lean that lists a variable, with what it lists TIED to the program's text (the seventh form; the later family's looks); each row that meets fmt, with fmt's text TOLD by the authors' own Lean function (tested against real Go, not proved from fmt's source: count such statements apart). THE CARD IS WHAT COUNTS. Prove the row's statement (the work); the ties are given (YtaeobokijndboaaDoorTie.lean); close each card by the builder's one call (the guide's Derived/Test/ToyasCard.lean, 'card_holds'). Laid BY PROGRAM, IN A SANDBOX (cutbox-door.mjs). By AI agents, Wed Nov 11 2026. No macro, syntax, notation, axiom, sorry.
-/
import Derived.Test.YtaeobokijndboaaDoorRows
import GoSem.ClaimSeven
namespace Go.Proofs.YtaeobokijndboaaDoor
namespace Rows

/-- THE TIED CARD OF 'ectypelaw01.FunctorOwn'. -/
def functorOwnCard : Claim7 := { stood := { row := functorOwnRow, standIns := [], harness := (true, "c1a7e17c0617dbaba777ab3fb457f8c37cf26e770225caaf1a098b0363f6bb7a"), looks := true }, kinds := [], alts := [], laidByText := true, laidKinds := [.data, .data, .data, .data, .sentinel, .sentinel, .data, .pinned], laidTests := true, laidLooks := .later }
def FunctorOwnCardSaid : Prop := Claim7.holds Tryd.pinned (.plain (OpenSpec.ofChange functorOwnSpec)) functorOwnCard

/-- THE SECOND FORM's CARD OF 'ectypelaw01.FunctorOwn'. -/
def functorOwnUptoCard : Claim7 := { stood := { row := functorOwnUptoRow, standIns := [], harness := (true, "c1a7e17c0617dbaba777ab3fb457f8c37cf26e770225caaf1a098b0363f6bb7a"), looks := true }, kinds := [], alts := [], laidByText := true, laidKinds := [.data, .data, .data, .data, .sentinel, .sentinel, .data, .pinned], laidTests := true, laidLooks := .later }
def FunctorOwnUptoCardSaid : Prop := Claim7.holds Tryd.pinned (.plain (OpenSpec.upto functorOwnSpec)) functorOwnUptoCard
end Rows
end Go.Proofs.YtaeobokijndboaaDoor
