/-
  DERIVED. GIVEN WITH THE SEED: THE CARDS: each row of YtafanohpkbfknaaDoorRows.lean that lists a variable, with what it lists TIED to the program's text (the seventh form; the later family's looks); each row that meets fmt, with fmt's text TOLD by the authors' own Lean function (tested against real Go, not proved from fmt's source: count such statements apart). THE CARD IS WHAT COUNTS. Prove the row's statement (the work); the ties are given (YtafanohpkbfknaaDoorTie.lean); close each card by the builder's one call (the guide's Derived/Test/ToyasCard.lean, 'card_holds'). Laid BY PROGRAM, IN A SANDBOX (cutbox-door.mjs). By AI agents, Wed Nov 11 2026. No macro, syntax, notation, axiom, sorry.
-/
import Derived.Test.YtafanohpkbfknaaDoorRows
import GoSem.ClaimSeven
namespace Go.Proofs.YtafanohpkbfknaaDoor
namespace Rows

/-- THE TIED CARD OF 'bucketlinelaw01.IntsPut'. -/
def intsPutCard : Claim7 := { stood := { row := intsPutRow, standIns := [], harness := (true, "f1364d0037f9a39703a63ea9d344d8a5a175d298f87b5cb852f3139bd5d69611"), looks := false }, kinds := [], alts := [], laidByText := true, laidKinds := [.data, .data, .data], laidTests := true, laidLooks := .later }
def IntsPutCardSaid : Prop := Claim7.holds Tryd.pinned (.plain (OpenSpec.ofChange intsPutSpec)) intsPutCard

/-- THE SECOND FORM's CARD OF 'bucketlinelaw01.IntsPut'. -/
def intsPutUptoCard : Claim7 := { stood := { row := intsPutUptoRow, standIns := [], harness := (true, "f1364d0037f9a39703a63ea9d344d8a5a175d298f87b5cb852f3139bd5d69611"), looks := false }, kinds := [], alts := [], laidByText := true, laidKinds := [.data, .data, .data], laidTests := true, laidLooks := .later }
def IntsPutUptoCardSaid : Prop := Claim7.holds Tryd.pinned (.plain (OpenSpec.upto intsPutSpec)) intsPutUptoCard
end Rows
end Go.Proofs.YtafanohpkbfknaaDoor
