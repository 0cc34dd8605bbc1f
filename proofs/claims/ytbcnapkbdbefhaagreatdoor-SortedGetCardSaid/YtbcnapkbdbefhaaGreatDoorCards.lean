/-
  DERIVED. GIVEN WITH THE SEED: THE CARDS: each row of YtbcnapkbdbefhaaGreatDoorRows.lean that lists a variable, with what it lists TIED to the program's text (the seventh form; the later family's looks); each row that meets fmt, with fmt's text TOLD by the authors' own Lean function (tested against real Go, not proved from fmt's source: count such statements apart). THE CARD IS WHAT COUNTS. Prove the row's statement (the work); the ties are given (YtbcnapkbdbefhaaGreatDoorTie.lean); close each card by the builder's one call (the guide's Derived/Test/ToyasCard.lean, 'card_holds'). Laid BY PROGRAM, IN A SANDBOX (cutbox-door.mjs). By AI agents, Wed Nov 11 2026. No macro, syntax, notation, axiom, sorry.
-/
import Derived.Test.YtbcnapkbdbefhaaGreatDoorRows
import GoSem.ClaimSeven
namespace Go.Proofs.YtbcnapkbdbefhaaGreatDoor
namespace Rows

/-- THE TIED CARD OF 'bucketlinelaw10.SortedGet'. -/
def sortedGetCard : Claim7 := { stood := { row := sortedGetRow, standIns := [], harness := (true, "6389163544941ccaadbe2ac76fe25840ac5913f6dc8956d51e68a79f4913e1c2"), looks := false }, kinds := [], alts := [], laidByText := true, laidKinds := [.data, .data, .data], laidTests := true, laidLooks := .later }
def SortedGetCardSaid : Prop := Claim7.holds Tryz.pinned (.plain (OpenSpec.ofChange sortedGetSpec)) sortedGetCard

/-- THE TIED CARD OF 'bucketlinelaw10.SortedPut'. -/
def sortedPutCard : Claim7 := { stood := { row := sortedPutRow, standIns := [], harness := (true, "6389163544941ccaadbe2ac76fe25840ac5913f6dc8956d51e68a79f4913e1c2"), looks := false }, kinds := [], alts := [], laidByText := true, laidKinds := [.data, .data, .data], laidTests := true, laidLooks := .later }
def SortedPutCardSaid : Prop := Claim7.holds Tryz.pinned (.plain (OpenSpec.ofChange sortedPutSpec)) sortedPutCard

/-- THE SECOND FORM's CARD OF 'bucketlinelaw10.SortedGet'. -/
def sortedGetUptoCard : Claim7 := { stood := { row := sortedGetUptoRow, standIns := [], harness := (true, "6389163544941ccaadbe2ac76fe25840ac5913f6dc8956d51e68a79f4913e1c2"), looks := false }, kinds := [], alts := [], laidByText := true, laidKinds := [.data, .data, .data], laidTests := true, laidLooks := .later }
def SortedGetUptoCardSaid : Prop := Claim7.holds Tryz.pinned (.plain (OpenSpec.upto sortedGetSpec)) sortedGetUptoCard

/-- THE SECOND FORM's CARD OF 'bucketlinelaw10.SortedPut'. -/
def sortedPutUptoCard : Claim7 := { stood := { row := sortedPutUptoRow, standIns := [], harness := (true, "6389163544941ccaadbe2ac76fe25840ac5913f6dc8956d51e68a79f4913e1c2"), looks := false }, kinds := [], alts := [], laidByText := true, laidKinds := [.data, .data, .data], laidTests := true, laidLooks := .later }
def SortedPutUptoCardSaid : Prop := Claim7.holds Tryz.pinned (.plain (OpenSpec.upto sortedPutSpec)) sortedPutUptoCard
end Rows
end Go.Proofs.YtbcnapkbdbefhaaGreatDoor
