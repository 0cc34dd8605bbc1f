/-
  DERIVED. GIVEN WITH THE SEED: THE CARDS: each row of YtimfcinkjjaigaaGreatDoorRows.lean that lists a variable, with what it lists TIED to the program's text (the seventh form; the later family's looks); each row that meets fmt, with fmt's text TOLD by the authors' own Lean function (tested against real Go, not proved from fmt's source: count such statements apart). THE CARD IS WHAT COUNTS. Prove the row's statement (the work); the ties are given (YtimfcinkjjaigaaGreatDoorTie.lean); close each card by the builder's one call (the guide's Derived/Test/ToyasCard.lean, 'card_holds'). Laid BY PROGRAM, IN A SANDBOX (cutbox-door.mjs). By AI agents, Wed Nov 11 2026. No macro, syntax, notation, axiom, sorry.
-/
import Derived.Test.YtimfcinkjjaigaaGreatDoorRows
import GoSem.ClaimSeven
namespace Go.Proofs.YtimfcinkjjaigaaGreatDoor
namespace Rows

/-- THE TIED CARD OF 'bucketlinelaw11.EditsDo'. -/
def editsDoCard : Claim7 := { stood := { row := editsDoRow, standIns := [], harness := (true, "787865e38db73361343aa1c92e877f2016964a407034e0c7b0f24dc9435686d7"), looks := false }, kinds := [], alts := [], laidByText := true, laidKinds := [.data, .data, .data], laidTests := true, laidLooks := .later }
def EditsDoCardSaid : Prop := Claim7.holds Tryz.pinned (.plain (OpenSpec.ofChange editsDoSpec)) editsDoCard

/-- THE TIED CARD OF 'bucketlinelaw09.BloomsPut'. -/
def bloomsPutCard : Claim7 := { stood := { row := bloomsPutRow, standIns := [], harness := (true, "787865e38db73361343aa1c92e877f2016964a407034e0c7b0f24dc9435686d7"), looks := false }, kinds := [], alts := [], laidByText := true, laidKinds := [.data, .data, .data], laidTests := true, laidLooks := .later }
def BloomsPutCardSaid : Prop := Claim7.holds Tryz.pinned (.plain (OpenSpec.ofChange bloomsPutSpec)) bloomsPutCard

/-- THE TIED CARD OF 'bucketlinelaw08.BlocksPut'. -/
def blocksPutCard : Claim7 := { stood := { row := blocksPutRow, standIns := [], harness := (true, "787865e38db73361343aa1c92e877f2016964a407034e0c7b0f24dc9435686d7"), looks := false }, kinds := [], alts := [], laidByText := true, laidKinds := [.data, .data, .data], laidTests := true, laidLooks := .later }
def BlocksPutCardSaid : Prop := Claim7.holds Tryz.pinned (.plain (OpenSpec.ofChange blocksPutSpec)) blocksPutCard

/-- THE TIED CARD OF 'bucketlinelaw11.EditsPut'. -/
def editsPutCard : Claim7 := { stood := { row := editsPutRow, standIns := [], harness := (true, "787865e38db73361343aa1c92e877f2016964a407034e0c7b0f24dc9435686d7"), looks := false }, kinds := [], alts := [], laidByText := true, laidKinds := [.data, .data, .data], laidTests := true, laidLooks := .later }
def EditsPutCardSaid : Prop := Claim7.holds Tryz.pinned (.plain (OpenSpec.ofChange editsPutSpec)) editsPutCard

/-- THE TIED CARD OF 'bucketlinelaw08.BlocksGet'. -/
def blocksGetCard : Claim7 := { stood := { row := blocksGetRow, standIns := [], harness := (true, "787865e38db73361343aa1c92e877f2016964a407034e0c7b0f24dc9435686d7"), looks := false }, kinds := [], alts := [], laidByText := true, laidKinds := [.data, .data, .data], laidTests := true, laidLooks := .later }
def BlocksGetCardSaid : Prop := Claim7.holds Tryz.pinned (.plain (OpenSpec.ofChange blocksGetSpec)) blocksGetCard

/-- THE SECOND FORM's CARD OF 'bucketlinelaw11.EditsDo'. -/
def editsDoUptoCard : Claim7 := { stood := { row := editsDoUptoRow, standIns := [], harness := (true, "787865e38db73361343aa1c92e877f2016964a407034e0c7b0f24dc9435686d7"), looks := false }, kinds := [], alts := [], laidByText := true, laidKinds := [.data, .data, .data], laidTests := true, laidLooks := .later }
def EditsDoUptoCardSaid : Prop := Claim7.holds Tryz.pinned (.plain (OpenSpec.upto editsDoSpec)) editsDoUptoCard

/-- THE SECOND FORM's CARD OF 'bucketlinelaw09.BloomsPut'. -/
def bloomsPutUptoCard : Claim7 := { stood := { row := bloomsPutUptoRow, standIns := [], harness := (true, "787865e38db73361343aa1c92e877f2016964a407034e0c7b0f24dc9435686d7"), looks := false }, kinds := [], alts := [], laidByText := true, laidKinds := [.data, .data, .data], laidTests := true, laidLooks := .later }
def BloomsPutUptoCardSaid : Prop := Claim7.holds Tryz.pinned (.plain (OpenSpec.upto bloomsPutSpec)) bloomsPutUptoCard

/-- THE SECOND FORM's CARD OF 'bucketlinelaw08.BlocksPut'. -/
def blocksPutUptoCard : Claim7 := { stood := { row := blocksPutUptoRow, standIns := [], harness := (true, "787865e38db73361343aa1c92e877f2016964a407034e0c7b0f24dc9435686d7"), looks := false }, kinds := [], alts := [], laidByText := true, laidKinds := [.data, .data, .data], laidTests := true, laidLooks := .later }
def BlocksPutUptoCardSaid : Prop := Claim7.holds Tryz.pinned (.plain (OpenSpec.upto blocksPutSpec)) blocksPutUptoCard

/-- THE SECOND FORM's CARD OF 'bucketlinelaw11.EditsPut'. -/
def editsPutUptoCard : Claim7 := { stood := { row := editsPutUptoRow, standIns := [], harness := (true, "787865e38db73361343aa1c92e877f2016964a407034e0c7b0f24dc9435686d7"), looks := false }, kinds := [], alts := [], laidByText := true, laidKinds := [.data, .data, .data], laidTests := true, laidLooks := .later }
def EditsPutUptoCardSaid : Prop := Claim7.holds Tryz.pinned (.plain (OpenSpec.upto editsPutSpec)) editsPutUptoCard

/-- THE SECOND FORM's CARD OF 'bucketlinelaw08.BlocksGet'. -/
def blocksGetUptoCard : Claim7 := { stood := { row := blocksGetUptoRow, standIns := [], harness := (true, "787865e38db73361343aa1c92e877f2016964a407034e0c7b0f24dc9435686d7"), looks := false }, kinds := [], alts := [], laidByText := true, laidKinds := [.data, .data, .data], laidTests := true, laidLooks := .later }
def BlocksGetUptoCardSaid : Prop := Claim7.holds Tryz.pinned (.plain (OpenSpec.upto blocksGetSpec)) blocksGetUptoCard
end Rows
end Go.Proofs.YtimfcinkjjaigaaGreatDoor
