/-
  DERIVED. GIVEN WITH THE SEED: THE CARDS: each row of YtafanohpkbfknaaGreatDoorRows.lean that lists a variable, with what it lists TIED to the program's text (the seventh form; the later family's looks); each row that meets fmt, with fmt's text TOLD by the authors' own Lean function (tested against real Go, not proved from fmt's source: count such statements apart). THE CARD IS WHAT COUNTS. Prove the row's statement (the work); the ties are given (YtafanohpkbfknaaGreatDoorTie.lean); close each card by the builder's one call (the guide's Derived/Test/ToyasCard.lean, 'card_holds'). Laid BY PROGRAM, IN A SANDBOX (cutbox-door.mjs). By AI agents, Wed Nov 11 2026. No macro, syntax, notation, axiom, sorry.
-/
import Derived.Test.YtafanohpkbfknaaGreatDoorRows
import GoSem.ClaimSeven
namespace Go.Proofs.YtafanohpkbfknaaGreatDoor
namespace Rows

/-- THE TIED CARD OF 'bucketlinelaw09.BloomsPut'. -/
def bloomsPutCard : Claim7 := { stood := { row := bloomsPutRow, standIns := [], harness := (true, "4cf375f599818f2a402709bd550cd46bcad31a897c207bebf547cb811bdf0fc4"), looks := false }, kinds := [], alts := [], laidByText := true, laidKinds := [.data, .data, .data], laidTests := true, laidLooks := .later }
def BloomsPutCardSaid : Prop := Claim7.holds Tryz.pinned (.plain (OpenSpec.ofChange bloomsPutSpec)) bloomsPutCard

/-- THE TIED CARD OF 'bucketlinelaw04.OrderPut'. -/
def orderPutCard : Claim7 := { stood := { row := orderPutRow, standIns := [], harness := (true, "4cf375f599818f2a402709bd550cd46bcad31a897c207bebf547cb811bdf0fc4"), looks := false }, kinds := [], alts := [], laidByText := true, laidKinds := [.data, .data, .data], laidTests := true, laidLooks := .later }
def OrderPutCardSaid : Prop := Claim7.holds Tryz.pinned (.plain (OpenSpec.ofChange orderPutSpec)) orderPutCard

/-- THE TIED CARD OF 'bucketlinelaw03.FramesGet'. -/
def framesGetCard : Claim7 := { stood := { row := framesGetRow, standIns := [], harness := (true, "4cf375f599818f2a402709bd550cd46bcad31a897c207bebf547cb811bdf0fc4"), looks := false }, kinds := [], alts := [], laidByText := true, laidKinds := [.data, .data, .data], laidTests := true, laidLooks := .later }
def FramesGetCardSaid : Prop := Claim7.holds Tryz.pinned (.plain (OpenSpec.ofChange framesGetSpec)) framesGetCard

/-- THE TIED CARD OF 'bucketlinelaw03.FramesPut'. -/
def framesPutCard : Claim7 := { stood := { row := framesPutRow, standIns := [], harness := (true, "4cf375f599818f2a402709bd550cd46bcad31a897c207bebf547cb811bdf0fc4"), looks := false }, kinds := [], alts := [], laidByText := true, laidKinds := [.data, .data, .data], laidTests := true, laidLooks := .later }
def FramesPutCardSaid : Prop := Claim7.holds Tryz.pinned (.plain (OpenSpec.ofChange framesPutSpec)) framesPutCard

/-- THE TIED CARD OF 'bucketlinelaw08.BlocksPut'. -/
def blocksPutCard : Claim7 := { stood := { row := blocksPutRow, standIns := [], harness := (true, "4cf375f599818f2a402709bd550cd46bcad31a897c207bebf547cb811bdf0fc4"), looks := false }, kinds := [], alts := [], laidByText := true, laidKinds := [.data, .data, .data], laidTests := true, laidLooks := .later }
def BlocksPutCardSaid : Prop := Claim7.holds Tryz.pinned (.plain (OpenSpec.ofChange blocksPutSpec)) blocksPutCard

/-- THE TIED CARD OF 'bucketlinelaw08.BlocksGet'. -/
def blocksGetCard : Claim7 := { stood := { row := blocksGetRow, standIns := [], harness := (true, "4cf375f599818f2a402709bd550cd46bcad31a897c207bebf547cb811bdf0fc4"), looks := false }, kinds := [], alts := [], laidByText := true, laidKinds := [.data, .data, .data], laidTests := true, laidLooks := .later }
def BlocksGetCardSaid : Prop := Claim7.holds Tryz.pinned (.plain (OpenSpec.ofChange blocksGetSpec)) blocksGetCard

/-- THE SECOND FORM's CARD OF 'bucketlinelaw09.BloomsPut'. -/
def bloomsPutUptoCard : Claim7 := { stood := { row := bloomsPutUptoRow, standIns := [], harness := (true, "4cf375f599818f2a402709bd550cd46bcad31a897c207bebf547cb811bdf0fc4"), looks := false }, kinds := [], alts := [], laidByText := true, laidKinds := [.data, .data, .data], laidTests := true, laidLooks := .later }
def BloomsPutUptoCardSaid : Prop := Claim7.holds Tryz.pinned (.plain (OpenSpec.upto bloomsPutSpec)) bloomsPutUptoCard

/-- THE SECOND FORM's CARD OF 'bucketlinelaw04.OrderPut'. -/
def orderPutUptoCard : Claim7 := { stood := { row := orderPutUptoRow, standIns := [], harness := (true, "4cf375f599818f2a402709bd550cd46bcad31a897c207bebf547cb811bdf0fc4"), looks := false }, kinds := [], alts := [], laidByText := true, laidKinds := [.data, .data, .data], laidTests := true, laidLooks := .later }
def OrderPutUptoCardSaid : Prop := Claim7.holds Tryz.pinned (.plain (OpenSpec.upto orderPutSpec)) orderPutUptoCard

/-- THE SECOND FORM's CARD OF 'bucketlinelaw03.FramesGet'. -/
def framesGetUptoCard : Claim7 := { stood := { row := framesGetUptoRow, standIns := [], harness := (true, "4cf375f599818f2a402709bd550cd46bcad31a897c207bebf547cb811bdf0fc4"), looks := false }, kinds := [], alts := [], laidByText := true, laidKinds := [.data, .data, .data], laidTests := true, laidLooks := .later }
def FramesGetUptoCardSaid : Prop := Claim7.holds Tryz.pinned (.plain (OpenSpec.upto framesGetSpec)) framesGetUptoCard

/-- THE SECOND FORM's CARD OF 'bucketlinelaw03.FramesPut'. -/
def framesPutUptoCard : Claim7 := { stood := { row := framesPutUptoRow, standIns := [], harness := (true, "4cf375f599818f2a402709bd550cd46bcad31a897c207bebf547cb811bdf0fc4"), looks := false }, kinds := [], alts := [], laidByText := true, laidKinds := [.data, .data, .data], laidTests := true, laidLooks := .later }
def FramesPutUptoCardSaid : Prop := Claim7.holds Tryz.pinned (.plain (OpenSpec.upto framesPutSpec)) framesPutUptoCard

/-- THE SECOND FORM's CARD OF 'bucketlinelaw08.BlocksPut'. -/
def blocksPutUptoCard : Claim7 := { stood := { row := blocksPutUptoRow, standIns := [], harness := (true, "4cf375f599818f2a402709bd550cd46bcad31a897c207bebf547cb811bdf0fc4"), looks := false }, kinds := [], alts := [], laidByText := true, laidKinds := [.data, .data, .data], laidTests := true, laidLooks := .later }
def BlocksPutUptoCardSaid : Prop := Claim7.holds Tryz.pinned (.plain (OpenSpec.upto blocksPutSpec)) blocksPutUptoCard

/-- THE SECOND FORM's CARD OF 'bucketlinelaw08.BlocksGet'. -/
def blocksGetUptoCard : Claim7 := { stood := { row := blocksGetUptoRow, standIns := [], harness := (true, "4cf375f599818f2a402709bd550cd46bcad31a897c207bebf547cb811bdf0fc4"), looks := false }, kinds := [], alts := [], laidByText := true, laidKinds := [.data, .data, .data], laidTests := true, laidLooks := .later }
def BlocksGetUptoCardSaid : Prop := Claim7.holds Tryz.pinned (.plain (OpenSpec.upto blocksGetSpec)) blocksGetUptoCard
end Rows
end Go.Proofs.YtafanohpkbfknaaGreatDoor
