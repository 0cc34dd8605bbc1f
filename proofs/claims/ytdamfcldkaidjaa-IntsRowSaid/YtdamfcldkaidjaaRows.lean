/-
  No cell of these rows narrows 'for every input' (looked for: loops, veiled, ifaces, maps, wideKeys, modest, calm, conditions, laid).
  DERIVED. THE GIVEN ROWS OF THIS SEAT. 36 by the template 'for every input the law returns true; each argument reads behind the call as it read before'; 0 by the template 'total and deterministic' (their statements: YtdamfcldkaidjaaTotals.lean).
  GIVEN WITH THE SEED: the statements are not yours to turn. If you find one false, say at which input.
  Laid BY PROGRAM, IN A SANDBOX (cutbox-rows.mjs): the forced cells as the released guide's own fill.sh prints them over the translation d72868a23e763868… (all of the seat's roots in one cut). By AI agents, Wed Nov 11 2026. No macro, syntax, notation, axiom, sorry.
-/
import Derived.Test.YtdamfcldkaidjaaChecked
import GoSem.Claim
import GoSem.ClaimJoined
import GoSem.ClaimMapViews
import Derived.JoinedTies
import Derived.KernelRfl
namespace Go.Proofs.Ytdamfcldkaidjaa
/- THE CELL 'sum', in the pinned program and in every row, IS THE sha256 OF THE DUMP (.gsa) THAT YtdamfcldkaidjaaProg.lean LOADS. Nothing in Lean hashes anything: it is a label: what it is worth is what the hold of that sum in a sandbox is worth. -/
noncomputable def Try.pinned : Pinned := { name := "ytdamfcldkaidjaa", sum := "d72868a23e763868e7df765c1ffbb142e246389906710f01e1acfb7fc3cc3070", checked := Try.checked }
namespace Rows
def none {H : Type} : Left H := { results := [], args := [] }

/-- 'bucketlinelaw09.BloomsMay': WHATEVER THE INPUT: true; the input reads as it did. -/
def bloomsMaySpec : ChangeSpec := { name := "bloomsMay", fn := fun _ => fun
  | [d1, d2] => { results := [.lit (.bool true)], args := [d1, d2] }
  | _ => none }
def bloomsMayRow : OpenClaim := { program := "ytdamfcldkaidjaa", sum := "d72868a23e763868e7df765c1ffbb142e246389906710f01e1acfb7fc3cc3070", func := "bucketline/bucketlinelaw09.BloomsMay", spec := "bloomsMay", unfollowed := true, recurses := true, apart := false }
def BloomsMaySaid : Prop := bloomsMayRow.holds Try.pinned (OpenSpec.ofChange bloomsMaySpec)

/-- ITS FALSE NEIGHBOUR: 'it returns false'. Refute it at one input. -/
def bloomsMayWrong : ChangeSpec := { name := "bloomsMay", fn := fun _ => fun
  | [d1, d2] => { results := [.lit (.bool false)], args := [d1, d2] }
  | _ => none }
def BloomsMayWrongFalsely : Prop := bloomsMayRow.holds Try.pinned (OpenSpec.ofChange bloomsMayWrong)

/-- 'bucketlinelaw01.IntsGet': WHATEVER THE INPUT: true; the input reads as it did. -/
def intsGetSpec : ChangeSpec := { name := "intsGet", fn := fun _ => fun
  | [d] => { results := [.lit (.bool true)], args := [d] }
  | _ => none }
def intsGetRow : OpenClaim := { program := "ytdamfcldkaidjaa", sum := "d72868a23e763868e7df765c1ffbb142e246389906710f01e1acfb7fc3cc3070", func := "bucketline/bucketlinelaw01.IntsGet", spec := "intsGet", unfollowed := true, recurses := true, apart := false }
def IntsGetSaid : Prop := intsGetRow.holds Try.pinned (OpenSpec.ofChange intsGetSpec)

/-- ITS FALSE NEIGHBOUR: 'it returns false'. Refute it at one input. -/
def intsGetWrong : ChangeSpec := { name := "intsGet", fn := fun _ => fun
  | [d] => { results := [.lit (.bool false)], args := [d] }
  | _ => none }
def IntsGetWrongFalsely : Prop := intsGetRow.holds Try.pinned (OpenSpec.ofChange intsGetWrong)

/-- 'bucketlinelaw04.OrderCmp': WHATEVER THE INPUT: true; the input reads as it did. -/
def orderCmpSpec : ChangeSpec := { name := "orderCmp", fn := fun _ => fun
  | [d1, d2] => { results := [.lit (.bool true)], args := [d1, d2] }
  | _ => none }
def orderCmpRow : OpenClaim := { program := "ytdamfcldkaidjaa", sum := "d72868a23e763868e7df765c1ffbb142e246389906710f01e1acfb7fc3cc3070", func := "bucketline/bucketlinelaw04.OrderCmp", spec := "orderCmp", unfollowed := true, recurses := true, apart := false }
def OrderCmpSaid : Prop := orderCmpRow.holds Try.pinned (OpenSpec.ofChange orderCmpSpec)

/-- ITS FALSE NEIGHBOUR: 'it returns false'. Refute it at one input. -/
def orderCmpWrong : ChangeSpec := { name := "orderCmp", fn := fun _ => fun
  | [d1, d2] => { results := [.lit (.bool false)], args := [d1, d2] }
  | _ => none }
def OrderCmpWrongFalsely : Prop := orderCmpRow.holds Try.pinned (OpenSpec.ofChange orderCmpWrong)

/-- 'bucketlinelaw09.BloomsThere': WHATEVER THE INPUT: true; the input reads as it did. -/
def bloomsThereSpec : ChangeSpec := { name := "bloomsThere", fn := fun _ => fun
  | [d] => { results := [.lit (.bool true)], args := [d] }
  | _ => none }
def bloomsThereRow : OpenClaim := { program := "ytdamfcldkaidjaa", sum := "d72868a23e763868e7df765c1ffbb142e246389906710f01e1acfb7fc3cc3070", func := "bucketline/bucketlinelaw09.BloomsThere", spec := "bloomsThere", unfollowed := true, recurses := true, apart := false }
def BloomsThereSaid : Prop := bloomsThereRow.holds Try.pinned (OpenSpec.ofChange bloomsThereSpec)

/-- ITS FALSE NEIGHBOUR: 'it returns false'. Refute it at one input. -/
def bloomsThereWrong : ChangeSpec := { name := "bloomsThere", fn := fun _ => fun
  | [d] => { results := [.lit (.bool false)], args := [d] }
  | _ => none }
def BloomsThereWrongFalsely : Prop := bloomsThereRow.holds Try.pinned (OpenSpec.ofChange bloomsThereWrong)

/-- 'bucketlinelaw09.BloomsOrder': WHATEVER THE INPUT: true; the input reads as it did. -/
def bloomsOrderSpec : ChangeSpec := { name := "bloomsOrder", fn := fun _ => fun
  | [d1, d2] => { results := [.lit (.bool true)], args := [d1, d2] }
  | _ => none }
def bloomsOrderRow : OpenClaim := { program := "ytdamfcldkaidjaa", sum := "d72868a23e763868e7df765c1ffbb142e246389906710f01e1acfb7fc3cc3070", func := "bucketline/bucketlinelaw09.BloomsOrder", spec := "bloomsOrder", unfollowed := true, recurses := true, apart := false }
def BloomsOrderSaid : Prop := bloomsOrderRow.holds Try.pinned (OpenSpec.ofChange bloomsOrderSpec)

/-- ITS FALSE NEIGHBOUR: 'it returns false'. Refute it at one input. -/
def bloomsOrderWrong : ChangeSpec := { name := "bloomsOrder", fn := fun _ => fun
  | [d1, d2] => { results := [.lit (.bool false)], args := [d1, d2] }
  | _ => none }
def BloomsOrderWrongFalsely : Prop := bloomsOrderRow.holds Try.pinned (OpenSpec.ofChange bloomsOrderWrong)

/-- 'bucketlinelaw09.BloomsBits': WHATEVER THE INPUT: true; the input reads as it did. -/
def bloomsBitsSpec : ChangeSpec := { name := "bloomsBits", fn := fun _ => fun
  | [d1, d2, d3] => { results := [.lit (.bool true)], args := [d1, d2, d3] }
  | _ => none }
def bloomsBitsRow : OpenClaim := { program := "ytdamfcldkaidjaa", sum := "d72868a23e763868e7df765c1ffbb142e246389906710f01e1acfb7fc3cc3070", func := "bucketline/bucketlinelaw09.BloomsBits", spec := "bloomsBits", unfollowed := true, recurses := true, apart := false }
def BloomsBitsSaid : Prop := bloomsBitsRow.holds Try.pinned (OpenSpec.ofChange bloomsBitsSpec)

/-- ITS FALSE NEIGHBOUR: 'it returns false'. Refute it at one input. -/
def bloomsBitsWrong : ChangeSpec := { name := "bloomsBits", fn := fun _ => fun
  | [d1, d2, d3] => { results := [.lit (.bool false)], args := [d1, d2, d3] }
  | _ => none }
def BloomsBitsWrongFalsely : Prop := bloomsBitsRow.holds Try.pinned (OpenSpec.ofChange bloomsBitsWrong)

/-- 'bucketlinelaw09.BloomsJoin': WHATEVER THE INPUT: true; the input reads as it did. -/
def bloomsJoinSpec : ChangeSpec := { name := "bloomsJoin", fn := fun _ => fun
  | [d] => { results := [.lit (.bool true)], args := [d] }
  | _ => none }
def bloomsJoinRow : OpenClaim := { program := "ytdamfcldkaidjaa", sum := "d72868a23e763868e7df765c1ffbb142e246389906710f01e1acfb7fc3cc3070", func := "bucketline/bucketlinelaw09.BloomsJoin", spec := "bloomsJoin", unfollowed := true, recurses := true, apart := false }
def BloomsJoinSaid : Prop := bloomsJoinRow.holds Try.pinned (OpenSpec.ofChange bloomsJoinSpec)

/-- ITS FALSE NEIGHBOUR: 'it returns false'. Refute it at one input. -/
def bloomsJoinWrong : ChangeSpec := { name := "bloomsJoin", fn := fun _ => fun
  | [d] => { results := [.lit (.bool false)], args := [d] }
  | _ => none }
def BloomsJoinWrongFalsely : Prop := bloomsJoinRow.holds Try.pinned (OpenSpec.ofChange bloomsJoinWrong)

/-- 'bucketlinelaw04.OrderGet': WHATEVER THE INPUT: true; the input reads as it did. -/
def orderGetSpec : ChangeSpec := { name := "orderGet", fn := fun _ => fun
  | [d] => { results := [.lit (.bool true)], args := [d] }
  | _ => none }
def orderGetRow : OpenClaim := { program := "ytdamfcldkaidjaa", sum := "d72868a23e763868e7df765c1ffbb142e246389906710f01e1acfb7fc3cc3070", func := "bucketline/bucketlinelaw04.OrderGet", spec := "orderGet", unfollowed := true, recurses := true, apart := false }
def OrderGetSaid : Prop := orderGetRow.holds Try.pinned (OpenSpec.ofChange orderGetSpec)

/-- ITS FALSE NEIGHBOUR: 'it returns false'. Refute it at one input. -/
def orderGetWrong : ChangeSpec := { name := "orderGet", fn := fun _ => fun
  | [d] => { results := [.lit (.bool false)], args := [d] }
  | _ => none }
def OrderGetWrongFalsely : Prop := orderGetRow.holds Try.pinned (OpenSpec.ofChange orderGetWrong)

/-- 'bucketlinelaw01.IntsBack': WHATEVER THE INPUT: true; the input reads as it did. -/
def intsBackSpec : ChangeSpec := { name := "intsBack", fn := fun _ => fun
  | [d1, d2, d3] => { results := [.lit (.bool true)], args := [d1, d2, d3] }
  | _ => none }
def intsBackRow : OpenClaim := { program := "ytdamfcldkaidjaa", sum := "d72868a23e763868e7df765c1ffbb142e246389906710f01e1acfb7fc3cc3070", func := "bucketline/bucketlinelaw01.IntsBack", spec := "intsBack", unfollowed := true, recurses := true, apart := false }
def IntsBackSaid : Prop := intsBackRow.holds Try.pinned (OpenSpec.ofChange intsBackSpec)

/-- ITS FALSE NEIGHBOUR: 'it returns false'. Refute it at one input. -/
def intsBackWrong : ChangeSpec := { name := "intsBack", fn := fun _ => fun
  | [d1, d2, d3] => { results := [.lit (.bool false)], args := [d1, d2, d3] }
  | _ => none }
def IntsBackWrongFalsely : Prop := intsBackRow.holds Try.pinned (OpenSpec.ofChange intsBackWrong)

/-- 'bucketlinelaw01.IntsTexts': WHATEVER THE INPUT: true; the input reads as it did. -/
def intsTextsSpec : ChangeSpec := { name := "intsTexts", fn := fun _ => fun
  | [d1, d2, d3] => { results := [.lit (.bool true)], args := [d1, d2, d3] }
  | _ => none }
def intsTextsRow : OpenClaim := { program := "ytdamfcldkaidjaa", sum := "d72868a23e763868e7df765c1ffbb142e246389906710f01e1acfb7fc3cc3070", func := "bucketline/bucketlinelaw01.IntsTexts", spec := "intsTexts", unfollowed := true, recurses := true, apart := false }
def IntsTextsSaid : Prop := intsTextsRow.holds Try.pinned (OpenSpec.ofChange intsTextsSpec)

/-- ITS FALSE NEIGHBOUR: 'it returns false'. Refute it at one input. -/
def intsTextsWrong : ChangeSpec := { name := "intsTexts", fn := fun _ => fun
  | [d1, d2, d3] => { results := [.lit (.bool false)], args := [d1, d2, d3] }
  | _ => none }
def IntsTextsWrongFalsely : Prop := intsTextsRow.holds Try.pinned (OpenSpec.ofChange intsTextsWrong)

/-- 'bucketlinelaw01.IntsAgain': WHATEVER THE INPUT: true; the input reads as it did. -/
def intsAgainSpec : ChangeSpec := { name := "intsAgain", fn := fun _ => fun
  | [d] => { results := [.lit (.bool true)], args := [d] }
  | _ => none }
def intsAgainRow : OpenClaim := { program := "ytdamfcldkaidjaa", sum := "d72868a23e763868e7df765c1ffbb142e246389906710f01e1acfb7fc3cc3070", func := "bucketline/bucketlinelaw01.IntsAgain", spec := "intsAgain", unfollowed := true, recurses := true, apart := false }
def IntsAgainSaid : Prop := intsAgainRow.holds Try.pinned (OpenSpec.ofChange intsAgainSpec)

/-- ITS FALSE NEIGHBOUR: 'it returns false'. Refute it at one input. -/
def intsAgainWrong : ChangeSpec := { name := "intsAgain", fn := fun _ => fun
  | [d] => { results := [.lit (.bool false)], args := [d] }
  | _ => none }
def IntsAgainWrongFalsely : Prop := intsAgainRow.holds Try.pinned (OpenSpec.ofChange intsAgainWrong)

/-- 'bucketlinelaw01.IntsCut': WHATEVER THE INPUT: true; the input reads as it did. -/
def intsCutSpec : ChangeSpec := { name := "intsCut", fn := fun _ => fun
  | [d1, d2, d3] => { results := [.lit (.bool true)], args := [d1, d2, d3] }
  | _ => none }
def intsCutRow : OpenClaim := { program := "ytdamfcldkaidjaa", sum := "d72868a23e763868e7df765c1ffbb142e246389906710f01e1acfb7fc3cc3070", func := "bucketline/bucketlinelaw01.IntsCut", spec := "intsCut", unfollowed := true, recurses := true, apart := false }
def IntsCutSaid : Prop := intsCutRow.holds Try.pinned (OpenSpec.ofChange intsCutSpec)

/-- ITS FALSE NEIGHBOUR: 'it returns false'. Refute it at one input. -/
def intsCutWrong : ChangeSpec := { name := "intsCut", fn := fun _ => fun
  | [d1, d2, d3] => { results := [.lit (.bool false)], args := [d1, d2, d3] }
  | _ => none }
def IntsCutWrongFalsely : Prop := intsCutRow.holds Try.pinned (OpenSpec.ofChange intsCutWrong)

/-- 'bucketlinelaw01.IntsNeedless': WHATEVER THE INPUT: true; the input reads as it did. -/
def intsNeedlessSpec : ChangeSpec := { name := "intsNeedless", fn := fun _ => fun
  | [d1, d2, d3] => { results := [.lit (.bool true)], args := [d1, d2, d3] }
  | _ => none }
def intsNeedlessRow : OpenClaim := { program := "ytdamfcldkaidjaa", sum := "d72868a23e763868e7df765c1ffbb142e246389906710f01e1acfb7fc3cc3070", func := "bucketline/bucketlinelaw01.IntsNeedless", spec := "intsNeedless", unfollowed := true, recurses := true, apart := false }
def IntsNeedlessSaid : Prop := intsNeedlessRow.holds Try.pinned (OpenSpec.ofChange intsNeedlessSpec)

/-- ITS FALSE NEIGHBOUR: 'it returns false'. Refute it at one input. -/
def intsNeedlessWrong : ChangeSpec := { name := "intsNeedless", fn := fun _ => fun
  | [d1, d2, d3] => { results := [.lit (.bool false)], args := [d1, d2, d3] }
  | _ => none }
def IntsNeedlessWrongFalsely : Prop := intsNeedlessRow.holds Try.pinned (OpenSpec.ofChange intsNeedlessWrong)

/-- 'bucketlinelaw01.IntsOrder': WHATEVER THE INPUT: true; the input reads as it did. -/
def intsOrderSpec : ChangeSpec := { name := "intsOrder", fn := fun _ => fun
  | [d1, d2] => { results := [.lit (.bool true)], args := [d1, d2] }
  | _ => none }
def intsOrderRow : OpenClaim := { program := "ytdamfcldkaidjaa", sum := "d72868a23e763868e7df765c1ffbb142e246389906710f01e1acfb7fc3cc3070", func := "bucketline/bucketlinelaw01.IntsOrder", spec := "intsOrder", unfollowed := true, recurses := true, apart := false }
def IntsOrderSaid : Prop := intsOrderRow.holds Try.pinned (OpenSpec.ofChange intsOrderSpec)

/-- ITS FALSE NEIGHBOUR: 'it returns false'. Refute it at one input. -/
def intsOrderWrong : ChangeSpec := { name := "intsOrder", fn := fun _ => fun
  | [d1, d2] => { results := [.lit (.bool false)], args := [d1, d2] }
  | _ => none }
def IntsOrderWrongFalsely : Prop := intsOrderRow.holds Try.pinned (OpenSpec.ofChange intsOrderWrong)

/-- 'bucketlinelaw01.IntsRow': WHATEVER THE INPUT: true; the input reads as it did. -/
def intsRowSpec : ChangeSpec := { name := "intsRow", fn := fun _ => fun
  | [d1, d2] => { results := [.lit (.bool true)], args := [d1, d2] }
  | _ => none }
def intsRowRow : OpenClaim := { program := "ytdamfcldkaidjaa", sum := "d72868a23e763868e7df765c1ffbb142e246389906710f01e1acfb7fc3cc3070", func := "bucketline/bucketlinelaw01.IntsRow", spec := "intsRow", unfollowed := true, recurses := true, apart := false }
def IntsRowSaid : Prop := intsRowRow.holds Try.pinned (OpenSpec.ofChange intsRowSpec)

/-- ITS FALSE NEIGHBOUR: 'it returns false'. Refute it at one input. -/
def intsRowWrong : ChangeSpec := { name := "intsRow", fn := fun _ => fun
  | [d1, d2] => { results := [.lit (.bool false)], args := [d1, d2] }
  | _ => none }
def IntsRowWrongFalsely : Prop := intsRowRow.holds Try.pinned (OpenSpec.ofChange intsRowWrong)

/-- 'bucketlinelaw01.IntsJoin': WHATEVER THE INPUT: true; the input reads as it did. -/
def intsJoinSpec : ChangeSpec := { name := "intsJoin", fn := fun _ => fun
  | [d1, d2] => { results := [.lit (.bool true)], args := [d1, d2] }
  | _ => none }
def intsJoinRow : OpenClaim := { program := "ytdamfcldkaidjaa", sum := "d72868a23e763868e7df765c1ffbb142e246389906710f01e1acfb7fc3cc3070", func := "bucketline/bucketlinelaw01.IntsJoin", spec := "intsJoin", unfollowed := true, recurses := true, apart := false }
def IntsJoinSaid : Prop := intsJoinRow.holds Try.pinned (OpenSpec.ofChange intsJoinSpec)

/-- ITS FALSE NEIGHBOUR: 'it returns false'. Refute it at one input. -/
def intsJoinWrong : ChangeSpec := { name := "intsJoin", fn := fun _ => fun
  | [d1, d2] => { results := [.lit (.bool false)], args := [d1, d2] }
  | _ => none }
def IntsJoinWrongFalsely : Prop := intsJoinRow.holds Try.pinned (OpenSpec.ofChange intsJoinWrong)

/-- 'bucketlinelaw03.FramesBack': WHATEVER THE INPUT: true; the input reads as it did. -/
def framesBackSpec : ChangeSpec := { name := "framesBack", fn := fun _ => fun
  | [d1, d2] => { results := [.lit (.bool true)], args := [d1, d2] }
  | _ => none }
def framesBackRow : OpenClaim := { program := "ytdamfcldkaidjaa", sum := "d72868a23e763868e7df765c1ffbb142e246389906710f01e1acfb7fc3cc3070", func := "bucketline/bucketlinelaw03.FramesBack", spec := "framesBack", apart := false }
def FramesBackSaid : Prop := framesBackRow.holds Try.pinned (OpenSpec.ofChange framesBackSpec)

/-- ITS FALSE NEIGHBOUR: 'it returns false'. Refute it at one input. -/
def framesBackWrong : ChangeSpec := { name := "framesBack", fn := fun _ => fun
  | [d1, d2] => { results := [.lit (.bool false)], args := [d1, d2] }
  | _ => none }
def FramesBackWrongFalsely : Prop := framesBackRow.holds Try.pinned (OpenSpec.ofChange framesBackWrong)

/-- 'bucketlinelaw03.FramesCut': WHATEVER THE INPUT: true; the input reads as it did. -/
def framesCutSpec : ChangeSpec := { name := "framesCut", fn := fun _ => fun
  | [d1, d2, d3] => { results := [.lit (.bool true)], args := [d1, d2, d3] }
  | _ => none }
def framesCutRow : OpenClaim := { program := "ytdamfcldkaidjaa", sum := "d72868a23e763868e7df765c1ffbb142e246389906710f01e1acfb7fc3cc3070", func := "bucketline/bucketlinelaw03.FramesCut", spec := "framesCut", apart := false }
def FramesCutSaid : Prop := framesCutRow.holds Try.pinned (OpenSpec.ofChange framesCutSpec)

/-- ITS FALSE NEIGHBOUR: 'it returns false'. Refute it at one input. -/
def framesCutWrong : ChangeSpec := { name := "framesCut", fn := fun _ => fun
  | [d1, d2, d3] => { results := [.lit (.bool false)], args := [d1, d2, d3] }
  | _ => none }
def FramesCutWrongFalsely : Prop := framesCutRow.holds Try.pinned (OpenSpec.ofChange framesCutWrong)

/-- 'bucketlinelaw03.FramesRow': WHATEVER THE INPUT: true; the input reads as it did. -/
def framesRowSpec : ChangeSpec := { name := "framesRow", fn := fun _ => fun
  | [d1, d2] => { results := [.lit (.bool true)], args := [d1, d2] }
  | _ => none }
def framesRowRow : OpenClaim := { program := "ytdamfcldkaidjaa", sum := "d72868a23e763868e7df765c1ffbb142e246389906710f01e1acfb7fc3cc3070", func := "bucketline/bucketlinelaw03.FramesRow", spec := "framesRow", apart := false }
def FramesRowSaid : Prop := framesRowRow.holds Try.pinned (OpenSpec.ofChange framesRowSpec)

/-- ITS FALSE NEIGHBOUR: 'it returns false'. Refute it at one input. -/
def framesRowWrong : ChangeSpec := { name := "framesRow", fn := fun _ => fun
  | [d1, d2] => { results := [.lit (.bool false)], args := [d1, d2] }
  | _ => none }
def FramesRowWrongFalsely : Prop := framesRowRow.holds Try.pinned (OpenSpec.ofChange framesRowWrong)

/-- 'bucketlinelaw03.FramesAny': WHATEVER THE INPUT: true; the input reads as it did. -/
def framesAnySpec : ChangeSpec := { name := "framesAny", fn := fun _ => fun
  | [d] => { results := [.lit (.bool true)], args := [d] }
  | _ => none }
def framesAnyRow : OpenClaim := { program := "ytdamfcldkaidjaa", sum := "d72868a23e763868e7df765c1ffbb142e246389906710f01e1acfb7fc3cc3070", func := "bucketline/bucketlinelaw03.FramesAny", spec := "framesAny", apart := false }
def FramesAnySaid : Prop := framesAnyRow.holds Try.pinned (OpenSpec.ofChange framesAnySpec)

/-- ITS FALSE NEIGHBOUR: 'it returns false'. Refute it at one input. -/
def framesAnyWrong : ChangeSpec := { name := "framesAny", fn := fun _ => fun
  | [d] => { results := [.lit (.bool false)], args := [d] }
  | _ => none }
def FramesAnyWrongFalsely : Prop := framesAnyRow.holds Try.pinned (OpenSpec.ofChange framesAnyWrong)

/-- 'bucketlinelaw03.FramesParts': WHATEVER THE INPUT: true; the input reads as it did. -/
def framesPartsSpec : ChangeSpec := { name := "framesParts", fn := fun _ => fun
  | [d] => { results := [.lit (.bool true)], args := [d] }
  | _ => none }
def framesPartsRow : OpenClaim := { program := "ytdamfcldkaidjaa", sum := "d72868a23e763868e7df765c1ffbb142e246389906710f01e1acfb7fc3cc3070", func := "bucketline/bucketlinelaw03.FramesParts", spec := "framesParts", apart := false }
def FramesPartsSaid : Prop := framesPartsRow.holds Try.pinned (OpenSpec.ofChange framesPartsSpec)

/-- ITS FALSE NEIGHBOUR: 'it returns false'. Refute it at one input. -/
def framesPartsWrong : ChangeSpec := { name := "framesParts", fn := fun _ => fun
  | [d] => { results := [.lit (.bool false)], args := [d] }
  | _ => none }
def FramesPartsWrongFalsely : Prop := framesPartsRow.holds Try.pinned (OpenSpec.ofChange framesPartsWrong)

/-- 'bucketlinelaw03.FramesUnlike': WHATEVER THE INPUT: true; the input reads as it did. -/
def framesUnlikeSpec : ChangeSpec := { name := "framesUnlike", fn := fun _ => fun
  | [d1, d2] => { results := [.lit (.bool true)], args := [d1, d2] }
  | _ => none }
def framesUnlikeRow : OpenClaim := { program := "ytdamfcldkaidjaa", sum := "d72868a23e763868e7df765c1ffbb142e246389906710f01e1acfb7fc3cc3070", func := "bucketline/bucketlinelaw03.FramesUnlike", spec := "framesUnlike", apart := false }
def FramesUnlikeSaid : Prop := framesUnlikeRow.holds Try.pinned (OpenSpec.ofChange framesUnlikeSpec)

/-- ITS FALSE NEIGHBOUR: 'it returns false'. Refute it at one input. -/
def framesUnlikeWrong : ChangeSpec := { name := "framesUnlike", fn := fun _ => fun
  | [d1, d2] => { results := [.lit (.bool false)], args := [d1, d2] }
  | _ => none }
def FramesUnlikeWrongFalsely : Prop := framesUnlikeRow.holds Try.pinned (OpenSpec.ofChange framesUnlikeWrong)

/-- 'bucketlinelaw03.FramesJoin': WHATEVER THE INPUT: true; the input reads as it did. -/
def framesJoinSpec : ChangeSpec := { name := "framesJoin", fn := fun _ => fun
  | [d1, d2] => { results := [.lit (.bool true)], args := [d1, d2] }
  | _ => none }
def framesJoinRow : OpenClaim := { program := "ytdamfcldkaidjaa", sum := "d72868a23e763868e7df765c1ffbb142e246389906710f01e1acfb7fc3cc3070", func := "bucketline/bucketlinelaw03.FramesJoin", spec := "framesJoin", apart := false }
def FramesJoinSaid : Prop := framesJoinRow.holds Try.pinned (OpenSpec.ofChange framesJoinSpec)

/-- ITS FALSE NEIGHBOUR: 'it returns false'. Refute it at one input. -/
def framesJoinWrong : ChangeSpec := { name := "framesJoin", fn := fun _ => fun
  | [d1, d2] => { results := [.lit (.bool false)], args := [d1, d2] }
  | _ => none }
def FramesJoinWrongFalsely : Prop := framesJoinRow.holds Try.pinned (OpenSpec.ofChange framesJoinWrong)

/-- 'bucketlinelaw04.OrderOne': WHATEVER THE INPUT: true; the input reads as it did. -/
def orderOneSpec : ChangeSpec := { name := "orderOne", fn := fun _ => fun
  | [d1, d2, d3] => { results := [.lit (.bool true)], args := [d1, d2, d3] }
  | _ => none }
def orderOneRow : OpenClaim := { program := "ytdamfcldkaidjaa", sum := "d72868a23e763868e7df765c1ffbb142e246389906710f01e1acfb7fc3cc3070", func := "bucketline/bucketlinelaw04.OrderOne", spec := "orderOne", unfollowed := true, recurses := true, apart := false }
def OrderOneSaid : Prop := orderOneRow.holds Try.pinned (OpenSpec.ofChange orderOneSpec)

/-- ITS FALSE NEIGHBOUR: 'it returns false'. Refute it at one input. -/
def orderOneWrong : ChangeSpec := { name := "orderOne", fn := fun _ => fun
  | [d1, d2, d3] => { results := [.lit (.bool false)], args := [d1, d2, d3] }
  | _ => none }
def OrderOneWrongFalsely : Prop := orderOneRow.holds Try.pinned (OpenSpec.ofChange orderOneWrong)

/-- 'bucketlinelaw04.OrderBack': WHATEVER THE INPUT: true; the input reads as it did. -/
def orderBackSpec : ChangeSpec := { name := "orderBack", fn := fun _ => fun
  | [d1, d2] => { results := [.lit (.bool true)], args := [d1, d2] }
  | _ => none }
def orderBackRow : OpenClaim := { program := "ytdamfcldkaidjaa", sum := "d72868a23e763868e7df765c1ffbb142e246389906710f01e1acfb7fc3cc3070", func := "bucketline/bucketlinelaw04.OrderBack", spec := "orderBack", unfollowed := true, recurses := true, apart := false }
def OrderBackSaid : Prop := orderBackRow.holds Try.pinned (OpenSpec.ofChange orderBackSpec)

/-- ITS FALSE NEIGHBOUR: 'it returns false'. Refute it at one input. -/
def orderBackWrong : ChangeSpec := { name := "orderBack", fn := fun _ => fun
  | [d1, d2] => { results := [.lit (.bool false)], args := [d1, d2] }
  | _ => none }
def OrderBackWrongFalsely : Prop := orderBackRow.holds Try.pinned (OpenSpec.ofChange orderBackWrong)

/-- 'bucketlinelaw04.OrderAgain': WHATEVER THE INPUT: true; the input reads as it did. -/
def orderAgainSpec : ChangeSpec := { name := "orderAgain", fn := fun _ => fun
  | [d1, d2] => { results := [.lit (.bool true)], args := [d1, d2] }
  | _ => none }
def orderAgainRow : OpenClaim := { program := "ytdamfcldkaidjaa", sum := "d72868a23e763868e7df765c1ffbb142e246389906710f01e1acfb7fc3cc3070", func := "bucketline/bucketlinelaw04.OrderAgain", spec := "orderAgain", unfollowed := true, recurses := true, apart := false }
def OrderAgainSaid : Prop := orderAgainRow.holds Try.pinned (OpenSpec.ofChange orderAgainSpec)

/-- ITS FALSE NEIGHBOUR: 'it returns false'. Refute it at one input. -/
def orderAgainWrong : ChangeSpec := { name := "orderAgain", fn := fun _ => fun
  | [d1, d2] => { results := [.lit (.bool false)], args := [d1, d2] }
  | _ => none }
def OrderAgainWrongFalsely : Prop := orderAgainRow.holds Try.pinned (OpenSpec.ofChange orderAgainWrong)

/-- 'bucketlinelaw04.OrderParts': WHATEVER THE INPUT: true; the input reads as it did. -/
def orderPartsSpec : ChangeSpec := { name := "orderParts", fn := fun _ => fun
  | [d] => { results := [.lit (.bool true)], args := [d] }
  | _ => none }
def orderPartsRow : OpenClaim := { program := "ytdamfcldkaidjaa", sum := "d72868a23e763868e7df765c1ffbb142e246389906710f01e1acfb7fc3cc3070", func := "bucketline/bucketlinelaw04.OrderParts", spec := "orderParts", unfollowed := true, recurses := true, apart := false }
def OrderPartsSaid : Prop := orderPartsRow.holds Try.pinned (OpenSpec.ofChange orderPartsSpec)

/-- ITS FALSE NEIGHBOUR: 'it returns false'. Refute it at one input. -/
def orderPartsWrong : ChangeSpec := { name := "orderParts", fn := fun _ => fun
  | [d] => { results := [.lit (.bool false)], args := [d] }
  | _ => none }
def OrderPartsWrongFalsely : Prop := orderPartsRow.holds Try.pinned (OpenSpec.ofChange orderPartsWrong)

/-- 'bucketlinelaw04.OrderKeys': WHATEVER THE INPUT: true; the input reads as it did. -/
def orderKeysSpec : ChangeSpec := { name := "orderKeys", fn := fun _ => fun
  | [d1, d2, d3] => { results := [.lit (.bool true)], args := [d1, d2, d3] }
  | _ => none }
def orderKeysRow : OpenClaim := { program := "ytdamfcldkaidjaa", sum := "d72868a23e763868e7df765c1ffbb142e246389906710f01e1acfb7fc3cc3070", func := "bucketline/bucketlinelaw04.OrderKeys", spec := "orderKeys", unfollowed := true, recurses := true, apart := false }
def OrderKeysSaid : Prop := orderKeysRow.holds Try.pinned (OpenSpec.ofChange orderKeysSpec)

/-- ITS FALSE NEIGHBOUR: 'it returns false'. Refute it at one input. -/
def orderKeysWrong : ChangeSpec := { name := "orderKeys", fn := fun _ => fun
  | [d1, d2, d3] => { results := [.lit (.bool false)], args := [d1, d2, d3] }
  | _ => none }
def OrderKeysWrongFalsely : Prop := orderKeysRow.holds Try.pinned (OpenSpec.ofChange orderKeysWrong)

/-- 'bucketlinelaw04.OrderRow': WHATEVER THE INPUT: true; the input reads as it did. -/
def orderRowSpec : ChangeSpec := { name := "orderRow", fn := fun _ => fun
  | [d] => { results := [.lit (.bool true)], args := [d] }
  | _ => none }
def orderRowRow : OpenClaim := { program := "ytdamfcldkaidjaa", sum := "d72868a23e763868e7df765c1ffbb142e246389906710f01e1acfb7fc3cc3070", func := "bucketline/bucketlinelaw04.OrderRow", spec := "orderRow", unfollowed := true, recurses := true, apart := false }
def OrderRowSaid : Prop := orderRowRow.holds Try.pinned (OpenSpec.ofChange orderRowSpec)

/-- ITS FALSE NEIGHBOUR: 'it returns false'. Refute it at one input. -/
def orderRowWrong : ChangeSpec := { name := "orderRow", fn := fun _ => fun
  | [d] => { results := [.lit (.bool false)], args := [d] }
  | _ => none }
def OrderRowWrongFalsely : Prop := orderRowRow.holds Try.pinned (OpenSpec.ofChange orderRowWrong)

/-- 'bucketlinelaw04.OrderSort': WHATEVER THE INPUT: true; the input reads as it did. -/
def orderSortSpec : ChangeSpec := { name := "orderSort", fn := fun _ => fun
  | [d1, d2] => { results := [.lit (.bool true)], args := [d1, d2] }
  | _ => none }
def orderSortRow : OpenClaim := { program := "ytdamfcldkaidjaa", sum := "d72868a23e763868e7df765c1ffbb142e246389906710f01e1acfb7fc3cc3070", func := "bucketline/bucketlinelaw04.OrderSort", spec := "orderSort", unfollowed := true, recurses := true, apart := false }
def OrderSortSaid : Prop := orderSortRow.holds Try.pinned (OpenSpec.ofChange orderSortSpec)

/-- ITS FALSE NEIGHBOUR: 'it returns false'. Refute it at one input. -/
def orderSortWrong : ChangeSpec := { name := "orderSort", fn := fun _ => fun
  | [d1, d2] => { results := [.lit (.bool false)], args := [d1, d2] }
  | _ => none }
def OrderSortWrongFalsely : Prop := orderSortRow.holds Try.pinned (OpenSpec.ofChange orderSortWrong)

/-- 'bucketlinelaw08.BlocksBack': WHATEVER THE INPUT: true; the input reads as it did. -/
def blocksBackSpec : ChangeSpec := { name := "blocksBack", fn := fun _ => fun
  | [d1, d2] => { results := [.lit (.bool true)], args := [d1, d2] }
  | _ => none }
def blocksBackRow : OpenClaim := { program := "ytdamfcldkaidjaa", sum := "d72868a23e763868e7df765c1ffbb142e246389906710f01e1acfb7fc3cc3070", func := "bucketline/bucketlinelaw08.BlocksBack", spec := "blocksBack", unfollowed := true, recurses := true, apart := false }
def BlocksBackSaid : Prop := blocksBackRow.holds Try.pinned (OpenSpec.ofChange blocksBackSpec)

/-- ITS FALSE NEIGHBOUR: 'it returns false'. Refute it at one input. -/
def blocksBackWrong : ChangeSpec := { name := "blocksBack", fn := fun _ => fun
  | [d1, d2] => { results := [.lit (.bool false)], args := [d1, d2] }
  | _ => none }
def BlocksBackWrongFalsely : Prop := blocksBackRow.holds Try.pinned (OpenSpec.ofChange blocksBackWrong)

/-- 'bucketlinelaw08.BlocksSeek': WHATEVER THE INPUT: true; the input reads as it did. -/
def blocksSeekSpec : ChangeSpec := { name := "blocksSeek", fn := fun _ => fun
  | [d1, d2] => { results := [.lit (.bool true)], args := [d1, d2] }
  | _ => none }
def blocksSeekRow : OpenClaim := { program := "ytdamfcldkaidjaa", sum := "d72868a23e763868e7df765c1ffbb142e246389906710f01e1acfb7fc3cc3070", func := "bucketline/bucketlinelaw08.BlocksSeek", spec := "blocksSeek", unfollowed := true, recurses := true, apart := false }
def BlocksSeekSaid : Prop := blocksSeekRow.holds Try.pinned (OpenSpec.ofChange blocksSeekSpec)

/-- ITS FALSE NEIGHBOUR: 'it returns false'. Refute it at one input. -/
def blocksSeekWrong : ChangeSpec := { name := "blocksSeek", fn := fun _ => fun
  | [d1, d2] => { results := [.lit (.bool false)], args := [d1, d2] }
  | _ => none }
def BlocksSeekWrongFalsely : Prop := blocksSeekRow.holds Try.pinned (OpenSpec.ofChange blocksSeekWrong)

/-- 'bucketlinelaw08.BlocksCut': WHATEVER THE INPUT: true; the input reads as it did. -/
def blocksCutSpec : ChangeSpec := { name := "blocksCut", fn := fun _ => fun
  | [d1, d2, d3] => { results := [.lit (.bool true)], args := [d1, d2, d3] }
  | _ => none }
def blocksCutRow : OpenClaim := { program := "ytdamfcldkaidjaa", sum := "d72868a23e763868e7df765c1ffbb142e246389906710f01e1acfb7fc3cc3070", func := "bucketline/bucketlinelaw08.BlocksCut", spec := "blocksCut", unfollowed := true, recurses := true, apart := false }
def BlocksCutSaid : Prop := blocksCutRow.holds Try.pinned (OpenSpec.ofChange blocksCutSpec)

/-- ITS FALSE NEIGHBOUR: 'it returns false'. Refute it at one input. -/
def blocksCutWrong : ChangeSpec := { name := "blocksCut", fn := fun _ => fun
  | [d1, d2, d3] => { results := [.lit (.bool false)], args := [d1, d2, d3] }
  | _ => none }
def BlocksCutWrongFalsely : Prop := blocksCutRow.holds Try.pinned (OpenSpec.ofChange blocksCutWrong)

/-- 'bucketlinelaw08.BlocksShort': WHATEVER THE INPUT: true; the input reads as it did. -/
def blocksShortSpec : ChangeSpec := { name := "blocksShort", fn := fun _ => fun
  | [d1, d2, d3] => { results := [.lit (.bool true)], args := [d1, d2, d3] }
  | _ => none }
def blocksShortRow : OpenClaim := { program := "ytdamfcldkaidjaa", sum := "d72868a23e763868e7df765c1ffbb142e246389906710f01e1acfb7fc3cc3070", func := "bucketline/bucketlinelaw08.BlocksShort", spec := "blocksShort", unfollowed := true, recurses := true, apart := false }
def BlocksShortSaid : Prop := blocksShortRow.holds Try.pinned (OpenSpec.ofChange blocksShortSpec)

/-- ITS FALSE NEIGHBOUR: 'it returns false'. Refute it at one input. -/
def blocksShortWrong : ChangeSpec := { name := "blocksShort", fn := fun _ => fun
  | [d1, d2, d3] => { results := [.lit (.bool false)], args := [d1, d2, d3] }
  | _ => none }
def BlocksShortWrongFalsely : Prop := blocksShortRow.holds Try.pinned (OpenSpec.ofChange blocksShortWrong)

/-- 'bucketlinelaw08.BlocksMany': WHATEVER THE INPUT: true; the input reads as it did. -/
def blocksManySpec : ChangeSpec := { name := "blocksMany", fn := fun _ => fun
  | [d1, d2] => { results := [.lit (.bool true)], args := [d1, d2] }
  | _ => none }
def blocksManyRow : OpenClaim := { program := "ytdamfcldkaidjaa", sum := "d72868a23e763868e7df765c1ffbb142e246389906710f01e1acfb7fc3cc3070", func := "bucketline/bucketlinelaw08.BlocksMany", spec := "blocksMany", unfollowed := true, recurses := true, apart := false }
def BlocksManySaid : Prop := blocksManyRow.holds Try.pinned (OpenSpec.ofChange blocksManySpec)

/-- ITS FALSE NEIGHBOUR: 'it returns false'. Refute it at one input. -/
def blocksManyWrong : ChangeSpec := { name := "blocksMany", fn := fun _ => fun
  | [d1, d2] => { results := [.lit (.bool false)], args := [d1, d2] }
  | _ => none }
def BlocksManyWrongFalsely : Prop := blocksManyRow.holds Try.pinned (OpenSpec.ofChange blocksManyWrong)

/-- 'bucketlinelaw08.BlocksFours': WHATEVER THE INPUT: true; the input reads as it did. -/
def blocksFoursSpec : ChangeSpec := { name := "blocksFours", fn := fun _ => fun
  | [d1, d2] => { results := [.lit (.bool true)], args := [d1, d2] }
  | _ => none }
def blocksFoursRow : OpenClaim := { program := "ytdamfcldkaidjaa", sum := "d72868a23e763868e7df765c1ffbb142e246389906710f01e1acfb7fc3cc3070", func := "bucketline/bucketlinelaw08.BlocksFours", spec := "blocksFours", unfollowed := true, recurses := true, apart := false }
def BlocksFoursSaid : Prop := blocksFoursRow.holds Try.pinned (OpenSpec.ofChange blocksFoursSpec)

/-- ITS FALSE NEIGHBOUR: 'it returns false'. Refute it at one input. -/
def blocksFoursWrong : ChangeSpec := { name := "blocksFours", fn := fun _ => fun
  | [d1, d2] => { results := [.lit (.bool false)], args := [d1, d2] }
  | _ => none }
def BlocksFoursWrongFalsely : Prop := blocksFoursRow.holds Try.pinned (OpenSpec.ofChange blocksFoursWrong)

/- THE SECOND FORM. 'bulk': how many values and letters a reading holds, each counted each time it is reached (what is shared counts as often as it is met; a slice's spare places count too). A statement '..UptoSaid' is the law's where the arguments, and the package variables that the reading takes, are together of bulk at most 1048576: NARROWER than '..Said'. Prove '..Said' where nothing that the law and all that it calls make is longer than what came in: it says more and counts as full. Else prove '..UptoSaid'. A law counts once. -/
mutual
def uptoBulk {H : Type} : DataW H → Nat
  | .lit (.string bytes) => bytes.length + 1
  | .lit _ => 1
  | .nil => 1
  | .ptr d => uptoBulk d + 1
  | .slice elems spare => uptoBulkAll elems + uptoBulkAll spare + 1
  | .agg parts => uptoBulkAll parts + 1
  | .iface _ d => uptoBulk d + 1
  | .map entries => uptoBulkEntries entries + 1
  | .held _ => 1
def uptoBulkAll {H : Type} : List (DataW H) → Nat
  | [] => 0
  | d :: r => uptoBulk d + uptoBulkAll r
def uptoBulkEntries {H : Type} : List (Lit × DataW H) → Nat
  | [] => 0
  | x :: r => uptoBulkEntry x + uptoBulkEntries r
def uptoBulkEntry {H : Type} : Lit × DataW H → Nat
  | (.string bytes, d) => bytes.length + uptoBulk d + 1
  | (_, d) => uptoBulk d + 1
 end
def uptoSmall : (H : Type) → List (DataW H) → Bool := fun _ ds => decide (uptoBulkAll ds ≤ 1048576)
def OpenSpec.upto (s : _root_.Go.ChangeSpec) : _root_.Go.OpenSpec := { _root_.Go.OpenSpec.ofChange s with cond := some uptoSmall }

/-- 'bucketlinelaw09.BloomsMay', WHERE WHAT IT READS IS OF BULK AT MOST 1048576: true; the input reads as it did. -/
def bloomsMayUptoRow : OpenClaim := { program := "ytdamfcldkaidjaa", sum := "d72868a23e763868e7df765c1ffbb142e246389906710f01e1acfb7fc3cc3070", func := "bucketline/bucketlinelaw09.BloomsMay", spec := "bloomsMay", unfollowed := true, recurses := true, apart := false, narrowed := true }
def BloomsMayUptoSaid : Prop := bloomsMayUptoRow.holds Try.pinned (OpenSpec.upto bloomsMaySpec)

/-- 'bucketlinelaw01.IntsGet', WHERE WHAT IT READS IS OF BULK AT MOST 1048576: true; the input reads as it did. -/
def intsGetUptoRow : OpenClaim := { program := "ytdamfcldkaidjaa", sum := "d72868a23e763868e7df765c1ffbb142e246389906710f01e1acfb7fc3cc3070", func := "bucketline/bucketlinelaw01.IntsGet", spec := "intsGet", unfollowed := true, recurses := true, apart := false, narrowed := true }
def IntsGetUptoSaid : Prop := intsGetUptoRow.holds Try.pinned (OpenSpec.upto intsGetSpec)

/-- 'bucketlinelaw04.OrderCmp', WHERE WHAT IT READS IS OF BULK AT MOST 1048576: true; the input reads as it did. -/
def orderCmpUptoRow : OpenClaim := { program := "ytdamfcldkaidjaa", sum := "d72868a23e763868e7df765c1ffbb142e246389906710f01e1acfb7fc3cc3070", func := "bucketline/bucketlinelaw04.OrderCmp", spec := "orderCmp", unfollowed := true, recurses := true, apart := false, narrowed := true }
def OrderCmpUptoSaid : Prop := orderCmpUptoRow.holds Try.pinned (OpenSpec.upto orderCmpSpec)

/-- 'bucketlinelaw09.BloomsThere', WHERE WHAT IT READS IS OF BULK AT MOST 1048576: true; the input reads as it did. -/
def bloomsThereUptoRow : OpenClaim := { program := "ytdamfcldkaidjaa", sum := "d72868a23e763868e7df765c1ffbb142e246389906710f01e1acfb7fc3cc3070", func := "bucketline/bucketlinelaw09.BloomsThere", spec := "bloomsThere", unfollowed := true, recurses := true, apart := false, narrowed := true }
def BloomsThereUptoSaid : Prop := bloomsThereUptoRow.holds Try.pinned (OpenSpec.upto bloomsThereSpec)

/-- 'bucketlinelaw09.BloomsOrder', WHERE WHAT IT READS IS OF BULK AT MOST 1048576: true; the input reads as it did. -/
def bloomsOrderUptoRow : OpenClaim := { program := "ytdamfcldkaidjaa", sum := "d72868a23e763868e7df765c1ffbb142e246389906710f01e1acfb7fc3cc3070", func := "bucketline/bucketlinelaw09.BloomsOrder", spec := "bloomsOrder", unfollowed := true, recurses := true, apart := false, narrowed := true }
def BloomsOrderUptoSaid : Prop := bloomsOrderUptoRow.holds Try.pinned (OpenSpec.upto bloomsOrderSpec)

/-- 'bucketlinelaw09.BloomsBits', WHERE WHAT IT READS IS OF BULK AT MOST 1048576: true; the input reads as it did. -/
def bloomsBitsUptoRow : OpenClaim := { program := "ytdamfcldkaidjaa", sum := "d72868a23e763868e7df765c1ffbb142e246389906710f01e1acfb7fc3cc3070", func := "bucketline/bucketlinelaw09.BloomsBits", spec := "bloomsBits", unfollowed := true, recurses := true, apart := false, narrowed := true }
def BloomsBitsUptoSaid : Prop := bloomsBitsUptoRow.holds Try.pinned (OpenSpec.upto bloomsBitsSpec)

/-- 'bucketlinelaw09.BloomsJoin', WHERE WHAT IT READS IS OF BULK AT MOST 1048576: true; the input reads as it did. -/
def bloomsJoinUptoRow : OpenClaim := { program := "ytdamfcldkaidjaa", sum := "d72868a23e763868e7df765c1ffbb142e246389906710f01e1acfb7fc3cc3070", func := "bucketline/bucketlinelaw09.BloomsJoin", spec := "bloomsJoin", unfollowed := true, recurses := true, apart := false, narrowed := true }
def BloomsJoinUptoSaid : Prop := bloomsJoinUptoRow.holds Try.pinned (OpenSpec.upto bloomsJoinSpec)

/-- 'bucketlinelaw04.OrderGet', WHERE WHAT IT READS IS OF BULK AT MOST 1048576: true; the input reads as it did. -/
def orderGetUptoRow : OpenClaim := { program := "ytdamfcldkaidjaa", sum := "d72868a23e763868e7df765c1ffbb142e246389906710f01e1acfb7fc3cc3070", func := "bucketline/bucketlinelaw04.OrderGet", spec := "orderGet", unfollowed := true, recurses := true, apart := false, narrowed := true }
def OrderGetUptoSaid : Prop := orderGetUptoRow.holds Try.pinned (OpenSpec.upto orderGetSpec)

/-- 'bucketlinelaw01.IntsBack', WHERE WHAT IT READS IS OF BULK AT MOST 1048576: true; the input reads as it did. -/
def intsBackUptoRow : OpenClaim := { program := "ytdamfcldkaidjaa", sum := "d72868a23e763868e7df765c1ffbb142e246389906710f01e1acfb7fc3cc3070", func := "bucketline/bucketlinelaw01.IntsBack", spec := "intsBack", unfollowed := true, recurses := true, apart := false, narrowed := true }
def IntsBackUptoSaid : Prop := intsBackUptoRow.holds Try.pinned (OpenSpec.upto intsBackSpec)

/-- 'bucketlinelaw01.IntsTexts', WHERE WHAT IT READS IS OF BULK AT MOST 1048576: true; the input reads as it did. -/
def intsTextsUptoRow : OpenClaim := { program := "ytdamfcldkaidjaa", sum := "d72868a23e763868e7df765c1ffbb142e246389906710f01e1acfb7fc3cc3070", func := "bucketline/bucketlinelaw01.IntsTexts", spec := "intsTexts", unfollowed := true, recurses := true, apart := false, narrowed := true }
def IntsTextsUptoSaid : Prop := intsTextsUptoRow.holds Try.pinned (OpenSpec.upto intsTextsSpec)

/-- 'bucketlinelaw01.IntsAgain', WHERE WHAT IT READS IS OF BULK AT MOST 1048576: true; the input reads as it did. -/
def intsAgainUptoRow : OpenClaim := { program := "ytdamfcldkaidjaa", sum := "d72868a23e763868e7df765c1ffbb142e246389906710f01e1acfb7fc3cc3070", func := "bucketline/bucketlinelaw01.IntsAgain", spec := "intsAgain", unfollowed := true, recurses := true, apart := false, narrowed := true }
def IntsAgainUptoSaid : Prop := intsAgainUptoRow.holds Try.pinned (OpenSpec.upto intsAgainSpec)

/-- 'bucketlinelaw01.IntsCut', WHERE WHAT IT READS IS OF BULK AT MOST 1048576: true; the input reads as it did. -/
def intsCutUptoRow : OpenClaim := { program := "ytdamfcldkaidjaa", sum := "d72868a23e763868e7df765c1ffbb142e246389906710f01e1acfb7fc3cc3070", func := "bucketline/bucketlinelaw01.IntsCut", spec := "intsCut", unfollowed := true, recurses := true, apart := false, narrowed := true }
def IntsCutUptoSaid : Prop := intsCutUptoRow.holds Try.pinned (OpenSpec.upto intsCutSpec)

/-- 'bucketlinelaw01.IntsNeedless', WHERE WHAT IT READS IS OF BULK AT MOST 1048576: true; the input reads as it did. -/
def intsNeedlessUptoRow : OpenClaim := { program := "ytdamfcldkaidjaa", sum := "d72868a23e763868e7df765c1ffbb142e246389906710f01e1acfb7fc3cc3070", func := "bucketline/bucketlinelaw01.IntsNeedless", spec := "intsNeedless", unfollowed := true, recurses := true, apart := false, narrowed := true }
def IntsNeedlessUptoSaid : Prop := intsNeedlessUptoRow.holds Try.pinned (OpenSpec.upto intsNeedlessSpec)

/-- 'bucketlinelaw01.IntsOrder', WHERE WHAT IT READS IS OF BULK AT MOST 1048576: true; the input reads as it did. -/
def intsOrderUptoRow : OpenClaim := { program := "ytdamfcldkaidjaa", sum := "d72868a23e763868e7df765c1ffbb142e246389906710f01e1acfb7fc3cc3070", func := "bucketline/bucketlinelaw01.IntsOrder", spec := "intsOrder", unfollowed := true, recurses := true, apart := false, narrowed := true }
def IntsOrderUptoSaid : Prop := intsOrderUptoRow.holds Try.pinned (OpenSpec.upto intsOrderSpec)

/-- 'bucketlinelaw01.IntsRow', WHERE WHAT IT READS IS OF BULK AT MOST 1048576: true; the input reads as it did. -/
def intsRowUptoRow : OpenClaim := { program := "ytdamfcldkaidjaa", sum := "d72868a23e763868e7df765c1ffbb142e246389906710f01e1acfb7fc3cc3070", func := "bucketline/bucketlinelaw01.IntsRow", spec := "intsRow", unfollowed := true, recurses := true, apart := false, narrowed := true }
def IntsRowUptoSaid : Prop := intsRowUptoRow.holds Try.pinned (OpenSpec.upto intsRowSpec)

/-- 'bucketlinelaw01.IntsJoin', WHERE WHAT IT READS IS OF BULK AT MOST 1048576: true; the input reads as it did. -/
def intsJoinUptoRow : OpenClaim := { program := "ytdamfcldkaidjaa", sum := "d72868a23e763868e7df765c1ffbb142e246389906710f01e1acfb7fc3cc3070", func := "bucketline/bucketlinelaw01.IntsJoin", spec := "intsJoin", unfollowed := true, recurses := true, apart := false, narrowed := true }
def IntsJoinUptoSaid : Prop := intsJoinUptoRow.holds Try.pinned (OpenSpec.upto intsJoinSpec)

/-- 'bucketlinelaw03.FramesBack', WHERE WHAT IT READS IS OF BULK AT MOST 1048576: true; the input reads as it did. -/
def framesBackUptoRow : OpenClaim := { program := "ytdamfcldkaidjaa", sum := "d72868a23e763868e7df765c1ffbb142e246389906710f01e1acfb7fc3cc3070", func := "bucketline/bucketlinelaw03.FramesBack", spec := "framesBack", apart := false, narrowed := true }
def FramesBackUptoSaid : Prop := framesBackUptoRow.holds Try.pinned (OpenSpec.upto framesBackSpec)

/-- 'bucketlinelaw03.FramesCut', WHERE WHAT IT READS IS OF BULK AT MOST 1048576: true; the input reads as it did. -/
def framesCutUptoRow : OpenClaim := { program := "ytdamfcldkaidjaa", sum := "d72868a23e763868e7df765c1ffbb142e246389906710f01e1acfb7fc3cc3070", func := "bucketline/bucketlinelaw03.FramesCut", spec := "framesCut", apart := false, narrowed := true }
def FramesCutUptoSaid : Prop := framesCutUptoRow.holds Try.pinned (OpenSpec.upto framesCutSpec)

/-- 'bucketlinelaw03.FramesRow', WHERE WHAT IT READS IS OF BULK AT MOST 1048576: true; the input reads as it did. -/
def framesRowUptoRow : OpenClaim := { program := "ytdamfcldkaidjaa", sum := "d72868a23e763868e7df765c1ffbb142e246389906710f01e1acfb7fc3cc3070", func := "bucketline/bucketlinelaw03.FramesRow", spec := "framesRow", apart := false, narrowed := true }
def FramesRowUptoSaid : Prop := framesRowUptoRow.holds Try.pinned (OpenSpec.upto framesRowSpec)

/-- 'bucketlinelaw03.FramesAny', WHERE WHAT IT READS IS OF BULK AT MOST 1048576: true; the input reads as it did. -/
def framesAnyUptoRow : OpenClaim := { program := "ytdamfcldkaidjaa", sum := "d72868a23e763868e7df765c1ffbb142e246389906710f01e1acfb7fc3cc3070", func := "bucketline/bucketlinelaw03.FramesAny", spec := "framesAny", apart := false, narrowed := true }
def FramesAnyUptoSaid : Prop := framesAnyUptoRow.holds Try.pinned (OpenSpec.upto framesAnySpec)

/-- 'bucketlinelaw03.FramesParts', WHERE WHAT IT READS IS OF BULK AT MOST 1048576: true; the input reads as it did. -/
def framesPartsUptoRow : OpenClaim := { program := "ytdamfcldkaidjaa", sum := "d72868a23e763868e7df765c1ffbb142e246389906710f01e1acfb7fc3cc3070", func := "bucketline/bucketlinelaw03.FramesParts", spec := "framesParts", apart := false, narrowed := true }
def FramesPartsUptoSaid : Prop := framesPartsUptoRow.holds Try.pinned (OpenSpec.upto framesPartsSpec)

/-- 'bucketlinelaw03.FramesUnlike', WHERE WHAT IT READS IS OF BULK AT MOST 1048576: true; the input reads as it did. -/
def framesUnlikeUptoRow : OpenClaim := { program := "ytdamfcldkaidjaa", sum := "d72868a23e763868e7df765c1ffbb142e246389906710f01e1acfb7fc3cc3070", func := "bucketline/bucketlinelaw03.FramesUnlike", spec := "framesUnlike", apart := false, narrowed := true }
def FramesUnlikeUptoSaid : Prop := framesUnlikeUptoRow.holds Try.pinned (OpenSpec.upto framesUnlikeSpec)

/-- 'bucketlinelaw03.FramesJoin', WHERE WHAT IT READS IS OF BULK AT MOST 1048576: true; the input reads as it did. -/
def framesJoinUptoRow : OpenClaim := { program := "ytdamfcldkaidjaa", sum := "d72868a23e763868e7df765c1ffbb142e246389906710f01e1acfb7fc3cc3070", func := "bucketline/bucketlinelaw03.FramesJoin", spec := "framesJoin", apart := false, narrowed := true }
def FramesJoinUptoSaid : Prop := framesJoinUptoRow.holds Try.pinned (OpenSpec.upto framesJoinSpec)

/-- 'bucketlinelaw04.OrderOne', WHERE WHAT IT READS IS OF BULK AT MOST 1048576: true; the input reads as it did. -/
def orderOneUptoRow : OpenClaim := { program := "ytdamfcldkaidjaa", sum := "d72868a23e763868e7df765c1ffbb142e246389906710f01e1acfb7fc3cc3070", func := "bucketline/bucketlinelaw04.OrderOne", spec := "orderOne", unfollowed := true, recurses := true, apart := false, narrowed := true }
def OrderOneUptoSaid : Prop := orderOneUptoRow.holds Try.pinned (OpenSpec.upto orderOneSpec)

/-- 'bucketlinelaw04.OrderBack', WHERE WHAT IT READS IS OF BULK AT MOST 1048576: true; the input reads as it did. -/
def orderBackUptoRow : OpenClaim := { program := "ytdamfcldkaidjaa", sum := "d72868a23e763868e7df765c1ffbb142e246389906710f01e1acfb7fc3cc3070", func := "bucketline/bucketlinelaw04.OrderBack", spec := "orderBack", unfollowed := true, recurses := true, apart := false, narrowed := true }
def OrderBackUptoSaid : Prop := orderBackUptoRow.holds Try.pinned (OpenSpec.upto orderBackSpec)

/-- 'bucketlinelaw04.OrderAgain', WHERE WHAT IT READS IS OF BULK AT MOST 1048576: true; the input reads as it did. -/
def orderAgainUptoRow : OpenClaim := { program := "ytdamfcldkaidjaa", sum := "d72868a23e763868e7df765c1ffbb142e246389906710f01e1acfb7fc3cc3070", func := "bucketline/bucketlinelaw04.OrderAgain", spec := "orderAgain", unfollowed := true, recurses := true, apart := false, narrowed := true }
def OrderAgainUptoSaid : Prop := orderAgainUptoRow.holds Try.pinned (OpenSpec.upto orderAgainSpec)

/-- 'bucketlinelaw04.OrderParts', WHERE WHAT IT READS IS OF BULK AT MOST 1048576: true; the input reads as it did. -/
def orderPartsUptoRow : OpenClaim := { program := "ytdamfcldkaidjaa", sum := "d72868a23e763868e7df765c1ffbb142e246389906710f01e1acfb7fc3cc3070", func := "bucketline/bucketlinelaw04.OrderParts", spec := "orderParts", unfollowed := true, recurses := true, apart := false, narrowed := true }
def OrderPartsUptoSaid : Prop := orderPartsUptoRow.holds Try.pinned (OpenSpec.upto orderPartsSpec)

/-- 'bucketlinelaw04.OrderKeys', WHERE WHAT IT READS IS OF BULK AT MOST 1048576: true; the input reads as it did. -/
def orderKeysUptoRow : OpenClaim := { program := "ytdamfcldkaidjaa", sum := "d72868a23e763868e7df765c1ffbb142e246389906710f01e1acfb7fc3cc3070", func := "bucketline/bucketlinelaw04.OrderKeys", spec := "orderKeys", unfollowed := true, recurses := true, apart := false, narrowed := true }
def OrderKeysUptoSaid : Prop := orderKeysUptoRow.holds Try.pinned (OpenSpec.upto orderKeysSpec)

/-- 'bucketlinelaw04.OrderRow', WHERE WHAT IT READS IS OF BULK AT MOST 1048576: true; the input reads as it did. -/
def orderRowUptoRow : OpenClaim := { program := "ytdamfcldkaidjaa", sum := "d72868a23e763868e7df765c1ffbb142e246389906710f01e1acfb7fc3cc3070", func := "bucketline/bucketlinelaw04.OrderRow", spec := "orderRow", unfollowed := true, recurses := true, apart := false, narrowed := true }
def OrderRowUptoSaid : Prop := orderRowUptoRow.holds Try.pinned (OpenSpec.upto orderRowSpec)

/-- 'bucketlinelaw04.OrderSort', WHERE WHAT IT READS IS OF BULK AT MOST 1048576: true; the input reads as it did. -/
def orderSortUptoRow : OpenClaim := { program := "ytdamfcldkaidjaa", sum := "d72868a23e763868e7df765c1ffbb142e246389906710f01e1acfb7fc3cc3070", func := "bucketline/bucketlinelaw04.OrderSort", spec := "orderSort", unfollowed := true, recurses := true, apart := false, narrowed := true }
def OrderSortUptoSaid : Prop := orderSortUptoRow.holds Try.pinned (OpenSpec.upto orderSortSpec)

/-- 'bucketlinelaw08.BlocksBack', WHERE WHAT IT READS IS OF BULK AT MOST 1048576: true; the input reads as it did. -/
def blocksBackUptoRow : OpenClaim := { program := "ytdamfcldkaidjaa", sum := "d72868a23e763868e7df765c1ffbb142e246389906710f01e1acfb7fc3cc3070", func := "bucketline/bucketlinelaw08.BlocksBack", spec := "blocksBack", unfollowed := true, recurses := true, apart := false, narrowed := true }
def BlocksBackUptoSaid : Prop := blocksBackUptoRow.holds Try.pinned (OpenSpec.upto blocksBackSpec)

/-- 'bucketlinelaw08.BlocksSeek', WHERE WHAT IT READS IS OF BULK AT MOST 1048576: true; the input reads as it did. -/
def blocksSeekUptoRow : OpenClaim := { program := "ytdamfcldkaidjaa", sum := "d72868a23e763868e7df765c1ffbb142e246389906710f01e1acfb7fc3cc3070", func := "bucketline/bucketlinelaw08.BlocksSeek", spec := "blocksSeek", unfollowed := true, recurses := true, apart := false, narrowed := true }
def BlocksSeekUptoSaid : Prop := blocksSeekUptoRow.holds Try.pinned (OpenSpec.upto blocksSeekSpec)

/-- 'bucketlinelaw08.BlocksCut', WHERE WHAT IT READS IS OF BULK AT MOST 1048576: true; the input reads as it did. -/
def blocksCutUptoRow : OpenClaim := { program := "ytdamfcldkaidjaa", sum := "d72868a23e763868e7df765c1ffbb142e246389906710f01e1acfb7fc3cc3070", func := "bucketline/bucketlinelaw08.BlocksCut", spec := "blocksCut", unfollowed := true, recurses := true, apart := false, narrowed := true }
def BlocksCutUptoSaid : Prop := blocksCutUptoRow.holds Try.pinned (OpenSpec.upto blocksCutSpec)

/-- 'bucketlinelaw08.BlocksShort', WHERE WHAT IT READS IS OF BULK AT MOST 1048576: true; the input reads as it did. -/
def blocksShortUptoRow : OpenClaim := { program := "ytdamfcldkaidjaa", sum := "d72868a23e763868e7df765c1ffbb142e246389906710f01e1acfb7fc3cc3070", func := "bucketline/bucketlinelaw08.BlocksShort", spec := "blocksShort", unfollowed := true, recurses := true, apart := false, narrowed := true }
def BlocksShortUptoSaid : Prop := blocksShortUptoRow.holds Try.pinned (OpenSpec.upto blocksShortSpec)

/-- 'bucketlinelaw08.BlocksMany', WHERE WHAT IT READS IS OF BULK AT MOST 1048576: true; the input reads as it did. -/
def blocksManyUptoRow : OpenClaim := { program := "ytdamfcldkaidjaa", sum := "d72868a23e763868e7df765c1ffbb142e246389906710f01e1acfb7fc3cc3070", func := "bucketline/bucketlinelaw08.BlocksMany", spec := "blocksMany", unfollowed := true, recurses := true, apart := false, narrowed := true }
def BlocksManyUptoSaid : Prop := blocksManyUptoRow.holds Try.pinned (OpenSpec.upto blocksManySpec)

/-- 'bucketlinelaw08.BlocksFours', WHERE WHAT IT READS IS OF BULK AT MOST 1048576: true; the input reads as it did. -/
def blocksFoursUptoRow : OpenClaim := { program := "ytdamfcldkaidjaa", sum := "d72868a23e763868e7df765c1ffbb142e246389906710f01e1acfb7fc3cc3070", func := "bucketline/bucketlinelaw08.BlocksFours", spec := "blocksFours", unfollowed := true, recurses := true, apart := false, narrowed := true }
def BlocksFoursUptoSaid : Prop := blocksFoursUptoRow.holds Try.pinned (OpenSpec.upto blocksFoursSpec)

end Rows
end Go.Proofs.Ytdamfcldkaidjaa
