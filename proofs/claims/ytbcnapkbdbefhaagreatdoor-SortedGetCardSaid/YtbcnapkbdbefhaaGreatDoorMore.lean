/- More on blocks that are known whole. No condition. -/
import Derived.Test.YtbcnapkbdbefhaaGreatDoorMemB
import Derived.Test.YtbcnapkbdbefhaaGreatDoorPlain2
namespace Go.Proofs.YtbcnapkbdbefhaaGreatDoor
open Go.RowKit
theorem Blk.under {w w' : World} {g B : Nat} {cs : Array Value} {t : TypeId} (h : Blk w g cs t) (hg : g < B) (hb : Below B w w') : Blk w' g cs t := by
  unfold Blk at *
  rw [hb.block g hg]; exact h
/-- an entry as the program holds it -/
def entC (k : ByteArray) (s : Nat) (g : Bool) (u : ByteArray) : Array Value := #[.string k, .int .u64 s, .bool g, .string u]
def entOf (k : ByteArray) (s : Nat) (g : Bool) (u : ByteArray) : Ent := ⟨k.data.toList, s, g, u.data.toList⟩
end Go.Proofs.YtbcnapkbdbefhaaGreatDoor
