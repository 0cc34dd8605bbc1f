/- Walks of the reader of package order: took, text, byte. The condition: a reader in a block of its own, bytes of less than 2^47. -/
import Derived.Test.YtbcnapkbdbefhaaGreatDoorMemB
import Derived.Test.YtbcnapkbdbefhaaGreatDoorPlain2
namespace Go.Proofs.YtbcnapkbdbefhaaGreatDoor
open Go.RowKit

end Go.Proofs.YtbcnapkbdbefhaaGreatDoor
