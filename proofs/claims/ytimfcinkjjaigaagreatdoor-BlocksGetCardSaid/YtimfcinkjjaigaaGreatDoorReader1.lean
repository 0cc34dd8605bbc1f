/- Walks of the reader of package order: took, text, byte. The condition: a reader in a block of its own, bytes of less than 2^47. -/
import Derived.Test.YtimfcinkjjaigaaGreatDoorBlk
import Derived.Test.YtimfcinkjjaigaaGreatDoorPlain2
namespace Go.Proofs.YtimfcinkjjaigaaGreatDoor
open Go.RowKit

end Go.Proofs.YtimfcinkjjaigaaGreatDoor
