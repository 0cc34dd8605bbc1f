/- Walks of the reader of package order: took, text, byte. The condition: a reader in a block of its own, bytes of less than 2^47. -/
import Derived.Test.YtbcnapkbdbefhaaBlk
import Derived.Test.YtbcnapkbdbefhaaPlain2
namespace Go.Proofs.Ytbcnapkbdbefhaa
open Go.RowKit

end Go.Proofs.Ytbcnapkbdbefhaa
