/- Package valisehelp: Bytes. -/
import Derived.Test.YtflchmhhmkkooaaVBase
namespace Go.Proofs.YtflchmhhmkkooaaV
open Go Go.RowKit
end Go.Proofs.YtflchmhhmkkooaaV
