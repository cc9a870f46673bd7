
/- The model's Less. -/
import Derived.Test.YtpbkfpkgbfifaaaKU
namespace Go.Proofs.Ytpbkfpkgbfifaaa
open Go.RowKit

end Go.Proofs.Ytpbkfpkgbfifaaa
