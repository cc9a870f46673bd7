
/- The model's Best, Without and Prices answer as the package's. -/
import Derived.Test.YtpbkfpkgbfifaaaKBr
namespace Go.Proofs.Ytpbkfpkgbfifaaa
open Go.RowKit

theorem best_refV {N : Int} {l : List Bd} (h : validS N l = 0) : refBestS l 0 = bestS l := (best_ref (fun i => (pr_of_valid h i).1) (fun x hx => by have := ((validS_ok h).2.1 x hx).1; omega)).symm
theorem without_refV {N : Int} {l : List Bd} (h : validS N l = 0) (wo : Int) : (refBestS l wo).2 = (bestS (l.filter fun x => x.1 != wo)).2 := (without_ref (fun x hx => by have := ((validS_ok h).2.1 x hx).2.1; omega) wo).symm

end Go.Proofs.Ytpbkfpkgbfifaaa
