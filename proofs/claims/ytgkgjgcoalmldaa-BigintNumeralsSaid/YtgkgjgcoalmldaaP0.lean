/- The examples hold: they are reckoned out. -/
import Derived.Test.YtgkgjgcoalmldaaK40
namespace Go.Proofs.Rf
open Go
theorem K9_val : K9 () = some ((true, ()), ()) := by kernel_rfl
end Go.Proofs.Rf
