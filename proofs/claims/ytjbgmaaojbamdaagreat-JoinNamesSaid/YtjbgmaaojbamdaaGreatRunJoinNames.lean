/- The law JoinNames, run in the kernel over the evaluator. -/
import Derived.Test.YtjbgmaaojbamdaaGreatWk
namespace Go.Pv
open Go Go.Proofs Go.RowKit
theorem joinNames_run : yes (callF Tryz.prog theOpts 60 3 [] []) = true := by kernel_rfl
theorem joinNames_walk (W : World) : Calls Tryz.prog 3 #[] W fun e w' => e = .returned (.bool true) ∧ Below W.heap.size W w' := law_of_run (theSound 60) joinNames_run W
end Go.Pv
