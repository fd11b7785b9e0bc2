/- The law AggNames, run in the kernel over the evaluator. -/
import Derived.Test.YtjbgmaaojbamdaaGreatWk
namespace Go.Pv
open Go Go.Proofs Go.RowKit
theorem aggNames_run : yes (callF Tryz.prog theOpts 60 4 [] []) = true := by kernel_rfl
theorem aggNames_walk (W : World) : Calls Tryz.prog 4 #[] W fun e w' => e = .returned (.bool true) ∧ Below W.heap.size W w' := law_of_run (theSound 60) aggNames_run W
end Go.Pv
