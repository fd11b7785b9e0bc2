/- The law MeaningNames, run in the kernel over the evaluator. -/
import Derived.Test.YtnmoejickogmfaaGreatWk
namespace Go.Pv
open Go Go.Proofs Go.RowKit
theorem meaningNames_run : yes (callX Tryz.prog theOpts 60 4 [] []) = true := by kernel_rfl
theorem meaningNames_walk (W : World) : Calls Tryz.prog 4 #[] W fun e w' => e = .returned (.bool true) ∧ Below W.heap.size W w' := law_of_run (theSound 60) meaningNames_run W
end Go.Pv
