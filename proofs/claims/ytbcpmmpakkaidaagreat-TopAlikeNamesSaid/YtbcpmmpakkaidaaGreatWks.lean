/- The Works functions return true: worked out by the evaluator. -/
import Derived.Test.YtbcpmmpakkaidaaGreatWk01a
import Derived.Test.YtbcpmmpakkaidaaGreatWk02a
import Derived.Test.YtbcpmmpakkaidaaGreatWk02b
import Derived.Test.YtbcpmmpakkaidaaGreatWk02c
import Derived.Test.YtbcpmmpakkaidaaGreatWk03a
import Derived.Test.YtbcpmmpakkaidaaGreatWk04a
import Derived.Test.YtbcpmmpakkaidaaGreatWk05a
import Derived.Test.YtbcpmmpakkaidaaGreatWk06a
import Derived.Test.YtbcpmmpakkaidaaGreatWk07a
import Derived.Test.YtbcpmmpakkaidaaGreatWk07b
import Derived.Test.YtbcpmmpakkaidaaGreatWk07c
namespace Go.Proofs.YtbcpmmpakkaidaaGreat.Ev
open Go Go.RowKit
set_option linter.unusedVariables false
theorem runsM : Tryz.prog.follows .mixedOrders = true := by kernel_rfl
theorem runsN : NoCount Tryz.prog := named_ok (by decide +kernel)
theorem works01_ok (w : World) : Calls Tryz.prog 65 #[] w fun r w' => r = .returned (.bool true) ∧ Below w.heap.size w w' :=
  lit_fin Tryz.func65 (by kernel_rfl) (lit_last runsM runsN wk01_0) w
theorem works02_ok (w : World) : Calls Tryz.prog 66 #[] w fun r w' => r = .returned (.bool true) ∧ Below w.heap.size w w' :=
  lit_fin Tryz.func66 (by kernel_rfl) (lit_step runsM runsN wk02_0 (lit_step runsM runsN wk02_6 (lit_last runsM runsN wk02_9))) w
theorem works03_ok (w : World) : Calls Tryz.prog 67 #[] w fun r w' => r = .returned (.bool true) ∧ Below w.heap.size w w' :=
  lit_fin Tryz.func67 (by kernel_rfl) (lit_last runsM runsN wk03_0) w
theorem works04_ok (w : World) : Calls Tryz.prog 32 #[] w fun r w' => r = .returned (.bool true) ∧ Below w.heap.size w w' :=
  lit_fin Tryz.func32 (by kernel_rfl) (lit_last runsM runsN wk04_0) w
theorem works05_ok (w : World) : Calls Tryz.prog 33 #[] w fun r w' => r = .returned (.bool true) ∧ Below w.heap.size w w' :=
  lit_fin Tryz.func33 (by kernel_rfl) (lit_last runsM runsN wk05_0) w
theorem works06_ok (w : World) : Calls Tryz.prog 14 #[] w fun r w' => r = .returned (.bool true) ∧ Below w.heap.size w w' :=
  lit_fin Tryz.func14 (by kernel_rfl) (lit_last runsM runsN wk06_0) w
theorem works07_ok (w : World) : Calls Tryz.prog 15 #[] w fun r w' => r = .returned (.bool true) ∧ Below w.heap.size w w' :=
  lit_fin Tryz.func15 (by kernel_rfl) (lit_step runsM runsN wk07_0 (lit_step runsM runsN wk07_7 (lit_last runsM runsN wk07_8))) w
end Go.Proofs.YtbcpmmpakkaidaaGreat.Ev
