/- The Works functions return true: worked out by the evaluator. -/
import Derived.Test.YtjpfjklobnilkaaGreatWk01a
import Derived.Test.YtjpfjklobnilkaaGreatWk02a
import Derived.Test.YtjpfjklobnilkaaGreatWk02b
import Derived.Test.YtjpfjklobnilkaaGreatWk02c
import Derived.Test.YtjpfjklobnilkaaGreatWk03a
import Derived.Test.YtjpfjklobnilkaaGreatWk04a
import Derived.Test.YtjpfjklobnilkaaGreatWk05a
import Derived.Test.YtjpfjklobnilkaaGreatWk06a
import Derived.Test.YtjpfjklobnilkaaGreatWk07a
import Derived.Test.YtjpfjklobnilkaaGreatWk07b
import Derived.Test.YtjpfjklobnilkaaGreatWk07c
namespace Go.Proofs.YtjpfjklobnilkaaGreat.Ev
open Go Go.RowKit
set_option linter.unusedVariables false
theorem runsM:Tryz.prog.follows .mixedOrders=true:=by kernel_rfl
theorem runsN:NoCount Tryz.prog:=named_ok (by decide +kernel)
theorem works01_ok (w:World):Calls Tryz.prog 80 #[] w fun r w'=>r = .returned (.bool true)∧Below w.heap.size w w' :=
 lit_fin Tryz.func80 (by kernel_rfl) (lit_last runsM runsN wk01_0) w
theorem works02_ok (w:World):Calls Tryz.prog 81 #[] w fun r w'=>r = .returned (.bool true)∧Below w.heap.size w w' :=
 lit_fin Tryz.func81 (by kernel_rfl) (lit_step runsM runsN wk02_0 (lit_step runsM runsN wk02_6 (lit_last runsM runsN wk02_9))) w
theorem works03_ok (w:World):Calls Tryz.prog 82 #[] w fun r w'=>r = .returned (.bool true)∧Below w.heap.size w w' :=
 lit_fin Tryz.func82 (by kernel_rfl) (lit_last runsM runsN wk03_0) w
theorem works04_ok (w:World):Calls Tryz.prog 37 #[] w fun r w'=>r = .returned (.bool true)∧Below w.heap.size w w' :=
 lit_fin Tryz.func37 (by kernel_rfl) (lit_last runsM runsN wk04_0) w
theorem works05_ok (w:World):Calls Tryz.prog 38 #[] w fun r w'=>r = .returned (.bool true)∧Below w.heap.size w w' :=
 lit_fin Tryz.func38 (by kernel_rfl) (lit_last runsM runsN wk05_0) w
theorem works06_ok (w:World):Calls Tryz.prog 16 #[] w fun r w'=>r = .returned (.bool true)∧Below w.heap.size w w' :=
 lit_fin Tryz.func16 (by kernel_rfl) (lit_last runsM runsN wk06_0) w
theorem works07_ok (w:World):Calls Tryz.prog 17 #[] w fun r w'=>r = .returned (.bool true)∧Below w.heap.size w w' :=
 lit_fin Tryz.func17 (by kernel_rfl) (lit_step runsM runsN wk07_0 (lit_step runsM runsN wk07_7 (lit_last runsM runsN wk07_8))) w
end Go.Proofs.YtjpfjklobnilkaaGreat.Ev
