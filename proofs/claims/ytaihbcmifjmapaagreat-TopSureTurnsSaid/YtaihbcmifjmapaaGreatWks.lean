/- The Works functions return true: worked out by the evaluator. -/
import Derived.Test.YtaihbcmifjmapaaGreatWk01a
import Derived.Test.YtaihbcmifjmapaaGreatWk02a
import Derived.Test.YtaihbcmifjmapaaGreatWk02b
import Derived.Test.YtaihbcmifjmapaaGreatWk02c
import Derived.Test.YtaihbcmifjmapaaGreatWk03a
import Derived.Test.YtaihbcmifjmapaaGreatWk04a
import Derived.Test.YtaihbcmifjmapaaGreatWk05a
import Derived.Test.YtaihbcmifjmapaaGreatWk06a
import Derived.Test.YtaihbcmifjmapaaGreatWk07a
import Derived.Test.YtaihbcmifjmapaaGreatWk07b
import Derived.Test.YtaihbcmifjmapaaGreatWk07c
namespace Go.Proofs.YtaihbcmifjmapaaGreat.Ev
open Go Go.RowKit
set_option linter.unusedVariables false
theorem runsM:Tryz.prog.follows .mixedOrders=true:=by kernel_rfl
theorem runsN:NoCount Tryz.prog:=named_ok (by decide +kernel)
theorem works01_ok (w:World):Calls Tryz.prog 60 #[] w fun r w'=>r = .returned (.bool true)∧Below w.heap.size w w' :=
 lit_fin Tryz.func60 (by kernel_rfl) (lit_last runsM runsN wk01_0) w
theorem works02_ok (w:World):Calls Tryz.prog 61 #[] w fun r w'=>r = .returned (.bool true)∧Below w.heap.size w w' :=
 lit_fin Tryz.func61 (by kernel_rfl) (lit_step runsM runsN wk02_0 (lit_step runsM runsN wk02_6 (lit_last runsM runsN wk02_9))) w
theorem works03_ok (w:World):Calls Tryz.prog 62 #[] w fun r w'=>r = .returned (.bool true)∧Below w.heap.size w w' :=
 lit_fin Tryz.func62 (by kernel_rfl) (lit_last runsM runsN wk03_0) w
theorem works04_ok (w:World):Calls Tryz.prog 22 #[] w fun r w'=>r = .returned (.bool true)∧Below w.heap.size w w' :=
 lit_fin Tryz.func22 (by kernel_rfl) (lit_last runsM runsN wk04_0) w
theorem works05_ok (w:World):Calls Tryz.prog 23 #[] w fun r w'=>r = .returned (.bool true)∧Below w.heap.size w w' :=
 lit_fin Tryz.func23 (by kernel_rfl) (lit_last runsM runsN wk05_0) w
theorem works06_ok (w:World):Calls Tryz.prog 12 #[] w fun r w'=>r = .returned (.bool true)∧Below w.heap.size w w' :=
 lit_fin Tryz.func12 (by kernel_rfl) (lit_last runsM runsN wk06_0) w
theorem works07_ok (w:World):Calls Tryz.prog 13 #[] w fun r w'=>r = .returned (.bool true)∧Below w.heap.size w w' :=
 lit_fin Tryz.func13 (by kernel_rfl) (lit_step runsM runsN wk07_0 (lit_step runsM runsN wk07_7 (lit_last runsM runsN wk07_8))) w
end Go.Proofs.YtaihbcmifjmapaaGreat.Ev
