/- The Works functions return true: worked out by the evaluator. -/
import Derived.Test.YtibmeigdjghkcaaGreatWk01a
import Derived.Test.YtibmeigdjghkcaaGreatWk02a
import Derived.Test.YtibmeigdjghkcaaGreatWk02b
import Derived.Test.YtibmeigdjghkcaaGreatWk02c
import Derived.Test.YtibmeigdjghkcaaGreatWk03a
import Derived.Test.YtibmeigdjghkcaaGreatWk04a
import Derived.Test.YtibmeigdjghkcaaGreatWk05a
import Derived.Test.YtibmeigdjghkcaaGreatWk06a
import Derived.Test.YtibmeigdjghkcaaGreatEv3
import Derived.Test.YtibmeigdjghkcaaGreatProg
namespace Go.Proofs.YtibmeigdjghkcaaGreat.Ev
open Go Go.RowKit
set_option linter.unusedVariables false
theorem runsM:Tryz.prog.follows .mixedOrders=true:=by kernel_rfl
theorem runsN:NoCount Tryz.prog:=named_ok (by decide +kernel)
theorem works01_ok (w:World):Calls Tryz.prog 185 #[] w fun r w'=>r = .returned (.bool true)∧Below w.heap.size w w' :=
 lit_fin Tryz.func185 (by kernel_rfl) (lit_last runsM runsN wk01_0) w
theorem works02_ok (w:World):Calls Tryz.prog 186 #[] w fun r w'=>r = .returned (.bool true)∧Below w.heap.size w w' :=
 lit_fin Tryz.func186 (by kernel_rfl) (lit_step runsM runsN wk02_0 (lit_step runsM runsN wk02_6 (lit_last runsM runsN wk02_9))) w
theorem works03_ok (w:World):Calls Tryz.prog 187 #[] w fun r w'=>r = .returned (.bool true)∧Below w.heap.size w w' :=
 lit_fin Tryz.func187 (by kernel_rfl) (lit_last runsM runsN wk03_0) w
theorem works04_ok (w:World):Calls Tryz.prog 108 #[] w fun r w'=>r = .returned (.bool true)∧Below w.heap.size w w' :=
 lit_fin Tryz.func108 (by kernel_rfl) (lit_last runsM runsN wk04_0) w
theorem works05_ok (w:World):Calls Tryz.prog 45 #[] w fun r w'=>r = .returned (.bool true)∧Below w.heap.size w w' :=
 lit_fin Tryz.func45 (by kernel_rfl) (lit_last runsM runsN wk05_0) w
theorem works06_ok (w:World):Calls Tryz.prog 46 #[] w fun r w'=>r = .returned (.bool true)∧Below w.heap.size w w' :=
 lit_fin Tryz.func46 (by kernel_rfl) (lit_last runsM runsN wk06_0) w
end Go.Proofs.YtibmeigdjghkcaaGreat.Ev
