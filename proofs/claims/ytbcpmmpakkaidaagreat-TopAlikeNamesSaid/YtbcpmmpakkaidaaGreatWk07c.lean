/- mandrellaw07.Works, from statement 8 on, worked out. -/
import Derived.Test.YtbcpmmpakkaidaaGreatWk07L
import Derived.Test.YtbcpmmpakkaidaaGreatProg
namespace Go.Proofs.YtbcpmmpakkaidaaGreat.Ev
open Go
set_option linter.unusedVariables false
set_option maxRecDepth 1000000
theorem wk07_8 : isT (lastL Tryz.prog 3000 15 lit07_8 (dropC 1 (dropC 7 (bodyOf Tryz.prog 15)))) = true := by decide +kernel
end Go.Proofs.YtbcpmmpakkaidaaGreat.Ev
