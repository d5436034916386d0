/- mandrellaw05.Works, from statement 0 on, worked out. -/
import Derived.Test.YtbcpmmpakkaidaaGreatEv3
import Derived.Test.YtbcpmmpakkaidaaGreatProg
namespace Go.Proofs.YtbcpmmpakkaidaaGreat.Ev
open Go
set_option linter.unusedVariables false
set_option maxRecDepth 1000000
theorem wk05_0 : isT (lastL Tryz.prog 3000 33 lit0 (bodyOf Tryz.prog 33)) = true := by decide +kernel
end Go.Proofs.YtbcpmmpakkaidaaGreat.Ev
