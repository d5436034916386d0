/- mandrellaw04.Works, from statement 0 on, worked out. -/
import Derived.Test.YtjpfjklobnilkaaGreatEv3
import Derived.Test.YtjpfjklobnilkaaGreatProg
namespace Go.Proofs.YtjpfjklobnilkaaGreat.Ev
open Go
set_option linter.unusedVariables false
set_option maxRecDepth 1000000
theorem wk04_0:isT (lastL Tryz.prog 3000 37 lit0 (bodyOf Tryz.prog 37))=true:=by decide +kernel
end Go.Proofs.YtjpfjklobnilkaaGreat.Ev
