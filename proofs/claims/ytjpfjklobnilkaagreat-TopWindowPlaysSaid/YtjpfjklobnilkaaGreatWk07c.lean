/- mandrellaw07.Works, from statement 8 on, worked out. -/
import Derived.Test.YtjpfjklobnilkaaGreatWk07L
import Derived.Test.YtjpfjklobnilkaaGreatProg
namespace Go.Proofs.YtjpfjklobnilkaaGreat.Ev
open Go
set_option linter.unusedVariables false
set_option maxRecDepth 1000000
theorem wk07_8:isT (lastL Tryz.prog 3000 17 lit07_8 (dropC 1 (dropC 7 (bodyOf Tryz.prog 17))))=true:=by decide +kernel
end Go.Proofs.YtjpfjklobnilkaaGreat.Ev
