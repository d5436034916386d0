/- mandrellaw02.Works, from statement 9 on, worked out. -/
import Derived.Test.YtibmeigdjghkcaaGreatWk02L
import Derived.Test.YtibmeigdjghkcaaGreatProg
namespace Go.Proofs.YtibmeigdjghkcaaGreat.Ev
open Go
set_option linter.unusedVariables false
set_option maxRecDepth 1000000
theorem wk02_9:isT (lastL Tryz.prog 3000 186 lit02_9 (dropC 3 (dropC 6 (bodyOf Tryz.prog 186))))=true:=by decide +kernel
end Go.Proofs.YtibmeigdjghkcaaGreat.Ev
