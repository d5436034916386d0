/- mandrellaw05.Works, from statement 0 on, worked out. -/
import Derived.Test.YtibmeigdjghkcaaGreatEv3
import Derived.Test.YtibmeigdjghkcaaGreatProg
namespace Go.Proofs.YtibmeigdjghkcaaGreat.Ev
open Go
set_option linter.unusedVariables false
set_option maxRecDepth 1000000
theorem wk05_0:isT (lastL Tryz.prog 3000 45 lit0 (bodyOf Tryz.prog 45))=true:=by decide +kernel
end Go.Proofs.YtibmeigdjghkcaaGreat.Ev
