/- mandrellaw06.Works, from statement 0 on, worked out. -/
import Derived.Test.YtaihbcmifjmapaaGreatEv3
import Derived.Test.YtaihbcmifjmapaaGreatProg
namespace Go.Proofs.YtaihbcmifjmapaaGreat.Ev
open Go
set_option linter.unusedVariables false
set_option maxRecDepth 1000000
theorem wk06_0:isT (lastL Tryz.prog 3000 12 lit0 (bodyOf Tryz.prog 12))=true:=by decide +kernel
end Go.Proofs.YtaihbcmifjmapaaGreat.Ev
