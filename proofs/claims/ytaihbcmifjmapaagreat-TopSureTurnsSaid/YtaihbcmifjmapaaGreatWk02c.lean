/- mandrellaw02.Works, from statement 9 on, worked out. -/
import Derived.Test.YtaihbcmifjmapaaGreatWk02L
import Derived.Test.YtaihbcmifjmapaaGreatProg
namespace Go.Proofs.YtaihbcmifjmapaaGreat.Ev
open Go
set_option linter.unusedVariables false
set_option maxRecDepth 1000000
theorem wk02_9:isT (lastL Tryz.prog 3000 61 lit02_9 (dropC 3 (dropC 6 (bodyOf Tryz.prog 61))))=true:=by decide +kernel
end Go.Proofs.YtaihbcmifjmapaaGreat.Ev
