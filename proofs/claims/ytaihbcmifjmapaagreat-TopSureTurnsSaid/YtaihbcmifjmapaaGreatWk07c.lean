/- mandrellaw07.Works, from statement 8 on, worked out. -/
import Derived.Test.YtaihbcmifjmapaaGreatWk07L
import Derived.Test.YtaihbcmifjmapaaGreatProg
namespace Go.Proofs.YtaihbcmifjmapaaGreat.Ev
open Go
set_option linter.unusedVariables false
set_option maxRecDepth 1000000
theorem wk07_8:isT (lastL Tryz.prog 3000 13 lit07_8 (dropC 1 (dropC 7 (bodyOf Tryz.prog 13))))=true:=by decide +kernel
end Go.Proofs.YtaihbcmifjmapaaGreat.Ev
