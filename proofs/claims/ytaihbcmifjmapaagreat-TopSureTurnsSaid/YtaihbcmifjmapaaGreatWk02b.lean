/- mandrellaw02.Works, from statement 6 on, worked out. -/
import Derived.Test.YtaihbcmifjmapaaGreatWk02L
import Derived.Test.YtaihbcmifjmapaaGreatProg
namespace Go.Proofs.YtaihbcmifjmapaaGreat.Ev
open Go
set_option linter.unusedVariables false
set_option maxRecDepth 1000000
theorem wk02_6:seqs 3 (dropC 6 (bodyOf Tryz.prog 61))=true∧stopL lit02_9 (runL Tryz.prog 3000 61 lit02_6 (takeC 3 (dropC 6 (bodyOf Tryz.prog 61))))=true:=by decide +kernel
end Go.Proofs.YtaihbcmifjmapaaGreat.Ev
