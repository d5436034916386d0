/- mandrellaw07.Works, from statement 7 on, worked out. -/
import Derived.Test.YtaihbcmifjmapaaGreatWk07L
import Derived.Test.YtaihbcmifjmapaaGreatProg
namespace Go.Proofs.YtaihbcmifjmapaaGreat.Ev
open Go
set_option linter.unusedVariables false
set_option maxRecDepth 1000000
theorem wk07_7:seqs 1 (dropC 7 (bodyOf Tryz.prog 13))=true∧stopL lit07_8 (runL Tryz.prog 3000 13 lit07_7 (takeC 1 (dropC 7 (bodyOf Tryz.prog 13))))=true:=by decide +kernel
end Go.Proofs.YtaihbcmifjmapaaGreat.Ev
