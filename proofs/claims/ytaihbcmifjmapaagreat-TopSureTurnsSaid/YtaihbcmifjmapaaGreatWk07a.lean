/- mandrellaw07.Works, from statement 0 on, worked out. -/
import Derived.Test.YtaihbcmifjmapaaGreatWk07L
import Derived.Test.YtaihbcmifjmapaaGreatProg
namespace Go.Proofs.YtaihbcmifjmapaaGreat.Ev
open Go
set_option linter.unusedVariables false
set_option maxRecDepth 1000000
theorem wk07_0:seqs 7 (bodyOf Tryz.prog 13)=true∧stopL lit07_7 (runL Tryz.prog 3000 13 lit0 (takeC 7 (bodyOf Tryz.prog 13)))=true:=by decide +kernel
end Go.Proofs.YtaihbcmifjmapaaGreat.Ev
