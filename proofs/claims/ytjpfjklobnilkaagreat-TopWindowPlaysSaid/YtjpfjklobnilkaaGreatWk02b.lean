/- mandrellaw02.Works, from statement 6 on, worked out. -/
import Derived.Test.YtjpfjklobnilkaaGreatWk02L
import Derived.Test.YtjpfjklobnilkaaGreatProg
namespace Go.Proofs.YtjpfjklobnilkaaGreat.Ev
open Go
set_option linter.unusedVariables false
set_option maxRecDepth 1000000
theorem wk02_6:seqs 3 (dropC 6 (bodyOf Tryz.prog 81))=true∧stopL lit02_9 (runL Tryz.prog 3000 81 lit02_6 (takeC 3 (dropC 6 (bodyOf Tryz.prog 81))))=true:=by decide +kernel
end Go.Proofs.YtjpfjklobnilkaaGreat.Ev
