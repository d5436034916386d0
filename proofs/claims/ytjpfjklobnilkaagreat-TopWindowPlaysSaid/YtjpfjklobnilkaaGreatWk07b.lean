/- mandrellaw07.Works, from statement 7 on, worked out. -/
import Derived.Test.YtjpfjklobnilkaaGreatWk07L
import Derived.Test.YtjpfjklobnilkaaGreatProg
namespace Go.Proofs.YtjpfjklobnilkaaGreat.Ev
open Go
set_option linter.unusedVariables false
set_option maxRecDepth 1000000
theorem wk07_7:seqs 1 (dropC 7 (bodyOf Tryz.prog 17))=true∧stopL lit07_8 (runL Tryz.prog 3000 17 lit07_7 (takeC 1 (dropC 7 (bodyOf Tryz.prog 17))))=true:=by decide +kernel
end Go.Proofs.YtjpfjklobnilkaaGreat.Ev
