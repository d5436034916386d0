/- mandrellaw07.Works, from statement 0 on, worked out. -/
import Derived.Test.YtjpfjklobnilkaaGreatWk07L
import Derived.Test.YtjpfjklobnilkaaGreatProg
namespace Go.Proofs.YtjpfjklobnilkaaGreat.Ev
open Go
set_option linter.unusedVariables false
set_option maxRecDepth 1000000
theorem wk07_0:seqs 7 (bodyOf Tryz.prog 17)=true∧stopL lit07_7 (runL Tryz.prog 3000 17 lit0 (takeC 7 (bodyOf Tryz.prog 17)))=true:=by decide +kernel
end Go.Proofs.YtjpfjklobnilkaaGreat.Ev
