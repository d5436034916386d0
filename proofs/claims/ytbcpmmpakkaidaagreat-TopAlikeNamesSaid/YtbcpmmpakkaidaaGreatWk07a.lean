/- mandrellaw07.Works, from statement 0 on, worked out. -/
import Derived.Test.YtbcpmmpakkaidaaGreatWk07L
import Derived.Test.YtbcpmmpakkaidaaGreatProg
namespace Go.Proofs.YtbcpmmpakkaidaaGreat.Ev
open Go
set_option linter.unusedVariables false
set_option maxRecDepth 1000000
theorem wk07_0 : seqs 7 (bodyOf Tryz.prog 15) = true ∧ stopL lit07_7 (runL Tryz.prog 3000 15 lit0 (takeC 7 (bodyOf Tryz.prog 15))) = true := by decide +kernel
end Go.Proofs.YtbcpmmpakkaidaaGreat.Ev
