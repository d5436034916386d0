/- The values at the example cylinders. -/
import Derived.Test.YtjjjockfppomdaaCrk
import Derived.Test.YtjjjockfppomdaaRnk
namespace Go.Proofs.Ytjjjockfppomdaa
set_option linter.unusedVariables false
set_option maxRecDepth 1000000

def stF (p : Int) : St := ⟨p, false⟩
def st3 : St := ⟨3, true⟩
theorem ex1 : countM exC = (4, 0) := by decide +kernel
theorem ex2 : nthM exC 1 = ([stF 0, stF 1, st3, stF 2], 0) := by decide +kernel
theorem ex3 : rankM exC (onL [0, 3, 1, 2]) = (2, 0) := by decide +kernel
theorem ex4 : onlyM exC = ([], 6) := by decide +kernel
theorem ex5 : onlyM exD = (onL [0, 1, 2], 0) := by decide +kernel
theorem ex6 : passM exC = ([], 0) := by decide +kernel
theorem ex7 : passM exD = ([(stF 0, stF 1), (stF 1, stF 2)], 0) := by decide +kernel
theorem ex8 : rivM exC (stF 1) = ([stF 2, stF 3, st3], 0) := by decide +kernel
theorem ex9 : fitsOf exD (stF 0) (stF 2) = (true, 0) := by decide +kernel
theorem ex10 : checkJoin exC (onL [0, 2, 1, 3]) = 18 := by decide +kernel
theorem ex11 : nthM exC 0 = (onL [0, 1, 3, 2], 0) := by decide +kernel
theorem ex12 : nthM exC 3 = ([stF 0, st3, stF 1, stF 2], 0) := by decide +kernel
theorem ex13 : nthM exC 4 = ([], 3) := by decide +kernel
theorem ex14 : rivM exC (stF 0) = ([stF 1, stF 3, st3], 0) := by decide +kernel
theorem ex15 : rivM exC (stF 2) = ([], 0) := by decide +kernel
theorem ex16 : fitsOf exD (stF 2) (stF 0) = (false, 0) := by decide +kernel
theorem ex17 : checkJoin exC (onL [0, 1, 2]) = 15 := by decide +kernel
end Go.Proofs.Ytjjjockfppomdaa
