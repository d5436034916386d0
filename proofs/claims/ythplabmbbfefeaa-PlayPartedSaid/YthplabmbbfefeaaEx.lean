/- The chapter's example, reckoned. -/
import Derived.Test.YthplabmbbfefeaaKnd
import Derived.Tactics
namespace Go.Proofs.Ythplabmbbfefeaa
set_option linter.unusedVariables false
def exC : Cyl := ⟨10, 4, 2, [5], [⟨0, 1, 3⟩, ⟨1, 3, 5⟩, ⟨3, 4, 4⟩, ⟨6, 9, 6⟩, ⟨4, 6, 9⟩]⟩
theorem ex_valid : checkCyl exC = 0 := by decide +kernel
theorem ex_saves : saves exC [⟨0, 3⟩, ⟨6, 9⟩] = ([0, 1, 3], 14, 0) := by decide +kernel
theorem ex_plan1 : checkPlan exC [⟨0, 4⟩] = 2 := by decide +kernel
theorem ex_plan2 : checkPlan exC [⟨2, 5⟩] = 22 := by decide +kernel
theorem ex_worths : worthsOf exC = [0, 9, 15] := by decide +kernel
theorem ex_best : bestOf exC = ([⟨1, 4⟩, ⟨6, 9⟩], 15, 0) := by decide +kernel
theorem ex_kinds : kindsOf exC 24000 = [0, 2, 2, 2, 0] := by decide +kernel
theorem ex_few10 : fewestOf exC 10 = (2, 0) := by decide +kernel
theorem ex_few16 : fewestOf exC 16 = (0, 13) := by decide +kernel
theorem ex_few9 : fewestOf exC 9 = (1, 0) := by decide +kernel
theorem ex_labels : checkLab exC (labelsOf exC) = (15, 0) := by decide +kernel
theorem ex_saves2 : saves exC [⟨1, 4⟩] = ([1, 2], 9, 0) := by decide +kernel
theorem ex_plan3 : checkPlan exC [⟨0, 3⟩, ⟨3, 4⟩] = 22 := by decide +kernel
end Go.Proofs.Ythplabmbbfefeaa
