/- Contracts: works03, works05, works07: examples of the layers up to 7 are right. -/
import Derived.Test.YtaihbcmifjmapaaGreatWks
import Derived.Test.YtaihbcmifjmapaaGreatPB
namespace Go.Proofs.YtaihbcmifjmapaaGreat
open Go.RowKit Go.Shelf
set_option linter.unusedVariables false
theorem w03_ok (w:World):Calls Tryz.prog 21 #[] w fun r w'=>r = .returned (.bool true)∧Below w.heap.size w w':=by
 go_enter Tryz.func21,Tryz.ntmps21
 go_wp2_with fail
 refine (Ev.works01_ok w).mono ?_
 rintro e w1 ⟨rfl,hb1⟩
 go_wp2_with fail
 refine (Ev.works02_ok w1).mono ?_
 rintro e w2 ⟨rfl,hb2⟩
 replace hb1:=hb1.trans (hb2.mono hb1.size)
 go_wp2_with fail
 refine (Ev.works03_ok w2).mono ?_
 rintro e w3 ⟨rfl,hb3⟩
 replace hb1:=hb1.trans (hb3.mono hb1.size)
 go_wp2
 go_ret
 exact ⟨rfl,hb1⟩
theorem w05_ok (w:World):Calls Tryz.prog 11 #[] w fun r w'=>r = .returned (.bool true)∧Below w.heap.size w w':=by
 go_enter Tryz.func11,Tryz.ntmps11
 go_wp2_with fail
 refine (w03_ok w).mono ?_
 rintro e w1 ⟨rfl,hb1⟩
 go_wp2_with fail
 refine (Ev.works04_ok w1).mono ?_
 rintro e w2 ⟨rfl,hb2⟩
 replace hb1:=hb1.trans (hb2.mono hb1.size)
 go_wp2_with fail
 refine (Ev.works05_ok w2).mono ?_
 rintro e w3 ⟨rfl,hb3⟩
 replace hb1:=hb1.trans (hb3.mono hb1.size)
 go_wp2
 go_ret
 exact ⟨rfl,hb1⟩
theorem w07_ok (w:World):Calls Tryz.prog 5 #[] w fun r w'=>r = .returned (.bool true)∧Below w.heap.size w w':=by
 go_enter Tryz.func5,Tryz.ntmps5
 go_wp2_with fail
 refine (w05_ok w).mono ?_
 rintro e w1 ⟨rfl,hb1⟩
 go_wp2_with fail
 refine (Ev.works06_ok w1).mono ?_
 rintro e w2 ⟨rfl,hb2⟩
 replace hb1:=hb1.trans (hb2.mono hb1.size)
 go_wp2_with fail
 refine (Ev.works07_ok w2).mono ?_
 rintro e w3 ⟨rfl,hb3⟩
 replace hb1:=hb1.trans (hb3.mono hb1.size)
 go_wp2
 go_ret
 exact ⟨rfl,hb1⟩
end Go.Proofs.YtaihbcmifjmapaaGreat
