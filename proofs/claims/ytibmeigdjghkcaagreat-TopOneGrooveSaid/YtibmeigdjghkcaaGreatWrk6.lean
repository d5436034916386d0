/- Contracts: works03, works04, works06: examples of the layers up to 6 are right. -/
import Derived.Test.YtibmeigdjghkcaaGreatWks
import Derived.Test.YtibmeigdjghkcaaGreatGenM
namespace Go.Proofs.YtibmeigdjghkcaaGreat
open Go.RowKit Go.Shelf
set_option linter.unusedVariables false
theorem w03_ok (w:World):Calls Tryz.prog 107 #[] w fun r w'=>r = .returned (.bool true)∧Below w.heap.size w w':=by
 go_enter Tryz.func107,Tryz.ntmps107
 go_wp2_with fail
 refine (Ev.works01_ok w).mono ?_
 rintro e w1 ⟨rfl,hb1⟩
 go_wp2_with fail
 refine (Ev.works02_ok w1).mono ?_
 rintro e w2 ⟨rfl,hb2⟩
 replace hb1:=hb1.trans (hb2.mono hb1.size)
 go_wp2_with fail
 refine (Ev.works03_ok w2).mono ?_
 rintro e w3 ⟨rfl,hb3⟩
 replace hb1:=hb1.trans (hb3.mono hb1.size)
 go_wp2
 go_ret
 exact ⟨rfl,hb1⟩
theorem w04_ok (w:World):Calls Tryz.prog 44 #[] w fun r w'=>r = .returned (.bool true)∧Below w.heap.size w w':=by
 go_enter Tryz.func44,Tryz.ntmps44
 go_wp2_with fail
 refine (w03_ok w).mono ?_
 rintro e w1 ⟨rfl,hb1⟩
 go_wp2_with fail
 refine (Ev.works04_ok w1).mono ?_
 rintro e w2 ⟨rfl,hb2⟩
 replace hb1:=hb1.trans (hb2.mono hb1.size)
 go_wp2
 go_ret
 exact ⟨rfl,hb1⟩
theorem w06_ok (w:World):Calls Tryz.prog 9 #[] w fun r w'=>r = .returned (.bool true)∧Below w.heap.size w w':=by
 go_enter Tryz.func9,Tryz.ntmps9
 go_wp2_with fail
 refine (w04_ok w).mono ?_
 rintro e w1 ⟨rfl,hb1⟩
 go_wp2_with fail
 refine (Ev.works05_ok w1).mono ?_
 rintro e w2 ⟨rfl,hb2⟩
 replace hb1:=hb1.trans (hb2.mono hb1.size)
 go_wp2_with fail
 refine (Ev.works06_ok w2).mono ?_
 rintro e w3 ⟨rfl,hb3⟩
 replace hb1:=hb1.trans (hb3.mono hb1.size)
 go_wp2
 go_ret
 exact ⟨rfl,hb1⟩
end Go.Proofs.YtibmeigdjghkcaaGreat
