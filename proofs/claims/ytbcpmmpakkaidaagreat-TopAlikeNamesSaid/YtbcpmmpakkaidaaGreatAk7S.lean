/- The statement TopAlikeNamesSaid: the law TopAlikeNames returns true, and its arguments read as before. No conditions. -/
import Derived.Test.YtbcpmmpakkaidaaGreatAk7
import Derived.Test.YtbcpmmpakkaidaaGreatOpnA
import Derived.Test.YtbcpmmpakkaidaaGreatRows
import Derived.ProofKit
import Derived.OpenShut
import Derived.Test.YtbcpmmpakkaidaaGreatAk7J
namespace Go.Proofs.YtbcpmmpakkaidaaGreat.topAlikeNames
open Go.RowKit Go.Shelf Go.Joins Go.ChangeShapes Go.WideShapes Go.ChangeAt Go.Deep
set_option linter.unusedVariables false
theorem own : ownKnob Tryz.prog.godebug = none := by kernel_rfl
set_option maxRecDepth 100000 in
theorem lifted (os : Os) (started : os.Started) (H : Type) (enc : TypeId × Value → H) :
    ReturnsInHanded {} Tryz.checked os 3 .any (Rows.topAlikeNamesSpec.pre6 enc Tryz.prog Tryz.f3 Rows.topAlikeNamesRow.domain false) (Rows.topAlikeNamesSpec.post enc Tryz.prog Tryz.f3 false true false false) := by
  refine returnsInHanded_of_change (C := Tryz.checked) own started (by kernel_rfl) Tryz.func3
    (ChangeSpec.witness6 (enc := enc) (C := Tryz.checked) false ⟨#[], #[.agg #[.slice none 0 0], .agg #[.int .u8 0, .int .u8 0]], []⟩ 8 (by kernel_rfl) (by kernel_rfl) (by kernel_rfl) (by kernel_rfl)) ?_
  intro W base args ds gs before hval0 hW hcnd _
  have hval : ∀ (j : Nat) t v, Tryz.f3.params[j]? = some t → args[j]? = some v → Value.okWide Tryz.prog W .any base t v := hval0
  have hW' := hW
  obtain ⟨p, q, hA0, hV, rfl, hfz, hnd⟩ := hW
  have hA : DataW.TrodAll enc Tryz.prog W 0 (fun _ => true) true Tryz.f3.params.toList args.toList ds p := hA0
  rw [Tryz.params3] at hA hval
  obtain ⟨v0, v1, d0, d1, p0, p1, rfl, rfl, rfl, h0, h1⟩ := trodAll_two hA
  obtain ⟨rfl, rfl⟩ := trodVars_none hV
  clear hA0 hval0
  simp only [List.append_nil] at hW'
  have hlt := fun x hx => hW'.lt x hx
  obtain ⟨x0, y0⟩ := open_book (hval 0 _ _ rfl rfl) h0
  obtain ⟨x1, rfl⟩ := open_two8 (hval 1 _ _ rfl rfl) h1
  refine (topAlike_ok v0 x0 x1 W y0).mono fun e W' ⟨he, hb⟩ => ?_
  subst he
  refine ⟨_, rfl, last_of_below (pa := p0 ++ (p1)) (pv := []) hW' (fun _ _ _ => (trodAll_cons_mk (shut_bool Tryz.underlying4 _) trodAll_mk0)) (fun sp hsp => ?_) (fun _ _ => rfl) (by simp)
    hb (ok_one (by kernel_rfl) rfl (okWide_bool_mk Tryz.underlying4 _))⟩
  exact trodAll_mk2 (arg_stays (by kernel_rfl) (of_decide_eq_true (by kernel_rfl)) h0 hb (fun x hx => by simp [hx]) hlt hsp) (arg_stays (by kernel_rfl) (of_decide_eq_true (by kernel_rfl)) h1 hb (fun x hx => by simp [hx]) hlt hsp)
theorem over : Rows.topAlikeNamesRow.holds Tryz.pinned (OpenSpec.ofChange Rows.topAlikeNamesSpec) :=
  OpenClaim.holds_of_wide 3 Tryz.f3 rfl rfl rfl rfl rfl rfl rfl ⟨rfl, rfl, rfl, rfl, rfl⟩ rfl rfl rfl rfl rfl named Tryz.func3 closed inst wrap
    (fun os started H enc _ => lifted os started H enc)
theorem proved : Rows.TopAlikeNamesSaid :=
  over
end Go.Proofs.YtbcpmmpakkaidaaGreat.topAlikeNames
