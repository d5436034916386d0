/- The statement NameMoreSaid: the law NameMore returns true, and its arguments read as before. No conditions. -/
import Derived.Test.YtpkccmohlcndgaaNa7
import Derived.Test.YtpkccmohlcndgaaOpen
import Derived.Test.YtpkccmohlcndgaaRows
import Derived.ProofKit
import Derived.OpenShut
namespace Go.Proofs.Ytpkccmohlcndgaa.nameMore
open Go.RowKit Go.Shelf Go.Joins Go.ChangeShapes Go.WideShapes Go.ChangeAt Go.Deep
set_option linter.unusedVariables false

theorem own : ownKnob Try.prog.godebug = none := by kernel_rfl

set_option maxRecDepth 100000 in
theorem lifted (os : Os) (started : os.Started) (H : Type) (enc : TypeId × Value → H) :
    ReturnsInHanded {} Try.checked os 11 .any (Rows.nameMoreSpec.pre6 enc Try.prog Try.f11 Rows.nameMoreRow.domain false) (Rows.nameMoreSpec.post enc Try.prog Try.f11 false true false false) := by
  refine returnsInHanded_of_change (C := Try.checked) own started (by kernel_rfl) Try.func11
    (ChangeSpec.witness6 (enc := enc) (C := Try.checked) false ⟨#[], #[.agg #[.int .i64 0, .slice none 0 0, .slice none 0 0, .slice none 0 0], .agg #[.int .i64 0, .int .i64 0, .int .i64 0], .int .u8 0, .int .u32 0, .agg #[.int .u64 0, .int .u64 0]], []⟩ 8 (by kernel_rfl) (by kernel_rfl) (by kernel_rfl) (by kernel_rfl)) ?_
  intro W base args ds gs before hval0 hW hcnd _
  have hval : ∀ (j : Nat) t v, Try.f11.params[j]? = some t → args[j]? = some v → Value.okWide Try.prog W .any base t v := hval0
  have hW' := hW
  obtain ⟨p, q, hA0, hV, rfl, hfz, hnd⟩ := hW
  have hA : DataW.TrodAll enc Try.prog W 0 (fun _ => true) true Try.f11.params.toList args.toList ds p := hA0
  rw [Try.params11] at hA hval
  obtain ⟨v0, v1, v2, v3, v4, d0, d1, d2, d3, d4, p0, p1, p2, p3, p4, rfl, rfl, rfl, h0, h1, h2, h3, h4⟩ := trodAll_five hA
  obtain ⟨rfl, rfl⟩ := trodVars_none hV
  clear hA0 hval0
  simp only [List.append_nil] at hW'
  have hlt := fun x hx => hW'.lt x hx
  obtain ⟨x0, y0⟩ := open_nlist (hval 0 _ _ rfl rfl) h0
  obtain ⟨x1, rfl⟩ := open_link (hval 1 _ _ rfl rfl) h1
  obtain ⟨x2, z2, rfl⟩ := open_u8 (hval 2 _ _ rfl rfl) h2
  obtain ⟨x3, z3, rfl⟩ := open_u32 (hval 3 _ _ rfl rfl) h3
  obtain ⟨x4, xx4, z4, zz4, rfl⟩ := open_two (hval 4 _ _ rfl rfl) h4
  refine (nmore_ok v0 x0 x1 x2 x3 x4 xx4 W z2 z3 z4 zz4 y0).mono fun e W' ⟨he, hb⟩ => ?_
  subst he
  refine ⟨_, rfl, last_of_below (pa := p0 ++ (p1 ++ (p2 ++ (p3 ++ (p4))))) (pv := []) hW' (fun _ _ _ => (trodAll_cons_mk (shut_bool Try.underlying4 _) trodAll_mk0)) (fun sp hsp => ?_) (fun _ _ => rfl) (by simp)
    hb (ok_one (by kernel_rfl) rfl (okWide_bool_mk Try.underlying4 _))⟩
  exact ⟨p0, _, (arg_stays (by kernel_rfl) (of_decide_eq_true (by kernel_rfl)) h0 hb (fun x hx => by simp [hx]) hlt hsp), trodAll_mk4 (arg_stays (by kernel_rfl) (of_decide_eq_true (by kernel_rfl)) h1 hb (fun x hx => by simp [hx]) hlt hsp) (arg_stays (by kernel_rfl) (of_decide_eq_true (by kernel_rfl)) h2 hb (fun x hx => by simp [hx]) hlt hsp) (arg_stays (by kernel_rfl) (of_decide_eq_true (by kernel_rfl)) h3 hb (fun x hx => by simp [hx]) hlt hsp) (arg_stays (by kernel_rfl) (of_decide_eq_true (by kernel_rfl)) h4 hb (fun x hx => by simp [hx]) hlt hsp), rfl⟩

theorem over : Rows.nameMoreRow.holds Try.pinned (OpenSpec.ofChange Rows.nameMoreSpec) :=
  OpenClaim.holds_of_wide 11 Try.f11 rfl rfl rfl rfl rfl rfl rfl ⟨rfl, rfl, rfl, rfl, rfl⟩ rfl rfl rfl rfl rfl (by kernel_rfl) Try.func11 (by kernel_rfl)
    (of_decide_eq_true (by kernel_rfl)) (by unfold Func.isWrapper; first | (rw [if_pos (by decide +kernel)]; kernel_rfl) | (rw [if_neg (by decide +kernel)]; exact ⟨rfl, rfl⟩))
    (fun os started H enc _ => lifted os started H enc)

theorem proved : Rows.NameMoreSaid :=
  over
end Go.Proofs.Ytpkccmohlcndgaa.nameMore
