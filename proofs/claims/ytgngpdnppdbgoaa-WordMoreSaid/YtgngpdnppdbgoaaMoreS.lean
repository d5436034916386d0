/- The statement WordMoreSaid: the law WordMore returns true, and its arguments read as before. No conditions. -/
import Derived.Test.YtgngpdnppdbgoaaMore
import Derived.Test.YtgngpdnppdbgoaaOpen
import Derived.Test.YtgngpdnppdbgoaaRows
import Derived.ProofKit
import Derived.OpenShut
namespace Go.Proofs.Ytgngpdnppdbgoaa.wordMore
open Go.RowKit Go.Shelf Go.Joins Go.ChangeShapes Go.WideShapes Go.ChangeAt Go.Deep
set_option linter.unusedVariables false

theorem own : ownKnob Try.prog.godebug = none := by kernel_rfl

set_option maxRecDepth 100000 in
theorem lifted (os : Os) (started : os.Started) (H : Type) (enc : TypeId × Value → H) :
    ReturnsInHanded {} Try.checked os 9 .any (Rows.wordMoreSpec.pre6 enc Try.prog Try.f9 Rows.wordMoreRow.domain false) (Rows.wordMoreSpec.post enc Try.prog Try.f9 false true false false) := by
  refine returnsInHanded_of_change (C := Try.checked) own started (by kernel_rfl) Try.func9
    (ChangeSpec.witness6 (enc := enc) (C := Try.checked) false ⟨#[], #[.agg #[.slice none 0 0], .slice none 0 0, .slice none 0 0, .agg #[.int .i64 0, .int .i64 0], .int .u8 0, .int .u8 0, .int .i64 0], []⟩ 8 (by kernel_rfl) (by kernel_rfl) (by kernel_rfl) (by kernel_rfl)) ?_
  intro W base args ds gs before hval0 hW hcnd _
  have hval : ∀ (j : Nat) t v, Try.f9.params[j]? = some t → args[j]? = some v → Value.okWide Try.prog W .any base t v := hval0
  have hW' := hW
  obtain ⟨p, q, hA0, hV, rfl, hfz, hnd⟩ := hW
  have hA : DataW.TrodAll enc Try.prog W 0 (fun _ => true) true Try.f9.params.toList args.toList ds p := hA0
  rw [Try.params9] at hA hval
  obtain ⟨v0, v1, v2, v3, v4, v5, v6, d0, d1, d2, d3, d4, d5, d6, p0, p1, p2, p3, p4, p5, p6, rfl, rfl, rfl, h0, h1, h2, h3, h4, h5, h6⟩ := trodAll_seven hA
  obtain ⟨rfl, rfl⟩ := trodVars_none hV
  clear hA0 hval0
  simp only [List.append_nil] at hW'
  have hlt := fun x hx => hW'.lt x hx
  obtain ⟨x0, y0⟩ := open_book (hval 0 _ _ rfl rfl) h0
  obtain ⟨x1, y1⟩ := open_lines (hval 1 _ _ rfl rfl) h1
  obtain ⟨x2, y2⟩ := open_ints (hval 2 _ _ rfl rfl) h2
  obtain ⟨x3, rfl⟩ := open_pair (hval 3 _ _ rfl rfl) h3
  obtain ⟨x4, rfl⟩ := open_byte (hval 4 _ _ rfl rfl) h4
  obtain ⟨x5, rfl⟩ := open_byte (hval 5 _ _ rfl rfl) h5
  obtain ⟨x6, rfl⟩ := open_num (hval 6 _ _ rfl rfl)
  refine (more_ok v0 v1 v2 x0 x1 x2 x3 x4 x5 x6 W y0 y1 y2).mono fun e W' ⟨he, hb⟩ => ?_
  subst he
  refine ⟨_, rfl, last_of_below (pa := p0 ++ (p1 ++ (p2 ++ (p3 ++ (p4 ++ (p5 ++ (p6))))))) (pv := []) hW' (fun _ _ _ => (trodAll_cons_mk (shut_bool Try.underlying4 _) trodAll_mk0)) (fun sp hsp => ?_) (fun _ _ => rfl) (by simp)
    hb (ok_one (by kernel_rfl) rfl (okWide_bool_mk Try.underlying4 _))⟩
  exact ⟨p0, _, (arg_stays (by kernel_rfl) (of_decide_eq_true (by kernel_rfl)) h0 hb (fun x hx => by simp [hx]) hlt hsp), ⟨p1, _, (arg_stays (by kernel_rfl) (of_decide_eq_true (by kernel_rfl)) h1 hb (fun x hx => by simp [hx]) hlt hsp), ⟨p2, _, (arg_stays (by kernel_rfl) (of_decide_eq_true (by kernel_rfl)) h2 hb (fun x hx => by simp [hx]) hlt hsp), trodAll_mk4 (arg_stays (by kernel_rfl) (of_decide_eq_true (by kernel_rfl)) h3 hb (fun x hx => by simp [hx]) hlt hsp) (arg_stays (by kernel_rfl) (of_decide_eq_true (by kernel_rfl)) h4 hb (fun x hx => by simp [hx]) hlt hsp) (arg_stays (by kernel_rfl) (of_decide_eq_true (by kernel_rfl)) h5 hb (fun x hx => by simp [hx]) hlt hsp) (arg_stays (by kernel_rfl) (of_decide_eq_true (by kernel_rfl)) h6 hb (fun x hx => by simp [hx]) hlt hsp), rfl⟩, rfl⟩, rfl⟩

theorem over : Rows.wordMoreRow.holds Try.pinned (OpenSpec.ofChange Rows.wordMoreSpec) :=
  OpenClaim.holds_of_wide 9 Try.f9 rfl rfl rfl rfl rfl rfl rfl ⟨rfl, rfl, rfl, rfl, rfl⟩ rfl rfl rfl rfl rfl (by kernel_rfl) Try.func9 (by kernel_rfl)
    (of_decide_eq_true (by kernel_rfl)) (by unfold Func.isWrapper; first | (rw [if_pos (by decide +kernel)]; kernel_rfl) | (rw [if_neg (by decide +kernel)]; exact ⟨rfl, rfl⟩))
    (fun os started H enc _ => lifted os started H enc)

theorem proved : Rows.WordMoreSaid :=
  over
end Go.Proofs.Ytgngpdnppdbgoaa.wordMore
