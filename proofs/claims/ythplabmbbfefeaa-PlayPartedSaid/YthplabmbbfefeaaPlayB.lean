/- Contracts: CheckCylinder, CheckPlan, Saves of package play. -/
import Derived.Test.YthplabmbbfefeaaPlayA
namespace Go.Proofs.Ythplabmbbfefeaa
open Go.RowKit Go.Shelf
set_option linter.unusedVariables false

theorem within_1 (lo hi x : Int) (b c : Nat) (w : World) (hb : b < w.heap.size) (h : w.cell? ⟨b, 0, none⟩ = some (.int .i64 x)) (hc : 1 ≤ c) (hc2 : c ≤ 9223372036854775807) :
    Calls Try.prog 45 #[.int .i64 lo, .int .i64 hi, .slice (some ⟨b, 0, none⟩) 1 c] w fun r w' => r = .returned (.bool (inR lo hi x)) ∧ Below w.heap.size w w' := by
  refine (within_ok lo hi _ [x] w ⟨some ⟨b, 0, none⟩, c, rfl, hc, hc2, fun _ => ⟨b, 0, rfl, hb, ?_⟩⟩).mono ?_
  · intro i y hy j hj
    obtain rfl : i = 0 := by
      rcases Nat.eq_zero_or_pos i with h0 | h0
      · exact h0
      · rw [List.getElem?_eq_none (by simp; omega)] at hy; cases hy
    obtain rfl : j = 0 := by omega
    simp at hy
    subst hy
    simpa using h
  · rintro e w1 ⟨rfl, hb1⟩
    exact ⟨by simp, hb1⟩

theorem within_3 (lo hi x y z : Int) (b c : Nat) (w : World) (hb : b < w.heap.size) (h0 : w.cell? ⟨b, 0, none⟩ = some (.int .i64 x)) (h1 : w.cell? ⟨b, 1, none⟩ = some (.int .i64 y)) (h2 : w.cell? ⟨b, 2, none⟩ = some (.int .i64 z)) (hc : 3 ≤ c) (hc2 : c ≤ 9223372036854775807) :
    Calls Try.prog 45 #[.int .i64 lo, .int .i64 hi, .slice (some ⟨b, 0, none⟩) 3 c] w fun r w' => r = .returned (.bool (inR lo hi x && inR lo hi y && inR lo hi z)) ∧ Below w.heap.size w w' := by
  refine (within_ok lo hi _ [x, y, z] w ⟨some ⟨b, 0, none⟩, c, rfl, hc, hc2, fun _ => ⟨b, 0, rfl, hb, ?_⟩⟩).mono ?_
  · intro i u hu j hj
    obtain rfl : j = 0 := by omega
    match i, hu with
    | 0, hu => simp at hu; subst hu; simpa using h0
    | 1, hu => simp at hu; subst hu; simpa using h1
    | 2, hu => simp at hu; subst hu; simpa using h2
    | n + 3, hu => simp at hu
  · rintro e w1 ⟨rfl, hb1⟩
    exact ⟨by simp [Bool.and_assoc], hb1⟩

theorem ret_b {a b : Bool} (h : a = b) : Ending.returned (.bool a) = Ending.returned (.bool b) := by rw [h]
theorem ret_i {k : IntKind} {a b : Int} (h : a = b) : Ending.returned (.int k a) = Ending.returned (.int k b) := by rw [h]
theorem pasBad_f {T : Int} {p : Pas} (h2 : T ≤ 30) (hv : (inR 0 (T - 1) p.a && inR 0 (T - 1) p.b && inR 0 (T - 1) (wrap64 (p.b - p.a))) = false) : (!pasOk T p) = true := by
  cases hok : pasOk T p
  · rfl
  · exfalso
    simp only [pasOk, Bool.and_eq_true, decide_eq_true_eq] at hok
    rw [IntWalk.wrap64_in _ ⟨by omega, by omega⟩] at hv
    rw [Bool.eq_false_iff] at hv
    apply hv
    simp [inR]
    omega
theorem pasBad_t {T : Int} {p : Pas} (h1 : 1 ≤ T) (h2 : T ≤ 30) (hv : (inR 0 (T - 1) p.a && inR 0 (T - 1) p.b && inR 0 (T - 1) (wrap64 (p.b - p.a))) = true) : (!pasOk T p) = (decide (p.w < 0) || decide (1000 < p.w)) := by
  simp only [inR, Bool.and_eq_true, decide_eq_true_eq] at hv
  rw [IntWalk.wrap64_in _ ⟨by omega, by omega⟩] at hv
  rw [Bool.eq_iff_iff]
  simp [pasOk]
  omega
theorem pasBad_ok (T : Int) (p : Pas) (g : Nat) (w : World) (hg : g < w.heap.size) (h : w.cell? ⟨g, 0, none⟩ = some (.int .i64 T)) (h1 : 1 ≤ T) (h2 : T ≤ 30) :
    Calls Try.prog 46 #[.agg #[.int .i64 p.a, .int .i64 p.b, .int .i64 p.w], .pointer (some ⟨g, 0, none⟩)] w fun r w' => r = .returned (.bool (!pasOk T p)) ∧ Below w.heap.size w w' := by
  go_enter Try.func46, Try.ntmps46
  go_wp2_with fail
  refine (within_3 _ _ p.a p.b (wrap64 (p.b - p.a)) _ _ _ ?_ ?_ ?_ ?_ ?_ ?_).mono ?_
  · simp
  · simp
  · simp
  · simp
  · simp
  · simp
  rintro e w1 ⟨rfl, hb1⟩
  obtain ⟨hc1, hf1⟩ := bcell hb1
  have hbb : Below w.heap.size w w1 := ((Below.refl _ _).alloc (Nat.le_refl _) _).alloc (by simp) _ |>.trans (hb1.mono (by simp; omega))
  cases hv : (inR 0 (T - 1) p.a && inR 0 (T - 1) p.b && inR 0 (T - 1) (wrap64 (p.b - p.a)))
  all_goals (have HV := Lib.hid hv; clear hv; go_wp2)
  all_goals go_ret
  all_goals (have hv := HV.out; refine ⟨ret_b ?_, hbb⟩; first | exact (pasBad_f h2 hv).symm | (rw [pasBad_t h1 h2 hv]; done) | (rw [pasBad_t h1 h2 hv]; simp [*]; done) | (rw [pasBad_t h1 h2 hv]; simp [*]; omega))

end Go.Proofs.Ythplabmbbfefeaa
