/- Two rows of sixteen numbers, compared. -/
import Derived.Test.YtjjjockfppomdaaOn
import Derived.Laws.StructEq
namespace Go.Proofs.Ytjjjockfppomdaa
open Go.RowKit Go.Shelf
set_option linter.unusedVariables false

theorem part_int (xs : Array Value) (i : Nat) (x : Int) (h : xs[i]? = some (.int .i64 x)) (w : World) : (Go.part 3 xs (i * 1)).run Try.prog w = .ok (.int .i64 x) w := by
  have hu : Try.prog.underlying 3 = some (.int .i64) := Try.underlying3
  have hi : (Try.prog.info? 3).map (·.size) = some 1 := by kernel_rfl
  cases hq : Try.prog.info? 3 with
  | none => simp [hq] at hi
  | some ii =>
    have hs : ii.size = 1 := by simpa [hq] using hi
    unfold Go.part
    simp only [Sem.run_bind, sizeOf, typeInfo, run_program, Result.andThen_ok, hq, Nat.mul_one, Sem.run_pure]
    simp [isAgg, run_underlying hu, hs, h]

theorem row_loop (xs ys : Array Value) (f g : Nat → Int) (hx : ∀ i, i < 16 → xs[i]? = some (.int .i64 (f i))) (hy : ∀ i, i < 16 → ys[i]? = some (.int .i64 (g i))) (w : World) : ∀ l : List Nat, (∀ i ∈ l, i < 16) →
    (forIn l (none, ()) fun i (__s : Option Bool × Unit) => do
              let __do_lift ← Go.part 3 xs (i * 1)
              let __do_lift_1 ← Go.part 3 ys (i * 1)
              let __do_lift ← Op.equalIn 9999 3 __do_lift __do_lift_1
              if (!__do_lift) = true then pure (ForInStep.done (some false, ())) else pure (ForInStep.yield (none, ())) : Sem (Option Bool × Unit)).run Try.prog w = .ok (if l.all (fun i => f i == g i) = true then (none, ()) else (some false, ())) w
  | [], _ => by simp
  | i :: r, h => by
    have hi := h i List.mem_cons_self
    have he : (Op.equalIn 9999 3 (.int .i64 (f i)) (.int .i64 (g i))).run Try.prog w = .ok (f i == g i) w := by simp [go_sem]
    rw [List.forIn_cons]
    simp only [Sem.run_bind, part_int xs i _ (hx i hi), part_int ys i _ (hy i hi), he, Result.andThen_ok]
    cases hq : (f i == g i)
    · simp [hq]
    · simp only [Bool.not_true, Bool.false_eq_true, if_false, Sem.run_pure, Result.andThen_ok, List.all_cons, hq, Bool.true_and]
      exact row_loop xs ys f g hx hy w r fun j hj => h j (List.mem_cons_of_mem _ hj)
theorem eq_row (xs ys : Array Value) (f g : Nat → Int) (hx : ∀ i, i < 16 → xs[i]? = some (.int .i64 (f i))) (hy : ∀ i, i < 16 → ys[i]? = some (.int .i64 (g i))) (w : World) : (Op.equalIn 10000 76 (.agg xs) (.agg ys)).run Try.prog w = .ok ((List.range 16).all fun i => f i == g i) w := by
  show (Op.equalIn (9999+1) 76 _ _).run _ _ = _
  unfold Op.equalIn
  have hu := Try.underlying76
  have hi : (Try.prog.info? 3).map (·.size) = some 1 := by kernel_rfl
  cases hq : Try.prog.info? 3 with
  | none => simp [hq] at hi
  | some ii =>
    have hs : ii.size = 1 := by simpa [hq] using hi
    have hsz : (sizeOf 3).run Try.prog w = .ok 1 w := by simp [sizeOf, typeInfo, hq, hs]
    simp only [Sem.run_bind, run_underlying hu, Result.andThen_ok, hsz, Std.Legacy.Range.forIn_eq_forIn_range']
    have hl := row_loop xs ys f g hx hy w (List.range' 0 16) (by simp)
    have h16 : (List.range 16) = List.range' 0 16 := by decide
    rw [h16]
    simp only [Std.Legacy.Range.size, Nat.sub_zero, Nat.add_sub_cancel, Nat.div_one]
    rw [hl]
    cases (List.range' 0 16).all fun i => f i == g i <;> simp
end Go.Proofs.Ytjjjockfppomdaa
