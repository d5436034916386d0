/- The way that plan goes back through the table, as a plain function. -/
import Derived.Test.YthplabmbbfefeaaTab
namespace Go.Proofs.Ythplabmbbfefeaa
set_option linter.unusedVariables false

/-- back from t turns and k playings: fuel, table, known stretches -/
def wayGo (V : Nat → Nat → Int) (M : Int → Int → Option Str) : Nat → Nat → Nat → List Str
  | 0, _, _ => []
  | f + 1, t, k =>
    if t = 0 ∨ (V t 0 = 0 ∧ V t 1 = 0 ∧ V t 2 = 0 ∧ V t 3 = 0 ∧ V t 4 = 0 ∧ V t 5 = 0 ∧ V t 6 = 0) then []
    else match M t k with
      | none => wayGo V M f (t - 1) k
      | some s => s :: (if s.a = 0 ∧ k = 1 then [] else wayGo V M f s.a.toNat (k - 1))

theorem wayGo_len (V : Nat → Nat → Int) (M : Int → Int → Option Str) : ∀ f t k, (wayGo V M f t k).length ≤ f
  | 0, t, k => by simp [wayGo]
  | f + 1, t, k => by
    unfold wayGo
    split
    · simp
    · split
      · have := wayGo_len V M f (t - 1) k
        omega
      · rename_i s _
        split
        · simp
        · have := wayGo_len V M f s.a.toNat (k - 1)
          simp; omega
theorem wayGo_zero (V : Nat → Nat → Int) (M : Int → Int → Option Str) (f k : Nat) : wayGo V M f 0 k = [] := by
  cases f
  · rfl
  · unfold wayGo; simp
theorem wayGo_none (V : Nat → Nat → Int) (M : Int → Int → Option Str) (f t k : Nat) (ht : ¬ t = 0) (hz : ¬ (V t 0 = 0 ∧ V t 1 = 0 ∧ V t 2 = 0 ∧ V t 3 = 0 ∧ V t 4 = 0 ∧ V t 5 = 0 ∧ V t 6 = 0)) (h : M t k = none) : wayGo V M (f + 1) t k = wayGo V M f (t - 1) k := by
  conv => lhs; unfold wayGo
  rw [if_neg (fun q => q.elim ht hz), h]
theorem wayGo_some (V : Nat → Nat → Int) (M : Int → Int → Option Str) (f t k : Nat) (s : Str) (ht : ¬ t = 0) (hz : ¬ (V t 0 = 0 ∧ V t 1 = 0 ∧ V t 2 = 0 ∧ V t 3 = 0 ∧ V t 4 = 0 ∧ V t 5 = 0 ∧ V t 6 = 0)) (h : M t k = some s) : wayGo V M (f + 1) t k = s :: (if s.a = 0 ∧ k = 1 then [] else wayGo V M f s.a.toNat (k - 1)) := by
  conv => lhs; unfold wayGo
  rw [if_neg (fun q => q.elim ht hz), h]
end Go.Proofs.Ythplabmbbfefeaa
