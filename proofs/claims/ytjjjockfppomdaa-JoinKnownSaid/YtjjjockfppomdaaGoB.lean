/- The join with a number; the number of a join. Nothing of the program is imported here. -/
import Derived.Test.YtjjjockfppomdaaGo
namespace Go.Proofs.Ytjjjockfppomdaa
set_option linter.unusedVariables false

def stepAt (c : Cyl) (k : Nat) : St := ((stepsOf c)[k]?).getD default
def sumL (c : Cyl) (u : Nat) (l : List Nat) : Nat := (l.map fun k => leftN c (onN c u k) (some k)).sum
theorem sumL_snoc (c : Cyl) (u : Nat) (l : List Nat) (k : Nat) : sumL c u (l ++ [k]) = sumL c u l + leftN c (onN c u k) (some k) := by simp [sumL]
theorem sumL_le {c : Cyl} (h8 : c.pcs.length ≤ 8) (u : Nat) (l : List Nat) : sumL c u l ≤ l.length * 4294967296 := sum_le fun k _ => left_small h8 _ _
theorem left_len {c : Cyl} {u k f : Nat} {o : Option Nat} (hf : c.pcs.length - cnt c.pcs.length u = f + 1) (hk : k ∈ nextN c u o) : leftN c (onN c u k) (some k) = (goOn c f (onN c u k) (some k)).length := by
  obtain ⟨h1, h2⟩ := mem_next.1 hk
  unfold leftN
  rw [cnt_on h1 (canGo_free h2)]
  congr 2
  omega
theorem flat_sum {c : Cyl} {u f : Nat} {o : Option Nat} (hf : c.pcs.length - cnt c.pcs.length u = f + 1) (l : List Nat) (hl : ∀ k ∈ l, k ∈ nextN c u o) :
    (l.flatMap fun k => (goOn c f (onN c u k) (some k)).map (k :: ·)).length = sumL c u l := by
  rw [List.length_flatMap]
  exact sum_congr fun k hk => by rw [List.length_map, left_len hf (hl k hk)]
theorem nth_hit {c : Cyl} {u f r y : Nat} {o : Option Nat} {pre : List Nat} (hf : c.pcs.length - cnt c.pcs.length u = f + 1) (hp : pre ++ [y] <+: nextN c u o) (h1 : sumL c u pre ≤ r) (h2 : r < sumL c u pre + leftN c (onN c u y) (some y)) :
    (goOn c (f + 1) u o)[r]? = ((goOn c f (onN c u y) (some y))[r - sumL c u pre]?).map (y :: ·) := by
  obtain ⟨rest, hr⟩ := hp
  have hmem : ∀ k ∈ pre ++ [y], k ∈ nextN c u o := fun k hk => by rw [← hr]; exact List.mem_append_left _ hk
  rw [left_len hf (hmem y (by simp))] at h2
  rw [goOn, ← hr, List.append_assoc, List.flatMap_append, List.getElem?_append_right (by rw [flat_sum hf pre fun k hk => hmem k (List.mem_append_left _ hk)]; exact h1), flat_sum hf pre fun k hk => hmem k (List.mem_append_left _ hk)]
  rw [List.singleton_append, List.flatMap_cons, List.getElem?_append_left (by rw [List.length_map]; omega), List.getElem?_map]
theorem sum_next {c : Cyl} {u f : Nat} {o : Option Nat} (hf : c.pcs.length - cnt c.pcs.length u = f + 1) : sumL c u (nextN c u o) = (goOn c (f + 1) u o).length := by
  rw [← flat_sum hf (nextN c u o) fun k hk => hk]
  rfl
end Go.Proofs.Ytjjjockfppomdaa
