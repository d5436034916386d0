/- The reference's lists of lists, level by level. Plain. -/
import Derived.Test.YtjjjockfppomdaaJsp
namespace Go.Proofs.Ytjjjockfppomdaa
set_option linter.unusedVariables false

def lastOk (c : Cyl) (l : List St) (s : St) : Bool := match l.getLast? with
  | none => true
  | some x => fitsS c x s
def goodK (c : Cyl) (l : List St) (s : St) : Bool := lastOk c l s && l.all fun x => decide (x.p ≠ s.p)
def ext (c : Cyl) (l : List St) : List (List St) := ((stepsOf c).filter (goodK c l)).map fun s => l ++ [s]
def lvl (c : Cyl) : Nat → List (List St)
  | 0 => [[]]
  | f + 1 => (lvl c f).flatMap (ext c)
theorem lastF_eq (L : List Nat) : lastF none L = L.getLast? := by
  rcases List.eq_nil_or_concat L with rfl | ⟨r, k, rfl⟩
  · rfl
  · rw [List.concat_eq_append, lastF_snoc]; simp
theorem goodK_eq {c : Cyl} {L : List Nat} {k : Nat} (hL : ∀ j ∈ L, j < (stepsOf c).length) (hk : k < (stepsOf c).length) : goodK c (L.map (stepAt c)) (stepAt c k) = canGo c (usedF c 0 L) (lastF none L) k := by
  rw [canGo_eq, lastF_eq]
  unfold goodK lastOk
  rw [Bool.and_comm]
  congr 1
  · rw [usedF_bit, Nat.zero_testBit, Bool.false_or, List.all_map]
    have key : ∀ x ∈ L, ((fun x : St => decide (x.p ≠ (stepAt c k).p)) ∘ stepAt c) x = !decide (pieceN c x = pieceN c k) := by
      intro x hx
      simp only [Function.comp, ne_eq, decide_not]
      congr 1
      rw [pieceN_stepAt (hL x hx), pieceN_stepAt hk, Bool.eq_iff_iff, decide_eq_true_eq, decide_eq_true_eq]
      omega
    clear hk
    induction L with
    | nil => rfl
    | cons a r ih =>
      rw [List.all_cons, List.any_cons, Bool.not_or, key a (by simp), ih (fun j hj => hL j (by simp [hj])) fun x hx => key x (by simp [hx])]
  · rw [List.getLast?_map]
    cases hl : L.getLast? with
    | none => rfl
    | some x =>
      have hx : x ∈ L := List.mem_of_getLast? hl
      show fitsS c (stepAt c x) (stepAt c k) = fitN c x k
      rw [fitN_stepAt (hL x hx) hk]
theorem filter_congr2 {α : Type} {p q : α → Bool} {l : List α} (h : ∀ x ∈ l, p x = q x) : l.filter p = l.filter q := List.filter_congr h
theorem lvl_eq (c : Cyl) : ∀ f, lvl c f = (goOn c f 0 none).map fun L => L.map (stepAt c)
  | 0 => rfl
  | f + 1 => by
    rw [lvl, lvl_eq c f, goOn_snoc, List.map_flatMap, List.flatMap_map]
    simp only [List.flatMap]
    congr 1
    refine List.map_congr_left fun L hL => ?_
    have hlt := walk_lt (mem_goOn.1 hL).2
    unfold ext nextN
    conv => lhs; rw [stepsOf_range c]
    rw [List.filter_map, List.map_map, List.map_map]
    rw [filter_congr2 (p := goodK c (L.map (stepAt c)) ∘ stepAt c) (q := canGo c (usedF c 0 L) (lastF none L)) fun k hk => goodK_eq hlt (List.mem_range.1 hk)]
    refine List.map_congr_left fun k _ => ?_
    simp
theorem joinsS_lvl (c : Cyl) : joinsS c = lvl c c.pcs.length := by rw [lvl_eq]; rfl
theorem lvl_len {c : Cyl} : ∀ {f : Nat} {l : List St}, l ∈ lvl c f → l.length = f
  | 0, l, h => by rw [lvl, List.mem_singleton] at h; rw [h]; rfl
  | f + 1, l, h => by
    rw [lvl, List.mem_flatMap] at h
    obtain ⟨m, hm, hl⟩ := h
    obtain ⟨s, _, rfl⟩ := List.mem_map.1 hl
    rw [List.length_append, lvl_len hm]; rfl
theorem lvl_stop {c : Cyl} {f : Nat} (h : lvl c f = []) : ∀ d, lvl c (f + d) = []
  | 0 => h
  | d + 1 => by
    show lvl c (f + d + 1) = []
    rw [lvl, lvl_stop h d]; rfl
theorem sum_le2 {α : Type} {f : α → Nat} {b : Nat} {l : List α} (h : ∀ x ∈ l, f x ≤ b) : (l.map f).sum ≤ l.length * b := sum_le h
theorem ext_len (c : Cyl) (l : List St) : (ext c l).length ≤ (stepsOf c).length := by
  unfold ext
  rw [List.length_map]
  exact List.length_filter_le _ _
theorem lvl_count (c : Cyl) : ∀ f, (lvl c f).length ≤ (stepsOf c).length ^ f
  | 0 => by simp [lvl]
  | f + 1 => by
    rw [lvl, List.length_flatMap, Nat.pow_succ]
    refine Nat.le_trans (sum_le fun l _ => ext_len c l) (Nat.mul_le_mul_right _ (lvl_count c f))
theorem steps_ten {c : Cyl} (h : c.pcs.length ≤ 5) : (stepsOf c).length ≤ 10 := by
  have := (stepsGo_len c.pcs 0).2
  unfold stepsOf
  omega
theorem lvl_small {c : Cyl} (h : c.pcs.length ≤ 5) {f : Nat} (hf : f ≤ 5) : (lvl c f).length ≤ 100000 := by
  have h1 := lvl_count c f
  have h2 : (stepsOf c).length ^ f ≤ 10 ^ f := Nat.pow_le_pow_left (steps_ten h) f
  have h3 : (10 : Nat) ^ f ≤ 10 ^ 5 := Nat.pow_le_pow_right (by omega) hf
  omega
theorem lvl_step {c : Cyl} {f : Nat} {l : List St} (h : l ∈ lvl c f) {s : St} (hs : s ∈ l) : isStep c s = true := by
  rw [lvl_eq, List.mem_map] at h
  obtain ⟨L, hL, rfl⟩ := h
  obtain ⟨k, hk, rfl⟩ := List.mem_map.1 hs
  exact stepAt_is (walk_lt (mem_goOn.1 hL).2 k hk)
theorem isStep_n {c : Cyl} {s : St} (h : isStep c s = true) : ∃ n : Nat, s.p = (n : Int) ∧ n < c.pcs.length := by
  unfold isStep at h
  simp only [Bool.and_eq_true, decide_eq_true_eq] at h
  obtain ⟨n, hn⟩ := Int.eq_ofNat_of_zero_le h.1.1
  exact ⟨n, hn, by omega⟩
end Go.Proofs.Ytjjjockfppomdaa
