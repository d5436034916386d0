/- The table that fill fills, as plain functions. -/
import Derived.Test.YthplabmbbfefeaaPure
namespace Go.Proofs.Ythplabmbbfefeaa
set_option linter.unusedVariables false

theorem foldl_greater_mem : ∀ (r : List Cho) (y : Cho), r.foldl greater y = y ∨ r.foldl greater y ∈ r
  | [], y => .inl rfl
  | z :: r, y => by
    rw [List.foldl_cons]
    rcases foldl_greater_mem r (greater y z) with h | h
    · rw [h]
      unfold greater
      split
      · exact .inr (List.mem_cons_self ..)
      · exact .inl rfl
    · exact .inr (List.mem_cons_of_mem _ h)
theorem pick_mem (y : Cho) (r : List Cho) : pick (y :: r) ∈ y :: r := by
  show r.foldl greater y ∈ _
  rcases foldl_greater_mem r y with h | h
  · rw [h]; exact List.mem_cons_self ..
  · exact List.mem_cons_of_mem _ h

/-- the choices at t, k: none, and each stretch that ends there with what went before it -/
def choices (E : Nat → List Cho) (V : Nat → Nat → Int) (t k : Nat) : List Cho := ⟨⟨-1, 0⟩, V (t - 1) k⟩ :: (E t).map fun y => ⟨y.s, y.x + V y.s.a.toNat (k - 1)⟩
def choW (E : Nat → List Cho) (V : Nat → Nat → Int) (t k : Nat) : Cho := pick (choices E V t k)

/-- the table with rows 1 .. n filled -/
def tabN (E : Nat → List Cho) (K : Nat) : Nat → Nat → Nat → Int
  | 0 => fun _ _ => 0
  | n + 1 => fun t j => if t = n + 1 then (if 1 ≤ j ∧ j ≤ K then (choW E (tabN E K n) (n + 1) j).x else tabN E K n n j) else tabN E K n t j

/-- the same, and row n + 1 copied and filled before column k -/
def midN (E : Nat → List Cho) (K n k : Nat) (t j : Nat) : Int := if t = n + 1 then (if 1 ≤ j ∧ j < k then (choW E (tabN E K n) (n + 1) j).x else tabN E K n n j) else tabN E K n t j

theorem midN_one (E : Nat → List Cho) (K n t j : Nat) : midN E K n 1 t j = if t = n + 1 then tabN E K n n j else tabN E K n t j := by
  unfold midN
  rw [if_neg (show ¬ (1 ≤ j ∧ j < 1) by omega)]
theorem midN_succ (E : Nat → List Cho) (K n k t j : Nat) (hk : 1 ≤ k) : midN E K n (k + 1) t j = if t = n + 1 ∧ j = k then (choW E (tabN E K n) (n + 1) k).x else midN E K n k t j := by
  unfold midN
  by_cases h : t = n + 1
  · by_cases h2 : j = k
    · subst h2
      rw [if_pos h, if_pos (by omega), if_pos ⟨h, rfl⟩]
    · rw [if_pos h, if_pos h, if_neg (fun (q : t = n + 1 ∧ j = k) => h2 q.2)]
      by_cases h3 : 1 ≤ j ∧ j < k
      · rw [if_pos h3, if_pos (by omega)]
      · rw [if_neg h3, if_neg (by omega)]
  · rw [if_neg h, if_neg h, if_neg (fun q => h q.1)]
theorem midN_last (E : Nat → List Cho) (K n t j : Nat) : midN E K n (K + 1) t j = tabN E K (n + 1) t j := by
  unfold midN
  conv => rhs; unfold tabN
  by_cases h : 1 ≤ j ∧ j ≤ K
  · rw [if_pos h, if_pos (show 1 ≤ j ∧ j < K + 1 by omega)]
  · rw [if_neg h, if_neg (show ¬ (1 ≤ j ∧ j < K + 1) by omega)]
theorem midN_low (E : Nat → List Cho) (K n k t j : Nat) (ht : t ≤ n) : midN E K n k t j = tabN E K n t j := by
  unfold midN
  rw [if_neg (by omega)]
theorem tabN_low (E : Nat → List Cho) (K : Nat) (t j : Nat) : ∀ d, tabN E K (t + d) t j = tabN E K t t j
  | 0 => rfl
  | d + 1 => by
    rw [← tabN_low E K t j d]
    show tabN E K ((t + d) + 1) t j = tabN E K (t + d) t j
    conv => lhs; unfold tabN
    rw [if_neg (by omega)]
theorem tabN_eq (E : Nat → List Cho) (K : Nat) (t n j : Nat) (h : t ≤ n) : tabN E K n t j = tabN E K t t j := by
  have := tabN_low E K t j (n - t)
  rwa [show t + (n - t) = n by omega] at this

/-- the lists of ends are fit: stretches that begin before they end -/
def Fit (E : Nat → List Cho) (D : Int) : Prop := ∀ i, ∀ y ∈ E i, 0 ≤ y.s.a ∧ y.s.a < (i : Int) ∧ -D ≤ y.x ∧ y.x ≤ D

theorem choices_mid (E : Nat → List Cho) (D : Int) (hE : Fit E D) (K n k j : Nat) : choices E (midN E K n k) (n + 1) j = choices E (tabN E K n) (n + 1) j := by
  unfold choices
  congr 1
  · rw [midN_low _ _ _ _ _ _ (by omega)]
  · apply List.map_congr_left
    intro y hy
    have h := hE _ y hy
    rw [midN_low _ _ _ _ _ _ (by omega)]

theorem tabN_bound (E : Nat → List Cho) (D : Int) (hD : 0 ≤ D) (hE : Fit E D) (K : Nat) : ∀ (n t j : Nat), -(D * (n : Int)) ≤ tabN E K n t j ∧ tabN E K n t j ≤ D * (n : Int)
  | 0, t, j => by simp [tabN]
  | n + 1, t, j => by
    have ih := tabN_bound E D hD hE K n
    have e : D * ((n + 1 : Nat) : Int) = D * (n : Int) + D := by rw [Int.natCast_add, Int.mul_add]; simp
    rw [e]
    unfold tabN
    split
    · split
      · unfold choW choices
        have hm := pick_mem ⟨⟨-1, 0⟩, tabN E K n (n + 1 - 1) j⟩ ((E (n + 1)).map fun y => ⟨y.s, y.x + tabN E K n y.s.a.toNat (j - 1)⟩)
        rcases List.mem_cons.1 hm with h | h
        · rw [h]
          have := ih (n + 1 - 1) j
          show _ ≤ tabN E K n (n + 1 - 1) j ∧ tabN E K n (n + 1 - 1) j ≤ _
          omega
        · obtain ⟨y, hy, h2⟩ := List.mem_map.1 h
          rw [← h2]
          have := ih y.s.a.toNat (j - 1)
          have h3 := hE _ y hy
          show _ ≤ y.x + tabN E K n y.s.a.toNat (j - 1) ∧ y.x + tabN E K n y.s.a.toNat (j - 1) ≤ _
          omega
      · have := ih n j
        omega
    · have := ih t j
      omega

/-- the stretches known: rows 1 .. n, and row n + 1 before column k -/
def byN (E : Nat → List Cho) (K n k : Nat) (a b : Int) : Option Str :=
  if 1 ≤ a ∧ 1 ≤ b ∧ b ≤ (K : Int) ∧ (a ≤ (n : Int) ∨ (a = (n : Int) + 1 ∧ b < (k : Int))) ∧ 0 ≤ (choW E (tabN E K (a.toNat - 1)) a.toNat b.toNat).s.a then some (choW E (tabN E K (a.toNat - 1)) a.toNat b.toNat).s else none

theorem byN_zero (E : Nat → List Cho) (K : Nat) (a b : Int) : byN E K 0 1 a b = none := by
  unfold byN
  rw [if_neg (by omega)]
theorem byN_last (E : Nat → List Cho) (K n : Nat) (a b : Int) : byN E K n (K + 1) a b = byN E K (n + 1) 1 a b := by
  unfold byN
  have e : (1 ≤ a ∧ 1 ≤ b ∧ b ≤ (K : Int) ∧ (a ≤ (n : Int) ∨ (a = (n : Int) + 1 ∧ b < ((K + 1 : Nat) : Int))) ∧ 0 ≤ (choW E (tabN E K (a.toNat - 1)) a.toNat b.toNat).s.a) ↔ (1 ≤ a ∧ 1 ≤ b ∧ b ≤ (K : Int) ∧ (a ≤ ((n + 1 : Nat) : Int) ∨ (a = ((n + 1 : Nat) : Int) + 1 ∧ b < ((1 : Nat) : Int))) ∧ 0 ≤ (choW E (tabN E K (a.toNat - 1)) a.toNat b.toNat).s.a) := by
    constructor
    · rintro ⟨h1, h2, h3, h4, h5⟩
      exact ⟨h1, h2, h3, by omega, h5⟩
    · rintro ⟨h1, h2, h3, h4, h5⟩
      exact ⟨h1, h2, h3, by omega, h5⟩
  simp only [e]
theorem byN_succ (E : Nat → List Cho) (K n k : Nat) (hk : 1 ≤ k) (hkK : k ≤ K) (a b : Int) :
    byN E K n (k + 1) a b = if 0 ≤ (choW E (tabN E K n) (n + 1) k).s.a ∧ a = (n : Int) + 1 ∧ b = (k : Int) then some (choW E (tabN E K n) (n + 1) k).s else byN E K n k a b := by
  unfold byN
  by_cases h : a = (n : Int) + 1 ∧ b = (k : Int)
  · obtain ⟨h1, h2⟩ := h
    have e1 : a.toNat - 1 = n := by omega
    have e2 : a.toNat = n + 1 := by omega
    have e3 : b.toNat = k := by omega
    rw [e1, e2, e3]
    by_cases h3 : 0 ≤ (choW E (tabN E K n) (n + 1) k).s.a
    · rw [if_pos ⟨by omega, by omega, by omega, by omega, h3⟩, if_pos ⟨h3, h1, h2⟩]
    · rw [if_neg (fun q => h3 q.2.2.2.2), if_neg (fun q => h3 q.1), if_neg (fun q => h3 q.2.2.2.2)]
  · rw [if_neg (fun (q : 0 ≤ (choW E (tabN E K n) (n + 1) k).s.a ∧ a = (n : Int) + 1 ∧ b = (k : Int)) => h q.2)]
    have e : (1 ≤ a ∧ 1 ≤ b ∧ b ≤ (K : Int) ∧ (a ≤ (n : Int) ∨ (a = (n : Int) + 1 ∧ b < ((k + 1 : Nat) : Int))) ∧ 0 ≤ (choW E (tabN E K (a.toNat - 1)) a.toNat b.toNat).s.a) ↔ (1 ≤ a ∧ 1 ≤ b ∧ b ≤ (K : Int) ∧ (a ≤ (n : Int) ∨ (a = (n : Int) + 1 ∧ b < (k : Int))) ∧ 0 ≤ (choW E (tabN E K (a.toNat - 1)) a.toNat b.toNat).s.a) := by
      constructor
      · rintro ⟨h1, h2, h3, h4, h5⟩
        exact ⟨h1, h2, h3, by omega, h5⟩
      · rintro ⟨h1, h2, h3, h4, h5⟩
        exact ⟨h1, h2, h3, by omega, h5⟩
    simp only [e]

theorem strFrom_mem (c : Cyl) (t : Nat) : ∀ n, ∀ s ∈ strFrom c t n, 0 ≤ s.a ∧ s.a < (n : Int) ∧ s.b = (t : Int)
  | 0, s, h => by simp [strFrom] at h
  | n + 1, s, h => by
    unfold strFrom at h
    split at h
    · rcases List.mem_cons.1 h with h | h
      · subst h
        exact ⟨by simp, by simp; omega, rfl⟩
      · have := strFrom_mem c t n s h
        exact ⟨this.1, by omega, this.2.2⟩
    · simp at h
theorem allStr_mem (c : Cyl) : ∀ t, ∀ s ∈ allStr c t, 0 ≤ s.a ∧ s.a ≤ s.b ∧ s.b < (t : Int)
  | 0, s, h => by simp [allStr] at h
  | t + 1, s, h => by
    unfold allStr at h
    rcases List.mem_append.1 h with h | h
    · have := allStr_mem c t s h
      omega
    · have := strFrom_mem c t (t + 1) s h
      omega
theorem endsOf_fit (ws : Nat → Int) (c : Cyl) (T : Nat) (hws : ∀ i, -100000 ≤ ws i ∧ ws i ≤ 100000) (hlen : c.pas.length ≤ 12) : Fit (endsOf ws c.pas (allStr c T)) 1200000 := by
  intro i y hy
  unfold endsOf at hy
  obtain ⟨s, hs, rfl⟩ := List.mem_map.1 hy
  obtain ⟨hs1, hs2⟩ := List.mem_filter.1 hs
  have h1 := allStr_mem c T s hs1
  have h2 := sumW_bound ws 100000 (by omega) hws s c.pas 0
  simp at hs2
  show 0 ≤ s.a ∧ s.a < (i : Int) ∧ _ ≤ sumW ws s 0 c.pas ∧ sumW ws s 0 c.pas ≤ _
  omega
end Go.Proofs.Ythplabmbbfefeaa
