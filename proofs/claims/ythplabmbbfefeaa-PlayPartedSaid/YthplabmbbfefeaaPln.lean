/- Plain facts for the statements: plans, best plans and labels. -/
import Derived.Test.YthplabmbbfefeaaKnd
namespace Go.Proofs.Ythplabmbbfefeaa
set_option linter.unusedVariables false

theorem pasOk_of {c : Cyl} (h : checkCyl c = 0) : c.pas.all (pasOk c.turns) = true := by
  unfold checkCyl at h
  split at h
  · omega
  · split at h
    · omega
    · split at h
      · omega
      · split at h
        · omega
        · rename_i h4
          simpa using h4
theorem pas_le {c : Cyl} (h : checkCyl c = 0) : ∀ p ∈ c.pas, p.a ≤ p.b := fun p hp => (pas_fit (pasOk_of h) p hp).2.1

theorem checkPlan_iff {c : Cyl} (h : checkCyl c = 0) (q : List Str) : checkPlan c q = 0 ↔ IsPlan c (tK c) q := by
  have hk := (cyl_nat h).2.1
  unfold checkPlan IsPlan
  rw [if_neg (by omega)]
  by_cases hl : c.plays < q.length
  · rw [if_pos hl]
    constructor
    · intro h; omega
    · rintro ⟨_, h2⟩; omega
  · rw [if_neg hl, planGo_iff]
    constructor
    · intro h; exact ⟨h, by omega⟩
    · rintro ⟨h1, _⟩; exact h1

/-- the worth of a plan that is one -/
def worthP (c : Cyl) (q : List Str) : Int := (savesGo q 0 c.pas).2
theorem worth_valI {c : Cyl} (h : checkCyl c = 0) {q : List Str} {k : Nat} (hq : IsPlan c k q) : worthP c q = valI (ownW c.pas) 0 c.pas q := saves_worth hq.1 (pas_le h)
theorem saves_plan {c : Cyl} {q : List Str} (hq : checkPlan c q = 0) : saves c q = ((savesGo q 0 c.pas).1, worthP c q, 0) := by
  unfold saves worthP
  rw [if_neg (by omega)]
theorem saves_no {c : Cyl} {q : List Str} (hq : checkPlan c q ≠ 0) : saves c q = ([], 0, checkPlan c q) := by
  unfold saves
  rw [if_pos hq]
theorem saves_code (c : Cyl) (q : List Str) : (saves c q).2.2 = checkPlan c q := by
  by_cases h : checkPlan c q = 0
  · rw [saves_plan h, h]
  · rw [saves_no h]

/-- plans of so many stretches, and what they are worth at most -/
def mostK (c : Cyl) (k : Nat) : Int := tabC c (ownW c.pas) (tT c) k
theorem mostK_isMost {c : Cyl} (h : checkCyl c = 0) {k : Nat} (hk : k ≤ tK c) : IsMost c (ownW c.pas) k (mostK c k) := (tabC_isTab c _ h).most (cyl_nat h).1 hk
theorem mostK_ge {c : Cyl} (h : checkCyl c = 0) {k : Nat} (hk : k ≤ tK c) {q : List Str} (hq : IsPlan c k q) : worthP c q ≤ mostK c k := by
  rw [worth_valI h hq]; exact (mostK_isMost h hk).1 q hq
theorem mostK_got {c : Cyl} (h : checkCyl c = 0) {k : Nat} (hk : k ≤ tK c) : ∃ q, IsPlan c k q ∧ worthP c q = mostK c k := by
  obtain ⟨q, hq, e⟩ := (mostK_isMost h hk).2
  exact ⟨q, hq, (worth_valI h hq).trans e⟩
theorem mostK_of {c : Cyl} (h : checkCyl c = 0) {k : Nat} (hk : k ≤ tK c) {x : Int} (h1 : ∀ q, IsPlan c k q → worthP c q ≤ x) (h2 : ∃ q, IsPlan c k q ∧ worthP c q = x) : mostK c k = x := by
  obtain ⟨q, hq, e⟩ := mostK_got h hk
  obtain ⟨r, hr, e'⟩ := h2
  have := h1 q hq
  have := mostK_ge h hk hr
  omega
theorem worthsOf_eq {c : Cyl} (h : checkCyl c = 0) : worthsOf c = (List.range (tK c + 1)).map (mostK c) := by
  unfold worthsOf
  rw [if_pos h]
  rfl
theorem worthsOf_len {c : Cyl} (h : checkCyl c = 0) : (worthsOf c).length = tK c + 1 := by rw [worthsOf_eq h]; simp
theorem worthsOf_get {c : Cyl} (h : checkCyl c = 0) {k : Nat} (hk : k ≤ tK c) : (worthsOf c)[k]? = some (mostK c k) := by
  rw [worthsOf_eq h, List.getElem?_map, List.getElem?_range (by omega)]
  rfl
theorem mostOf_eq (c : Cyl) : mostOf c = mostK c (tK c) := rfl
theorem mostK_bound {c : Cyl} (h : checkCyl c = 0) {k : Nat} (hk : k ≤ tK c) : 0 ≤ mostK c k ∧ mostK c k ≤ 12000 := by
  obtain ⟨q, hq, e⟩ := (mostK_isMost h hk).2
  rw [← e]
  exact val_bound h hq.1
theorem isPlan_le {c : Cyl} {k l : Nat} {q : List Str} (h : IsPlan c k q) (hl : k ≤ l) : IsPlan c l q := ⟨h.1, Nat.le_trans h.2 hl⟩
theorem mostK_mono {c : Cyl} (h : checkCyl c = 0) {k l : Nat} (hk : k ≤ l) (hl : l ≤ tK c) : mostK c k ≤ mostK c l := by
  obtain ⟨q, hq, e⟩ := mostK_got h (Nat.le_trans hk hl)
  rw [← e]
  exact mostK_ge h hl (isPlan_le hq hk)
theorem mostK_zero {c : Cyl} (h : checkCyl c = 0) : mostK c 0 = 0 := (tabC_isTab c _ h).none_ _ (Nat.le_refl _)

/-! ### the way back -/
theorem way_isPlan {c : Cyl} (h : checkCyl c = 0) : IsPlan c (tK c) (wayOf c) := (wayOf_spec h).1
theorem way_worth {c : Cyl} (h : checkCyl c = 0) : worthP c (wayOf c) = mostOf c := (worth_valI h (way_isPlan h)).trans (wayOf_spec h).2
theorem way_saves {c : Cyl} (h : checkCyl c = 0) : (saves c (wayOf c)).2 = (mostOf c, 0) := by
  rw [saves_plan ((checkPlan_iff h _).2 (way_isPlan h)), way_worth h]
theorem best_ok_eq {c : Cyl} (h : checkCyl c = 0) : bestOf c = (wayOf c, mostOf c, 0) := by unfold bestOf; rw [if_pos h]
theorem best_no {c : Cyl} (h : checkCyl c ≠ 0) : bestOf c = ([], 0, checkCyl c) := by unfold bestOf; rw [if_neg h]

/-! ### labels -/
theorem labelsOf_at {c : Cyl} (h : checkCyl c = 0) {t k : Nat} (ht : t ≤ tT c) (hk : k ≤ tK c) : labAt (labelsOf c) (tK c) t k = tabC c (ownW c.pas) t k := by
  unfold labelsOf labAt
  rw [if_pos h, labL_get _ _ _ t k (by omega) hk]
  rfl
theorem tab_bound {c : Cyl} (h : checkCyl c = 0) {t k : Nat} (ht : t ≤ tT c) (hk : k ≤ tK c) : 0 ≤ tabC c (ownW c.pas) t k ∧ tabC c (ownW c.pas) t k ≤ 12000 := by
  obtain ⟨p, h1, h2, h3, h4⟩ := (tabC_isTab c (ownW c.pas) h).attained t t k (Nat.le_refl _) ht hk
  rw [← h4]
  exact val_bound h h1
theorem labL_mem (V : Nat → Nat → Int) (K : Nat) (x : Int) : ∀ n, x ∈ labL V K n → ∃ t k, t < n ∧ k ≤ K ∧ x = V t k
  | 0, h => by simp [labL] at h
  | n + 1, h => by
    rw [labL, List.mem_append] at h
    rcases h with h | h
    · obtain ⟨t, k, h1, h2, h3⟩ := labL_mem V K x n h
      exact ⟨t, k, by omega, h2, h3⟩
    · unfold rowL at h
      rw [List.mem_map] at h
      obtain ⟨k, hk, rfl⟩ := h
      rw [List.mem_range] at hk
      exact ⟨n, k, by omega, by omega, rfl⟩
theorem labels_check {c : Cyl} (h : checkCyl c = 0) : checkLab c (labelsOf c) = (mostOf c, 0) := by
  have hl : (labelsOf c).length = (tT c + 1) * (tK c + 1) := by
    unfold labelsOf
    rw [if_pos h, labL_length]
  have hb : badRange (labelsOf c) = false := by
    unfold badRange
    simp only [Bool.or_eq_false_iff, List.any_eq_false, decide_eq_true_eq]
    have hm : ∀ x ∈ labelsOf c, 0 ≤ x ∧ x ≤ 12000 := by
      intro x hx
      unfold labelsOf at hx
      rw [if_pos h] at hx
      obtain ⟨t, k, h1, h2, rfl⟩ := labL_mem _ _ _ _ hx
      exact tab_bound h (by omega) h2
    exact ⟨fun x hx => by have := hm x hx; omega, fun x hx => by have := hm x hx; omega⟩
  have hT := (cyl_nat h).1
  have hg : goodLab c (labAt (labelsOf c) (tK c)) = true := by
    have hV := tab_good h (tabC_isTab c (ownW c.pas) h)
    obtain ⟨g1, g2, g3, g4⟩ := (goodLab_iff c hT _).1 hV
    refine (goodLab_iff c hT _).2 ⟨?_, fun t k ht hk => ?_, fun t k ht hk => ?_, fun s k hs hk => ?_⟩
    · rw [labelsOf_at h (by omega) (by omega)]; exact g1
    · rw [labelsOf_at h (by omega) hk, labelsOf_at h (by omega) hk]; exact g2 t k ht hk
    · rw [labelsOf_at h ht (by omega), labelsOf_at h ht (by omega)]; exact g3 t k ht hk
    · obtain ⟨s1, s2, s3, s4, s5⟩ := hs
      rw [labelsOf_at h (by omega) (by omega), labelsOf_at h (by omega) (by omega)]; exact g4 s k ⟨s1, s2, s3, s4, s5⟩ hk
  unfold checkLab
  rw [if_neg (by omega), if_neg (by omega), if_neg (by rw [hb]; simp), if_neg (by rw [hg]; simp), labelsOf_at h (Nat.le_refl _) (Nat.le_refl _)]
  rfl
theorem checkLab_up {c : Cyl} (h : checkCyl c = 0) {l : List Int} (h0 : (checkLab c l).2 = 0) : mostOf c ≤ (checkLab c l).1 := by
  unfold checkLab at h0 ⊢
  rw [if_neg (by omega)] at h0 ⊢
  split at h0
  · simp at h0
  · rename_i h1
    rw [if_neg h1]
    split at h0
    · simp at h0
    · rename_i h2
      rw [if_neg h2]
      split at h0
      · simp at h0
      · rename_i h3
        rw [if_neg h3]
        have hT := (cyl_nat h).1
        have hu := goodLab_up hT (by simpa using h3)
        obtain ⟨q, hq, e⟩ := (mostOf_isMost h).2
        rw [← e]
        exact hu.most hT (Nat.le_refl _) hq

/-! ### kinds -/
theorem kinds_same {c : Cyl} {m m' : Int} (hm : 12000 < m) (hm' : 12000 < m') : kindsOf c m = kindsOf c m' := by
  unfold kindsOf
  by_cases h : checkCyl c = 0
  · rw [if_pos h, if_pos h]
    refine List.map_congr_left fun i hi => ?_
    rw [List.mem_range] at hi
    have hp : c.pas[i]? = some c.pas[i] := List.getElem?_eq_getElem hi
    exact kindOf_eq h m m' hm hm' i hp (pas_le h _ (List.getElem_mem hi))
  · rw [if_neg h, if_neg h]

/-! ### fewest -/
theorem idxOf_cases {α : Type} (p : α → Bool) : ∀ (l : List α) (i : Nat), (idxOf p i l < 0 ∧ ∀ x ∈ l, p x = false) ∨ ∃ k x, l[k]? = some x ∧ p x = true ∧ idxOf p i l = ((i + k : Nat) : Int) ∧ ∀ j y, j < k → l[j]? = some y → p y = false
  | [], i => .inl ⟨by simp [idxOf], by simp⟩
  | x :: r, i => by
    by_cases h : p x = true
    · exact .inr ⟨0, x, rfl, h, by simp [idxOf, h], fun j y hj => absurd hj (by omega)⟩
    · have h' : p x = false := by simpa using h
      have e : idxOf p i (x :: r) = idxOf p (i + 1) r := by simp [idxOf, h']
      rcases idxOf_cases p r (i + 1) with ⟨h1, h2⟩ | ⟨k, y, h1, h2, h3, h4⟩
      · refine .inl ⟨by rw [e]; exact h1, fun y hy => ?_⟩
        rcases List.mem_cons.1 hy with rfl | hy
        · exact h'
        · exact h2 y hy
      · refine .inr ⟨k + 1, y, h1, h2, by rw [e, h3]; congr 1; omega, fun j z hj hz => ?_⟩
        cases j with
        | zero => simp at hz; exact hz ▸ h'
        | succ j => exact h4 j z (by omega) hz
theorem few_cases {c : Cyl} (h : checkCyl c = 0) {x : Int} (hx : 0 ≤ x) : (fewestOf c x = (0, 13) ∧ mostK c (tK c) < x) ∨
    ∃ k : Nat, k ≤ tK c ∧ fewestOf c x = ((k : Int), 0) ∧ x ≤ mostK c k ∧ ∀ j, j < k → mostK c j < x := by
  unfold fewestOf
  rw [if_neg (by omega), if_neg (by omega)]
  rcases idxOf_cases (fun n => decide (x ≤ n)) (worthsOf c) 0 with ⟨h1, h2⟩ | ⟨k, y, h1, h2, h3, h4⟩
  · refine .inl ⟨?_, ?_⟩
    · rw [if_pos (show firstGe x (worthsOf c) < 0 from h1)]
    · have := h2 _ (List.mem_of_getElem? (worthsOf_get h (Nat.le_refl (tK c))))
      simp at this
      omega
  · have hk : k ≤ tK c := by
      have := (List.getElem?_eq_some_iff.1 h1).1
      rw [worthsOf_len h] at this
      omega
    rw [worthsOf_get h hk] at h1
    injection h1 with h1
    have e : firstGe x (worthsOf c) = (k : Int) := by unfold firstGe; rw [h3]; congr 1; omega
    refine .inr ⟨k, hk, ?_, ?_, fun j hj => ?_⟩
    · rw [e, if_neg (by omega)]
    · rw [h1]; simpa using h2
    · have := h4 j _ hj (worthsOf_get h (by omega))
      simp at this
      omega
def cutK (c : Cyl) (k : Nat) : Cyl := { c with plays := (k : Int) }
theorem cutK_valid {c : Cyl} (h : checkCyl c = 0) {k : Nat} (hk : k ≤ tK c) : checkCyl (cutK c k) = 0 := by
  have h6 := (cyl_nat h)
  have ha : argOk c = true := by
    unfold checkCyl at h
    split at h
    · omega
    · rename_i h2; simpa using h2
  have hb : argOk (cutK c k) = true := by
    unfold argOk at ha
    show (((((decide (1 ≤ c.turns) && decide (c.turns ≤ 30)) && decide (1 ≤ c.long)) && decide (c.long ≤ c.turns)) && decide (0 ≤ (k : Int))) && decide ((k : Int) ≤ 6)) = true
    simp only [Bool.and_eq_true, decide_eq_true_eq] at ha ⊢
    refine ⟨⟨ha.1.1, by omega⟩, by omega⟩
  unfold checkCyl at h ⊢
  rw [if_neg (by rw [ha]; simp)] at h
  rw [if_neg (by rw [hb]; simp)]
  exact h
theorem planGo_cut (c : Cyl) (k : Nat) : ∀ (q : List Str) (last : Int), planGo (cutK c k) last q = planGo c last q
  | [], last => rfl
  | s :: r, last => by
    unfold planGo
    rw [planGo_cut c k r s.b]
    rfl
theorem isPlan_cut {c : Cyl} {k l : Nat} {q : List Str} : IsPlan (cutK c k) l q ↔ IsPlan c l q := by
  unfold IsPlan
  rw [← planGo_iff, ← planGo_iff, planGo_cut]
theorem mostOf_cut {c : Cyl} (h : checkCyl c = 0) {k : Nat} (hk : k ≤ tK c) : mostOf (cutK c k) = mostK c k := by
  have hv := cutK_valid h hk
  have e : tK (cutK c k) = k := by simp [tK, cutK]
  obtain ⟨q, hq, e1⟩ := mostK_got h hk
  have h1 : mostK (cutK c k) k = mostK c k := by
    refine mostK_of hv (by rw [e]; exact Nat.le_refl _) (fun q hq => ?_) ⟨q, isPlan_cut.2 hq, e1⟩
    exact mostK_ge h hk (isPlan_cut.1 hq)
  rw [mostOf_eq, e]
  exact h1
end Go.Proofs.Ythplabmbbfefeaa
