/- Plain facts for the laws of the layer that compare two cylinders, or one cylinder's answers. Nothing of the program is imported here. -/
import Derived.Test.YthplabmbbfefeaaPln
namespace Go.Proofs.Ythplabmbbfefeaa
set_option linter.unusedVariables false

/-! ### given plans and labels -/
theorem saves_le {c : Cyl} (h : checkCyl c = 0) {q : List Str} (h0 : (saves c q).2.2 = 0) : (saves c q).2.1 ≤ mostOf c := by
  rw [saves_code] at h0
  rw [saves_plan h0]
  exact mostK_ge h (Nat.le_refl _) ((checkPlan_iff h q).1 h0)

/-! ### what the kinds say -/
theorem saves_best {c : Cyl} (h : checkCyl c = 0) {q : List Str} (h0 : (saves c q).2.2 = 0) (h1 : (saves c q).2.1 = mostOf c) : IsPlan c (tK c) q ∧ valI (ownW c.pas) 0 c.pas q = mostOf c := by
  rw [saves_code] at h0
  have hq := (checkPlan_iff h q).1 h0
  rw [saves_plan h0] at h1
  exact ⟨hq, (worth_valI h hq).symm.trans h1⟩

theorem kind_val (c : Cyl) (m : Int) (i : Nat) : kindOf c m i = 0 ∨ kindOf c m i = 1 ∨ kindOf c m i = 2 := by
  unfold kindOf
  split
  · exact .inl rfl
  · split
    · exact .inr (.inr rfl)
    · exact .inr (.inl rfl)
theorem kind_two {c : Cyl} (h : checkCyl c = 0) {m : Int} (hm : 12000 < m) {i : Nat} {p : Pas} (hp : c.pas[i]? = some p) (hk : kindOf c m i = 2) {q : List Str} (hq : IsPlan c (tK c) q) (hv : valI (ownW c.pas) 0 c.pas q = mostOf c) : saved q p = true := by
  have hfit := pas_le h p (List.mem_of_getElem? hp)
  unfold kindOf at hk
  split at hk
  · omega
  · split at hk
    · rename_i h1 h2
      exact (without_iff h m hm i hp hfit).1 h2 q hq hv
    · omega
theorem kind_zero {c : Cyl} (h : checkCyl c = 0) {m : Int} (hm : 12000 < m) {i : Nat} {p : Pas} (hp : c.pas[i]? = some p) (hk : kindOf c m i = 0) {q : List Str} (hq : IsPlan c (tK c) q) (hv : valI (ownW c.pas) 0 c.pas q = mostOf c) : saved q p = false := by
  have hfit := pas_le h p (List.mem_of_getElem? hp)
  unfold kindOf at hk
  split at hk
  · rename_i h1
    exact (with_iff h m hm i hp hfit).1 h1 q hq hv
  · split at hk <;> omega
theorem kind_some {c : Cyl} (h : checkCyl c = 0) {m : Int} (hm : 12000 < m) {i : Nat} {p : Pas} (hp : c.pas[i]? = some p) (hk : 0 < kindOf c m i) : ∃ q, IsPlan c (tK c) q ∧ saved q p = true := by
  have hfit := pas_le h p (List.mem_of_getElem? hp)
  have h1 : ¬ withOf c m i < mostOf c := by
    intro hlt
    unfold kindOf at hk
    rw [if_pos hlt] at hk
    omega
  rw [with_iff h m hm i hp hfit] at h1
  simp only [Classical.not_forall] at h1
  obtain ⟨q, hq, hv, hs⟩ := h1
  exact ⟨q, hq, by simpa using hs⟩
theorem worn_sub {c : Cyl} {a b a' b' : Int} (h : worn c a b = false) (h1 : a ≤ a') (h2 : b' ≤ b) : worn c a' b' = false := by
  unfold worn at h ⊢
  rw [List.any_eq_false] at h ⊢
  intro x hx hh
  refine h x hx ?_
  simp only [Bool.and_eq_true, decide_eq_true_eq] at hh ⊢
  omega
theorem saved_fit {c : Cyl} {q : List Str} {k : Nat} (hq : IsPlan c k q) {p : Pas} (hs : saved q p = true) : p.b - p.a + 1 ≤ c.long ∧ worn c p.a p.b = false := by
  unfold saved at hs
  rw [List.any_eq_true] at hs
  obtain ⟨s, h1, h2⟩ := hs
  have := (seqP_after hq.1 s h1).2
  obtain ⟨h3, h4, h5, h6, h7⟩ := this
  simp only [hasP, Bool.and_eq_true, decide_eq_true_eq] at h2
  exact ⟨by omega, worn_sub h7 h2.1 h2.2⟩
theorem kind_fit {c : Cyl} (h : checkCyl c = 0) {m : Int} (hm : 12000 < m) {i : Nat} {p : Pas} (hp : c.pas[i]? = some p) (hk : 0 < kindOf c m i) : p.b - p.a + 1 ≤ c.long ∧ worn c p.a p.b = false := by
  obtain ⟨q, hq, hs⟩ := kind_some h hm hp hk
  exact saved_fit hq hs

/-! ### valid cylinders, part by part -/
theorem valid_iff (c : Cyl) : checkCyl c = 0 ↔ argOk c = true ∧ fragOk c.turns (-1) c.frag = true ∧ c.pas.length ≤ 12 ∧ c.pas.all (pasOk c.turns) = true := by
  unfold checkCyl
  constructor
  · intro h
    split at h
    · omega
    · split at h
      · omega
      · split at h
        · omega
        · split at h
          · omega
          · rename_i h1 h2 h3 h4
            exact ⟨by simpa using h1, by simpa using h2, by omega, by simpa using h4⟩
  · rintro ⟨h1, h2, h3, h4⟩
    rw [if_neg (by simp [h1]), if_neg (by simp [h2]), if_neg (by omega), if_neg (by simp [h4])]
theorem argOk_iff (c : Cyl) : argOk c = true ↔ 1 ≤ c.turns ∧ c.turns ≤ 30 ∧ 1 ≤ c.long ∧ c.long ≤ c.turns ∧ 0 ≤ c.plays ∧ c.plays ≤ 6 := by
  unfold argOk
  simp only [Bool.and_eq_true, decide_eq_true_eq]
  omega
theorem fragOk_weak {T : Int} {a b : Int} {l : List Int} (h : fragOk T a l = true) (hab : b ≤ a) : fragOk T b l = true := by
  cases l with
  | nil => rfl
  | cons t r =>
    unfold fragOk at h ⊢
    simp only [Bool.and_eq_true, decide_eq_true_eq] at h ⊢
    exact ⟨⟨by omega, h.1.2⟩, h.2⟩
theorem fragOk_after {T : Int} : ∀ {l : List Int} {a : Int}, fragOk T a l = true → ∀ x ∈ l, a < x ∧ x < T
  | [], a, _, x, hx => by simp at hx
  | t :: r, a, h, x, hx => by
    unfold fragOk at h
    simp only [Bool.and_eq_true, decide_eq_true_eq] at h
    rcases List.mem_cons.1 hx with rfl | hx
    · exact h.1
    · have := fragOk_after h.2 x hx
      omega

/-! ### one turn more that is fragile -/
def insF (t : Int) : List Int → List Int
  | [] => [t]
  | x :: r => if t ≤ x then (if t < x then t :: x :: r else x :: r) else x :: insF t r
theorem insF_mem (t : Int) : ∀ (l : List Int) (x : Int), x ∈ insF t l ↔ x = t ∨ x ∈ l
  | [], x => by simp [insF]
  | y :: r, x => by
    unfold insF
    split
    · split
      · simp
      · rename_i h1 h2
        obtain rfl : t = y := by omega
        simp
    · rw [List.mem_cons, insF_mem t r x, List.mem_cons]
      constructor
      · rintro (h | h | h) <;> simp [h]
      · rintro (h | h | h) <;> simp [h]
theorem insF_ok {T t : Int} (ht : t < T) : ∀ {l : List Int} {a : Int}, fragOk T a l = true → a < t → fragOk T a (insF t l) = true
  | [], a, _, h => by simp [insF, fragOk]; omega
  | x :: r, a, h, hat => by
    have h' := h
    unfold fragOk at h'
    simp only [Bool.and_eq_true, decide_eq_true_eq] at h'
    unfold insF
    split
    · split
      · unfold fragOk
        simp only [Bool.and_eq_true, decide_eq_true_eq]
        refine ⟨by omega, ?_⟩
        unfold fragOk
        simp only [Bool.and_eq_true, decide_eq_true_eq]
        exact ⟨by omega, h'.2⟩
      · exact h
    · unfold fragOk
      simp only [Bool.and_eq_true, decide_eq_true_eq]
      exact ⟨h'.1, insF_ok ht h'.2 (by omega)⟩
def moreF (c : Cyl) (t : Int) : Cyl := { c with frag := insF t c.frag }
theorem moreF_valid {c : Cyl} (h : checkCyl c = 0) {t : Int} (h0 : 0 ≤ t) (h1 : t < c.turns) : checkCyl (moreF c t) = 0 := by
  obtain ⟨i1, i2, i3, i4⟩ := (valid_iff c).1 h
  exact (valid_iff _).2 ⟨i1, insF_ok h1 i2 (by omega), i3, i4⟩
theorem seqP_sub {c d : Cyl} (hT : c.turns ≤ d.turns) (hL : c.long ≤ d.long) (hF : ∀ x ∈ d.frag, x ∈ c.frag) : ∀ {q : List Str} {a : Int}, SeqP c a q → SeqP d a q
  | [], _, _ => trivial
  | s :: r, a, h => by
    obtain ⟨h1, ⟨h2, h3, h4, h5, h6⟩, h7⟩ := h
    refine ⟨h1, ⟨h2, h3, by omega, by omega, ?_⟩, seqP_sub hT hL hF h7⟩
    unfold worn at h6 ⊢
    rw [List.any_eq_false] at h6 ⊢
    exact fun x hx => h6 x (hF x hx)
/-- a cylinder with fewer plans, and the same passages, saves no more -/
theorem mostK_sub {c d : Cyl} (hc : checkCyl c = 0) (hd : checkCyl d = 0) (hT : c.turns ≤ d.turns) (hL : c.long ≤ d.long) (hF : ∀ x ∈ d.frag, x ∈ c.frag) (hP : c.pas = d.pas) (hK : tK c = tK d) {k : Nat} (hk : k ≤ tK d) : mostK c k ≤ mostK d k := by
  obtain ⟨q, hq, e⟩ := mostK_got hc (k := k) (by omega)
  rw [← e]
  have : worthP c q = worthP d q := by unfold worthP; rw [hP]
  rw [this]
  exact mostK_ge hd hk ⟨seqP_sub hT hL hF hq.1, hq.2⟩
theorem more_frag {c : Cyl} (h : checkCyl c = 0) {t : Int} (h0 : 0 ≤ t) (h1 : t < c.turns) {k : Nat} (hk : k ≤ tK c) : mostK (moreF c t) k ≤ mostK c k :=
  mostK_sub (moreF_valid h h0 h1) h (Int.le_refl _) (Int.le_refl _) (fun x hx => (insF_mem t c.frag x).2 (.inr hx)) rfl rfl hk
/-! ### a lesser Long -/
def lessL (c : Cyl) (n : Int) : Cyl := { c with long := max 1 (c.long - n) }
theorem lessL_valid {c : Cyl} (h : checkCyl c = 0) {n : Int} (h0 : 0 ≤ n) : checkCyl (lessL c n) = 0 := by
  obtain ⟨i1, i2, i3, i4⟩ := (valid_iff c).1 h
  refine (valid_iff _).2 ⟨?_, i2, i3, i4⟩
  rw [argOk_iff] at i1 ⊢
  unfold lessL
  dsimp only
  omega
theorem less_long {c : Cyl} (h : checkCyl c = 0) {n : Int} (h0 : 0 ≤ n) {k : Nat} (hk : k ≤ tK c) : mostK (lessL c n) k ≤ mostK c k := by
  refine mostK_sub (lessL_valid h h0) h (Int.le_refl _) ?_ (fun x hx => hx) rfl rfl hk
  have := (cyl_nat h).2.2.2.2.2.1
  show max 1 (c.long - n) ≤ c.long
  omega
/-! ### a passage more -/
def moreP (c : Cyl) (p : Pas) : Cyl := { c with pas := c.pas ++ [p] }
theorem savesGo_snoc (q : List Str) (p : Pas) : ∀ (l : List Pas) (i : Nat), (savesGo q i (l ++ [p])).2 = (savesGo q i l).2 + (if saved q p then p.w else 0)
  | [], i => by simp only [List.nil_append, savesGo]; split <;> simp
  | x :: r, i => by
    have ih := savesGo_snoc q p r (i + 1)
    simp only [List.cons_append, savesGo]
    by_cases hs : saved q x = true
    · rw [if_pos hs, if_pos hs]; dsimp only; omega
    · rw [if_neg hs, if_neg hs]; exact ih
theorem moreP_plan {c : Cyl} {p : Pas} {k : Nat} {q : List Str} : IsPlan (moreP c p) k q ↔ IsPlan c k q :=
  ⟨fun h => ⟨seqP_sub (c := moreP c p) (d := c) (Int.le_refl _) (Int.le_refl _) (fun x hx => hx) h.1, h.2⟩, fun h => ⟨seqP_sub (c := c) (d := moreP c p) (Int.le_refl _) (Int.le_refl _) (fun x hx => hx) h.1, h.2⟩⟩
theorem moreP_worth (c : Cyl) (p : Pas) (q : List Str) : worthP (moreP c p) q = worthP c q + (if saved q p then p.w else 0) := savesGo_snoc q p c.pas 0
theorem more_pas {c : Cyl} (h : checkCyl c = 0) {p : Pas} (hz : checkCyl (moreP c p) = 0) {k : Nat} (hk : k ≤ tK c) : mostK c k ≤ mostK (moreP c p) k ∧ mostK (moreP c p) k ≤ mostK c k + p.w := by
  have hw : 0 ≤ p.w := by
    obtain ⟨i1, i2, i3, i4⟩ := (valid_iff _).1 hz
    exact (pas_fit (c := moreP c p) i4 p (by simp [moreP])).2.2.2.1
  constructor
  · obtain ⟨q, hq, e⟩ := mostK_got h hk
    have := mostK_ge hz (k := k) hk (moreP_plan.2 hq)
    rw [moreP_worth] at this
    split at this <;> omega
  · obtain ⟨q, hq, e⟩ := mostK_got hz (k := k) hk
    have := mostK_ge h hk (moreP_plan.1 hq)
    rw [moreP_worth] at e
    split at e <;> omega
end Go.Proofs.Ythplabmbbfefeaa
