/- Plain facts for the laws of the layer that compare two cylinders, or one cylinder's answers. Nothing of the program is imported here. -/
import Derived.Test.YthplabmbbfefeaaPln
namespace Go.Proofs.Ythplabmbbfefeaa
set_option linter.unusedVariables false

/-! ### given plans and labels -/
theorem saves_le {c : Cyl} (h : checkCyl c = 0) {q : List Str} (h0 : (saves c q).2.2 = 0) : (saves c q).2.1 ≤ mostOf c := by
  rw [saves_code] at h0
  rw [saves_plan h0]
  exact mostK_ge h (Nat.le_refl _) ((checkPlan_iff h q).1 h0)

/-! ### what the kinds say -/
theorem saves_best {c : Cyl} (h : checkCyl c = 0) {q : List Str} (h0 : (saves c q).2.2 = 0) (h1 : (saves c q).2.1 = mostOf c) : IsPlan c (tK c) q ∧ valI (ownW c.pas) 0 c.pas q = mostOf c := by
  rw [saves_code] at h0
  have hq := (checkPlan_iff h q).1 h0
  rw [saves_plan h0] at h1
  exact ⟨hq, (worth_valI h hq).symm.trans h1⟩

theorem kind_val (c : Cyl) (m : Int) (i : Nat) : kindOf c m i = 0 ∨ kindOf c m i = 1 ∨ kindOf c m i = 2 := by
  unfold kindOf
  split
  · exact .inl rfl
  · split
    · exact .inr (.inr rfl)
    · exact .inr (.inl rfl)
theorem kind_two {c : Cyl} (h : checkCyl c = 0) {m : Int} (hm : 12000 < m) {i : Nat} {p : Pas} (hp : c.pas[i]? = some p) (hk : kindOf c m i = 2) {q : List Str} (hq : IsPlan c (tK c) q) (hv : valI (ownW c.pas) 0 c.pas q = mostOf c) : saved q p = true := by
  have hfit := pas_le h p (List.mem_of_getElem? hp)
  unfold kindOf at hk
  split at hk
  · omega
  · split at hk
    · rename_i h1 h2
      exact (without_iff h m hm i hp hfit).1 h2 q hq hv
    · omega
theorem kind_zero {c : Cyl} (h : checkCyl c = 0) {m : Int} (hm : 12000 < m) {i : Nat} {p : Pas} (hp : c.pas[i]? = some p) (hk : kindOf c m i = 0) {q : List Str} (hq : IsPlan c (tK c) q) (hv : valI (ownW c.pas) 0 c.pas q = mostOf c) : saved q p = false := by
  have hfit := pas_le h p (List.mem_of_getElem? hp)
  unfold kindOf at hk
  split at hk
  · rename_i h1
    exact (with_iff h m hm i hp hfit).1 h1 q hq hv
  · split at hk <;> omega
theorem kind_some {c : Cyl} (h : checkCyl c = 0) {m : Int} (hm : 12000 < m) {i : Nat} {p : Pas} (hp : c.pas[i]? = some p) (hk : 0 < kindOf c m i) : ∃ q, IsPlan c (tK c) q ∧ saved q p = true := by
  have hfit := pas_le h p (List.mem_of_getElem? hp)
  have h1 : ¬ withOf c m i < mostOf c := by
    intro hlt
    unfold kindOf at hk
    rw [if_pos hlt] at hk
    omega
  rw [with_iff h m hm i hp hfit] at h1
  simp only [Classical.not_forall] at h1
  obtain ⟨q, hq, hv, hs⟩ := h1
  exact ⟨q, hq, by simpa using hs⟩
theorem worn_sub {c : Cyl} {a b a' b' : Int} (h : worn c a b = false) (h1 : a ≤ a') (h2 : b' ≤ b) : worn c a' b' = false := by
  unfold worn at h ⊢
  rw [List.any_eq_false] at h ⊢
  intro x hx hh
  refine h x hx ?_
  simp only [Bool.and_eq_true, decide_eq_true_eq] at hh ⊢
  omega
theorem saved_fit {c : Cyl} {q : List Str} {k : Nat} (hq : IsPlan c k q) {p : Pas} (hs : saved q p = true) : p.b - p.a + 1 ≤ c.long ∧ worn c p.a p.b = false := by
  unfold saved at hs
  rw [List.any_eq_true] at hs
  obtain ⟨s, h1, h2⟩ := hs
  have := (seqP_after hq.1 s h1).2
  obtain ⟨h3, h4, h5, h6, h7⟩ := this
  simp only [hasP, Bool.and_eq_true, decide_eq_true_eq] at h2
  exact ⟨by omega, worn_sub h7 h2.1 h2.2⟩
theorem kind_fit {c : Cyl} (h : checkCyl c = 0) {m : Int} (hm : 12000 < m) {i : Nat} {p : Pas} (hp : c.pas[i]? = some p) (hk : 0 < kindOf c m i) : p.b - p.a + 1 ≤ c.long ∧ worn c p.a p.b = false := by
  obtain ⟨q, hq, hs⟩ := kind_some h hm hp hk
  exact saved_fit hq hs

/-! ### valid cylinders, part by part -/
theorem valid_iff (c : Cyl) : checkCyl c = 0 ↔ argOk c = true ∧ fragOk c.turns (-1) c.frag = true ∧ c.pas.length ≤ 12 ∧ c.pas.all (pasOk c.turns) = true := by
  unfold checkCyl
  constructor
  · intro h
    split at h
    · omega
    · split at h
      · omega
      · split at h
        · omega
        · split at h
          · omega
          · rename_i h1 h2 h3 h4
            exact ⟨by simpa using h1, by simpa using h2, by omega, by simpa using h4⟩
  · rintro ⟨h1, h2, h3, h4⟩
    rw [if_neg (by simp [h1]), if_neg (by simp [h2]), if_neg (by omega), if_neg (by simp [h4])]
theorem argOk_iff (c : Cyl) : argOk c = true ↔ 1 ≤ c.turns ∧ c.turns ≤ 30 ∧ 1 ≤ c.long ∧ c.long ≤ c.turns ∧ 0 ≤ c.plays ∧ c.plays ≤ 6 := by
  unfold argOk
  simp only [Bool.and_eq_true, decide_eq_true_eq]
  omega
theorem fragOk_weak {T : Int} {a b : Int} {l : List Int} (h : fragOk T a l = true) (hab : b ≤ a) : fragOk T b l = true := by
  cases l with
  | nil => rfl
  | cons t r =>
    unfold fragOk at h ⊢
    simp only [Bool.and_eq_true, decide_eq_true_eq] at h ⊢
    exact ⟨⟨by omega, h.1.2⟩, h.2⟩
theorem fragOk_after {T : Int} : ∀ {l : List Int} {a : Int}, fragOk T a l = true → ∀ x ∈ l, a < x ∧ x < T
  | [], a, _, x, hx => by simp at hx
  | t :: r, a, h, x, hx => by
    unfold fragOk at h
    simp only [Bool.and_eq_true, decide_eq_true_eq] at h
    rcases List.mem_cons.1 hx with rfl | hx
    · exact h.1
    · have := fragOk_after h.2 x hx
      omega

/-! ### one turn more that is fragile -/
def insF (t : Int) : List Int → List Int
  | [] => [t]
  | x :: r => if t ≤ x then (if t < x then t :: x :: r else x :: r) else x :: insF t r
theorem insF_mem (t : Int) : ∀ (l : List Int) (x : Int), x ∈ insF t l ↔ x = t ∨ x ∈ l
  | [], x => by simp [insF]
  | y :: r, x => by
    unfold insF
    split
    · split
      · simp
      · rename_i h1 h2
        obtain rfl : t = y := by omega
        simp
    · rw [List.mem_cons, insF_mem t r x, List.mem_cons]
      constructor
      · rintro (h | h | h) <;> simp [h]
      · rintro (h | h | h) <;> simp [h]
theorem insF_ok {T t : Int} (ht : t < T) : ∀ {l : List Int} {a : Int}, fragOk T a l = true → a < t → fragOk T a (insF t l) = true
  | [], a, _, h => by simp [insF, fragOk]; omega
  | x :: r, a, h, hat => by
    have h' := h
    unfold fragOk at h'
    simp only [Bool.and_eq_true, decide_eq_true_eq] at h'
    unfold insF
    split
    · split
      · unfold fragOk
        simp only [Bool.and_eq_true, decide_eq_true_eq]
        refine ⟨by omega, ?_⟩
        unfold fragOk
        simp only [Bool.and_eq_true, decide_eq_true_eq]
        exact ⟨by omega, h'.2⟩
      · exact h
    · unfold fragOk
      simp only [Bool.and_eq_true, decide_eq_true_eq]
      exact ⟨h'.1, insF_ok ht h'.2 (by omega)⟩
def moreF (c : Cyl) (t : Int) : Cyl := { c with frag := insF t c.frag }
theorem moreF_valid {c : Cyl} (h : checkCyl c = 0) {t : Int} (h0 : 0 ≤ t) (h1 : t < c.turns) : checkCyl (moreF c t) = 0 := by
  obtain ⟨i1, i2, i3, i4⟩ := (valid_iff c).1 h
  exact (valid_iff _).2 ⟨i1, insF_ok h1 i2 (by omega), i3, i4⟩
theorem seqP_sub {c d : Cyl} (hT : c.turns ≤ d.turns) (hL : c.long ≤ d.long) (hF : ∀ x ∈ d.frag, x ∈ c.frag) : ∀ {q : List Str} {a : Int}, SeqP c a q → SeqP d a q
  | [], _, _ => trivial
  | s :: r, a, h => by
    obtain ⟨h1, ⟨h2, h3, h4, h5, h6⟩, h7⟩ := h
    refine ⟨h1, ⟨h2, h3, by omega, by omega, ?_⟩, seqP_sub hT hL hF h7⟩
    unfold worn at h6 ⊢
    rw [List.any_eq_false] at h6 ⊢
    exact fun x hx => h6 x (hF x hx)
/-- a cylinder with fewer plans, and the same passages, saves no more -/
theorem mostK_sub {c d : Cyl} (hc : checkCyl c = 0) (hd : checkCyl d = 0) (hT : c.turns ≤ d.turns) (hL : c.long ≤ d.long) (hF : ∀ x ∈ d.frag, x ∈ c.frag) (hP : c.pas = d.pas) (hK : tK c = tK d) {k : Nat} (hk : k ≤ tK d) : mostK c k ≤ mostK d k := by
  obtain ⟨q, hq, e⟩ := mostK_got hc (k := k) (by omega)
  rw [← e]
  have : worthP c q = worthP d q := by unfold worthP; rw [hP]
  rw [this]
  exact mostK_ge hd hk ⟨seqP_sub hT hL hF hq.1, hq.2⟩
theorem more_frag {c : Cyl} (h : checkCyl c = 0) {t : Int} (h0 : 0 ≤ t) (h1 : t < c.turns) {k : Nat} (hk : k ≤ tK c) : mostK (moreF c t) k ≤ mostK c k :=
  mostK_sub (moreF_valid h h0 h1) h (Int.le_refl _) (Int.le_refl _) (fun x hx => (insF_mem t c.frag x).2 (.inr hx)) rfl rfl hk
/-! ### a lesser Long -/
def lessL (c : Cyl) (n : Int) : Cyl := { c with long := max 1 (c.long - n) }
theorem lessL_valid {c : Cyl} (h : checkCyl c = 0) {n : Int} (h0 : 0 ≤ n) : checkCyl (lessL c n) = 0 := by
  obtain ⟨i1, i2, i3, i4⟩ := (valid_iff c).1 h
  refine (valid_iff _).2 ⟨?_, i2, i3, i4⟩
  rw [argOk_iff] at i1 ⊢
  unfold lessL
  dsimp only
  omega
theorem less_long {c : Cyl} (h : checkCyl c = 0) {n : Int} (h0 : 0 ≤ n) {k : Nat} (hk : k ≤ tK c) : mostK (lessL c n) k ≤ mostK c k := by
  refine mostK_sub (lessL_valid h h0) h (Int.le_refl _) ?_ (fun x hx => hx) rfl rfl hk
  have := (cyl_nat h).2.2.2.2.2.1
  show max 1 (c.long - n) ≤ c.long
  omega
/-! ### a passage more -/
def moreP (c : Cyl) (p : Pas) : Cyl := { c with pas := c.pas ++ [p] }
theorem savesGo_snoc (q : List Str) (p : Pas) : ∀ (l : List Pas) (i : Nat), (savesGo q i (l ++ [p])).2 = (savesGo q i l).2 + (if saved q p then p.w else 0)
  | [], i => by simp only [List.nil_append, savesGo]; split <;> simp
  | x :: r, i => by
    have ih := savesGo_snoc q p r (i + 1)
    simp only [List.cons_append, savesGo]
    by_cases hs : saved q x = true
    · rw [if_pos hs, if_pos hs]; dsimp only; omega
    · rw [if_neg hs, if_neg hs]; exact ih
theorem moreP_plan {c : Cyl} {p : Pas} {k : Nat} {q : List Str} : IsPlan (moreP c p) k q ↔ IsPlan c k q :=
  ⟨fun h => ⟨seqP_sub (c := moreP c p) (d := c) (Int.le_refl _) (Int.le_refl _) (fun x hx => hx) h.1, h.2⟩, fun h => ⟨seqP_sub (c := c) (d := moreP c p) (Int.le_refl _) (Int.le_refl _) (fun x hx => hx) h.1, h.2⟩⟩
theorem moreP_worth (c : Cyl) (p : Pas) (q : List Str) : worthP (moreP c p) q = worthP c q + (if saved q p then p.w else 0) := savesGo_snoc q p c.pas 0
theorem more_pas {c : Cyl} (h : checkCyl c = 0) {p : Pas} (hz : checkCyl (moreP c p) = 0) {k : Nat} (hk : k ≤ tK c) : mostK c k ≤ mostK (moreP c p) k ∧ mostK (moreP c p) k ≤ mostK c k + p.w := by
  have hw : 0 ≤ p.w := by
    obtain ⟨i1, i2, i3, i4⟩ := (valid_iff _).1 hz
    exact (pas_fit (c := moreP c p) i4 p (by simp [moreP])).2.2.2.1
  constructor
  · obtain ⟨q, hq, e⟩ := mostK_got h hk
    have := mostK_ge hz (k := k) hk (moreP_plan.2 hq)
    rw [moreP_worth] at this
    split at this <;> omega
  · obtain ⟨q, hq, e⟩ := mostK_got hz (k := k) hk
    have := mostK_ge h hk (moreP_plan.1 hq)
    rw [moreP_worth] at e
    split at e <;> omega

theorem fragOk_iff (T : Int) : ∀ (l : List Int) (a : Int), fragOk T a l = true ↔ (∀ x ∈ l, a < x ∧ x < T) ∧ l.Pairwise (· < ·)
  | [], a => by simp [fragOk]
  | t :: r, a => by
    unfold fragOk
    rw [Bool.and_eq_true, fragOk_iff T r t, List.pairwise_cons]
    simp only [Bool.and_eq_true, decide_eq_true_eq]
    constructor
    · rintro ⟨⟨h1, h2⟩, h3, h4⟩
      refine ⟨fun x hx => ?_, fun x hx => (h3 x hx).1, h4⟩
      rcases List.mem_cons.1 hx with rfl | hx
      · exact ⟨h1, h2⟩
      · have := h3 x hx; omega
    · rintro ⟨h1, h2, h3⟩
      have h0 := h1 t (List.mem_cons_self ..)
      exact ⟨h0, fun x hx => ⟨h2 x hx, (h1 x (List.mem_cons_of_mem _ hx)).2⟩, h3⟩

/-! ### turned round -/
def mirS (L : Int) (s : Str) : Str := ⟨L - s.b, L - s.a⟩
def mirP (L : Int) (p : Pas) : Pas := ⟨L - p.b, L - p.a, p.w⟩
def mirQ (L : Int) (q : List Str) : List Str := (q.map (mirS L)).reverse
def mirC (c : Cyl) : Cyl := { c with frag := (c.frag.map fun x => c.turns - 1 - x).reverse, pas := c.pas.map (mirP (c.turns - 1)) }

theorem mirS_mirS (L : Int) (s : Str) : mirS L (mirS L s) = s := by
  unfold mirS
  obtain ⟨a, b⟩ := s
  simp only [Str.mk.injEq]
  omega
theorem mirP_mirP (L : Int) (p : Pas) : mirP L (mirP L p) = p := by
  unfold mirP
  obtain ⟨a, b, w⟩ := p
  simp only [Pas.mk.injEq, and_true]
  omega
theorem mirC_mirC (c : Cyl) : mirC (mirC c) = c := by
  obtain ⟨T, L, K, F, P⟩ := c
  unfold mirC
  simp only [Cyl.mk.injEq, true_and, List.map_reverse, List.reverse_reverse, List.map_map]
  constructor
  · conv => rhs; rw [← List.map_id F]
    exact List.map_congr_left fun x _ => by simp only [Function.comp, id]; omega
  · conv => rhs; rw [← List.map_id P]
    exact List.map_congr_left fun x _ => mirP_mirP _ x
theorem mirC_valid {c : Cyl} (h : checkCyl c = 0) : checkCyl (mirC c) = 0 := by
  obtain ⟨i1, i2, i3, i4⟩ := (valid_iff c).1 h
  refine (valid_iff _).2 ⟨i1, ?_, by show (c.pas.map _).length ≤ 12; rw [List.length_map]; exact i3, ?_⟩
  · obtain ⟨h1, h2⟩ := (fragOk_iff _ _ _).1 i2
    refine (fragOk_iff _ _ _).2 ⟨fun x hx => ?_, ?_⟩
    · have hx : x ∈ (c.frag.map fun x => c.turns - 1 - x).reverse := hx
      rw [List.mem_reverse, List.mem_map] at hx
      obtain ⟨y, hy, rfl⟩ := hx
      have := h1 y hy
      show -1 < c.turns - 1 - y ∧ c.turns - 1 - y < c.turns
      omega
    · show (c.frag.map fun x => c.turns - 1 - x).reverse.Pairwise (· < ·)
      rw [List.pairwise_reverse, List.pairwise_map]
      exact h2.imp fun h => by omega
  · rw [List.all_eq_true]
    intro x hx
    have hx : x ∈ c.pas.map (mirP (c.turns - 1)) := hx
    rw [List.mem_map] at hx
    obtain ⟨y, hy, rfl⟩ := hx
    have := pas_fit i4 y hy
    unfold pasOk mirP
    simp only [Bool.and_eq_true, decide_eq_true_eq]
    show (((0 ≤ c.turns - 1 - y.b ∧ c.turns - 1 - y.b ≤ c.turns - 1 - y.a) ∧ c.turns - 1 - y.a < c.turns) ∧ 0 ≤ y.w) ∧ y.w ≤ 1000
    omega
theorem okS_mir {c : Cyl} {s : Str} (h : OkS c s) : OkS (mirC c) (mirS (c.turns - 1) s) := by
  obtain ⟨h1, h2, h3, h4, h5⟩ := h
  show 0 ≤ c.turns - 1 - s.b ∧ c.turns - 1 - s.b ≤ c.turns - 1 - s.a ∧ c.turns - 1 - s.a < c.turns ∧ c.turns - 1 - s.a - (c.turns - 1 - s.b) < c.long ∧ worn (mirC c) (c.turns - 1 - s.b) (c.turns - 1 - s.a) = false
  refine ⟨by omega, by omega, by omega, by omega, ?_⟩
  unfold worn at h5 ⊢
  rw [List.any_eq_false] at h5 ⊢
  intro x hx hh
  have hx : x ∈ (c.frag.map fun x => c.turns - 1 - x).reverse := hx
  rw [List.mem_reverse, List.mem_map] at hx
  obtain ⟨y, hy, rfl⟩ := hx
  refine h5 y hy ?_
  simp only [Bool.and_eq_true, decide_eq_true_eq] at hh ⊢
  omega
theorem seqP_mir {c : Cyl} : ∀ {q : List Str} {a : Int}, SeqP c a q → SeqP (mirC c) (-1) (mirQ (c.turns - 1) q)
  | [], _, _ => trivial
  | s :: r, a, h => by
    obtain ⟨h1, h2, h3⟩ := h
    have ih := seqP_mir h3
    have e : mirQ (c.turns - 1) (s :: r) = mirQ (c.turns - 1) r ++ [mirS (c.turns - 1) s] := by simp [mirQ]
    rw [e]
    refine seqP_snoc.2 ⟨ih, okS_mir h2, ?_, fun x hx => ?_⟩
    · have h4 := h2.2.2.1
      show -1 < c.turns - 1 - s.b
      omega
    · unfold mirQ at hx
      rw [List.mem_reverse, List.mem_map] at hx
      obtain ⟨y, hy, rfl⟩ := hx
      have := (seqP_after h3 y hy).1
      show c.turns - 1 - y.a < c.turns - 1 - s.b
      omega
theorem isPlan_mir {c : Cyl} {k : Nat} {q : List Str} (h : IsPlan c k q) : IsPlan (mirC c) k (mirQ (c.turns - 1) q) :=
  ⟨seqP_mir h.1, by simp only [mirQ, List.length_reverse, List.length_map]; exact h.2⟩
theorem hasP_mir (L : Int) (s : Str) (p : Pas) : hasP (mirS L s) (mirP L p) = hasP s p := by
  unfold hasP mirS mirP
  rw [Bool.eq_iff_iff]
  simp only [Bool.and_eq_true, decide_eq_true_eq]
  omega
theorem sumW_mir (ws : Nat → Int) (L : Int) (s : Str) : ∀ (l : List Pas) (i : Nat), sumW ws (mirS L s) i (l.map (mirP L)) = sumW ws s i l
  | [], i => rfl
  | p :: r, i => by simp only [List.map_cons, sumW, hasP_mir, sumW_mir ws L s r (i + 1)]
theorem valI_mir (ws : Nat → Int) (L : Int) (l : List Pas) (i : Nat) (q : List Str) : valI ws i (l.map (mirP L)) (mirQ L q) = valI ws i l q := by
  unfold mirQ
  rw [valI_reverse]
  induction q with
  | nil => rfl
  | cons s r ih => simp only [List.map_cons, valI, sumW_mir, ih]
theorem mirQ_mirQ (L : Int) (q : List Str) : mirQ L (mirQ L q) = q := by
  unfold mirQ
  rw [List.map_reverse, List.reverse_reverse, List.map_map]
  conv => rhs; rw [← List.map_id q]
  exact List.map_congr_left fun x _ => mirS_mirS L x
theorem isMost_mir {c : Cyl} {ws : Nat → Int} {k : Nat} {x : Int} (h : IsMost c ws k x) : IsMost (mirC c) ws k x := by
  refine ⟨fun q hq => ?_, ?_⟩
  · have h1 := isPlan_mir hq
    rw [mirC_mirC] at h1
    have := h.1 _ h1
    rw [← valI_mir ws (c.turns - 1)] at this
    have e : mirQ (c.turns - 1) (mirQ ((mirC c).turns - 1) q) = q := mirQ_mirQ _ q
    rw [e] at this
    exact this
  · obtain ⟨q, hq, e⟩ := h.2
    exact ⟨_, isPlan_mir hq, (valI_mir ws (c.turns - 1) c.pas 0 q).trans e⟩
theorem tab_mir {c : Cyl} (h : checkCyl c = 0) (ws : Nat → Int) {k : Nat} (hk : k ≤ tK c) : tabC (mirC c) ws (tT c) k = tabC c ws (tT c) k :=
  ((tabC_isTab (mirC c) ws (mirC_valid h)).most (cyl_nat (mirC_valid h)).1 hk).unique (isMost_mir ((tabC_isTab c ws h).most (cyl_nat h).1 hk))
theorem ownW_mir (c : Cyl) : ownW (mirC c).pas = ownW c.pas := by
  funext i
  unfold ownW mirC
  dsimp only
  rw [List.getElem?_map]
  cases c.pas[i]? <;> rfl
theorem mostK_mir {c : Cyl} (h : checkCyl c = 0) {k : Nat} (hk : k ≤ tK c) : mostK (mirC c) k = mostK c k := by
  unfold mostK
  rw [ownW_mir]
  exact tab_mir h _ hk
theorem worths_mir {c : Cyl} (h : checkCyl c = 0) : worthsOf (mirC c) = worthsOf c := by
  rw [worthsOf_eq h, worthsOf_eq (mirC_valid h)]
  exact List.map_congr_left fun k hk => mostK_mir h (by rw [List.mem_range] at hk; have : tK (mirC c) = tK c := rfl; omega)
theorem kinds_mir {c : Cyl} (h : checkCyl c = 0) (m : Int) : kindsOf (mirC c) m = kindsOf c m := by
  unfold kindsOf
  rw [if_pos h, if_pos (mirC_valid h)]
  have hl : (mirC c).pas.length = c.pas.length := by simp [mirC]
  rw [hl]
  refine List.map_congr_left fun i _ => ?_
  unfold kindOf withOf withoutOf mostOf
  rw [ownW_mir]
  have e1 := fun ws => tab_mir h ws (k := tK c) (Nat.le_refl _)
  show (if tabC (mirC c) _ (tT c) (tK c) - m < tabC (mirC c) _ (tT c) (tK c) then (0 : Int) else if tabC (mirC c) _ (tT c) (tK c) < tabC (mirC c) _ (tT c) (tK c) then 2 else 1) = _
  rw [e1, e1, e1]
theorem saved_mir (L : Int) (q : List Str) (p : Pas) : saved (mirQ L q) (mirP L p) = saved q p := by
  unfold saved mirQ
  rw [List.any_reverse, List.any_map]
  congr 1
  funext s
  exact hasP_mir L s p
theorem savesGo_mir (L : Int) (q : List Str) : ∀ (l : List Pas) (i : Nat), savesGo (mirQ L q) i (l.map (mirP L)) = savesGo q i l
  | [], i => rfl
  | p :: r, i => by
    have hw : (mirP L p).w = p.w := rfl
    simp only [List.map_cons, savesGo, saved_mir, savesGo_mir L q r (i + 1), hw]
theorem saves_mir {c : Cyl} (h : checkCyl c = 0) {q : List Str} (hq : IsPlan c (tK c) q) : saves (mirC c) (mirQ (c.turns - 1) q) = saves c q := by
  have h1 := (checkPlan_iff h q).2 hq
  have h2 := (checkPlan_iff (mirC_valid h) _).2 (isPlan_mir hq)
  rw [saves_plan h1, saves_plan h2]
  unfold worthP
  have e : savesGo (mirQ (c.turns - 1) q) 0 (mirC c).pas = savesGo q 0 c.pas := savesGo_mir _ q c.pas 0
  rw [e]

/-! ### parted -/
/-- what a stretch saves, without numbers -/
def sumP (s : Str) : List Pas → Int
  | [] => 0
  | p :: r => (if hasP s p then p.w else 0) + sumP s r
theorem sumW_sumP (ws : Nat → Int) (s : Str) : ∀ (l : List Pas) (i : Nat), (∀ j p, l[j]? = some p → ws (i + j) = p.w) → sumW ws s i l = sumP s l
  | [], i, _ => rfl
  | p :: r, i, h => by
    have h0 := h 0 p rfl
    rw [Nat.add_zero] at h0
    have ih := sumW_sumP ws s r (i + 1) fun j q hq => by
      have := h (j + 1) q (by simpa using hq)
      rwa [show i + 1 + j = i + (j + 1) by omega]
    simp only [sumW, sumP, h0, ih]
def valP (l : List Pas) : List Str → Int
  | [] => 0
  | s :: r => sumP s l + valP l r
theorem valI_valP (l : List Pas) : ∀ q, valI (ownW l) 0 l q = valP l q
  | [] => rfl
  | s :: r => by
    simp only [valI, valP, valI_valP l r]
    rw [sumW_sumP (ownW l) s l 0 fun j p hj => by rw [Nat.zero_add]; exact ownW_get hj]
theorem worth_valP {c : Cyl} (h : checkCyl c = 0) {q : List Str} {k : Nat} (hq : IsPlan c k q) : worthP c q = valP c.pas q := (worth_valI h hq).trans (valI_valP _ q)
theorem valP_append (l : List Pas) (q : List Str) : ∀ p, valP l (p ++ q) = valP l p + valP l q
  | [] => by simp [valP]
  | s :: r => by simp only [List.cons_append, valP, valP_append l q r]; omega
theorem sumP_filter (s : Str) (f : Pas → Bool) : ∀ (l : List Pas), (∀ p ∈ l, hasP s p = true → f p = true) → sumP s (l.filter f) = sumP s l
  | [], _ => rfl
  | p :: r, h => by
    have ih := sumP_filter s f r fun x hx => h x (List.mem_cons_of_mem _ hx)
    have h0 := h p (List.mem_cons_self ..)
    rw [List.filter_cons]
    cases hf : f p
    · have : hasP s p = false := by
        cases hp : hasP s p
        · rfl
        · rw [h0 hp] at hf; cases hf
      simp only [sumP, this]
      simpa using ih
    · simp only [if_true, sumP, ih]
def shS (n : Int) (s : Str) : Str := ⟨s.a + n, s.b + n⟩
def shP (n : Int) (p : Pas) : Pas := ⟨p.a + n, p.b + n, p.w⟩
theorem hasP_sh (n : Int) (s : Str) (p : Pas) : hasP (shS n s) (shP n p) = hasP s p := by
  unfold hasP shS shP
  rw [Bool.eq_iff_iff]
  simp only [Bool.and_eq_true, decide_eq_true_eq]
  omega
theorem sumP_sh (n : Int) (s : Str) : ∀ (l : List Pas), sumP (shS n s) (l.map (shP n)) = sumP s l
  | [] => rfl
  | p :: r => by
    have hw : (shP n p).w = p.w := rfl
    simp only [List.map_cons, sumP, hasP_sh, sumP_sh n s r, hw]
theorem valP_sh (n : Int) (l : List Pas) : ∀ q, valP (l.map (shP n)) (q.map (shS n)) = valP l q
  | [] => rfl
  | s :: r => by simp only [List.map_cons, valP, sumP_sh, valP_sh n l r]

def lowC (c : Cyl) (f : Int) : Cyl := ⟨f, min f c.long, c.plays, c.frag.filter fun x => decide (x < f), c.pas.filter fun p => decide (p.b < f)⟩
def higC (c : Cyl) (f : Int) : Cyl := ⟨c.turns - f - 1, min (c.turns - f - 1) c.long, c.plays, (c.frag.filter fun x => decide (f < x)).map fun x => x - f - 1, (c.pas.filter fun p => decide (f < p.a)).map (shP (-f - 1))⟩

theorem lowC_valid {c : Cyl} (h : checkCyl c = 0) {f : Int} (h0 : 0 < f) (h1 : f < c.turns) : checkCyl (lowC c f) = 0 := by
  obtain ⟨i1, i2, i3, i4⟩ := (valid_iff c).1 h
  obtain ⟨j1, j2⟩ := (fragOk_iff _ _ _).1 i2
  refine (valid_iff _).2 ⟨?_, ?_, Nat.le_trans (List.length_filter_le _ _) i3, ?_⟩
  · rw [argOk_iff] at i1 ⊢
    unfold lowC
    dsimp only
    omega
  · refine (fragOk_iff _ _ _).2 ⟨fun x hx => ?_, j2.filter _⟩
    have hx : x ∈ c.frag.filter fun x => decide (x < f) := hx
    rw [List.mem_filter] at hx
    have := j1 x hx.1
    have h2 : x < f := by simpa using hx.2
    exact ⟨this.1, h2⟩
  · rw [List.all_eq_true]
    intro x hx
    have hx : x ∈ c.pas.filter fun p => decide (p.b < f) := hx
    rw [List.mem_filter] at hx
    have := pas_fit i4 x hx.1
    have h2 : x.b < f := by simpa using hx.2
    unfold pasOk
    simp only [Bool.and_eq_true, decide_eq_true_eq]
    show (((0 ≤ x.a ∧ x.a ≤ x.b) ∧ x.b < f) ∧ 0 ≤ x.w) ∧ x.w ≤ 1000
    omega
theorem higC_valid {c : Cyl} (h : checkCyl c = 0) {f : Int} (h0 : 0 < f) (h1 : f < c.turns - 1) : checkCyl (higC c f) = 0 := by
  obtain ⟨i1, i2, i3, i4⟩ := (valid_iff c).1 h
  obtain ⟨j1, j2⟩ := (fragOk_iff _ _ _).1 i2
  refine (valid_iff _).2 ⟨?_, ?_, ?_, ?_⟩
  · rw [argOk_iff] at i1 ⊢
    unfold higC
    dsimp only
    omega
  · refine (fragOk_iff _ _ _).2 ⟨fun x hx => ?_, ?_⟩
    · have hx : x ∈ (c.frag.filter fun x => decide (f < x)).map fun x => x - f - 1 := hx
      rw [List.mem_map] at hx
      obtain ⟨y, hy, rfl⟩ := hx
      rw [List.mem_filter] at hy
      have := j1 y hy.1
      have h2 : f < y := by simpa using hy.2
      show -1 < y - f - 1 ∧ y - f - 1 < c.turns - f - 1
      omega
    · show ((c.frag.filter fun x => decide (f < x)).map fun x => x - f - 1).Pairwise (· < ·)
      rw [List.pairwise_map]
      exact (j2.filter _).imp fun h => by omega
  · show ((c.pas.filter _).map _).length ≤ 12
    rw [List.length_map]
    exact Nat.le_trans (List.length_filter_le _ _) i3
  · rw [List.all_eq_true]
    intro x hx
    have hx : x ∈ (c.pas.filter fun p => decide (f < p.a)).map (shP (-f - 1)) := hx
    rw [List.mem_map] at hx
    obtain ⟨y, hy, rfl⟩ := hx
    rw [List.mem_filter] at hy
    have := pas_fit i4 y hy.1
    have h2 : f < y.a := by simpa using hy.2
    unfold pasOk shP
    simp only [Bool.and_eq_true, decide_eq_true_eq]
    show (((0 ≤ y.a + (-f - 1) ∧ y.a + (-f - 1) ≤ y.b + (-f - 1)) ∧ y.b + (-f - 1) < c.turns - f - 1) ∧ 0 ≤ y.w) ∧ y.w ≤ 1000
    omega

theorem okS_low {c : Cyl} {f : Int} {s : Str} (hf : f ≤ c.turns) : OkS (lowC c f) s ↔ OkS c s ∧ s.b < f := by
  unfold OkS lowC
  dsimp only
  have hw : s.b < f → worn (lowC c f) s.a s.b = worn c s.a s.b := by
    intro hb
    unfold worn lowC
    rw [Bool.eq_iff_iff, List.any_eq_true, List.any_eq_true]
    constructor
    · rintro ⟨x, hx, h2⟩
      exact ⟨x, (List.mem_filter.1 hx).1, h2⟩
    · rintro ⟨x, hx, h2⟩
      refine ⟨x, List.mem_filter.2 ⟨hx, ?_⟩, h2⟩
      simp only [Bool.and_eq_true, decide_eq_true_eq] at h2 ⊢
      omega
  constructor
  · rintro ⟨h1, h2, h3, h4, h5⟩
    rw [← hw h3]
    exact ⟨⟨h1, h2, by omega, by omega, h5⟩, h3⟩
  · rintro ⟨⟨h1, h2, h3, h4, h5⟩, h6⟩
    rw [← hw h6] at h5
    exact ⟨h1, h2, h6, by omega, h5⟩
theorem okS_hig {c : Cyl} {f : Int} {s : Str} (hf : 0 ≤ f) : OkS (higC c f) s ↔ OkS c (shS (f + 1) s) ∧ 0 ≤ s.a := by
  unfold OkS
  have hw : 0 ≤ s.a → worn (higC c f) s.a s.b = worn c (s.a + (f + 1)) (s.b + (f + 1)) := by
    intro hb
    unfold worn higC
    rw [Bool.eq_iff_iff, List.any_eq_true, List.any_eq_true]
    constructor
    · rintro ⟨x, hx, h2⟩
      rw [List.mem_map] at hx
      obtain ⟨y, hy, rfl⟩ := hx
      refine ⟨y, (List.mem_filter.1 hy).1, ?_⟩
      simp only [Bool.and_eq_true, decide_eq_true_eq] at h2 ⊢
      omega
    · rintro ⟨x, hx, h2⟩
      simp only [Bool.and_eq_true, decide_eq_true_eq] at h2
      refine ⟨x - f - 1, List.mem_map.2 ⟨x, List.mem_filter.2 ⟨hx, ?_⟩, rfl⟩, ?_⟩
      · rw [decide_eq_true_eq]; omega
      · simp only [Bool.and_eq_true, decide_eq_true_eq]; omega
  show (0 ≤ s.a ∧ s.a ≤ s.b ∧ s.b < c.turns - f - 1 ∧ s.b - s.a < min (c.turns - f - 1) c.long ∧ worn (higC c f) s.a s.b = false) ↔
    (0 ≤ s.a + (f + 1) ∧ s.a + (f + 1) ≤ s.b + (f + 1) ∧ s.b + (f + 1) < c.turns ∧ s.b + (f + 1) - (s.a + (f + 1)) < c.long ∧ worn c (s.a + (f + 1)) (s.b + (f + 1)) = false) ∧ 0 ≤ s.a
  constructor
  · rintro ⟨h1, h2, h3, h4, h5⟩
    rw [← hw h1]
    exact ⟨⟨by omega, by omega, by omega, by omega, h5⟩, h1⟩
  · rintro ⟨⟨h1, h2, h3, h4, h5⟩, h6⟩
    rw [← hw h6] at h5
    exact ⟨h6, by omega, by omega, by omega, h5⟩

theorem seqP_first {c : Cyl} {a b : Int} {q : List Str} (h : SeqP c a q) (hb : ∀ s ∈ q, b < s.a) : SeqP c b q := by
  cases q with
  | nil => trivial
  | cons s r => exact ⟨hb s (List.mem_cons_self ..), h.2⟩
theorem seqP_low {c : Cyl} {f : Int} (hf : f ≤ c.turns) : ∀ {q : List Str} {a : Int}, (∀ s ∈ q, s.b < f) → SeqP c a q → SeqP (lowC c f) a q
  | [], _, _, _ => trivial
  | s :: r, a, hb, h => ⟨h.1, (okS_low hf).2 ⟨h.2.1, hb s (List.mem_cons_self ..)⟩, seqP_low hf (fun x hx => hb x (List.mem_cons_of_mem _ hx)) h.2.2⟩
theorem seqP_of_low {c : Cyl} {f : Int} (hf : f ≤ c.turns) : ∀ {q : List Str} {a : Int}, SeqP (lowC c f) a q → SeqP c a q
  | [], _, _ => trivial
  | s :: r, a, h => ⟨h.1, ((okS_low hf).1 h.2.1).1, seqP_of_low hf h.2.2⟩
theorem seqP_hig {c : Cyl} {f : Int} (hf : 0 ≤ f) : ∀ {q : List Str} {a : Int}, (∀ s ∈ q, f < s.a) → SeqP c a q → SeqP (higC c f) (a + (-f - 1)) (q.map (shS (-f - 1)))
  | [], _, _, _ => trivial
  | s :: r, a, hb, h => by
    have h0 := hb s (List.mem_cons_self ..)
    refine ⟨?_, (okS_hig hf).2 ⟨?_, ?_⟩, seqP_hig hf (fun x hx => hb x (List.mem_cons_of_mem _ hx)) h.2.2⟩
    · have := h.1
      show a + (-f - 1) < s.a + (-f - 1)
      omega
    · have e : shS (f + 1) (shS (-f - 1) s) = s := by
        unfold shS
        obtain ⟨x, y⟩ := s
        simp only [Str.mk.injEq]
        omega
      rw [e]; exact h.2.1
    · show 0 ≤ s.a + (-f - 1)
      omega
theorem seqP_of_hig {c : Cyl} {f : Int} (hf : 0 ≤ f) : ∀ {q : List Str} {a : Int}, SeqP (higC c f) a q → SeqP c (a + (f + 1)) (q.map (shS (f + 1)))
  | [], _, _ => trivial
  | s :: r, a, h => by
    refine ⟨?_, ((okS_hig hf).1 h.2.1).1, seqP_of_hig hf h.2.2⟩
    have := h.1
    show a + (f + 1) < s.a + (f + 1)
    omega
theorem seqP_filter {c : Cyl} (f : Str → Bool) : ∀ {q : List Str} {a : Int}, SeqP c a q → SeqP c a (q.filter f)
  | [], _, _ => trivial
  | s :: r, a, h => by
    have ih := seqP_filter f h.2.2
    rw [List.filter_cons]
    split
    · exact ⟨h.1, h.2.1, ih⟩
    · refine seqP_weak ih ?_
      have h1 := h.2.1.2.1
      have h2 := h.1
      omega
theorem seqP_append {c : Cyl} : ∀ {p q : List Str} {a : Int}, SeqP c a p → (∀ s ∈ p, ∀ t ∈ q, s.b < t.a) → SeqP c a q → SeqP c a (p ++ q)
  | [], _, _, _, _, h => h
  | s :: r, q, a, hp, hb, hq => by
    refine ⟨hp.1, hp.2.1, seqP_append hp.2.2 (fun x hx t ht => hb x (List.mem_cons_of_mem _ hx) t ht) (seqP_first hq fun t ht => hb s (List.mem_cons_self ..) t ht)⟩

theorem valP_low (c : Cyl) (f : Int) : ∀ q : List Str, (∀ s ∈ q, s.b < f) → valP (lowC c f).pas q = valP c.pas q
  | [], _ => rfl
  | s :: r, h => by
    have h0 := h s (List.mem_cons_self ..)
    simp only [valP, valP_low c f r fun x hx => h x (List.mem_cons_of_mem _ hx)]
    have : sumP s (lowC c f).pas = sumP s c.pas := sumP_filter s _ c.pas fun p _ hp => by
      simp only [hasP, Bool.and_eq_true, decide_eq_true_eq] at hp ⊢
      omega
    rw [this]
theorem valP_hig (c : Cyl) (f : Int) (q : List Str) (h : ∀ s ∈ q, f < s.a) : valP (higC c f).pas (q.map (shS (-f - 1))) = valP c.pas q := by
  show valP ((c.pas.filter fun p => decide (f < p.a)).map (shP (-f - 1))) _ = _
  rw [valP_sh]
  induction q with
  | nil => rfl
  | cons s r ih =>
    have h0 := h s (List.mem_cons_self ..)
    simp only [valP, ih fun x hx => h x (List.mem_cons_of_mem _ hx)]
    have : sumP s (c.pas.filter fun p => decide (f < p.a)) = sumP s c.pas := sumP_filter s _ c.pas fun p _ hp => by
      simp only [hasP, Bool.and_eq_true, decide_eq_true_eq] at hp ⊢
      omega
    rw [this]
theorem valP_part (l : List Pas) (f : Int) : ∀ q : List Str, (∀ s ∈ q, s.a ≤ s.b ∧ (s.b < f ∨ f < s.a)) → valP l (q.filter fun s => decide (s.b < f)) + valP l (q.filter fun s => decide (f < s.a)) = valP l q ∧
    (q.filter fun s => decide (s.b < f)).length + (q.filter fun s => decide (f < s.a)).length = q.length
  | [], _ => ⟨rfl, rfl⟩
  | s :: r, h => by
    have h0 := h s (List.mem_cons_self ..)
    have ih := valP_part l f r fun x hx => h x (List.mem_cons_of_mem _ hx)
    rw [List.filter_cons, List.filter_cons]
    by_cases h1 : s.b < f
    · have h2 : ¬ f < s.a := by omega
      rw [if_pos (by simpa using h1), if_neg (by simpa using h2)]
      simp only [valP, List.length_cons]
      omega
    · have h2 : f < s.a := by omega
      rw [if_neg (by simpa using h1), if_pos (by simpa using h2)]
      simp only [valP, List.length_cons]
      omega

theorem part_le {c : Cyl} (h : checkCyl c = 0) {f : Int} (h0 : 0 < f) (h1 : f < c.turns - 1) {k i : Nat} (hk : k ≤ tK c) (hi : i ≤ k) : mostK (lowC c f) i + mostK (higC c f) (k - i) ≤ mostK c k := by
  have hl := lowC_valid h h0 (by omega)
  have hr := higC_valid h h0 h1
  obtain ⟨p, hp, e1⟩ := mostK_got hl (k := i) (show i ≤ tK c by omega)
  obtain ⟨q, hq, e2⟩ := mostK_got hr (k := k - i) (show k - i ≤ tK c by omega)
  rw [worth_valP hl hp] at e1
  rw [worth_valP hr hq] at e2
  have hpb : ∀ s ∈ p, s.b < f := fun s hs => (seqP_after hp.1 s hs).2.2.2.1
  have hqa : ∀ s ∈ q.map (shS (f + 1)), f < s.a := by
    intro s hs
    rw [List.mem_map] at hs
    obtain ⟨t, ht, rfl⟩ := hs
    have := (seqP_after hq.1 t ht).1
    show f < t.a + (f + 1)
    omega
  have hplan : IsPlan c k (p ++ q.map (shS (f + 1))) := by
    refine ⟨seqP_append (seqP_of_low (by omega) hp.1) (fun s hs t ht => ?_) (seqP_weak (seqP_of_hig (by omega) hq.1) (by omega)), ?_⟩
    · have := hpb s hs
      have := hqa t ht
      omega
    · have := hp.2
      have := hq.2
      simp only [List.length_append, List.length_map]
      omega
  have := mostK_ge h hk hplan
  rw [worth_valP h hplan, valP_append, ← valP_low c f p hpb, ← valP_hig c f _ hqa, List.map_map] at this
  have e : q.map (shS (-f - 1) ∘ shS (f + 1)) = q := by
    conv => rhs; rw [← List.map_id q]
    refine List.map_congr_left fun s _ => ?_
    obtain ⟨a, b⟩ := s
    simp only [Function.comp, shS, id, Str.mk.injEq]
    omega
  rw [e] at this
  omega
theorem part_got {c : Cyl} (h : checkCyl c = 0) {f : Int} (h0 : 0 < f) (h1 : f < c.turns - 1) (hf : f ∈ c.frag) {k : Nat} (hk : k ≤ tK c) : ∃ i, i ≤ k ∧ mostK c k ≤ mostK (lowC c f) i + mostK (higC c f) (k - i) := by
  have hl := lowC_valid h h0 (by omega)
  have hr := higC_valid h h0 h1
  obtain ⟨q, hq, e⟩ := mostK_got h hk
  rw [worth_valP h hq] at e
  have hpart : ∀ s ∈ q, s.a ≤ s.b ∧ (s.b < f ∨ f < s.a) := by
    intro s hs
    have := (seqP_after hq.1 s hs).2
    refine ⟨this.2.1, ?_⟩
    have hw := this.2.2.2.2
    unfold worn at hw
    rw [List.any_eq_false] at hw
    have := hw f hf
    simp only [Bool.and_eq_true, decide_eq_true_eq] at this
    omega
  obtain ⟨v1, v2⟩ := valP_part c.pas f q hpart
  have hlb : ∀ s ∈ q.filter (fun s => decide (s.b < f)), s.b < f := fun s hs => by simpa using (List.mem_filter.1 hs).2
  have hra : ∀ s ∈ q.filter (fun s => decide (f < s.a)), f < s.a := fun s hs => by simpa using (List.mem_filter.1 hs).2
  have hpl : IsPlan (lowC c f) (q.filter fun s => decide (s.b < f)).length (q.filter fun s => decide (s.b < f)) := ⟨seqP_low (by omega) hlb (seqP_filter _ hq.1), Nat.le_refl _⟩
  have hpr : IsPlan (higC c f) (k - (q.filter fun s => decide (s.b < f)).length) ((q.filter fun s => decide (f < s.a)).map (shS (-f - 1))) := by
    refine ⟨seqP_first (seqP_hig (by omega) hra (seqP_filter _ hq.1)) fun s hs => ?_, ?_⟩
    · rw [List.mem_map] at hs
      obtain ⟨t, ht, rfl⟩ := hs
      have := hra t ht
      show -1 < t.a + (-f - 1)
      omega
    · have := hq.2
      rw [List.length_map]
      omega
  have hle : (q.filter fun s => decide (s.b < f)).length ≤ k := by have := hq.2; omega
  refine ⟨_, hle, ?_⟩
  have g1 := mostK_ge hl (show _ ≤ tK c by omega) hpl
  have g2 := mostK_ge hr (show _ ≤ tK c by omega) hpr
  rw [worth_valP hl hpl, valP_low c f _ hlb] at g1
  rw [worth_valP hr hpr, valP_hig c f _ hra] at g2
  omega
/-- the greatest sum, as the law finds it -/
def bestTo (A B : Nat → Int) (k : Nat) : Nat → Int
  | 0 => 0
  | i + 1 => max (bestTo A B k i) (A i + B (k - i))
theorem bestTo_le {A B : Nat → Int} {k : Nat} {x : Int} (h0 : 0 ≤ x) (h : ∀ i, i ≤ k → A i + B (k - i) ≤ x) : ∀ n, n ≤ k + 1 → bestTo A B k n ≤ x
  | 0, _ => h0
  | n + 1, hn => by
    have := bestTo_le h0 h n (by omega)
    have := h n (by omega)
    unfold bestTo
    omega
theorem bestTo_ge {A B : Nat → Int} {k : Nat} {i : Nat} : ∀ n, i < n → A i + B (k - i) ≤ bestTo A B k n
  | 0, h => absurd h (by omega)
  | n + 1, h => by
    unfold bestTo
    by_cases hin : i = n
    · subst hin; omega
    · have := bestTo_ge (A := A) (B := B) (k := k) n (show i < n by omega)
      omega
theorem part_best {c : Cyl} (h : checkCyl c = 0) {f : Int} (h0 : 0 < f) (h1 : f < c.turns - 1) (hf : f ∈ c.frag) {k : Nat} (hk : k ≤ tK c) : bestTo (mostK (lowC c f)) (mostK (higC c f)) k (k + 1) = mostK c k := by
  have h2 := bestTo_le (A := mostK (lowC c f)) (B := mostK (higC c f)) (k := k) (mostK_bound h hk).1 (fun i hi => part_le h h0 h1 hk hi) (k + 1) (Nat.le_refl _)
  obtain ⟨i, hi, h3⟩ := part_got h h0 h1 hf hk
  have h4 := bestTo_ge (A := mostK (lowC c f)) (B := mostK (higC c f)) (k := k) (i := i) (k + 1) (by omega)
  omega
theorem bestTo_nonneg {A B : Nat → Int} {k : Nat} : ∀ n, 0 ≤ bestTo A B k n
  | 0 => Int.le_refl _
  | n + 1 => by
    have := bestTo_nonneg (A := A) (B := B) (k := k) n
    unfold bestTo
    omega
end Go.Proofs.Ythplabmbbfefeaa
