/- Words that pairs join: classes as the program merges them, and labels as the reference lowers them. Nothing of the program is imported here. -/
namespace Go.Proofs.Ytgngpdnppdbgoaa
set_option linter.unusedVariables false

/-- joined by pairs -/
inductive Conn (ps : List (Nat × Nat)) : Nat → Nat → Prop
  | refl (x : Nat) : Conn ps x x
  | step {x y z : Nat} : (x, y) ∈ ps ∨ (y, x) ∈ ps → Conn ps y z → Conn ps x z
theorem Conn.trans {ps : List (Nat × Nat)} {x y z : Nat} (h : Conn ps x y) (k : Conn ps y z) : Conn ps x z := by
  induction h with
  | refl => exact k
  | step h1 _ ih => exact .step h1 (ih k)
theorem Conn.one {ps : List (Nat × Nat)} {x y : Nat} (h : (x, y) ∈ ps ∨ (y, x) ∈ ps) : Conn ps x y := .step h (.refl y)
theorem Conn.symm {ps : List (Nat × Nat)} {x y : Nat} (h : Conn ps x y) : Conn ps y x := by
  induction h with
  | refl => exact .refl _
  | step h1 _ ih => exact ih.trans (.one h1.symm)
theorem Conn.mono {ps qs : List (Nat × Nat)} {x y : Nat} (h : Conn ps x y) (hs : ∀ p ∈ ps, p ∈ qs) : Conn qs x y := by
  induction h with
  | refl => exact .refl _
  | step h1 _ ih => exact .step (h1.imp (hs _) (hs _)) ih
/-- what a function says of both ends of each pair, it says of all that are joined -/
theorem Conn.same {α : Type} {ps : List (Nat × Nat)} {f : Nat → α} (hf : ∀ p ∈ ps, f p.1 = f p.2) {x y : Nat} (h : Conn ps x y) : f x = f y := by
  induction h with
  | refl => rfl
  | step h1 _ ih =>
    rcases h1 with h1 | h1
    · exact (hf _ h1).trans ih
    · exact (hf _ h1).symm.trans ih

/-! ### the program's classes -/
def merge (c : Nat → Nat) (p : Nat × Nat) : Nat → Nat := fun n => if c n = c p.2 then c p.1 else c n
def cls (ps : List (Nat × Nat)) : Nat → Nat := ps.foldl merge id
theorem cls_snoc (ps : List (Nat × Nat)) (p : Nat × Nat) : cls (ps ++ [p]) = merge (cls ps) p := by unfold cls; rw [List.foldl_append]; rfl
theorem snoc_ind {α : Type} {P : List α → Prop} (h0 : P []) (h1 : ∀ l x, P l → P (l ++ [x])) (l : List α) : P l := by
  have : ∀ n (l : List α), l.length = n → P l := by
    intro n
    induction n with
    | zero => intro l hl; rw [List.length_eq_zero_iff.1 hl]; exact h0
    | succ n ih =>
      intro l hl
      have hne : l ≠ [] := by intro e; rw [e] at hl; simp at hl
      rw [← List.dropLast_concat_getLast hne]
      exact h1 _ _ (ih _ (by rw [List.length_dropLast]; omega))
  exact this _ l rfl
theorem cls_pair : ∀ (ps : List (Nat × Nat)), ∀ p ∈ ps, cls ps p.1 = cls ps p.2 := by
  refine snoc_ind (by simp) fun l q ih p hp => ?_
  rw [cls_snoc]
  unfold merge
  rcases List.mem_append.1 hp with hp | hp
  · rw [ih p hp]
  · rw [List.mem_singleton] at hp
    subst hp
    by_cases h : cls l p.1 = cls l p.2 <;> simp [h]
theorem cls_conn : ∀ (ps : List (Nat × Nat)) (n : Nat), Conn ps n (cls ps n) := by
  refine snoc_ind (fun n => .refl n) fun l q ih n => ?_
  have hm : ∀ p ∈ l, p ∈ l ++ [q] := fun p hp => List.mem_append_left _ hp
  rw [cls_snoc]
  unfold merge
  split
  · rename_i h
    have h1 := (ih n).mono hm
    rw [h] at h1
    refine h1.trans (((ih q.2).mono hm).symm.trans (Conn.trans (.one (.inr ?_)) ((ih q.1).mono hm)))
    simp
  · exact (ih n).mono hm
theorem cls_iff (ps : List (Nat × Nat)) (x y : Nat) : cls ps x = cls ps y ↔ Conn ps x y := by
  constructor
  · intro h
    have h1 := cls_conn ps x
    rw [h] at h1
    exact h1.trans (cls_conn ps y).symm
  · exact Conn.same (cls_pair ps)
/-- each class is that of itself -/
theorem cls_idem (ps : List (Nat × Nat)) (n : Nat) : cls ps (cls ps n) = cls ps n := ((cls_iff ps _ _).2 (cls_conn ps n)).symm
theorem cls_lt : ∀ (ps : List (Nat × Nat)) {b : Nat}, (∀ p ∈ ps, p.1 < b ∧ p.2 < b) → ∀ {n : Nat}, n < b → cls ps n < b := by
  intro ps b
  refine snoc_ind (P := fun ps => (∀ p ∈ ps, p.1 < b ∧ p.2 < b) → ∀ {n : Nat}, n < b → cls ps n < b) (fun _ n hn => hn) (fun l q ih hp n hn => ?_) ps
  rw [cls_snoc]
  unfold merge
  have h1 := hp q (by simp)
  have ih' := fun {n} (hn : n < b) => ih (fun p hp' => hp p (List.mem_append_left _ hp')) (n := n) hn
  split
  · exact ih' h1.1
  · exact ih' hn

/-! ### the reference's labels -/
def relax (L : Nat → Nat) (p : Nat × Nat) : Nat → Nat := fun n => if n = p.1 ∨ n = p.2 then min (L p.1) (L p.2) else L n
def round (ps : List (Nat × Nat)) (L : Nat → Nat) : Nat → Nat := ps.foldl relax L
def rounds (ps : List (Nat × Nat)) : Nat → Nat → Nat
  | 0 => id
  | r + 1 => round ps (rounds ps r)
theorem relax_le (L : Nat → Nat) (p : Nat × Nat) (n : Nat) : relax L p n ≤ L n := by
  unfold relax
  split
  · rename_i h
    rcases h with h | h <;> rw [h]
    · exact Nat.min_le_left _ _
    · exact Nat.min_le_right _ _
  · exact Nat.le_refl _
theorem round_le : ∀ (ps : List (Nat × Nat)) (L : Nat → Nat) (n : Nat), round ps L n ≤ L n
  | [], L, n => Nat.le_refl _
  | p :: r, L, n => Nat.le_trans (round_le r (relax L p) n) (relax_le L p n)
theorem relax_mono {L M : Nat → Nat} (h : ∀ n, L n ≤ M n) (p : Nat × Nat) (n : Nat) : relax L p n ≤ relax M p n := by
  unfold relax
  have h1 := h p.1
  have h2 := h p.2
  have h3 := h n
  split <;> omega
theorem round_pair : ∀ (ps : List (Nat × Nat)) (L : Nat → Nat) (p : Nat × Nat), p ∈ ps → round ps L p.1 ≤ min (L p.1) (L p.2) ∧ round ps L p.2 ≤ min (L p.1) (L p.2)
  | q :: r, L, p, hp => by
    rcases List.mem_cons.1 hp with rfl | hp
    · have h1 := round_le r (relax L p) p.1
      have h2 := round_le r (relax L p) p.2
      have e1 : relax L p p.1 = min (L p.1) (L p.2) := by unfold relax; simp
      have e2 : relax L p p.2 = min (L p.1) (L p.2) := by unfold relax; simp
      rw [e1] at h1
      rw [e2] at h2
      exact ⟨h1, h2⟩
    · have h := round_pair r (relax L q) p hp
      have h1 := relax_le L q p.1
      have h2 := relax_le L q p.2
      have e : round (q :: r) L = round r (relax L q) := rfl
      rw [e]
      omega
theorem relax_conn {qs : List (Nat × Nat)} {L : Nat → Nat} (h : ∀ n, Conn qs n (L n)) {p : Nat × Nat} (hp : p ∈ qs) (n : Nat) : Conn qs n (relax L p n) := by
  unfold relax
  split
  · rename_i hn
    have hc : Conn qs p.1 p.2 := .one (.inl hp)
    have key : ∀ z, z = p.1 ∨ z = p.2 → Conn qs n z := by
      intro z hz
      rcases hn with hn | hn <;> rcases hz with hz | hz <;> rw [hn, hz]
      · exact .refl _
      · exact hc
      · exact hc.symm
      · exact .refl _
    rcases Nat.le_total (L p.1) (L p.2) with hl | hl
    · rw [Nat.min_eq_left hl]; exact (key _ (.inl rfl)).trans (h _)
    · rw [Nat.min_eq_right hl]; exact (key _ (.inr rfl)).trans (h _)
  · exact h n
theorem round_conn {qs : List (Nat × Nat)} : ∀ (ps : List (Nat × Nat)) (L : Nat → Nat), (∀ p ∈ ps, p ∈ qs) → (∀ n, Conn qs n (L n)) → ∀ n, Conn qs n (round ps L n)
  | [], L, _, h, n => h n
  | p :: r, L, hs, h, n => round_conn r (relax L p) (fun q hq => hs q (List.mem_cons_of_mem _ hq)) (relax_conn h (hs p (List.mem_cons_self ..))) n
theorem rounds_conn (ps : List (Nat × Nat)) : ∀ (r n : Nat), Conn ps n (rounds ps r n)
  | 0, n => .refl n
  | r + 1, n => round_conn ps _ (fun _ h => h) (rounds_conn ps r) n
theorem rounds_le (ps : List (Nat × Nat)) (r n : Nat) : rounds ps (r + 1) n ≤ rounds ps r n := round_le _ _ _
theorem rounds_self (ps : List (Nat × Nat)) : ∀ (r n : Nat), rounds ps r n ≤ n
  | 0, n => Nat.le_refl _
  | r + 1, n => Nat.le_trans (rounds_le ps r n) (rounds_self ps r n)
/-- a least one of those that are joined with a number -/
theorem least_conn (ps : List (Nat × Nat)) (x : Nat) : ∃ m, Conn ps x m ∧ ∀ y, Conn ps x y → m ≤ y := by
  have : ∀ n, (∃ y, y ≤ n ∧ Conn ps x y) → ∃ m, Conn ps x m ∧ ∀ y, Conn ps x y → m ≤ y := by
    intro n
    induction n with
    | zero =>
      rintro ⟨y, hy, hc⟩
      obtain rfl : y = 0 := by omega
      exact ⟨0, hc, fun _ _ => Nat.zero_le _⟩
    | succ n ih =>
      rintro ⟨y, hy, hc⟩
      by_cases h : ∃ y, y ≤ n ∧ Conn ps x y
      · exact ih h
      · refine ⟨y, hc, fun z hz => ?_⟩
        apply Nat.le_of_not_lt
        intro hlt
        exact h ⟨z, by omega, hz⟩
  exact this x ⟨x, Nat.le_refl _, .refl _⟩
/-- on a way from a good number to one that is not there is a pair of both -/
theorem cross {ps : List (Nat × Nat)} {P : Nat → Prop} {x y : Nat} (h : Conn ps x y) (hx : P x) (hy : ¬ P y) : ∃ a b, ((a, b) ∈ ps ∨ (b, a) ∈ ps) ∧ P a ∧ ¬ P b := by
  classical
  induction h with
  | refl => exact absurd hx hy
  | @step x z y h1 _ ih =>
    by_cases hz : P z
    · exact ih hz hy
    · exact ⟨x, z, h1, hx, hz⟩
theorem countP_lt {α : Type} {p q : α → Bool} : ∀ {l : List α}, (∀ x ∈ l, p x = true → q x = true) → (∃ x ∈ l, p x = false ∧ q x = true) → l.countP p < l.countP q
  | [], _, ⟨x, hx, _⟩ => by cases hx
  | y :: l, hs, ⟨x, hx, h1, h2⟩ => by
    have hm : ∀ z ∈ l, p z = true → q z = true := fun z hz => hs z (List.mem_cons_of_mem _ hz)
    have hle : l.countP p ≤ l.countP q := List.countP_mono_left hm
    rw [List.countP_cons, List.countP_cons]
    rcases List.mem_cons.1 hx with rfl | hx
    · simp only [h1, h2, Bool.false_eq_true, if_false, if_true]
      omega
    · have := countP_lt hm ⟨x, hx, h1, h2⟩
      have h3 := hs y (List.mem_cons_self ..)
      cases hp : p y
      · simp only [Bool.false_eq_true, if_false]; omega
      · simp only [h3 hp, if_true]; omega
/-- labels of those that are joined, and the least one of them -/
structure Least (ps : List (Nat × Nat)) (x m : Nat) : Prop where
  conn : Conn ps x m
  least : ∀ y, Conn ps x y → m ≤ y
theorem Least.label {ps : List (Nat × Nat)} {x m : Nat} (h : Least ps x m) {y : Nat} (hy : Conn ps x y) (r : Nat) : m ≤ rounds ps r y :=
  h.least _ (hy.trans (rounds_conn ps r y))
theorem Least.own {ps : List (Nat × Nat)} {x m : Nat} (h : Least ps x m) (r : Nat) : rounds ps r m = m :=
  Nat.le_antisymm (rounds_self ps r m) (h.label h.conn r)
theorem Least.stays {ps : List (Nat × Nat)} {x m : Nat} (h : Least ps x m) {y r : Nat} (hy : Conn ps x y) (hr : rounds ps r y = m) : rounds ps (r + 1) y = m :=
  Nat.le_antisymm (hr ▸ rounds_le ps r y) (h.label hy _)
theorem Least.pair {ps : List (Nat × Nat)} {x m : Nat} (h : Least ps x m) {a b r : Nat} (hp : (a, b) ∈ ps ∨ (b, a) ∈ ps) (ha : Conn ps x a) (hr : rounds ps r a = m) : rounds ps (r + 1) b = m ∧ rounds ps (r + 1) a = m := by
  have hb : Conn ps x b := ha.trans (.one hp)
  refine ⟨Nat.le_antisymm ?_ (h.label hb _), h.stays ha hr⟩
  show round ps (rounds ps r) b ≤ m
  rcases hp with hp | hp
  · have := (round_pair ps (rounds ps r) _ hp).2
    simp only at this
    omega
  · have := (round_pair ps (rounds ps r) _ hp).1
    simp only at this
    omega
/-- as many pairs as there were rounds have the least label, if not all labels are the least one -/
theorem Least.pairs {ps : List (Nat × Nat)} {x m : Nat} (h : Least ps x m) : ∀ r, (∃ y, Conn ps x y ∧ rounds ps r y ≠ m) → r ≤ ps.countP fun p => rounds ps r p.1 == m && rounds ps r p.2 == m
  | 0, _ => Nat.zero_le _
  | r + 1, ⟨y, hy, hne⟩ => by
    have hne' : rounds ps r y ≠ m := fun e => hne (h.stays hy e)
    have ih := h.pairs r ⟨y, hy, hne'⟩
    have hmy : Conn ps m y := h.conn.symm.trans hy
    obtain ⟨a, b, hp, ha, hb⟩ := cross (P := fun z => rounds ps r z = m) hmy (h.own r) hne'
    have hac : Conn ps x a := by have := rounds_conn ps r a; rw [ha] at this; exact h.conn.trans this.symm
    have hn := h.pair hp hac ha
    refine Nat.lt_of_le_of_lt ih (countP_lt ?_ ?_)
    · intro p _ hpp
      simp only [Bool.and_eq_true, beq_iff_eq] at hpp ⊢
      have key : ∀ z, rounds ps r z = m → rounds ps (r + 1) z = m := fun z hz => h.stays (by have := rounds_conn ps r z; rw [hz] at this; exact h.conn.trans this.symm) hz
      exact ⟨key _ hpp.1, key _ hpp.2⟩
    · rcases hp with hp | hp
      · exact ⟨(a, b), hp, by simp [hb], by simp [hn.1, hn.2]⟩
      · exact ⟨(b, a), hp, by simp [hb], by simp [hn.1, hn.2]⟩
/-- after as many rounds as there are pairs, all that are joined have the least label -/
theorem Least.done {ps : List (Nat × Nat)} {x m : Nat} (h : Least ps x m) {y : Nat} (hy : Conn ps x y) : rounds ps ps.length y = m := by
  apply Classical.byContradiction
  intro hne
  have h1 := h.pairs ps.length ⟨y, hy, hne⟩
  have hmy : Conn ps m y := h.conn.symm.trans hy
  obtain ⟨a, b, hp, ha, hb⟩ := cross (P := fun z => rounds ps ps.length z = m) hmy (h.own _) hne
  have h2 : (ps.countP fun p => rounds ps ps.length p.1 == m && rounds ps ps.length p.2 == m) = ps.length := Nat.le_antisymm List.countP_le_length h1
  rw [List.countP_eq_length] at h2
  rcases hp with hp | hp
  · have := h2 _ hp
    simp only [Bool.and_eq_true, beq_iff_eq] at this
    exact hb this.2
  · have := h2 _ hp
    simp only [Bool.and_eq_true, beq_iff_eq] at this
    exact hb this.1
theorem rounds_iff (ps : List (Nat × Nat)) (x y : Nat) : rounds ps ps.length x = rounds ps ps.length y ↔ Conn ps x y := by
  constructor
  · intro h
    have h1 := rounds_conn ps ps.length x
    rw [h] at h1
    exact h1.trans (rounds_conn ps ps.length y).symm
  · intro h
    obtain ⟨m, h1, h2⟩ := least_conn ps x
    rw [Least.done ⟨h1, h2⟩ (.refl x), Least.done ⟨h1, h2⟩ h]
/-- both sides tell the same -/
theorem labels_eq (ps : List (Nat × Nat)) (x y : Nat) : (rounds ps ps.length x = rounds ps ps.length y) ↔ (cls ps x = cls ps y) := by rw [rounds_iff, cls_iff]
theorem relax_lt {L : Nat → Nat} {b : Nat} (h : ∀ n, n < b → L n < b) {p : Nat × Nat} (h1 : p.1 < b) (h2 : p.2 < b) (n : Nat) (hn : n < b) : relax L p n < b := Nat.lt_of_le_of_lt (relax_le L p n) (h n hn)
end Go.Proofs.Ytgngpdnppdbgoaa
