/- Chains in a list: the longest ones, levels, in how many ways. Nothing of the program is imported here. -/
namespace Go.Proofs.Ytgngpdnppdbgoaa
set_option linter.unusedVariables false

/-! ### sums over lists -/
theorem sum_congr {α : Type} {f g : α → Nat} : ∀ {l : List α}, (∀ x ∈ l, f x = g x) → (l.map f).sum = (l.map g).sum
  | [], _ => rfl
  | x :: l, h => by
    rw [List.map_cons, List.map_cons, List.sum_cons, List.sum_cons, h x (List.mem_cons_self ..), sum_congr fun y hy => h y (List.mem_cons_of_mem _ hy)]
theorem sum_add {α : Type} (f g : α → Nat) : ∀ (l : List α), (l.map fun x => f x + g x).sum = (l.map f).sum + (l.map g).sum
  | [] => rfl
  | x :: l => by simp only [List.map_cons, List.sum_cons, sum_add f g l]; omega
theorem sum_zero {α : Type} {f : α → Nat} {l : List α} (h : ∀ x ∈ l, f x = 0) : (l.map f).sum = 0 := by
  rw [sum_congr (g := fun _ => 0) h]
  induction l with
  | nil => rfl
  | cons x l ih => simp only [List.map_cons, List.sum_cons, ih fun y hy => h y (List.mem_cons_of_mem _ hy)]
theorem sum_swap {α β : Type} (f : α → β → Nat) (l : List α) : ∀ (m : List β), (l.map fun x => (m.map (f x)).sum).sum = (m.map fun y => (l.map fun x => f x y).sum).sum
  | [] => by simp only [List.map_nil, List.sum_nil]; exact sum_zero fun _ _ => rfl
  | y :: m => by
    simp only [List.map_cons, List.sum_cons]
    rw [sum_add, sum_swap f l m]
theorem sum_mul {α : Type} (f : α → Nat) (k : Nat) : ∀ (l : List α), (l.map fun x => f x * k).sum = (l.map f).sum * k
  | [] => by simp
  | x :: l => by simp only [List.map_cons, List.sum_cons, sum_mul f k l, Nat.add_mul]
theorem sum_filter {α : Type} (p : α → Bool) (f : α → Nat) : ∀ (l : List α), ((l.filter p).map f).sum = (l.map fun x => if p x = true then f x else 0).sum
  | [] => rfl
  | x :: l => by
    rw [List.filter_cons]
    split
    · simp only [List.map_cons, List.sum_cons, sum_filter p f l, *, if_true]
    · rename_i h
      simp only [List.map_cons, List.sum_cons, sum_filter p f l, if_neg h, Nat.zero_add]
theorem sum_mono {α : Type} {f g : α → Nat} : ∀ {l : List α}, (∀ x ∈ l, f x ≤ g x) → (l.map f).sum ≤ (l.map g).sum
  | [], _ => Nat.le_refl _
  | x :: l, h => by
    have h1 := h x (List.mem_cons_self ..)
    have h2 := sum_mono fun y hy => h y (List.mem_cons_of_mem x hy)
    simp only [List.map_cons, List.sum_cons]
    omega
theorem len_flat {α β : Type} (f : α → List β) : ∀ l : List α, (l.flatMap f).length = (l.map fun x => (f x).length).sum
  | [] => rfl
  | x :: l => by rw [List.flatMap_cons, List.length_append, len_flat f l, List.map_cons, List.sum_cons]
theorem countP_flat {α β : Type} (p : β → Bool) (f : α → List β) : ∀ l : List α, (l.flatMap f).countP p = (l.map fun x => (f x).countP p).sum
  | [] => rfl
  | x :: l => by rw [List.flatMap_cons, List.countP_append, countP_flat p f l, List.map_cons, List.sum_cons]
theorem countP_map' {α β : Type} (p : β → Bool) (f : α → β) : ∀ l : List α, (l.map f).countP p = l.countP fun x => p (f x)
  | [] => rfl
  | x :: l => by rw [List.map_cons, List.countP_cons, List.countP_cons, countP_map' p f l]
theorem sum_one {α : Type} [DecidableEq α] {l : List α} (hn : l.Nodup) (x : α) (k : Nat) : (l.map fun y => if y = x then k else 0).sum = if x ∈ l then k else 0 := by
  induction l with
  | nil => rfl
  | cons y l ih =>
    rw [List.nodup_cons] at hn
    rw [List.map_cons, List.sum_cons, ih hn.2]
    by_cases h : y = x
    · subst h
      rw [if_pos rfl, if_neg hn.1, if_pos (List.mem_cons_self ..)]
      rfl
    · rw [if_neg h, Nat.zero_add]
      by_cases hx : x ∈ l
      · rw [if_pos hx, if_pos (List.mem_cons_of_mem _ hx)]
      · rw [if_neg hx, if_neg fun hm => (List.mem_cons.1 hm).elim (fun e => h e.symm) hx]

/-! ### chains -/
section
variable {α : Type}
def aft (bef : α → α → Bool) : Option α → α → Bool
  | none, _ => true
  | some x, y => bef x y
/-- a list of elements, each before the next one -/
def IsCh (ms : List α) (bef : α → α → Bool) : Option α → List α → Prop
  | _, [] => True
  | o, y :: r => (y ∈ ms ∧ aft bef o y = true) ∧ IsCh ms bef (some y) r
/-- all chains of so many elements, in order -/
def chains (ms : List α) (bef : α → α → Bool) : Nat → Option α → List (List α)
  | 0, _ => [[]]
  | f + 1, o => (ms.filter (aft bef o)).flatMap fun y => (chains ms bef f (some y)).map (y :: ·)
theorem mem_chains {ms : List α} {bef : α → α → Bool} : ∀ {f : Nat} {o : Option α} {l : List α}, l ∈ chains ms bef f o ↔ l.length = f ∧ IsCh ms bef o l
  | 0, o, l => by
    unfold chains
    rw [List.mem_singleton]
    constructor
    · rintro rfl
      exact ⟨rfl, trivial⟩
    · rintro ⟨h, -⟩
      exact List.length_eq_zero_iff.1 h
  | f + 1, o, l => by
    unfold chains
    rw [List.mem_flatMap]
    constructor
    · rintro ⟨y, hy, hl⟩
      rw [List.mem_filter] at hy
      obtain ⟨r, hr, rfl⟩ := List.mem_map.1 hl
      obtain ⟨h1, h2⟩ := mem_chains.1 hr
      exact ⟨by simp [h1], hy, h2⟩
    · rintro ⟨h1, h2⟩
      cases l with
      | nil => simp at h1
      | cons y r =>
        refine ⟨y, List.mem_filter.2 h2.1, List.mem_map.2 ⟨r, mem_chains.2 ⟨by simpa using h1, h2.2⟩, rfl⟩⟩
theorem IsCh.mem {ms : List α} {bef : α → α → Bool} : ∀ {o : Option α} {l : List α}, IsCh ms bef o l → ∀ x ∈ l, x ∈ ms
  | _, y :: r, h, x, hx => by
    rcases List.mem_cons.1 hx with rfl | hx
    · exact h.1.1
    · exact IsCh.mem h.2 x hx
/-- the last element of a list, or what came before it -/
def lastO (o : Option α) (l : List α) : Option α := match l.getLast? with
  | none => o
  | some x => some x
theorem lastO_cons (o : Option α) (y : α) (r : List α) : lastO o (y :: r) = lastO (some y) r := by
  unfold lastO
  cases r with
  | nil => rfl
  | cons z r => simp [List.getLast?_cons_cons]; rw [List.getLast?_eq_some_getLast (by simp)]
theorem isCh_append {ms : List α} {bef : α → α → Bool} : ∀ {l r : List α} {o : Option α}, IsCh ms bef o (l ++ r) ↔ IsCh ms bef o l ∧ IsCh ms bef (lastO o l) r
  | [], r, o => by simp [IsCh, lastO]
  | y :: l, r, o => by
    rw [List.cons_append, lastO_cons]
    show (_ ∧ IsCh ms bef (some y) (l ++ r)) ↔ (_ ∧ IsCh ms bef (some y) l) ∧ _
    rw [isCh_append (l := l)]
    exact ⟨fun h => ⟨⟨h.1, h.2.1⟩, h.2.2⟩, fun h => ⟨h.1.1, h.1.2, h.2⟩⟩
theorem isCh_snoc {ms : List α} {bef : α → α → Bool} {l : List α} {o : Option α} {x : α} : IsCh ms bef o (l ++ [x]) ↔ IsCh ms bef o l ∧ x ∈ ms ∧ aft bef (lastO o l) x = true := by
  rw [isCh_append]
  simp [IsCh]
theorem IsCh.free {ms : List α} {bef : α → α → Bool} {o : Option α} {l : List α} (h : IsCh ms bef o l) : IsCh ms bef none l := by
  cases l with
  | nil => trivial
  | cons y r => exact ⟨⟨h.1.1, rfl⟩, h.2⟩
theorem lastO_mem {o : Option α} {l : List α} {x : α} (h : lastO o l = some x) : x ∈ l ∨ (l = [] ∧ o = some x) := by
  unfold lastO at h
  cases hl : l.getLast? with
  | none =>
    rw [hl] at h
    rw [List.getLast?_eq_none_iff] at hl
    exact .inr ⟨hl, h⟩
  | some y =>
    rw [hl] at h
    injection h with h
    subst h
    exact .inl (List.mem_of_getLast? hl)
/-- all elements of a chain are before what is behind it -/
theorem IsCh.all {ms : List α} {bef : α → α → Bool} (tr : ∀ x y z, bef x y = true → bef y z = true → bef x z = true) : ∀ {l : List α} {o : Option α} {x : α}, IsCh ms bef o (l ++ [x]) → ∀ y ∈ l, bef y x = true
  | y :: l, o, x, h, z, hz => by
    rw [List.cons_append] at h
    have h2 : IsCh ms bef (some y) (l ++ [x]) := h.2
    rcases List.mem_cons.1 hz with rfl | hz
    · cases l with
      | nil => exact h2.1.2
      | cons u l => exact tr _ _ _ h2.1.2 (IsCh.all tr h2 u (List.mem_cons_self ..))
    · exact IsCh.all tr h2 z hz
/-- a chain of elements before x can be continued by x -/
theorem IsCh.put {ms : List α} {bef : α → α → Bool} {l : List α} {x : α} (h : IsCh ms bef none l) (hx : x ∈ ms) (hb : ∀ y ∈ l, bef y x = true) : IsCh ms bef none (l ++ [x]) := by
  rw [isCh_snoc]
  refine ⟨h, hx, ?_⟩
  cases hl : lastO none l with
  | none => rfl
  | some y =>
    rcases lastO_mem hl with h1 | ⟨-, h1⟩
    · exact hb y h1
    · cases h1

/-! ### levels -/
/-- so many elements have longest chains with an element as the last one -/
def IsLv (ms : List α) (bef : α → α → Bool) (x : α) (n : Nat) : Prop :=
  (∃ l, IsCh ms bef none (l ++ [x]) ∧ l.length + 1 = n) ∧ ∀ l, IsCh ms bef none (l ++ [x]) → l.length + 1 ≤ n
theorem IsLv.eq {ms : List α} {bef : α → α → Bool} {x : α} {n m : Nat} (h : IsLv ms bef x n) (k : IsLv ms bef x m) : n = m := by
  obtain ⟨⟨l, h1, h2⟩, h3⟩ := h
  obtain ⟨⟨r, k1, k2⟩, k3⟩ := k
  have := h3 r k1
  have := k3 l h1
  omega
/-- so many elements have longest chains of elements that are good -/
def MaxIn (ms : List α) (bef : α → α → Bool) (P : α → Prop) (n : Nat) : Prop :=
  (∃ l, IsCh ms bef none l ∧ (∀ y ∈ l, P y) ∧ l.length = n) ∧ ∀ l, IsCh ms bef none l → (∀ y ∈ l, P y) → l.length ≤ n
theorem MaxIn.lv {ms : List α} {bef : α → α → Bool} (tr : ∀ x y z, bef x y = true → bef y z = true → bef x z = true) {x : α} (hx : x ∈ ms) {n : Nat} (h : MaxIn ms bef (fun y => bef y x = true) n) : IsLv ms bef x (1 + n) := by
  obtain ⟨⟨l, h1, h2, h3⟩, h4⟩ := h
  refine ⟨⟨l, h1.put hx h2, by omega⟩, fun r hr => ?_⟩
  have := h4 r (isCh_snoc.1 hr).1 (IsCh.all tr hr)
  omega
/-- the least levels as the reference computes them: each from those before -/
def levStep (bef : α → α → Bool) (acc : List (α × Nat)) (x : α) : Nat := acc.foldl (fun n p => if bef p.1 x = true then max n (p.2 + 1) else n) 1
def levGo (bef : α → α → Bool) (ms : List α) : List (α × Nat) := ms.foldl (fun acc x => acc ++ [(x, levStep bef acc x)]) []
theorem levGo_snoc (bef : α → α → Bool) (ms : List α) (x : α) : levGo bef (ms ++ [x]) = levGo bef ms ++ [(x, levStep bef (levGo bef ms) x)] := by
  unfold levGo; rw [List.foldl_append]; rfl
theorem foldl_ge (bef : α → α → Bool) (x : α) : ∀ (acc : List (α × Nat)) (n : Nat), n ≤ acc.foldl (fun n p => if bef p.1 x = true then max n (p.2 + 1) else n) n ∧ ∀ p ∈ acc, bef p.1 x = true → p.2 + 1 ≤ acc.foldl (fun n p => if bef p.1 x = true then max n (p.2 + 1) else n) n
  | [], n => ⟨Nat.le_refl _, fun p hp => by cases hp⟩
  | q :: acc, n => by
    rw [List.foldl_cons]
    obtain ⟨h1, h2⟩ := foldl_ge bef x acc (if bef q.1 x = true then max n (q.2 + 1) else n)
    have h3 : n ≤ if bef q.1 x = true then max n (q.2 + 1) else n := by split <;> omega
    refine ⟨Nat.le_trans h3 h1, fun p hp hb => ?_⟩
    rcases List.mem_cons.1 hp with rfl | hp
    · rw [if_pos hb] at h1
      refine Nat.le_trans (Nat.le_max_right n _) ?_
      rw [if_pos hb]
      exact h1
    · exact h2 p hp hb
theorem foldl_at (bef : α → α → Bool) (x : α) : ∀ (acc : List (α × Nat)) (n : Nat), acc.foldl (fun n p => if bef p.1 x = true then max n (p.2 + 1) else n) n = n ∨ ∃ p ∈ acc, bef p.1 x = true ∧ acc.foldl (fun n p => if bef p.1 x = true then max n (p.2 + 1) else n) n = p.2 + 1
  | [], n => .inl rfl
  | q :: acc, n => by
    rw [List.foldl_cons]
    rcases foldl_at bef x acc (if bef q.1 x = true then max n (q.2 + 1) else n) with h | ⟨p, hp, hb, h⟩
    · rw [h]
      by_cases hq : bef q.1 x = true
      · rw [if_pos hq]
        rcases Nat.le_total n (q.2 + 1) with hl | hl
        · exact .inr ⟨q, List.mem_cons_self .., hq, Nat.max_eq_right hl⟩
        · exact .inl (Nat.max_eq_left hl)
      · rw [if_neg hq]
        exact .inl rfl
    · exact .inr ⟨p, List.mem_cons_of_mem _ hp, hb, h⟩
theorem levGo_fst (bef : α → α → Bool) (ms : List α) : (levGo bef ms).map (·.1) = ms := by
  have : ∀ (r l : List α), (levGo bef l).map (·.1) = l → (levGo bef (l ++ r)).map (·.1) = l ++ r := by
    intro r
    induction r with
    | nil => intro l h; simpa using h
    | cons x r ih =>
      intro l h
      rw [show l ++ x :: r = (l ++ [x]) ++ r by simp]
      refine ih _ ?_
      rw [levGo_snoc, List.map_append, h]
      rfl
  exact this ms [] rfl
/-- elements that are before another one come earlier in the list -/
def Ord (ms : List α) (bef : α → α → Bool) : Prop := ms.Pairwise fun x y => bef y x = false
theorem IsCh.sub {ms ns : List α} {bef : α → α → Bool} (hs : ∀ x ∈ ms, x ∈ ns) : ∀ {o : Option α} {l : List α}, IsCh ms bef o l → IsCh ns bef o l
  | _, [], _ => trivial
  | _, y :: r, h => ⟨⟨hs y h.1.1, h.1.2⟩, IsCh.sub hs h.2⟩
/-- a chain that ends with an element of the list so far is one of the list so far -/
theorem IsCh.early {l r : List α} {bef : α → α → Bool} (ir : ∀ x, bef x x = false) (tr : ∀ x y z, bef x y = true → bef y z = true → bef x z = true) (ho : Ord (l ++ r) bef) {c : List α} {x : α} (hx : x ∈ l) (h : IsCh (l ++ r) bef none (c ++ [x])) : IsCh l bef none (c ++ [x]) := by
  have hb := IsCh.all tr h
  have key : ∀ y ∈ c, y ∈ l := by
    intro y hy
    have h1 : y ∈ l ++ r := h.mem y (List.mem_append_left _ hy)
    rcases List.mem_append.1 h1 with h2 | h2
    · exact h2
    · have h3 := (List.pairwise_append.1 ho).2.2 x hx y h2
      rw [hb y hy] at h3
      cases h3
  have : ∀ {o : Option α} {d : List α}, (∀ y ∈ d, y ∈ l) → IsCh (l ++ r) bef o d → IsCh l bef o d := by
    intro o d
    induction d generalizing o with
    | nil => intro _ _; trivial
    | cons z d ih => intro hd hc; exact ⟨⟨hd z (List.mem_cons_self ..), hc.1.2⟩, ih (fun y hy => hd y (List.mem_cons_of_mem _ hy)) hc.2⟩
  refine this (fun y hy => ?_) h
  rcases List.mem_append.1 hy with hy | hy
  · exact key y hy
  · rw [List.mem_singleton] at hy; exact hy ▸ hx
theorem levGo_lv {bef : α → α → Bool} (ir : ∀ x, bef x x = false) (tr : ∀ x y z, bef x y = true → bef y z = true → bef x z = true) (ms : List α) (ho : Ord ms bef) : ∀ p ∈ levGo bef ms, IsLv ms bef p.1 p.2 := by
  have : ∀ (r l : List α), Ord (l ++ r) bef → (∀ p ∈ levGo bef l, IsLv (l ++ r) bef p.1 p.2) → ∀ p ∈ levGo bef (l ++ r), IsLv (l ++ r) bef p.1 p.2 := by
    intro r
    induction r with
    | nil => intro l _ h p hp; rw [List.append_nil] at hp ⊢; rw [List.append_nil] at h; exact h p hp
    | cons x r ih =>
      intro l ho h
      have e : l ++ x :: r = (l ++ [x]) ++ r := by simp
      rw [e] at ho h ⊢
      refine ih _ ho fun p hp => ?_
      rw [levGo_snoc] at hp
      rcases List.mem_append.1 hp with hp | hp
      · exact h p hp
      · rw [List.mem_singleton] at hp
        subst hp
        have hfst := levGo_fst bef l
        have hxm : x ∈ l ++ [x] := by simp
        obtain ⟨g1, g2⟩ := foldl_ge bef x (levGo bef l) 1
        refine ⟨?_, fun c hc => ?_⟩
        · show ∃ c, IsCh _ bef none (c ++ [x]) ∧ c.length + 1 = levStep bef (levGo bef l) x
          rcases foldl_at bef x (levGo bef l) 1 with h1 | ⟨p, hp, hb, h1⟩
          · exact ⟨[], ⟨⟨List.mem_append_left _ hxm, rfl⟩, trivial⟩, by unfold levStep; rw [h1]; rfl⟩
          · obtain ⟨⟨c, h2, h3⟩, -⟩ := h p hp
            refine ⟨c ++ [p.1], ?_, by unfold levStep; rw [h1, List.length_append, List.length_singleton, h3]⟩
            rw [isCh_snoc]
            refine ⟨h2, List.mem_append_left _ hxm, ?_⟩
            unfold lastO
            simp [aft, hb]
        · show c.length + 1 ≤ levStep bef (levGo bef l) x
          rcases List.eq_nil_or_concat c with rfl | ⟨c', y, rfl⟩
          · exact g1
          · rw [List.concat_eq_append] at hc ⊢
            have hyx : bef y x = true := by
              have := IsCh.all tr hc y (by simp)
              exact this
            have hc1 := (isCh_snoc.1 hc).1
            have hym : y ∈ (l ++ [x]) ++ r := hc1.mem y (by simp)
            have hyl : y ∈ l := by
              rcases List.mem_append.1 hym with h1 | h1
              · rcases List.mem_append.1 h1 with h1 | h1
                · exact h1
                · rw [List.mem_singleton] at h1
                  rw [h1, ir] at hyx
                  cases hyx
              · have := (List.pairwise_append.1 ho).2.2 x hxm y h1
                rw [hyx] at this
                cases this
            rw [← hfst] at hyl
            obtain ⟨p, hp, rfl⟩ := List.mem_map.1 hyl
            have := (h p hp).2 c' hc1
            have := g2 p hp hyx
            unfold levStep
            simp only [List.length_append, List.length_singleton]
            omega
  exact this ms [] ho (fun p hp => by simp [levGo] at hp)
end
end Go.Proofs.Ytgngpdnppdbgoaa
