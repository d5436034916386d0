/- In how many ways chains come to an element and go on from it; the longest chains. Nothing of the program is imported here. -/
import Derived.Test.YtgngpdnppdbgoaaChain
namespace Go.Proofs.Ytgngpdnppdbgoaa
set_option linter.unusedVariables false
set_option linter.unusedSectionVars false
section
variable {α : Type} [DecidableEq α]

/-- how many chains of so many elements go on from an element -/
def dnC (ms : List α) (bef : α → α → Bool) (f : Nat) (x : α) : Nat := (chains ms bef f (some x)).length
/-- how many chains of so many elements, behind what came before, come to an element -/
def upO (ms : List α) (bef : α → α → Bool) : Nat → Option α → α → Nat
  | 0, o, x => if x ∈ ms ∧ aft bef o x = true then 1 else 0
  | j + 1, o, x => (ms.map fun y => if aft bef o y = true then upO ms bef j (some y) x else 0).sum
theorem chains_len (ms : List α) (bef : α → α → Bool) (f : Nat) (o : Option α) : (chains ms bef (f + 1) o).length = (ms.map fun y => if aft bef o y = true then dnC ms bef f y else 0).sum := by
  show ((ms.filter (aft bef o)).flatMap _).length = _
  rw [len_flat, sum_filter]
  refine sum_congr fun y _ => ?_
  rw [List.length_map]
  rfl
theorem dnC_zero (ms : List α) (bef : α → α → Bool) (x : α) : dnC ms bef 0 x = 1 := rfl
theorem dnC_succ (ms : List α) (bef : α → α → Bool) (f : Nat) (x : α) : dnC ms bef (f + 1) x = (ms.map fun y => if bef x y = true then dnC ms bef f y else 0).sum := chains_len ms bef f (some x)
/-- the last step apart -/
theorem upO_snoc (ms : List α) (bef : α → α → Bool) {x : α} (hx : x ∈ ms) : ∀ (j : Nat) (o : Option α), upO ms bef (j + 1) o x = (ms.map fun y => if bef y x = true then upO ms bef j o y else 0).sum
  | 0, o => by
    show (ms.map fun y => if aft bef o y = true then upO ms bef 0 (some y) x else 0).sum = _
    refine sum_congr fun y hy => ?_
    show (if aft bef o y = true then (if x ∈ ms ∧ bef y x = true then 1 else 0) else 0) = if bef y x = true then (if y ∈ ms ∧ aft bef o y = true then 1 else 0) else 0
    by_cases h1 : aft bef o y = true <;> by_cases h2 : bef y x = true <;> simp [h1, h2, hx, hy]
  | j + 1, o => by
    show (ms.map fun z => if aft bef o z = true then upO ms bef (j + 1) (some z) x else 0).sum = _
    have e1 : (ms.map fun z => if aft bef o z = true then upO ms bef (j + 1) (some z) x else 0).sum = (ms.map fun z => (ms.map fun y => if aft bef o z = true then (if bef y x = true then upO ms bef j (some z) y else 0) else 0).sum).sum := by
      refine sum_congr fun z _ => ?_
      by_cases h : aft bef o z = true
      · simp only [if_pos h]
        exact upO_snoc ms bef hx j (some z)
      · simp only [if_neg h]
        exact (sum_zero fun _ _ => rfl).symm
    rw [e1, sum_swap]
    refine sum_congr fun y _ => ?_
    by_cases h : bef y x = true
    · simp only [if_pos h]
      rfl
    · simp only [if_neg h]
      exact sum_zero fun z _ => by split <;> rfl
/-- how many chains have an element at a place -/
theorem chains_at {ms : List α} {bef : α → α → Bool} (hn : ms.Nodup) (f : Nat) (x : α) : ∀ (j : Nat) (o : Option α), (chains ms bef (j + 1 + f) o).countP (fun l => l[j]? == some x) = upO ms bef j o x * dnC ms bef f x
  | 0, o => by
    rw [show 0 + 1 + f = f + 1 by omega]
    show ((ms.filter (aft bef o)).flatMap _).countP _ = _
    rw [countP_flat, sum_filter]
    have : (ms.map fun y => if aft bef o y = true then ((chains ms bef f (some y)).map (y :: ·)).countP (fun l => l[0]? == some x) else 0).sum = (ms.map fun y => if y = x then (if aft bef o x = true then dnC ms bef f x else 0) else 0).sum := by
      refine sum_congr fun y _ => ?_
      rw [countP_map']
      by_cases hyx : y = x
      · subst hyx
        simp only [List.getElem?_cons_zero, beq_self_eq_true, List.countP_true, if_true]
        rfl
      · have : ∀ l ∈ chains ms bef f (some y), ¬ (((y :: l)[0]? == some x) = true) := by
          intro l _
          simp [hyx]
        rw [List.countP_eq_zero.2 this, if_neg hyx]
        split <;> rfl
    rw [this, sum_one hn]
    unfold upO
    by_cases h1 : x ∈ ms <;> by_cases h2 : aft bef o x = true <;> simp [h1, h2]
  | j + 1, o => by
    rw [show j + 1 + 1 + f = (j + 1 + f) + 1 by omega]
    show ((ms.filter (aft bef o)).flatMap _).countP _ = _
    rw [countP_flat, sum_filter]
    show _ = (ms.map fun y => if aft bef o y = true then upO ms bef j (some y) x else 0).sum * _
    rw [← sum_mul]
    refine sum_congr fun y _ => ?_
    rw [countP_map']
    simp only [List.getElem?_cons_succ]
    by_cases h : aft bef o y = true
    · rw [if_pos h, if_pos h]
      exact chains_at hn f x j (some y)
    · rw [if_neg h, if_neg h, Nat.zero_mul]

/-! ### levels, and the longest chains -/
/-- a list in order, with a level for each element, and the greatest one -/
structure Lev (ms : List α) (bef : α → α → Bool) (lv : α → Nat) (most : Nat) : Prop where
  ir : ∀ x, bef x x = false
  tr : ∀ x y z, bef x y = true → bef y z = true → bef x z = true
  nd : ms.Nodup
  ord : Ord ms bef
  is : ∀ x ∈ ms, IsLv ms bef x (lv x)
  le : ∀ x ∈ ms, lv x ≤ most
  top : ms ≠ [] → ∃ x ∈ ms, lv x = most
  no : ms = [] → most = 0
variable {ms : List α} {bef : α → α → Bool} {lv : α → Nat} {most : Nat}
theorem Lev.pos (h : Lev ms bef lv most) {x : α} (hx : x ∈ ms) : 1 ≤ lv x := (h.is x hx).2 [] ⟨⟨hx, rfl⟩, trivial⟩
theorem Lev.up (h : Lev ms bef lv most) {x y : α} (hx : x ∈ ms) (hy : y ∈ ms) (hb : bef x y = true) : lv x + 1 ≤ lv y := by
  obtain ⟨⟨l, h1, h2⟩, -⟩ := h.is x hx
  have := (h.is y hy).2 (l ++ [x]) (by rw [isCh_snoc]; exact ⟨h1, hy, by unfold lastO; simp [aft, hb]⟩)
  rw [List.length_append, List.length_singleton] at this
  omega
/-- the level before an element: none before there is one -/
def lvO (lv : α → Nat) : Option α → Nat
  | none => 0
  | some x => lv x
theorem Lev.aftUp (h : Lev ms bef lv most) {o : Option α} (ho : ∀ x, o = some x → x ∈ ms) {y : α} (hy : y ∈ ms) (hb : aft bef o y = true) : lvO lv o + 1 ≤ lv y := by
  cases o with
  | none => exact h.pos hy
  | some x => exact h.up (ho x rfl) hy hb
/-- a chain does not go on longer than levels do -/
theorem Lev.len (h : Lev ms bef lv most) : ∀ {l : List α} {o : Option α}, (∀ x, o = some x → x ∈ ms) → lvO lv o ≤ most → IsCh ms bef o l → lvO lv o + l.length ≤ most
  | [], o, _, h1, _ => by simpa using h1
  | y :: r, o, ho, h1, hc => by
    have h2 := h.aftUp ho hc.1.1 hc.1.2
    have h3 := h.len (l := r) (o := some y) (fun x e => by injection e with e; exact e ▸ hc.1.1) (h.le y hc.1.1) hc.2
    simp only [lvO] at h3
    simp only [List.length_cons]
    omega
theorem Lev.noch (h : Lev ms bef lv most) {o : Option α} (ho : ∀ x, o = some x → x ∈ ms) {f : Nat} (h1 : lvO lv o ≤ most) (hf : most < lvO lv o + f) : chains ms bef f o = [] := by
  cases hc : chains ms bef f o with
  | nil => rfl
  | cons l r =>
    exfalso
    have hl : l ∈ chains ms bef f o := by rw [hc]; exact List.mem_cons_self ..
    obtain ⟨h2, h3⟩ := mem_chains.1 hl
    have := h.len ho h1 h3
    omega
theorem Lev.dn_zero (h : Lev ms bef lv most) {x : α} (hx : x ∈ ms) {f : Nat} (hf : most < lv x + f) : dnC ms bef f x = 0 := by
  unfold dnC
  rw [h.noch (o := some x) (fun y e => by injection e with e; exact e ▸ hx) (h.le x hx) hf]
  rfl
/-- from an element just the next level is of use -/
theorem Lev.dn_succ (h : Lev ms bef lv most) {x : α} (hx : x ∈ ms) {f : Nat} (hf : lv x + (f + 1) = most) : dnC ms bef (f + 1) x = (ms.map fun y => if lv x + 1 = lv y ∧ bef x y = true then dnC ms bef f y else 0).sum := by
  rw [dnC_succ]
  refine sum_congr fun y hy => ?_
  by_cases hb : bef x y = true
  · rw [if_pos hb]
    by_cases hl : lv x + 1 = lv y
    · rw [if_pos ⟨hl, hb⟩]
    · rw [if_neg fun e => hl e.1]
      have := h.up hx hy hb
      exact h.dn_zero hy (by omega)
  · rw [if_neg hb, if_neg fun e => hb e.2]
theorem upO_pos {ms : List α} {bef : α → α → Bool} {x : α} : ∀ {j : Nat} {o : Option α}, upO ms bef j o x ≠ 0 → ∃ l, l.length = j ∧ IsCh ms bef o (l ++ [x])
  | 0, o, h => by
    unfold upO at h
    split at h
    · rename_i hh
      exact ⟨[], rfl, hh, trivial⟩
    · exact absurd rfl h
  | j + 1, o, h => by
    have : ∃ y ∈ ms, (if aft bef o y = true then upO ms bef j (some y) x else 0) ≠ 0 := by
      apply Classical.byContradiction
      intro hn
      exact h (sum_zero fun y hy => by
        apply Classical.byContradiction
        intro h1
        exact hn ⟨y, hy, h1⟩)
    obtain ⟨y, hy, h1⟩ := this
    by_cases hb : aft bef o y = true
    · rw [if_pos hb] at h1
      obtain ⟨l, h2, h3⟩ := upO_pos h1
      exact ⟨y :: l, by simp [h2], ⟨hy, hb⟩, h3⟩
    · rw [if_neg hb] at h1
      exact absurd rfl h1
theorem Lev.up_zero (h : Lev ms bef lv most) {x : α} (hx : x ∈ ms) {j : Nat} (hj : lv x < j + 1) : upO ms bef j none x = 0 := by
  apply Classical.byContradiction
  intro hn
  obtain ⟨l, h1, h2⟩ := upO_pos hn
  have := (h.is x hx).2 l h2
  omega
/-- to an element one comes from the level before -/
theorem Lev.up_succ (h : Lev ms bef lv most) {x : α} (hx : x ∈ ms) {j : Nat} (hj : lv x = j + 2) : upO ms bef (j + 1) none x = (ms.map fun y => if lv y + 1 = lv x ∧ bef y x = true then upO ms bef j none y else 0).sum := by
  rw [upO_snoc ms bef hx]
  refine sum_congr fun y hy => ?_
  by_cases hb : bef y x = true
  · rw [if_pos hb]
    by_cases hl : lv y + 1 = lv x
    · rw [if_pos ⟨hl, hb⟩]
    · rw [if_neg fun e => hl e.1]
      have := h.up hy hx hb
      exact h.up_zero hy (by omega)
  · rw [if_neg hb, if_neg fun e => hb e.2]
/-- the longest chains, in order -/
def longs (ms : List α) (bef : α → α → Bool) (most : Nat) : List (List α) := chains ms bef most none
theorem Lev.at_ (h : Lev ms bef lv most) : ∀ {l : List α} {o : Option α} {f : Nat}, (∀ x, o = some x → x ∈ ms) → lvO lv o + f = most → l ∈ chains ms bef f o → ∀ (i : Nat) (x : α), l[i]? = some x → lv x = lvO lv o + i + 1
  | [], o, f, _, _, _, i, x, hi => by simp at hi
  | y :: r, o, f, ho, hf, hl, i, x, hi => by
    obtain ⟨h1, h2⟩ := mem_chains.1 hl
    have hy := h.aftUp ho h2.1.1 h2.1.2
    have hlen := h.len (l := r) (o := some y) (fun z e => by injection e with e; exact e ▸ h2.1.1) (h.le y h2.1.1) h2.2
    simp only [lvO] at hlen
    simp only [List.length_cons] at h1
    have hly : lv y = lvO lv o + 1 := by omega
    cases i with
    | zero =>
      rw [List.getElem?_cons_zero] at hi
      injection hi with hi
      rw [← hi]
      exact hly
    | succ i =>
      rw [List.getElem?_cons_succ] at hi
      have := h.at_ (l := r) (o := some y) (f := r.length) (fun z e => by injection e with e; exact e ▸ h2.1.1) (by simp only [lvO]; omega) (mem_chains.2 ⟨rfl, h2.2⟩) i x hi
      simp only [lvO] at this
      omega
/-- an element of a longest chain stands at its level -/
theorem Lev.has (h : Lev ms bef lv most) {l : List α} (hl : l ∈ longs ms bef most) {x : α} : x ∈ l ↔ x ∈ ms ∧ l[lv x - 1]? = some x := by
  constructor
  · intro hx
    obtain ⟨i, hi⟩ := List.mem_iff_getElem?.1 hx
    have := h.at_ (o := none) (f := most) (fun _ e => by cases e) (by simp [lvO]) hl i x hi
    simp only [lvO] at this
    refine ⟨(mem_chains.1 hl).2.mem x hx, ?_⟩
    rw [show lv x - 1 = i by omega]
    exact hi
  · rintro ⟨-, h1⟩
    exact List.mem_of_getElem? h1
/-- through an element: as many longest chains as there are ways to it, by those from it -/
def thr (ms : List α) (bef : α → α → Bool) (lv : α → Nat) (most : Nat) (x : α) : Nat := upO ms bef (lv x - 1) none x * dnC ms bef (most - lv x) x
theorem Lev.through (h : Lev ms bef lv most) {x : α} (hx : x ∈ ms) : (longs ms bef most).countP (fun l => decide (x ∈ l)) = thr ms bef lv most x := by
  have h1 := h.pos hx
  have h2 := h.le x hx
  have := chains_at (bef := bef) h.nd (most - lv x) x (lv x - 1) none
  rw [show lv x - 1 + 1 + (most - lv x) = most by omega] at this
  unfold thr
  rw [← this]
  refine List.countP_congr fun l hl => ?_
  simp only [decide_eq_true_eq, beq_iff_eq]
  rw [h.has hl]
  exact ⟨fun e => e.2, fun e => ⟨hx, e⟩⟩
/-- all longest chains begin at the first level -/
theorem Lev.count (h : Lev ms bef lv most) (hne : ms ≠ []) : (longs ms bef most).length = (ms.map fun x => if lv x = 1 then thr ms bef lv most x else 0).sum := by
  obtain ⟨z, hz, hzm⟩ := h.top hne
  have hm := h.pos hz
  obtain ⟨m, rfl⟩ : ∃ m, most = m + 1 := ⟨most - 1, by omega⟩
  unfold longs
  rw [chains_len]
  refine sum_congr fun x hx => ?_
  rw [if_pos (show aft bef none x = true from rfl)]
  have h1 := h.pos hx
  by_cases hl : lv x = 1
  · rw [if_pos hl]
    unfold thr
    rw [hl, show upO ms bef (1 - 1) none x = 1 from if_pos ⟨hx, rfl⟩, Nat.one_mul, Nat.add_sub_cancel]
  · rw [if_neg hl]
    exact h.dn_zero hx (by omega)
theorem Lev.count_nil (h : Lev ms bef lv most) (he : ms = []) : longs ms bef most = [[]] := by
  unfold longs
  rw [h.no he]
  rfl
/-- there is a longest chain -/
theorem Lev.exists_ (h : Lev ms bef lv most) : ∃ l, l ∈ longs ms bef most := by
  by_cases he : ms = []
  · exact ⟨[], by rw [h.count_nil he]; exact List.mem_singleton.2 rfl⟩
  · obtain ⟨z, hz, hzm⟩ := h.top he
    obtain ⟨⟨l, h1, h2⟩, -⟩ := h.is z hz
    exact ⟨l ++ [z], mem_chains.2 ⟨by rw [List.length_append, List.length_singleton]; omega, h1⟩⟩
/-- no chain is longer -/
theorem Lev.longest (h : Lev ms bef lv most) {l : List α} (hl : IsCh ms bef none l) : l.length ≤ most := by
  have := h.len (o := none) (fun _ e => by cases e) (by simp [lvO]) hl
  simpa [lvO] using this
theorem Lev.over (h : Lev ms bef lv most) : chains ms bef (most + 1) none = [] := h.noch (fun _ e => by cases e) (by simp [lvO]) (by simp [lvO])

/-! ### the first longest chain, by one look over the list -/
def firstGo (bef : α → α → Bool) (lv dn : α → Nat) : List α → Nat → Option α → List α
  | [], _, _ => []
  | x :: r, n, o => if ((decide (0 < dn x) && decide (lv x = n + 1)) && aft bef o x) = true then x :: firstGo bef lv dn r (n + 1) (some x) else firstGo bef lv dn r n o
theorem Lev.first (h : Lev ms bef lv most) {dn : α → Nat} (hdn : ∀ x ∈ ms, dn x = dnC ms bef (most - lv x) x) : ∀ (r l : List α) (o : Option α) (f : Nat), ms = l ++ r → (∀ x, o = some x → x ∈ ms) → lvO lv o + f = most →
    (∀ x ∈ l, 0 < dn x → lv x = lvO lv o + 1 → aft bef o x = true → False) → chains ms bef f o ≠ [] → (chains ms bef f o).head? = some (firstGo bef lv dn r (lvO lv o) o)
  | [], l, o, f, hm, ho, hf, hno, hne => by
    cases f with
    | zero => rfl
    | succ f =>
      exfalso
      obtain ⟨c, hc⟩ := List.exists_mem_of_ne_nil _ hne
      obtain ⟨h1, h2⟩ := mem_chains.1 hc
      cases c with
      | nil => simp at h1
      | cons y c =>
        have hy := h2.1.1
        have ha := h.aftUp ho hy h2.1.2
        have hlen := h.len (l := c) (o := some y) (fun z e => by injection e with e; exact e ▸ hy) (h.le y hy) h2.2
        simp only [lvO] at hlen
        simp only [List.length_cons] at h1
        have hly : lv y = lvO lv o + 1 := by omega
        refine hno y (by rw [hm, List.append_nil] at hy; exact hy) ?_ hly h2.1.2
        rw [hdn y hy]
        unfold dnC
        exact List.length_pos_of_mem (mem_chains.2 ⟨by omega, h2.2⟩)
  | x :: r, l, o, f, hm, ho, hf, hno, hne => by
    have hx : x ∈ ms := by rw [hm]; simp
    cases f with
    | zero =>
      -- nothing more can come
      have key : ∀ (r : List α), (∀ y ∈ r, y ∈ ms) → firstGo bef lv dn r (lvO lv o) o = [] := by
        intro r
        induction r with
        | nil => intro _; rfl
        | cons y r ih =>
          intro hr
          unfold firstGo
          rw [if_neg, ih fun z hz => hr z (List.mem_cons_of_mem _ hz)]
          intro hc
          simp only [Bool.and_eq_true, decide_eq_true_eq] at hc
          have := h.le y (hr y (List.mem_cons_self ..))
          omega
      rw [key _ fun y hy => by rw [hm]; exact List.mem_append_right _ hy]
      rfl
    | succ f =>
      unfold firstGo
      by_cases hc : ((decide (0 < dn x) && decide (lv x = lvO lv o + 1)) && aft bef o x) = true
      · rw [if_pos hc]
        simp only [Bool.and_eq_true, decide_eq_true_eq] at hc
        obtain ⟨⟨h1, h2⟩, h3⟩ := hc
        have hne2 : chains ms bef f (some x) ≠ [] := by
          rw [hdn x hx] at h1
          unfold dnC at h1
          rw [show most - lv x = f by omega] at h1
          exact List.length_pos_iff.1 h1
        have ih := h.first hdn r (l ++ [x]) (some x) f (by rw [hm]; simp) (fun z e => by injection e with e; exact e ▸ hx) (by simp only [lvO]; omega) (fun y hy _ hl hb => by
          have hyb : bef x y = true := hb
          rcases List.mem_append.1 hy with hy | hy
          · have ho2 := h.ord
            rw [hm] at ho2
            have := (List.pairwise_append.1 ho2).2.2 y hy x (List.mem_cons_self ..)
            rw [hyb] at this
            cases this
          · rw [List.mem_singleton] at hy
            rw [hy, h.ir] at hyb
            cases hyb) hne2
        have hl0 : l.filter (fun y => aft bef o y && decide (chains ms bef f (some y) ≠ [])) = [] := by
          rw [List.filter_eq_nil_iff]
          intro y hy hh
          simp only [Bool.and_eq_true, decide_eq_true_eq] at hh
          have hym : y ∈ ms := by rw [hm]; exact List.mem_append_left _ hy
          have hlv : lv y = lvO lv o + 1 := by
            have h4 := h.aftUp ho hym hh.1
            apply Classical.byContradiction
            intro h5
            refine hh.2 (h.noch (fun z e => by injection e with e; exact e ▸ hym) (h.le y hym) ?_)
            simp only [lvO]
            omega
          refine hno y hy ?_ hlv hh.1
          rw [hdn y hym]
          unfold dnC
          rw [show most - lv y = f by omega]
          exact List.length_pos_iff.2 hh.2
        have e1 : chains ms bef (f + 1) o = (l.filter (aft bef o)).flatMap (fun y => (chains ms bef f (some y)).map (y :: ·)) ++ ((x :: r).filter (aft bef o)).flatMap (fun y => (chains ms bef f (some y)).map (y :: ·)) := by
          show (ms.filter (aft bef o)).flatMap _ = _
          rw [← List.flatMap_append, ← List.filter_append, ← hm]
        have e2 : (l.filter (aft bef o)).flatMap (fun y => (chains ms bef f (some y)).map (y :: ·)) = [] := by
          rw [List.flatMap_eq_nil_iff]
          intro y hy
          rw [List.mem_filter] at hy
          rw [List.map_eq_nil_iff]
          apply Classical.byContradiction
          intro h5
          have := List.filter_eq_nil_iff.1 hl0 y hy.1
          simp [hy.2, h5] at this
        rw [e1, e2, List.nil_append, List.filter_cons, if_pos h3, List.flatMap_cons, List.head?_append]
        have e3 : ((chains ms bef f (some x)).map (x :: ·)).head? = some (x :: firstGo bef lv dn r (lvO lv o + 1) (some x)) := by
          rw [List.head?_map, ih]
          simp only [lvO, h2]
          rfl
        rw [e3]
        rfl
      · rw [if_neg hc]
        refine h.first hdn r (l ++ [x]) o (f + 1) (by rw [hm]; simp) ho hf (fun y hy h1 h2 h3 => ?_) hne
        rcases List.mem_append.1 hy with hy | hy
        · exact hno y hy h1 h2 h3
        · rw [List.mem_singleton] at hy
          subst hy
          exact hc (by simp [h1, h2, h3])
theorem Lev.firstOf (h : Lev ms bef lv most) {dn : α → Nat} (hdn : ∀ x ∈ ms, dn x = dnC ms bef (most - lv x) x) : (longs ms bef most).head? = some (firstGo bef lv dn ms 0 none) := by
  obtain ⟨l, hl⟩ := h.exists_
  have := h.first hdn ms [] none most rfl (fun _ e => by cases e) (by simp [lvO]) (fun _ hx => by cases hx) (List.ne_nil_of_mem hl)
  exact this
end
end Go.Proofs.Ytgngpdnppdbgoaa
