/- Cheapest sides of a valid list: what a greatest flow tells of them. Nothing of the program is imported here. A list with Left and Right exchanged, and one whose links are turned. Nothing of the program is imported here. A list with one link more, or with more trust in a link; groups with one link more in the drop. Nothing of the program is imported here. The reference's sides: all of them, by bits, and the cheapest ones. Nothing of the program is imported here. The least one of the cheapest sides, without a flow: sides have a least one by what they have in common. Nothing of the program is imported here. Chains of names. Nothing of the program is imported here. Flows as they are given: when they are right, and how great; bounds of what is kept. Nothing of the program is imported here. The beginning of the greatest flow, name by name and link by link. Nothing of the program is imported here. -/
import Derived.Test.YtbcpmmpakkaidaaGreatPlA
namespace Go.Proofs.YtbcpmmpakkaidaaGreat
set_option linter.unusedVariables false
def Side (l : NL) (S : Nat → Bool) : Prop := IsSide l.A l.B S
def Cheap (l : NL) (S : Nat → Bool) : Prop := Side l S ∧ ∀ T, Side l T → cutC l.L S ≤ cutC l.L T
def LeastP (l : NL) (u : Nat) : Prop := ∀ S, Cheap l S → S u = true
structure MaxFlow (l : NL) (f : Nat → Int) : Prop where
  right : Right l.N l.L f l.A l.B
  side : ∃ S, Side l S ∧ Shut l.L f S
variable {l : NL} {f : Nat → Int}
theorem MaxFlow.le (m : MaxFlow l f) (g : Good l) {S : Nat → Bool} (h : Side l S) : greatF l.N l.L f l.A ≤ cutC l.L S := great_le g.net m.right h
theorem MaxFlow.cheap_iff (m : MaxFlow l f) (g : Good l) {S : Nat → Bool} (h : Side l S) : Cheap l S ↔ Shut l.L f S := by
  obtain ⟨S0, h0, hs0⟩ := m.side
  have e0 := (great_shut g.net m.right h0).2 hs0
  constructor
  · intro hc
    have h1 := hc.2 S0 h0
    have h2 := m.le g h
    exact (great_shut g.net m.right h).1 (by omega)
  · intro hs
    have e1 := (great_shut g.net m.right h).2 hs
    exact ⟨h, fun T hT => by have := m.le g hT; omega⟩
theorem MaxFlow.cost (m : MaxFlow l f) (g : Good l) {S : Nat → Bool} (h : Cheap l S) : greatF l.N l.L f l.A = cutC l.L S :=
  (great_shut g.net m.right h.1).2 ((m.cheap_iff g h.1).1 h)
theorem MaxFlow.some (m : MaxFlow l f) (g : Good l) : ∃ S, Cheap l S := by
  obtain ⟨S, h, hs⟩ := m.side
  exact ⟨S, (m.cheap_iff g h).2 hs⟩
open Classical in
theorem MaxFlow.least (m : MaxFlow l f) (g : Good l) {u : Nat} (hu : u < l.N) : Rch l.L [] (leftP l.L f) (natL l.left) u ↔ LeastP l u := by
  constructor
  · intro h S hS
    exact rch_in g.net ((m.cheap_iff g hS.1).1 hS) (fun v hv => hS.1.1 v (NL.mA.2 hv)) h
  · intro h
    obtain ⟨S0, h0, hs0⟩ := m.side
    have hS : Side l (fun v => decide (Rch l.L [] (leftP l.L f) (natL l.left) v)) := by
      refine ⟨fun v hv => decide_eq_true (.root (NL.mA.1 hv)), fun v hv => decide_eq_false fun hr => ?_⟩
      have := rch_in g.net hs0 (fun w hw => h0.1 w (NL.mA.2 hw)) hr
      rw [h0.2 v hv] at this
      cases this
    have := h _ ((m.cheap_iff g hS).2 (rch_shut g.net (src := natL l.left) fun v _ => decide_eq_true_iff))
    exact decide_eq_true_iff.1 this
theorem sub4 {t : Int} (ht : 0 ≤ t) (p q r s : Bool) : ((if (p && r) ≠ (q && s) then t else 0) + if (p || r) ≠ (q || s) then t else 0) ≤ (if p ≠ q then t else 0) + if r ≠ s then t else 0 := by
  cases p <;> cases q <;> cases r <;> cases s <;> simp <;> omega
theorem cut_parts (L : List Lk) (S T : Nat → Bool) : cutC L (fun u => S u && T u) + cutC L (fun u => S u || T u) ≤ cutC L S + cutC L T ∨ ∃ i, i < L.length ∧ (lkAt L i).t < 0 := by
  by_cases h : ∃ i, i < L.length ∧ (lkAt L i).t < 0
  · exact .inr h
  · left
    unfold cutC
    rw [← isum_add, ← isum_add]
    refine isum_mono fun i hi => ?_
    have ht : 0 ≤ (lkAt L i).t := Int.not_lt.1 fun hh => h ⟨i, List.mem_range.1 hi, hh⟩
    exact sub4 ht _ _ _ _
theorem Good.cut_parts (g : Good l) (S T : Nat → Bool) : cutC l.L (fun u => S u && T u) + cutC l.L (fun u => S u || T u) ≤ cutC l.L S + cutC l.L T := by
  rcases Go.Proofs.YtbcpmmpakkaidaaGreat.cut_parts l.L S T with h | ⟨i, hi, h⟩
  · exact h
  · have := g.net.t i hi
    omega
theorem Side.inter {S T : Nat → Bool} (h : Side l S) (k : Side l T) : Side l fun u => S u && T u :=
  ⟨fun u hu => by dsimp only; rw [h.1 u hu, k.1 u hu]; rfl, fun u hu => by dsimp only; rw [h.2 u hu]; rfl⟩
theorem Side.union {S T : Nat → Bool} (h : Side l S) (k : Side l T) : Side l fun u => S u || T u :=
  ⟨fun u hu => by dsimp only; rw [h.1 u hu]; rfl, fun u hu => by dsimp only; rw [h.2 u hu, k.2 u hu]; rfl⟩
/-- of a side, what it has in common with a cheapest one costs no more, nor what both have together -/
theorem Good.common (g : Good l) {S T : Nat → Bool} (h : Side l S) (k : Cheap l T) : cutC l.L (fun u => S u && T u) ≤ cutC l.L S := by
  have h1 := g.cut_parts S T
  have h2 := k.2 _ (h.union k.1)
  omega
/-- a cost looks at the names alone -/
theorem Good.cut_congr (g : Good l) {S T : Nat → Bool} (h : ∀ u, u < l.N → S u = T u) : cutC l.L S = cutC l.L T := by
  unfold cutC
  refine isum_congr fun i hi => ?_
  have hi := List.mem_range.1 hi
  rw [h _ (g.net.a i hi), h _ (g.net.b i hi)]
theorem Good.side_congr (g : Good l) {S T : Nat → Bool} (h : ∀ u, u < l.N → S u = T u) (hS : Side l S) : Side l T :=
  ⟨fun u hu => by rw [← h u (g.ltA hu)]; exact hS.1 u hu, fun u hu => by rw [← h u (g.ltB hu)]; exact hS.2 u hu⟩
theorem Good.cheap_congr (g : Good l) {S T : Nat → Bool} (h : ∀ u, u < l.N → S u = T u) (hS : Cheap l S) : Cheap l T :=
  ⟨g.side_congr h hS.1, fun U hU => by rw [← g.cut_congr h]; exact hS.2 U hU⟩
open Classical in
/-- the least one and the greatest one are cheapest sides -/
theorem MaxFlow.cheap_least (m : MaxFlow l f) (g : Good l) : Cheap l fun u => decide (LeastP l u) := by
  obtain ⟨S0, h0, hs0⟩ := m.side
  have hS : Side l (fun v => decide (LeastP l v)) := by
    refine ⟨fun v hv => decide_eq_true fun S hS => hS.1.1 v hv, fun v hv => decide_eq_false fun hr => ?_⟩
    have := hr S0 ((m.cheap_iff g h0).2 hs0)
    rw [h0.2 v hv] at this
    cases this
  exact (m.cheap_iff g hS).2 (rch_shut g.net (src := natL l.left) fun v hv => by rw [decide_eq_true_iff]; exact (m.least g hv).symm)
end Go.Proofs.YtbcpmmpakkaidaaGreat
namespace Go.Proofs.YtbcpmmpakkaidaaGreat
set_option linter.unusedVariables false
variable {l : NL}
end Go.Proofs.YtbcpmmpakkaidaaGreat
namespace Go.Proofs.YtbcpmmpakkaidaaGreat
set_option linter.unusedVariables false
variable {l : NL}
end Go.Proofs.YtbcpmmpakkaidaaGreat
namespace Go.Proofs.YtbcpmmpakkaidaaGreat
set_option linter.unusedVariables false
open Classical in
/-- the least one of the cheapest sides -/
noncomputable def leastL (l : NL) : List Nat := (List.range l.N).filter fun u => decide (LeastP l u)
open Classical in
noncomputable def costL (l : NL) : Int := cutC l.L fun u => decide (LeastP l u)
def bitB (s n : Nat) : Bool := s / 2 ^ n % 2 == 1
def bitsOf : (Nat → Bool) → Nat → Nat
  | _, 0 => 0
  | S, n + 1 => (if S 0 = true then 1 else 0) + 2 * bitsOf (fun k => S (k + 1)) n
theorem bitsOf_lt : ∀ (n : Nat) (S : Nat → Bool), bitsOf S n < 2 ^ n
  | 0, _ => by simp [bitsOf]
  | n + 1, S => by
    have := bitsOf_lt n fun k => S (k + 1)
    unfold bitsOf
    rw [Nat.pow_succ]
    split <;> omega
theorem bitsOf_bit : ∀ (n : Nat) (S : Nat → Bool) (k : Nat), k < n → bitB (bitsOf S n) k = S k
  | 0, _, k, h => by omega
  | n + 1, S, 0, h => by
    unfold bitsOf bitB
    rw [Nat.pow_zero, Nat.div_one]
    cases e : S 0
    · simp
    · simp
  | n + 1, S, k + 1, h => by
    have := bitsOf_bit n (fun k => S (k + 1)) k (by omega)
    unfold bitB at this ⊢
    rw [show bitsOf S (n + 1) = (if S 0 = true then 1 else 0) + 2 * bitsOf (fun k => S (k + 1)) n from rfl]
    rw [Nat.pow_succ, Nat.mul_comm (2 ^ k) 2, ← Nat.div_div_eq_div_mul]
    rw [show ((if S 0 = true then 1 else 0) + 2 * bitsOf (fun k => S (k + 1)) n) / 2 = bitsOf (fun k => S (k + 1)) n by split <;> omega]
    exact this
def sideB (N s : Nat) : List Nat := (List.range N).filter (bitB s)
def isSideB (l : NL) (side : List Nat) : Bool := ((natL l.left).all fun u => side.contains u) && ((natL l.right).all fun u => !side.contains u)
def allTo (l : NL) (n : Nat) : List (List Nat) := ((List.range n).map (sideB l.N)).filter (isSideB l)
def allSides (l : NL) : List (List Nat) := allTo l (2 ^ l.N)
def memB (side : List Nat) : Nat → Bool := fun u => side.contains u
def costOf (l : NL) (side : List Nat) : Int := cutC l.L (memB side)
/-- one more side -/
def cheapS (l : NL) (p : List (List Nat) × Int) (side : List Nat) : List (List Nat) × Int :=
  if p.2 < 0 ∨ costOf l side < p.2 then ([side], costOf l side) else if costOf l side = p.2 then (p.1 ++ [side], p.2) else p
variable {l : NL} {f : Nat → Int}
theorem isSide_iff {side : List Nat} : isSideB l side = true ↔ Side l (memB side) := by
  unfold isSideB Side IsSide memB
  rw [Bool.and_eq_true, List.all_eq_true, List.all_eq_true]
  constructor
  · rintro ⟨h, k⟩
    exact ⟨fun u hu => h u (NL.mA.1 hu), fun u hu => by simpa using k u (NL.mB.1 hu)⟩
  · rintro ⟨h, k⟩
    exact ⟨fun u hu => h u (NL.mA.2 hu), fun u hu => by simpa using k u (NL.mB.2 hu)⟩
theorem mem_sideB {N s u : Nat} : memB (sideB N s) u = (decide (u < N) && bitB s u) := by
  unfold memB sideB
  rw [Bool.eq_iff_iff]
  simp
theorem mem_allSides (g : Good l) {S : Nat → Bool} (h : Side l S) : ∃ side ∈ allSides l, ∀ u, u < l.N → memB side u = S u := by
  have hs : ∀ u, u < l.N → S u = memB (sideB l.N (bitsOf S l.N)) u := fun u hu => by rw [mem_sideB, bitsOf_bit _ _ _ hu]; simp [hu]
  refine ⟨sideB l.N (bitsOf S l.N), ?_, fun u hu => (hs u hu).symm⟩
  unfold allSides allTo
  rw [List.mem_filter]
  exact ⟨List.mem_map.2 ⟨_, List.mem_range.2 (bitsOf_lt _ _), rfl⟩, isSide_iff.2 (g.side_congr hs h)⟩
theorem side_of_mem {side : List Nat} (h : side ∈ allSides l) : Side l (memB side) := by
  unfold allSides allTo at h
  exact isSide_iff.1 (List.mem_filter.1 h).2
theorem cut_nonneg (g : Good l) (S : Nat → Bool) : 0 ≤ cutC l.L S := by
  unfold cutC
  refine isum_pos fun i hi => ?_
  have := g.net.t i (List.mem_range.1 hi)
  split <;> omega
/-- what the fold keeps -/
theorem cheap_fold (g : Good l) : ∀ (ls : List (List Nat)), (ls = [] ∧ ls.foldl (cheapS l) ([], -1) = ([], -1)) ∨
    (0 ≤ (ls.foldl (cheapS l) ([], -1)).2 ∧ (∀ s ∈ ls, (ls.foldl (cheapS l) ([], -1)).2 ≤ costOf l s) ∧ (∃ s ∈ ls, costOf l s = (ls.foldl (cheapS l) ([], -1)).2) ∧
      (ls.foldl (cheapS l) ([], -1)).1 = ls.filter fun s => costOf l s == (ls.foldl (cheapS l) ([], -1)).2) := by
  refine snoc_ind (.inl ⟨rfl, rfl⟩) fun ls s ih => .inr ?_
  rw [List.foldl_append, List.foldl_cons, List.foldl_nil]
  generalize ls.foldl (cheapS l) ([], -1) = p at *
  obtain ⟨out, best⟩ := p
  have h0 := cut_nonneg g (memB s)
  have e0 : costOf l s = cutC l.L (memB s) := rfl
  rw [← e0] at h0
  clear e0
  dsimp only at ih
  rcases ih with ⟨rfl, e⟩ | ⟨h1, h2, ⟨s1, hs1, h3⟩, h4⟩
  · injection e with e1 e2
    subst e1; subst e2
    unfold cheapS
    rw [if_pos (.inl (by decide))]
    exact ⟨h0, by simp, ⟨s, by simp, rfl⟩, by simp⟩
  · unfold cheapS
    dsimp only
    by_cases c1 : best < 0 ∨ costOf l s < best
    · rw [if_pos c1]
      have c2 : costOf l s < best := by omega
      refine ⟨h0, ?_, ⟨s, by simp, rfl⟩, ?_⟩
      · intro x hx
        rcases List.mem_append.1 hx with hx | hx
        · have := h2 x hx; dsimp only; omega
        · rw [List.mem_singleton.1 hx]; exact Int.le_refl _
      · dsimp only
        rw [List.filter_append, List.filter_eq_nil_iff.2]
        · simp
        · intro x hx
          have := h2 x hx
          simp
          omega
    · rw [if_neg c1]
      by_cases c3 : costOf l s = best
      · rw [if_pos c3]
        refine ⟨h1, ?_, ⟨s1, by simp [hs1], h3⟩, ?_⟩
        · intro x hx
          rcases List.mem_append.1 hx with hx | hx
          · exact h2 x hx
          · rw [List.mem_singleton.1 hx]; dsimp only; omega
        · dsimp only
          rw [List.filter_append, ← h4]
          simp [c3]
      · rw [if_neg c3]
        refine ⟨h1, ?_, ⟨s1, by simp [hs1], h3⟩, ?_⟩
        · intro x hx
          rcases List.mem_append.1 hx with hx | hx
          · exact h2 x hx
          · rw [List.mem_singleton.1 hx]; dsimp only; omega
        · dsimp only
          rw [List.filter_append, ← h4]
          simp [c3]
end Go.Proofs.YtbcpmmpakkaidaaGreat
namespace Go.Proofs.YtbcpmmpakkaidaaGreat
set_option linter.unusedVariables false
variable {l : NL}
theorem exists_cheap (g : Good l) : ∃ S, Cheap l S := by
  rcases cheap_fold g (allSides l) with ⟨h, -⟩ | ⟨h1, h2, ⟨s1, hs1, h3⟩, h4⟩
  · exfalso
    have hS : Side l fun u => l.A u := ⟨fun u h => h, fun u h => by
      cases ha : l.A u
      · exact ha
      · have := g.both ha
        rw [this] at h
        cases h⟩
    obtain ⟨s0, hs0, he0⟩ := mem_allSides g hS
    rw [h] at hs0
    cases hs0
  · refine ⟨memB s1, side_of_mem hs1, fun T hT => ?_⟩
    obtain ⟨s, hs, he⟩ := mem_allSides g hT
    have e1 := h2 s hs
    have e2 : costOf l s = cutC l.L T := g.cut_congr he
    change costOf l s1 ≤ _
    omega
theorem Cheap.inter (g : Good l) {S T : Nat → Bool} (h : Cheap l S) (k : Cheap l T) : Cheap l fun u => S u && T u :=
  ⟨h.1.inter k.1, fun U hU => by
    have h1 := g.common h.1 k
    have h2 := h.2 U hU
    omega⟩
/-- what some cheapest sides and one more have in common -/
theorem cheap_all (g : Good l) {S : Nat → Bool} (hS : Cheap l S) : ∀ (ls : List (List Nat)), (∀ s ∈ ls, Cheap l (memB s)) → Cheap l fun u => S u && ls.all fun s => memB s u
  | [], _ => by simpa using hS
  | s :: ls, h => by
    have h1 := Cheap.inter g (h s (List.mem_cons_self ..)) (cheap_all g hS ls fun t ht => h t (List.mem_cons_of_mem _ ht))
    have : (fun u => memB s u && (S u && ls.all fun s => memB s u)) = fun u => S u && (s :: ls).all fun s => memB s u := by
      funext u
      rw [List.all_cons]
      cases memB s u <;> simp
    rwa [this] at h1
open Classical in
theorem cheap_least2 (g : Good l) : Cheap l fun u => decide (LeastP l u) := by
  obtain ⟨S, hS⟩ := exists_cheap g
  have h := cheap_all g hS ((allSides l).filter fun s => decide (Cheap l (memB s))) fun s hs => by simpa using (List.mem_filter.1 hs).2
  refine g.cheap_congr (fun u hu => ?_) h
  rw [Bool.eq_iff_iff, Bool.and_eq_true, List.all_eq_true, decide_eq_true_eq]
  constructor
  · rintro ⟨-, h2⟩ T hT
    obtain ⟨s, hs, he⟩ := mem_allSides g hT.1
    have := h2 s (List.mem_filter.2 ⟨hs, by rw [decide_eq_true_eq]; exact g.cheap_congr (fun v hv => (he v hv).symm) hT⟩)
    rw [← he u hu]
    exact this
  · intro h2
    exact ⟨h2 S hS, fun s hs => h2 _ (by simpa using (List.mem_filter.1 hs).2)⟩
end Go.Proofs.YtbcpmmpakkaidaaGreat
namespace Go.Proofs.YtbcpmmpakkaidaaGreat
set_option linter.unusedVariables false
/-- a link that is not dropped has two names -/
def linkI (l : NL) (drop : List Nat) (x y : Int) (i : Nat) : Bool :=
  !drop.contains i && (((l.links.getD i default).one == x && (l.links.getD i default).two == y) || ((l.links.getD i default).one == y && (l.links.getD i default).two == x))
def linkedB (l : NL) (drop : List Nat) (x y : Int) : Bool := (List.range l.links.length).any (linkI l drop x y)
def chainB (l : NL) (drop : List Nat) : List Int → Bool
  | x :: y :: r => linkedB l drop x y && chainB l drop (y :: r)
  | _ => true
def endsC (l : NL) (chain : List Int) : Bool := l.left.contains (chain.headD 0) && l.right.contains (chain.getLastD 0)
def chkC (l : NL) (drop chain : List Int) : Int :=
  if openE l drop ≠ 0 then openE l drop
  else if chain.length < 2 ∨ 40 < chain.length then 6
  else if (chain.all (inN l.n)) = false then 3
  else if (endsC l chain && chainB l (natL drop) chain) = true then 0 else 14
def anyP : Pass := fun _ _ _ => true
def joinedB (l : NL) (drop : List Nat) : Bool := (natL l.left).any fun u => (natL l.right).any fun v => labN (pairsOf l.L drop) l.N u == labN (pairsOf l.L drop) l.N v
def chainE (l : NL) (drop : List Int) : Int := if openE l drop ≠ 0 then openE l drop else if joinedB l (natL drop) = true then 0 else 5
variable {l : NL} {drop : List Nat}
theorem linked_way (g : Good l) {x y : Int} (hx : inN l.n x = true) (hy : inN l.n y = true) : linkedB l drop x y = true ↔ ∃ i, (y.toNat, i) ∈ waysL l.L drop x.toNat := by
  unfold inN at hx hy
  simp only [Bool.and_eq_true, decide_eq_true_eq] at hx hy
  unfold linkedB linkI
  rw [List.any_eq_true]
  constructor
  · rintro ⟨i, hi, h⟩
    have hi := List.mem_range.1 hi
    have e := NL.at_ (l := l) (List.getElem?_eq_getElem hi)
    rw [List.getD_eq_getElem?_getD, List.getElem?_eq_getElem hi] at h
    simp only [Option.getD_some, Bool.and_eq_true, Bool.or_eq_true, Bool.not_eq_true', beq_iff_eq] at h
    refine ⟨i, (mem_waysL g.net).2 ⟨⟨by rw [l.len]; exact hi, ?_⟩, by simpa using h.1⟩⟩
    rw [e]
    unfold LkI.lk
    dsimp only
    rcases h.2 with ⟨h1, h2⟩ | ⟨h1, h2⟩
    · exact .inl ⟨by rw [h1], by rw [h2]⟩
    · exact .inr ⟨by rw [h2], by rw [h1]⟩
  · rintro ⟨i, h⟩
    obtain ⟨⟨hi, h1⟩, h2⟩ := (mem_waysL g.net).1 h
    rw [l.len] at hi
    have e := NL.at_ (l := l) (List.getElem?_eq_getElem hi)
    have hk := g.link _ (List.getElem_mem hi)
    refine ⟨i, List.mem_range.2 hi, ?_⟩
    rw [List.getD_eq_getElem?_getD, List.getElem?_eq_getElem hi]
    simp only [Option.getD_some, Bool.and_eq_true, Bool.or_eq_true, Bool.not_eq_true', beq_iff_eq]
    refine ⟨by simpa using h2, ?_⟩
    rw [e] at h1
    unfold LkI.lk at h1
    dsimp only at h1
    rcases h1 with ⟨h1, h3⟩ | ⟨h1, h3⟩
    · exact .inl ⟨by omega, by omega⟩
    · exact .inr ⟨by omega, by omega⟩
theorem chainB_iff : ∀ {c : List Int}, chainB l drop c = true ↔ ∀ a b x y, c = a ++ x :: y :: b → linkedB l drop x y = true
  | [] => by
    refine ⟨fun _ a b x y h => ?_, fun _ => rfl⟩
    have := congrArg List.length h
    simp at this
  | [z] => by
    refine ⟨fun _ a b x y h => ?_, fun _ => rfl⟩
    have := congrArg List.length h
    simp at this
    omega
  | x :: y :: r => by
    unfold chainB
    rw [Bool.and_eq_true, chainB_iff]
    constructor
    · rintro ⟨h, k⟩ a b x' y' e
      cases a with
      | nil =>
        injection e with e1 e2
        injection e2 with e2 e3
        rw [← e1, ← e2]
        exact h
      | cons z a =>
        injection e with e1 e2
        exact k a b x' y' e2
    · intro h
      exact ⟨h [] r x y rfl, fun a b x' y' e => h (x :: a) b x' y' (by rw [e]; rfl)⟩
theorem joined_iff (g : Good l) : joinedB l drop = true ↔ ∃ v, v ∈ natL l.right ∧ Rch l.L drop anyP (natL l.left) v := by
  unfold joinedB anyP
  rw [List.any_eq_true]
  constructor
  · rintro ⟨u, hu, h⟩
    obtain ⟨v, hv, h2⟩ := List.any_eq_true.1 h
    refine ⟨v, hv, (rch_conn g.net).2 ⟨u, hu, ?_⟩⟩
    exact (labN_iff (pairs_lt g.net drop) (g.ltA (NL.mA.2 hu)) (g.ltB (NL.mB.2 hv))).1 (by simpa using h2)
  · rintro ⟨v, hv, h⟩
    obtain ⟨u, hu, hc⟩ := (rch_conn g.net).1 h
    refine ⟨u, hu, List.any_eq_true.2 ⟨v, hv, ?_⟩⟩
    rw [beq_iff_eq]
    exact (labN_iff (pairs_lt g.net drop) (g.ltA (NL.mA.2 hu)) (g.ltB (NL.mB.2 hv))).2 hc
def intL (l : List Nat) : List Int := l.map fun u : Nat => (u : Int)
/-- the way back from a name of Right, turned, is a chain -/
theorem chain_back (g : Good l) {dropI : List Int} (hd : openE l dropI = 0) {o : Ord1} {v : Nat} {r : List Nat} (hb : Back l.L (natL dropI) anyP (natL l.left) o v r) (hv : v ∈ natL l.right) (hlt : ∀ u ∈ r, u < l.N) : chkC l dropI (intL r.reverse) = 0 := by
  obtain ⟨r', hr'⟩ := hb.head
  obtain ⟨u0, hu0, hlast⟩ := hb.last
  have hnd := hb.nodup
  have hlen : r.length ≤ l.N := nodup_len hnd hlt
  have hN := g.nN
  have h40 := g.forty
  have h2 : 2 ≤ r.length := by
    rcases r with _ | ⟨x, _ | ⟨y, r2⟩⟩
    · cases hr'
    · injection hr' with e1 e2
      subst e1
      have : x = u0 := by simpa using hlast
      subst this
      have := g.both (NL.mA.2 hu0)
      rw [NL.mB.2 hv] at this
      cases this
    · simp
  have hin : (intL r.reverse).all (inN l.n) = true := by
    rw [List.all_eq_true]
    intro x hx
    obtain ⟨u, hu, rfl⟩ := List.mem_map.1 hx
    have := hlt u (List.mem_reverse.1 hu)
    unfold inN
    rw [Bool.and_eq_true, decide_eq_true_eq, decide_eq_true_eq]
    omega
  have hll : (intL r.reverse).length = r.length := by unfold intL; rw [List.length_map, List.length_reverse]
  have hmem : ∀ {ls : List Int} {u : Nat}, (∀ x ∈ ls, 0 ≤ x) → u ∈ natL ls → ls.contains (u : Int) = true := by
    intro ls u h0 hu
    obtain ⟨x, hx, rfl⟩ := List.mem_map.1 hu
    have := h0 x hx
    rw [List.contains_iff_mem, show ((x.toNat : Nat) : Int) = x by omega]
    exact hx
  have hends : endsC l (intL r.reverse) = true := by
    unfold endsC
    have e1 : (intL r.reverse).headD 0 = (u0 : Int) := by
      unfold intL
      rw [List.headD_eq_head?_getD, List.head?_map, List.head?_reverse, hlast]
      rfl
    have e2 : (intL r.reverse).getLastD 0 = (v : Int) := by
      unfold intL
      rw [List.getLastD_eq_getLast?, List.getLast?_map, List.getLast?_reverse, hr']
      rfl
    rw [e1, e2, Bool.and_eq_true]
    exact ⟨hmem (fun x hx => by have := rises_lo g.ra x hx; omega) hu0, hmem (fun x hx => by have := rises_lo g.rb x hx; omega) hv⟩
  have hch : chainB l (natL dropI) (intL r.reverse) = true := by
    rw [chainB_iff]
    intro a b x y e
    have hx : inN l.n x = true := List.all_eq_true.1 hin x (by rw [e]; simp)
    have hy : inN l.n y = true := List.all_eq_true.1 hin y (by rw [e]; simp)
    have e3 : r.reverse = natL a ++ x.toNat :: y.toNat :: natL b := by
      have := congrArg natL e
      unfold intL at this
      rw [nat_map] at this
      rw [this]
      unfold natL
      simp
    have e4 : r = (natL b).reverse ++ y.toNat :: x.toNat :: (natL a).reverse := by
      have := congrArg List.reverse e3
      rw [List.reverse_reverse] at this
      rw [this]
      simp
    obtain ⟨i, hi⟩ := hb.linked _ _ _ _ e4
    exact (linked_way g hx hy).2 ⟨i, hi⟩
  unfold chkC
  rw [if_neg (by rw [hd]; simp), if_neg (by rw [hll]; omega), if_neg (by rw [hin]; simp), if_pos (by rw [hends, hch]; rfl)]
end Go.Proofs.YtbcpmmpakkaidaaGreat
namespace Go.Proofs.YtbcpmmpakkaidaaGreat
set_option linter.unusedVariables false
variable {l : NL} {f : Nat → Int}
/-- how much comes to a name by the first links -/
def keptTo (L : List Lk) (f : Nat → Int) (k u : Nat) : Int := isum (inTo L f u) (List.range k)
theorem keptTo_all (L : List Lk) (f : Nat → Int) (u : Nat) : keptTo L f L.length u = keptF L f u := rfl
theorem keptTo_zero (L : List Lk) (f : Nat → Int) (u : Nat) : keptTo L f 0 u = 0 := rfl
theorem keptTo_succ (L : List Lk) (f : Nat → Int) (k u : Nat) : keptTo L f (k + 1) u = keptTo L f k u + inTo L f u k := by
  unfold keptTo
  rw [List.range_succ, isum_append]
  simp [isum]
/-- one link more: first the one end, then the other one -/
theorem keptTo_step {L : List Lk} {f : Nat → Int} {k : Nat} (hne : (lkAt L k).a ≠ (lkAt L k).b) (u : Nat) :
    keptTo L f (k + 1) u = if u = (lkAt L k).b then keptTo L f k (lkAt L k).b + f k else if u = (lkAt L k).a then keptTo L f k (lkAt L k).a - f k else keptTo L f k u := by
  rw [keptTo_succ]
  unfold inTo
  by_cases h1 : u = (lkAt L k).b
  · subst h1
    rw [if_pos rfl, if_pos rfl, if_neg hne]
    omega
  · rw [if_neg h1, if_neg fun e => h1 e.symm]
    by_cases h2 : u = (lkAt L k).a
    · subst h2
      rw [if_pos rfl, if_pos rfl]
      omega
    · rw [if_neg h2, if_neg fun e => h2 e.symm]
      omega
theorem keptTo_bound {L : List Lk} {f : Nat → Int} {u : Nat} : ∀ {k : Nat}, (∀ i, i < k → -1000000 ≤ f i ∧ f i ≤ 1000000) → -(2000000 * (k : Int)) ≤ keptTo L f k u ∧ keptTo L f k u ≤ 2000000 * (k : Int)
  | 0, _ => by rw [keptTo_zero]; simp
  | k + 1, h => by
    have h1 := keptTo_bound (L := L) (u := u) fun i hi => h i (Nat.lt_succ_of_lt hi)
    have h2 := h k (Nat.lt_succ_self k)
    rw [keptTo_succ]
    unfold inTo
    split <;> split <;> omega
/-- how great a flow is: name by name of Left -/
def lessBy (L : List Lk) (f : Nat → Int) (ls : List Nat) : Int := - isum (keptF L f) ls
theorem isum_mem {α : Type} [DecidableEq α] (f : α → Int) {ls : List α} (hn : ls.Nodup) : ∀ {m : List α}, m.Nodup → (∀ x ∈ m, x ∈ ls) → isum (fun x => if m.contains x = true then f x else 0) ls = isum f m
  | [], _, _ => isum_zero fun x _ => by simp
  | y :: m, hm, hs => by
    rw [List.nodup_cons] at hm
    have ih := isum_mem f hn hm.2 fun x hx => hs x (List.mem_cons_of_mem _ hx)
    rw [isum_cons, ← ih]
    have h1 : isum (fun x => if (y :: m).contains x = true then f x else 0) ls = isum (fun x => (if x = y then f y else 0) + if m.contains x = true then f x else 0) ls := by
      refine isum_congr fun x _ => ?_
      by_cases hxy : x = y
      · subst hxy
        rw [if_pos (by simp), if_pos rfl, if_neg (by simpa using hm.1)]
        omega
      · rw [if_neg hxy]
        by_cases hxm : x ∈ m
        · rw [if_pos (by simp [hxm]), if_pos (by simpa using hxm)]; omega
        · rw [if_neg (by simp [hxy, hxm]), if_neg (by simpa using hxm)]; rfl
    rw [h1, isum_add, isum_one hn, if_pos (hs y (List.mem_cons_self ..))]
theorem Good.great (g : Good l) (f : Nat → Int) : greatF l.N l.L f l.A = lessBy l.L f (natL l.left) := by
  unfold greatF lessBy
  congr 1
  refine isum_mem _ List.nodup_range (nodup_of_lt (rises_nat g.ra).1) fun u hu => ?_
  exact List.mem_range.2 (g.ltA (NL.mA.2 hu))
theorem Good.flow_bound (g : Good l) (hf : Fits l.L f) {i : Nat} (hi : i < l.links.length) : -1000000 ≤ f i ∧ f i ≤ 1000000 := by
  have h1 := hf i (by rw [NL.len]; exact hi)
  obtain ⟨x, hx, hm⟩ := NL.ex (l := l) (i := i) (by rw [NL.len]; exact hi)
  rw [NL.at_ hx] at h1
  have h2 := (g.link x hm).2.2.2.2.2.2
  have h3 : x.lk.t = x.trust := rfl
  omega
theorem Good.kept_bound (g : Good l) (hf : Fits l.L f) (u : Nat) : -240000000 ≤ keptF l.L f u ∧ keptF l.L f u ≤ 240000000 := by
  have h1 := keptTo_bound (L := l.L) (f := f) (u := u) (k := l.L.length) fun i hi => g.flow_bound hf (by rw [← NL.len]; exact hi)
  rw [keptTo_all] at h1
  have h2 := g.few
  rw [NL.len] at h1
  omega
theorem openE_nil (l : NL) : openE l [] = checkL l := by
  unfold openE
  by_cases h : checkL l = 0
  · rw [if_neg (by simpa using h), if_pos (by rfl), h]
  · rw [if_pos h]
end Go.Proofs.YtbcpmmpakkaidaaGreat
namespace Go.Proofs.YtbcpmmpakkaidaaGreat
set_option linter.unusedVariables false
/-- what flows if some names of Left have pushed all they can -/
def startD (L : List Lk) (A D : Nat → Bool) (i : Nat) : Int := if D (lkAt L i).a = true ∧ A (lkAt L i).b = false then (lkAt L i).t else if D (lkAt L i).b = true ∧ A (lkAt L i).a = false then -(lkAt L i).t else 0
theorem startD_all (L : List Lk) (A : Nat → Bool) : startD L A A = startF L A := rfl
theorem startD_none (L : List Lk) (A : Nat → Bool) (i : Nat) : startD L A (fun _ => false) i = 0 := by unfold startD; simp
def plus (D : Nat → Bool) (k : Nat) : Nat → Bool := fun u => D u || u == k
/-- while a name pushes: so many ways so far -/
def midF (L : List Lk) (A D : Nat → Bool) (k : Nat) (pre : List (Nat × Nat)) (i : Nat) : Int := if pre.any (fun p => p.2 == i) = true then startD L A (plus D k) i else startD L A D i
variable {N : Nat} {L : List Lk} {A D : Nat → Bool}
theorem startD_far {k i : Nat} (ha : (lkAt L i).a ≠ k) (hb : (lkAt L i).b ≠ k) : startD L A (plus D k) i = startD L A D i := by
  unfold startD plus
  have h1 : ((lkAt L i).a == k) = false := by simpa using ha
  have h2 : ((lkAt L i).b == k) = false := by simpa using hb
  rw [h1, h2, Bool.or_false, Bool.or_false]
theorem midF_end (hN : Net N L) {k : Nat} : ∀ i, i < L.length → midF L A D k (waysL L [] k) i = startD L A (plus D k) i := by
  intro i hi
  unfold midF
  split
  · rfl
  · rename_i h
    symm
    have hno : ∀ v, (v, i) ∉ waysL L [] k := by
      intro v hv
      apply h
      rw [List.any_eq_true]
      exact ⟨_, hv, by simp⟩
    refine startD_far (fun e => ?_) fun e => ?_
    · exact hno (lkAt L i).b ((mem_waysL hN).2 ⟨⟨hi, .inl ⟨e, rfl⟩⟩, by simp⟩)
    · exact hno (lkAt L i).a ((mem_waysL hN).2 ⟨⟨hi, .inr ⟨e, rfl⟩⟩, by simp⟩)
theorem startD_fits (hN : Net N L) : Fits L (startD L A D) := by
  intro i hi
  have := hN.t i hi
  unfold startD
  split
  · omega
  · split <;> omega
theorem midF_fits (hN : Net N L) {k : Nat} {pre : List (Nat × Nat)} : Fits L (midF L A D k pre) := by
  intro i hi
  have h1 := startD_fits (A := A) (D := D) hN i hi
  have h2 := startD_fits (A := A) (D := plus D k) hN i hi
  unfold midF
  split
  · exact h2
  · exact h1
theorem any_snoc (pre : List (Nat × Nat)) (v i j : Nat) : ((pre ++ [(v, i)]).any fun p => p.2 == j) = ((pre.any fun p => p.2 == j) || i == j) := by
  rw [List.any_append]
  simp
/-- a way to a name of Left: nothing flows -/
theorem midF_skip {k v i : Nat} {pre : List (Nat × Nat)} (hw : IsWay L k v i) (hk : A k = true) (hv : A v = true) : ∀ j, midF L A D k (pre ++ [(v, i)]) j = midF L A D k pre j := by
  intro j
  unfold midF
  rw [any_snoc]
  by_cases hij : i = j
  · subst hij
    have hz : ∀ D : Nat → Bool, startD L A D i = 0 := by
      intro D
      unfold startD
      obtain ⟨-, ⟨h1, h2⟩ | ⟨h1, h2⟩⟩ := hw <;> simp [h1, h2, hk, hv]
    simp [hz]
  · have : (i == j) = false := by simpa using hij
    rw [this, Bool.or_false]
/-- a way to another name: as much as can be -/
theorem midF_push (hN : Net N L) {k v i : Nat} {pre : List (Nat × Nat)} (hw : IsWay L k v i) (hk : A k = true) (hv : A v = false) (hDA : ∀ u, D u = true → A u = true) (hDk : D k = false) (hno : (pre.any fun p => p.2 == i) = false) :
    resF L (midF L A D k pre) k i = (lkAt L i).t ∧ ∀ j, pushF L (midF L A D k pre) k i (resF L (midF L A D k pre) k i) j = midF L A D k (pre ++ [(v, i)]) j := by
  have hDv : D v = false := by
    cases h : D v with
    | false => rfl
    | true => rw [hDA v h] at hv; cases hv
  have hne := way_ne hN hw
  have h0 : midF L A D k pre i = 0 := by
    unfold midF
    rw [if_neg (by rw [hno]; simp)]
    unfold startD
    obtain ⟨-, ⟨h1, h2⟩ | ⟨h1, h2⟩⟩ := hw <;> simp [h1, h2, hDk, hDv]
  have hr : resF L (midF L A D k pre) k i = (lkAt L i).t := by
    unfold resF
    rw [h0]
    split <;> omega
  refine ⟨hr, fun j => ?_⟩
  rw [hr]
  unfold pushF
  by_cases hj : j = i
  · subst hj
    rw [if_pos rfl, h0]
    have hm : midF L A D k (pre ++ [(v, j)]) j = startD L A (plus D k) j := by
      unfold midF
      rw [any_snoc, if_pos (show ((pre.any fun p => p.2 == j) || j == j) = true by simp)]
    rw [hm]
    unfold startD plus
    obtain ⟨-, ⟨h1, h2⟩ | ⟨h1, h2⟩⟩ := hw
    · rw [if_pos h1, if_pos (by simp [h1, h2, hv])]
      omega
    · have ha : (lkAt L j).a ≠ k := by rw [h2]; exact fun e => hne e.symm
      have hvk : (v == k) = false := by simpa using fun e : v = k => hne e.symm
      rw [if_neg ha, if_neg (by simp [h1, h2, hDv, hvk]), if_pos (by simp [h1, h2, hv])]
      omega
  · rw [if_neg hj]
    unfold midF
    rw [any_snoc]
    have : (i == j) = false := by simpa using fun e : i = j => hj e.symm
    rw [this, Bool.or_false]
/-- the names of a list so far -/
def firstB (ls : List Nat) (k : Nat) : Nat → Bool := fun u => (ls.take k).contains u
theorem firstB_zero (ls : List Nat) : firstB ls 0 = fun _ => false := by funext u; simp [firstB]
theorem firstB_succ {ls : List Nat} {k x : Nat} (h : ls[k]? = some x) : firstB ls (k + 1) = plus (firstB ls k) x := by
  funext u
  unfold firstB plus
  rw [List.take_add_one, h]
  rw [Bool.eq_iff_iff]
  simp
theorem firstB_all (ls : List Nat) : firstB ls ls.length = fun u => ls.contains u := by funext u; unfold firstB; rw [List.take_length]
/-- heights: those of Left so far -/
def highD (N : Nat) (D : Nat → Bool) (u : Nat) : Nat := if D u = true then N else 0
theorem highD_plus (N : Nat) (D : Nat → Bool) (k : Nat) : raiseH (highD N D) k N = highD N (plus D k) := by
  funext u
  unfold raiseH highD plus
  by_cases e : u = k
  · simp [e]
  · have : (u == k) = false := by simpa using e
    rw [if_neg e, this, Bool.or_false]
theorem highD_all (N : Nat) (A : Nat → Bool) : highD N A = startH N A := rfl
end Go.Proofs.YtbcpmmpakkaidaaGreat
