/- Plain laws of the statement NameMore: one link more, more Trust, one link more in the drop. -/
import Derived.Test.YtpkccmohlcndgaaNaQM
namespace Go.Proofs.Ytpkccmohlcndgaa
set_option linter.unusedVariables false

variable {l : NL}
theorem more_add {x : LkI} (g : Good l) (g' : Good (addN l x)) : costL l ≤ costL (addN l x) ∧ costL (addN l x) ≤ costL l + x.trust := by
  have ht := (g'.link x (by show x ∈ l.links ++ [x]; simp)).2.2.2.2.2.1
  have h := cheap_more (l := l) (l' := addN l x) (t := x.trust) rfl rfl (fun S => by
    have := costI_le S (x := x) (by omega)
    rw [cut_add]
    omega) (least_side g) (least_side g')
  rw [← cost_least, ← cost_least] at h
  exact h
theorem more_trust {k : Nat} {x : LkI} (hk : l.links[k]? = some x) {t : Int} (ht : 0 ≤ t) (g : Good l) (g' : Good (moreN l k t)) : costL l ≤ costL (moreN l k t) ∧ costL (moreN l k t) ≤ costL l + t := by
  have h := cheap_more (l := l) (l' := moreN l k t) (t := t) rfl rfl (fun S => cut_more hk t ht S) (least_side g) (least_side g')
  rw [← cost_least, ← cost_least] at h
  exact h
/-- the drop with one link more -/
def allU (a b k0 k : Nat) : List Nat := (List.range k).filter fun i => dropB a b i || i == k0
theorem mem_allU {a b k0 n i : Nat} : i ∈ allU a b k0 n ↔ i < n ∧ (dropB a b i = true ∨ i = k0) := by
  unfold allU
  rw [List.mem_filter, List.mem_range, Bool.or_eq_true, beq_iff_eq]
theorem mem_dropU {a b n i : Nat} : i ∈ dropU a b n ↔ i < n ∧ dropB a b i = true := by
  unfold dropU
  rw [List.mem_filter, List.mem_range]
theorem pairs_more {a b k0 : Nat} (hk : k0 < l.links.length) : (∀ p, p ∈ pairsOf l.L (dropU a b l.links.length) ↔ p ∈ pairsOf l.L (allU a b k0 l.links.length)) ∨
    (∀ p, p ∈ pairsOf l.L (dropU a b l.links.length) ↔ p ∈ pairsOf l.L (allU a b k0 l.links.length) ∨ p = ((lkAt l.L k0).a, (lkAt l.L k0).b)) := by
  by_cases h : dropB a b k0 = true
  · left
    rintro ⟨x, y⟩
    rw [mem_pairs, mem_pairs]
    refine exists_congr fun i => and_congr_right fun hi => and_congr_left fun _ => not_congr ?_
    rw [mem_dropU, mem_allU]
    constructor
    · rintro ⟨h1, h2⟩; exact ⟨h1, .inl h2⟩
    · rintro ⟨h1, h2 | rfl⟩
      · exact ⟨h1, h2⟩
      · exact ⟨h1, h⟩
  · right
    rintro ⟨x, y⟩
    rw [mem_pairs, mem_pairs]
    constructor
    · rintro ⟨i, hi, hn, h1, h2⟩
      by_cases e : i = k0
      · right
        rw [← e, h1, h2]
      · exact .inl ⟨i, hi, fun hm => hn (mem_dropU.2 ⟨(mem_allU.1 hm).1, ((mem_allU.1 hm).2).resolve_right e⟩), h1, h2⟩
    · rintro (⟨i, hi, hn, h1, h2⟩ | e)
      · exact ⟨i, hi, fun hm => hn (mem_allU.2 ⟨(mem_dropU.1 hm).1, .inl (mem_dropU.1 hm).2⟩), h1, h2⟩
      · injection e with e1 e2
        exact ⟨k0, by rw [NL.len]; exact hk, fun hm => h (mem_dropU.1 hm).2, e1.symm, e2.symm⟩
theorem pairs_sub {a b k0 : Nat} {p : Nat × Nat} (h : p ∈ pairsOf l.L (allU a b k0 l.links.length)) : p ∈ pairsOf l.L (dropU a b l.links.length) := by
  obtain ⟨x, y⟩ := p
  obtain ⟨i, hi, hn, h1, h2⟩ := mem_pairs.1 h
  exact mem_pairs.2 ⟨i, hi, fun hm => hn (mem_allU.2 ⟨(mem_dropU.1 hm).1, .inl (mem_dropU.1 hm).2⟩), h1, h2⟩
/-- how many groups there are -/
theorem groups_count {a b k0 : Nat} (g : Good l) (hk : k0 < l.links.length) : (groupsOf (pairsOf l.L (dropU a b l.links.length)) l.N).length ≤ (groupsOf (pairsOf l.L (allU a b k0 l.links.length)) l.N).length ∧
    (groupsOf (pairsOf l.L (allU a b k0 l.links.length)) l.N).length ≤ (groupsOf (pairsOf l.L (dropU a b l.links.length)) l.N).length + 1 := by
  rw [groups_len _ _ (pairs_lt g.net _), groups_len _ _ (pairs_lt g.net _)]
  rcases pairs_more (l := l) (a := a) (b := b) hk with h | h
  · rw [roots_same (pairs_lt g.net _) h]
    omega
  · exact roots_more (pairs_lt g.net _) h
/-- each group lies in one of those with fewer links dropped -/
theorem group_inside {a b k0 : Nat} (g : Good l) {gi : List Nat} (hg : gi ∈ groupsOf (pairsOf l.L (allU a b k0 l.links.length)) l.N) : ∃ gj ∈ groupsOf (pairsOf l.L (dropU a b l.links.length)) l.N, ∀ u ∈ gi, u ∈ gj := by
  unfold groupsOf groupsTo at hg
  obtain ⟨hm, hne⟩ := List.mem_filter.1 hg
  obtain ⟨n, -, rfl⟩ := List.mem_map.1 hm
  have hps := pairs_lt g.net (allU a b k0 l.links.length)
  have hqs := pairs_lt g.net (dropU a b l.links.length)
  have hne' : groupAt (pairsOf l.L (allU a b k0 l.links.length)) l.N n ≠ [] := by
    intro h
    rw [h] at hne
    simp at hne
  obtain ⟨u, hu⟩ := List.exists_mem_of_ne_nil _ hne'
  obtain ⟨huN, hul⟩ := mem_group.1 hu
  have hin : ∀ v ∈ groupAt (pairsOf l.L (allU a b k0 l.links.length)) l.N n, v ∈ groupAt (pairsOf l.L (dropU a b l.links.length)) l.N (labN (pairsOf l.L (dropU a b l.links.length)) l.N u) := by
    intro v hv
    obtain ⟨hvN, hvl⟩ := mem_group.1 hv
    refine mem_group.2 ⟨hvN, ?_⟩
    have hc : Conn (pairsOf l.L (allU a b k0 l.links.length)) v u := (labN_iff hps hvN huN).1 (by rw [hvl, hul])
    have hc2 : Conn (pairsOf l.L (dropU a b l.links.length)) v u := hc.mono fun p hp => pairs_sub hp
    exact (labN_iff hqs hvN huN).2 hc2
  refine ⟨_, ?_, hin⟩
  unfold groupsOf groupsTo
  refine List.mem_filter.2 ⟨List.mem_map.2 ⟨_, List.mem_range.2 ?_, rfl⟩, ?_⟩
  · have := labN_le hqs huN
    omega
  · have h1 := hin u hu
    cases h2 : groupAt (pairsOf l.L (dropU a b l.links.length)) l.N (labN (pairsOf l.L (dropU a b l.links.length)) l.N u)
    · rw [h2] at h1
      cases h1
    · rfl
end Go.Proofs.Ytpkccmohlcndgaa
