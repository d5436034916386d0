/- A cylinder read from its end. Plain. -/
import Derived.Test.YtjjjockfppomdaaJsp
namespace Go.Proofs.Ytjjjockfppomdaa
set_option linter.unusedVariables false

theorem chain_iff {c : Cyl} {l : List St} : chain c l = true ↔ ∀ (i : Nat) (x y : St), l[i]? = some x → l[i + 1]? = some y → fitsS c x y = true := by
  constructor
  · intro h i x y hx hy
    cases hf : fitsS c x y
    · rw [chain_not hx hy hf] at h
      cases h
    · rfl
  · exact chain_all
def revP (p : Pc) : Pc := ⟨p.b, p.a, p.loose⟩
def rev (c : Cyl) : Cyl := ⟨c.pcs.map revP, c.off, -c.shi, -c.slo⟩
theorem rev_rev (c : Cyl) : rev (rev c) = c := by
  obtain ⟨pcs, off, slo, shi⟩ := c
  unfold rev
  simp only [List.map_map, Int.neg_neg]
  congr 1
  have : revP ∘ revP = id := by funext p; rfl
  rw [this, List.map_id]
theorem pcAt_rev (c : Cyl) (i : Int) : pcAt (rev c) i = revP (pcAt c i) := by
  unfold pcAt rev
  simp only [List.getElem?_map]
  cases c.pcs[i.toNat]? <;> rfl
theorem isStep_rev (c : Cyl) (s : St) : isStep (rev c) s = isStep c s := by
  unfold isStep
  rw [pcAt_rev]
  unfold rev revP
  simp
theorem beg_rev (c : Cyl) (s : St) : beg (rev c) s = fin c s := by unfold beg fin; rw [pcAt_rev]; rfl
theorem fin_rev (c : Cyl) (s : St) : fin (rev c) s = beg c s := by unfold beg fin; rw [pcAt_rev]; rfl
theorem fits_rev (c : Cyl) (x y : St) : fitsS (rev c) x y = fitsS c y x := by
  unfold fitsS
  rw [fin_rev, beg_rev]
  unfold meets rev
  rw [Bool.eq_iff_iff]
  simp only [Bool.and_eq_true, decide_eq_true_eq, ne_eq]
  omega
theorem checkCyl_rev (c : Cyl) : checkCyl (rev c) = checkCyl c := by
  unfold checkCyl
  have h1 : (rev c).pcs.length = c.pcs.length := by unfold rev; simp
  have h2 : ((okR 0 1000 (rev c).off (rev c).off && okR (-100000) 100000 (rev c).slo (rev c).shi) && (rev c).pcs.all okP) = ((okR 0 1000 c.off c.off && okR (-100000) 100000 c.slo c.shi) && c.pcs.all okP) := by
    congr 1
    · congr 1
      unfold okR rev
      rw [Bool.eq_iff_iff]
      simp only [Bool.and_eq_true, decide_eq_true_eq]
      omega
    · unfold rev
      rw [List.all_map]
      congr 1
      funext p
      show okP (revP p) = okP p
      unfold okP revP
      rw [Bool.eq_iff_iff]
      simp only [Bool.and_eq_true]
      constructor <;> (rintro ⟨⟨⟨a, b⟩, d⟩, e⟩; exact ⟨⟨⟨b, a⟩, e⟩, d⟩)
  rw [h1, h2]
theorem good_rev {c : Cyl} {l : List St} (h : goodL c l) : goodL (rev c) l.reverse := by
  obtain ⟨h1, h2, h3, h4⟩ := h
  refine ⟨by rw [List.length_reverse, h1]; unfold rev; simp, ?_, ?_, ?_⟩
  · rw [List.all_eq_true]
    intro s hs
    rw [isStep_rev]
    exact List.all_eq_true.1 h2 s (List.mem_reverse.1 hs)
  · rw [twice_pw, List.pairwise_reverse]
    exact ((twice_pw l).1 h3).imp fun hne e => hne e.symm
  · rw [chain_iff] at h4 ⊢
    intro i x y hx hy
    have hi1 := (List.getElem?_eq_some_iff.1 hy).1
    rw [List.length_reverse] at hi1
    rw [List.getElem?_reverse (by omega)] at hx hy
    rw [fits_rev]
    exact h4 _ y x hy (by rw [← hx]; congr 1; omega)
theorem joins_rev_mem {c : Cyl} {l : List St} (h : l ∈ joinsS c) : l.reverse ∈ joinsS (rev c) := mem_joinsS.2 (good_rev (mem_joinsS.1 h))
theorem joins_rev_le (c : Cyl) : (joinsS c).length ≤ (joinsS (rev c)).length := by
  have hn : ((joinsS c).map List.reverse).Nodup := by
    rw [List.Nodup, List.pairwise_map]
    exact (joinsS_nodup c).imp fun hne e => hne (List.reverse_inj.1 e)
  have := len_of_subset hn fun x hx => by
    obtain ⟨l, hl, rfl⟩ := List.mem_map.1 hx
    exact joins_rev_mem hl
  rwa [List.length_map] at this
theorem joins_rev_len (c : Cyl) : (joinsS (rev c)).length = (joinsS c).length := by
  have h1 := joins_rev_le c
  have h2 := joins_rev_le (rev c)
  rw [rev_rev] at h2
  omega
theorem hasS_rev {l : List St} {a b : St} (h : hasS l (a, b) = true) : hasS l.reverse (b, a) = true := by
  obtain ⟨x, y, rfl⟩ := hasS_iff.1 h
  exact hasS_iff.2 ⟨y.reverse, x.reverse, by simp⟩
theorem pass_rev_mem {c : Cyl} {a b : St} (h : (a, b) ∈ passS c) : (b, a) ∈ passS (rev c) := by
  obtain ⟨h1, h2, h3⟩ := mem_passS.1 h
  refine mem_passS.2 ⟨by rw [isStep_rev]; exact h2, by rw [isStep_rev]; exact h1, fun l hl => ?_⟩
  have := joins_rev_mem hl
  rw [rev_rev] at this
  have := hasS_rev (h3 _ this)
  rwa [List.reverse_reverse] at this
theorem pass_rev_le (c : Cyl) : (passS c).length ≤ (passS (rev c)).length := by
  have hn : ((passS c).map fun p => (p.2, p.1)).Nodup := by
    rw [List.Nodup, List.pairwise_map]
    refine (passS_nodup c).imp fun {p q} hne e => hne ?_
    obtain ⟨a, b⟩ := p
    obtain ⟨a', b'⟩ := q
    simp only [Prod.mk.injEq] at e ⊢
    exact ⟨e.2, e.1⟩
  have := len_of_subset hn fun x hx => by
    obtain ⟨⟨a, b⟩, hl, rfl⟩ := List.mem_map.1 hx
    exact pass_rev_mem hl
  rwa [List.length_map] at this
theorem pass_rev_len (c : Cyl) : (passS (rev c)).length = (passS c).length := by
  have h1 := pass_rev_le c
  have h2 := pass_rev_le (rev c)
  rw [rev_rev] at h2
  omega
theorem pass_rev {c : Cyl} (h : checkCyl c = 0) : ∃ P Q E, passM c = (P, E) ∧ passM (rev c) = (Q, E) ∧ P.length = Q.length ∧ P.length ≤ 256 ∧ ∀ p ∈ P, (p.2, p.1) ∈ Q := by
  have h' : checkCyl (rev c) = 0 := by rw [checkCyl_rev]; exact h
  by_cases hj : joinsS c = []
  · have hj' : joinsS (rev c) = [] := List.length_eq_zero_iff.1 (by rw [joins_rev_len, hj]; rfl)
    exact ⟨[], [], 5, passM_none h hj, passM_none h' hj', rfl, by simp, by simp⟩
  · have hj' : joinsS (rev c) ≠ [] := fun e => hj (List.length_eq_zero_iff.1 (by rw [← joins_rev_len, e]; rfl))
    refine ⟨_, _, 0, passM_good h hj, passM_good h' hj', (pass_rev_len c).symm, ?_, fun p hp => pass_rev_mem hp⟩
    have h1 : (stepsOf c).length ≤ 16 := steps_le c (good_len h).2
    unfold passS
    rw [List.length_flatMap]
    have h2 : ((stepsOf c).map fun a => (((stepsOf c).filter fun b => (joinsS c).all fun l => hasS l (a, b)).map fun b => (a, b)).length).sum ≤ (stepsOf c).length * 16 := sum_le fun a _ => by
      rw [List.length_map]
      exact Nat.le_trans (List.length_filter_le _ _) h1
    omega
end Go.Proofs.Ytjjjockfppomdaa
