/- How many longest passages come to a match and go on from it, by sums over indexes. Nothing of the program is imported here. How many longest passages hear a word, by a sum over indexes. Nothing of the program is imported here. -/
import Derived.Test.YtgngpdnppdbgoaaNextP
import Derived.Test.YtgngpdnppdbgoaaLawP
namespace Go.Proofs.Ytgngpdnppdbgoaa
set_option linter.unusedVariables false

theorem sum_idx {α : Type} (f : α → Nat) (d : α) : ∀ (ms : List α), (ms.map f).sum = ((List.range ms.length).map fun k => f (ms.getD k d)).sum := by
  intro ms
  congr 1
  apply List.ext_getElem
  · simp
  · intro i h1 h2
    have h3 : i < ms.length := by simpa using h1
    simp [List.getD_eq_getElem?_getD, List.getElem?_eq_getElem h3]
theorem range_split {i n : Nat} (h : i ≤ n) : List.range n = List.range i ++ List.range' i (n - i) := by
  rw [List.range_eq_range', List.range_eq_range']
  have := List.range'_append (s := 0) (m := i) (n := n - i) (step := 1)
  rw [Nat.one_mul, Nat.zero_add, show i + (n - i) = n by omega] at this
  exact this.symm
theorem range'_sum_snoc (f : Nat → Nat) (a k : Nat) : ((List.range' a (k + 1)).map f).sum = ((List.range' a k).map f).sum + f (a + k) := by
  have h := List.range'_append (s := a) (m := k) (n := 1) (step := 1)
  rw [Nat.one_mul] at h
  rw [← h]
  simp
section
variable (b : List (Int × Int)) (ls : List (List Int))
def xAt (k : Nat) : List Nat := (matsOf b ls).getD k []
def lvN (k : Nat) : Nat := lvOf b ls (xAt b ls k)
def bfN (k i : Nat) : Bool := befL ls (xAt b ls k) (xAt b ls i)
def upN (k : Nat) : Nat := upO (matsOf b ls) (befL ls) (lvN b ls k - 1) none (xAt b ls k)
def dnN (k : Nat) : Nat := dnC (matsOf b ls) (befL ls) (mostOf b ls - lvN b ls k) (xAt b ls k)
def usum (i k : Nat) : Nat := (if lvN b ls i = 1 then 1 else 0) + ((List.range k).map fun j => if lvN b ls j + 1 = lvN b ls i ∧ bfN b ls j i = true then upN b ls j else 0).sum
def dsum (i k : Nat) : Nat := (if lvN b ls i = mostOf b ls then 1 else 0) + ((List.range' (i + 1) k).map fun j => if lvN b ls i + 1 = lvN b ls j ∧ bfN b ls i j = true then dnN b ls j else 0).sum
end
section
variable {b : List (Int × Int)} {ls : List (List Int)}
theorem usum_zero (i : Nat) : usum b ls i 0 = if lvN b ls i = 1 then 1 else 0 := by simp [usum]
theorem dsum_zero (i : Nat) : dsum b ls i 0 = if lvN b ls i = mostOf b ls then 1 else 0 := by simp [dsum]
theorem usum_succ (i k : Nat) : usum b ls i (k + 1) = usum b ls i k + if lvN b ls k + 1 = lvN b ls i ∧ bfN b ls k i = true then upN b ls k else 0 := by
  unfold usum
  rw [List.range_succ, List.map_append, List.sum_append]
  simp [Nat.add_assoc]
theorem dsum_succ (i k : Nat) : dsum b ls i (k + 1) = dsum b ls i k + if lvN b ls i + 1 = lvN b ls (i + 1 + k) ∧ bfN b ls i (i + 1 + k) = true then dnN b ls (i + 1 + k) else 0 := by
  unfold dsum
  rw [range'_sum_snoc]
  exact (Nat.add_assoc _ _ _).symm
theorem usum_mono (i : Nat) {k m : Nat} (h : k ≤ m) : usum b ls i k ≤ usum b ls i m := by
  induction m with
  | zero => rw [Nat.le_zero.1 h]; exact Nat.le_refl _
  | succ m ih =>
    by_cases e : k = m + 1
    · rw [e]; exact Nat.le_refl _
    · exact Nat.le_trans (ih (by omega)) (by rw [usum_succ]; omega)
theorem dsum_mono (i : Nat) {k m : Nat} (h : k ≤ m) : dsum b ls i k ≤ dsum b ls i m := by
  induction m with
  | zero => rw [Nat.le_zero.1 h]; exact Nat.le_refl _
  | succ m ih =>
    by_cases e : k = m + 1
    · rw [e]; exact Nat.le_refl _
    · exact Nat.le_trans (ih (by omega)) (by rw [dsum_succ]; omega)
theorem xAt_mem {k : Nat} (hk : k < (matsOf b ls).length) : xAt b ls k ∈ matsOf b ls := by
  unfold xAt
  rw [List.getD_eq_getElem?_getD, List.getElem?_eq_getElem hk]
  exact List.getElem_mem hk
theorem bfN_lt (hg : Good b ls) {k i : Nat} (hk : k < (matsOf b ls).length) (hi : i < (matsOf b ls).length) (h : bfN b ls k i = true) : k < i := by
  have h0 : 0 < ls.length := by have := hg.two; omega
  rcases Nat.lt_or_ge k i with h1 | h1
  · exact h1
  · exfalso
    have ho : Ord (matsOf b ls) (befL ls) := by
      have := mats_ord (mtB b ls) (ds := dsOf ls) (by rw [dsOf_len]; exact h0)
      rw [dsOf_len] at this
      exact this
    unfold bfN xAt at h
    rw [List.getD_eq_getElem?_getD, List.getD_eq_getElem?_getD, List.getElem?_eq_getElem hk, List.getElem?_eq_getElem hi] at h
    simp only [Option.getD_some] at h
    by_cases e : k = i
    · subst e
      have := befK_iff.1 h 0 h0
      omega
    · have := List.pairwise_iff_getElem.1 ho i k hi hk (by omega)
      rw [this] at h
      cases h
theorem usum_all (hg : Good b ls) {i : Nat} (hi : i < (matsOf b ls).length) : usum b ls i i = upN b ls i := by
  have hL := levOf hg
  have hx := xAt_mem hi
  have hp := hL.pos hx
  change 1 ≤ lvN b ls i at hp
  by_cases h1 : lvN b ls i = 1
  · unfold usum
    rw [if_pos h1, sum_zero fun j hj => if_neg fun hh => ?_]
    · unfold upN
      rw [h1]
      exact (if_pos ⟨hx, rfl⟩).symm
    · have := hL.pos (xAt_mem (b := b) (ls := ls) (k := j) (by have := List.mem_range.1 hj; omega))
      change 1 ≤ lvN b ls j at this
      omega
  · obtain ⟨j, hj⟩ : ∃ j, lvN b ls i = j + 2 := ⟨lvN b ls i - 2, by omega⟩
    have h2 := hL.up_succ hx (j := j) hj
    unfold upN
    rw [hj, show j + 2 - 1 = j + 1 by omega, h2, sum_idx _ [], range_split (Nat.le_of_lt hi), List.map_append, List.sum_append]
    have h3 : ((List.range' i ((matsOf b ls).length - i)).map fun k => if lvOf b ls ((matsOf b ls).getD k []) + 1 = lvOf b ls (xAt b ls i) ∧ befL ls ((matsOf b ls).getD k []) (xAt b ls i) = true then upO (matsOf b ls) (befL ls) j none ((matsOf b ls).getD k []) else 0).sum = 0 := by
      refine sum_zero fun k hk => if_neg fun hh => ?_
      rw [List.mem_range'_1] at hk
      have := bfN_lt hg (k := k) (i := i) (by omega) hi hh.2
      omega
    rw [h3, Nat.add_zero]
    unfold usum
    rw [if_neg h1, Nat.zero_add]
    refine sum_congr fun k hk => ?_
    show (if lvN b ls k + 1 = lvN b ls i ∧ bfN b ls k i = true then _ else _) = (if lvN b ls k + 1 = lvN b ls i ∧ bfN b ls k i = true then _ else _)
    by_cases hc : lvN b ls k + 1 = lvN b ls i ∧ bfN b ls k i = true
    · rw [if_pos hc, if_pos hc]
      unfold upN
      rw [show lvN b ls k - 1 = j by omega]
      rfl
    · rw [if_neg hc, if_neg hc]
theorem lvN_le (hg : Good b ls) {i : Nat} (hi : i < (matsOf b ls).length) : lvN b ls i ≤ mostOf b ls := (foldl_max_le ((matsOf b ls).map (lvOf b ls)) 0).2.1 _ (List.mem_map_of_mem (xAt_mem hi))
theorem dsum_all (hg : Good b ls) {i : Nat} (hi : i < (matsOf b ls).length) : dsum b ls i ((matsOf b ls).length - (i + 1)) = dnN b ls i := by
  have hL := levOf hg
  have hx := xAt_mem hi
  have hle := lvN_le hg hi
  by_cases h1 : lvN b ls i = mostOf b ls
  · unfold dsum
    rw [if_pos h1, sum_zero fun j hj => if_neg fun hh => ?_]
    · unfold dnN
      rw [h1, Nat.sub_self, dnC_zero]
    · rw [List.mem_range'_1] at hj
      have := lvN_le hg (i := j) (by omega)
      omega
  · obtain ⟨f, hf⟩ : ∃ f, lvN b ls i + (f + 1) = mostOf b ls := ⟨mostOf b ls - lvN b ls i - 1, by omega⟩
    have h2 := hL.dn_succ hx (f := f) hf
    unfold dnN
    rw [show mostOf b ls - lvN b ls i = f + 1 by omega, h2, sum_idx _ [], range_split (i := i + 1) hi, List.map_append, List.sum_append]
    have h3 : ((List.range (i + 1)).map fun k => if lvOf b ls (xAt b ls i) + 1 = lvOf b ls ((matsOf b ls).getD k []) ∧ befL ls (xAt b ls i) ((matsOf b ls).getD k []) = true then dnC (matsOf b ls) (befL ls) f ((matsOf b ls).getD k []) else 0).sum = 0 := by
      refine sum_zero fun k hk => if_neg fun hh => ?_
      rw [List.mem_range] at hk
      have := bfN_lt hg (k := i) (i := k) hi (by omega) hh.2
      omega
    rw [h3, Nat.zero_add]
    unfold dsum
    rw [if_neg h1, Nat.zero_add]
    refine sum_congr fun k hk => ?_
    show (if lvN b ls i + 1 = lvN b ls k ∧ bfN b ls i k = true then _ else _) = (if lvN b ls i + 1 = lvN b ls k ∧ bfN b ls i k = true then _ else _)
    by_cases hc : lvN b ls i + 1 = lvN b ls k ∧ bfN b ls i k = true
    · rw [if_pos hc, if_pos hc]
      unfold dnN
      rw [show mostOf b ls - lvN b ls k = f by omega]
      rfl
    · rw [if_neg hc, if_neg hc]
theorem ways_leN (hg : Good b ls) {i : Nat} (hi : i < (matsOf b ls).length) : upN b ls i ≤ 268435456 ∧ dnN b ls i ≤ 268435456 ∧ upN b ls i * dnN b ls i ≤ 268435456 := by
  have := ways_le (mt := mtB b ls) hg.ds8 (by rw [dsOf_len]; exact hg.four) (xAt_mem hi) (lvN b ls i - 1) (mostOf b ls - lvN b ls i)
  rw [dsOf_len] at this
  exact this
theorem thrN (k : Nat) : upN b ls k * dnN b ls k = thrOf b ls (xAt b ls k) := rfl
end
end Go.Proofs.Ytgngpdnppdbgoaa

namespace Go.Proofs.Ytgngpdnppdbgoaa
set_option linter.unusedVariables false

theorem countP_sum {α : Type} (p : α → Bool) : ∀ (l : List α), l.countP p = (l.map fun x => if p x = true then 1 else 0).sum
  | [] => rfl
  | x :: l => by
    rw [List.countP_cons, List.map_cons, List.sum_cons, countP_sum p l, Nat.add_comm]
theorem hear_one {b : List (Int × Int)} {ls : List (List Int)} (hg : Good b ls) {h i : Nat} (hh : h < ls.length) {l : List (List Nat)} (hl : l ∈ longOf b ls) :
    ((matsOf b ls).map fun m => if at0 m h = i then (if decide (m ∈ l) = true then 1 else 0) else 0).sum = if hearsB h i l = true then 1 else 0 := by
  have hL := levOf hg
  have hc := (mem_chains.1 hl).2
  have hp := chain_pair hL.tr hc
  cases hb : hearsB h i l with
  | false =>
    rw [if_neg (by simp)]
    refine sum_zero fun m hm => ?_
    by_cases e : at0 m h = i
    · rw [if_pos e]
      refine if_neg fun hml => ?_
      have hml : m ∈ l := by simpa using hml
      unfold hearsB at hb
      rw [List.any_eq_false] at hb
      exact hb m hml (by simpa using e)
    · exact if_neg e
  | true =>
    rw [if_pos rfl]
    unfold hearsB at hb
    obtain ⟨m0, hm0, h0⟩ := List.any_eq_true.1 hb
    have h0 : at0 m0 h = i := by simpa using h0
    have hu : ∀ m ∈ l, at0 m h = i → m = m0 := fun m hm he => by
      rcases pair_tri hp m hm m0 hm0 with h1 | h1 | h1
      · exact h1
      · have := befK_iff.1 h1 h hh
        omega
      · have := befK_iff.1 h1 h hh
        omega
    rw [sum_congr (g := fun m => if m = m0 then 1 else 0) fun m hm => ?_]
    · rw [sum_one hL.nd m0 1, if_pos (hc.mem m0 hm0)]
    · by_cases e : m = m0
      · rw [if_pos e, e, if_pos h0, if_pos (by simpa using hm0)]
      · rw [if_neg e]
        by_cases e2 : at0 m h = i
        · rw [if_pos e2]
          exact if_neg fun hml => e (hu m (by simpa using hml) e2)
        · exact if_neg e2
/-- how many longest passages go through the first matches that hear a word -/
def hsum (b : List (Int × Int)) (ls : List (List Int)) (h i k : Nat) : Nat := ((List.range k).map fun j => if at0 (xAt b ls j) h = i then upN b ls j * dnN b ls j else 0).sum
theorem hsum_succ (b : List (Int × Int)) (ls : List (List Int)) (h i k : Nat) : hsum b ls h i (k + 1) = hsum b ls h i k + if at0 (xAt b ls k) h = i then upN b ls k * dnN b ls k else 0 := by
  unfold hsum
  rw [List.range_succ, List.map_append, List.sum_append]
  simp
theorem hsum_le {b : List (Int × Int)} {ls : List (List Int)} (hg : Good b ls) (h i : Nat) : ∀ k, k ≤ (matsOf b ls).length → hsum b ls h i k ≤ k * 268435456
  | 0, _ => by simp [hsum]
  | k + 1, hk => by
    have := hsum_le hg h i k (by omega)
    have h2 := (ways_leN hg (i := k) hk).2.2
    rw [hsum_succ]
    have h3 : (if at0 (xAt b ls k) h = i then upN b ls k * dnN b ls k else 0) ≤ 268435456 := by
      split
      · exact h2
      · exact Nat.zero_le _
    rw [Nat.succ_mul]
    exact Nat.add_le_add this h3
theorem hsum_all {b : List (Int × Int)} {ls : List (List Int)} (hg : Good b ls) {h i : Nat} (hh : h < ls.length) : hsum b ls h i (matsOf b ls).length = (longOf b ls).countP (hearsB h i) := by
  rw [countP_sum, sum_congr fun l hl => (hear_one hg hh hl).symm]
  rw [sum_swap (fun (l : List (List Nat)) (m : List Nat) => if at0 m h = i then (if decide (m ∈ l) = true then 1 else 0) else 0)]
  unfold hsum
  rw [sum_idx (fun m => ((longOf b ls).map fun l => if at0 m h = i then (if decide (m ∈ l) = true then 1 else 0) else 0).sum) []]
  refine sum_congr fun k hk => ?_
  have hk := List.mem_range.1 hk
  show (if at0 (xAt b ls k) h = i then _ else _) = ((longOf b ls).map fun l => if at0 (xAt b ls k) h = i then (if decide (xAt b ls k ∈ l) = true then 1 else 0) else 0).sum
  by_cases e : at0 (xAt b ls k) h = i
  · rw [if_pos e, sum_congr (g := fun l => if decide (xAt b ls k ∈ l) = true then 1 else 0) fun l _ => if_pos e, ← countP_sum (fun l => decide (xAt b ls k ∈ l))]
    refine Eq.trans ((levOf hg).through (xAt_mem hk)).symm ?_
    unfold longOf
    congr 1
    funext l
    exact decide_eq_decide.2 Iff.rfl
  · rw [if_neg e, sum_zero fun l _ => if_neg e]
end Go.Proofs.Ytgngpdnppdbgoaa
