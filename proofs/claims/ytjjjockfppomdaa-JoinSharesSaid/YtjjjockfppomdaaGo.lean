/- How joins go on: lists of step numbers, in order; how many there are. Nothing of the program is imported here. The join with a number; the number of a join. Nothing of the program is imported here. The lists that go on from a state: what they are, their order, how many have a pair. Nothing of the program is imported here. -/
import Derived.Test.YtjjjockfppomdaaPure
namespace Go.Proofs.Ytjjjockfppomdaa
set_option linter.unusedVariables false

def pieceN (c : Cyl) (k : Nat) : Nat := (((stepsOf c)[k]?).map fun s => s.p.toNat).getD 0
def fitN (c : Cyl) (i k : Nat) : Bool := match (stepsOf c)[i]?, (stepsOf c)[k]? with
  | some x, some y => fitsS c x y
  | _, _ => false
/-- a step that may come next: its piece is free, and it fits behind the last one, if there is one -/
def canGo (c : Cyl) (used : Nat) (last : Option Nat) (k : Nat) : Bool := !used.testBit (pieceN c k) && (match last with | none => true | some i => fitN c i k)
def onN (c : Cyl) (used k : Nat) : Nat := used ||| 2 ^ pieceN c k
def nextN (c : Cyl) (used : Nat) (last : Option Nat) : List Nat := (List.range (stepsOf c).length).filter (canGo c used last)
/-- the lists of step numbers that go on from a state over so many pieces, in order -/
def goOn (c : Cyl) : Nat → Nat → Option Nat → List (List Nat)
  | 0, _, _ => [[]]
  | f + 1, used, last => (nextN c used last).flatMap fun k => (goOn c f (onN c used k) (some k)).map (k :: ·)
/-- how many pieces of n are used -/
def cnt : Nat → Nat → Nat
  | 0, _ => 0
  | n + 1, u => cnt n u + if u.testBit n = true then 1 else 0
def leftN (c : Cyl) (used : Nat) (last : Option Nat) : Nat := (goOn c (c.pcs.length - cnt c.pcs.length used) used last).length
def joinsN (c : Cyl) : List (List Nat) := goOn c c.pcs.length 0 none
def lastI : Option Nat → Int
  | none => -1
  | some k => (k : Int)
theorem lastI_inj {a b : Option Nat} (h : lastI a = lastI b) : a = b := by
  cases a <;> cases b <;> simp only [lastI] at h
  · rfl
  · omega
  · omega
  · congr 1; omega

theorem pieceN_lt {c : Cyl} {k : Nat} (h : k < (stepsOf c).length) : pieceN c k < c.pcs.length := by
  unfold pieceN
  rw [List.getElem?_eq_getElem h]
  have := (isStep_iff c (stepsOf c)[k]).2 (List.getElem_mem h)
  unfold isStep at this
  simp only [Bool.and_eq_true, decide_eq_true_eq] at this
  simp only [Option.map_some, Option.getD_some]
  omega
theorem pieceN_eq {c : Cyl} {k : Nat} {s : St} (h : (stepsOf c)[k]? = some s) : s.p = (pieceN c k : Int) := by
  unfold pieceN
  rw [h]
  have := (isStep_iff c s).2 (List.mem_of_getElem? h)
  unfold isStep at this
  simp only [Bool.and_eq_true, decide_eq_true_eq] at this
  simp only [Option.map_some, Option.getD_some]
  omega
theorem fitN_at {c : Cyl} {i k : Nat} {s t : St} (h : (stepsOf c)[i]? = some s) (h' : (stepsOf c)[k]? = some t) : fitN c i k = fitsS c s t := by
  unfold fitN
  rw [h, h']
theorem steps_le (c : Cyl) (h : c.pcs.length ≤ 8) : (stepsOf c).length ≤ 16 := by
  have := (stepsGo_len c.pcs 0).2
  unfold stepsOf
  omega
theorem testBit_on (c : Cyl) (used k i : Nat) : (onN c used k).testBit i = (used.testBit i || decide (pieceN c k = i)) := by
  unfold onN
  rw [Nat.testBit_or, Nat.testBit_two_pow]
theorem on_lt {c : Cyl} {u k : Nat} (hu : u < 2 ^ c.pcs.length) (hk : k < (stepsOf c).length) : onN c u k < 2 ^ c.pcs.length :=
  Nat.or_lt_two_pow hu (Nat.pow_lt_pow_right (by omega) (pieceN_lt hk))
theorem cnt_le (u : Nat) : ∀ n, cnt n u ≤ n
  | 0 => Nat.le_refl _
  | n + 1 => by have := cnt_le u n; unfold cnt; split <;> omega
theorem cnt_congr {u v : Nat} : ∀ n, (∀ i, i < n → u.testBit i = v.testBit i) → cnt n u = cnt n v
  | 0, _ => rfl
  | n + 1, h => by unfold cnt; rw [cnt_congr n fun i hi => h i (by omega), h n (by omega)]
theorem cnt_set {u v p : Nat} (hu : u.testBit p = false) (hv : ∀ i, v.testBit i = (u.testBit i || decide (p = i))) : ∀ n, p < n → cnt n v = cnt n u + 1
  | 0, h => by omega
  | n + 1, h => by
    unfold cnt
    by_cases hp : p = n
    · subst hp
      rw [cnt_congr p (u := v) (v := u) fun i hi => by rw [hv]; simp; omega, hv, hu]
      simp
    · rw [cnt_set hu hv n (by omega), hv n]
      have : decide (p = n) = false := by simpa using hp
      rw [this, Bool.or_false]
      omega
theorem cnt_on {c : Cyl} {u k : Nat} (hk : k < (stepsOf c).length) (h : u.testBit (pieceN c k) = false) : cnt c.pcs.length (onN c u k) = cnt c.pcs.length u + 1 :=
  cnt_set h (testBit_on c u k) _ (pieceN_lt hk)
theorem cnt_full (m : Nat) : ∀ n, n ≤ m → cnt n (2 ^ m - 1) = n
  | 0, _ => rfl
  | n + 1, h => by
    unfold cnt
    rw [cnt_full m n (by omega), Nat.testBit_two_pow_sub_one]
    simp
    omega
theorem cnt_all {u : Nat} : ∀ n, cnt n u = n → ∀ i, i < n → u.testBit i = true
  | 0, _, i, hi => by omega
  | n + 1, h, i, hi => by
    unfold cnt at h
    have := cnt_le u n
    by_cases hb : u.testBit n = true
    · rw [if_pos hb] at h
      by_cases hin : i = n
      · subst hin; exact hb
      · exact cnt_all n (by omega) i (by omega)
    · rw [if_neg hb] at h
      omega
theorem cnt_lt {n u : Nat} (hu : u < 2 ^ n) (hne : u ≠ 2 ^ n - 1) : cnt n u < n := by
  have h1 := cnt_le u n
  rcases Nat.lt_or_ge (cnt n u) n with h | h
  · exact h
  · refine absurd (Nat.eq_of_testBit_eq fun i => ?_) hne
    rw [Nat.testBit_two_pow_sub_one]
    by_cases hi : i < n
    · rw [cnt_all n (by omega) i hi]; simp [hi]
    · rw [Nat.testBit_lt_two_pow (Nat.lt_of_lt_of_le hu (Nat.pow_le_pow_right (by omega) (by omega)))]; simp [hi]
theorem cnt_zero : ∀ n, cnt n 0 = 0
  | 0 => rfl
  | n + 1 => by unfold cnt; rw [cnt_zero n]; simp
theorem cnt_pos {u p : Nat} (h : u.testBit p = true) : ∀ n, p < n → 0 < cnt n u
  | 0, hp => by omega
  | n + 1, hp => by
    unfold cnt
    by_cases hpn : p = n
    · subst hpn; rw [if_pos h]; omega
    · have := cnt_pos h n (by omega); omega

theorem mem_next {c : Cyl} {u k : Nat} {o : Option Nat} : k ∈ nextN c u o ↔ k < (stepsOf c).length ∧ canGo c u o k = true := by
  unfold nextN
  rw [List.mem_filter, List.mem_range]
theorem canGo_free {c : Cyl} {u k : Nat} {o : Option Nat} (h : canGo c u o k = true) : u.testBit (pieceN c k) = false := by
  unfold canGo at h
  simp only [Bool.and_eq_true, Bool.not_eq_true'] at h
  exact h.1

theorem left_full (c : Cyl) (o : Option Nat) : leftN c (2 ^ c.pcs.length - 1) o = 1 := by
  unfold leftN
  rw [cnt_full _ _ (Nat.le_refl _), Nat.sub_self]
  rfl
theorem sum_congr {α : Type} {f g : α → Nat} : ∀ {l : List α}, (∀ x ∈ l, f x = g x) → (l.map f).sum = (l.map g).sum
  | [], _ => rfl
  | x :: r, h => by
    rw [List.map_cons, List.map_cons, List.sum_cons, List.sum_cons, h x List.mem_cons_self, sum_congr fun y hy => h y (List.mem_cons_of_mem _ hy)]
theorem left_step {c : Cyl} {u : Nat} {o : Option Nat} (hu : u < 2 ^ c.pcs.length) (hne : u ≠ 2 ^ c.pcs.length - 1) :
    leftN c u o = ((nextN c u o).map fun k => leftN c (onN c u k) (some k)).sum := by
  have h1 := cnt_lt hu hne
  unfold leftN
  obtain ⟨f, hf⟩ : ∃ f, c.pcs.length - cnt c.pcs.length u = f + 1 := ⟨c.pcs.length - cnt c.pcs.length u - 1, by omega⟩
  rw [hf, goOn, List.length_flatMap]
  refine sum_congr fun k hk => ?_
  obtain ⟨h2, h3⟩ := mem_next.1 hk
  rw [List.length_map, cnt_on h2 (canGo_free h3)]
  congr 2
  omega
theorem sum_le {α : Type} {f : α → Nat} {b : Nat} : ∀ {l : List α}, (∀ x ∈ l, f x ≤ b) → (l.map f).sum ≤ l.length * b
  | [], _ => by simp
  | x :: r, h => by
    have h1 := h x List.mem_cons_self
    have h2 := sum_le (l := r) fun y hy => h y (List.mem_cons_of_mem _ hy)
    rw [List.map_cons, List.sum_cons, List.length_cons, Nat.succ_mul]
    omega
theorem next_len (c : Cyl) (u : Nat) (o : Option Nat) : (nextN c u o).length ≤ (stepsOf c).length := by
  unfold nextN
  exact Nat.le_trans (List.length_filter_le _ _) (by simp)
theorem goOn_len {c : Cyl} (hm : (stepsOf c).length ≤ 16) : ∀ (f u : Nat) (o : Option Nat), (goOn c f u o).length ≤ 16 ^ f
  | 0, _, _ => by simp [goOn]
  | f + 1, u, o => by
    rw [goOn, List.length_flatMap]
    refine Nat.le_trans (sum_le (b := 16 ^ f) fun k _ => ?_) ?_
    · rw [List.length_map]; exact goOn_len hm f _ _
    · rw [Nat.pow_succ, Nat.mul_comm]
      exact Nat.mul_le_mul_left _ (Nat.le_trans (next_len c u o) hm)
theorem left_le {c : Cyl} (hm : (stepsOf c).length ≤ 16) (u : Nat) (o : Option Nat) : leftN c u o ≤ 16 ^ (c.pcs.length - cnt c.pcs.length u) := goOn_len hm _ _ _
theorem left_small {c : Cyl} (h8 : c.pcs.length ≤ 8) (u : Nat) (o : Option Nat) : leftN c u o ≤ 4294967296 := by
  refine Nat.le_trans (left_le (steps_le c h8) u o) ?_
  exact Nat.le_trans (Nat.pow_le_pow_right (by omega) (show c.pcs.length - cnt c.pcs.length u ≤ 8 by omega)) (by decide)

/-! ### the ways to a state -/
def offN (c : Cyl) (u k : Nat) : Nat := onN c u k ^^^ 2 ^ pieceN c k
theorem testBit_off (c : Cyl) (u k i : Nat) : (offN c u k).testBit i = (u.testBit i && !decide (pieceN c k = i)) := by
  unfold offN
  rw [Nat.testBit_xor, testBit_on, Nat.testBit_two_pow]
  cases u.testBit i <;> cases decide (pieceN c k = i) <;> rfl
theorem off_le_bit (c : Cyl) (u k : Nat) : (offN c u k).testBit (pieceN c k) = false := by rw [testBit_off]; simp
theorem off_lt {c : Cyl} {u k : Nat} (hu : u < 2 ^ c.pcs.length) : offN c u k < 2 ^ c.pcs.length := by
  refine Nat.lt_pow_two_of_testBit _ fun i hi => ?_
  rw [testBit_off, Nat.testBit_lt_two_pow (Nat.lt_of_lt_of_le hu (Nat.pow_le_pow_right (by omega) hi))]
  rfl
theorem on_off {c : Cyl} {u k : Nat} (h : u.testBit (pieceN c k) = true) : onN c (offN c u k) k = u := by
  refine Nat.eq_of_testBit_eq fun i => ?_
  rw [testBit_on, testBit_off]
  by_cases hi : pieceN c k = i
  · subst hi; simp [h]
  · simp [hi]
theorem off_on {c : Cyl} {u k : Nat} (h : u.testBit (pieceN c k) = false) : offN c (onN c u k) k = u := by
  refine Nat.eq_of_testBit_eq fun i => ?_
  rw [testBit_off, testBit_on]
  by_cases hi : pieceN c k = i
  · subst hi; simp [h]
  · simp [hi]
theorem cnt_off {c : Cyl} {u k : Nat} (hk : k < (stepsOf c).length) (h : u.testBit (pieceN c k) = true) : cnt c.pcs.length u = cnt c.pcs.length (offN c u k) + 1 := by
  have := cnt_on hk (off_le_bit c u k)
  rwa [on_off h] at this
/-- the steps that may come just before a step, among those whose pieces are used -/
def prevN (c : Cyl) (old i : Nat) : List Nat := (List.range (stepsOf c).length).filter fun k => old.testBit (pieceN c k) && fitN c k i
def comeF (c : Cyl) : Nat → Nat → Nat → Nat
  | 0, _, _ => 0
  | f + 1, u, i => if offN c u i = 0 then 1 else ((prevN c (offN c u i) i).map fun k => comeF c f (offN c u i) k).sum
def comeN (c : Cyl) (u i : Nat) : Nat := comeF c (cnt c.pcs.length u) u i
theorem come_one {c : Cyl} {u i : Nat} (hi : i < (stepsOf c).length) (h : u.testBit (pieceN c i) = true) (h0 : offN c u i = 0) : comeN c u i = 1 := by
  unfold comeN
  rw [cnt_off hi h, comeF, if_pos h0]
theorem come_step {c : Cyl} {u i : Nat} (hi : i < (stepsOf c).length) (h : u.testBit (pieceN c i) = true) (h0 : offN c u i ≠ 0) : comeN c u i = ((prevN c (offN c u i) i).map fun k => comeN c (offN c u i) k).sum := by
  unfold comeN
  rw [cnt_off hi h, comeF, if_neg h0]
theorem prev_len (c : Cyl) (old i : Nat) : (prevN c old i).length ≤ (stepsOf c).length := by
  unfold prevN
  exact Nat.le_trans (List.length_filter_le _ _) (by simp)
theorem mem_prev {c : Cyl} {old i k : Nat} : k ∈ prevN c old i ↔ k < (stepsOf c).length ∧ old.testBit (pieceN c k) = true ∧ fitN c k i = true := by
  unfold prevN
  rw [List.mem_filter, List.mem_range, Bool.and_eq_true]
theorem comeF_le {c : Cyl} (hm : (stepsOf c).length ≤ 16) : ∀ (f u i : Nat), comeF c (f + 1) u i ≤ 16 ^ f
  | 0, u, i => by
    rw [comeF]
    split
    · simp
    · refine Nat.le_trans (sum_le (b := 0) fun k _ => by simp [comeF]) (by simp)
  | f + 1, u, i => by
    rw [comeF]
    split
    · exact Nat.one_le_pow _ _ (by omega)
    · refine Nat.le_trans (sum_le (b := 16 ^ f) fun k _ => comeF_le hm f _ _) ?_
      rw [Nat.pow_succ, Nat.mul_comm]
      exact Nat.mul_le_mul_left _ (Nat.le_trans (prev_len c _ _) hm)
theorem come_le {c : Cyl} (hm : (stepsOf c).length ≤ 16) (u i : Nat) : comeN c u i ≤ 16 ^ (cnt c.pcs.length u - 1) := by
  unfold comeN
  cases h : cnt c.pcs.length u with
  | zero => simp [comeF]
  | succ f => simpa using comeF_le hm f u i
theorem come_small {c : Cyl} (h8 : c.pcs.length ≤ 8) (u i : Nat) : comeN c u i ≤ 268435456 := by
  refine Nat.le_trans (come_le (steps_le c h8) u i) ?_
  have := cnt_le u c.pcs.length
  exact Nat.le_trans (Nat.pow_le_pow_right (by omega) (show cnt c.pcs.length u - 1 ≤ 7 by omega)) (by decide)

/-! ### the pairs -/
/-- how many joins have the pair behind these pieces -/
def termN (c : Cyl) (i k u : Nat) : Nat := if u.testBit (pieceN c i) = true ∧ k ∈ nextN c u (some i) then comeN c u i * leftN c (onN c u k) (some k) else 0
def pairsTo (c : Cyl) (i k : Nat) : Nat → Nat
  | 0 => 0
  | u + 1 => pairsTo c i k u + termN c i k u
def pairN (c : Cyl) (i k : Nat) : Nat := pairsTo c i k (2 ^ c.pcs.length)
theorem prod_le {c : Cyl} (h8 : c.pcs.length ≤ 8) {i k u : Nat} (hi : i < (stepsOf c).length) (hb : u.testBit (pieceN c i) = true) (hk : k ∈ nextN c u (some i)) : comeN c u i * leftN c (onN c u k) (some k) ≤ 16777216 := by
  have hm := steps_le c h8
  obtain ⟨h1, h2⟩ := mem_next.1 hk
  have h3 := canGo_free h2
  have h4 := cnt_on h1 h3
  have h5 := cnt_pos hb _ (pieceN_lt hi)
  have h6 := cnt_le (onN c u k) c.pcs.length
  refine Nat.le_trans (Nat.mul_le_mul (come_le hm u i) (left_le hm _ _)) ?_
  rw [← Nat.pow_add]
  exact Nat.le_trans (Nat.pow_le_pow_right (by omega) (show _ ≤ 6 by omega)) (by decide)
theorem termN_le {c : Cyl} (h8 : c.pcs.length ≤ 8) {i k u : Nat} (hi : i < (stepsOf c).length) : termN c i k u ≤ 16777216 := by
  unfold termN
  split
  · rename_i h; exact prod_le h8 hi h.1 h.2
  · omega
theorem pairsTo_le {c : Cyl} (h8 : c.pcs.length ≤ 8) {i k : Nat} (hi : i < (stepsOf c).length) : ∀ u, pairsTo c i k u ≤ u * 16777216
  | 0 => by simp [pairsTo]
  | u + 1 => by
    have h1 := pairsTo_le h8 (k := k) hi u
    have h2 := termN_le h8 (k := k) (u := u) hi
    rw [pairsTo, Nat.succ_mul]
    omega
theorem pow8 {n : Nat} (h : n ≤ 8) : 2 ^ n ≤ 256 := Nat.le_trans (Nat.pow_le_pow_right (by omega) h) (by decide)
theorem pairN_le {c : Cyl} (h8 : c.pcs.length ≤ 8) {i k : Nat} (hi : i < (stepsOf c).length) : pairN c i k ≤ 4294967296 := by
  have := pairsTo_le h8 (k := k) hi (2 ^ c.pcs.length)
  have h2 := pow8 h8
  unfold pairN
  omega
/-- some join has the step -/
def joinedN (c : Cyl) (i : Nat) : Bool := (List.range (2 ^ c.pcs.length)).any fun u => u.testBit (pieceN c i) && (decide (0 < comeN c u i) && decide (0 < leftN c u (some i)))
/-- the number of a list that goes on from a state -/
def rankN (c : Cyl) : Nat → Option Nat → List Nat → Nat
  | _, _, [] => 0
  | u, o, k :: r => (((nextN c u o).filter fun j => decide (j < k)).map fun j => leftN c (onN c u j) (some j)).sum + rankN c (onN c u k) (some k) r
end Go.Proofs.Ytjjjockfppomdaa

namespace Go.Proofs.Ytjjjockfppomdaa
set_option linter.unusedVariables false

def stepAt (c : Cyl) (k : Nat) : St := ((stepsOf c)[k]?).getD default
def sumL (c : Cyl) (u : Nat) (l : List Nat) : Nat := (l.map fun k => leftN c (onN c u k) (some k)).sum
theorem sumL_snoc (c : Cyl) (u : Nat) (l : List Nat) (k : Nat) : sumL c u (l ++ [k]) = sumL c u l + leftN c (onN c u k) (some k) := by simp [sumL]
theorem sumL_le {c : Cyl} (h8 : c.pcs.length ≤ 8) (u : Nat) (l : List Nat) : sumL c u l ≤ l.length * 4294967296 := sum_le fun k _ => left_small h8 _ _
theorem left_len {c : Cyl} {u k f : Nat} {o : Option Nat} (hf : c.pcs.length - cnt c.pcs.length u = f + 1) (hk : k ∈ nextN c u o) : leftN c (onN c u k) (some k) = (goOn c f (onN c u k) (some k)).length := by
  obtain ⟨h1, h2⟩ := mem_next.1 hk
  unfold leftN
  rw [cnt_on h1 (canGo_free h2)]
  congr 2
  omega
theorem flat_sum {c : Cyl} {u f : Nat} {o : Option Nat} (hf : c.pcs.length - cnt c.pcs.length u = f + 1) (l : List Nat) (hl : ∀ k ∈ l, k ∈ nextN c u o) :
    (l.flatMap fun k => (goOn c f (onN c u k) (some k)).map (k :: ·)).length = sumL c u l := by
  rw [List.length_flatMap]
  exact sum_congr fun k hk => by rw [List.length_map, left_len hf (hl k hk)]
theorem nth_hit {c : Cyl} {u f r y : Nat} {o : Option Nat} {pre : List Nat} (hf : c.pcs.length - cnt c.pcs.length u = f + 1) (hp : pre ++ [y] <+: nextN c u o) (h1 : sumL c u pre ≤ r) (h2 : r < sumL c u pre + leftN c (onN c u y) (some y)) :
    (goOn c (f + 1) u o)[r]? = ((goOn c f (onN c u y) (some y))[r - sumL c u pre]?).map (y :: ·) := by
  obtain ⟨rest, hr⟩ := hp
  have hmem : ∀ k ∈ pre ++ [y], k ∈ nextN c u o := fun k hk => by rw [← hr]; exact List.mem_append_left _ hk
  rw [left_len hf (hmem y (by simp))] at h2
  rw [goOn, ← hr, List.append_assoc, List.flatMap_append, List.getElem?_append_right (by rw [flat_sum hf pre fun k hk => hmem k (List.mem_append_left _ hk)]; exact h1), flat_sum hf pre fun k hk => hmem k (List.mem_append_left _ hk)]
  rw [List.singleton_append, List.flatMap_cons, List.getElem?_append_left (by rw [List.length_map]; omega), List.getElem?_map]
theorem sum_next {c : Cyl} {u f : Nat} {o : Option Nat} (hf : c.pcs.length - cnt c.pcs.length u = f + 1) : sumL c u (nextN c u o) = (goOn c (f + 1) u o).length := by
  rw [← flat_sum hf (nextN c u o) fun k hk => hk]
  rfl
end Go.Proofs.Ytjjjockfppomdaa

namespace Go.Proofs.Ytjjjockfppomdaa
set_option linter.unusedVariables false

def walk (c : Cyl) : Nat → Option Nat → List Nat → Prop
  | _, _, [] => True
  | u, o, k :: r => k ∈ nextN c u o ∧ walk c (onN c u k) (some k) r
def usedF (c : Cyl) (u : Nat) (l : List Nat) : Nat := l.foldl (onN c) u
def lastF (o : Option Nat) (l : List Nat) : Option Nat := l.foldl (fun _ k => some k) o
theorem mem_goOn {c : Cyl} : ∀ {f u : Nat} {o : Option Nat} {l : List Nat}, l ∈ goOn c f u o ↔ l.length = f ∧ walk c u o l
  | 0, u, o, l => by
    rw [goOn, List.mem_singleton]
    constructor
    · rintro rfl; exact ⟨rfl, trivial⟩
    · intro h; exact List.length_eq_zero_iff.1 h.1
  | f + 1, u, o, l => by
    rw [goOn, List.mem_flatMap]
    constructor
    · rintro ⟨k, hk, hl⟩
      obtain ⟨r, hr, rfl⟩ := List.mem_map.1 hl
      obtain ⟨h1, h2⟩ := mem_goOn.1 hr
      exact ⟨by simp [h1], hk, h2⟩
    · rintro ⟨h1, h2⟩
      cases l with
      | nil => simp at h1
      | cons k r =>
        exact ⟨k, h2.1, List.mem_map.2 ⟨r, mem_goOn.2 ⟨by simpa using h1, h2.2⟩, rfl⟩⟩
theorem walk_append {c : Cyl} : ∀ {a b : List Nat} {u : Nat} {o : Option Nat}, walk c u o (a ++ b) ↔ walk c u o a ∧ walk c (usedF c u a) (lastF o a) b
  | [], b, u, o => by simp [walk, usedF, lastF]
  | k :: a, b, u, o => by
    rw [List.cons_append, walk, walk, walk_append]
    simp only [usedF, lastF, List.foldl_cons, and_assoc]
theorem lastF_snoc (o : Option Nat) (l : List Nat) (k : Nat) : lastF o (l ++ [k]) = some k := by simp [lastF]
theorem usedF_snoc (c : Cyl) (u : Nat) (l : List Nat) (k : Nat) : usedF c u (l ++ [k]) = onN c (usedF c u l) k := by simp [usedF]
theorem usedF_bit (c : Cyl) (i : Nat) : ∀ (l : List Nat) (u : Nat), (usedF c u l).testBit i = (u.testBit i || l.any fun k => decide (pieceN c k = i))
  | [], u => by simp [usedF]
  | k :: r, u => by
    have := usedF_bit c i r (onN c u k)
    simp only [usedF, List.foldl_cons] at this ⊢
    rw [this, testBit_on, List.any_cons, Bool.or_assoc]
theorem walk_lt {c : Cyl} : ∀ {l : List Nat} {u : Nat} {o : Option Nat}, walk c u o l → ∀ k ∈ l, k < (stepsOf c).length
  | [], _, _, _, k, hk => by cases hk
  | j :: r, u, o, h, k, hk => by
    rcases List.mem_cons.1 hk with rfl | hk
    · exact (mem_next.1 h.1).1
    · exact walk_lt h.2 k hk
theorem walk_free {c : Cyl} : ∀ {l : List Nat} {u : Nat} {o : Option Nat}, walk c u o l → ∀ k ∈ l, u.testBit (pieceN c k) = false
  | [], _, _, _, k, hk => by cases hk
  | j :: r, u, o, h, k, hk => by
    rcases List.mem_cons.1 hk with rfl | hk
    · exact canGo_free (mem_next.1 h.1).2
    · have := walk_free h.2 k hk
      rw [testBit_on] at this
      exact (Bool.or_eq_false_iff.1 this).1
theorem walk_pieces {c : Cyl} : ∀ {l : List Nat} {u : Nat} {o : Option Nat}, walk c u o l → (l.map (pieceN c)).Nodup
  | [], _, _, _ => List.nodup_nil
  | j :: r, u, o, h => by
    rw [List.map_cons, List.nodup_cons]
    refine ⟨fun hj => ?_, walk_pieces h.2⟩
    obtain ⟨k, hk, he⟩ := List.mem_map.1 hj
    have := walk_free h.2 k hk
    rw [testBit_on, he] at this
    simp at this
theorem nodup_of_map {α β : Type} {f : α → β} {l : List α} (h : (l.map f).Nodup) : l.Nodup := by
  rw [List.Nodup, List.pairwise_map] at h
  exact h.imp fun hne e => hne (by rw [e])
theorem walk_nodup {c : Cyl} {l : List Nat} {u : Nat} {o : Option Nat} (h : walk c u o l) : l.Nodup := nodup_of_map (walk_pieces h)
theorem walk_cnt {c : Cyl} : ∀ {l : List Nat} {u : Nat} {o : Option Nat}, walk c u o l → cnt c.pcs.length (usedF c u l) = cnt c.pcs.length u + l.length
  | [], _, _, _ => rfl
  | j :: r, u, o, h => by
    have := walk_cnt h.2
    obtain ⟨h1, h2⟩ := mem_next.1 h.1
    rw [cnt_on h1 (canGo_free h2)] at this
    simp only [usedF, List.foldl_cons, List.length_cons] at this ⊢
    omega
theorem walk_used {c : Cyl} : ∀ {l : List Nat} {u : Nat} {o : Option Nat}, walk c u o l → u < 2 ^ c.pcs.length → usedF c u l < 2 ^ c.pcs.length
  | [], _, _, _, h => h
  | j :: r, u, o, h, hu => by
    obtain ⟨h1, h2⟩ := mem_next.1 h.1
    have := walk_used h.2 (on_lt hu h1)
    simpa only [usedF, List.foldl_cons] using this

/-! ### the order -/
def lexLt : List Nat → List Nat → Prop
  | a :: r, b :: s => a < b ∨ (a = b ∧ lexLt r s)
  | _, _ => False
theorem lexLt_irrefl : ∀ l, ¬ lexLt l l
  | [], h => h
  | a :: r, h => by rcases h with h | h; exact Nat.lt_irrefl _ h; exact lexLt_irrefl r h.2
theorem lexLt_asymm : ∀ {l m : List Nat}, lexLt l m → ¬ lexLt m l
  | [], _, h, _ => h
  | _ :: _, [], h, _ => h
  | a :: r, b :: s, h, h' => by
    rcases h with h | ⟨rfl, h⟩ <;> rcases h' with h' | ⟨h1, h'⟩
    · omega
    · omega
    · omega
    · exact lexLt_asymm h h'
theorem nextN_sorted (c : Cyl) (u : Nat) (o : Option Nat) : (nextN c u o).Pairwise (· < ·) := List.pairwise_lt_range.filter _
theorem goOn_sorted (c : Cyl) : ∀ (f u : Nat) (o : Option Nat), (goOn c f u o).Pairwise lexLt
  | 0, _, _ => by rw [goOn]; exact List.pairwise_singleton _ _
  | f + 1, u, o => by
    rw [goOn, List.pairwise_flatMap]
    refine ⟨fun k hk => ?_, (nextN_sorted c u o).imp fun hab x hx y hy => ?_⟩
    · rw [List.pairwise_map]
      exact (goOn_sorted c f _ _).imp fun h => .inr ⟨rfl, h⟩
    · obtain ⟨x', _, rfl⟩ := List.mem_map.1 hx
      obtain ⟨y', _, rfl⟩ := List.mem_map.1 hy
      exact .inl hab
theorem sorted_nodup {l : List (List Nat)} (h : l.Pairwise lexLt) : l.Nodup := h.imp fun h e => by subst e; exact lexLt_irrefl _ h
theorem goOn_nodup (c : Cyl) (f u : Nat) (o : Option Nat) : (goOn c f u o).Nodup := sorted_nodup (goOn_sorted c f u o)
theorem joins_sorted (c : Cyl) : (joinsN c).Pairwise lexLt := goOn_sorted c _ _ _
theorem joins_nodup (c : Cyl) : (joinsN c).Nodup := goOn_nodup c _ _ _
theorem mem_joins {c : Cyl} {l : List Nat} : l ∈ joinsN c ↔ l.length = c.pcs.length ∧ walk c 0 none l := mem_goOn

/-- the lists one longer, each made longer at its end -/
theorem goOn_snoc (c : Cyl) : ∀ (f u : Nat) (o : Option Nat), goOn c (f + 1) u o = (goOn c f u o).flatMap fun l => (nextN c (usedF c u l) (lastF o l)).map fun k => l ++ [k]
  | 0, u, o => by
    simp only [goOn, List.map_cons, List.map_nil, List.flatMap_cons, List.flatMap_nil, List.append_nil, usedF, lastF, List.foldl_nil, List.nil_append]
    induction nextN c u o with
    | nil => rfl
    | cons k r ih => rw [List.flatMap_cons, List.map_cons, ih]; rfl
  | f + 1, u, o => by
    rw [goOn]
    conv => rhs; rw [goOn]
    rw [List.flatMap_assoc]
    congr 1
    funext k
    rw [goOn_snoc c f, List.map_flatMap, List.flatMap_map]
    congr 1
    funext l
    rw [List.map_map]
    rfl

/-! ### how many joins have a pair -/
def comeP (c : Cyl) : Nat → Nat → Nat → List (List Nat)
  | 0, _, _ => []
  | f + 1, u, i => if offN c u i = 0 then [[i]] else (prevN c (offN c u i) i).flatMap fun k => (comeP c f (offN c u i) k).map (· ++ [i])
theorem comeP_len (c : Cyl) : ∀ (f u i : Nat), (comeP c f u i).length = comeF c f u i
  | 0, _, _ => rfl
  | f + 1, u, i => by
    rw [comeP, comeF]
    split
    · rfl
    · rw [List.length_flatMap]
      exact sum_congr fun k _ => by rw [List.length_map, comeP_len c f]
theorem usedF_zero {c : Cyl} {l : List Nat} (h : usedF c 0 l = 0) : l = [] := by
  cases l with
  | nil => rfl
  | cons k r =>
    have := usedF_bit c (pieceN c k) (k :: r) 0
    rw [h] at this
    simp at this
theorem mem_comeP {c : Cyl} : ∀ {f u i : Nat}, u < 2 ^ c.pcs.length → i < (stepsOf c).length → u.testBit (pieceN c i) = true → cnt c.pcs.length u = f → ∀ {l : List Nat}, l ∈ comeP c f u i ↔ ∃ p, l = p ++ [i] ∧ walk c 0 none l ∧ usedF c 0 l = u
  | 0, u, i, hu, hi, hb, hf, l => by
    have := cnt_pos hb _ (pieceN_lt hi)
    omega
  | f + 1, u, i, hu, hi, hb, hf, l => by
    have hc := cnt_off hi hb
    rw [comeP]
    constructor
    · intro h
      split at h
      · rename_i h0
        rw [List.mem_singleton] at h
        subst h
        refine ⟨[], rfl, ⟨mem_next.2 ⟨hi, by simp [canGo]⟩, trivial⟩, ?_⟩
        show onN c 0 i = u
        rw [← h0, on_off hb]
      · obtain ⟨k, hk, hl⟩ := List.mem_flatMap.1 h
        obtain ⟨q, hq, rfl⟩ := List.mem_map.1 hl
        obtain ⟨k1, k2, k3⟩ := mem_prev.1 hk
        obtain ⟨p, rfl, h1, h2⟩ := (mem_comeP (off_lt hu) k1 k2 (by omega)).1 hq
        refine ⟨_, rfl, walk_append.2 ⟨h1, ?_, trivial⟩, ?_⟩
        · rw [h2, lastF_snoc, mem_next]
          refine ⟨hi, ?_⟩
          simp only [canGo, off_le_bit, Bool.not_false, Bool.true_and]
          exact k3
        · rw [usedF_snoc, h2, on_off hb]
    · rintro ⟨p, rfl, h1, h2⟩
      obtain ⟨h3, h4, -⟩ := walk_append.1 h1
      rw [usedF_snoc] at h2
      obtain ⟨h5, h6⟩ := mem_next.1 h4
      have h7 : usedF c 0 p = offN c u i := by rw [← h2, off_on (canGo_free h6)]
      split
      · rename_i h0
        rw [h0] at h7
        rw [usedF_zero h7, List.nil_append]
        exact List.mem_singleton.2 rfl
      · rename_i h0
        rcases List.eq_nil_or_concat p with rfl | ⟨p', k, rfl⟩
        · exact absurd h7.symm h0
        · rw [List.concat_eq_append] at *
          have hk : k < (stepsOf c).length := walk_lt h3 k (by simp)
          rw [lastF_snoc] at h6
          have hfit : fitN c k i = true := by
            simp only [canGo, Bool.and_eq_true] at h6
            exact h6.2
          have hbk : (offN c u i).testBit (pieceN c k) = true := by
            rw [← h7, usedF_bit]; simp
          refine List.mem_flatMap.2 ⟨k, mem_prev.2 ⟨hk, hbk, hfit⟩, List.mem_map.2 ⟨_, (mem_comeP (off_lt hu) hk hbk (by omega)).2 ⟨p', rfl, h3, h7⟩, rfl⟩⟩
theorem comeP_nodup {c : Cyl} : ∀ (f u i : Nat), (∀ k ∈ prevN c u i, True) → (comeP c f u i).Nodup
  | 0, _, _, _ => List.nodup_nil
  | f + 1, u, i, _ => by
    rw [comeP]
    split
    · exact List.pairwise_singleton _ _
    · rw [List.Nodup, List.pairwise_flatMap]
      refine ⟨fun k hk => ?_, ?_⟩
      · rw [List.pairwise_map]
        exact (comeP_nodup f _ _ fun _ _ => trivial).imp fun h e => h (List.append_cancel_right e)
      · have hs : (prevN c (offN c u i) i).Pairwise (· < ·) := List.pairwise_lt_range.filter _
        refine hs.imp fun hab x hx y hy e => ?_
        obtain ⟨x', hx', rfl⟩ := List.mem_map.1 hx
        obtain ⟨y', hy', rfl⟩ := List.mem_map.1 hy
        have e := List.append_cancel_right e
        subst e
        have key : ∀ (f u i : Nat) (l : List Nat), l ∈ comeP c f u i → lastF none l = some i := by
          intro f
          cases f with
          | zero => intro u i l hl; simp [comeP] at hl
          | succ f =>
            intro u i l hl
            rw [comeP] at hl
            split at hl
            · rw [List.mem_singleton.1 hl]; rfl
            · obtain ⟨k, _, hk⟩ := List.mem_flatMap.1 hl
              obtain ⟨q, _, rfl⟩ := List.mem_map.1 hk
              exact lastF_snoc _ _ _
        have e1 := key _ _ _ _ hx'
        rw [key _ _ _ _ hy'] at e1
        injection e1 with e1
        omega
/-- a list has a pair -/
def hasN (i k : Nat) : List Nat → Bool
  | [] => false
  | [_] => false
  | a :: b :: r => (a == i && b == k) || hasN i k (b :: r)
theorem hasN_iff {i k : Nat} : ∀ {l : List Nat}, hasN i k l = true ↔ ∃ a b, l = a ++ i :: k :: b
  | [] => by simp [hasN]
  | [x] => by
    simp only [hasN, Bool.false_eq_true, false_iff]
    rintro ⟨a, b, h⟩
    have := congrArg List.length h
    simp at this
    omega
  | x :: y :: r => by
    rw [hasN, Bool.or_eq_true, hasN_iff]
    constructor
    · rintro (h | ⟨a, b, h⟩)
      · simp only [Bool.and_eq_true, beq_iff_eq] at h
        exact ⟨[], r, by rw [h.1, h.2]; rfl⟩
      · exact ⟨x :: a, b, by rw [h]; rfl⟩
    · rintro ⟨a, b, h⟩
      cases a with
      | nil =>
        simp only [List.nil_append, List.cons.injEq] at h
        exact .inl (by simp [h.1, h.2.1])
      | cons z a =>
        simp only [List.cons_append, List.cons.injEq] at h
        exact .inr ⟨a, b, h.2⟩
def pairL (c : Cyl) (i k u : Nat) : List (List Nat) :=
  if u.testBit (pieceN c i) = true ∧ k ∈ nextN c u (some i) then (comeP c (cnt c.pcs.length u) u i).flatMap fun p => (goOn c (c.pcs.length - cnt c.pcs.length (onN c u k)) (onN c u k) (some k)).map fun s => p ++ k :: s else []
theorem pairL_len (c : Cyl) (i k u : Nat) : (pairL c i k u).length = termN c i k u := by
  unfold pairL termN
  split
  · rw [List.length_flatMap]
    have h : ∀ (l : List (List Nat)) (m : Nat), (l.map fun p => m).sum = l.length * m := by
      intro l m
      induction l with
      | nil => simp
      | cons x r ih => rw [List.map_cons, List.sum_cons, ih, List.length_cons, Nat.succ_mul]; omega
    have h2 : ((comeP c (cnt c.pcs.length u) u i).map fun p => ((goOn c (c.pcs.length - cnt c.pcs.length (onN c u k)) (onN c u k) (some k)).map fun s => p ++ k :: s).length) = (comeP c (cnt c.pcs.length u) u i).map fun _ => leftN c (onN c u k) (some k) :=
      List.map_congr_left fun p _ => by rw [List.length_map]; rfl
    rw [h2, h, comeP_len]
    rfl
  · rfl
theorem mem_pairL {c : Cyl} {i k u : Nat} (hu : u < 2 ^ c.pcs.length) (hi : i < (stepsOf c).length) {l : List Nat} : l ∈ pairL c i k u ↔ ∃ p s, l = (p ++ [i]) ++ k :: s ∧ l ∈ joinsN c ∧ usedF c 0 (p ++ [i]) = u := by
  unfold pairL
  constructor
  · intro h
    split at h
    · rename_i hc
      obtain ⟨q, hq, hl⟩ := List.mem_flatMap.1 h
      obtain ⟨s, hs, rfl⟩ := List.mem_map.1 hl
      obtain ⟨p, rfl, h1, h2⟩ := (mem_comeP hu hi hc.1 rfl).1 hq
      obtain ⟨h3, h4⟩ := mem_goOn.1 hs
      obtain ⟨h5, h6⟩ := mem_next.1 hc.2
      have h7 := walk_cnt h1
      rw [h2, cnt_zero] at h7
      have h8 := cnt_on h5 (canGo_free h6)
      have h9 := cnt_le (onN c u k) c.pcs.length
      refine ⟨p, s, rfl, mem_joins.2 ⟨?_, walk_append.2 ⟨h1, ?_⟩⟩, h2⟩
      · rw [List.length_append, List.length_cons, h3]
        omega
      · rw [h2, lastF_snoc]
        exact ⟨hc.2, h4⟩
    · cases h
  · rintro ⟨p, s, rfl, hj, h2⟩
    obtain ⟨h3, h4⟩ := mem_joins.1 hj
    obtain ⟨h5, h6⟩ := walk_append.1 h4
    rw [h2, lastF_snoc] at h6
    have hb : u.testBit (pieceN c i) = true := by rw [← h2, usedF_bit]; simp
    rw [if_pos ⟨hb, h6.1⟩]
    refine List.mem_flatMap.2 ⟨_, (mem_comeP hu hi hb rfl).2 ⟨p, rfl, h5, h2⟩, List.mem_map.2 ⟨s, mem_goOn.2 ⟨?_, h6.2⟩, rfl⟩⟩
    have h7 := walk_cnt h5
    rw [h2, cnt_zero] at h7
    obtain ⟨h8, h9⟩ := mem_next.1 h6.1
    have h10 := cnt_on h8 (canGo_free h9)
    rw [List.length_append, List.length_cons] at h3
    omega
def allPairL (c : Cyl) (i k : Nat) : List (List Nat) := (List.range (2 ^ c.pcs.length)).flatMap (pairL c i k)
theorem allPairL_len (c : Cyl) (i k : Nat) : (allPairL c i k).length = pairN c i k := by
  unfold allPairL pairN
  rw [List.length_flatMap]
  induction 2 ^ c.pcs.length with
  | zero => rfl
  | succ n ih => rw [List.range_succ, List.map_append, List.sum_append, ih, pairsTo]; simp [pairL_len]
theorem split_once {l p s p' s' : List Nat} {k : Nat} (hn : l.Nodup) (h : l = p ++ k :: s) (h' : l = p' ++ k :: s') : p = p' ∧ s = s' := by
  have key : ∀ {p p' s s' : List Nat}, (p ++ k :: s).Nodup → p ++ k :: s = p' ++ k :: s' → p = p' := by
    intro p
    induction p with
    | nil =>
      intro p' s s' hn he
      cases p' with
      | nil => rfl
      | cons x r =>
        simp only [List.nil_append, List.cons_append, List.cons.injEq] at he
        obtain ⟨rfl, he⟩ := he
        rw [he] at hn
        simp at hn
    | cons x r ih =>
      intro p' s s' hn he
      cases p' with
      | nil =>
        simp only [List.nil_append, List.cons_append, List.cons.injEq] at he
        obtain ⟨rfl, he⟩ := he
        simp at hn
      | cons y r' =>
        simp only [List.cons_append, List.cons.injEq] at he
        obtain ⟨rfl, he⟩ := he
        rw [List.cons_append, List.nodup_cons] at hn
        rw [ih hn.2 he]
  have e := key (h ▸ hn) (h ▸ h')
  subst e
  rw [h] at h'
  have := List.append_cancel_left h'
  simp only [List.cons.injEq, true_and] at this
  exact ⟨rfl, this⟩
theorem pairL_nodup {c : Cyl} {i k u : Nat} (hu : u < 2 ^ c.pcs.length) (hi : i < (stepsOf c).length) : (pairL c i k u).Nodup := by
  have hall : ∀ l ∈ pairL c i k u, l.Nodup := fun l hl => by
    obtain ⟨p, s, _, hj, _⟩ := (mem_pairL hu hi).1 hl
    exact walk_nodup (mem_joins.1 hj).2
  unfold pairL at hall ⊢
  split
  · rename_i hc
    rw [if_pos hc] at hall
    rw [List.Nodup, List.pairwise_flatMap]
    refine ⟨fun p hp => ?_, ?_⟩
    · rw [List.pairwise_map]
      refine List.Pairwise.imp (fun h e => h ?_) (goOn_nodup c _ _ _)
      have := List.append_cancel_left e
      simpa using this
    · refine List.Pairwise.imp_of_mem (fun {p p'} hp hp' h x hx y hy e => h ?_) (comeP_nodup (c := c) (cnt c.pcs.length u) u i fun _ _ => trivial)
      subst e
      obtain ⟨s, _, hs⟩ := List.mem_map.1 hx
      obtain ⟨s', _, hs'⟩ := List.mem_map.1 hy
      exact (split_once (hall x (List.mem_flatMap.2 ⟨p, hp, hx⟩)) hs.symm hs'.symm).1
  · exact List.nodup_nil
theorem allPairL_nodup {c : Cyl} {i k : Nat} (hi : i < (stepsOf c).length) : (allPairL c i k).Nodup := by
  unfold allPairL
  rw [List.Nodup, List.pairwise_flatMap]
  refine ⟨fun u hu => pairL_nodup (List.mem_range.1 hu) hi, ?_⟩
  refine List.Pairwise.imp_of_mem (fun {u u'} hu hu' h x hx y hy e => ?_) List.pairwise_lt_range
  subst e
  obtain ⟨p, s, h1, hj, h2⟩ := (mem_pairL (List.mem_range.1 hu) hi).1 hx
  obtain ⟨p', s', h1', _, h2'⟩ := (mem_pairL (List.mem_range.1 hu') hi).1 hy
  have := (split_once (walk_nodup (mem_joins.1 hj).2) h1 h1').1
  rw [this, h2'] at h2
  omega
/-- pairN is how many joins have the pair -/
theorem pairN_eq {c : Cyl} {i k : Nat} (hi : i < (stepsOf c).length) : pairN c i k = ((joinsN c).filter (hasN i k)).length := by
  rw [← allPairL_len]
  refine List.Perm.length_eq ((List.perm_ext_iff_of_nodup (allPairL_nodup hi) (List.Pairwise.filter _ (joins_nodup c))).2 fun l => ?_)
  rw [List.mem_filter, hasN_iff]
  unfold allPairL
  rw [List.mem_flatMap]
  constructor
  · rintro ⟨u, hu, hl⟩
    obtain ⟨p, s, h1, h2, h3⟩ := (mem_pairL (List.mem_range.1 hu) hi).1 hl
    exact ⟨h2, p, s, by rw [h1]; simp⟩
  · rintro ⟨hj, a, b, rfl⟩
    have hw := (mem_joins.1 hj).2
    have e : a ++ i :: k :: b = (a ++ [i]) ++ k :: b := by simp
    rw [e] at hj hw ⊢
    have hu := walk_used (walk_append.1 hw).1 (Nat.two_pow_pos _)
    exact ⟨_, List.mem_range.2 hu, (mem_pairL hu hi).2 ⟨a, b, rfl, hj, rfl⟩⟩
theorem joinedN_eq {c : Cyl} {i : Nat} (hi : i < (stepsOf c).length) : joinedN c i = (joinsN c).any fun l => l.contains i := by
  rw [Bool.eq_iff_iff]
  unfold joinedN
  simp only [List.any_eq_true, List.mem_range, Bool.and_eq_true, decide_eq_true_eq, List.contains_iff_mem]
  constructor
  · rintro ⟨u, hu, hb, h1, h2⟩
    unfold comeN at h1
    rw [← comeP_len] at h1
    unfold leftN at h2
    obtain ⟨q, hq⟩ := List.exists_mem_of_length_pos h1
    obtain ⟨s, hs⟩ := List.exists_mem_of_length_pos h2
    obtain ⟨p, rfl, h3, h4⟩ := (mem_comeP hu hi hb rfl).1 hq
    obtain ⟨h5, h6⟩ := mem_goOn.1 hs
    have h7 := walk_cnt h3
    rw [h4, cnt_zero] at h7
    have h8 := cnt_le u c.pcs.length
    refine ⟨(p ++ [i]) ++ s, mem_joins.2 ⟨by rw [List.length_append, h5]; omega, walk_append.2 ⟨h3, ?_⟩⟩, by simp⟩
    rw [h4, lastF_snoc]
    exact h6
  · rintro ⟨l, hl, hi'⟩
    obtain ⟨h1, h2⟩ := mem_joins.1 hl
    obtain ⟨a, b, rfl⟩ := List.append_of_mem hi'
    have e : a ++ i :: b = (a ++ [i]) ++ b := by simp
    rw [e] at h1 h2
    obtain ⟨h3, h4⟩ := walk_append.1 h2
    rw [lastF_snoc] at h4
    have hu := walk_used h3 (Nat.two_pow_pos _)
    have hb : (usedF c 0 (a ++ [i])).testBit (pieceN c i) = true := by rw [usedF_bit]; simp
    have h7 := walk_cnt h3
    rw [cnt_zero] at h7
    refine ⟨_, hu, hb, ?_, ?_⟩
    · unfold comeN
      rw [← comeP_len]
      exact List.length_pos_of_mem ((mem_comeP hu hi hb rfl).2 ⟨a, rfl, h3, rfl⟩)
    · unfold leftN
      refine List.length_pos_of_mem (mem_goOn.2 ⟨?_, h4⟩)
      rw [List.length_append] at h1
      omega

/-! ### the number of a join -/
theorem filter_lt_prefix {l : List Nat} (h : l.Pairwise (· < ·)) {k : Nat} (hk : k ∈ l) : (l.filter fun j => decide (j < k)) ++ [k] <+: l := by
  obtain ⟨a, b, rfl⟩ := List.append_of_mem hk
  rw [List.pairwise_append] at h
  obtain ⟨h1, h2, h3⟩ := h
  rw [List.pairwise_cons] at h2
  have e1 : a.filter (fun j => decide (j < k)) = a := List.filter_eq_self.2 fun x hx => by simpa using h3 x hx k (by simp)
  have e2 : (k :: b).filter (fun j => decide (j < k)) = [] := List.filter_eq_nil_iff.2 fun x hx => by
    rcases List.mem_cons.1 hx with rfl | hx
    · simp
    · have := h2.1 x hx; simp; omega
  rw [List.filter_append, e1, e2, List.append_nil]
  exact ⟨b, by simp⟩
theorem rank_nth {c : Cyl} : ∀ {f u : Nat} {o : Option Nat} {l : List Nat}, c.pcs.length - cnt c.pcs.length u = f → l ∈ goOn c f u o → (goOn c f u o)[rankN c u o l]? = some l
  | 0, u, o, l, hf, hl => by
    rw [goOn, List.mem_singleton] at hl
    subst hl
    simp [goOn, rankN]
  | f + 1, u, o, l, hf, hl => by
    obtain ⟨h1, h2⟩ := mem_goOn.1 hl
    cases l with
    | nil => simp at h1
    | cons k r =>
      obtain ⟨h3, h4⟩ := h2
      obtain ⟨h5, h6⟩ := mem_next.1 h3
      have h7 := cnt_on h5 (canGo_free h6)
      have hr : r ∈ goOn c f (onN c u k) (some k) := mem_goOn.2 ⟨by simpa using h1, h4⟩
      have ih := rank_nth (c := c) (f := f) (by omega) hr
      have hlt := (List.getElem?_eq_some_iff.1 ih).1
      have hp := filter_lt_prefix (nextN_sorted c u o) h3
      have hll := left_len hf h3
      rw [rankN]
      have hh := nth_hit (r := sumL c u ((nextN c u o).filter fun j => decide (j < k)) + rankN c (onN c u k) (some k) r) hf hp (by omega) (by omega)
      rw [Nat.add_sub_cancel_left, ih] at hh
      exact hh
theorem rank_join {c : Cyl} {l : List Nat} (h : l ∈ joinsN c) : (joinsN c)[rankN c 0 none l]? = some l := rank_nth (by rw [cnt_zero]; rfl) h
theorem rank_le {c : Cyl} (h8 : c.pcs.length ≤ 8) : ∀ (u : Nat) (o : Option Nat) (l : List Nat), rankN c u o l ≤ l.length * 68719476736
  | _, _, [] => by simp [rankN]
  | u, o, k :: r => by
    have ih := rank_le h8 (onN c u k) (some k) r
    have h1 : (((nextN c u o).filter fun j => decide (j < k)).map fun j => leftN c (onN c u j) (some j)).sum ≤ ((nextN c u o).filter fun j => decide (j < k)).length * 4294967296 := sum_le fun j _ => left_small h8 _ _
    have h2 : ((nextN c u o).filter fun j => decide (j < k)).length ≤ 16 := Nat.le_trans (List.length_filter_le _ _) (Nat.le_trans (next_len c u o) (steps_le c h8))
    rw [rankN, List.length_cons, Nat.succ_mul]
    omega
end Go.Proofs.Ytjjjockfppomdaa
