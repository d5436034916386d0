/- How joins go on: lists of step numbers, in order; how many there are. Nothing of the program is imported here. -/
import Derived.Test.YtjjjockfppomdaaPure
namespace Go.Proofs.Ytjjjockfppomdaa
set_option linter.unusedVariables false

def pieceN (c : Cyl) (k : Nat) : Nat := (((stepsOf c)[k]?).map fun s => s.p.toNat).getD 0
def fitN (c : Cyl) (i k : Nat) : Bool := match (stepsOf c)[i]?, (stepsOf c)[k]? with
  | some x, some y => fitsS c x y
  | _, _ => false
/-- a step that may come next: its piece is free, and it fits behind the last one, if there is one -/
def canGo (c : Cyl) (used : Nat) (last : Option Nat) (k : Nat) : Bool := !used.testBit (pieceN c k) && (match last with | none => true | some i => fitN c i k)
def onN (c : Cyl) (used k : Nat) : Nat := used ||| 2 ^ pieceN c k
def nextN (c : Cyl) (used : Nat) (last : Option Nat) : List Nat := (List.range (stepsOf c).length).filter (canGo c used last)
/-- the lists of step numbers that go on from a state over so many pieces, in order -/
def goOn (c : Cyl) : Nat → Nat → Option Nat → List (List Nat)
  | 0, _, _ => [[]]
  | f + 1, used, last => (nextN c used last).flatMap fun k => (goOn c f (onN c used k) (some k)).map (k :: ·)
/-- how many pieces of n are used -/
def cnt : Nat → Nat → Nat
  | 0, _ => 0
  | n + 1, u => cnt n u + if u.testBit n = true then 1 else 0
def leftN (c : Cyl) (used : Nat) (last : Option Nat) : Nat := (goOn c (c.pcs.length - cnt c.pcs.length used) used last).length
def joinsN (c : Cyl) : List (List Nat) := goOn c c.pcs.length 0 none
def lastI : Option Nat → Int
  | none => -1
  | some k => (k : Int)
theorem lastI_inj {a b : Option Nat} (h : lastI a = lastI b) : a = b := by
  cases a <;> cases b <;> simp only [lastI] at h
  · rfl
  · omega
  · omega
  · congr 1; omega

theorem pieceN_lt {c : Cyl} {k : Nat} (h : k < (stepsOf c).length) : pieceN c k < c.pcs.length := by
  unfold pieceN
  rw [List.getElem?_eq_getElem h]
  have := (isStep_iff c (stepsOf c)[k]).2 (List.getElem_mem h)
  unfold isStep at this
  simp only [Bool.and_eq_true, decide_eq_true_eq] at this
  simp only [Option.map_some, Option.getD_some]
  omega
theorem pieceN_eq {c : Cyl} {k : Nat} {s : St} (h : (stepsOf c)[k]? = some s) : s.p = (pieceN c k : Int) := by
  unfold pieceN
  rw [h]
  have := (isStep_iff c s).2 (List.mem_of_getElem? h)
  unfold isStep at this
  simp only [Bool.and_eq_true, decide_eq_true_eq] at this
  simp only [Option.map_some, Option.getD_some]
  omega
theorem fitN_at {c : Cyl} {i k : Nat} {s t : St} (h : (stepsOf c)[i]? = some s) (h' : (stepsOf c)[k]? = some t) : fitN c i k = fitsS c s t := by
  unfold fitN
  rw [h, h']
theorem steps_le (c : Cyl) (h : c.pcs.length ≤ 8) : (stepsOf c).length ≤ 16 := by
  have := (stepsGo_len c.pcs 0).2
  unfold stepsOf
  omega
theorem testBit_on (c : Cyl) (used k i : Nat) : (onN c used k).testBit i = (used.testBit i || decide (pieceN c k = i)) := by
  unfold onN
  rw [Nat.testBit_or, Nat.testBit_two_pow]
theorem on_lt {c : Cyl} {u k : Nat} (hu : u < 2 ^ c.pcs.length) (hk : k < (stepsOf c).length) : onN c u k < 2 ^ c.pcs.length :=
  Nat.or_lt_two_pow hu (Nat.pow_lt_pow_right (by omega) (pieceN_lt hk))
theorem cnt_le (u : Nat) : ∀ n, cnt n u ≤ n
  | 0 => Nat.le_refl _
  | n + 1 => by have := cnt_le u n; unfold cnt; split <;> omega
theorem cnt_congr {u v : Nat} : ∀ n, (∀ i, i < n → u.testBit i = v.testBit i) → cnt n u = cnt n v
  | 0, _ => rfl
  | n + 1, h => by unfold cnt; rw [cnt_congr n fun i hi => h i (by omega), h n (by omega)]
theorem cnt_set {u v p : Nat} (hu : u.testBit p = false) (hv : ∀ i, v.testBit i = (u.testBit i || decide (p = i))) : ∀ n, p < n → cnt n v = cnt n u + 1
  | 0, h => by omega
  | n + 1, h => by
    unfold cnt
    by_cases hp : p = n
    · subst hp
      rw [cnt_congr p (u := v) (v := u) fun i hi => by rw [hv]; simp; omega, hv, hu]
      simp
    · rw [cnt_set hu hv n (by omega), hv n]
      have : decide (p = n) = false := by simpa using hp
      rw [this, Bool.or_false]
      omega
theorem cnt_on {c : Cyl} {u k : Nat} (hk : k < (stepsOf c).length) (h : u.testBit (pieceN c k) = false) : cnt c.pcs.length (onN c u k) = cnt c.pcs.length u + 1 :=
  cnt_set h (testBit_on c u k) _ (pieceN_lt hk)
theorem cnt_full (m : Nat) : ∀ n, n ≤ m → cnt n (2 ^ m - 1) = n
  | 0, _ => rfl
  | n + 1, h => by
    unfold cnt
    rw [cnt_full m n (by omega), Nat.testBit_two_pow_sub_one]
    simp
    omega
theorem cnt_all {u : Nat} : ∀ n, cnt n u = n → ∀ i, i < n → u.testBit i = true
  | 0, _, i, hi => by omega
  | n + 1, h, i, hi => by
    unfold cnt at h
    have := cnt_le u n
    by_cases hb : u.testBit n = true
    · rw [if_pos hb] at h
      by_cases hin : i = n
      · subst hin; exact hb
      · exact cnt_all n (by omega) i (by omega)
    · rw [if_neg hb] at h
      omega
theorem cnt_lt {n u : Nat} (hu : u < 2 ^ n) (hne : u ≠ 2 ^ n - 1) : cnt n u < n := by
  have h1 := cnt_le u n
  rcases Nat.lt_or_ge (cnt n u) n with h | h
  · exact h
  · refine absurd (Nat.eq_of_testBit_eq fun i => ?_) hne
    rw [Nat.testBit_two_pow_sub_one]
    by_cases hi : i < n
    · rw [cnt_all n (by omega) i hi]; simp [hi]
    · rw [Nat.testBit_lt_two_pow (Nat.lt_of_lt_of_le hu (Nat.pow_le_pow_right (by omega) (by omega)))]; simp [hi]
theorem cnt_zero : ∀ n, cnt n 0 = 0
  | 0 => rfl
  | n + 1 => by unfold cnt; rw [cnt_zero n]; simp
theorem cnt_pos {u p : Nat} (h : u.testBit p = true) : ∀ n, p < n → 0 < cnt n u
  | 0, hp => by omega
  | n + 1, hp => by
    unfold cnt
    by_cases hpn : p = n
    · subst hpn; rw [if_pos h]; omega
    · have := cnt_pos h n (by omega); omega

theorem mem_next {c : Cyl} {u k : Nat} {o : Option Nat} : k ∈ nextN c u o ↔ k < (stepsOf c).length ∧ canGo c u o k = true := by
  unfold nextN
  rw [List.mem_filter, List.mem_range]
theorem canGo_free {c : Cyl} {u k : Nat} {o : Option Nat} (h : canGo c u o k = true) : u.testBit (pieceN c k) = false := by
  unfold canGo at h
  simp only [Bool.and_eq_true, Bool.not_eq_true'] at h
  exact h.1

theorem left_full (c : Cyl) (o : Option Nat) : leftN c (2 ^ c.pcs.length - 1) o = 1 := by
  unfold leftN
  rw [cnt_full _ _ (Nat.le_refl _), Nat.sub_self]
  rfl
theorem sum_congr {α : Type} {f g : α → Nat} : ∀ {l : List α}, (∀ x ∈ l, f x = g x) → (l.map f).sum = (l.map g).sum
  | [], _ => rfl
  | x :: r, h => by
    rw [List.map_cons, List.map_cons, List.sum_cons, List.sum_cons, h x List.mem_cons_self, sum_congr fun y hy => h y (List.mem_cons_of_mem _ hy)]
theorem left_step {c : Cyl} {u : Nat} {o : Option Nat} (hu : u < 2 ^ c.pcs.length) (hne : u ≠ 2 ^ c.pcs.length - 1) :
    leftN c u o = ((nextN c u o).map fun k => leftN c (onN c u k) (some k)).sum := by
  have h1 := cnt_lt hu hne
  unfold leftN
  obtain ⟨f, hf⟩ : ∃ f, c.pcs.length - cnt c.pcs.length u = f + 1 := ⟨c.pcs.length - cnt c.pcs.length u - 1, by omega⟩
  rw [hf, goOn, List.length_flatMap]
  refine sum_congr fun k hk => ?_
  obtain ⟨h2, h3⟩ := mem_next.1 hk
  rw [List.length_map, cnt_on h2 (canGo_free h3)]
  congr 2
  omega
theorem sum_le {α : Type} {f : α → Nat} {b : Nat} : ∀ {l : List α}, (∀ x ∈ l, f x ≤ b) → (l.map f).sum ≤ l.length * b
  | [], _ => by simp
  | x :: r, h => by
    have h1 := h x List.mem_cons_self
    have h2 := sum_le (l := r) fun y hy => h y (List.mem_cons_of_mem _ hy)
    rw [List.map_cons, List.sum_cons, List.length_cons, Nat.succ_mul]
    omega
theorem next_len (c : Cyl) (u : Nat) (o : Option Nat) : (nextN c u o).length ≤ (stepsOf c).length := by
  unfold nextN
  exact Nat.le_trans (List.length_filter_le _ _) (by simp)
theorem goOn_len {c : Cyl} (hm : (stepsOf c).length ≤ 16) : ∀ (f u : Nat) (o : Option Nat), (goOn c f u o).length ≤ 16 ^ f
  | 0, _, _ => by simp [goOn]
  | f + 1, u, o => by
    rw [goOn, List.length_flatMap]
    refine Nat.le_trans (sum_le (b := 16 ^ f) fun k _ => ?_) ?_
    · rw [List.length_map]; exact goOn_len hm f _ _
    · rw [Nat.pow_succ, Nat.mul_comm]
      exact Nat.mul_le_mul_left _ (Nat.le_trans (next_len c u o) hm)
theorem left_le {c : Cyl} (hm : (stepsOf c).length ≤ 16) (u : Nat) (o : Option Nat) : leftN c u o ≤ 16 ^ (c.pcs.length - cnt c.pcs.length u) := goOn_len hm _ _ _
theorem left_small {c : Cyl} (h8 : c.pcs.length ≤ 8) (u : Nat) (o : Option Nat) : leftN c u o ≤ 4294967296 := by
  refine Nat.le_trans (left_le (steps_le c h8) u o) ?_
  exact Nat.le_trans (Nat.pow_le_pow_right (by omega) (show c.pcs.length - cnt c.pcs.length u ≤ 8 by omega)) (by decide)

/-! ### the ways to a state -/
def offN (c : Cyl) (u k : Nat) : Nat := onN c u k ^^^ 2 ^ pieceN c k
theorem testBit_off (c : Cyl) (u k i : Nat) : (offN c u k).testBit i = (u.testBit i && !decide (pieceN c k = i)) := by
  unfold offN
  rw [Nat.testBit_xor, testBit_on, Nat.testBit_two_pow]
  cases u.testBit i <;> cases decide (pieceN c k = i) <;> rfl
theorem off_le_bit (c : Cyl) (u k : Nat) : (offN c u k).testBit (pieceN c k) = false := by rw [testBit_off]; simp
theorem off_lt {c : Cyl} {u k : Nat} (hu : u < 2 ^ c.pcs.length) : offN c u k < 2 ^ c.pcs.length := by
  refine Nat.lt_pow_two_of_testBit _ fun i hi => ?_
  rw [testBit_off, Nat.testBit_lt_two_pow (Nat.lt_of_lt_of_le hu (Nat.pow_le_pow_right (by omega) hi))]
  rfl
theorem on_off {c : Cyl} {u k : Nat} (h : u.testBit (pieceN c k) = true) : onN c (offN c u k) k = u := by
  refine Nat.eq_of_testBit_eq fun i => ?_
  rw [testBit_on, testBit_off]
  by_cases hi : pieceN c k = i
  · subst hi; simp [h]
  · simp [hi]
theorem off_on {c : Cyl} {u k : Nat} (h : u.testBit (pieceN c k) = false) : offN c (onN c u k) k = u := by
  refine Nat.eq_of_testBit_eq fun i => ?_
  rw [testBit_off, testBit_on]
  by_cases hi : pieceN c k = i
  · subst hi; simp [h]
  · simp [hi]
theorem cnt_off {c : Cyl} {u k : Nat} (hk : k < (stepsOf c).length) (h : u.testBit (pieceN c k) = true) : cnt c.pcs.length u = cnt c.pcs.length (offN c u k) + 1 := by
  have := cnt_on hk (off_le_bit c u k)
  rwa [on_off h] at this
/-- the steps that may come just before a step, among those whose pieces are used -/
def prevN (c : Cyl) (old i : Nat) : List Nat := (List.range (stepsOf c).length).filter fun k => old.testBit (pieceN c k) && fitN c k i
def comeF (c : Cyl) : Nat → Nat → Nat → Nat
  | 0, _, _ => 0
  | f + 1, u, i => if offN c u i = 0 then 1 else ((prevN c (offN c u i) i).map fun k => comeF c f (offN c u i) k).sum
def comeN (c : Cyl) (u i : Nat) : Nat := comeF c (cnt c.pcs.length u) u i
theorem come_one {c : Cyl} {u i : Nat} (hi : i < (stepsOf c).length) (h : u.testBit (pieceN c i) = true) (h0 : offN c u i = 0) : comeN c u i = 1 := by
  unfold comeN
  rw [cnt_off hi h, comeF, if_pos h0]
theorem come_step {c : Cyl} {u i : Nat} (hi : i < (stepsOf c).length) (h : u.testBit (pieceN c i) = true) (h0 : offN c u i ≠ 0) : comeN c u i = ((prevN c (offN c u i) i).map fun k => comeN c (offN c u i) k).sum := by
  unfold comeN
  rw [cnt_off hi h, comeF, if_neg h0]
theorem prev_len (c : Cyl) (old i : Nat) : (prevN c old i).length ≤ (stepsOf c).length := by
  unfold prevN
  exact Nat.le_trans (List.length_filter_le _ _) (by simp)
theorem mem_prev {c : Cyl} {old i k : Nat} : k ∈ prevN c old i ↔ k < (stepsOf c).length ∧ old.testBit (pieceN c k) = true ∧ fitN c k i = true := by
  unfold prevN
  rw [List.mem_filter, List.mem_range, Bool.and_eq_true]
theorem comeF_le {c : Cyl} (hm : (stepsOf c).length ≤ 16) : ∀ (f u i : Nat), comeF c (f + 1) u i ≤ 16 ^ f
  | 0, u, i => by
    rw [comeF]
    split
    · simp
    · refine Nat.le_trans (sum_le (b := 0) fun k _ => by simp [comeF]) (by simp)
  | f + 1, u, i => by
    rw [comeF]
    split
    · exact Nat.one_le_pow _ _ (by omega)
    · refine Nat.le_trans (sum_le (b := 16 ^ f) fun k _ => comeF_le hm f _ _) ?_
      rw [Nat.pow_succ, Nat.mul_comm]
      exact Nat.mul_le_mul_left _ (Nat.le_trans (prev_len c _ _) hm)
theorem come_le {c : Cyl} (hm : (stepsOf c).length ≤ 16) (u i : Nat) : comeN c u i ≤ 16 ^ (cnt c.pcs.length u - 1) := by
  unfold comeN
  cases h : cnt c.pcs.length u with
  | zero => simp [comeF]
  | succ f => simpa using comeF_le hm f u i
theorem come_small {c : Cyl} (h8 : c.pcs.length ≤ 8) (u i : Nat) : comeN c u i ≤ 268435456 := by
  refine Nat.le_trans (come_le (steps_le c h8) u i) ?_
  have := cnt_le u c.pcs.length
  exact Nat.le_trans (Nat.pow_le_pow_right (by omega) (show cnt c.pcs.length u - 1 ≤ 7 by omega)) (by decide)

/-! ### the pairs -/
/-- how many joins have the pair behind these pieces -/
def termN (c : Cyl) (i k u : Nat) : Nat := if u.testBit (pieceN c i) = true ∧ k ∈ nextN c u (some i) then comeN c u i * leftN c (onN c u k) (some k) else 0
def pairsTo (c : Cyl) (i k : Nat) : Nat → Nat
  | 0 => 0
  | u + 1 => pairsTo c i k u + termN c i k u
def pairN (c : Cyl) (i k : Nat) : Nat := pairsTo c i k (2 ^ c.pcs.length)
theorem prod_le {c : Cyl} (h8 : c.pcs.length ≤ 8) {i k u : Nat} (hi : i < (stepsOf c).length) (hb : u.testBit (pieceN c i) = true) (hk : k ∈ nextN c u (some i)) : comeN c u i * leftN c (onN c u k) (some k) ≤ 16777216 := by
  have hm := steps_le c h8
  obtain ⟨h1, h2⟩ := mem_next.1 hk
  have h3 := canGo_free h2
  have h4 := cnt_on h1 h3
  have h5 := cnt_pos hb _ (pieceN_lt hi)
  have h6 := cnt_le (onN c u k) c.pcs.length
  refine Nat.le_trans (Nat.mul_le_mul (come_le hm u i) (left_le hm _ _)) ?_
  rw [← Nat.pow_add]
  exact Nat.le_trans (Nat.pow_le_pow_right (by omega) (show _ ≤ 6 by omega)) (by decide)
theorem termN_le {c : Cyl} (h8 : c.pcs.length ≤ 8) {i k u : Nat} (hi : i < (stepsOf c).length) : termN c i k u ≤ 16777216 := by
  unfold termN
  split
  · rename_i h; exact prod_le h8 hi h.1 h.2
  · omega
theorem pairsTo_le {c : Cyl} (h8 : c.pcs.length ≤ 8) {i k : Nat} (hi : i < (stepsOf c).length) : ∀ u, pairsTo c i k u ≤ u * 16777216
  | 0 => by simp [pairsTo]
  | u + 1 => by
    have h1 := pairsTo_le h8 (k := k) hi u
    have h2 := termN_le h8 (k := k) (u := u) hi
    rw [pairsTo, Nat.succ_mul]
    omega
theorem pow8 {n : Nat} (h : n ≤ 8) : 2 ^ n ≤ 256 := Nat.le_trans (Nat.pow_le_pow_right (by omega) h) (by decide)
theorem pairN_le {c : Cyl} (h8 : c.pcs.length ≤ 8) {i k : Nat} (hi : i < (stepsOf c).length) : pairN c i k ≤ 4294967296 := by
  have := pairsTo_le h8 (k := k) hi (2 ^ c.pcs.length)
  have h2 := pow8 h8
  unfold pairN
  omega
/-- some join has the step -/
def joinedN (c : Cyl) (i : Nat) : Bool := (List.range (2 ^ c.pcs.length)).any fun u => u.testBit (pieceN c i) && (decide (0 < comeN c u i) && decide (0 < leftN c u (some i)))
/-- the number of a list that goes on from a state -/
def rankN (c : Cyl) : Nat → Option Nat → List Nat → Nat
  | _, _, [] => 0
  | u, o, k :: r => (((nextN c u o).filter fun j => decide (j < k)).map fun j => leftN c (onN c u j) (some j)).sum + rankN c (onN c u k) (some k) r
end Go.Proofs.Ytjjjockfppomdaa
