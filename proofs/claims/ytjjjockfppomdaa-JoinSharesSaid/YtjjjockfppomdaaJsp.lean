/- Joins as lists of steps: what they are, and their order. Plain. The pairs that all joins have, and the steps that come next in some join. Plain. What the laws say of joins: pairs of one join, rivals, wider cylinders. Plain. -/
import Derived.Test.YtjjjockfppomdaaRnk
import Derived.Test.YtjjjockfppomdaaRefH
import Derived.Test.YtjjjockfppomdaaRiv
namespace Go.Proofs.Ytjjjockfppomdaa
set_option linter.unusedVariables false

def goodL (c : Cyl) (l : List St) : Prop := l.length = c.pcs.length ∧ l.all (isStep c) = true ∧ twice l = false ∧ chain c l = true
theorem checkJoin_iff {c : Cyl} {l : List St} : checkJoin c l = 0 ↔ checkCyl c = 0 ∧ goodL c l := by
  constructor
  · exact checkJoin_zero
  · rintro ⟨h0, h1, h2, h3, h4⟩
    unfold checkJoin
    rw [if_neg (by simpa using h0), if_neg (by simpa using h1), if_neg (by simp [h2]), if_neg (by simp [h3]), if_neg (by simp [h4])]
theorem stepAt_at {c : Cyl} {k : Nat} (h : k < (stepsOf c).length) : (stepsOf c)[k]? = some (stepAt c k) := by
  unfold stepAt
  rw [List.getElem?_eq_getElem h]; rfl
theorem stepAt_of {c : Cyl} {k : Nat} {s : St} (h : (stepsOf c)[k]? = some s) : stepAt c k = s := by
  unfold stepAt
  rw [h]; rfl
theorem stepAt_is {c : Cyl} {k : Nat} (h : k < (stepsOf c).length) : isStep c (stepAt c k) = true :=
  (isStep_iff c _).2 (List.mem_of_getElem? (stepAt_at h))
def numN (c : Cyl) (s : St) : Nat := (numS c s).toNat
theorem numN_lt {c : Cyl} {s : St} (h : isStep c s = true) : numN c s < (stepsOf c).length ∧ stepAt c (numN c s) = s := by
  obtain ⟨k, h1, h2⟩ := numS_got h
  have : numN c s = k := by unfold numN; rw [h1]; simp
  rw [this]
  exact ⟨(List.getElem?_eq_some_iff.1 h2).1, stepAt_of h2⟩
theorem numN_stepAt {c : Cyl} {k : Nat} (h : k < (stepsOf c).length) : numN c (stepAt c k) = k := by
  unfold numN
  rw [numS_at (stepAt_at h)]; simp
theorem stepAt_inj {c : Cyl} {i k : Nat} (hi : i < (stepsOf c).length) (hk : k < (stepsOf c).length) (h : stepAt c i = stepAt c k) : i = k := by
  rw [← numN_stepAt hi, h, numN_stepAt hk]
theorem numsN_eq (c : Cyl) (l : List St) : numsN c l = l.map (numN c) := rfl
theorem nums_steps {c : Cyl} : ∀ {l : List St}, l.all (isStep c) = true → (numsN c l).map (stepAt c) = l
  | [], _ => rfl
  | s :: r, h => by
    rw [List.all_cons, Bool.and_eq_true] at h
    rw [numsN_eq, List.map_cons, List.map_cons, (numN_lt h.1).2]
    have := nums_steps h.2
    rw [numsN_eq] at this
    rw [this]
theorem steps_nums {c : Cyl} : ∀ {L : List Nat}, (∀ k ∈ L, k < (stepsOf c).length) → numsN c (L.map (stepAt c)) = L
  | [], _ => rfl
  | s :: r, h => by
    rw [List.map_cons, numsN_eq, List.map_cons, numN_stepAt (h s (by simp))]
    have := steps_nums (c := c) (L := r) fun k hk => h k (by simp [hk])
    rw [numsN_eq] at this
    rw [this]
theorem pieceN_stepAt {c : Cyl} {k : Nat} (h : k < (stepsOf c).length) : (stepAt c k).p = (pieceN c k : Int) := pieceN_eq (stepAt_at h)
theorem fitN_stepAt {c : Cyl} {i k : Nat} (hi : i < (stepsOf c).length) (hk : k < (stepsOf c).length) : fitN c i k = fitsS c (stepAt c i) (stepAt c k) := fitN_at (stepAt_at hi) (stepAt_at hk)

def lastFit (c : Cyl) : Option Nat → Nat → Bool
  | none, _ => true
  | some i, k => fitN c i k
def chainN (c : Cyl) : Option Nat → List Nat → Prop
  | _, [] => True
  | o, k :: r => lastFit c o k = true ∧ chainN c (some k) r
theorem canGo_eq (c : Cyl) (u : Nat) (o : Option Nat) (k : Nat) : canGo c u o k = (!u.testBit (pieceN c k) && lastFit c o k) := by cases o <;> rfl
theorem walk_iff {c : Cyl} : ∀ {L : List Nat} {u : Nat} {o : Option Nat}, (∀ k ∈ L, k < (stepsOf c).length) → (walk c u o L ↔ (∀ k ∈ L, u.testBit (pieceN c k) = false) ∧ (L.map (pieceN c)).Nodup ∧ chainN c o L)
  | [], u, o, _ => by simp [walk, chainN]
  | k :: r, u, o, h => by
    have hk := h k (by simp)
    rw [walk, walk_iff (L := r) fun j hj => h j (by simp [hj]), mem_next, chainN, canGo_eq]
    simp only [Bool.and_eq_true, Bool.not_eq_true', List.map_cons, List.nodup_cons]
    constructor
    · rintro ⟨⟨_, h1, h2⟩, h3, h4, h5⟩
      refine ⟨fun j hj => ?_, ⟨?_, h4⟩, h2, h5⟩
      · rcases List.mem_cons.1 hj with rfl | hj
        · exact h1
        · have := h3 j hj
          rw [testBit_on, Bool.or_eq_false_iff] at this
          exact this.1
      · intro hm
        obtain ⟨j, hj, e⟩ := List.mem_map.1 hm
        have := h3 j hj
        rw [testBit_on, e] at this
        simp at this
    · rintro ⟨h1, ⟨h2, h3⟩, h4, h5⟩
      refine ⟨⟨hk, h1 k (by simp), h4⟩, fun j hj => ?_, h3, h5⟩
      rw [testBit_on, h1 j (by simp [hj]), Bool.false_or, decide_eq_false_iff_not]
      intro e
      exact h2 (List.mem_map.2 ⟨j, hj, e.symm⟩)
theorem chain_some {c : Cyl} : ∀ {L : List Nat} {i : Nat}, i < (stepsOf c).length → (∀ k ∈ L, k < (stepsOf c).length) → (chainN c (some i) L ↔ chain c (stepAt c i :: L.map (stepAt c)) = true)
  | [], i, _, _ => by simp [chainN, chain]
  | k :: r, i, hi, h => by
    have hk := h k (by simp)
    rw [chainN, List.map_cons, chain, chain_some hk fun j hj => h j (by simp [hj]), ← fitN_stepAt hi hk, Bool.and_eq_true, lastFit]
theorem chain_none {c : Cyl} {L : List Nat} (h : ∀ k ∈ L, k < (stepsOf c).length) : chainN c none L ↔ chain c (L.map (stepAt c)) = true := by
  cases L with
  | nil => simp [chainN, chain]
  | cons k r =>
    rw [chainN, List.map_cons, chain_some (h k (by simp)) fun j hj => h j (by simp [hj])]
    simp [lastFit]
theorem twice_map {c : Cyl} {L : List Nat} (h : ∀ k ∈ L, k < (stepsOf c).length) : twice (L.map (stepAt c)) = false ↔ (L.map (pieceN c)).Nodup := by
  rw [twice_pw, List.pairwise_map, List.Nodup, List.pairwise_map]
  constructor
  · intro hp
    refine hp.imp_of_mem fun {a b} ha hb hne e => hne ?_
    rw [pieceN_stepAt (h a ha), pieceN_stepAt (h b hb), e]
  · intro hp
    refine hp.imp_of_mem fun {a b} ha hb hne e => hne ?_
    rw [pieceN_stepAt (h a ha), pieceN_stepAt (h b hb)] at e
    omega
theorem good_of_nums {c : Cyl} {L : List Nat} (h : ∀ k ∈ L, k < (stepsOf c).length) : goodL c (L.map (stepAt c)) ↔ L ∈ joinsN c := by
  unfold goodL
  rw [mem_joins, walk_iff h, twice_map h, ← chain_none h, List.length_map]
  have : (L.map (stepAt c)).all (isStep c) = true := by
    rw [List.all_eq_true]
    intro s hs
    obtain ⟨k, hk, rfl⟩ := List.mem_map.1 hs
    exact stepAt_is (h k hk)
  simp [this]
theorem joinsN_lt {c : Cyl} {L : List Nat} (h : L ∈ joinsN c) : ∀ k ∈ L, k < (stepsOf c).length := walk_lt (mem_joins.1 h).2
theorem mem_joinsS {c : Cyl} {l : List St} : l ∈ joinsS c ↔ goodL c l := by
  unfold joinsS
  rw [List.mem_map]
  constructor
  · rintro ⟨L, hL, rfl⟩
    exact (good_of_nums (joinsN_lt hL)).2 hL
  · intro h
    have e := nums_steps h.2.1
    have hlt : ∀ k ∈ numsN c l, k < (stepsOf c).length := fun k hk => by
      obtain ⟨s, hs, rfl⟩ := List.mem_map.1 hk
      exact (numN_lt (List.all_eq_true.1 h.2.1 s hs)).1
    refine ⟨numsN c l, (good_of_nums hlt).1 ?_, e⟩
    rw [e]
    exact h
theorem joinsS_len (c : Cyl) : (joinsS c).length = (joinsN c).length := by unfold joinsS; rw [List.length_map]
theorem joinsS_nums {c : Cyl} {l : List St} (h : l ∈ joinsS c) : numsN c l ∈ joinsN c ∧ (numsN c l).map (stepAt c) = l := by
  obtain ⟨L, hL, rfl⟩ := List.mem_map.1 h
  rw [steps_nums (joinsN_lt hL)]
  exact ⟨hL, rfl⟩

/-! ### the order -/
def befS (a b : St) : Bool := before a.p a.t b.p b.t
/-- the law's 'less' -/
def lessB : List St → List St → Bool
  | x :: r, y :: s => if x = y then lessB r s else befS x y
  | _, _ => false
theorem befS_ne {a b : St} (h : befS a b = true) : a ≠ b := by
  rintro rfl
  unfold befS before at h
  cases a.t <;> simp at h
theorem lessB_irrefl : ∀ l, lessB l l = false
  | [] => rfl
  | x :: r => by rw [lessB, if_pos rfl, lessB_irrefl]
theorem stepsOf_bef (c : Cyl) : (stepsOf c).Pairwise fun a b => befS a b = true :=
  (stepsGo_nodup c.pcs 0).imp fun {a b} h => by
    unfold befS before
    rcases h with h | ⟨h1, h2, h3⟩
    · simp [h]
    · simp [h1, h2, h3]
theorem stepAt_bef {c : Cyl} {i k : Nat} (hk : k < (stepsOf c).length) (h : i < k) : befS (stepAt c i) (stepAt c k) = true := by
  have := List.pairwise_iff_getElem.1 (stepsOf_bef c) i k (by omega) hk h
  rwa [(List.getElem_eq_iff (by omega)).2 (stepAt_at (show i < (stepsOf c).length by omega)), (List.getElem_eq_iff hk).2 (stepAt_at hk)] at this
theorem lessB_of {c : Cyl} : ∀ {L M : List Nat}, (∀ k ∈ L, k < (stepsOf c).length) → (∀ k ∈ M, k < (stepsOf c).length) → lexLt L M → lessB (L.map (stepAt c)) (M.map (stepAt c)) = true
  | [], _, _, _, h => h.elim
  | _ :: _, [], _, _, h => h.elim
  | a :: r, b :: s, ha, hb, h => by
    rw [List.map_cons, List.map_cons, lessB]
    rcases h with h | ⟨rfl, h⟩
    · have := stepAt_bef (hb b (by simp)) h
      rw [if_neg (befS_ne this), this]
    · rw [if_pos rfl]
      exact lessB_of (fun k hk => ha k (by simp [hk])) (fun k hk => hb k (by simp [hk])) h
theorem joinsS_sorted (c : Cyl) : (joinsS c).Pairwise fun a b => lessB a b = true := by
  unfold joinsS
  rw [List.pairwise_map]
  exact (joins_sorted c).imp_of_mem fun ha hb h => lessB_of (joinsN_lt ha) (joinsN_lt hb) h
theorem joinsS_nodup (c : Cyl) : (joinsS c).Nodup := (joinsS_sorted c).imp fun {a b} h e => by
  subst e
  rw [lessB_irrefl] at h
  cases h
theorem joinsS_at_lt {c : Cyl} {i k : Nat} {l m : List St} (hi : (joinsS c)[i]? = some l) (hk : (joinsS c)[k]? = some m) (h : i < k) : lessB l m = true := by
  obtain ⟨h1, rfl⟩ := List.getElem?_eq_some_iff.1 hi
  obtain ⟨h2, rfl⟩ := List.getElem?_eq_some_iff.1 hk
  exact List.pairwise_iff_getElem.1 (joinsS_sorted c) i k h1 h2 h
theorem joinsS_inj {c : Cyl} {i k : Nat} {l : List St} (hi : (joinsS c)[i]? = some l) (hk : (joinsS c)[k]? = some l) : i = k := by
  rcases Nat.lt_trichotomy i k with h | h | h
  · have := joinsS_at_lt hi hk h
    rw [lessB_irrefl] at this
    cases this
  · exact h
  · have := joinsS_at_lt hk hi h
    rw [lessB_irrefl] at this
    cases this
theorem rank_at {c : Cyl} {l : List St} (h : l ∈ joinsS c) : (joinsS c)[rankN c 0 none (numsN c l)]? = some l := by
  obtain ⟨h1, h2⟩ := joinsS_nums h
  unfold joinsS
  rw [List.getElem?_map, rank_join h1, Option.map_some, h2]
theorem rank_of {c : Cyl} {l : List St} {k : Nat} (h : (joinsS c)[k]? = some l) : rankN c 0 none (numsN c l) = k :=
  joinsS_inj (rank_at (List.mem_of_getElem? h)) h
theorem countM_good {c : Cyl} (h : checkCyl c = 0) : countM c = (((joinsS c).length : Int), 0) := by
  unfold countM
  rw [if_neg (by simp [h]), joinsS_len]
theorem nthM_good {c : Cyl} (h : checkCyl c = 0) {k : Nat} {l : List St} (hk : (joinsS c)[k]? = some l) : nthM c k = (l, 0) := by
  have hlt := (List.getElem?_eq_some_iff.1 hk).1
  rw [joinsS_len] at hlt
  unfold nthM
  rw [if_neg (by simp [h]), if_pos (by omega), Int.toNat_natCast, hk]; rfl
theorem nthM_bad {c : Cyl} (h : checkCyl c = 0) {n : Int} (hn : n < 0 ∨ (joinsS c).length ≤ n) : nthM c n = ([], 3) := by
  rw [joinsS_len] at hn
  unfold nthM
  rw [if_neg (by simp [h]), if_neg (by omega)]
theorem rankM_good {c : Cyl} (h : checkCyl c = 0) {k : Nat} {l : List St} (hk : (joinsS c)[k]? = some l) : rankM c l = ((k : Int), 0) := by
  have hg := checkJoin_iff.2 ⟨h, mem_joinsS.1 (List.mem_of_getElem? hk)⟩
  unfold rankM
  rw [if_neg (by simp [hg]), rank_of hk]
end Go.Proofs.Ytjjjockfppomdaa

namespace Go.Proofs.Ytjjjockfppomdaa
set_option linter.unusedVariables false

def hasS : List St → St × St → Bool
  | [], _ => false
  | [_], _ => false
  | a :: b :: r, p => (decide (a = p.1) && decide (b = p.2)) || hasS (b :: r) p
theorem hasS_iff {x y : St} : ∀ {l : List St}, hasS l (x, y) = true ↔ ∃ a b, l = a ++ x :: y :: b
  | [] => by simp [hasS]
  | [z] => by
    simp only [hasS, Bool.false_eq_true, false_iff]
    rintro ⟨a, b, h⟩
    have := congrArg List.length h
    simp at this
    omega
  | s :: t :: r => by
    rw [hasS, Bool.or_eq_true, hasS_iff]
    constructor
    · rintro (h | ⟨a, b, h⟩)
      · simp only [Bool.and_eq_true, decide_eq_true_eq] at h
        exact ⟨[], r, by rw [h.1, h.2]; rfl⟩
      · exact ⟨s :: a, b, by rw [h]; rfl⟩
    · rintro ⟨a, b, h⟩
      cases a with
      | nil =>
        simp only [List.nil_append, List.cons.injEq] at h
        exact .inl (by simp [h.1, h.2.1])
      | cons z a =>
        simp only [List.cons_append, List.cons.injEq] at h
        exact .inr ⟨a, b, h.2⟩
theorem hasS_map {c : Cyl} {i k : Nat} (hi : i < (stepsOf c).length) (hk : k < (stepsOf c).length) : ∀ {L : List Nat}, (∀ k ∈ L, k < (stepsOf c).length) → hasS (L.map (stepAt c)) (stepAt c i, stepAt c k) = hasN i k L
  | [], _ => rfl
  | [_], _ => rfl
  | a :: b :: r, h => by
    have e := hasS_map hi hk (L := b :: r) fun k hk => h k (by simp [List.mem_cons.1 hk])
    rw [List.map_cons] at e
    rw [List.map_cons, List.map_cons, hasS, hasN, e]
    congr 1
    have e1 : decide (stepAt c a = stepAt c i) = (a == i) := by
      rw [Bool.eq_iff_iff]
      simp only [decide_eq_true_eq, beq_iff_eq]
      exact ⟨fun e => stepAt_inj (h a (by simp)) hi e, fun e => by rw [e]⟩
    have e2 : decide (stepAt c b = stepAt c k) = (b == k) := by
      rw [Bool.eq_iff_iff]
      simp only [decide_eq_true_eq, beq_iff_eq]
      exact ⟨fun e => stepAt_inj (h b (by simp)) hk e, fun e => by rw [e]⟩
    rw [e1, e2]
theorem stepsOf_range (c : Cyl) : stepsOf c = (List.range (stepsOf c).length).map (stepAt c) := by
  refine List.ext_getElem? fun k => ?_
  rw [List.getElem?_map]
  by_cases h : k < (stepsOf c).length
  · rw [stepAt_at h, List.getElem?_range h]; rfl
  · rw [List.getElem?_eq_none (by omega), List.getElem?_eq_none (by simpa using Nat.le_of_not_lt h)]; rfl
/-- the passages: pairs of steps that all joins have -/
def passS (c : Cyl) : List (St × St) := (stepsOf c).flatMap fun a => ((stepsOf c).filter fun b => (joinsS c).all fun l => hasS l (a, b)).map fun b => (a, b)
/-- the rivals of a step -/
def rivS (c : Cyl) (s : St) : List St := (stepsOf c).filter fun b => (joinsS c).any fun l => hasS l (s, b)
theorem all_joinsS {c : Cyl} {i k : Nat} (hi : i < (stepsOf c).length) (hk : k < (stepsOf c).length) : ((joinsS c).all fun l => hasS l (stepAt c i, stepAt c k)) = (joinsN c).all (hasN i k) := by
  unfold joinsS
  rw [List.all_map, Bool.eq_iff_iff, List.all_eq_true, List.all_eq_true]
  exact ⟨fun h l hl => by rw [← hasS_map hi hk (joinsN_lt hl)]; exact h l hl, fun h l hl => by show hasS (l.map (stepAt c)) _ = true; rw [hasS_map hi hk (joinsN_lt hl)]; exact h l hl⟩
theorem any_joinsS {c : Cyl} {i k : Nat} (hi : i < (stepsOf c).length) (hk : k < (stepsOf c).length) : ((joinsS c).any fun l => hasS l (stepAt c i, stepAt c k)) = (joinsN c).any (hasN i k) := by
  unfold joinsS
  rw [List.any_map, Bool.eq_iff_iff, List.any_eq_true, List.any_eq_true]
  exact ⟨fun ⟨l, hl, h⟩ => ⟨l, hl, by rw [← hasS_map hi hk (joinsN_lt hl)]; exact h⟩, fun ⟨l, hl, h⟩ => ⟨l, hl, by show hasS (l.map (stepAt c)) _ = true; rw [hasS_map hi hk (joinsN_lt hl)]; exact h⟩⟩
theorem filter_all {α : Type} {p : α → Bool} {l : List α} : l.length ≤ (l.filter p).length ↔ l.all p = true := by
  rw [List.all_eq_true]
  constructor
  · intro h
    have := List.Sublist.eq_of_length_le (List.filter_sublist (p := p) (l := l)) h
    exact List.filter_eq_self.1 this
  · intro h
    rw [List.filter_eq_self.2 h]
    exact Nat.le_refl _
theorem filter_any {α : Type} {p : α → Bool} {l : List α} : 0 < (l.filter p).length ↔ l.any p = true := by
  rw [List.any_eq_true, List.length_pos_iff_exists_mem]
  simp only [List.mem_filter]
theorem passM_good {c : Cyl} (h : checkCyl c = 0) (hj : joinsS c ≠ []) : passM c = (passS c, 0) := by
  have h0 : 0 < (joinsN c).length := by
    rw [← joinsS_len]
    exact List.length_pos_iff.2 hj
  unfold passM
  rw [if_neg (by simp [h]), if_neg (by omega)]
  congr 1
  unfold passTo passS
  conv => rhs; rw [stepsOf_range c]
  rw [List.flatMap_map]
  simp only [List.flatMap]
  congr 1
  refine List.map_congr_left fun i hi => ?_
  rw [List.mem_range] at hi
  unfold rowL
  rw [List.filter_map, List.map_map]
  have e : (List.range (stepsOf c).length).filter (fun k => decide (0 < pKeep (pOut c (stepsOf c).length) (joinsN c).length i k)) = (List.range (stepsOf c).length).filter ((fun b => (joinsS c).all fun l => hasS l (stepAt c i, b)) ∘ stepAt c) := by
    refine List.filter_congr fun k hk => ?_
    rw [List.mem_range] at hk
    rw [Function.comp, all_joinsS hi hk, Bool.eq_iff_iff, ← filter_all, ← pairN_eq hi]
    unfold pKeep pOut
    rw [if_pos hi, decide_eq_true_eq]
    split <;> omega
  rw [e]
  rfl
theorem passM_none {c : Cyl} (h : checkCyl c = 0) (hj : joinsS c = []) : passM c = ([], 5) := by
  have h0 : (joinsN c).length = 0 := by rw [← joinsS_len, hj]; rfl
  unfold passM
  rw [if_neg (by simp [h]), if_pos h0]
theorem joined_S {c : Cyl} {s : St} (hs : isStep c s = true) : joinedN c (numS c s).toNat = (joinsS c).any fun l => l.contains s := by
  obtain ⟨h1, h2⟩ := numN_lt hs
  have e : (numS c s).toNat = numN c s := rfl
  rw [e, joinedN_eq h1]
  unfold joinsS
  rw [List.any_map, Bool.eq_iff_iff, List.any_eq_true, List.any_eq_true]
  have key : ∀ l ∈ joinsN c, (l.contains (numN c s) = true ↔ ((fun l : List St => l.contains s) ∘ fun l : List Nat => l.map (stepAt c)) l = true) := by
    intro l hl
    simp only [Function.comp, List.contains_iff_mem, List.mem_map]
    constructor
    · intro h; exact ⟨_, h, h2⟩
    · rintro ⟨k, hk, e⟩
      rw [← e, numN_stepAt (joinsN_lt hl k hk)]
      exact hk
  exact ⟨fun ⟨l, hl, h⟩ => ⟨l, hl, (key l hl).1 h⟩, fun ⟨l, hl, h⟩ => ⟨l, hl, (key l hl).2 h⟩⟩
theorem rivM_good {c : Cyl} {s : St} (h : checkCyl c = 0) (hs : isStep c s = true) : rivM c s = if ((joinsS c).any fun l => l.contains s) = true then (rivS c s, 0) else ([], 5) := by
  obtain ⟨h1, h2⟩ := numN_lt hs
  unfold rivM
  rw [if_neg (by simp [h]), if_neg (by simp [hs]), joined_S hs]
  cases hj : (joinsS c).any fun l => l.contains s
  · rfl
  · rw [if_neg (by simp), if_pos rfl]
    congr 1
    unfold rivL rivS
    conv => rhs; rw [stepsOf_range c]
    rw [List.filter_map]
    congr 1
    refine List.filter_congr fun k hk => ?_
    rw [List.mem_range] at hk
    have e : (numS c s).toNat = numN c s := rfl
    rw [Function.comp, e]
    conv => rhs; rw [← h2]
    rw [any_joinsS h1 hk, Bool.eq_iff_iff, ← filter_any, ← pairN_eq h1]
    unfold pOut
    rw [if_pos h1, decide_eq_true_eq]

/-! ### what they hold, their order -/
theorem mem_passS {c : Cyl} {a b : St} : (a, b) ∈ passS c ↔ isStep c a = true ∧ isStep c b = true ∧ ∀ l ∈ joinsS c, hasS l (a, b) = true := by
  unfold passS
  simp only [List.mem_flatMap, List.mem_map, List.mem_filter, List.all_eq_true, Prod.mk.injEq]
  rw [isStep_iff, isStep_iff]
  constructor
  · rintro ⟨x, hx, y, ⟨hy, h⟩, rfl, rfl⟩
    exact ⟨hx, hy, h⟩
  · rintro ⟨h1, h2, h3⟩
    exact ⟨a, h1, b, ⟨h2, h3⟩, rfl, rfl⟩
theorem mem_rivS {c : Cyl} {s b : St} : b ∈ rivS c s ↔ isStep c b = true ∧ ∃ l ∈ joinsS c, hasS l (s, b) = true := by
  unfold rivS
  rw [List.mem_filter, List.any_eq_true, isStep_iff]
theorem hasS_mem {l : List St} {a b : St} (h : hasS l (a, b) = true) : a ∈ l ∧ b ∈ l := by
  obtain ⟨x, y, rfl⟩ := hasS_iff.1 h
  simp
theorem joinsS_step {c : Cyl} {l : List St} (h : l ∈ joinsS c) {s : St} (hs : s ∈ l) : isStep c s = true := List.all_eq_true.1 (mem_joinsS.1 h).2.1 s hs
theorem mem_passS' {c : Cyl} {a b : St} (hj : joinsS c ≠ []) : (a, b) ∈ passS c ↔ ∀ l ∈ joinsS c, hasS l (a, b) = true := by
  rw [mem_passS]
  refine ⟨fun h => h.2.2, fun h => ?_⟩
  obtain ⟨l, hl⟩ := List.exists_mem_of_ne_nil _ hj
  have := hasS_mem (h l hl)
  exact ⟨joinsS_step hl this.1, joinsS_step hl this.2, h⟩
theorem mem_rivS' {c : Cyl} {s b : St} : b ∈ rivS c s ↔ ∃ l ∈ joinsS c, hasS l (s, b) = true := by
  rw [mem_rivS]
  refine ⟨fun h => h.2, fun ⟨l, hl, h⟩ => ⟨joinsS_step hl (hasS_mem h).2, l, hl, h⟩⟩
def befP (p q : St × St) : Bool := befS p.1 q.1 || (decide (p.1 = q.1) && befS p.2 q.2)
theorem passS_sorted (c : Cyl) : (passS c).Pairwise fun p q => befP p q = true := by
  unfold passS
  rw [List.pairwise_flatMap]
  refine ⟨fun a ha => ?_, (stepsOf_bef c).imp fun {a b} hab x hx y hy => ?_⟩
  · rw [List.pairwise_map]
    refine ((stepsOf_bef c).filter _).imp fun {x y} h => ?_
    unfold befP
    simp [h]
  · obtain ⟨x', _, rfl⟩ := List.mem_map.1 hx
    obtain ⟨y', _, rfl⟩ := List.mem_map.1 hy
    unfold befP
    simp [hab]
theorem befP_ne {p q : St × St} (h : befP p q = true) : p ≠ q := by
  rintro rfl
  unfold befP at h
  simp only [Bool.or_eq_true, Bool.and_eq_true] at h
  rcases h with h | h
  · exact befS_ne h rfl
  · exact befS_ne h.2 rfl
theorem passS_nodup (c : Cyl) : (passS c).Nodup := (passS_sorted c).imp fun h => befP_ne h
theorem stepsOf_nodup (c : Cyl) : (stepsOf c).Nodup := (stepsOf_bef c).imp fun h => befS_ne h
theorem rivS_nodup (c : Cyl) (s : St) : (rivS c s).Nodup := (stepsOf_nodup c).filter _
theorem join_nodup {c : Cyl} {l : List St} (h : l ∈ joinsS c) : l.Nodup := by
  have := (twice_pw l).1 (mem_joinsS.1 h).2.2.1
  exact this.imp fun hne e => hne (by rw [e])
end Go.Proofs.Ytjjjockfppomdaa

namespace Go.Proofs.Ytjjjockfppomdaa
open Go.RowKit Go.Shelf
set_option linter.unusedVariables false

theorem u32_nat {x : Int} (h : (Lit.int .u32 x).wf = true) : ∃ k : Nat, x = (k : Int) ∧ k < 4294967296 := by
  have e1 : IntKind.u32.min = 0 := rfl
  have e2 : IntKind.u32.max = 4294967295 := rfl
  simp only [Lit.wf, e1, e2, Bool.and_eq_true, decide_eq_true_eq] at h
  exact ⟨x.toNat, by omega, by omega⟩
theorem joins_i64 {c : Cyl} (h8 : c.pcs.length ≤ 8) : (joinsS c).length ≤ 4294967296 := by
  rw [joinsS_len]
  have := left_small (c := c) h8 0 none
  unfold leftN at this
  rw [cnt_zero] at this
  exact this
theorem good_len {c : Cyl} (h : checkCyl c = 0) : 0 < c.pcs.length ∧ c.pcs.length ≤ 8 := by
  unfold checkCyl at h
  by_cases h1 : c.pcs.length = 0
  · rw [if_pos h1] at h; omega
  · rw [if_neg h1] at h
    by_cases h2 : 8 < c.pcs.length
    · rw [if_pos h2] at h; omega
    · omega
theorem u8_nat {x : Int} (h : (Lit.int .u8 x).wf = true) : ∃ k : Nat, x = (k : Int) ∧ k < 256 := by
  have e1 : IntKind.u8.min = 0 := rfl
  have e2 : IntKind.u8.max = 255 := rfl
  simp only [Lit.wf, e1, e2, Bool.and_eq_true, decide_eq_true_eq] at h
  exact ⟨x.toNat, by omega, by omega⟩

def pairsOf : List St → List (St × St)
  | [] => []
  | [_] => []
  | a :: b :: r => (a, b) :: pairsOf (b :: r)
theorem pairsOf_len : ∀ l, (pairsOf l).length = l.length - 1
  | [] => rfl
  | [_] => rfl
  | a :: b :: r => by rw [pairsOf, List.length_cons, pairsOf_len]; simp
theorem mem_pairsOf {a b : St} : ∀ {l : List St}, (a, b) ∈ pairsOf l ↔ hasS l (a, b) = true
  | [] => by simp [pairsOf, hasS]
  | [_] => by simp [pairsOf, hasS]
  | x :: y :: r => by
    rw [pairsOf, List.mem_cons, mem_pairsOf, hasS, Bool.or_eq_true, Bool.and_eq_true, decide_eq_true_eq, decide_eq_true_eq, Prod.mk.injEq, eq_comm, eq_comm (a := b)]
theorem pairsOf_nodup : ∀ {l : List St}, l.Nodup → (pairsOf l).Nodup
  | [], _ => List.nodup_nil
  | [_], _ => List.nodup_nil
  | x :: y :: r, h => by
    rw [List.nodup_cons] at h
    rw [pairsOf, List.nodup_cons]
    exact ⟨fun hm => h.1 (hasS_mem (mem_pairsOf.1 hm)).1, pairsOf_nodup h.2⟩
theorem pass_count {c : Cyl} {l : List St} (hl : l ∈ joinsS c) : ((pairsOf l).filter fun p => (joinsS c).all fun m => hasS m p).length = (passS c).length := by
  refine List.Perm.length_eq ((List.perm_ext_iff_of_nodup (List.Pairwise.filter _ (pairsOf_nodup (join_nodup hl))) (passS_nodup c)).2 fun p => ?_)
  obtain ⟨a, b⟩ := p
  rw [List.mem_filter, mem_passS' (List.ne_nil_of_mem hl), mem_pairsOf, List.all_eq_true]
  exact ⟨fun h => h.2, fun h => ⟨h l hl, h⟩⟩
theorem pass_one {c : Cyl} {l : List St} (hj : joinsS c = [l]) : (passS c).length = l.length - 1 := by
  have hl : l ∈ joinsS c := by rw [hj]; simp
  rw [← pass_count hl, ← pairsOf_len, List.filter_eq_self.2]
  rintro ⟨a, b⟩ hp
  rw [hj, List.all_cons, List.all_nil, Bool.and_true]
  exact mem_pairsOf.1 hp
theorem nodup_at {α : Type} : ∀ {l : List α} {i k : Nat} {x : α}, l.Nodup → l[i]? = some x → l[k]? = some x → i = k
  | [], i, _, _, _, h, _ => by simp at h
  | a :: r, 0, 0, _, _, _, _ => rfl
  | a :: r, 0, k + 1, x, hn, h, h' => by
    simp only [List.getElem?_cons_zero, Option.some.injEq, List.getElem?_cons_succ] at h h'
    subst h
    exact absurd (List.mem_of_getElem? h') (List.nodup_cons.1 hn).1
  | a :: r, i + 1, 0, x, hn, h, h' => by
    simp only [List.getElem?_cons_zero, Option.some.injEq, List.getElem?_cons_succ] at h h'
    subst h'
    exact absurd (List.mem_of_getElem? h) (List.nodup_cons.1 hn).1
  | a :: r, i + 1, k + 1, x, hn, h, h' => by
    simp only [List.getElem?_cons_succ] at h h'
    rw [nodup_at (List.nodup_cons.1 hn).2 h h']
theorem hasS_at {l : List St} {i : Nat} {s b : St} (hn : l.Nodup) (hi : l[i]? = some s) : hasS l (s, b) = true ↔ l[i + 1]? = some b := by
  rw [hasS_iff]
  constructor
  · rintro ⟨x, y, rfl⟩
    have h1 : (x ++ s :: b :: y)[x.length]? = some s := by simp
    rw [nodup_at hn hi h1]
    simp
  · intro h
    have h1 := (List.getElem?_eq_some_iff.1 hi).1
    have h2 := (List.getElem?_eq_some_iff.1 h).1
    refine ⟨l.take i, l.drop (i + 2), ?_⟩
    conv => lhs; rw [← List.take_append_drop i l]
    congr 1
    rw [List.drop_eq_getElem_cons h1, List.drop_eq_getElem_cons h2, (List.getElem?_eq_some_iff.1 hi).2, (List.getElem?_eq_some_iff.1 h).2]
theorem nodup_single {α : Type} {l : List α} {x : α} (hn : l.Nodup) (h : ∀ b, b ∈ l ↔ b = x) : l = [x] := by
  match l, hn, h with
  | [], _, h => exact absurd ((h x).2 rfl) (by simp)
  | [a], _, h => rw [(h a).1 (by simp)]
  | a :: b :: r, hn, h =>
    have h1 := (h a).1 (by simp)
    have h2 := (h b).1 (by simp)
    rw [h1, h2] at hn
    simp at hn
/-- the one next step of a join that is alone -/
theorem riv_one {c : Cyl} {l : List St} {i : Nat} {s : St} (hj : joinsS c = [l]) (hi : l[i]? = some s) : rivS c s = (l.drop (i + 1)).take 1 := by
  have hl : l ∈ joinsS c := by rw [hj]; simp
  have hm : ∀ b, b ∈ rivS c s ↔ l[i + 1]? = some b := fun b => by
    rw [mem_rivS', hj]
    simp only [List.mem_singleton, exists_eq_left]
    exact hasS_at (join_nodup hl) hi
  by_cases h1 : i + 1 < l.length
  · rw [List.drop_eq_getElem_cons h1, List.take_succ_cons, List.take_zero]
    refine nodup_single (rivS_nodup c s) fun b => ?_
    rw [hm, List.getElem?_eq_getElem h1, Option.some.injEq, eq_comm]
  · rw [List.drop_eq_nil_of_le (by omega), List.take_nil, List.eq_nil_iff_forall_not_mem]
    intro b hb
    rw [hm, List.getElem?_eq_none (by omega)] at hb
    cases hb
/-- what comes next in a join is a rival -/
theorem riv_next {c : Cyl} {l : List St} {i : Nat} {s b : St} (hl : l ∈ joinsS c) (hi : l[i]? = some s) (hb : l[i + 1]? = some b) : b ∈ rivS c s :=
  mem_rivS'.2 ⟨l, hl, (hasS_at (join_nodup hl) hi).2 hb⟩
theorem len_of_subset {α : Type} [DecidableEq α] : ∀ {l m : List α}, l.Nodup → (∀ x ∈ l, x ∈ m) → l.length ≤ m.length
  | [], _, _, _ => Nat.zero_le _
  | a :: r, m, hn, h => by
    rw [List.nodup_cons] at hn
    have ha := h a (by simp)
    have := len_of_subset (l := r) (m := m.erase a) hn.2 fun x hx => by
      refine (List.mem_erase_of_ne ?_).2 (h x (by simp [hx]))
      rintro rfl
      exact hn.1 hx
    rw [List.length_erase_of_mem ha] at this
    have := List.length_pos_of_mem ha
    rw [List.length_cons]
    omega
/-- no join is lost -/
structure Wider (c w : Cyl) : Prop where
  len : w.pcs.length = c.pcs.length
  step : ∀ s, isStep c s = true → isStep w s = true
  fit : ∀ x y, isStep c x = true → isStep c y = true → fitsS c x y = true → fitsS w x y = true
theorem chain_wider {c w : Cyl} (h : Wider c w) : ∀ {l : List St}, l.all (isStep c) = true → chain c l = true → chain w l = true
  | [], _, _ => rfl
  | [_], _, _ => rfl
  | x :: y :: r, h1, h2 => by
    rw [List.all_cons, List.all_cons, Bool.and_eq_true, Bool.and_eq_true] at h1
    rw [chain, Bool.and_eq_true] at h2 ⊢
    exact ⟨h.fit x y h1.1 h1.2.1 h2.1, chain_wider h (by rw [List.all_cons, Bool.and_eq_true]; exact h1.2) h2.2⟩
theorem good_wider {c w : Cyl} (h : Wider c w) {l : List St} (hl : goodL c l) : goodL w l := by
  obtain ⟨h1, h2, h3, h4⟩ := hl
  exact ⟨h1.trans h.len.symm, List.all_eq_true.2 fun s hs => h.step s (List.all_eq_true.1 h2 s hs), h3, chain_wider h h2 h4⟩
theorem count_wider {c w : Cyl} (h : Wider c w) : (joinsS c).length ≤ (joinsS w).length :=
  len_of_subset (joinsS_nodup c) fun l hl => mem_joinsS.2 (good_wider h (mem_joinsS.1 hl))
end Go.Proofs.Ytjjjockfppomdaa
