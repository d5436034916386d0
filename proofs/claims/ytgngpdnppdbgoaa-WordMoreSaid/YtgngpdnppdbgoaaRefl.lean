/- The reference's lists of matches and passages are those of the plain functions. Nothing of the program is imported here. -/
import Derived.Test.YtgngpdnppdbgoaaPure
namespace Go.Proofs.Ytgngpdnppdbgoaa
set_option linter.unusedVariables false
set_option linter.unusedSectionVars false

/-! ### matches, line by line -/
theorem places_snoc (d : Nat) : ∀ ds, placesL (ds ++ [d]) = (placesL ds).flatMap fun m => (List.range d).map fun k => m ++ [k]
  | [] => by
    simp only [List.nil_append, placesL, List.flatMap_cons, List.flatMap_nil, List.append_nil, List.map_cons, List.map_nil]
    induction List.range d with
    | nil => rfl
    | cons a l ih => rw [List.flatMap_cons, ih]; rfl
  | e :: ds => by
    show (List.range e).flatMap (fun a => (placesL (ds ++ [d])).map (a :: ·)) = ((List.range e).flatMap _).flatMap _
    rw [places_snoc d ds, List.flatMap_assoc]
    congr 1
    funext a
    rw [List.flatMap_map, List.map_flatMap]
    congr 1
    funext m
    rw [List.map_map]
    rfl
/-- the label of a word: the least one that is alike, as the reference finds it -/
def labI (b : List (Int × Int)) (n : Int) : Nat := rounds (nats b) (nats b).length n.toNat
theorem lab_like (b : List (Int × Int)) (x y : Int) : (labI b x == labI b y) = likeB b x y := by
  rw [Bool.eq_iff_iff, beq_iff_eq]
  unfold likeB labI clsI
  rw [beq_iff_eq, labels_eq]
def stepOk (b : List (Int × Int)) (ls : List (List Int)) (h : Nat) (m : List Nat) (k : Nat) : Bool := h == 0 || labI b (wordAt ls h k) == labI b (wordAt ls 0 (at0 m 0))
def allStep (b : List (Int × Int)) (ls : List (List Int)) (h : Nat) (out : List (List Nat)) : List (List Nat) :=
  out.flatMap fun m => ((List.range (ls.getD h []).length).filter (stepOk b ls h m)).map fun k => m ++ [k]
def allTo (b : List (Int × Int)) (ls : List (List Int)) : Nat → List (List Nat)
  | 0 => [[]]
  | h + 1 => allStep b ls h (allTo b ls h)
theorem at0_append_left {x y : List Nat} {h : Nat} (hh : h < x.length) : at0 (x ++ y) h = at0 x h := by
  unfold at0
  rw [List.getD_eq_getElem?_getD, List.getD_eq_getElem?_getD, List.getElem?_append_left hh]
theorem at0_append_right {x : List Nat} {a : Nat} : at0 (x ++ [a]) x.length = a := by
  unfold at0
  rw [List.getD_eq_getElem?_getD, List.getElem?_append_right (Nat.le_refl _)]
  simp
theorem getD_take {ls : List (List Int)} {n h : Nat} (hh : h < n) : (ls.take n).getD h [] = ls.getD h [] := by
  rw [List.getD_eq_getElem?_getD, List.getD_eq_getElem?_getD, List.getElem?_take, if_pos hh]
theorem wordAt_take {ls : List (List Int)} {n h i : Nat} (hh : h < n) : wordAt (ls.take n) h i = wordAt ls h i := by
  unfold wordAt
  rw [getD_take hh]
/-- matched as far as some lines go -/
def mtTo (b : List (Int × Int)) (ls : List (List Int)) (n : Nat) (m : List Nat) : Bool := (List.range n).all fun h => likeB b (wordAt ls h (at0 m h)) (wordAt ls 0 (at0 m 0))
theorem mtTo_all (b : List (Int × Int)) (ls : List (List Int)) : mtTo b ls ls.length = mtB b ls := rfl
theorem filter_flatMap' {α β : Type} (p : β → Bool) (f : α → List β) (l : List α) : (l.flatMap f).filter p = l.flatMap fun x => (f x).filter p := by
  induction l with
  | nil => rfl
  | cons x l ih => rw [List.flatMap_cons, List.filter_append, ih, List.flatMap_cons]
theorem flatMap_filter' {α β : Type} (p : α → Bool) (f : α → List β) (l : List α) : (l.filter p).flatMap f = l.flatMap fun x => if p x = true then f x else [] := by
  induction l with
  | nil => rfl
  | cons x l ih =>
    rw [List.filter_cons, List.flatMap_cons]
    split
    · rw [List.flatMap_cons, ih]
    · rw [ih]; rfl
theorem flatMap_congr' {α β : Type} {f g : α → List β} {l : List α} (h : ∀ x ∈ l, f x = g x) : l.flatMap f = l.flatMap g := by
  induction l with
  | nil => rfl
  | cons x l ih => rw [List.flatMap_cons, List.flatMap_cons, h x (List.mem_cons_self ..), ih fun y hy => h y (List.mem_cons_of_mem _ hy)]
theorem allTo_eq (b : List (Int × Int)) (ls : List (List Int)) : ∀ n, n ≤ ls.length → allTo b ls n = (placesL ((dsOf ls).take n)).filter (mtTo b ls n)
  | 0, _ => rfl
  | n + 1, hn => by
    have ih := allTo_eq b ls n (by omega)
    have hd : (dsOf ls).take (n + 1) = (dsOf ls).take n ++ [(ls.getD n []).length] := by
      unfold dsOf
      rw [← List.map_take, ← List.map_take, List.take_add_one, List.getElem?_eq_getElem (by omega)]
      simp [List.getD_eq_getElem?_getD, List.getElem?_eq_getElem (show n < ls.length by omega), List.map_take]
      rw [List.take_add_one, List.getElem?_map, List.getElem?_eq_getElem (show n < ls.length by omega)]
      rfl
    show allStep b ls n (allTo b ls n) = _
    rw [ih, hd, places_snoc, filter_flatMap']
    unfold allStep
    rw [flatMap_filter']
    refine flatMap_congr' fun m hm => ?_
    have hml : m.length = n := by
      rw [(mem_places.1 hm).1, List.length_take, dsOf_len]
      omega
    rw [List.filter_map]
    have e : ∀ k, mtTo b ls (n + 1) (m ++ [k]) = (mtTo b ls n m && stepOk b ls n m k) := by
      intro k
      unfold mtTo
      rw [List.range_succ, List.all_append]
      have h1 : at0 (m ++ [k]) n = k := by rw [← hml]; exact at0_append_right
      have h2 : ((List.range n).all fun h => likeB b (wordAt ls h (at0 (m ++ [k]) h)) (wordAt ls 0 (at0 (m ++ [k]) 0))) = (List.range n).all fun h => likeB b (wordAt ls h (at0 m h)) (wordAt ls 0 (at0 m 0)) := by
        rw [Bool.eq_iff_iff, List.all_eq_true, List.all_eq_true]
        constructor
        · intro h x hx
          have := h x hx
          rw [List.mem_range] at hx
          rwa [at0_append_left (by omega), at0_append_left (by omega)] at this
        · intro h x hx
          have := h x hx
          rw [List.mem_range] at hx
          rwa [at0_append_left (by omega), at0_append_left (by omega)]
      rw [h2]
      congr 1
      unfold stepOk
      rw [lab_like]
      simp only [List.all_cons, List.all_nil, Bool.and_true, h1]
      cases n with
      | zero =>
        have hm0 : m = [] := List.length_eq_zero_iff.1 hml
        subst hm0
        simp [likeB, at0]
      | succ n =>
        rw [at0_append_left (by omega)]
        simp
    by_cases hmt : mtTo b ls n m = true
    · rw [if_pos hmt]
      congr 1
      refine List.filter_congr fun k _ => ?_
      show _ = mtTo b ls (n + 1) (m ++ [k])
      rw [e k, hmt, Bool.true_and]
    · rw [if_neg hmt]
      symm
      rw [List.map_eq_nil_iff, List.filter_eq_nil_iff]
      intro k _
      show ¬ mtTo b ls (n + 1) (m ++ [k]) = true
      rw [e k]
      simp [hmt]
theorem allTo_mats (b : List (Int × Int)) (ls : List (List Int)) : allTo b ls ls.length = matsOf b ls := by
  rw [allTo_eq b ls _ (Nat.le_refl _), ← dsOf_len ls, List.take_length, dsOf_len]
  rfl
theorem allTo_len {b : List (Int × Int)} {ls : List (List Int)} (h : Good b ls) {n : Nat} (hn : n ≤ ls.length) : (allTo b ls n).length ≤ 4096 := by
  rw [allTo_eq b ls n hn]
  refine Nat.le_trans (List.length_filter_le _ _) (Nat.le_trans (places_len fun d hd => h.ds8 d (List.mem_of_mem_take hd)) (Nat.le_trans (Nat.pow_le_pow_right (by omega) (show _ ≤ 4 from ?_)) (show 8 ^ 4 ≤ 4096 by decide)))
  rw [List.length_take, dsOf_len]
  have := h.four
  omega
theorem allTo_mem {b : List (Int × Int)} {ls : List (List Int)} {n : Nat} (hn : n ≤ ls.length) {m : List Nat} (hm : m ∈ allTo b ls n) : m.length = n ∧ ∀ h, h < n → at0 m h < (ls.getD h []).length := by
  rw [allTo_eq b ls n hn, List.mem_filter, mem_places] at hm
  obtain ⟨⟨h1, h2⟩, -⟩ := hm
  have hl : ((dsOf ls).take n).length = n := by rw [List.length_take, dsOf_len]; omega
  rw [hl] at h1 h2
  refine ⟨h1, fun h hh => ?_⟩
  have := h2 h hh
  have e : at0 ((dsOf ls).take n) h = at0 (dsOf ls) h := by
    unfold at0
    rw [List.getD_eq_getElem?_getD, List.getD_eq_getElem?_getD, List.getElem?_take, if_pos hh]
  rw [e, at0_ds] at this
  exact this

/-! ### passages, one match more each time -/
section
variable {α : Type} [DecidableEq α]
def extL (ms : List α) (bef : α → α → Bool) (l : List α) : List (List α) := (ms.filter (aft bef (lastO none l))).map fun y => l ++ [y]
theorem chains_snoc (ms : List α) (bef : α → α → Bool) : ∀ (f : Nat) (o : Option α), chains ms bef (f + 1) o = (chains ms bef f o).flatMap fun l => (ms.filter (aft bef (lastO o l))).map fun y => l ++ [y]
  | 0, o => by
    show (ms.filter (aft bef o)).flatMap (fun y => [[]].map (y :: ·)) = _
    simp [chains, lastO, List.flatMap_singleton']
    induction ms.filter (aft bef o) with
    | nil => rfl
    | cons a l ih => simp [ih]
  | f + 1, o => by
    show (ms.filter (aft bef o)).flatMap (fun y => (chains ms bef (f + 1) (some y)).map (y :: ·)) = ((ms.filter (aft bef o)).flatMap fun y => (chains ms bef f (some y)).map (y :: ·)).flatMap _
    rw [List.flatMap_assoc]
    refine flatMap_congr' fun y _ => ?_
    rw [chains_snoc ms bef f (some y), List.flatMap_map, List.map_flatMap]
    refine flatMap_congr' fun l _ => ?_
    rw [List.map_map, lastO_cons]
    rfl
theorem chains_next (ms : List α) (bef : α → α → Bool) (f : Nat) : chains ms bef (f + 1) none = (chains ms bef f none).flatMap (extL ms bef) := chains_snoc ms bef f none
/-- passages go on as long as some are longer -/
theorem Lev.more {ms : List α} {bef : α → α → Bool} {lv : α → Nat} {most : Nat} (h : Lev ms bef lv most) {f : Nat} : chains ms bef (f + 1) none = [] ↔ most ≤ f := by
  constructor
  · intro he
    apply Nat.le_of_not_lt
    intro hlt
    obtain ⟨l, hl⟩ := h.exists_
    obtain ⟨h1, h2⟩ := mem_chains.1 hl
    have h3 : l.take (f + 1) ∈ chains ms bef (f + 1) none := by
      refine mem_chains.2 ⟨by rw [List.length_take]; omega, ?_⟩
      rw [← List.take_append_drop (f + 1) l] at h2
      exact (isCh_append.1 h2).1
    rw [he] at h3
    cases h3
  · intro hle
    exact h.noch (fun _ e => by cases e) (by simp [lvO]) (by simp [lvO]; omega)
/-- what comes first in the list is no part of what goes on from later elements -/
theorem chains_tail {bef : α → α → Bool} {x : α} {r : List α} (hx : ∀ y ∈ r, bef y x = false) : ∀ (g : Nat) (y : α), bef y x = false → chains (x :: r) bef g (some y) = chains r bef g (some y)
  | 0, y, _ => rfl
  | g + 1, y, hy => by
    show ((x :: r).filter (bef y)).flatMap _ = (r.filter (bef y)).flatMap _
    rw [List.filter_cons, if_neg (by simp [hy])]
    exact flatMap_congr' fun z hz => by rw [chains_tail hx g z (hx z (List.mem_filter.1 hz).1)]
theorem chains_small {bef : α → α → Bool} (ir : ∀ x, bef x x = false) : ∀ (l : List α), Ord l bef → ∀ (f : Nat) (o : Option α), (chains l bef f o).length ≤ 2 ^ l.length
  | [], _, f, o => by
    cases f with
    | zero => exact Nat.le_refl _
    | succ f => exact Nat.zero_le _
  | x :: r, ho, f, o => by
    obtain ⟨h1, h2⟩ := List.pairwise_cons.1 ho
    have ih := chains_small ir r h2
    cases f with
    | zero => exact Nat.one_le_two_pow
    | succ f =>
      have e : (chains (x :: r) bef (f + 1) o).length ≤ (chains r bef f (some x)).length + (chains r bef (f + 1) o).length := by
        show (((x :: r).filter (aft bef o)).flatMap fun y => (chains (x :: r) bef f (some y)).map (y :: ·)).length ≤ _
        have e2 : ((r.filter (aft bef o)).flatMap fun y => (chains (x :: r) bef f (some y)).map (y :: ·)) = chains r bef (f + 1) o := by
          show _ = (r.filter (aft bef o)).flatMap _
          exact flatMap_congr' fun z hz => by rw [chains_tail h1 f z (h1 z (List.mem_filter.1 hz).1)]
        rw [List.filter_cons]
        split
        · rw [List.flatMap_cons, List.length_append, e2, List.length_map, chains_tail h1 f x (ir x)]
          exact Nat.le_refl _
        · rw [e2]
          exact Nat.le_add_left ..
      have h3 := ih f (some x)
      have h4 := ih (f + 1) o
      rw [List.length_cons, Nat.pow_succ]
      omega
end
end Go.Proofs.Ytgngpdnppdbgoaa
