/- Plain facts for the laws of words: more hearers, pairs, words; lines read from their ends, hearers in other places; words written otherwise. Nothing of the program is imported here. -/
import Derived.Test.YtgngpdnppdbgoaaLawP
namespace Go.Proofs.Ytgngpdnppdbgoaa
set_option linter.unusedVariables false
set_option linter.unusedSectionVars false

/-! ### chains of one list as chains of another one -/
theorem chain_map {α β : Type} {ms : List α} {ns : List β} {bef : α → α → Bool} {bef' : β → β → Bool} {φ : α → β} (h1 : ∀ x ∈ ms, φ x ∈ ns) (h2 : ∀ x ∈ ms, ∀ y ∈ ms, bef x y = true → bef' (φ x) (φ y) = true) : ∀ {l : List α} {o : Option α}, (∀ x, o = some x → x ∈ ms) → IsCh ms bef o l → IsCh ns bef' (o.map φ) (l.map φ)
  | [], _, _, _ => trivial
  | y :: r, o, ho, h => by
    refine ⟨⟨h1 y h.1.1, ?_⟩, ?_⟩
    · cases o with
      | none => rfl
      | some x => exact h2 x (ho x rfl) y h.1.1 h.1.2
    · exact chain_map h1 h2 (o := some y) (fun x e => by injection e with e; exact e ▸ h.1.1) h.2
theorem most_map {α β : Type} {ms : List α} {ns : List β} {bef : α → α → Bool} {bef' : β → β → Bool} {lv : α → Nat} {lv' : β → Nat} {m m' : Nat} [DecidableEq α] [DecidableEq β] (hL : Lev ms bef lv m) (hM : Lev ns bef' lv' m') {φ : α → β} (h1 : ∀ x ∈ ms, φ x ∈ ns) (h2 : ∀ x ∈ ms, ∀ y ∈ ms, bef x y = true → bef' (φ x) (φ y) = true) : m ≤ m' := by
  obtain ⟨l, hl⟩ := hL.exists_
  obtain ⟨h3, h4⟩ := mem_chains.1 hl
  have := hM.longest (chain_map (o := none) h1 h2 (fun _ e => by cases e) h4)
  rw [List.length_map] at this
  omega
theorem chains_nodup {α : Type} {ms : List α} {bef : α → α → Bool} (hn : ms.Nodup) : ∀ (f : Nat) (o : Option α), (chains ms bef f o).Nodup
  | 0, _ => by simp [chains]
  | f + 1, o => by
    show ((ms.filter (aft bef o)).flatMap _).Nodup
    unfold List.Nodup
    rw [List.pairwise_flatMap]
    refine ⟨fun y _ => ?_, ?_⟩
    · rw [List.pairwise_map]
      exact (chains_nodup hn f (some y)).imp fun h e => h (by injection e)
    · refine (hn.filter _).imp fun {a b} hab x hx y hy => ?_
      obtain ⟨r, -, rfl⟩ := List.mem_map.1 hx
      obtain ⟨s, -, rfl⟩ := List.mem_map.1 hy
      intro e
      injection e with e
      exact hab e
theorem len_of_subset {α : Type} [DecidableEq α] : ∀ {l m : List α}, l.Nodup → (∀ x ∈ l, x ∈ m) → l.length ≤ m.length
  | [], m, _, _ => Nat.zero_le _
  | x :: l, m, hn, h => by
    rw [List.nodup_cons] at hn
    have hx := h x (List.mem_cons_self ..)
    have := len_of_subset (m := m.erase x) hn.2 fun y hy => by
      refine (List.mem_erase_of_ne ?_).2 (h y (List.mem_cons_of_mem _ hy))
      rintro rfl
      exact hn.1 hy
    rw [List.length_erase_of_mem hx] at this
    have := List.length_pos_of_mem hx
    rw [List.length_cons]
    omega
theorem nodup_map_on {α β : Type} {f : α → β} : ∀ {l : List α}, l.Nodup → (∀ x ∈ l, ∀ y ∈ l, f x = f y → x = y) → (l.map f).Nodup
  | [], _, _ => List.nodup_nil
  | x :: l, hn, h => by
    rw [List.nodup_cons] at hn
    rw [List.map_cons, List.nodup_cons]
    refine ⟨fun hm => ?_, nodup_map_on hn.2 fun y hy z hz => h y (List.mem_cons_of_mem _ hy) z (List.mem_cons_of_mem _ hz)⟩
    obtain ⟨y, hy, e⟩ := List.mem_map.1 hm
    have := h y (List.mem_cons_of_mem _ hy) x (List.mem_cons_self ..) e
    exact hn.1 (this ▸ hy)
theorem count_le {α β : Type} [DecidableEq β] {A : List α} {B : List β} {Φ : α → β} {p : α → Bool} {q : β → Bool} (hA : A.Nodup) (h1 : ∀ l ∈ A, Φ l ∈ B) (h2 : ∀ l ∈ A, p l = true → q (Φ l) = true) (h3 : ∀ x ∈ A, ∀ y ∈ A, Φ x = Φ y → x = y) : A.countP p ≤ B.countP q := by
  rw [List.countP_eq_length_filter, List.countP_eq_length_filter]
  have := len_of_subset (l := (A.filter p).map Φ) (m := B.filter q) (nodup_map_on (hA.filter _) fun x hx y hy => h3 x (List.mem_filter.1 hx).1 y (List.mem_filter.1 hy).1) fun x hx => by
    obtain ⟨l, hl, rfl⟩ := List.mem_map.1 hx
    rw [List.mem_filter] at hl ⊢
    exact ⟨h1 l hl.1, h2 l hl.1 hl.2⟩
  rwa [List.length_map] at this
/-- longest chains of two lists, by a map and its inverse -/
theorem count_iso {α β : Type} [DecidableEq α] [DecidableEq β] {A : List α} {B : List β} {Φ : α → β} {Ψ : β → α} {p : α → Bool} {q : β → Bool} (hA : A.Nodup) (hB : B.Nodup) (h1 : ∀ l ∈ A, Φ l ∈ B) (h2 : ∀ l ∈ B, Ψ l ∈ A) (h3 : ∀ l ∈ A, Ψ (Φ l) = l) (h4 : ∀ l ∈ B, Φ (Ψ l) = l) (hq : ∀ l ∈ A, q (Φ l) = p l) : A.countP p = B.countP q := by
  apply Nat.le_antisymm
  · exact count_le hA h1 (fun l hl e => by rw [hq l hl]; exact e) fun x hx y hy e => by rw [← h3 x hx, ← h3 y hy, e]
  · exact count_le hB h2 (fun l hl e => by rw [← hq _ (h2 l hl), h4 l hl]; exact e) fun x hx y hy e => by rw [← h4 x hx, ← h4 y hy, e]

/-! ### one hearer, one pair, one word more -/
theorem wordAt_append {ls : List (List Int)} {l : List Int} {h i : Nat} (hh : h < ls.length) : wordAt (ls ++ [l]) h i = wordAt ls h i := by
  unfold wordAt
  rw [show (ls ++ [l]).getD h [] = ls.getD h [] by rw [List.getD_eq_getElem?_getD, List.getD_eq_getElem?_getD, List.getElem?_append_left hh]]
theorem at0_take {m : List Nat} {k h : Nat} (hh : h < k) : at0 (m.take k) h = at0 m h := by
  unfold at0
  rw [List.getD_eq_getElem?_getD, List.getD_eq_getElem?_getD, List.getElem?_take, if_pos hh]
theorem mtB_iff {b : List (Int × Int)} {ls : List (List Int)} {m : List Nat} : mtB b ls m = true ↔ ∀ h, h < ls.length → likeB b (wordAt ls h (at0 m h)) (wordAt ls 0 (at0 m 0)) = true := by
  unfold mtB
  simp
theorem befL_iff {ls : List (List Int)} {x y : List Nat} : befL ls x y = true ↔ ∀ h, h < ls.length → at0 x h < at0 y h := befK_iff
theorem more_hearer {b : List (Int × Int)} {ls : List (List Int)} {l : List Int} (h : Good b ls) (h' : Good b (ls ++ [l])) : mostOf b (ls ++ [l]) ≤ mostOf b ls := by
  have h2 := h.two
  refine most_map (levOf h') (levOf h) (φ := fun m => m.take ls.length) (fun x hx => ?_) fun x hx y hy hb => ?_
  · obtain ⟨⟨h1, h3⟩, h4⟩ := mem_matsOf.1 hx
    rw [List.length_append, List.length_singleton] at h1 h3
    refine mem_matsOf.2 ⟨⟨by rw [List.length_take]; omega, fun j hj => ?_⟩, mtB_iff.2 fun j hj => ?_⟩
    · have := h3 j (by omega)
      rw [List.getD_eq_getElem?_getD, List.getElem?_append_left hj] at this
      rw [at0_take hj, List.getD_eq_getElem?_getD]
      exact this
    · have := mtB_iff.1 h4 j (by rw [List.length_append]; omega)
      rw [wordAt_append hj, wordAt_append (by omega)] at this
      rw [at0_take hj, at0_take (by omega)]
      exact this
  · refine befL_iff.2 fun j hj => ?_
    have := befL_iff.1 hb j (by rw [List.length_append]; omega)
    rw [at0_take hj, at0_take hj]
    exact this
theorem like_more {b : List (Int × Int)} {p : Int × Int} {x y : Int} (h : likeB b x y = true) : likeB (b ++ [p]) x y = true := by
  unfold likeB clsI at h ⊢
  rw [beq_iff_eq, cls_iff] at h ⊢
  refine h.mono fun q hq => ?_
  unfold nats at hq ⊢
  rw [List.map_append]
  exact List.mem_append_left _ hq
theorem more_pair {b : List (Int × Int)} {ls : List (List Int)} {p : Int × Int} (h : Good b ls) (h' : Good (b ++ [p]) ls) : mostOf b ls ≤ mostOf (b ++ [p]) ls := by
  refine most_map (levOf h) (levOf h') (φ := id) (fun x hx => ?_) fun x hx y hy hb => hb
  obtain ⟨h1, h4⟩ := mem_matsOf.1 hx
  exact mem_matsOf.2 ⟨h1, mtB_iff.2 fun j hj => like_more (mtB_iff.1 h4 j hj)⟩
/-- a line with one word more -/
def putW (l : List Int) (i : Nat) (e : Int) : List Int := l.take i ++ e :: l.drop i
def putL (ls : List (List Int)) (h i : Nat) (e : Int) : List (List Int) := ls.set h (putW (ls.getD h []) i e)
theorem getD_set {α : Type} {ls : List α} {h j : Nat} {l d : α} (hh : h < ls.length) : (ls.set h l).getD j d = if j = h then l else ls.getD j d := by
  simp only [List.getD_eq_getElem?_getD, List.getElem?_set]
  by_cases e : h = j
  · subst e
    simp [hh]
  · rw [if_neg e, if_neg fun e2 => e e2.symm]
theorem putW_at {l : List Int} {i : Nat} (hi : i ≤ l.length) (e : Int) (a : Nat) : (putW l i e).getD (if a < i then a else a + 1) 0 = l.getD a 0 := by
  unfold putW
  by_cases ha : a < i
  · rw [if_pos ha, List.getD_eq_getElem?_getD, List.getElem?_append_left (by rw [List.length_take]; omega), List.getElem?_take, if_pos ha, List.getD_eq_getElem?_getD]
  · rw [if_neg ha, List.getD_eq_getElem?_getD, List.getElem?_append_right (by rw [List.length_take]; omega), List.length_take, Nat.min_eq_left hi,
      show a + 1 - i = (a - i) + 1 by omega, List.getElem?_cons_succ, List.getElem?_drop, show i + (a - i) = a by omega, List.getD_eq_getElem?_getD]
theorem putW_len {l : List Int} {i : Nat} (hi : i ≤ l.length) (e : Int) : (putW l i e).length = l.length + 1 := by
  unfold putW
  simp
  omega
theorem at0_set {m : List Nat} {h j v : Nat} (hh : h < m.length) : at0 (m.set h v) j = if j = h then v else at0 m j := getD_set hh
theorem more_word {b : List (Int × Int)} {ls : List (List Int)} {h i : Nat} {e : Int} (hg : Good b ls) (hh : h < ls.length) (hi : i ≤ (ls.getD h []).length) (h' : Good b (putL ls h i e)) : mostOf b ls ≤ mostOf b (putL ls h i e) := by
  have hlen : (putL ls h i e).length = ls.length := by unfold putL; rw [List.length_set]
  have hwd : ∀ m : List Nat, m.length = ls.length → ∀ j, j < ls.length → wordAt (putL ls h i e) j (at0 (m.set h (if at0 m h < i then at0 m h else at0 m h + 1)) j) = wordAt ls j (at0 m j) := by
    intro m hm j hj
    unfold wordAt putL
    rw [getD_set hh, at0_set (by omega)]
    by_cases e : j = h
    · subst e
      simp only [if_true]
      exact putW_at hi _ _
    · simp only [if_neg e]
  refine most_map (levOf hg) (levOf h') (φ := fun m => m.set h (if at0 m h < i then at0 m h else at0 m h + 1)) (fun x hx => ?_) fun x hx y hy hb => ?_
  · obtain ⟨⟨h1, h3⟩, h4⟩ := mem_matsOf.1 hx
    refine mem_matsOf.2 ⟨⟨by rw [List.length_set, hlen]; exact h1, fun j hj => ?_⟩, mtB_iff.2 fun j hj => ?_⟩
    · rw [hlen] at hj
      have := h3 j hj
      unfold putL
      rw [getD_set hh, at0_set (by omega)]
      by_cases e : j = h
      · subst e
        simp only [if_true]
        rw [putW_len hi]
        split <;> omega
      · simp only [if_neg e]
        exact this
    · rw [hlen] at hj
      rw [hwd x h1 j hj, hwd x h1 0 (by omega)]
      exact mtB_iff.1 h4 j hj
  · have hx1 := (mem_matsOf.1 hx).1.1
    have hy1 := (mem_matsOf.1 hy).1.1
    refine befL_iff.2 fun j hj => ?_
    rw [hlen] at hj
    have := befL_iff.1 hb j hj
    rw [at0_set (by omega), at0_set (by omega)]
    by_cases e : j = h
    · subst e
      simp only [if_true]
      split <;> split <;> omega
    · simp only [if_neg e]
      exact this

/-! ### lines read from their ends -/
def flipM (ls : List (List Int)) (m : List Nat) : List Nat := (List.range ls.length).map fun h => (ls.getD h []).length - 1 - at0 m h
def revL (ls : List (List Int)) : List (List Int) := ls.map List.reverse
theorem at0_map_range {n h : Nat} {f : Nat → Nat} (hh : h < n) : at0 ((List.range n).map f) h = f h := by
  unfold at0
  rw [List.getD_eq_getElem?_getD, List.getElem?_map, List.getElem?_range hh]
  rfl
theorem revL_len (ls : List (List Int)) : (revL ls).length = ls.length := List.length_map ..
theorem revL_at {ls : List (List Int)} {h : Nat} : (revL ls).getD h [] = (ls.getD h []).reverse := by
  unfold revL
  simp only [List.getD_eq_getElem?_getD, List.getElem?_map]
  cases ls[h]? <;> rfl
theorem wordAt_rev {ls : List (List Int)} {h i : Nat} (hi : i < (ls.getD h []).length) : wordAt (revL ls) h ((ls.getD h []).length - 1 - i) = wordAt ls h i := by
  unfold wordAt
  rw [revL_at]
  generalize ls.getD h [] = l at *
  rw [List.getD_eq_getElem?_getD, List.getElem?_reverse (by omega), List.getD_eq_getElem?_getD, show l.length - 1 - (l.length - 1 - i) = i by omega]
theorem ext_at0 {x y : List Nat} (h1 : x.length = y.length) (h2 : ∀ h, h < x.length → at0 x h = at0 y h) : x = y := by
  apply List.ext_getElem h1
  intro i hi hj
  have := h2 i hi
  unfold at0 at this
  rw [List.getD_eq_getElem?_getD, List.getD_eq_getElem?_getD, List.getElem?_eq_getElem hi, List.getElem?_eq_getElem hj] at this
  exact this
theorem flip_mem {b : List (Int × Int)} {ls : List (List Int)} (h2 : 2 ≤ ls.length) {m : List Nat} (hm : m ∈ matsOf b ls) : flipM ls m ∈ matsOf b (revL ls) := by
  obtain ⟨⟨h1, h3⟩, h4⟩ := mem_matsOf.1 hm
  refine mem_matsOf.2 ⟨⟨by simp [flipM, revL], fun j hj => ?_⟩, mtB_iff.2 fun j hj => ?_⟩
  · rw [revL_len] at hj
    unfold flipM
    rw [at0_map_range hj, revL_at, List.length_reverse]
    have := h3 j hj
    omega
  · rw [revL_len] at hj
    unfold flipM
    rw [at0_map_range hj, at0_map_range (by omega), wordAt_rev (h3 j hj), wordAt_rev (h3 0 (by omega))]
    exact mtB_iff.1 h4 j hj
theorem flip_flip {b : List (Int × Int)} {ls : List (List Int)} {m : List Nat} (hm : m ∈ matsOf b ls) : flipM (revL ls) (flipM ls m) = m := by
  obtain ⟨⟨h1, h3⟩, -⟩ := mem_matsOf.1 hm
  refine ext_at0 (by simp [flipM, revL, h1]) fun j hj => ?_
  have hj' : j < ls.length := by simpa [flipM, revL] using hj
  rw [show flipM (revL ls) (flipM ls m) = (List.range (revL ls).length).map fun h => ((revL ls).getD h []).length - 1 - at0 (flipM ls m) h from rfl,
    at0_map_range (by rw [revL_len]; exact hj'), revL_at, List.length_reverse, flipM, at0_map_range hj']
  have := h3 j hj'
  omega
theorem flip_bef {b : List (Int × Int)} {ls : List (List Int)} {x y : List Nat} (hx : x ∈ matsOf b ls) (hy : y ∈ matsOf b ls) (h : befL ls x y = true) : befL (revL ls) (flipM ls y) (flipM ls x) = true := by
  refine befL_iff.2 fun j hj => ?_
  rw [revL_len] at hj
  unfold flipM
  rw [at0_map_range hj, at0_map_range hj]
  have h1 := (mem_matsOf.1 hx).1.2 j hj
  have h2 := (mem_matsOf.1 hy).1.2 j hj
  have h3 := befL_iff.1 h j hj
  omega
theorem rev_rev (ls : List (List Int)) : revL (revL ls) = ls := by
  unfold revL
  rw [List.map_map]
  have : List.reverse ∘ List.reverse = (id : List Int → List Int) := funext fun l => List.reverse_reverse l
  rw [this, List.map_id]
theorem flip_chain {b : List (Int × Int)} {ls : List (List Int)} (h2 : 2 ≤ ls.length) {l : List (List Nat)} (hl : IsCh (matsOf b ls) (befL ls) none l) : IsCh (matsOf b (revL ls)) (befL (revL ls)) none (l.map (flipM ls)).reverse := by
  have hm := hl.mem
  have hp := chain_pair (befK_tr (k := ls.length)) hl
  refine chain_of_pair (fun x hx => ?_) ?_ fun x y e => by cases e
  · rw [List.mem_reverse] at hx
    obtain ⟨m, hm', rfl⟩ := List.mem_map.1 hx
    exact flip_mem h2 (hm m hm')
  · rw [List.pairwise_reverse, List.pairwise_map]
    exact hp.imp_of_mem fun {x y} hx hy h => flip_bef (hm x hx) (hm y hy) h
theorem good_rev {b : List (Int × Int)} {ls : List (List Int)} (h : Good b ls) : Good b (revL ls) := by
  refine ⟨h.book, by rw [revL_len]; exact h.two, by rw [revL_len]; exact h.four, fun l hl => ?_, fun l hl n hn => ?_⟩
  · obtain ⟨l', hl', rfl⟩ := List.mem_map.1 hl
    rw [List.length_reverse]
    exact h.eight l' hl'
  · obtain ⟨l', hl', rfl⟩ := List.mem_map.1 hl
    exact h.word l' hl' n (List.mem_reverse.1 hn)
theorem rev_most {b : List (Int × Int)} {ls : List (List Int)} (h : Good b ls) : mostOf b (revL ls) = mostOf b ls := by
  have key : ∀ ls, Good b ls → mostOf b ls ≤ mostOf b (revL ls) := by
    intro ls h
    obtain ⟨l, hl⟩ := (levOf h).exists_
    obtain ⟨h1, h2⟩ := mem_chains.1 hl
    have := (levOf (good_rev h)).longest (flip_chain h.two h2)
    rw [List.length_reverse, List.length_map] at this
    omega
  apply Nat.le_antisymm
  · have := key (revL ls) (good_rev h)
    rwa [rev_rev] at this
  · exact key ls h
theorem rev_long {b : List (Int × Int)} {ls : List (List Int)} (h : Good b ls) {l : List (List Nat)} (hl : l ∈ longOf b ls) : (l.map (flipM ls)).reverse ∈ longOf b (revL ls) := by
  rw [long_iff] at hl ⊢
  refine ⟨by rw [List.length_reverse, List.length_map, rev_most h]; exact hl.1, flip_chain h.two hl.2⟩
theorem rev_back {b : List (Int × Int)} {ls : List (List Int)} {l : List (List Nat)} (hl : l ∈ longOf b ls) : ((l.map (flipM ls)).reverse.map (flipM (revL ls))).reverse = l := by
  rw [List.map_reverse, List.reverse_reverse, List.map_map]
  have hm := (long_iff.1 hl).2.mem
  have : l.map (flipM (revL ls) ∘ flipM ls) = l.map id := List.map_congr_left fun m hm' => flip_flip (hm m hm')
  rw [this, List.map_id]
theorem long_nodup {b : List (Int × Int)} {ls : List (List Int)} (h : Good b ls) : (longOf b ls).Nodup := chains_nodup (levOf h).nd _ _
theorem rev_count {b : List (Int × Int)} {ls : List (List Int)} (h : Good b ls) {p q : List (List Nat) → Bool} (hq : ∀ l ∈ longOf b ls, q ((l.map (flipM ls)).reverse) = p l) : (longOf b ls).countP p = (longOf b (revL ls)).countP q := by
  refine count_iso (Φ := fun l => (l.map (flipM ls)).reverse) (Ψ := fun l => (l.map (flipM (revL ls))).reverse) (long_nodup h) (long_nodup (good_rev h)) (fun l hl => rev_long h hl) (fun l hl => ?_) (fun l hl => rev_back hl) (fun l hl => ?_) hq
  · have := rev_long (good_rev h) hl
    rwa [rev_rev] at this
  · have := rev_back hl
    rwa [rev_rev] at this
theorem countP_true' {α : Type} (l : List α) : l.countP (fun _ => true) = l.length := by simp
theorem rev_length {b : List (Int × Int)} {ls : List (List Int)} (h : Good b ls) : (longOf b (revL ls)).length = (longOf b ls).length := by
  rw [← countP_true', ← countP_true']
  exact (rev_count h fun _ _ => rfl).symm
theorem rev_grade {b : List (Int × Int)} {ls : List (List Int)} (h : Good b ls) {j i : Nat} (hj : j < ls.length) (hi : i < (ls.getD j []).length) : (longOf b (revL ls)).countP (hearsB j ((ls.getD j []).length - 1 - i)) = (longOf b ls).countP (hearsB j i) := by
  refine (rev_count h fun l hl => ?_).symm
  have hm := (long_iff.1 hl).2.mem
  unfold hearsB
  rw [List.any_reverse, List.any_map, Bool.eq_iff_iff, List.any_eq_true, List.any_eq_true]
  constructor
  · rintro ⟨m, hm', e⟩
    refine ⟨m, hm', ?_⟩
    have h3 := (mem_matsOf.1 (hm m hm')).1.2 j hj
    simp only [Function.comp_apply, flipM, at0_map_range hj, beq_iff_eq] at e ⊢
    omega
  · rintro ⟨m, hm', e⟩
    refine ⟨m, hm', ?_⟩
    have h3 := (mem_matsOf.1 (hm m hm')).1.2 j hj
    simp only [Function.comp_apply, flipM, at0_map_range hj, beq_iff_eq] at e ⊢
    omega
theorem rev_grades {b : List (Int × Int)} {ls : List (List Int)} (h : Good b ls) {j i : Nat} (hj : j < ls.length) (hi : i < (ls.getD j []).length) : (gradesOf b (revL ls) j)[(ls.getD j []).length - 1 - i]? = (gradesOf b ls j)[i]? := by
  rw [grades_at (by rw [revL_at, List.length_reverse]; omega), grades_at hi, rev_grade h hj hi, rev_length h]

/-! ### hearers in other places -/
def rotL (ls : List (List Int)) (t : Nat) : List (List Int) := (List.range ls.length).map fun i => ls.getD ((i + t) % ls.length) []
def rotM (k t : Nat) (m : List Nat) : List Nat := (List.range k).map fun i => at0 m ((i + t) % k)
theorem rotL_len (ls : List (List Int)) (t : Nat) : (rotL ls t).length = ls.length := by simp [rotL]
theorem rotL_at {ls : List (List Int)} {t h : Nat} (hh : h < ls.length) : (rotL ls t).getD h [] = ls.getD ((h + t) % ls.length) [] := by
  unfold rotL
  rw [List.getD_eq_getElem?_getD, List.getElem?_map, List.getElem?_range hh]
  rfl
theorem at0_rot {k t h : Nat} {m : List Nat} (hh : h < k) : at0 (rotM k t m) h = at0 m ((h + t) % k) := at0_map_range hh
theorem wordAt_rot {ls : List (List Int)} {t h i : Nat} (hh : h < ls.length) : wordAt (rotL ls t) h i = wordAt ls ((h + t) % ls.length) i := by
  unfold wordAt
  rw [rotL_at hh]
theorem like_symm {b : List (Int × Int)} {x y : Int} (h : likeB b x y = true) : likeB b y x = true := by
  unfold likeB at h ⊢
  rw [beq_iff_eq] at h ⊢
  exact h.symm
theorem like_trans {b : List (Int × Int)} {x y z : Int} (h : likeB b x y = true) (k : likeB b y z = true) : likeB b x z = true := by
  unfold likeB at h k ⊢
  rw [beq_iff_eq] at h k ⊢
  exact h.trans k
theorem like_refl (b : List (Int × Int)) (x : Int) : likeB b x x = true := by simp [likeB]
theorem mtB_any {b : List (Int × Int)} {ls : List (List Int)} {m : List Nat} (h : mtB b ls m = true) {i j : Nat} (hi : i < ls.length) (hj : j < ls.length) : likeB b (wordAt ls i (at0 m i)) (wordAt ls j (at0 m j)) = true :=
  like_trans (mtB_iff.1 h i hi) (like_symm (mtB_iff.1 h j hj))
theorem rot_mem {b : List (Int × Int)} {ls : List (List Int)} (h2 : 2 ≤ ls.length) {t : Nat} {m : List Nat} (hm : m ∈ matsOf b ls) : rotM ls.length t m ∈ matsOf b (rotL ls t) := by
  obtain ⟨⟨h1, h3⟩, h4⟩ := mem_matsOf.1 hm
  refine mem_matsOf.2 ⟨⟨by simp [rotM, rotL_len], fun j hj => ?_⟩, mtB_iff.2 fun j hj => ?_⟩
  · rw [rotL_len] at hj
    rw [at0_rot hj, rotL_at hj]
    exact h3 _ (Nat.mod_lt _ (by omega))
  · rw [rotL_len] at hj
    rw [at0_rot hj, at0_rot (by omega), wordAt_rot hj, wordAt_rot (by omega)]
    exact mtB_any h4 (Nat.mod_lt _ (by omega)) (Nat.mod_lt _ (by omega))
/-- the turn back -/
def backT (k t : Nat) : Nat := k - t % k
theorem mod_back {k t h : Nat} (hh : h < k) : ((h + backT k t) % k + t) % k = h := by
  unfold backT
  have hk : 0 < k := by omega
  have ht := Nat.mod_lt t hk
  have : ((h + (k - t % k)) % k + t) % k = h % k := by
    rw [Nat.mod_add_mod, ← Nat.add_mod_mod, show h + (k - t % k) + t % k = h + k by omega, Nat.add_mod_right]
  rw [this, Nat.mod_eq_of_lt hh]
theorem mod_back2 {k t h : Nat} (hh : h < k) : ((h + t) % k + backT k t) % k = h := by
  unfold backT
  have hk : 0 < k := by omega
  have ht := Nat.mod_lt t hk
  rw [Nat.mod_add_mod, ← Nat.add_mod_mod]
  have : (h + t + (k - t % k) % k) % k = h % k := by
    rw [Nat.add_mod_mod]
    have e : h + t + (k - t % k) = h + (k - t % k) + t := by omega
    rw [e, ← Nat.add_mod_mod, show h + (k - t % k) + t % k = h + k by omega, Nat.add_mod_right]
  rw [this, Nat.mod_eq_of_lt hh]
theorem rotL_back {ls : List (List Int)} (t : Nat) : rotL (rotL ls t) (backT ls.length t) = ls := by
  apply List.ext_getElem
  · rw [rotL_len, rotL_len]
  · intro i h1 h2
    have e : (rotL (rotL ls t) (backT ls.length t)).getD i [] = ls.getD i [] := by
      rw [rotL_at (by rw [rotL_len]; exact h2), rotL_len, rotL_at (Nat.mod_lt _ (by omega)), mod_back h2]
    rw [List.getD_eq_getElem?_getD, List.getD_eq_getElem?_getD, List.getElem?_eq_getElem h1, List.getElem?_eq_getElem h2] at e
    exact e
theorem rotM_back {k t : Nat} {m : List Nat} (hm : m.length = k) : rotM k (backT k t) (rotM k t m) = m := by
  refine ext_at0 (by simp [rotM, hm]) fun j hj => ?_
  have hj' : j < k := by simpa [rotM] using hj
  rw [at0_rot hj', at0_rot (Nat.mod_lt _ (by omega)), mod_back hj']
theorem rot_bef {ls : List (List Int)} {t : Nat} {x y : List Nat} (h : befL ls x y = true) : befL (rotL ls t) (rotM ls.length t x) (rotM ls.length t y) = true := by
  refine befL_iff.2 fun j hj => ?_
  rw [rotL_len] at hj
  rw [at0_rot hj, at0_rot hj]
  exact befL_iff.1 h _ (Nat.mod_lt _ (by omega))
theorem good_rot {b : List (Int × Int)} {ls : List (List Int)} (h : Good b ls) (t : Nat) : Good b (rotL ls t) := by
  have key : ∀ l ∈ rotL ls t, l ∈ ls := by
    intro l hl
    obtain ⟨i, hi, rfl⟩ := List.mem_map.1 hl
    have h2 := h.two
    exact getD_mem' (Nat.mod_lt _ (by omega))
  exact ⟨h.book, by rw [rotL_len]; exact h.two, by rw [rotL_len]; exact h.four, fun l hl => h.eight l (key l hl), fun l hl => h.word l (key l hl)⟩
theorem rot_chain {b : List (Int × Int)} {ls : List (List Int)} (h2 : 2 ≤ ls.length) (t : Nat) {l : List (List Nat)} (hl : IsCh (matsOf b ls) (befL ls) none l) : IsCh (matsOf b (rotL ls t)) (befL (rotL ls t)) none (l.map (rotM ls.length t)) :=
  chain_map (o := none) (fun x hx => rot_mem h2 hx) (fun x hx y hy h => rot_bef h) (fun _ e => by cases e) hl
theorem rot_most {b : List (Int × Int)} {ls : List (List Int)} (h : Good b ls) (t : Nat) : mostOf b (rotL ls t) = mostOf b ls := by
  have key : ∀ ls t, Good b ls → mostOf b ls ≤ mostOf b (rotL ls t) := fun ls t h =>
    most_map (levOf h) (levOf (good_rot h t)) (fun x hx => rot_mem h.two hx) fun x hx y hy hb => rot_bef hb
  apply Nat.le_antisymm
  · have := key (rotL ls t) (backT ls.length t) (good_rot h t)
    rwa [rotL_back] at this
  · exact key ls t h
theorem rot_long {b : List (Int × Int)} {ls : List (List Int)} (h : Good b ls) (t : Nat) {l : List (List Nat)} (hl : l ∈ longOf b ls) : l.map (rotM ls.length t) ∈ longOf b (rotL ls t) := by
  rw [long_iff] at hl ⊢
  exact ⟨by rw [List.length_map, rot_most h]; exact hl.1, rot_chain h.two t hl.2⟩
theorem rot_count {b : List (Int × Int)} {ls : List (List Int)} (h : Good b ls) (t : Nat) {p q : List (List Nat) → Bool} (hq : ∀ l ∈ longOf b ls, q (l.map (rotM ls.length t)) = p l) : (longOf b ls).countP p = (longOf b (rotL ls t)).countP q := by
  refine count_iso (Φ := fun l => l.map (rotM ls.length t)) (Ψ := fun l => l.map (rotM ls.length (backT ls.length t))) (long_nodup h) (long_nodup (good_rot h t)) (fun l hl => rot_long h t hl) (fun l hl => ?_) (fun l hl => ?_) (fun l hl => ?_) hq
  · have := rot_long (good_rot h t) (backT ls.length t) hl
    rwa [rotL_back, rotL_len] at this
  · have hm := (long_iff.1 hl).2.mem
    show (l.map _).map _ = l
    rw [List.map_map]
    have : l.map (rotM ls.length (backT ls.length t) ∘ rotM ls.length t) = l.map id := List.map_congr_left fun m hm' => rotM_back (mem_matsOf.1 (hm m hm')).1.1
    rw [this, List.map_id]
  · have hm := (long_iff.1 hl).2.mem
    show (l.map _).map _ = l
    rw [List.map_map]
    have : l.map (rotM ls.length t ∘ rotM ls.length (backT ls.length t)) = l.map id := List.map_congr_left fun m hm' => by
      have hl2 : m.length = ls.length := by rw [(mem_matsOf.1 (hm m hm')).1.1, rotL_len]
      refine ext_at0 (by simp [rotM, hl2]) fun j hj => ?_
      have hj' : j < ls.length := by simpa [rotM] using hj
      show at0 (rotM _ _ (rotM _ _ m)) j = at0 m j
      rw [at0_rot hj', at0_rot (Nat.mod_lt _ (by omega)), mod_back2 hj']
    rw [this, List.map_id]
theorem rot_length {b : List (Int × Int)} {ls : List (List Int)} (h : Good b ls) (t : Nat) : (longOf b (rotL ls t)).length = (longOf b ls).length := by
  rw [← countP_true', ← countP_true']
  exact (rot_count h t fun _ _ => rfl).symm
theorem rot_grades {b : List (Int × Int)} {ls : List (List Int)} (h : Good b ls) (t : Nat) {j : Nat} (hj : j < ls.length) : gradesOf b (rotL ls t) j = gradesOf b ls ((j + t) % ls.length) := by
  unfold gradesOf
  rw [rotL_at hj, rot_length h t]
  refine List.map_congr_left fun i _ => ?_
  congr 1
  refine (rot_count h t fun l hl => ?_).symm
  unfold hearsB
  rw [List.any_map]
  congr 1
  funext m
  show (at0 (rotM _ _ m) j == i) = _
  rw [at0_rot hj]
/-- the same hearer among the lines that are turned round -/
theorem rot_hearer {k t h : Nat} (hh : h < k) : ((h + (k - t % k)) % k + t) % k = h := mod_back hh

/-! ### a word written otherwise -/
def writeL (ls : List (List Int)) (h i : Nat) (x : Int) : List (List Int) := ls.set h ((ls.getD h []).set i x)
theorem write_ds {ls : List (List Int)} {h i : Nat} {x : Int} : dsOf (writeL ls h i x) = dsOf ls := by
  unfold dsOf writeL
  apply List.ext_getElem?
  intro j
  simp only [List.getElem?_map, List.getElem?_set]
  by_cases e : h = j
  · subst e
    by_cases hh : h < ls.length
    · simp [hh, List.getD_eq_getElem?_getD]
    · simp [hh]
  · simp [e]
theorem write_cls {b : List (Int × Int)} {ls : List (List Int)} {h i : Nat} {x : Int} (hh : h < ls.length) (hi : i < (ls.getD h []).length) (hx : likeB b (wordAt ls h i) x = true) (j a : Nat) : clsI b (wordAt (writeL ls h i x) j a) = clsI b (wordAt ls j a) := by
  unfold likeB at hx
  rw [beq_iff_eq] at hx
  unfold wordAt writeL
  rw [getD_set hh]
  by_cases e : j = h
  · subst e
    rw [if_pos rfl, getD_set hi]
    by_cases e2 : a = i
    · subst e2
      rw [if_pos rfl]
      exact hx.symm
    · rw [if_neg e2]
  · rw [if_neg e]
theorem write_mats {b : List (Int × Int)} {ls : List (List Int)} {h i : Nat} {x : Int} (hh : h < ls.length) (hi : i < (ls.getD h []).length) (hx : likeB b (wordAt ls h i) x = true) : matsOf b (writeL ls h i x) = matsOf b ls := by
  unfold matsOf
  rw [write_ds]
  have : mtB b (writeL ls h i x) = mtB b ls := by
    funext m
    unfold mtB likeB
    have hl : (writeL ls h i x).length = ls.length := by unfold writeL; rw [List.length_set]
    rw [hl]
    congr 1
    funext j
    rw [write_cls hh hi hx, write_cls hh hi hx]
  rw [this]
theorem write_good {b : List (Int × Int)} {ls : List (List Int)} {h i : Nat} {x : Int} (hg : Good b ls) (hh : h < ls.length) (hx : isWordB x = true) : Good b (writeL ls h i x) := by
  have key : ∀ l ∈ writeL ls h i x, l.length ≤ 8 ∧ ∀ n ∈ l, isWordB n = true := by
    intro l hl
    unfold writeL at hl
    rcases List.mem_or_eq_of_mem_set hl with hl | rfl
    · exact ⟨hg.eight l hl, hg.word l hl⟩
    · have hm : ls.getD h [] ∈ ls := getD_mem' hh
      refine ⟨by rw [List.length_set]; exact hg.eight _ hm, fun n hn => ?_⟩
      rcases List.mem_or_eq_of_mem_set hn with hn | rfl
      · exact hg.word _ hm n hn
      · exact hx
  exact ⟨hg.book, by unfold writeL; rw [List.length_set]; exact hg.two, by unfold writeL; rw [List.length_set]; exact hg.four, fun l hl => (key l hl).1, fun l hl => (key l hl).2⟩
end Go.Proofs.Ytgngpdnppdbgoaa
