/- Plain facts for the laws of words: passages are chains, levels, certain matches, grades. Nothing of the program is imported here. -/
import Derived.Test.YtgngpdnppdbgoaaRefl
namespace Go.Proofs.Ytgngpdnppdbgoaa
set_option linter.unusedVariables false
set_option linter.unusedSectionVars false

/-! ### passages are chains -/
theorem toN_iL' (m : List Nat) : toN (iL m) = m := toN_iL m
theorem map_toN_iLL (l : List (List Nat)) : (iLL l).map toN = l := by
  unfold iLL
  rw [List.map_map, show toN ∘ iL = id from funext toN_iL', List.map_id]
theorem at0_toN (m : List Int) (h : Nat) : at0 (toN m) h = (m.getD h 0).toNat := by
  unfold at0 toN
  simp only [List.getD_eq_getElem?_getD, List.getElem?_map]
  cases m[h]? <;> rfl
theorem getD_iL (m : List Nat) (h : Nat) : (iL m).getD h 0 = (at0 m h : Int) := by
  unfold at0 iL
  simp only [List.getD_eq_getElem?_getD, List.getElem?_map]
  cases m[h]? <;> rfl
theorem outB_false {ls : List (List Int)} {m : List Int} (hl : m.length = ls.length) : outB ls m = false ↔ ∀ h, h < ls.length → 0 ≤ m.getD h 0 ∧ m.getD h 0 < (ls.getD h []).length := by
  unfold outB
  rw [List.any_eq_false, hl]
  constructor
  · intro h j hj
    have := h j (List.mem_range.2 hj)
    simp only [Bool.or_eq_true, decide_eq_true_eq, not_or] at this
    omega
  · intro h j hj
    have := h j (List.mem_range.1 hj)
    simp only [Bool.or_eq_true, decide_eq_true_eq, not_or]
    omega
theorem outB_iff {b : List (Int × Int)} {ls : List (List Int)} {m : List Int} (hl : m.length = ls.length) (ho : outB ls m = false) (hm : mtB b ls (toN m) = true) : toN m ∈ matsOf b ls ∧ iL (toN m) = m := by
  rw [outB_false hl] at ho
  refine ⟨mem_matsOf.2 ⟨⟨by rw [toN, List.length_map]; exact hl, fun h hh => by rw [at0_toN]; have := ho h hh; omega⟩, hm⟩, ?_⟩
  apply List.ext_getElem
  · rw [iL_len, toN, List.length_map]
  · intro i h1 h2
    have h3 := ho i (by omega)
    rw [List.getD_eq_getElem?_getD, List.getElem?_eq_getElem h2] at h3
    simp only [iL, toN, List.getElem_map]
    have : (some m[i]).getD 0 = m[i] := rfl
    rw [this] at h3
    omega
theorem mats_out {b : List (Int × Int)} {ls : List (List Int)} {m : List Nat} (h : m ∈ matsOf b ls) : (iL m).length = ls.length ∧ outB ls (iL m) = false := by
  obtain ⟨⟨h1, h2⟩, -⟩ := mem_matsOf.1 h
  have hl : (iL m).length = ls.length := by rw [iL_len, h1]
  refine ⟨hl, (outB_false hl).2 fun j hj => ?_⟩
  rw [getD_iL]
  have := h2 j hj
  omega
theorem ordB_iff {ls : List (List Int)} : ∀ {l : List (List Nat)} {o : Option (List Nat)} {ms : List (List Nat)}, (∀ m ∈ l, m ∈ ms) → (∀ x r, o = some x → l.head? = some r → befL ls x r = true) → (ordB ls l = true ↔ IsCh ms (befL ls) o l)
  | [], o, ms, _, _ => ⟨fun _ => trivial, fun _ => rfl⟩
  | [x], o, ms, hm, ho => by
    refine ⟨fun _ => ⟨⟨hm x (by simp), ?_⟩, trivial⟩, fun _ => rfl⟩
    cases o with
    | none => rfl
    | some z => exact ho z x rfl rfl
  | x :: y :: r, o, ms, hm, ho => by
    show (befL ls x y && ordB ls (y :: r)) = true ↔ (x ∈ ms ∧ aft (befL ls) o x = true) ∧ IsCh ms (befL ls) (some x) (y :: r)
    have ha : aft (befL ls) o x = true := by
      cases o with
      | none => rfl
      | some z => exact ho z x rfl rfl
    rw [Bool.and_eq_true]
    constructor
    · rintro ⟨h1, h2⟩
      refine ⟨⟨hm x (by simp), ha⟩, (ordB_iff (fun m hm' => hm m (List.mem_cons_of_mem _ hm')) fun z w e1 e2 => ?_).1 h2⟩
      injection e1 with e1
      injection e2 with e2
      rw [← e1, ← e2]
      exact h1
    · rintro ⟨-, h2⟩
      refine ⟨h2.1.2, (ordB_iff (o := some x) (ms := ms) (fun m hm' => hm m (List.mem_cons_of_mem _ hm')) fun z w e1 e2 => ?_).2 h2⟩
      injection e1 with e1
      injection e2 with e2
      rw [← e1, ← e2]
      exact h2.1.2
/-- what is a passage -/
theorem checkPass_iff {b : List (Int × Int)} {ls p : List (List Int)} : checkPass b ls p = 0 ↔ checkLines b ls = 0 ∧ p.length ≤ 8 ∧ ∃ l, p = iLL l ∧ IsCh (matsOf b ls) (befL ls) none l := by
  constructor
  · intro h
    unfold checkPass at h
    split at h
    · rename_i h1
      exact absurd h h1
    · split at h
      · cases h
      · split at h
        · cases h
        · split at h
          · cases h
          · split at h
            · cases h
            · split at h
              · cases h
              · rename_i h1 h2 h3 h4 h5 h6
                have g3 : ∀ m ∈ p, m.length = ls.length := by
                  intro m hm
                  apply Classical.byContradiction
                  intro hne
                  exact h3 (List.any_eq_true.2 ⟨m, hm, by simpa using hne⟩)
                have g4 : ∀ m ∈ p, outB ls m = false := by
                  intro m hm
                  cases ho : outB ls m with
                  | false => rfl
                  | true => exact absurd (List.any_eq_true.2 ⟨m, hm, ho⟩) h4
                have g5 : ∀ m ∈ p, mtB b ls (toN m) = true := List.all_eq_true.1 (by simpa using h5 : (p.all fun m => mtB b ls (toN m)) = true)
                have g6 : ordB ls (p.map toN) = true := by simpa using h6
                refine ⟨by simpa using h1, by omega, p.map toN, ?_, ?_⟩
                · unfold iLL
                  rw [List.map_map]
                  have : p.map (iL ∘ toN) = p.map id := List.map_congr_left fun m hm => (outB_iff (g3 m hm) (g4 m hm) (g5 m hm)).2
                  rw [this, List.map_id]
                · refine (ordB_iff (fun m hm => ?_) fun x r e => by cases e).1 g6
                  obtain ⟨q, hq, rfl⟩ := List.mem_map.1 hm
                  exact (outB_iff (g3 q hq) (g4 q hq) (g5 q hq)).1
  · rintro ⟨h0, h8, l, rfl, hc⟩
    have hmem := hc.mem
    unfold checkPass
    rw [if_neg (by simp [h0]), if_neg (by omega), if_neg, if_neg, if_neg, if_neg]
    · rw [map_toN_iLL, (ordB_iff (o := none) hmem fun x r e => by cases e).2 hc]
      simp
    · have : ((iLL l).all fun m => mtB b ls (toN m)) = true := by
        rw [List.all_eq_true]
        intro m hm
        obtain ⟨q, hq, rfl⟩ := List.mem_map.1 hm
        rw [toN_iL']
        exact (mem_matsOf.1 (hmem q hq)).2
      rw [this]
      simp
    · rw [List.any_eq_true]
      rintro ⟨m, hm, ho⟩
      obtain ⟨q, hq, rfl⟩ := List.mem_map.1 hm
      rw [(mats_out (hmem q hq)).2] at ho
      cases ho
    · rw [List.any_eq_true]
      rintro ⟨m, hm, ho⟩
      obtain ⟨q, hq, rfl⟩ := List.mem_map.1 hm
      simp [(mats_out (hmem q hq)).1] at ho
theorem chain_pass {b : List (Int × Int)} {ls : List (List Int)} (h : Good b ls) {l : List (List Nat)} (hl : IsCh (matsOf b ls) (befL ls) none l) : checkPass b ls (iLL l) = 0 ∧ l.length ≤ mostOf b ls := by
  have h1 := (levOf h).longest hl
  have h2 := mostOf_le h
  exact ⟨checkPass_iff.2 ⟨good_mk h, by rw [iLL_len]; omega, l, rfl, hl⟩, h1⟩
theorem pass_len {b : List (Int × Int)} {ls p : List (List Int)} (h : Good b ls) (hp : checkPass b ls p = 0) : p.length ≤ mostOf b ls := by
  obtain ⟨-, -, l, rfl, hl⟩ := checkPass_iff.1 hp
  rw [iLL_len]
  exact (chain_pass h hl).2
/-- the first longest passage -/
def firstOf (b : List (Int × Int)) (ls : List (List Int)) : List (List Nat) := (longOf b ls).headD []
theorem first_mem {b : List (Int × Int)} {ls : List (List Int)} (h : Good b ls) : firstOf b ls ∈ longOf b ls := by
  obtain ⟨l, hl⟩ := (levOf h).exists_
  unfold firstOf
  cases hc : longOf b ls with
  | nil => unfold longOf at hc; rw [hc] at hl; cases hl
  | cons x r => exact List.mem_cons_self ..
theorem long_iff {b : List (Int × Int)} {ls : List (List Int)} {l : List (List Nat)} : l ∈ longOf b ls ↔ l.length = mostOf b ls ∧ IsCh (matsOf b ls) (befL ls) none l := mem_chains

/-! ### levels -/
def levList (b : List (Int × Int)) (ls : List (List Int)) : List Int := (matsOf b ls).map fun m => (lvOf b ls m : Int)
theorem badLv_false {ls : List (List Int)} {ms : List (List Nat)} {lv : List Int} : badLv ls ms lv = false ↔ (∀ n ∈ lv, 1 ≤ n) ∧ ∀ i k, i < ms.length → k < ms.length → befL ls (ms.getD k []) (ms.getD i []) = true → lv.getD k 0 < lv.getD i 0 := by
  unfold badLv
  rw [Bool.or_eq_false_iff, List.any_eq_false, List.any_eq_false]
  constructor
  · rintro ⟨h1, h2⟩
    refine ⟨fun n hn => by have := h1 n hn; simp at this; omega, fun i k hi hk hb => ?_⟩
    have := h2 i (List.mem_range.2 hi)
    rw [Bool.not_eq_true, List.any_eq_false] at this
    have := this k (List.mem_range.2 hk)
    rw [hb] at this
    simp at this
    simpa using this
  · rintro ⟨h1, h2⟩
    refine ⟨fun n hn => by have := h1 n hn; simp; omega, fun i hi => ?_⟩
    rw [Bool.not_eq_true, List.any_eq_false]
    intro k hk
    rw [List.mem_range] at hi hk
    have := h2 i k hi hk
    cases hb : befL ls (ms.getD k []) (ms.getD i [])
    · simp
    · have := this hb
      simpa using this
theorem getD_map_lt {α : Type} {l : List α} {f : α → Int} {i : Nat} {d : α} (h : i < l.length) : (l.map f).getD i 0 = f (l.getD i d) := by
  simp only [List.getD_eq_getElem?_getD, List.getElem?_map, List.getElem?_eq_getElem h, Option.map_some, Option.getD_some]
theorem getD_mem' {α : Type} {l : List α} {i : Nat} {d : α} (h : i < l.length) : l.getD i d ∈ l := by
  rw [List.getD_eq_getElem?_getD, List.getElem?_eq_getElem h]
  exact List.getElem_mem h
theorem levs_right {b : List (Int × Int)} {ls : List (List Int)} (h : Good b ls) : badLv ls (matsOf b ls) (levList b ls) = false := by
  have hL := levOf h
  rw [badLv_false]
  refine ⟨fun n hn => ?_, fun i k hi hk hb => ?_⟩
  · obtain ⟨m, -, rfl⟩ := List.mem_map.1 hn
    unfold lvOf
    omega
  · unfold levList
    rw [getD_map_lt hi (d := []), getD_map_lt hk (d := [])]
    have := hL.up (getD_mem' hk) (getD_mem' hi) hb
    omega
theorem foldl_maxI_le : ∀ (l : List Int) (n : Int), n ≤ l.foldl max n ∧ (∀ x ∈ l, x ≤ l.foldl max n) ∧ (l.foldl max n = n ∨ l.foldl max n ∈ l)
  | [], n => ⟨Int.le_refl _, (fun x hx => by cases hx), .inl rfl⟩
  | a :: l, n => by
    rw [List.foldl_cons]
    obtain ⟨h1, h2, h3⟩ := foldl_maxI_le l (max n a)
    refine ⟨by omega, fun x hx => ?_, ?_⟩
    · rcases List.mem_cons.1 hx with rfl | hx
      · omega
      · exact h2 x hx
    · rcases h3 with h3 | h3
      · rcases Int.le_total n a with hl | hl
        · rw [h3, Int.max_eq_right hl]; exact .inr (List.mem_cons_self ..)
        · rw [h3, Int.max_eq_left hl]; exact .inl rfl
      · exact .inr (List.mem_cons_of_mem _ h3)
theorem levs_max {b : List (Int × Int)} {ls : List (List Int)} (h : Good b ls) : (levList b ls).foldl max 0 = (mostOf b ls : Int) := by
  have hL := levOf h
  obtain ⟨h1, h2, h3⟩ := foldl_maxI_le (levList b ls) 0
  apply Int.le_antisymm
  · rcases h3 with h3 | h3
    · rw [h3]; omega
    · obtain ⟨m, hm, e⟩ := List.mem_map.1 h3
      rw [← e]
      have := hL.le m hm
      omega
  · by_cases he : matsOf b ls = []
    · rw [hL.no he]; exact h1
    · obtain ⟨x, hx, e⟩ := hL.top he
      rw [← e]
      exact h2 _ (List.mem_map.2 ⟨x, hx, rfl⟩)
theorem checkLv_own {b : List (Int × Int)} {ls : List (List Int)} (h : Good b ls) : checkLv b ls (levList b ls) = ((mostOf b ls : Int), 0) := by
  unfold checkLv
  rw [if_neg (by simp [good_mk h]), if_neg (by simp [levList]), if_neg (by simp [levs_right h]), levs_max h]
/-- right levels are at least those that are returned -/
theorem levs_least {b : List (Int × Int)} {ls : List (List Int)} (h : Good b ls) {lv : List Int} (hl : lv.length = (matsOf b ls).length) (hb : badLv ls (matsOf b ls) lv = false) : ∀ i, i < (matsOf b ls).length → (lvOf b ls ((matsOf b ls).getD i []) : Int) ≤ lv.getD i 0 := by
  have hL := levOf h
  rw [badLv_false] at hb
  obtain ⟨h1, h2⟩ := hb
  have key : ∀ (c : List (List Nat)) (x : List Nat), IsCh (matsOf b ls) (befL ls) none (c ++ [x]) → ∀ i, i < (matsOf b ls).length → (matsOf b ls).getD i [] = x → (c.length : Int) + 1 ≤ lv.getD i 0 := by
    intro c
    refine snoc_ind (P := fun c => ∀ x, IsCh (matsOf b ls) (befL ls) none (c ++ [x]) → ∀ i, i < (matsOf b ls).length → (matsOf b ls).getD i [] = x → (c.length : Int) + 1 ≤ lv.getD i 0) ?_ ?_ c
    · intro x _ i hi _
      have : lv.getD i 0 ∈ lv := getD_mem' (by omega)
      have := h1 _ this
      simpa using this
    · intro c y ih x hc i hi hx
      have hc1 := (isCh_snoc.1 hc).1
      have hby : befL ls y x = true := by
        have := (isCh_snoc.1 hc).2.2
        simpa [lastO, aft] using this
      have hym : y ∈ matsOf b ls := hc1.mem y (by simp)
      obtain ⟨k, hk, hky⟩ := List.getElem_of_mem hym
      have hkd : (matsOf b ls).getD k [] = y := by rw [List.getD_eq_getElem?_getD, List.getElem?_eq_getElem hk]; exact hky
      have h3 := ih y hc1 k hk hkd
      have h4 := h2 i k hi hk (by rw [hkd, hx]; exact hby)
      rw [List.length_append, List.length_singleton]
      omega
  intro i hi
  obtain ⟨⟨c, h3, h4⟩, -⟩ := hL.is _ (getD_mem' (d := []) hi)
  have := key c _ h3 i hi rfl
  omega
theorem levs_bound {b : List (Int × Int)} {ls : List (List Int)} (h : Good b ls) {lv : List Int} (hl : lv.length = (matsOf b ls).length) (hb : badLv ls (matsOf b ls) lv = false) : (mostOf b ls : Int) ≤ lv.foldl max 0 := by
  have hL := levOf h
  obtain ⟨h1, h2, -⟩ := foldl_maxI_le lv 0
  by_cases he : matsOf b ls = []
  · rw [hL.no he]; exact h1
  · obtain ⟨x, hx, e⟩ := hL.top he
    obtain ⟨k, hk, hkx⟩ := List.getElem_of_mem hx
    have hkd : (matsOf b ls).getD k [] = x := by rw [List.getD_eq_getElem?_getD, List.getElem?_eq_getElem hk]; exact hkx
    have h3 := levs_least h hl hb k hk
    have h4 := h2 _ (getD_mem' (d := 0) (show k < lv.length by omega))
    rw [hkd, e] at h3
    omega
theorem checkLv_inv {b : List (Int × Int)} {ls : List (List Int)} {lv : List Int} {k : Int} (h : checkLv b ls lv = (k, 0)) : checkLines b ls = 0 ∧ lv.length = (matsOf b ls).length ∧ badLv ls (matsOf b ls) lv = false ∧ k = lv.foldl max 0 := by
  unfold checkLv at h
  split at h
  · rename_i h1
    injection h with _ h2
    exact absurd h2 h1
  · split at h
    · cases h
    · split at h
      · cases h
      · rename_i h1 h2 h3
        injection h with h4 _
        exact ⟨by simpa using h1, by simpa using h2, by simpa using h3, h4.symm⟩

/-! ### certain matches, grades -/
theorem chain_pair {α : Type} {ms : List α} {bef : α → α → Bool} (tr : ∀ x y z, bef x y = true → bef y z = true → bef x z = true) : ∀ {l : List α} {o : Option α}, IsCh ms bef o l → l.Pairwise fun x y => bef x y = true
  | [], _, _ => List.Pairwise.nil
  | x :: r, o, h => by
    refine List.pairwise_cons.2 ⟨fun y hy => ?_, chain_pair tr h.2⟩
    have : ∀ {r : List α} {x : α}, IsCh ms bef (some x) r → ∀ y ∈ r, bef x y = true := by
      intro r
      induction r with
      | nil => intro x _ y hy; cases hy
      | cons z r ih =>
        intro x hc y hy
        rcases List.mem_cons.1 hy with rfl | hy
        · exact hc.1.2
        · exact tr _ _ _ hc.1.2 (ih hc.2 y hy)
    exact this h.2 y hy
theorem chain_of_pair {α : Type} {ms : List α} {bef : α → α → Bool} : ∀ {l : List α} {o : Option α}, (∀ x ∈ l, x ∈ ms) → l.Pairwise (fun x y => bef x y = true) → (∀ x y, o = some x → y ∈ l → bef x y = true) → IsCh ms bef o l
  | [], _, _, _, _ => trivial
  | x :: r, o, hm, hp, ho => by
    obtain ⟨h1, h2⟩ := List.pairwise_cons.1 hp
    refine ⟨⟨hm x (List.mem_cons_self ..), ?_⟩, chain_of_pair (fun y hy => hm y (List.mem_cons_of_mem _ hy)) h2 fun z y e hy => ?_⟩
    · cases o with
      | none => rfl
      | some z => exact ho z x rfl (List.mem_cons_self ..)
    · injection e with e
      exact e ▸ h1 y hy
theorem pair_tri {α : Type} {R : α → α → Prop} : ∀ {l : List α}, l.Pairwise R → ∀ x ∈ l, ∀ y ∈ l, x = y ∨ R x y ∨ R y x
  | [], _, x, hx, _, _ => by cases hx
  | a :: l, hp, x, hx, y, hy => by
    obtain ⟨h1, h2⟩ := List.pairwise_cons.1 hp
    rcases List.mem_cons.1 hx with e1 | hx
    · rcases List.mem_cons.1 hy with e2 | hy
      · exact .inl (e1.trans e2.symm)
      · exact .inr (.inl (e1 ▸ h1 y hy))
    · rcases List.mem_cons.1 hy with e2 | hy
      · exact .inr (.inr (e2 ▸ h1 x hx))
      · exact pair_tri h2 x hx y hy
theorem mem_certain {b : List (Int × Int)} {ls : List (List Int)} {m : List Nat} : m ∈ certainOf b ls ↔ m ∈ matsOf b ls ∧ ∀ l ∈ longOf b ls, m ∈ l := by
  unfold certainOf
  rw [List.mem_filter, List.all_eq_true]
  simp
theorem certain_pair {b : List (Int × Int)} {ls : List (List Int)} (h : Good b ls) : (certainOf b ls).Pairwise fun x y => befL ls x y = true := by
  have hL := levOf h
  have hf := first_mem h
  have hfp := chain_pair hL.tr (long_iff.1 hf).2
  have ho : (certainOf b ls).Pairwise fun x y => befL ls y x = false := hL.ord.filter _
  have hn : (certainOf b ls).Nodup := hL.nd.filter _
  refine ((ho.and hn).imp_of_mem fun {x y} hx hy hxy => ?_)
  rcases pair_tri hfp x ((mem_certain.1 hx).2 _ hf) y ((mem_certain.1 hy).2 _ hf) with e | e | e
  · exact absurd e hxy.2
  · exact e
  · rw [hxy.1] at e
    cases e
theorem certain_chain {b : List (Int × Int)} {ls : List (List Int)} (h : Good b ls) : IsCh (matsOf b ls) (befL ls) none (certainOf b ls) :=
  chain_of_pair (fun x hx => (mem_certain.1 hx).1) (certain_pair h) fun x y e => by cases e
/-- two lists in one order with the same elements are the same -/
theorem sorted_eq {α : Type} {R : α → α → Prop} (as : ∀ x y, R x y → R y x → False) : ∀ {l m : List α}, l.Pairwise R → m.Pairwise R → (∀ x, x ∈ l ↔ x ∈ m) → l = m
  | [], m, _, _, h => by
    cases m with
    | nil => rfl
    | cons y m => exact absurd ((h y).2 (List.mem_cons_self ..)) (by simp)
  | x :: l, [], _, _, h => absurd ((h x).1 (List.mem_cons_self ..)) (by simp)
  | x :: l, y :: m, hl, hm, h => by
    obtain ⟨l1, l2⟩ := List.pairwise_cons.1 hl
    obtain ⟨m1, m2⟩ := List.pairwise_cons.1 hm
    have e : x = y := by
      rcases List.mem_cons.1 ((h x).1 (List.mem_cons_self ..)) with e | e
      · exact e
      · rcases List.mem_cons.1 ((h y).2 (List.mem_cons_self ..)) with e2 | e2
        · exact e2.symm
        · exact (as _ _ (m1 x e) (l1 y e2)).elim
    subst e
    congr 1
    refine sorted_eq as l2 m2 fun z => ?_
    have hxl : x ∉ l := fun hh => as _ _ (l1 x hh) (l1 x hh)
    have hxm : x ∉ m := fun hh => as _ _ (m1 x hh) (m1 x hh)
    constructor
    · intro hz
      rcases List.mem_cons.1 ((h z).1 (List.mem_cons_of_mem _ hz)) with e | e
      · exact absurd (e ▸ hz) hxl
      · exact e
    · intro hz
      rcases List.mem_cons.1 ((h z).2 (List.mem_cons_of_mem _ hz)) with e | e
      · exact absurd (e ▸ hz) hxm
      · exact e
theorem certain_one {b : List (Int × Int)} {ls : List (List Int)} (h : Good b ls) (h1 : (longOf b ls).length = 1) : certainOf b ls = firstOf b ls := by
  have hL := levOf h
  have hf := first_mem h
  have hone : ∀ l ∈ longOf b ls, l = firstOf b ls := by
    obtain ⟨x, hx⟩ := List.length_eq_one_iff.1 h1
    intro l hl
    have hf' := hf
    rw [hx, List.mem_singleton] at hl hf'
    rw [hl, hf']
  refine sorted_eq (R := fun x y => befL ls x y = true) (fun x y h1 h2 => ?_) (certain_pair h) (chain_pair hL.tr (long_iff.1 hf).2) fun x => ?_
  · have := hL.tr _ _ _ h1 h2
    rw [hL.ir] at this
    cases this
  · rw [mem_certain]
    constructor
    · rintro ⟨-, h2⟩
      exact h2 _ hf
    · intro hx
      exact ⟨(long_iff.1 hf).2.mem x hx, fun l hl => by rw [hone l hl]; exact hx⟩
theorem long_pos {b : List (Int × Int)} {ls : List (List Int)} (h : Good b ls) : 0 < (longOf b ls).length := List.length_pos_of_mem (first_mem h)
theorem gradeN_range (n all : Nat) : 0 ≤ gradeN n all ∧ gradeN n all ≤ 2 := by
  unfold gradeN
  split
  · omega
  · split <;> omega
theorem grades_len (b : List (Int × Int)) (ls : List (List Int)) (h : Nat) : (gradesOf b ls h).length = (ls.getD h []).length := by simp [gradesOf]
theorem grades_at {b : List (Int × Int)} {ls : List (List Int)} {h i : Nat} (hi : i < (ls.getD h []).length) : (gradesOf b ls h)[i]? = some (gradeN ((longOf b ls).countP (hearsB h i)) (longOf b ls).length) := by
  unfold gradesOf
  rw [List.getElem?_map, List.getElem?_range hi]
  rfl
theorem grade_two {b : List (Int × Int)} {ls : List (List Int)} (hg : Good b ls) {h i : Nat} : gradeN ((longOf b ls).countP (hearsB h i)) (longOf b ls).length = 2 ↔ ∀ l ∈ longOf b ls, hearsB h i l = true := by
  have hp := long_pos hg
  have hle : (longOf b ls).countP (hearsB h i) ≤ (longOf b ls).length := List.countP_le_length
  rw [← List.countP_eq_length]
  unfold gradeN
  split
  · constructor
    · intro e; cases e
    · intro e; omega
  · split
    · constructor
      · intro e; cases e
      · intro e; omega
    · constructor
      · intro _; omega
      · intro _; rfl
theorem grade_zero {b : List (Int × Int)} {ls : List (List Int)} {h i : Nat} : gradeN ((longOf b ls).countP (hearsB h i)) (longOf b ls).length = 0 ↔ ∀ l ∈ longOf b ls, hearsB h i l = false := by
  unfold gradeN
  constructor
  · intro e
    split at e
    · rename_i h0
      rw [List.countP_eq_zero] at h0
      intro l hl
      simpa using h0 l hl
    · split at e <;> cases e
  · intro e
    rw [if_pos]
    rw [List.countP_eq_zero]
    intro l hl
    simp [e l hl]
end Go.Proofs.Ytgngpdnppdbgoaa
