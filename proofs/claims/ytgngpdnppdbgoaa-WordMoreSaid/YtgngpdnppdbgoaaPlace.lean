/- Places, matches, how long passages within a place can be, and bounds of ways. Nothing of the program is imported here. -/
import Derived.Test.YtgngpdnppdbgoaaCnt
namespace Go.Proofs.Ytgngpdnppdbgoaa
set_option linter.unusedVariables false
set_option linter.unusedSectionVars false

/-- all indexes, one for each line, in order -/
def placesL : List Nat → List (List Nat)
  | [] => [[]]
  | d :: ds => (List.range d).flatMap fun a => (placesL ds).map (a :: ·)
def at0 (x : List Nat) (h : Nat) : Nat := x.getD h 0
theorem at0_cons_zero (a : Nat) (x : List Nat) : at0 (a :: x) 0 = a := rfl
theorem at0_cons_succ (a : Nat) (x : List Nat) (h : Nat) : at0 (a :: x) (h + 1) = at0 x h := rfl
theorem mem_places : ∀ {ds m : List Nat}, m ∈ placesL ds ↔ m.length = ds.length ∧ ∀ h, h < ds.length → at0 m h < at0 ds h
  | [], m => by
    unfold placesL
    rw [List.mem_singleton]
    constructor
    · rintro rfl
      exact ⟨rfl, fun h hh => by simp at hh⟩
    · rintro ⟨h, -⟩
      exact List.length_eq_zero_iff.1 h
  | d :: ds, m => by
    unfold placesL
    rw [List.mem_flatMap]
    constructor
    · rintro ⟨a, ha, hm⟩
      rw [List.mem_range] at ha
      obtain ⟨r, hr, rfl⟩ := List.mem_map.1 hm
      obtain ⟨h1, h2⟩ := mem_places.1 hr
      refine ⟨by simp [h1], fun h hh => ?_⟩
      cases h with
      | zero => exact ha
      | succ h => exact h2 h (by simpa using hh)
    · rintro ⟨h1, h2⟩
      cases m with
      | nil => simp at h1
      | cons a r =>
        refine ⟨a, List.mem_range.2 (h2 0 (by simp)), List.mem_map.2 ⟨r, mem_places.2 ⟨by simpa using h1, fun h hh => h2 (h + 1) (by simpa using hh)⟩, rfl⟩⟩
theorem places_heads (d : Nat) (ds : List Nat) : (placesL (d :: ds)).Pairwise fun x y => at0 x 0 ≤ at0 y 0 := by
  unfold placesL
  rw [List.pairwise_flatMap]
  refine ⟨fun a _ => ?_, ?_⟩
  · rw [List.pairwise_map]
    exact List.pairwise_iff_forall_sublist.2 fun _ => Nat.le_refl _
  · refine List.pairwise_lt_range.imp fun {a b} hab x hx y hy => ?_
    obtain ⟨r, -, rfl⟩ := List.mem_map.1 hx
    obtain ⟨s, -, rfl⟩ := List.mem_map.1 hy
    exact Nat.le_of_lt hab
theorem places_nodup : ∀ ds, (placesL ds).Nodup
  | [] => by simp [placesL]
  | d :: ds => by
    unfold placesL List.Nodup
    rw [List.pairwise_flatMap]
    refine ⟨fun a _ => ?_, ?_⟩
    · rw [List.pairwise_map]
      exact (places_nodup ds).imp fun h e => h (by injection e)
    · refine List.pairwise_lt_range.imp fun {a b} hab x hx y hy => ?_
      obtain ⟨r, -, rfl⟩ := List.mem_map.1 hx
      obtain ⟨s, -, rfl⟩ := List.mem_map.1 hy
      intro e
      injection e with e
      omega
/-- a match is before another one -/
def befK (k : Nat) (x y : List Nat) : Bool := (List.range k).all fun h => decide (at0 x h < at0 y h)
theorem befK_iff {k : Nat} {x y : List Nat} : befK k x y = true ↔ ∀ h, h < k → at0 x h < at0 y h := by
  unfold befK
  simp
theorem befK_ir {k : Nat} (hk : 0 < k) (x : List Nat) : befK k x x = false := by
  cases h : befK k x x with
  | false => rfl
  | true => exact absurd (befK_iff.1 h 0 hk) (Nat.lt_irrefl _)
theorem befK_tr {k : Nat} (x y z : List Nat) (h1 : befK k x y = true) (h2 : befK k y z = true) : befK k x z = true :=
  befK_iff.2 fun h hh => Nat.lt_trans (befK_iff.1 h1 h hh) (befK_iff.1 h2 h hh)
/-- matches of lines: those places that are good -/
def matsL (mt : List Nat → Bool) (ds : List Nat) : List (List Nat) := (placesL ds).filter mt
theorem mem_mats {mt : List Nat → Bool} {ds m : List Nat} : m ∈ matsL mt ds ↔ (m.length = ds.length ∧ ∀ h, h < ds.length → at0 m h < at0 ds h) ∧ mt m = true := by
  unfold matsL
  rw [List.mem_filter, mem_places]
theorem mats_nodup (mt : List Nat → Bool) (ds : List Nat) : (matsL mt ds).Nodup := (places_nodup ds).filter _
theorem mats_ord (mt : List Nat → Bool) {ds : List Nat} (h : 0 < ds.length) : Ord (matsL mt ds) (befK ds.length) := by
  cases ds with
  | nil => simp at h
  | cons d ds =>
    refine List.Pairwise.filter mt ((places_heads d ds).imp fun {x y} hxy => ?_)
    cases hb : befK (d :: ds).length y x with
    | false => rfl
    | true => exact absurd (befK_iff.1 hb 0 h) (by omega)

/-! ### how long passages within a place can be -/
def lastP (up : List Nat) : List Nat := up.map (· - 1)
def lessAt (up : List Nat) (h : Nat) : List Nat := up.set h (at0 up h - 1)
def anyZero (up : List Nat) : Bool := up.any (· == 0)
def within (mt : List Nat → Bool) : Nat → List Nat → Nat
  | 0, _ => 0
  | f + 1, up => if anyZero up = true then 0 else if mt (lastP up) = true then 1 + within mt f (lastP up) else (List.range up.length).foldl (fun n h => max n (within mt f (lessAt up h))) 0
theorem at0_lastP (up : List Nat) (h : Nat) : at0 (lastP up) h = at0 up h - 1 := by
  unfold at0 lastP
  rw [List.getD_eq_getElem?_getD, List.getD_eq_getElem?_getD, List.getElem?_map]
  cases up[h]? <;> rfl
theorem at0_lessAt (up : List Nat) (h j : Nat) (hh : h < up.length) : at0 (lessAt up h) j = if j = h then at0 up h - 1 else at0 up j := by
  unfold lessAt at0
  simp only [List.getD_eq_getElem?_getD, List.getElem?_set]
  by_cases e : h = j
  · subst e
    simp [hh]
  · rw [if_neg e, if_neg fun e2 => e e2.symm]
theorem anyZero_iff {up : List Nat} : anyZero up = true ↔ ∃ h, h < up.length ∧ at0 up h = 0 := by
  unfold anyZero
  rw [List.any_eq_true]
  constructor
  · rintro ⟨x, hx, h0⟩
    obtain ⟨i, hi, rfl⟩ := List.getElem_of_mem hx
    refine ⟨i, hi, ?_⟩
    unfold at0
    rw [List.getD_eq_getElem?_getD, List.getElem?_eq_getElem hi]
    simpa using h0
  · rintro ⟨h, hh, h0⟩
    refine ⟨up[h], List.getElem_mem hh, ?_⟩
    unfold at0 at h0
    rw [List.getD_eq_getElem?_getD, List.getElem?_eq_getElem hh] at h0
    simpa using h0
theorem sum_map_le {l : List Nat} : (l.map (· - 1)).sum ≤ l.sum := by
  induction l with
  | nil => exact Nat.le_refl _
  | cons a l ih => simp only [List.map_cons, List.sum_cons]; omega
theorem lastP_sum {up : List Nat} (h1 : 0 < up.length) (h2 : anyZero up = false) : (lastP up).sum < up.sum := by
  cases up with
  | nil => simp at h1
  | cons a up =>
    have ha : a ≠ 0 := by
      intro e
      have : anyZero (a :: up) = true := by unfold anyZero; simp [e]
      rw [h2] at this
      cases this
    have := sum_map_le (l := up)
    simp only [lastP, List.map_cons, List.sum_cons]
    omega
theorem lessAt_sum : ∀ {up : List Nat} {h : Nat}, h < up.length → at0 up h ≠ 0 → (lessAt up h).sum < up.sum
  | a :: up, 0, _, hz => by
    have : a ≠ 0 := hz
    simp only [lessAt, at0_cons_zero, List.set_cons_zero, List.sum_cons]
    omega
  | a :: up, h + 1, hh, hz => by
    have := lessAt_sum (up := up) (h := h) (by simpa using hh) hz
    simp only [lessAt, List.set_cons_succ, List.sum_cons, at0_cons_succ] at this ⊢
    omega
theorem foldl_max_ge (g : Nat → Nat) : ∀ (l : List Nat) (n : Nat), n ≤ l.foldl (fun n h => max n (g h)) n ∧ ∀ h ∈ l, g h ≤ l.foldl (fun n h => max n (g h)) n
  | [], n => ⟨Nat.le_refl _, fun h hh => by cases hh⟩
  | a :: l, n => by
    rw [List.foldl_cons]
    obtain ⟨h1, h2⟩ := foldl_max_ge g l (max n (g a))
    refine ⟨Nat.le_trans (Nat.le_max_left ..) h1, fun h hh => ?_⟩
    rcases List.mem_cons.1 hh with rfl | hh
    · exact Nat.le_trans (Nat.le_max_right ..) h1
    · exact h2 h hh
theorem foldl_max_at (g : Nat → Nat) : ∀ (l : List Nat) (n : Nat), l.foldl (fun n h => max n (g h)) n = n ∨ ∃ h ∈ l, l.foldl (fun n h => max n (g h)) n = g h
  | [], n => .inl rfl
  | a :: l, n => by
    rw [List.foldl_cons]
    rcases foldl_max_at g l (max n (g a)) with h | ⟨h, hh, e⟩
    · rw [h]
      rcases Nat.le_total n (g a) with hl | hl
      · exact .inr ⟨a, List.mem_cons_self .., Nat.max_eq_right hl⟩
      · exact .inl (Nat.max_eq_left hl)
    · exact .inr ⟨h, List.mem_cons_of_mem _ hh, e⟩
theorem within_max {mt : List Nat → Bool} {ds : List Nat} (h0 : 0 < ds.length) : ∀ (f : Nat) (up : List Nat), up.length = ds.length → (∀ h, h < ds.length → at0 up h ≤ at0 ds h) → up.sum ≤ f →
    MaxIn (matsL mt ds) (befK ds.length) (fun y => befK ds.length y up = true) (within mt f up) := by
  intro f
  induction f with
  | zero =>
    intro up hl hd hs
    refine ⟨⟨[], trivial, (fun y hy => by cases hy), rfl⟩, fun l _ hP => ?_⟩
    cases l with
    | nil => exact Nat.le_refl _
    | cons y l =>
      exfalso
      have := befK_iff.1 (hP y (List.mem_cons_self ..)) 0 h0
      have hz : at0 up 0 ≤ up.sum := by
        cases up with
        | nil => exact Nat.zero_le _
        | cons a up => simp [at0]
      omega
  | succ f ih =>
    intro up hl hd hs
    unfold within
    by_cases hz : anyZero up = true
    · rw [if_pos hz]
      obtain ⟨j, hj, hj0⟩ := anyZero_iff.1 hz
      refine ⟨⟨[], trivial, (fun y hy => by cases hy), rfl⟩, fun l _ hP => ?_⟩
      cases l with
      | nil => exact Nat.le_refl _
      | cons y l =>
        exfalso
        have := befK_iff.1 (hP y (List.mem_cons_self ..)) j (by omega)
        omega
    · rw [if_neg hz]
      have hnz : ∀ h, h < up.length → at0 up h ≠ 0 := fun h hh e => hz (anyZero_iff.2 ⟨h, hh, e⟩)
      have hzf : anyZero up = false := by simpa using hz
      have hlast : ∀ y, befK ds.length y up = true → ∀ h, h < ds.length → at0 y h ≤ at0 (lastP up) h := by
        intro y hy h hh
        have := befK_iff.1 hy h hh
        rw [at0_lastP]
        omega
      by_cases hm : mt (lastP up) = true
      · rw [if_pos hm]
        have hs2 := lastP_sum (by omega) hzf
        obtain ⟨⟨l, h1, h2, h3⟩, h4⟩ := ih (lastP up) (by rw [lastP, List.length_map]; exact hl) (fun h hh => by rw [at0_lastP]; have := hd h hh; omega) (by omega)
        have hlm : lastP up ∈ matsL mt ds := mem_mats.2 ⟨⟨by rw [lastP, List.length_map]; exact hl, fun h hh => by
          rw [at0_lastP]
          have := hd h hh
          have := hnz h (by omega)
          omega⟩, hm⟩
        have hlu : befK ds.length (lastP up) up = true := befK_iff.2 fun h hh => by
          rw [at0_lastP]
          have := hnz h (by omega)
          omega
        refine ⟨⟨l ++ [lastP up], h1.put hlm h2, fun y hy => ?_, by rw [List.length_append, List.length_singleton]; omega⟩, fun r hr hP => ?_⟩
        · rcases List.mem_append.1 hy with hy | hy
          · exact befK_tr _ _ _ (h2 y hy) hlu
          · rw [List.mem_singleton] at hy
            exact hy ▸ hlu
        · rcases List.eq_nil_or_concat r with rfl | ⟨r', y, rfl⟩
          · exact Nat.zero_le _
          · rw [List.concat_eq_append] at hr hP ⊢
            have hall := IsCh.all befK_tr hr
            have hy := hP y (by simp)
            have := h4 r' (isCh_snoc.1 hr).1 fun z hz => befK_iff.2 fun h hh => Nat.lt_of_lt_of_le (befK_iff.1 (hall z hz) h hh) (hlast y hy h hh)
            rw [List.length_append, List.length_singleton]
            omega
      · rw [if_neg hm]
        have ihh : ∀ h, h < up.length → MaxIn (matsL mt ds) (befK ds.length) (fun y => befK ds.length y (lessAt up h) = true) (within mt f (lessAt up h)) := by
          intro h hh
          have := lessAt_sum hh (hnz h hh)
          refine ih (lessAt up h) (by rw [lessAt, List.length_set]; exact hl) (fun j hj => ?_) (by omega)
          rw [at0_lessAt up h j hh]
          have := hd j hj
          have := hd h (by omega)
          split
          · rename_i e; rw [e]; omega
          · omega
        have hmono : ∀ h, h < up.length → ∀ y, befK ds.length y (lessAt up h) = true → befK ds.length y up = true := by
          intro h hh y hy
          refine befK_iff.2 fun j hj => ?_
          have := befK_iff.1 hy j hj
          rw [at0_lessAt up h j hh] at this
          split at this
          · rename_i e; rw [e]; rw [e] at this; omega
          · exact this
        obtain ⟨g1, g2⟩ := foldl_max_ge (fun h => within mt f (lessAt up h)) (List.range up.length) 0
        refine ⟨?_, fun r hr hP => ?_⟩
        · rcases foldl_max_at (fun h => within mt f (lessAt up h)) (List.range up.length) 0 with e | ⟨h, hh, e⟩
          · exact ⟨[], trivial, (fun y hy => by cases hy), by rw [e]; rfl⟩
          · rw [List.mem_range] at hh
            obtain ⟨⟨l, h1, h2, h3⟩, -⟩ := ihh h hh
            exact ⟨l, h1, fun y hy => hmono h hh y (h2 y hy), by rw [e, h3]⟩
        · rcases List.eq_nil_or_concat r with rfl | ⟨r', y, rfl⟩
          · exact Nat.zero_le _
          · rw [List.concat_eq_append] at hr hP ⊢
            have hall := IsCh.all befK_tr hr
            have hy := hP y (by simp)
            have hym := mem_mats.1 (hr.mem y (by simp))
            have hne : ∃ h, h < ds.length ∧ at0 y h < at0 (lastP up) h := by
              apply Classical.byContradiction
              intro hno
              have hye : y = lastP up := by
                apply List.ext_getElem
                · rw [hym.1.1, lastP, List.length_map, hl]
                · intro i hi1 hi2
                  have hi : i < ds.length := by omega
                  have h5 := hlast y hy i hi
                  have h6 : ¬ at0 y i < at0 (lastP up) i := fun e => hno ⟨i, hi, e⟩
                  have h7 : at0 y i = y[i] := by unfold at0; rw [List.getD_eq_getElem?_getD, List.getElem?_eq_getElem hi1]; rfl
                  have h8 : at0 (lastP up) i = (lastP up)[i] := by unfold at0; rw [List.getD_eq_getElem?_getD, List.getElem?_eq_getElem hi2]; rfl
                  omega
              rw [hye] at hym
              exact hm hym.2
            obtain ⟨h, hh, hlt⟩ := hne
            have hyh : befK ds.length y (lessAt up h) = true := befK_iff.2 fun j hj => by
              rw [at0_lessAt up h j (by omega)]
              split
              · rename_i e; rw [e, ← at0_lastP]; exact hlt
              · exact befK_iff.1 hy j hj
            have h9 := (ihh h (by omega)).2 (r' ++ [y]) hr fun z hz => by
              rcases List.mem_append.1 hz with hz | hz
              · exact befK_tr _ _ _ (hall z hz) hyh
              · rw [List.mem_singleton] at hz; exact hz ▸ hyh
            exact Nat.le_trans h9 (g2 h (List.mem_range.2 (by omega)))
/-- how long passages within a place can be -/
def wthN (mt : List Nat → Bool) (up : List Nat) : Nat := within mt up.sum up
theorem MaxIn.eq {α : Type} {ms : List α} {bef : α → α → Bool} {P : α → Prop} {n m : Nat} (h : MaxIn ms bef P n) (k : MaxIn ms bef P m) : n = m := by
  obtain ⟨⟨l, h1, h2, h3⟩, h4⟩ := h
  obtain ⟨⟨r, k1, k2, k3⟩, k4⟩ := k
  have := h4 r k1 k2
  have := k4 l h1 h2
  omega
/-- a place within the lines -/
def InDs (ds up : List Nat) : Prop := up.length = ds.length ∧ ∀ h, h < ds.length → at0 up h ≤ at0 ds h
theorem wth_fuel {mt : List Nat → Bool} {ds up : List Nat} (h0 : 0 < ds.length) (h : InDs ds up) {f : Nat} (hf : up.sum ≤ f) : within mt f up = wthN mt up :=
  (within_max h0 f up h.1 h.2 hf).eq (within_max h0 _ up h.1 h.2 (Nat.le_refl _))
theorem wth_zero {mt : List Nat → Bool} {up : List Nat} (hz : anyZero up = true) : wthN mt up = 0 := by
  unfold wthN
  cases up.sum with
  | zero => rfl
  | succ f => unfold within; rw [if_pos hz]
theorem InDs.last {ds up : List Nat} (h : InDs ds up) : InDs ds (lastP up) := ⟨by rw [lastP, List.length_map]; exact h.1, fun j hj => by rw [at0_lastP]; have := h.2 j hj; omega⟩
theorem InDs.less {ds up : List Nat} (h : InDs ds up) {j : Nat} (hj : j < ds.length) : InDs ds (lessAt up j) := by
  refine ⟨by rw [lessAt, List.length_set]; exact h.1, fun i hi => ?_⟩
  rw [at0_lessAt up j i (by rw [h.1]; exact hj)]
  have h1 := h.2 i hi
  have h2 := h.2 j hj
  split
  · rename_i e; rw [e]; omega
  · exact h1
theorem sum_pos {up : List Nat} (h0 : 0 < up.length) (hz : anyZero up = false) : ∃ f, up.sum = f + 1 := by
  have := lastP_sum h0 hz
  exact ⟨up.sum - 1, by omega⟩
theorem wth_match {mt : List Nat → Bool} {ds up : List Nat} (h0 : 0 < ds.length) (h : InDs ds up) (hz : anyZero up = false) (hm : mt (lastP up) = true) : wthN mt up = 1 + wthN mt (lastP up) := by
  have hl := h.1
  obtain ⟨f, hf⟩ := sum_pos (by omega) hz
  have := lastP_sum (by omega) hz
  have e : wthN mt up = within mt (f + 1) up := by unfold wthN; rw [hf]
  rw [e]
  unfold within
  rw [if_neg (by simp [hz]), if_pos hm, wth_fuel h0 h.last (by omega)]
theorem foldl_congr2 {g g' : Nat → Nat} : ∀ {l : List Nat} {n : Nat}, (∀ h ∈ l, g h = g' h) → l.foldl (fun n h => max n (g h)) n = l.foldl (fun n h => max n (g' h)) n
  | [], n, _ => rfl
  | a :: l, n, h => by
    rw [List.foldl_cons, List.foldl_cons, h a (List.mem_cons_self ..)]
    exact foldl_congr2 fun x hx => h x (List.mem_cons_of_mem _ hx)
theorem wth_else {mt : List Nat → Bool} {ds up : List Nat} (h0 : 0 < ds.length) (h : InDs ds up) (hz : anyZero up = false) (hm : mt (lastP up) = false) : wthN mt up = (List.range ds.length).foldl (fun n h => max n (wthN mt (lessAt up h))) 0 := by
  have hl := h.1
  obtain ⟨f, hf⟩ := sum_pos (by omega) hz
  have e : wthN mt up = within mt (f + 1) up := by unfold wthN; rw [hf]
  rw [e]
  unfold within
  rw [if_neg (by simp [hz]), if_neg (by simp [hm]), hl]
  refine foldl_congr2 fun j hj => ?_
  rw [List.mem_range] at hj
  have hnz : at0 up j ≠ 0 := fun e => by rw [anyZero_iff.2 ⟨j, by omega, e⟩] at hz; cases hz
  have := lessAt_sum (show j < up.length by omega) hnz
  exact wth_fuel h0 (h.less hj) (by omega)
/-- the level of a match -/
theorem wth_lv {mt : List Nat → Bool} {ds x : List Nat} (h0 : 0 < ds.length) (hx : x ∈ matsL mt ds) : IsLv (matsL mt ds) (befK ds.length) x (1 + wthN mt x) := by
  obtain ⟨⟨h1, h2⟩, -⟩ := mem_mats.1 hx
  exact MaxIn.lv befK_tr hx (within_max h0 _ x h1 (fun h hh => Nat.le_of_lt (h2 h hh)) (Nat.le_refl _))
theorem wth_le {mt : List Nat → Bool} : ∀ (f : Nat) (up : List Nat) (h : Nat), h < up.length → within mt f up ≤ at0 up h
  | 0, up, h, _ => Nat.zero_le _
  | f + 1, up, h, hh => by
    unfold within
    split
    · exact Nat.zero_le _
    · rename_i hz
      split
      · have := wth_le (mt := mt) f (lastP up) h (by rw [lastP, List.length_map]; exact hh)
        rw [at0_lastP] at this
        have hnz : at0 up h ≠ 0 := fun e => hz (anyZero_iff.2 ⟨h, hh, e⟩)
        omega
      · rcases foldl_max_at (fun h => within mt f (lessAt up h)) (List.range up.length) 0 with e | ⟨j, hj, e⟩
        · rw [e]; exact Nat.zero_le _
        · rw [e]
          rw [List.mem_range] at hj
          refine Nat.le_trans (wth_le f (lessAt up j) h (by rw [lessAt, List.length_set]; exact hh)) ?_
          rw [at0_lessAt up j h hj]
          split
          · rename_i e2; rw [e2]; omega
          · exact Nat.le_refl _

/-! ### bounds of ways -/
def wgt (g : Nat → Nat) : List Nat → Nat
  | [] => 1
  | a :: x => g a * wgt g x
def allR (q : Nat → Nat → Bool) : List Nat → List Nat → Bool
  | a :: x, b :: y => q a b && allR q x y
  | _, _ => true
theorem sum_places (g : Nat → Nat) (q : Nat → Nat → Bool) {G : Nat → Nat} (hq : ∀ d a, d ≤ 8 → a ≤ 8 → ((List.range d).map fun b => if q a b = true then g b else 0).sum ≤ G a) : ∀ (ds x : List Nat), x.length = ds.length → (∀ d ∈ ds, d ≤ 8) → (∀ a ∈ x, a ≤ 8) →
    ((placesL ds).map fun y => if allR q x y = true then wgt g y else 0).sum ≤ wgt G x
  | [], x, hl, _, _ => by
    cases x with
    | nil => simp [placesL, allR, wgt]
    | cons a x => simp at hl
  | d :: ds, x, hl, hd, hx => by
    cases x with
    | nil => simp at hl
    | cons a x =>
      have ih := sum_places g q hq ds x (by simpa using hl) (fun d hd' => hd d (List.mem_cons_of_mem _ hd')) (fun a ha => hx a (List.mem_cons_of_mem _ ha))
      have h1 := hq d a (hd d (List.mem_cons_self ..)) (hx a (List.mem_cons_self ..))
      unfold placesL
      have e : (((List.range d).flatMap fun b => (placesL ds).map (b :: ·)).map fun y => if allR q (a :: x) y = true then wgt g y else 0).sum = ((List.range d).map fun b => (if q a b = true then g b else 0) * ((placesL ds).map fun y => if allR q x y = true then wgt g y else 0).sum).sum := by
        generalize List.range d = R
        induction R with
        | nil => rfl
        | cons b R ihR =>
          rw [List.flatMap_cons, List.map_append, List.sum_append, ihR, List.map_cons, List.sum_cons]
          congr 1
          rw [List.map_map]
          by_cases hb : q a b = true
          · rw [if_pos hb, Nat.mul_comm, ← sum_mul]
            refine sum_congr fun y _ => ?_
            show (if (q a b && allR q x y) = true then g b * wgt g y else 0) = _
            rw [hb, Bool.true_and]
            split
            · rw [Nat.mul_comm]
            · rw [Nat.zero_mul]
          · rw [if_neg hb, Nat.zero_mul]
            refine sum_zero fun y _ => ?_
            show (if (q a b && allR q x y) = true then g b * wgt g y else 0) = 0
            rw [if_neg (by simp [hb])]
      rw [e, sum_mul]
      exact Nat.mul_le_mul h1 ih
theorem sum_filter_le {α : Type} (p : α → Bool) (f : α → Nat) (l : List α) : ((l.filter p).map f).sum ≤ (l.map f).sum := by
  rw [sum_filter]
  exact sum_mono fun x _ => by split <;> omega
theorem low_bound : ∀ d a, d ≤ 8 → a ≤ 8 → ((List.range d).map fun b => if decide (b < a) = true then 2 ^ b else 0).sum ≤ 2 ^ a := by
  intro d a hd ha
  have : ∀ d : Fin 9, ∀ a : Fin 9, ((List.range d.1).map fun b => if decide (b < a.1) = true then 2 ^ b else 0).sum ≤ 2 ^ a.1 := by decide
  exact this ⟨d, by omega⟩ ⟨a, by omega⟩
theorem high_bound : ∀ d a, d ≤ 8 → a ≤ 8 → ((List.range d).map fun b => if decide (a < b) = true then 2 ^ (7 - b) else 0).sum ≤ 2 ^ (7 - a) := by
  intro d a hd ha
  have : ∀ d : Fin 9, ∀ a : Fin 9, ((List.range d.1).map fun b => if decide (a.1 < b) = true then 2 ^ (7 - b) else 0).sum ≤ 2 ^ (7 - a.1) := by decide
  exact this ⟨d, by omega⟩ ⟨a, by omega⟩
theorem allR_low : ∀ {x y : List Nat}, x.length = y.length → allR (fun a b => decide (b < a)) x y = befK x.length y x
  | [], [], _ => rfl
  | a :: x, b :: y, hl => by
    have ih := allR_low (x := x) (y := y) (by simpa using hl)
    show (decide (b < a) && allR _ x y) = _
    rw [ih, Bool.eq_iff_iff, Bool.and_eq_true, decide_eq_true_eq, befK_iff, befK_iff]
    constructor
    · rintro ⟨h1, h2⟩ h hh
      cases h with
      | zero => exact h1
      | succ h => exact h2 h (by simpa using hh)
    · intro h
      exact ⟨h 0 (by simp), fun j hj => h (j + 1) (by simpa using hj)⟩
theorem allR_high : ∀ {x y : List Nat}, x.length = y.length → allR (fun a b => decide (a < b)) x y = befK x.length x y
  | [], [], _ => rfl
  | a :: x, b :: y, hl => by
    have ih := allR_high (x := x) (y := y) (by simpa using hl)
    show (decide (a < b) && allR _ x y) = _
    rw [ih, Bool.eq_iff_iff, Bool.and_eq_true, decide_eq_true_eq, befK_iff, befK_iff]
    constructor
    · rintro ⟨h1, h2⟩ h hh
      cases h with
      | zero => exact h1
      | succ h => exact h2 h (by simpa using hh)
    · intro h
      exact ⟨h 0 (by simp), fun j hj => h (j + 1) (by simpa using hj)⟩
theorem mem_at0 {x : List Nat} {a : Nat} (h : a ∈ x) : ∃ j, j < x.length ∧ at0 x j = a := by
  obtain ⟨i, hi, rfl⟩ := List.getElem_of_mem h
  exact ⟨i, hi, by unfold at0; rw [List.getD_eq_getElem?_getD, List.getElem?_eq_getElem hi]; rfl⟩
theorem mats_le8 {mt : List Nat → Bool} {ds x : List Nat} (h8 : ∀ d ∈ ds, d ≤ 8) (hx : x ∈ matsL mt ds) : ∀ a ∈ x, a ≤ 7 := by
  intro a ha
  obtain ⟨j, hj, rfl⟩ := mem_at0 ha
  obtain ⟨⟨h1, h2⟩, -⟩ := mem_mats.1 hx
  have h3 := h2 j (by omega)
  have h4 : at0 ds j ≤ 8 := by
    unfold at0
    rw [List.getD_eq_getElem?_getD, List.getElem?_eq_getElem (by omega)]
    exact h8 _ (List.getElem_mem _)
  omega
theorem upO_le {mt : List Nat → Bool} {ds : List Nat} (h8 : ∀ d ∈ ds, d ≤ 8) : ∀ (j : Nat) (x : List Nat), x ∈ matsL mt ds → upO (matsL mt ds) (befK ds.length) j none x ≤ wgt (fun a => 2 ^ a) x
  | 0, x, hx => by
    unfold upO
    have hpos : ∀ y : List Nat, 1 ≤ wgt (fun a => 2 ^ a) y := by
      intro y
      induction y with
      | nil => exact Nat.le_refl _
      | cons a y ih => exact Nat.mul_le_mul Nat.one_le_two_pow ih
    split
    · exact hpos x
    · exact Nat.zero_le _
  | j + 1, x, hx => by
    rw [upO_snoc _ _ hx]
    have hl := (mem_mats.1 hx).1.1
    refine Nat.le_trans (sum_mono (g := fun y => if befK ds.length y x = true then wgt (fun a => 2 ^ a) y else 0) fun y hy => ?_) ?_
    · split
      · exact upO_le h8 j y hy
      · exact Nat.le_refl _
    · unfold matsL
      refine Nat.le_trans (sum_filter_le _ _ _) ?_
      refine Nat.le_trans ?_ (sum_places (fun a => 2 ^ a) (fun a b => decide (b < a)) low_bound ds x hl h8 fun a ha => Nat.le_trans (mats_le8 h8 hx a ha) (by omega))
      refine sum_mono fun y hy => ?_
      rw [allR_low (by rw [hl, (mem_places.1 hy).1]), hl]
      exact Nat.le_refl _
theorem dnC_le {mt : List Nat → Bool} {ds : List Nat} (h8 : ∀ d ∈ ds, d ≤ 8) : ∀ (f : Nat) (x : List Nat), x ∈ matsL mt ds → dnC (matsL mt ds) (befK ds.length) f x ≤ wgt (fun a => 2 ^ (7 - a)) x
  | 0, x, hx => by
    have hpos : ∀ y : List Nat, 1 ≤ wgt (fun a => 2 ^ (7 - a)) y := by
      intro y
      induction y with
      | nil => exact Nat.le_refl _
      | cons a y ih => exact Nat.mul_le_mul Nat.one_le_two_pow ih
    exact hpos x
  | f + 1, x, hx => by
    rw [dnC_succ]
    have hl := (mem_mats.1 hx).1.1
    refine Nat.le_trans (sum_mono (g := fun y => if befK ds.length x y = true then wgt (fun a => 2 ^ (7 - a)) y else 0) fun y hy => ?_) ?_
    · split
      · exact dnC_le h8 f y hy
      · exact Nat.le_refl _
    · unfold matsL
      refine Nat.le_trans (sum_filter_le _ _ _) ?_
      refine Nat.le_trans ?_ (sum_places (fun a => 2 ^ (7 - a)) (fun a b => decide (a < b)) high_bound ds x hl h8 fun a ha => Nat.le_trans (mats_le8 h8 hx a ha) (by omega))
      refine sum_mono fun y hy => ?_
      rw [allR_high (by rw [hl, (mem_places.1 hy).1]), hl]
      exact Nat.le_refl _
theorem wgt_mul : ∀ {x : List Nat}, (∀ a ∈ x, a ≤ 7) → wgt (fun a => 2 ^ a) x * wgt (fun a => 2 ^ (7 - a)) x = 128 ^ x.length
  | [], _ => rfl
  | a :: x, h => by
    have ih := wgt_mul fun b hb => h b (List.mem_cons_of_mem _ hb)
    have ha := h a (List.mem_cons_self ..)
    have e : 2 ^ a * 2 ^ (7 - a) = 128 := by rw [← Nat.pow_add, show a + (7 - a) = 7 by omega]
    show 2 ^ a * wgt _ x * (2 ^ (7 - a) * wgt _ x) = 128 ^ (x.length + 1)
    rw [Nat.mul_mul_mul_comm, e, ih, Nat.pow_succ, Nat.mul_comm]
theorem wgt_low_le {x : List Nat} (h : ∀ a ∈ x, a ≤ 7) : wgt (fun a => 2 ^ a) x ≤ 128 ^ x.length ∧ wgt (fun a => 2 ^ (7 - a)) x ≤ 128 ^ x.length := by
  have e := wgt_mul h
  have h1 : ∀ g : Nat → Nat, (∀ a, 1 ≤ g a) → 1 ≤ wgt g x := by
    intro g hg
    induction x with
    | nil => exact Nat.le_refl _
    | cons a x ih => exact Nat.mul_le_mul (hg a) (ih (fun b hb => h b (List.mem_cons_of_mem _ hb)) (wgt_mul fun b hb => h b (List.mem_cons_of_mem _ hb)))
  have h2 := h1 (fun a => 2 ^ a) fun a => Nat.one_le_two_pow
  have h3 := h1 (fun a => 2 ^ (7 - a)) fun a => Nat.one_le_two_pow
  constructor
  · rw [← e]; exact Nat.le_mul_of_pos_right _ h3
  · rw [← e]; exact Nat.le_mul_of_pos_left _ h2
theorem pow128 {n : Nat} (h : n ≤ 4) : 128 ^ n ≤ 268435456 := Nat.le_trans (Nat.pow_le_pow_right (by omega) h) (by decide)
/-- so many ways, at most, come to an element, go on from it, go through it -/
theorem ways_le {mt : List Nat → Bool} {ds : List Nat} (h8 : ∀ d ∈ ds, d ≤ 8) (h4 : ds.length ≤ 4) {x : List Nat} (hx : x ∈ matsL mt ds) (j f : Nat) :
    upO (matsL mt ds) (befK ds.length) j none x ≤ 268435456 ∧ dnC (matsL mt ds) (befK ds.length) f x ≤ 268435456 ∧ upO (matsL mt ds) (befK ds.length) j none x * dnC (matsL mt ds) (befK ds.length) f x ≤ 268435456 := by
  have h7 := mats_le8 h8 hx
  have hl := (mem_mats.1 hx).1.1
  have hp : 128 ^ x.length ≤ 268435456 := pow128 (by omega)
  obtain ⟨w1, w2⟩ := wgt_low_le h7
  have u := upO_le h8 j x hx
  have d := dnC_le h8 f x hx
  refine ⟨by omega, by omega, Nat.le_trans (Nat.mul_le_mul u d) (by rw [wgt_mul h7]; exact hp)⟩
theorem places_len : ∀ {ds : List Nat}, (∀ d ∈ ds, d ≤ 8) → (placesL ds).length ≤ 8 ^ ds.length
  | [], _ => Nat.le_refl _
  | d :: ds, h => by
    have ih := places_len fun e he => h e (List.mem_cons_of_mem _ he)
    have hd := h d (List.mem_cons_self ..)
    unfold placesL
    rw [len_flat, sum_congr (g := fun _ => (placesL ds).length * 1) (fun a _ => by rw [List.length_map, Nat.mul_one])]
    have : ((List.range d).map fun _ => (placesL ds).length * 1).sum = d * (placesL ds).length := by
      rw [List.map_const', List.sum_replicate_nat, List.length_range, Nat.mul_one]
    rw [this, List.length_cons, Nat.pow_succ, Nat.mul_comm (8 ^ _)]
    exact Nat.mul_le_mul hd ih
theorem mats_len {mt : List Nat → Bool} {ds : List Nat} (h8 : ∀ d ∈ ds, d ≤ 8) (h4 : ds.length ≤ 4) : (matsL mt ds).length ≤ 4096 :=
  Nat.le_trans (List.length_filter_le _ _) (Nat.le_trans (places_len h8) (Nat.le_trans (Nat.pow_le_pow_right (by omega) h4) (by decide)))
end Go.Proofs.Ytgngpdnppdbgoaa
