/- Plain data and plain functions for the layer of words. Nothing of the program is imported here. -/
import Derived.Test.YtgngpdnppdbgoaaDict
import Derived.Test.YtgngpdnppdbgoaaPlace
namespace Go.Proofs.Ytgngpdnppdbgoaa
set_option linter.unusedVariables false
set_option linter.unusedSectionVars false

/-! ### dictionaries -/
def isWordB (n : Int) : Bool := decide (1 ≤ n) && decide (n ≤ 100)
def checkBook (b : List (Int × Int)) : Int := if 40 < b.length then 6 else if (b.all fun p => isWordB p.1 && isWordB p.2) = false then 2 else 0
def nats (b : List (Int × Int)) : List (Nat × Nat) := b.map fun p => (p.1.toNat, p.2.toNat)
/-- the class of a word -/
def clsI (b : List (Int × Int)) (n : Int) : Nat := cls (nats b) n.toNat
def likeB (b : List (Int × Int)) (x y : Int) : Bool := clsI b x == clsI b y
def alikeM (b : List (Int × Int)) (x y : Int) : Bool × Int := if checkBook b ≠ 0 then (false, checkBook b) else if (isWordB x && isWordB y) = false then (false, 2) else (likeB b x y, 0)
theorem isWordB_iff {n : Int} : isWordB n = true ↔ 1 ≤ n ∧ n ≤ 100 := by simp [isWordB]
theorem book_len {b : List (Int × Int)} (h : checkBook b = 0) : b.length ≤ 40 ∧ ∀ p ∈ b, (1 ≤ p.1 ∧ p.1 ≤ 100) ∧ (1 ≤ p.2 ∧ p.2 ≤ 100) := by
  unfold checkBook at h
  split at h
  · cases h
  · split at h
    · cases h
    · rename_i h1 h2
      refine ⟨by omega, fun p hp => ?_⟩
      have := List.all_eq_true.1 (by simpa using h2 : (b.all fun p => isWordB p.1 && isWordB p.2) = true) p hp
      rw [Bool.and_eq_true, isWordB_iff, isWordB_iff] at this
      exact this
theorem nats_lt {b : List (Int × Int)} (h : checkBook b = 0) : ∀ p ∈ nats b, p.1 < 101 ∧ p.2 < 101 := by
  intro p hp
  obtain ⟨q, hq, rfl⟩ := List.mem_map.1 hp
  have := (book_len h).2 q hq
  simp only
  omega
theorem clsI_lt {b : List (Int × Int)} (h : checkBook b = 0) {n : Int} (h1 : isWordB n = true) : clsI b n < 101 := by
  rw [isWordB_iff] at h1
  exact cls_lt _ (nats_lt h) (by omega)

/-! ### lines -/
def checkLines (b : List (Int × Int)) (ls : List (List Int)) : Int :=
  if checkBook b ≠ 0 then checkBook b else if ls.length < 2 ∨ 4 < ls.length then 6 else if (ls.any fun l => decide (8 < l.length)) = true then 6 else if (ls.all fun l => l.all isWordB) = false then 2 else 0
def dsOf (ls : List (List Int)) : List Nat := ls.map List.length
structure Good (b : List (Int × Int)) (ls : List (List Int)) : Prop where
  book : checkBook b = 0
  two : 2 ≤ ls.length
  four : ls.length ≤ 4
  eight : ∀ l ∈ ls, l.length ≤ 8
  word : ∀ l ∈ ls, ∀ n ∈ l, isWordB n = true
theorem good_of {b : List (Int × Int)} {ls : List (List Int)} (h : checkLines b ls = 0) : Good b ls := by
  unfold checkLines at h
  split at h
  · rename_i h1
    exact absurd h h1
  · split at h
    · cases h
    · split at h
      · cases h
      · split at h
        · cases h
        · rename_i h1 h2 h3 h4
          refine ⟨by simpa using h1, by omega, by omega, fun l hl => ?_, fun l hl n hn => ?_⟩
          · have : ¬ decide (8 < l.length) = true := fun e => h3 (List.any_eq_true.2 ⟨l, hl, e⟩)
            simpa using this
          · have := List.all_eq_true.1 (by simpa using h4 : (ls.all fun l => l.all isWordB) = true) l hl
            exact List.all_eq_true.1 this n hn
theorem good_mk {b : List (Int × Int)} {ls : List (List Int)} (h : Good b ls) : checkLines b ls = 0 := by
  obtain ⟨h1, h2, h3, h4, h5⟩ := h
  unfold checkLines
  rw [if_neg (by simp [h1]), if_neg (by omega), if_neg, if_neg]
  · simp only [Bool.not_eq_false, List.all_eq_true]
    exact fun l hl n hn => h5 l hl n hn
  · rw [List.any_eq_true]
    rintro ⟨l, hl, h⟩
    have := h4 l hl
    simp at h
    omega
theorem Good.ds8 {b : List (Int × Int)} {ls : List (List Int)} (h : Good b ls) : ∀ d ∈ dsOf ls, d ≤ 8 := by
  intro d hd
  obtain ⟨l, hl, rfl⟩ := List.mem_map.1 hd
  exact h.eight l hl
theorem dsOf_len (ls : List (List Int)) : (dsOf ls).length = ls.length := List.length_map ..
/-- the word of a line at an index -/
def wordAt (ls : List (List Int)) (h i : Nat) : Int := (ls.getD h []).getD i 0
/-- the words at indexes are all alike -/
def mtB (b : List (Int × Int)) (ls : List (List Int)) (m : List Nat) : Bool := (List.range ls.length).all fun h => likeB b (wordAt ls h (at0 m h)) (wordAt ls 0 (at0 m 0))
/-- all matches -/
def matsOf (b : List (Int × Int)) (ls : List (List Int)) : List (List Nat) := matsL (mtB b ls) (dsOf ls)
def befL (ls : List (List Int)) : List Nat → List Nat → Bool := befK ls.length
theorem at0_ds (ls : List (List Int)) (h : Nat) : at0 (dsOf ls) h = (ls.getD h []).length := by
  unfold at0 dsOf
  simp only [List.getD_eq_getElem?_getD, List.getElem?_map]
  cases ls[h]? <;> rfl
theorem mem_matsOf {b : List (Int × Int)} {ls : List (List Int)} {m : List Nat} : m ∈ matsOf b ls ↔ (m.length = ls.length ∧ ∀ h, h < ls.length → at0 m h < (ls.getD h []).length) ∧ mtB b ls m = true := by
  unfold matsOf
  rw [mem_mats, dsOf_len]
  simp only [at0_ds]
/-- the level of a match -/
def lvOf (b : List (Int × Int)) (ls : List (List Int)) (m : List Nat) : Nat := 1 + wthN (mtB b ls) m
def mostOf (b : List (Int × Int)) (ls : List (List Int)) : Nat := ((matsOf b ls).map (lvOf b ls)).foldl max 0
theorem foldl_max_le : ∀ (l : List Nat) (n : Nat), n ≤ l.foldl max n ∧ (∀ x ∈ l, x ≤ l.foldl max n) ∧ (l.foldl max n = n ∨ l.foldl max n ∈ l)
  | [], n => ⟨Nat.le_refl _, (fun x hx => by cases hx), .inl rfl⟩
  | a :: l, n => by
    rw [List.foldl_cons]
    obtain ⟨h1, h2, h3⟩ := foldl_max_le l (max n a)
    refine ⟨Nat.le_trans (Nat.le_max_left ..) h1, fun x hx => ?_, ?_⟩
    · rcases List.mem_cons.1 hx with rfl | hx
      · exact Nat.le_trans (Nat.le_max_right ..) h1
      · exact h2 x hx
    · rcases h3 with h3 | h3
      · rcases Nat.le_total n a with hl | hl
        · rw [h3, Nat.max_eq_right hl]; exact .inr (List.mem_cons_self ..)
        · rw [h3, Nat.max_eq_left hl]; exact .inl rfl
      · exact .inr (List.mem_cons_of_mem _ h3)
theorem levOf {b : List (Int × Int)} {ls : List (List Int)} (h : Good b ls) : Lev (matsOf b ls) (befL ls) (lvOf b ls) (mostOf b ls) := by
  have h2 := h.two
  have hd := dsOf_len ls
  have h0 : 0 < (dsOf ls).length := by omega
  refine ⟨befK_ir (by omega), befK_tr, mats_nodup _ _, ?_, fun x hx => ?_, fun x hx => ?_, fun hne => ?_, fun he => ?_⟩
  · have := mats_ord (mtB b ls) h0
    rw [hd] at this
    exact this
  · have := wth_lv h0 hx
    rw [hd] at this
    exact this
  · exact (foldl_max_le _ 0).2.1 _ (List.mem_map_of_mem hx)
  · rcases (foldl_max_le ((matsOf b ls).map (lvOf b ls)) 0).2.2 with h3 | h3
    · obtain ⟨x, hx⟩ := List.exists_mem_of_ne_nil _ hne
      have := (foldl_max_le ((matsOf b ls).map (lvOf b ls)) 0).2.1 _ (List.mem_map_of_mem hx)
      unfold lvOf at this h3
      omega
    · obtain ⟨x, hx, e⟩ := List.mem_map.1 h3
      exact ⟨x, hx, e⟩
  · unfold mostOf
    rw [he]
    rfl
theorem lvOf_le {b : List (Int × Int)} {ls : List (List Int)} (h : Good b ls) {m : List Nat} (hm : m ∈ matsOf b ls) : lvOf b ls m ≤ 8 := by
  have h2 := h.two
  obtain ⟨⟨h1, h3⟩, -⟩ := mem_matsOf.1 hm
  have h4 := h3 0 (by omega)
  have h5 : (ls.getD 0 []).length ≤ 8 := by
    rw [List.getD_eq_getElem?_getD, List.getElem?_eq_getElem (by omega)]
    exact h.eight _ (List.getElem_mem _)
  have h6 := wth_le (mt := mtB b ls) m.sum m 0 (by omega)
  unfold lvOf wthN
  omega
theorem mostOf_le {b : List (Int × Int)} {ls : List (List Int)} (h : Good b ls) : mostOf b ls ≤ 8 := by
  have hL := levOf h
  by_cases he : matsOf b ls = []
  · rw [hL.no he]; omega
  · obtain ⟨x, hx, e⟩ := hL.top he
    rw [← e]
    exact lvOf_le h hx
/-- the longest passages -/
def longOf (b : List (Int × Int)) (ls : List (List Int)) : List (List (List Nat)) := longs (matsOf b ls) (befL ls) (mostOf b ls)
def thrOf (b : List (Int × Int)) (ls : List (List Int)) (m : List Nat) : Nat := thr (matsOf b ls) (befL ls) (lvOf b ls) (mostOf b ls) m
/-- matches as numbers -/
def iL (m : List Nat) : List Int := m.map fun (n : Nat) => (n : Int)
def iLL (ms : List (List Nat)) : List (List Int) := ms.map iL
theorem iL_len (m : List Nat) : (iL m).length = m.length := List.length_map ..
theorem iLL_len (m : List (List Nat)) : (iLL m).length = m.length := List.length_map ..
theorem iL_inj {x y : List Nat} (h : iL x = iL y) : x = y := by
  have := congrArg (List.map Int.toNat) h
  simpa [iL, List.map_map, Function.comp_def] using this
theorem toN_iL (m : List Nat) : (iL m).map Int.toNat = m := by simp [iL, List.map_map, Function.comp_def]
theorem iLL_inj {x y : List (List Nat)} (h : iLL x = iLL y) : x = y := by
  have := congrArg (List.map (List.map Int.toNat)) h
  unfold iLL at this
  have e : List.map Int.toNat ∘ iL = id := funext toN_iL
  rw [List.map_map, List.map_map, e] at this
  simpa using this

/-! ### what the exported functions return -/
def matchesM (b : List (Int × Int)) (ls : List (List Int)) : List (List Int) × Int := if checkLines b ls ≠ 0 then ([], checkLines b ls) else (iLL (matsOf b ls), 0)
/-- some index of a match is out of its line -/
def outB (ls : List (List Int)) (m : List Int) : Bool := (List.range m.length).any fun h => decide ((m.getD h 0) < 0) || decide (((ls.getD h []).length : Int) ≤ m.getD h 0)
def toN (m : List Int) : List Nat := m.map Int.toNat
def ordB (ls : List (List Int)) : List (List Nat) → Bool
  | [] => true
  | [_] => true
  | x :: y :: r => befL ls x y && ordB ls (y :: r)
def checkPass (b : List (Int × Int)) (ls p : List (List Int)) : Int :=
  if checkLines b ls ≠ 0 then checkLines b ls else if 8 < p.length then 6 else if (p.any fun m => decide (m.length ≠ ls.length)) = true then 15 else if (p.any (outB ls)) = true then 3 else if (p.all fun m => mtB b ls (toN m)) = false then 20 else if ordB ls (p.map toN) = false then 24 else 0
def levelsM (b : List (Int × Int)) (ls : List (List Int)) : List Int × Int := if checkLines b ls ≠ 0 then ([], checkLines b ls) else ((matsOf b ls).map (fun m => (lvOf b ls m : Int)), 0)
/-- levels are wrong: one is less than 1, or one of a match is not above one of a match before it -/
def badLv (ls : List (List Int)) : List (List Nat) → List Int → Bool
  | ms, lv => (lv.any fun n => decide (n < 1)) || (List.range ms.length).any fun i => (List.range ms.length).any fun k => befL ls (ms.getD k []) (ms.getD i []) && decide (lv.getD i 0 ≤ lv.getD k 0)
def checkLv (b : List (Int × Int)) (ls : List (List Int)) (lv : List Int) : Int × Int :=
  if checkLines b ls ≠ 0 then (0, checkLines b ls) else if lv.length ≠ (matsOf b ls).length then (0, 15) else if badLv ls (matsOf b ls) lv = true then (0, 14) else (lv.foldl max 0, 0)
def longestM (b : List (Int × Int)) (ls : List (List Int)) : List (List Int) × Int := if checkLines b ls ≠ 0 then ([], checkLines b ls) else (iLL ((longOf b ls).headD []), 0)
def countM (b : List (Int × Int)) (ls : List (List Int)) : Int × Int := if checkLines b ls ≠ 0 then (0, checkLines b ls) else ((longOf b ls).length, 0)
def certainOf (b : List (Int × Int)) (ls : List (List Int)) : List (List Nat) := (matsOf b ls).filter fun m => (longOf b ls).all fun l => decide (m ∈ l)
def certainM (b : List (Int × Int)) (ls : List (List Int)) : List (List Int) × Int := if checkLines b ls ≠ 0 then ([], checkLines b ls) else (iLL (certainOf b ls), 0)
/-- a passage has a match with an index for a hearer -/
def hearsB (h i : Nat) (l : List (List Nat)) : Bool := l.any fun m => at0 m h == i
def gradeN (n all : Nat) : Int := if n = 0 then 0 else if n < all then 1 else 2
def gradesOf (b : List (Int × Int)) (ls : List (List Int)) (h : Nat) : List Int := (List.range (ls.getD h []).length).map fun i => gradeN ((longOf b ls).countP (hearsB h i)) (longOf b ls).length
def gradesM (b : List (Int × Int)) (ls : List (List Int)) (h : Int) : List Int × Int := if checkLines b ls ≠ 0 then ([], checkLines b ls) else if h < 0 ∨ (ls.length : Int) ≤ h then ([], 3) else (gradesOf b ls h.toNat, 0)
end Go.Proofs.Ytgngpdnppdbgoaa
