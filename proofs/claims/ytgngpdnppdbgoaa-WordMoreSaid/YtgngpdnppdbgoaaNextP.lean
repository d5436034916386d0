/- The place after a place. Nothing of the program is imported here. -/
import Derived.Test.YtgngpdnppdbgoaaRefl
namespace Go.Proofs.Ytgngpdnppdbgoaa
set_option linter.unusedVariables false

def zeroP (ds : List Nat) : List Nat := ds.map fun _ => 0
def nextP : List Nat → List Nat → Option (List Nat)
  | d :: ds, a :: x => match nextP ds x with
    | some r => some (a :: r)
    | none => if a + 1 < d then some ((a + 1) :: zeroP ds) else none
  | _, _ => none
/-- all places after a place -/
def afterP : List Nat → List Nat → List (List Nat)
  | d :: ds, a :: x => (afterP ds x).map (a :: ·) ++ (List.range' (a + 1) (d - (a + 1))).flatMap fun b => (placesL ds).map (b :: ·)
  | _, _ => []
theorem range_cons {d : Nat} (h : 0 < d) : List.range d = 0 :: List.range' 1 (d - 1) := by
  rw [List.range_eq_range', show d = (d - 1) + 1 by omega, List.range'_succ]
  simp
theorem places_zero : ∀ {ds : List Nat}, (∀ d ∈ ds, 0 < d) → placesL ds = zeroP ds :: afterP ds (zeroP ds)
  | [], _ => rfl
  | d :: ds, h => by
    have ih := places_zero fun e he => h e (List.mem_cons_of_mem _ he)
    show (List.range d).flatMap _ = (0 :: zeroP ds) :: ((afterP ds (zeroP ds)).map (0 :: ·) ++ (List.range' (0 + 1) (d - (0 + 1))).flatMap _)
    rw [range_cons (h d (List.mem_cons_self ..)), List.flatMap_cons, ih]
    simp
theorem zeroP_len (ds : List Nat) : (zeroP ds).length = ds.length := List.length_map ..
theorem at0_zeroP (ds : List Nat) (h : Nat) : at0 (zeroP ds) h = 0 := by
  unfold at0 zeroP
  rw [List.getD_eq_getElem?_getD, List.getElem?_map]
  cases ds[h]? <;> rfl
theorem nextP_none : ∀ {ds x : List Nat}, x.length = ds.length → (∀ i, i < ds.length → at0 x i + 1 = at0 ds i) → nextP ds x = none ∧ afterP ds x = []
  | [], x, _, _ => by cases x <;> exact ⟨rfl, rfl⟩
  | d :: ds, [], h, _ => by simp at h
  | d :: ds, a :: x, hl, h => by
    obtain ⟨h1, h2⟩ := nextP_none (ds := ds) (x := x) (by simpa using hl) fun i hi => h (i + 1) (by simpa using hi)
    have h0 : a + 1 = d := h 0 (by simp)
    unfold nextP afterP
    rw [h1, h2]
    constructor
    · show (if a + 1 < d then _ else _) = _
      rw [if_neg (by omega)]
    · rw [h0]
      simp
theorem nextP_some : ∀ {ds x : List Nat} {j : Nat}, x.length = ds.length → (∀ d ∈ ds, 0 < d) → j < ds.length → (∀ i, j < i → i < ds.length → at0 x i + 1 = at0 ds i) → at0 x j + 1 < at0 ds j →
    ∃ r, nextP ds x = some r ∧ afterP ds x = r :: afterP ds r ∧ r.length = ds.length ∧ ∀ i, i < ds.length → at0 r i = if i < j then at0 x i else if i = j then at0 x j + 1 else 0
  | [], x, j, _, _, hj, _, _ => by simp at hj
  | d :: ds, [], j, h, _, _, _, _ => by simp at h
  | d :: ds, a :: x, 0, hl, hp, hj, h1, h2 => by
    obtain ⟨h3, h4⟩ := nextP_none (ds := ds) (x := x) (by simpa using hl) fun i hi => h1 (i + 1) (by omega) (by simpa using hi)
    have h5 : a + 1 < d := h2
    refine ⟨(a + 1) :: zeroP ds, ?_, ?_, by simp [zeroP_len], fun i hi => ?_⟩
    · unfold nextP
      rw [h3]
      exact if_pos h5
    · unfold afterP
      rw [h4, show d - (a + 1) = (d - (a + 1 + 1)) + 1 by omega, List.range'_succ, List.flatMap_cons, places_zero fun e he => hp e (List.mem_cons_of_mem _ he)]
      simp
    · cases i with
      | zero => rw [if_neg (by omega), if_pos rfl]; rfl
      | succ i => rw [if_neg (by omega), if_neg (by omega), at0_cons_succ, at0_zeroP]
  | d :: ds, a :: x, j + 1, hl, hp, hj, h1, h2 => by
    obtain ⟨r, h3, h4, h5, h6⟩ := nextP_some (ds := ds) (x := x) (j := j) (by simpa using hl) (fun e he => hp e (List.mem_cons_of_mem _ he)) (by simpa using hj) (fun i hi hi2 => h1 (i + 1) (by omega) (by simpa using hi2)) h2
    refine ⟨a :: r, ?_, ?_, by simp [h5], fun i hi => ?_⟩
    · unfold nextP
      rw [h3]
    · unfold afterP
      rw [h4]
      rfl
    · cases i with
      | zero => rw [if_pos (by omega)]; rfl
      | succ i =>
        rw [at0_cons_succ, h6 i (by simpa using hi)]
        by_cases c1 : i < j
        · have c3 : i + 1 < j + 1 := by omega
          rw [if_pos c1, if_pos c3]; rfl
        · have c3 : ¬ i + 1 < j + 1 := by omega
          rw [if_neg c1, if_neg c3]
          by_cases c2 : i = j
          · have c4 : i + 1 = j + 1 := by omega
            rw [if_pos c2, if_pos c4]; rfl
          · have c4 : ¬ i + 1 = j + 1 := by omega
            rw [if_neg c2, if_neg c4]
theorem places_empty : ∀ {ds : List Nat}, (∃ d ∈ ds, d = 0) → placesL ds = []
  | [], ⟨d, hd, _⟩ => by cases hd
  | e :: ds, ⟨d, hd, h0⟩ => by
    unfold placesL
    rcases List.mem_cons.1 hd with h | h
    · rw [← h, h0]; rfl
    · rw [places_empty ⟨d, h, h0⟩]
      rw [List.flatMap_eq_nil_iff]
      intro a _
      rfl
end Go.Proofs.Ytgngpdnppdbgoaa
