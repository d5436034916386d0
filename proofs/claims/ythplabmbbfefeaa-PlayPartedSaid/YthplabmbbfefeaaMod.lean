/- What the exported functions of the layer compute, as plain functions. -/
import Derived.Test.YthplabmbbfefeaaOpt
namespace Go.Proofs.Ythplabmbbfefeaa
set_option linter.unusedVariables false

def tT (c : Cyl) : Nat := c.turns.toNat
def tK (c : Cyl) : Nat := c.plays.toNat
def endC (c : Cyl) (ws : Nat → Int) : Nat → List Cho := endsOf ws c.pas (allStr c (tT c))
def tabC (c : Cyl) (ws : Nat → Int) : Nat → Nat → Int := tabN (endC c ws) (tK c) (tT c)
def byC (c : Cyl) (ws : Nat → Int) (a b : Int) : Option Str := byN (endC c ws) (tK c) (tT c) 1 a b
def rowL (V : Nat → Nat → Int) (K t : Nat) : List Int := (List.range (K + 1)).map (V t)
def worthsOf (c : Cyl) : List Int := if checkCyl c = 0 then rowL (tabC c (ownW c.pas)) (tK c) (tT c) else []
def mostOf (c : Cyl) : Int := tabC c (ownW c.pas) (tT c) (tK c)
def wayOf (c : Cyl) : List Str := (wayGo (tabC c (ownW c.pas)) (byC c (ownW c.pas)) (tT c) (tT c) (tK c)).reverse
def bestOf (c : Cyl) : List Str × Int × Int := if checkCyl c = 0 then (wayOf c, mostOf c, 0) else ([], 0, checkCyl c)
def firstGe (x : Int) (l : List Int) : Int := idxOf (fun n => decide (x ≤ n)) 0 l
def fewestOf (c : Cyl) (x : Int) : Int × Int :=
  if checkCyl c ≠ 0 then (0, checkCyl c) else if x < 0 then (0, 3) else if firstGe x (worthsOf c) < 0 then (0, 13) else (firstGe x (worthsOf c), 0)
def labL (V : Nat → Nat → Int) (K : Nat) : Nat → List Int
  | 0 => []
  | t + 1 => labL V K t ++ rowL V K t
def labelsOf (c : Cyl) : List Int := if checkCyl c = 0 then labL (tabC c (ownW c.pas)) (tK c) (tT c + 1) else []

theorem rowL_length (V : Nat → Nat → Int) (K t : Nat) : (rowL V K t).length = K + 1 := by simp [rowL]
theorem rowL_get (V : Nat → Nat → Int) (K t j : Nat) (h : j ≤ K) : (rowL V K t)[j]? = some (V t j) := by
  unfold rowL
  rw [List.getElem?_map, List.getElem?_range (by omega)]
  rfl
theorem labL_length (V : Nat → Nat → Int) (K : Nat) : ∀ t, (labL V K t).length = t * (K + 1)
  | 0 => by simp [labL]
  | t + 1 => by rw [labL, List.length_append, labL_length V K t, rowL_length, Nat.add_mul]; omega
theorem labL_get (V : Nat → Nat → Int) (K : Nat) : ∀ n t j, t < n → j ≤ K → (labL V K n)[t * (K + 1) + j]? = some (V t j)
  | 0, t, j, h, _ => absurd h (by omega)
  | n + 1, t, j, h, hj => by
    have hl := labL_length V K n
    rw [labL]
    by_cases htn : t = n
    · subst htn
      rw [List.getElem?_append_right (by omega), hl, Nat.add_sub_cancel_left]
      exact rowL_get V K t j hj
    · have h1 : (t + 1) * (K + 1) ≤ n * (K + 1) := Nat.mul_le_mul_right _ (by omega)
      rw [Nat.add_mul] at h1
      rw [List.getElem?_append_left (by omega)]
      exact labL_get V K n t j (by omega) hj

theorem pas_fit {c : Cyl} (h : c.pas.all (pasOk c.turns) = true) : ∀ p ∈ c.pas, 0 ≤ p.a ∧ p.a ≤ p.b ∧ p.b < c.turns ∧ 0 ≤ p.w ∧ p.w ≤ 1000 := by
  intro p hp
  have := List.all_eq_true.1 h p hp
  simp only [pasOk, Bool.and_eq_true, decide_eq_true_eq] at this
  omega
theorem ownW_bound {c : Cyl} (h : c.pas.all (pasOk c.turns) = true) (i : Nat) : 0 ≤ ownW c.pas i ∧ ownW c.pas i ≤ 1000 := by
  unfold ownW
  cases hp : c.pas[i]? with
  | none => simp
  | some p =>
    have := pas_fit h p (List.mem_of_getElem? hp)
    simp
    omega

/-- what the way back through such a table hands out -/
theorem wayGo_spec (c : Cyl) (ws : Nat → Int) (T K : Nat) (hT : c.turns = (T : Int)) (hK6 : K ≤ 6) : ∀ (f t k : Nat), t ≤ f → t ≤ T → k ≤ K →
    SeqP c (-1) (wayGo (tabN (endsOf ws c.pas (allStr c T)) K T) (byN (endsOf ws c.pas (allStr c T)) K T 1) f t k).reverse ∧
    (∀ s ∈ wayGo (tabN (endsOf ws c.pas (allStr c T)) K T) (byN (endsOf ws c.pas (allStr c T)) K T 1) f t k, s.b < (t : Int)) ∧
    (wayGo (tabN (endsOf ws c.pas (allStr c T)) K T) (byN (endsOf ws c.pas (allStr c T)) K T 1) f t k).length ≤ k ∧
    valI ws 0 c.pas (wayGo (tabN (endsOf ws c.pas (allStr c T)) K T) (byN (endsOf ws c.pas (allStr c T)) K T 1) f t k) = tabN (endsOf ws c.pas (allStr c T)) K T t k := by
  have htab := tabN_isTab ws c T K hT
  obtain ⟨E, hE⟩ : ∃ E, E = endsOf ws c.pas (allStr c T) := ⟨_, rfl⟩
  rw [← hE] at htab ⊢
  have hmem : ∀ i y, y ∈ E i ↔ OkS c y.s ∧ y.s.b + 1 = (i : Int) ∧ y.x = sumW ws y.s 0 c.pas := fun i y => by rw [hE]; exact endsOf_mem ws c T hT i y
  have hlow : ∀ t n k, t ≤ n → n ≤ T → tabN E K n t k = tabN E K T t k := by
    intro t n k h1 h2
    rw [tabN_eq E K t n k h1, tabN_eq E K t T k (by omega)]
  intro f
  induction f with
  | zero =>
    intro t k hf ht hk
    obtain rfl : t = 0 := by omega
    exact ⟨trivial, by simp [wayGo], by simp [wayGo], by rw [htab.zero k hk]; rfl⟩
  | succ f ih =>
    intro t k hf ht hk
    by_cases hstop : t = 0 ∨ (tabN E K T t 0 = 0 ∧ tabN E K T t 1 = 0 ∧ tabN E K T t 2 = 0 ∧ tabN E K T t 3 = 0 ∧ tabN E K T t 4 = 0 ∧ tabN E K T t 5 = 0 ∧ tabN E K T t 6 = 0)
    · have hw : wayGo (tabN E K T) (byN E K T 1) (f + 1) t k = [] := by unfold wayGo; rw [if_pos hstop]
      rw [hw]
      refine ⟨trivial, by simp, by simp, ?_⟩
      show 0 = _
      rcases hstop with rfl | ⟨h0, h1, h2, h3, h4, h5, h6⟩
      · rw [htab.zero k hk]
      · have : k = 0 ∨ k = 1 ∨ k = 2 ∨ k = 3 ∨ k = 4 ∨ k = 5 ∨ k = 6 := by omega
        rcases this with rfl | rfl | rfl | rfl | rfl | rfl | rfl <;> (symm; assumption)
    · have ht0 : ¬ t = 0 := fun h => hstop (.inl h)
      have hz := fun h => hstop (.inr h)
      obtain ⟨t, rfl⟩ : ∃ t', t = t' + 1 := ⟨t - 1, by omega⟩
      have hsub : (((t + 1 : Nat) : Int)).toNat - 1 = t := by omega
      have hton : (((t + 1 : Nat) : Int)).toNat = t + 1 := by omega
      have hkn : ((k : Int)).toNat = k := by omega
      cases hM : byN E K T 1 ((t + 1 : Nat) : Int) (k : Int) with
      | none =>
        rw [wayGo_none _ _ _ _ _ ht0 hz hM, Nat.add_sub_cancel]
        obtain ⟨i1, i2, i3, i4⟩ := ih t k (by omega) (by omega) hk
        refine ⟨i1, fun s hs => by have := i2 s hs; omega, i3, ?_⟩
        rw [i4]
        cases k with
        | zero => rw [tabN_zero, tabN_zero]
        | succ k =>
          unfold byN at hM
          rw [hsub, hton, hkn] at hM
          split at hM
          · cases hM
          · rename_i hn
            have hc : ¬ 0 ≤ (choW E (tabN E K t) (t + 1) (k + 1)).s.a := fun h => hn ⟨by omega, by omega, by omega, by omega, h⟩
            rw [tabN_eq E K (t + 1) T (k + 1) (by omega), tabN_row E K t (k + 1) (by omega) (by omega)]
            have hm := pick_mem ⟨⟨-1, 0⟩, tabN E K t (t + 1 - 1) (k + 1)⟩ ((E (t + 1)).map fun y => ⟨y.s, y.x + tabN E K t y.s.a.toNat (k + 1 - 1)⟩)
            have hm : choW E (tabN E K t) (t + 1) (k + 1) ∈ _ := hm
            rcases List.mem_cons.1 hm with h | h
            · rw [h]; exact (hlow t t (k + 1) (Nat.le_refl _) (by omega)).symm
            · obtain ⟨y, hy, h2⟩ := List.mem_map.1 h
              have h3 := ((hmem _ _).1 hy).1
              unfold OkS at h3
              exfalso
              apply hc
              rw [← h2]
              exact h3.1
      | some s =>
        rw [wayGo_some _ _ _ _ _ s ht0 hz hM]
        unfold byN at hM
        rw [hsub, hton, hkn] at hM
        split at hM
        case isFalse => cases hM
        rename_i hn
        obtain ⟨_, hk1, hkK, _, hc⟩ := hn
        injection hM with hM
        obtain ⟨k, rfl⟩ : ∃ k', k = k' + 1 := ⟨k - 1, by omega⟩
        have hm := pick_mem ⟨⟨-1, 0⟩, tabN E K t (t + 1 - 1) (k + 1)⟩ ((E (t + 1)).map fun y => ⟨y.s, y.x + tabN E K t y.s.a.toNat (k + 1 - 1)⟩)
        have hm : choW E (tabN E K t) (t + 1) (k + 1) ∈ _ := hm
        have hrow := tabN_row E K t (k + 1) (by omega) (by omega)
        rcases List.mem_cons.1 hm with h | h
        · exfalso
          rw [h] at hc
          simp at hc
        · obtain ⟨y, hy, h2⟩ := List.mem_map.1 h
          obtain ⟨h3, h4, h5⟩ := (hmem _ _).1 hy
          have hys : y.s = s := by rw [← hM, ← h2]
          rw [hys] at h3 h4 h5
          have h3' := h3
          unfold OkS at h3'
          have hval : tabN E K T (t + 1) (k + 1) = sumW ws s 0 c.pas + tabN E K T s.a.toNat k := by
            rw [tabN_eq E K (t + 1) T (k + 1) (by omega), hrow, ← h2]
            show y.x + tabN E K t y.s.a.toNat (k + 1 - 1) = _
            rw [h5, hys, show k + 1 - 1 = k by omega, hlow s.a.toNat t k (by omega) (by omega)]
          rw [Nat.add_sub_cancel]
          by_cases hq : s.a = 0 ∧ k + 1 = 1
          · rw [if_pos hq, hval]
            obtain rfl : k = 0 := by omega
            refine ⟨⟨by omega, h3, trivial⟩, fun x hx => by simp at hx; subst hx; omega, by simp, ?_⟩
            rw [tabN_zero]
            simp [valI]
          · rw [if_neg hq, hval]
            obtain ⟨i1, i2, i3, i4⟩ := ih s.a.toNat k (by omega) (by omega) (by omega)
            refine ⟨?_, fun x hx => ?_, by simp; omega, by simp only [valI, i4]⟩
            · rw [List.reverse_cons]
              exact seqP_snoc.2 ⟨i1, h3, by omega, fun x hx => by have := i2 x (List.mem_reverse.1 hx); omega⟩
            · rcases List.mem_cons.1 hx with rfl | hx
              · omega
              · have := i2 x hx; omega

theorem cyl_nat {c : Cyl} (h : checkCyl c = 0) : c.turns = (tT c : Int) ∧ c.plays = (tK c : Int) ∧ 1 ≤ tT c ∧ tT c ≤ 30 ∧ tK c ≤ 6 ∧ 1 ≤ c.long ∧ c.long ≤ c.turns := by
  unfold checkCyl at h
  split at h
  · omega
  · rename_i h1
    simp only [argOk, Bool.not_eq_false, Bool.and_eq_true, decide_eq_true_eq] at h1
    unfold tT tK
    omega
theorem tabC_isTab (c : Cyl) (ws : Nat → Int) (h : checkCyl c = 0) : IsTab c ws (tT c) (tK c) (tabC c ws) := tabN_isTab ws c (tT c) (tK c) (cyl_nat h).1

theorem wayOf_spec {c : Cyl} (h : checkCyl c = 0) : IsPlan c (tK c) (wayOf c) ∧ valI (ownW c.pas) 0 c.pas (wayOf c) = mostOf c := by
  obtain ⟨h1, h2, h3, h4, h5, h6⟩ := cyl_nat h
  obtain ⟨i1, i2, i3, i4⟩ := wayGo_spec c (ownW c.pas) (tT c) (tK c) h1 h5 (tT c) (tT c) (tK c) (Nat.le_refl _) (Nat.le_refl _) (Nat.le_refl _)
  exact ⟨⟨i1, by unfold wayOf; rw [List.length_reverse]; exact i3⟩, by unfold wayOf; rw [valI_reverse]; exact i4⟩
end Go.Proofs.Ythplabmbbfefeaa
