/- Kinds as a plain function. -/
import Derived.Test.YthplabmbbfefeaaLab
namespace Go.Proofs.Ythplabmbbfefeaa
set_option linter.unusedVariables false

def addW (ws : Nat → Int) (i : Nat) (x : Int) (j : Nat) : Int := if j = i then ws j + x else ws j
def withOf (c : Cyl) (m : Int) (i : Nat) : Int := tabC c (addW (ownW c.pas) i m) (tT c) (tK c) - m
def withoutOf (c : Cyl) (m : Int) (i : Nat) : Int := tabC c (addW (ownW c.pas) i (-m)) (tT c) (tK c)
def kindOf (c : Cyl) (m : Int) (i : Nat) : Int := if withOf c m i < mostOf c then 0 else if withoutOf c m i < mostOf c then 2 else 1
def kindsOf (c : Cyl) (m : Int) : List Int := if checkCyl c = 0 then (List.range c.pas.length).map (kindOf c m) else []

theorem sumW_add (ws : Nat → Int) (i : Nat) (x : Int) (s : Str) : ∀ (pas : List Pas) (j : Nat), sumW (addW ws i x) s j pas = sumW ws s j pas + (if j ≤ i then (match pas[i - j]? with | some p => if hasP s p then x else 0 | none => 0) else 0)
  | [], j => by simp [sumW]
  | p :: r, j => by
    have ih := sumW_add ws i x s r (j + 1)
    unfold sumW
    rw [ih]
    by_cases h : j = i
    · subst h
      simp only [addW, if_pos, Nat.le_refl, Nat.sub_self, List.getElem?_cons_zero]
      rw [if_neg (show ¬ j + 1 ≤ j by omega)]
      split <;> simp <;> omega
    · have ha : addW ws i x j = ws j := by rw [addW, if_neg h]
      rw [ha]
      by_cases h2 : j ≤ i
      · rw [if_pos (show j + 1 ≤ i by omega), if_pos h2, show i - j = (i - (j + 1)) + 1 by omega, List.getElem?_cons_succ]
        omega
      · rw [if_neg (show ¬ j + 1 ≤ i by omega), if_neg h2]
        omega

theorem valI_add {c : Cyl} (ws : Nat → Int) (i : Nat) (x : Int) {p : Pas} (hp : c.pas[i]? = some p) (hfit : p.a ≤ p.b) {plan : List Str} {last : Int} (h : SeqP c last plan) :
    valI (addW ws i x) 0 c.pas plan = valI ws 0 c.pas plan + (if saved plan p then x else 0) := by
  have h1 : ∀ plan : List Str, valI (addW ws i x) 0 c.pas plan = valI ws 0 c.pas plan + (plan.map fun s => if hasP s p then x else 0).sum := by
    intro plan
    induction plan with
    | nil => simp [valI]
    | cons s r ih =>
      simp only [valI, List.map_cons, List.sum_cons]
      rw [ih, sumW_add]
      simp only [Nat.zero_le, if_true, Nat.sub_zero, hp]
      omega
  rw [h1, once x p hfit h]

theorem val_bound {c : Cyl} (h : checkCyl c = 0) {plan : List Str} {last : Int} (hs : SeqP c last plan) : 0 ≤ valI (ownW c.pas) 0 c.pas plan ∧ valI (ownW c.pas) 0 c.pas plan ≤ 12000 := by
  have hv : c.pas.length ≤ 12 ∧ c.pas.all (pasOk c.turns) = true := by
    unfold checkCyl at h
    split at h
    · omega
    · split at h
      · omega
      · split at h
        · omega
        · split at h
          · omega
          · rename_i h1 h2 h3 h4
            exact ⟨by omega, by simpa using h4⟩
  obtain ⟨hlen, hall⟩ := hv
  rw [← savW_eq (ownW c.pas) hs c.pas 0 fun p hp => (pas_fit hall p hp).2.1]
  have : ∀ (pas : List Pas) (i : Nat), 0 ≤ savW (ownW c.pas) plan i pas ∧ savW (ownW c.pas) plan i pas ≤ 1000 * (pas.length : Int) := by
    intro pas
    induction pas with
    | nil => intro i; simp [savW]
    | cons p r ih =>
      intro i
      have h1 := ih (i + 1)
      have h2 := ownW_bound hall i
      simp only [savW, List.length_cons]
      split <;> omega
  have := this c.pas 0
  omega

theorem mostOf_isMost {c : Cyl} (h : checkCyl c = 0) : IsMost c (ownW c.pas) (tK c) (mostOf c) := (tabC_isTab c _ h).most (cyl_nat h).1 (Nat.le_refl _)

/-- with much more: none of the best plans saves it just if the number is less -/
theorem with_iff {c : Cyl} (h : checkCyl c = 0) (m : Int) (hm : 12000 < m) (i : Nat) {p : Pas} (hp : c.pas[i]? = some p) (hfit : p.a ≤ p.b) :
    withOf c m i < mostOf c ↔ ∀ q, IsPlan c (tK c) q → valI (ownW c.pas) 0 c.pas q = mostOf c → saved q p = false := by
  have H := (tabC_isTab c (addW (ownW c.pas) i m) h).most (cyl_nat h).1 (Nat.le_refl (tK c))
  have H0 := mostOf_isMost h
  have hB := fun (q : List Str) (hq : IsPlan c (tK c) q) => val_bound h hq.1
  unfold withOf
  constructor
  · intro hlt q hq hv
    rw [Bool.eq_false_iff]
    intro hs
    have h1 := H.1 q hq
    rw [valI_add _ i m hp hfit hq.1, hs, if_pos rfl] at h1
    omega
  · intro hno
    obtain ⟨q, hq, e⟩ := H.2
    have hv := valI_add (ownW c.pas) i m hp hfit hq.1
    rw [e] at hv
    cases hs : saved q p
    · rw [hs] at hv
      have h1 := H0.1 q hq
      obtain ⟨q0, hq0, e0⟩ := H0.2
      have := hB q0 hq0
      simp at hv
      omega
    · rw [hs, if_pos rfl] at hv
      have h1 := H0.1 q hq
      rcases Int.lt_or_eq_of_le h1 with h2 | h2
      · omega
      · have := hno q hq h2
        rw [hs] at this
        cases this
/-- with much less: each of the best plans saves it just if the number is less -/
theorem without_iff {c : Cyl} (h : checkCyl c = 0) (m : Int) (hm : 12000 < m) (i : Nat) {p : Pas} (hp : c.pas[i]? = some p) (hfit : p.a ≤ p.b) :
    withoutOf c m i < mostOf c ↔ ∀ q, IsPlan c (tK c) q → valI (ownW c.pas) 0 c.pas q = mostOf c → saved q p = true := by
  have H := (tabC_isTab c (addW (ownW c.pas) i (-m)) h).most (cyl_nat h).1 (Nat.le_refl (tK c))
  have H0 := mostOf_isMost h
  unfold withoutOf
  constructor
  · intro hlt q hq hv
    cases hs : saved q p
    · have h1 := H.1 q hq
      rw [valI_add _ i (-m) hp hfit hq.1, hs] at h1
      simp at h1
      omega
    · rfl
  · intro hyes
    obtain ⟨q, hq, e⟩ := H.2
    have hv := valI_add (ownW c.pas) i (-m) hp hfit hq.1
    rw [e] at hv
    cases hs : saved q p
    · rw [hs] at hv
      have h1 := H0.1 q hq
      rcases Int.lt_or_eq_of_le h1 with h2 | h2
      · simp at hv; omega
      · have := hyes q hq h2
        rw [hs] at this
        cases this
    · rw [hs, if_pos rfl] at hv
      have h1 := val_bound h hq.1
      have h2 := H0.1 [] ⟨trivial, by simp⟩
      have h3 : valI (ownW c.pas) 0 c.pas [] = 0 := rfl
      omega

theorem kindOf_eq {c : Cyl} (h : checkCyl c = 0) (m m' : Int) (hm : 12000 < m) (hm' : 12000 < m') (i : Nat) {p : Pas} (hp : c.pas[i]? = some p) (hfit : p.a ≤ p.b) : kindOf c m i = kindOf c m' i := by
  unfold kindOf
  have h1 := (with_iff h m hm i hp hfit).trans (with_iff h m' hm' i hp hfit).symm
  have h2 := (without_iff h m hm i hp hfit).trans (without_iff h m' hm' i hp hfit).symm
  simp only [h1, h2]
end Go.Proofs.Ythplabmbbfefeaa
