/- CheckLabels as a plain function. -/
import Derived.Test.YthplabmbbfefeaaMod
namespace Go.Proofs.Ythplabmbbfefeaa
set_option linter.unusedVariables false

def labAt (l : List Int) (K t k : Nat) : Int := (l[t * (K + 1) + k]?).getD 0
def step1 (V : Nat → Nat → Int) (t k : Nat) : Bool := (decide (t = 0) || decide (V (t - 1) k ≤ V t k)) && (decide (k = 0) || decide (V t (k - 1) ≤ V t k))
def step2 (V : Nat → Nat → Int) (ws : Nat → Int) (pas : List Pas) (s : Str) (k : Nat) : Bool := decide (V s.a.toNat k + sumW ws s 0 pas ≤ V (s.b + 1).toNat (k + 1))
def rowOk (V : Nat → Nat → Int) (K t : Nat) : Bool := (List.range (K + 1)).all fun k => step1 V t k
def strOk (V : Nat → Nat → Int) (ws : Nat → Int) (pas : List Pas) (K : Nat) (s : Str) : Bool := (List.range K).all fun k => step2 V ws pas s k
def goodLab (c : Cyl) (V : Nat → Nat → Int) : Bool :=
  (decide (V 0 0 = 0) && (List.range (tT c + 1)).all fun t => rowOk V (tK c) t) && (allStr c (tT c)).all fun s => strOk V (ownW c.pas) c.pas (tK c) s
def badRange (l : List Int) : Bool := (l.any fun y => decide (y < 0)) || l.any fun y => decide (1099511627776 < y)
def checkLab (c : Cyl) (l : List Int) : Int × Int :=
  if checkCyl c ≠ 0 then (0, checkCyl c) else if l.length ≠ (tT c + 1) * (tK c + 1) then (0, 15) else if badRange l = true then (0, 3)
  else if goodLab c (labAt l (tK c)) = false then (0, 14) else (labAt l (tK c) (tT c) (tK c), 0)

theorem all_range_snoc (f : Nat → Bool) (n : Nat) : (List.range (n + 1)).all f = ((List.range n).all f && f n) := by
  rw [List.range_succ, List.all_append]; simp
theorem goodLab_iff (c : Cyl) (h : c.turns = (tT c : Int)) (V : Nat → Nat → Int) : goodLab c V = true ↔
    V 0 0 = 0 ∧ (∀ t k, t < tT c → k ≤ tK c → V t k ≤ V (t + 1) k) ∧ (∀ t k, t ≤ tT c → k < tK c → V t k ≤ V t (k + 1)) ∧
    ∀ s k, OkS c s → k < tK c → V s.a.toNat k + sumW (ownW c.pas) s 0 c.pas ≤ V (s.b + 1).toNat (k + 1) := by
  unfold goodLab rowOk strOk step1 step2
  simp only [Bool.and_eq_true, decide_eq_true_eq, List.all_eq_true, List.mem_range, Bool.or_eq_true]
  constructor
  · rintro ⟨⟨h1, h2⟩, h3⟩
    refine ⟨h1, fun t k ht hk => ?_, fun t k ht hk => ?_, fun s k hs hk => ?_⟩
    · have := (h2 (t + 1) (by omega) k (by omega)).1
      rw [Nat.add_sub_cancel] at this
      omega
    · have := (h2 t (by omega) (k + 1) (by omega)).2
      rw [Nat.add_sub_cancel] at this
      omega
    · exact h3 s ((okS_allStr c s (tT c) (by omega)).2 ⟨hs, by have := hs.2.2.1; omega⟩) k hk
  · rintro ⟨h1, h2, h3, h4⟩
    refine ⟨⟨h1, fun t ht k hk => ⟨?_, ?_⟩⟩, fun s hs k hk => h4 s k ((okS_allStr c s (tT c) (by omega)).1 hs).1 hk⟩
    · rcases Nat.eq_zero_or_pos t with h0 | h0
      · exact .inl h0
      · right
        have := h2 (t - 1) k (by omega) (by omega)
        rwa [Nat.sub_add_cancel h0] at this
    · rcases Nat.eq_zero_or_pos k with h0 | h0
      · exact .inl h0
      · right
        have := h3 t (k - 1) (by omega) (by omega)
        rwa [Nat.sub_add_cancel h0] at this
theorem goodLab_up {c : Cyl} (h : c.turns = (tT c : Int)) {V : Nat → Nat → Int} (hg : goodLab c V = true) : IsUp c (ownW c.pas) (tT c) (tK c) V := by
  obtain ⟨h1, h2, h3, h4⟩ := (goodLab_iff c h V).1 hg
  refine ⟨by omega, h2, h3, fun t k s ht hk hs hb => ?_⟩
  have := h4 s k hs hk
  rwa [hb, show ((t : Int) + 1).toNat = t + 1 by omega] at this
theorem tab_good {c : Cyl} (h : checkCyl c = 0) {V : Nat → Nat → Int} (hV : IsTab c (ownW c.pas) (tT c) (tK c) V) : goodLab c V = true := by
  have hT := (cyl_nat h).1
  have hu := hV.up
  refine (goodLab_iff c hT V).2 ⟨hV.zero 0 (by omega), hu.keep, hu.more, fun s k hs hk => ?_⟩
  have h1 := hs.2.2.1
  have h0 := hs.1
  have h2 := hs.2.1
  have := hu.ext s.b.toNat k s (by omega) hk hs (by omega)
  rwa [show (s.b + 1).toNat = s.b.toNat + 1 by omega]

theorem any_badRange {l : List Int} (h : badRange l = false) : ∀ x ∈ l, 0 ≤ x ∧ x ≤ 1099511627776 := by
  intro x hx
  unfold badRange at h
  simp only [Bool.or_eq_false_iff, List.any_eq_false, decide_eq_true_eq] at h
  exact ⟨by have := h.1 x hx; omega, by have := h.2 x hx; omega⟩
theorem labAt_fit {l : List Int} {K t k T : Nat} (h : badRange l = false) (hl : l.length = (T + 1) * (K + 1)) (ht : t ≤ T) (hk : k ≤ K) : 0 ≤ labAt l K t k ∧ labAt l K t k ≤ 1099511627776 ∧ t * (K + 1) + k < l.length ∧ l[t * (K + 1) + k]? = some (labAt l K t k) := by
  have h1 : t * (K + 1) ≤ T * (K + 1) := Nat.mul_le_mul_right _ ht
  have h2 : (T + 1) * (K + 1) = T * (K + 1) + (K + 1) := by rw [Nat.add_mul]; omega
  have h3 : t * (K + 1) + k < l.length := by omega
  have h4 : l[t * (K + 1) + k]? = some (labAt l K t k) := by unfold labAt; rw [List.getElem?_eq_getElem h3]; rfl
  have := any_badRange h _ (List.mem_of_getElem? h4)
  exact ⟨this.1, this.2, h3, h4⟩
end Go.Proofs.Ythplabmbbfefeaa
