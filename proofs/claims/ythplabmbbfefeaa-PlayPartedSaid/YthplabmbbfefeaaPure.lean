/- Plain data and plain functions for the layer of playings: nothing of the program is imported here. -/
namespace Go.Proofs.Ythplabmbbfefeaa
set_option linter.unusedVariables false

/-- where the first element lies of which p holds, counted from i on; -1 if there is none -/
def idxOf {α : Type} (p : α → Bool) : Nat → List α → Int
  | _, [] => -1
  | i, x :: r => if p x then (i : Int) else idxOf p (i + 1) r

theorem idxOf_nonneg {α : Type} (p : α → Bool) (l : List α) : ∀ i, decide (0 ≤ idxOf p i l) = l.any p := by
  induction l with
  | nil => intro i; simp [idxOf]
  | cons x r ih =>
    intro i
    unfold idxOf
    by_cases h : p x = true
    · simp [h]
    · simp only [h]; simp [h, ih (i + 1)]

theorem idxOf_drop {α : Type} (p : α → Bool) (l : List α) (k : Nat) (x : α) (h : l[k]? = some x) :
    idxOf p k (l.drop k) = if p x then (k : Int) else idxOf p (k + 1) (l.drop (k + 1)) := by
  obtain ⟨hk, hx⟩ := List.getElem?_eq_some_iff.1 h
  rw [List.drop_eq_getElem_cons hk, hx]
  rfl

structure Pas where
  a : Int
  b : Int
  w : Int
  deriving Inhabited, DecidableEq
structure Str where
  a : Int
  b : Int
  deriving Inhabited, DecidableEq
structure Cyl where
  turns : Int
  long : Int
  plays : Int
  frag : List Int
  pas : List Pas

def inR (lo hi x : Int) : Bool := decide (lo ≤ x) && decide (x ≤ hi)

def fragOk (T : Int) : Int → List Int → Bool
  | _, [] => true
  | last, t :: r => (decide (last < t) && decide (t < T)) && fragOk T t r

def pasOk (T : Int) (p : Pas) : Bool := (((decide (0 ≤ p.a) && decide (p.a ≤ p.b)) && decide (p.b < T)) && decide (0 ≤ p.w)) && decide (p.w ≤ 1000)

def argOk (c : Cyl) : Bool := ((((decide (1 ≤ c.turns) && decide (c.turns ≤ 30)) && decide (1 ≤ c.long)) && decide (c.long ≤ c.turns)) && decide (0 ≤ c.plays)) && decide (c.plays ≤ 6)

def checkCyl (c : Cyl) : Int :=
  if argOk c = false then 2 else if fragOk c.turns (-1) c.frag = false then 16 else if 12 < c.pas.length then 6 else if c.pas.all (pasOk c.turns) = false then 3 else 0

def worn (c : Cyl) (a b : Int) : Bool := c.frag.any fun t => decide (a ≤ t) && decide (t ≤ b)

def planGo (c : Cyl) : Int → List Str → Int
  | _, [] => 0
  | last, s :: r =>
    if (inR 0 (c.turns - 1) s.a && inR 0 (c.turns - 1) s.b && decide (s.a ≤ s.b)) = false then 3
    else if c.long ≤ s.b - s.a then 2
    else if s.a ≤ last then 22
    else if worn c s.a s.b = true then 22
    else planGo c s.b r

def checkPlan (c : Cyl) (plan : List Str) : Int :=
  if checkCyl c ≠ 0 then checkCyl c else if c.plays < plan.length then 6 else planGo c (-1) plan

def hasP (s : Str) (p : Pas) : Bool := decide (s.a ≤ p.a) && decide (p.b ≤ s.b)
def saved (plan : List Str) (p : Pas) : Bool := plan.any fun s => hasP s p

/-- the numbers of the passages that are saved, from number i on, and their worth -/
def savesGo (plan : List Str) : Nat → List Pas → List Int × Int
  | _, [] => ([], 0)
  | i, p :: r => let q := savesGo plan (i + 1) r; if saved plan p then ((i : Int) :: q.1, p.w + q.2) else q
def saves (c : Cyl) (plan : List Str) : List Int × Int × Int :=
  if checkPlan c plan ≠ 0 then ([], 0, checkPlan c plan) else ((savesGo plan 0 c.pas).1, (savesGo plan 0 c.pas).2, 0)

theorem savesGo_drop (plan : List Str) (l : List Pas) (k : Nat) (p : Pas) (h : l[k]? = some p) :
    savesGo plan k (l.drop k) = let q := savesGo plan (k + 1) (l.drop (k + 1)); if saved plan p then ((k : Int) :: q.1, p.w + q.2) else q := by
  obtain ⟨hk, hx⟩ := List.getElem?_eq_some_iff.1 h
  rw [List.drop_eq_getElem_cons hk, hx]
  rfl

/-- what a stretch saves, if passage i is worth ws i -/
def sumW (ws : Nat → Int) (s : Str) : Nat → List Pas → Int
  | _, [] => 0
  | i, p :: r => (if hasP s p then ws i else 0) + sumW ws s (i + 1) r

theorem sumW_drop (ws : Nat → Int) (s : Str) (l : List Pas) (k : Nat) (p : Pas) (h : l[k]? = some p) :
    sumW ws s k (l.drop k) = (if hasP s p then ws k else 0) + sumW ws s (k + 1) (l.drop (k + 1)) := by
  obtain ⟨hk, hx⟩ := List.getElem?_eq_some_iff.1 h
  rw [List.drop_eq_getElem_cons hk, hx]
  rfl

theorem sumW_bound (ws : Nat → Int) (M : Int) (hM : 0 ≤ M) (hw : ∀ i, -M ≤ ws i ∧ ws i ≤ M) (s : Str) : ∀ (l : List Pas) (i : Nat), -(M * l.length) ≤ sumW ws s i l ∧ sumW ws s i l ≤ M * l.length
  | [], i => by simp [sumW]
  | p :: r, i => by
    have ih := sumW_bound ws M hM hw s r (i + 1)
    have h := hw i
    have e : M * ((p :: r).length : Int) = M * (r.length : Int) + M := by
      rw [List.length_cons, Int.natCast_add, Int.mul_add]; simp
    rw [e]
    unfold sumW
    split <;> omega

/-- a choice: a stretch (from -1: none), and a worth -/
structure Cho where
  s : Str
  x : Int
  deriving Inhabited

def greater (out : Cho) (y : Cho) : Cho := if out.x < y.x then y else out

/-- the first one of the greatest -/
def pick : List Cho → Cho
  | [] => ⟨⟨0, 0⟩, 0⟩
  | y :: r => r.foldl greater y

/-- the stretches that end at turn t and begin before turn n, the last ones first, down to the first one that is not a stretch -/
def strFrom (c : Cyl) (t : Nat) : Nat → List Str
  | 0 => []
  | n + 1 => if (decide ((t : Int) - n < c.long) && !(c.frag.any fun x => (n : Int) == x)) = true then ⟨n, t⟩ :: strFrom c t n else []

/-- all stretches whose last turn is before turn t -/
def allStr (c : Cyl) : Nat → List Str
  | 0 => []
  | t + 1 => allStr c t ++ strFrom c t (t + 1)

theorem allStr_prefix (c : Cyl) (t : Nat) : ∀ d, allStr c t <+: allStr c (t + d)
  | 0 => List.prefix_refl _
  | d + 1 => (allStr_prefix c t d).trans (List.prefix_append _ _)
theorem allStr_le (c : Cyl) {t u : Nat} (h : t ≤ u) : allStr c t <+: allStr c u := by
  have := allStr_prefix c t (u - t)
  rwa [show t + (u - t) = u by omega] at this

theorem strFrom_len (c : Cyl) (t : Nat) : ∀ n, (strFrom c t n).length ≤ n
  | 0 => by simp [strFrom]
  | n + 1 => by
    unfold strFrom
    split
    · have := strFrom_len c t n
      simp; omega
    · simp
theorem allStr_len (c : Cyl) : ∀ t, t ≤ 30 → (allStr c t).length ≤ 31 * t
  | 0, _ => by simp [allStr]
  | t + 1, h => by
    have h1 := allStr_len c t (by omega)
    have h2 := strFrom_len c t (t + 1)
    unfold allStr
    simp
    omega

/-- a stretch that lies within the first T turns -/
abbrev VStr (T : Nat) := { s : Str // 0 ≤ s.a ∧ s.a ≤ s.b ∧ s.b < (T : Int) }

/-- the stretches among these that end just before turn i, with what they save -/
def endsOf (ws : Nat → Int) (pas : List Pas) (pre : List Str) (i : Nat) : List Cho :=
  (pre.filter fun s => decide (s.b + 1 = (i : Int))).map fun s => ⟨s, sumW ws s 0 pas⟩

theorem endsOf_snoc (ws : Nat → Int) (pas : List Pas) (pre : List Str) (x : Str) (i j : Nat) (hi : x.b + 1 = (i : Int)) :
    endsOf ws pas (pre ++ [x]) j = if j = i then endsOf ws pas pre i ++ [⟨x, sumW ws x 0 pas⟩] else endsOf ws pas pre j := by
  unfold endsOf
  rw [List.filter_append, List.map_append]
  by_cases h : j = i
  · subst h
    simp [hi]
  · rw [if_neg h]
    have : ¬ (x.b + 1 = (j : Int)) := by omega
    simp [this]
theorem endsOf_len (ws : Nat → Int) (pas : List Pas) (pre : List Str) (i : Nat) : (endsOf ws pas pre i).length ≤ pre.length := by
  unfold endsOf
  rw [List.length_map]
  exact List.length_filter_le _ _
end Go.Proofs.Ythplabmbbfefeaa
