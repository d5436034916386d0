/- The lists that go on from a state: what they are, their order, how many have a pair. Nothing of the program is imported here. -/
import Derived.Test.YtjjjockfppomdaaGoB
namespace Go.Proofs.Ytjjjockfppomdaa
set_option linter.unusedVariables false

def walk (c : Cyl) : Nat → Option Nat → List Nat → Prop
  | _, _, [] => True
  | u, o, k :: r => k ∈ nextN c u o ∧ walk c (onN c u k) (some k) r
def usedF (c : Cyl) (u : Nat) (l : List Nat) : Nat := l.foldl (onN c) u
def lastF (o : Option Nat) (l : List Nat) : Option Nat := l.foldl (fun _ k => some k) o
theorem mem_goOn {c : Cyl} : ∀ {f u : Nat} {o : Option Nat} {l : List Nat}, l ∈ goOn c f u o ↔ l.length = f ∧ walk c u o l
  | 0, u, o, l => by
    rw [goOn, List.mem_singleton]
    constructor
    · rintro rfl; exact ⟨rfl, trivial⟩
    · intro h; exact List.length_eq_zero_iff.1 h.1
  | f + 1, u, o, l => by
    rw [goOn, List.mem_flatMap]
    constructor
    · rintro ⟨k, hk, hl⟩
      obtain ⟨r, hr, rfl⟩ := List.mem_map.1 hl
      obtain ⟨h1, h2⟩ := mem_goOn.1 hr
      exact ⟨by simp [h1], hk, h2⟩
    · rintro ⟨h1, h2⟩
      cases l with
      | nil => simp at h1
      | cons k r =>
        exact ⟨k, h2.1, List.mem_map.2 ⟨r, mem_goOn.2 ⟨by simpa using h1, h2.2⟩, rfl⟩⟩
theorem walk_append {c : Cyl} : ∀ {a b : List Nat} {u : Nat} {o : Option Nat}, walk c u o (a ++ b) ↔ walk c u o a ∧ walk c (usedF c u a) (lastF o a) b
  | [], b, u, o => by simp [walk, usedF, lastF]
  | k :: a, b, u, o => by
    rw [List.cons_append, walk, walk, walk_append]
    simp only [usedF, lastF, List.foldl_cons, and_assoc]
theorem lastF_snoc (o : Option Nat) (l : List Nat) (k : Nat) : lastF o (l ++ [k]) = some k := by simp [lastF]
theorem usedF_snoc (c : Cyl) (u : Nat) (l : List Nat) (k : Nat) : usedF c u (l ++ [k]) = onN c (usedF c u l) k := by simp [usedF]
theorem usedF_bit (c : Cyl) (i : Nat) : ∀ (l : List Nat) (u : Nat), (usedF c u l).testBit i = (u.testBit i || l.any fun k => decide (pieceN c k = i))
  | [], u => by simp [usedF]
  | k :: r, u => by
    have := usedF_bit c i r (onN c u k)
    simp only [usedF, List.foldl_cons] at this ⊢
    rw [this, testBit_on, List.any_cons, Bool.or_assoc]
theorem walk_lt {c : Cyl} : ∀ {l : List Nat} {u : Nat} {o : Option Nat}, walk c u o l → ∀ k ∈ l, k < (stepsOf c).length
  | [], _, _, _, k, hk => by cases hk
  | j :: r, u, o, h, k, hk => by
    rcases List.mem_cons.1 hk with rfl | hk
    · exact (mem_next.1 h.1).1
    · exact walk_lt h.2 k hk
theorem walk_free {c : Cyl} : ∀ {l : List Nat} {u : Nat} {o : Option Nat}, walk c u o l → ∀ k ∈ l, u.testBit (pieceN c k) = false
  | [], _, _, _, k, hk => by cases hk
  | j :: r, u, o, h, k, hk => by
    rcases List.mem_cons.1 hk with rfl | hk
    · exact canGo_free (mem_next.1 h.1).2
    · have := walk_free h.2 k hk
      rw [testBit_on] at this
      exact (Bool.or_eq_false_iff.1 this).1
theorem walk_pieces {c : Cyl} : ∀ {l : List Nat} {u : Nat} {o : Option Nat}, walk c u o l → (l.map (pieceN c)).Nodup
  | [], _, _, _ => List.nodup_nil
  | j :: r, u, o, h => by
    rw [List.map_cons, List.nodup_cons]
    refine ⟨fun hj => ?_, walk_pieces h.2⟩
    obtain ⟨k, hk, he⟩ := List.mem_map.1 hj
    have := walk_free h.2 k hk
    rw [testBit_on, he] at this
    simp at this
theorem nodup_of_map {α β : Type} {f : α → β} {l : List α} (h : (l.map f).Nodup) : l.Nodup := by
  rw [List.Nodup, List.pairwise_map] at h
  exact h.imp fun hne e => hne (by rw [e])
theorem walk_nodup {c : Cyl} {l : List Nat} {u : Nat} {o : Option Nat} (h : walk c u o l) : l.Nodup := nodup_of_map (walk_pieces h)
theorem walk_cnt {c : Cyl} : ∀ {l : List Nat} {u : Nat} {o : Option Nat}, walk c u o l → cnt c.pcs.length (usedF c u l) = cnt c.pcs.length u + l.length
  | [], _, _, _ => rfl
  | j :: r, u, o, h => by
    have := walk_cnt h.2
    obtain ⟨h1, h2⟩ := mem_next.1 h.1
    rw [cnt_on h1 (canGo_free h2)] at this
    simp only [usedF, List.foldl_cons, List.length_cons] at this ⊢
    omega
theorem walk_used {c : Cyl} : ∀ {l : List Nat} {u : Nat} {o : Option Nat}, walk c u o l → u < 2 ^ c.pcs.length → usedF c u l < 2 ^ c.pcs.length
  | [], _, _, _, h => h
  | j :: r, u, o, h, hu => by
    obtain ⟨h1, h2⟩ := mem_next.1 h.1
    have := walk_used h.2 (on_lt hu h1)
    simpa only [usedF, List.foldl_cons] using this

/-! ### the order -/
def lexLt : List Nat → List Nat → Prop
  | a :: r, b :: s => a < b ∨ (a = b ∧ lexLt r s)
  | _, _ => False
theorem lexLt_irrefl : ∀ l, ¬ lexLt l l
  | [], h => h
  | a :: r, h => by rcases h with h | h; exact Nat.lt_irrefl _ h; exact lexLt_irrefl r h.2
theorem lexLt_asymm : ∀ {l m : List Nat}, lexLt l m → ¬ lexLt m l
  | [], _, h, _ => h
  | _ :: _, [], h, _ => h
  | a :: r, b :: s, h, h' => by
    rcases h with h | ⟨rfl, h⟩ <;> rcases h' with h' | ⟨h1, h'⟩
    · omega
    · omega
    · omega
    · exact lexLt_asymm h h'
theorem nextN_sorted (c : Cyl) (u : Nat) (o : Option Nat) : (nextN c u o).Pairwise (· < ·) := List.pairwise_lt_range.filter _
theorem goOn_sorted (c : Cyl) : ∀ (f u : Nat) (o : Option Nat), (goOn c f u o).Pairwise lexLt
  | 0, _, _ => by rw [goOn]; exact List.pairwise_singleton _ _
  | f + 1, u, o => by
    rw [goOn, List.pairwise_flatMap]
    refine ⟨fun k hk => ?_, (nextN_sorted c u o).imp fun hab x hx y hy => ?_⟩
    · rw [List.pairwise_map]
      exact (goOn_sorted c f _ _).imp fun h => .inr ⟨rfl, h⟩
    · obtain ⟨x', _, rfl⟩ := List.mem_map.1 hx
      obtain ⟨y', _, rfl⟩ := List.mem_map.1 hy
      exact .inl hab
theorem sorted_nodup {l : List (List Nat)} (h : l.Pairwise lexLt) : l.Nodup := h.imp fun h e => by subst e; exact lexLt_irrefl _ h
theorem goOn_nodup (c : Cyl) (f u : Nat) (o : Option Nat) : (goOn c f u o).Nodup := sorted_nodup (goOn_sorted c f u o)
theorem joins_sorted (c : Cyl) : (joinsN c).Pairwise lexLt := goOn_sorted c _ _ _
theorem joins_nodup (c : Cyl) : (joinsN c).Nodup := goOn_nodup c _ _ _
theorem mem_joins {c : Cyl} {l : List Nat} : l ∈ joinsN c ↔ l.length = c.pcs.length ∧ walk c 0 none l := mem_goOn

/-- the lists one longer, each made longer at its end -/
theorem goOn_snoc (c : Cyl) : ∀ (f u : Nat) (o : Option Nat), goOn c (f + 1) u o = (goOn c f u o).flatMap fun l => (nextN c (usedF c u l) (lastF o l)).map fun k => l ++ [k]
  | 0, u, o => by
    simp only [goOn, List.map_cons, List.map_nil, List.flatMap_cons, List.flatMap_nil, List.append_nil, usedF, lastF, List.foldl_nil, List.nil_append]
    induction nextN c u o with
    | nil => rfl
    | cons k r ih => rw [List.flatMap_cons, List.map_cons, ih]; rfl
  | f + 1, u, o => by
    rw [goOn]
    conv => rhs; rw [goOn]
    rw [List.flatMap_assoc]
    congr 1
    funext k
    rw [goOn_snoc c f, List.map_flatMap, List.flatMap_map]
    congr 1
    funext l
    rw [List.map_map]
    rfl

/-! ### how many joins have a pair -/
def comeP (c : Cyl) : Nat → Nat → Nat → List (List Nat)
  | 0, _, _ => []
  | f + 1, u, i => if offN c u i = 0 then [[i]] else (prevN c (offN c u i) i).flatMap fun k => (comeP c f (offN c u i) k).map (· ++ [i])
theorem comeP_len (c : Cyl) : ∀ (f u i : Nat), (comeP c f u i).length = comeF c f u i
  | 0, _, _ => rfl
  | f + 1, u, i => by
    rw [comeP, comeF]
    split
    · rfl
    · rw [List.length_flatMap]
      exact sum_congr fun k _ => by rw [List.length_map, comeP_len c f]
theorem usedF_zero {c : Cyl} {l : List Nat} (h : usedF c 0 l = 0) : l = [] := by
  cases l with
  | nil => rfl
  | cons k r =>
    have := usedF_bit c (pieceN c k) (k :: r) 0
    rw [h] at this
    simp at this
theorem mem_comeP {c : Cyl} : ∀ {f u i : Nat}, u < 2 ^ c.pcs.length → i < (stepsOf c).length → u.testBit (pieceN c i) = true → cnt c.pcs.length u = f → ∀ {l : List Nat}, l ∈ comeP c f u i ↔ ∃ p, l = p ++ [i] ∧ walk c 0 none l ∧ usedF c 0 l = u
  | 0, u, i, hu, hi, hb, hf, l => by
    have := cnt_pos hb _ (pieceN_lt hi)
    omega
  | f + 1, u, i, hu, hi, hb, hf, l => by
    have hc := cnt_off hi hb
    rw [comeP]
    constructor
    · intro h
      split at h
      · rename_i h0
        rw [List.mem_singleton] at h
        subst h
        refine ⟨[], rfl, ⟨mem_next.2 ⟨hi, by simp [canGo]⟩, trivial⟩, ?_⟩
        show onN c 0 i = u
        rw [← h0, on_off hb]
      · obtain ⟨k, hk, hl⟩ := List.mem_flatMap.1 h
        obtain ⟨q, hq, rfl⟩ := List.mem_map.1 hl
        obtain ⟨k1, k2, k3⟩ := mem_prev.1 hk
        obtain ⟨p, rfl, h1, h2⟩ := (mem_comeP (off_lt hu) k1 k2 (by omega)).1 hq
        refine ⟨_, rfl, walk_append.2 ⟨h1, ?_, trivial⟩, ?_⟩
        · rw [h2, lastF_snoc, mem_next]
          refine ⟨hi, ?_⟩
          simp only [canGo, off_le_bit, Bool.not_false, Bool.true_and]
          exact k3
        · rw [usedF_snoc, h2, on_off hb]
    · rintro ⟨p, rfl, h1, h2⟩
      obtain ⟨h3, h4, -⟩ := walk_append.1 h1
      rw [usedF_snoc] at h2
      obtain ⟨h5, h6⟩ := mem_next.1 h4
      have h7 : usedF c 0 p = offN c u i := by rw [← h2, off_on (canGo_free h6)]
      split
      · rename_i h0
        rw [h0] at h7
        rw [usedF_zero h7, List.nil_append]
        exact List.mem_singleton.2 rfl
      · rename_i h0
        rcases List.eq_nil_or_concat p with rfl | ⟨p', k, rfl⟩
        · exact absurd h7.symm h0
        · rw [List.concat_eq_append] at *
          have hk : k < (stepsOf c).length := walk_lt h3 k (by simp)
          rw [lastF_snoc] at h6
          have hfit : fitN c k i = true := by
            simp only [canGo, Bool.and_eq_true] at h6
            exact h6.2
          have hbk : (offN c u i).testBit (pieceN c k) = true := by
            rw [← h7, usedF_bit]; simp
          refine List.mem_flatMap.2 ⟨k, mem_prev.2 ⟨hk, hbk, hfit⟩, List.mem_map.2 ⟨_, (mem_comeP (off_lt hu) hk hbk (by omega)).2 ⟨p', rfl, h3, h7⟩, rfl⟩⟩
theorem comeP_nodup {c : Cyl} : ∀ (f u i : Nat), (∀ k ∈ prevN c u i, True) → (comeP c f u i).Nodup
  | 0, _, _, _ => List.nodup_nil
  | f + 1, u, i, _ => by
    rw [comeP]
    split
    · exact List.pairwise_singleton _ _
    · rw [List.Nodup, List.pairwise_flatMap]
      refine ⟨fun k hk => ?_, ?_⟩
      · rw [List.pairwise_map]
        exact (comeP_nodup f _ _ fun _ _ => trivial).imp fun h e => h (List.append_cancel_right e)
      · have hs : (prevN c (offN c u i) i).Pairwise (· < ·) := List.pairwise_lt_range.filter _
        refine hs.imp fun hab x hx y hy e => ?_
        obtain ⟨x', hx', rfl⟩ := List.mem_map.1 hx
        obtain ⟨y', hy', rfl⟩ := List.mem_map.1 hy
        have e := List.append_cancel_right e
        subst e
        have key : ∀ (f u i : Nat) (l : List Nat), l ∈ comeP c f u i → lastF none l = some i := by
          intro f
          cases f with
          | zero => intro u i l hl; simp [comeP] at hl
          | succ f =>
            intro u i l hl
            rw [comeP] at hl
            split at hl
            · rw [List.mem_singleton.1 hl]; rfl
            · obtain ⟨k, _, hk⟩ := List.mem_flatMap.1 hl
              obtain ⟨q, _, rfl⟩ := List.mem_map.1 hk
              exact lastF_snoc _ _ _
        have e1 := key _ _ _ _ hx'
        rw [key _ _ _ _ hy'] at e1
        injection e1 with e1
        omega
/-- a list has a pair -/
def hasN (i k : Nat) : List Nat → Bool
  | [] => false
  | [_] => false
  | a :: b :: r => (a == i && b == k) || hasN i k (b :: r)
theorem hasN_iff {i k : Nat} : ∀ {l : List Nat}, hasN i k l = true ↔ ∃ a b, l = a ++ i :: k :: b
  | [] => by simp [hasN]
  | [x] => by
    simp only [hasN, Bool.false_eq_true, false_iff]
    rintro ⟨a, b, h⟩
    have := congrArg List.length h
    simp at this
    omega
  | x :: y :: r => by
    rw [hasN, Bool.or_eq_true, hasN_iff]
    constructor
    · rintro (h | ⟨a, b, h⟩)
      · simp only [Bool.and_eq_true, beq_iff_eq] at h
        exact ⟨[], r, by rw [h.1, h.2]; rfl⟩
      · exact ⟨x :: a, b, by rw [h]; rfl⟩
    · rintro ⟨a, b, h⟩
      cases a with
      | nil =>
        simp only [List.nil_append, List.cons.injEq] at h
        exact .inl (by simp [h.1, h.2.1])
      | cons z a =>
        simp only [List.cons_append, List.cons.injEq] at h
        exact .inr ⟨a, b, h.2⟩
def pairL (c : Cyl) (i k u : Nat) : List (List Nat) :=
  if u.testBit (pieceN c i) = true ∧ k ∈ nextN c u (some i) then (comeP c (cnt c.pcs.length u) u i).flatMap fun p => (goOn c (c.pcs.length - cnt c.pcs.length (onN c u k)) (onN c u k) (some k)).map fun s => p ++ k :: s else []
theorem pairL_len (c : Cyl) (i k u : Nat) : (pairL c i k u).length = termN c i k u := by
  unfold pairL termN
  split
  · rw [List.length_flatMap]
    have h : ∀ (l : List (List Nat)) (m : Nat), (l.map fun p => m).sum = l.length * m := by
      intro l m
      induction l with
      | nil => simp
      | cons x r ih => rw [List.map_cons, List.sum_cons, ih, List.length_cons, Nat.succ_mul]; omega
    have h2 : ((comeP c (cnt c.pcs.length u) u i).map fun p => ((goOn c (c.pcs.length - cnt c.pcs.length (onN c u k)) (onN c u k) (some k)).map fun s => p ++ k :: s).length) = (comeP c (cnt c.pcs.length u) u i).map fun _ => leftN c (onN c u k) (some k) :=
      List.map_congr_left fun p _ => by rw [List.length_map]; rfl
    rw [h2, h, comeP_len]
    rfl
  · rfl
theorem mem_pairL {c : Cyl} {i k u : Nat} (hu : u < 2 ^ c.pcs.length) (hi : i < (stepsOf c).length) {l : List Nat} : l ∈ pairL c i k u ↔ ∃ p s, l = (p ++ [i]) ++ k :: s ∧ l ∈ joinsN c ∧ usedF c 0 (p ++ [i]) = u := by
  unfold pairL
  constructor
  · intro h
    split at h
    · rename_i hc
      obtain ⟨q, hq, hl⟩ := List.mem_flatMap.1 h
      obtain ⟨s, hs, rfl⟩ := List.mem_map.1 hl
      obtain ⟨p, rfl, h1, h2⟩ := (mem_comeP hu hi hc.1 rfl).1 hq
      obtain ⟨h3, h4⟩ := mem_goOn.1 hs
      obtain ⟨h5, h6⟩ := mem_next.1 hc.2
      have h7 := walk_cnt h1
      rw [h2, cnt_zero] at h7
      have h8 := cnt_on h5 (canGo_free h6)
      have h9 := cnt_le (onN c u k) c.pcs.length
      refine ⟨p, s, rfl, mem_joins.2 ⟨?_, walk_append.2 ⟨h1, ?_⟩⟩, h2⟩
      · rw [List.length_append, List.length_cons, h3]
        omega
      · rw [h2, lastF_snoc]
        exact ⟨hc.2, h4⟩
    · cases h
  · rintro ⟨p, s, rfl, hj, h2⟩
    obtain ⟨h3, h4⟩ := mem_joins.1 hj
    obtain ⟨h5, h6⟩ := walk_append.1 h4
    rw [h2, lastF_snoc] at h6
    have hb : u.testBit (pieceN c i) = true := by rw [← h2, usedF_bit]; simp
    rw [if_pos ⟨hb, h6.1⟩]
    refine List.mem_flatMap.2 ⟨_, (mem_comeP hu hi hb rfl).2 ⟨p, rfl, h5, h2⟩, List.mem_map.2 ⟨s, mem_goOn.2 ⟨?_, h6.2⟩, rfl⟩⟩
    have h7 := walk_cnt h5
    rw [h2, cnt_zero] at h7
    obtain ⟨h8, h9⟩ := mem_next.1 h6.1
    have h10 := cnt_on h8 (canGo_free h9)
    rw [List.length_append, List.length_cons] at h3
    omega
def allPairL (c : Cyl) (i k : Nat) : List (List Nat) := (List.range (2 ^ c.pcs.length)).flatMap (pairL c i k)
theorem allPairL_len (c : Cyl) (i k : Nat) : (allPairL c i k).length = pairN c i k := by
  unfold allPairL pairN
  rw [List.length_flatMap]
  induction 2 ^ c.pcs.length with
  | zero => rfl
  | succ n ih => rw [List.range_succ, List.map_append, List.sum_append, ih, pairsTo]; simp [pairL_len]
theorem split_once {l p s p' s' : List Nat} {k : Nat} (hn : l.Nodup) (h : l = p ++ k :: s) (h' : l = p' ++ k :: s') : p = p' ∧ s = s' := by
  have key : ∀ {p p' s s' : List Nat}, (p ++ k :: s).Nodup → p ++ k :: s = p' ++ k :: s' → p = p' := by
    intro p
    induction p with
    | nil =>
      intro p' s s' hn he
      cases p' with
      | nil => rfl
      | cons x r =>
        simp only [List.nil_append, List.cons_append, List.cons.injEq] at he
        obtain ⟨rfl, he⟩ := he
        rw [he] at hn
        simp at hn
    | cons x r ih =>
      intro p' s s' hn he
      cases p' with
      | nil =>
        simp only [List.nil_append, List.cons_append, List.cons.injEq] at he
        obtain ⟨rfl, he⟩ := he
        simp at hn
      | cons y r' =>
        simp only [List.cons_append, List.cons.injEq] at he
        obtain ⟨rfl, he⟩ := he
        rw [List.cons_append, List.nodup_cons] at hn
        rw [ih hn.2 he]
  have e := key (h ▸ hn) (h ▸ h')
  subst e
  rw [h] at h'
  have := List.append_cancel_left h'
  simp only [List.cons.injEq, true_and] at this
  exact ⟨rfl, this⟩
theorem pairL_nodup {c : Cyl} {i k u : Nat} (hu : u < 2 ^ c.pcs.length) (hi : i < (stepsOf c).length) : (pairL c i k u).Nodup := by
  have hall : ∀ l ∈ pairL c i k u, l.Nodup := fun l hl => by
    obtain ⟨p, s, _, hj, _⟩ := (mem_pairL hu hi).1 hl
    exact walk_nodup (mem_joins.1 hj).2
  unfold pairL at hall ⊢
  split
  · rename_i hc
    rw [if_pos hc] at hall
    rw [List.Nodup, List.pairwise_flatMap]
    refine ⟨fun p hp => ?_, ?_⟩
    · rw [List.pairwise_map]
      refine List.Pairwise.imp (fun h e => h ?_) (goOn_nodup c _ _ _)
      have := List.append_cancel_left e
      simpa using this
    · refine List.Pairwise.imp_of_mem (fun {p p'} hp hp' h x hx y hy e => h ?_) (comeP_nodup (c := c) (cnt c.pcs.length u) u i fun _ _ => trivial)
      subst e
      obtain ⟨s, _, hs⟩ := List.mem_map.1 hx
      obtain ⟨s', _, hs'⟩ := List.mem_map.1 hy
      exact (split_once (hall x (List.mem_flatMap.2 ⟨p, hp, hx⟩)) hs.symm hs'.symm).1
  · exact List.nodup_nil
theorem allPairL_nodup {c : Cyl} {i k : Nat} (hi : i < (stepsOf c).length) : (allPairL c i k).Nodup := by
  unfold allPairL
  rw [List.Nodup, List.pairwise_flatMap]
  refine ⟨fun u hu => pairL_nodup (List.mem_range.1 hu) hi, ?_⟩
  refine List.Pairwise.imp_of_mem (fun {u u'} hu hu' h x hx y hy e => ?_) List.pairwise_lt_range
  subst e
  obtain ⟨p, s, h1, hj, h2⟩ := (mem_pairL (List.mem_range.1 hu) hi).1 hx
  obtain ⟨p', s', h1', _, h2'⟩ := (mem_pairL (List.mem_range.1 hu') hi).1 hy
  have := (split_once (walk_nodup (mem_joins.1 hj).2) h1 h1').1
  rw [this, h2'] at h2
  omega
/-- pairN is how many joins have the pair -/
theorem pairN_eq {c : Cyl} {i k : Nat} (hi : i < (stepsOf c).length) : pairN c i k = ((joinsN c).filter (hasN i k)).length := by
  rw [← allPairL_len]
  refine List.Perm.length_eq ((List.perm_ext_iff_of_nodup (allPairL_nodup hi) (List.Pairwise.filter _ (joins_nodup c))).2 fun l => ?_)
  rw [List.mem_filter, hasN_iff]
  unfold allPairL
  rw [List.mem_flatMap]
  constructor
  · rintro ⟨u, hu, hl⟩
    obtain ⟨p, s, h1, h2, h3⟩ := (mem_pairL (List.mem_range.1 hu) hi).1 hl
    exact ⟨h2, p, s, by rw [h1]; simp⟩
  · rintro ⟨hj, a, b, rfl⟩
    have hw := (mem_joins.1 hj).2
    have e : a ++ i :: k :: b = (a ++ [i]) ++ k :: b := by simp
    rw [e] at hj hw ⊢
    have hu := walk_used (walk_append.1 hw).1 (Nat.two_pow_pos _)
    exact ⟨_, List.mem_range.2 hu, (mem_pairL hu hi).2 ⟨a, b, rfl, hj, rfl⟩⟩
theorem joinedN_eq {c : Cyl} {i : Nat} (hi : i < (stepsOf c).length) : joinedN c i = (joinsN c).any fun l => l.contains i := by
  rw [Bool.eq_iff_iff]
  unfold joinedN
  simp only [List.any_eq_true, List.mem_range, Bool.and_eq_true, decide_eq_true_eq, List.contains_iff_mem]
  constructor
  · rintro ⟨u, hu, hb, h1, h2⟩
    unfold comeN at h1
    rw [← comeP_len] at h1
    unfold leftN at h2
    obtain ⟨q, hq⟩ := List.exists_mem_of_length_pos h1
    obtain ⟨s, hs⟩ := List.exists_mem_of_length_pos h2
    obtain ⟨p, rfl, h3, h4⟩ := (mem_comeP hu hi hb rfl).1 hq
    obtain ⟨h5, h6⟩ := mem_goOn.1 hs
    have h7 := walk_cnt h3
    rw [h4, cnt_zero] at h7
    have h8 := cnt_le u c.pcs.length
    refine ⟨(p ++ [i]) ++ s, mem_joins.2 ⟨by rw [List.length_append, h5]; omega, walk_append.2 ⟨h3, ?_⟩⟩, by simp⟩
    rw [h4, lastF_snoc]
    exact h6
  · rintro ⟨l, hl, hi'⟩
    obtain ⟨h1, h2⟩ := mem_joins.1 hl
    obtain ⟨a, b, rfl⟩ := List.append_of_mem hi'
    have e : a ++ i :: b = (a ++ [i]) ++ b := by simp
    rw [e] at h1 h2
    obtain ⟨h3, h4⟩ := walk_append.1 h2
    rw [lastF_snoc] at h4
    have hu := walk_used h3 (Nat.two_pow_pos _)
    have hb : (usedF c 0 (a ++ [i])).testBit (pieceN c i) = true := by rw [usedF_bit]; simp
    have h7 := walk_cnt h3
    rw [cnt_zero] at h7
    refine ⟨_, hu, hb, ?_, ?_⟩
    · unfold comeN
      rw [← comeP_len]
      exact List.length_pos_of_mem ((mem_comeP hu hi hb rfl).2 ⟨a, rfl, h3, rfl⟩)
    · unfold leftN
      refine List.length_pos_of_mem (mem_goOn.2 ⟨?_, h4⟩)
      rw [List.length_append] at h1
      omega

/-! ### the number of a join -/
theorem filter_lt_prefix {l : List Nat} (h : l.Pairwise (· < ·)) {k : Nat} (hk : k ∈ l) : (l.filter fun j => decide (j < k)) ++ [k] <+: l := by
  obtain ⟨a, b, rfl⟩ := List.append_of_mem hk
  rw [List.pairwise_append] at h
  obtain ⟨h1, h2, h3⟩ := h
  rw [List.pairwise_cons] at h2
  have e1 : a.filter (fun j => decide (j < k)) = a := List.filter_eq_self.2 fun x hx => by simpa using h3 x hx k (by simp)
  have e2 : (k :: b).filter (fun j => decide (j < k)) = [] := List.filter_eq_nil_iff.2 fun x hx => by
    rcases List.mem_cons.1 hx with rfl | hx
    · simp
    · have := h2.1 x hx; simp; omega
  rw [List.filter_append, e1, e2, List.append_nil]
  exact ⟨b, by simp⟩
theorem rank_nth {c : Cyl} : ∀ {f u : Nat} {o : Option Nat} {l : List Nat}, c.pcs.length - cnt c.pcs.length u = f → l ∈ goOn c f u o → (goOn c f u o)[rankN c u o l]? = some l
  | 0, u, o, l, hf, hl => by
    rw [goOn, List.mem_singleton] at hl
    subst hl
    simp [goOn, rankN]
  | f + 1, u, o, l, hf, hl => by
    obtain ⟨h1, h2⟩ := mem_goOn.1 hl
    cases l with
    | nil => simp at h1
    | cons k r =>
      obtain ⟨h3, h4⟩ := h2
      obtain ⟨h5, h6⟩ := mem_next.1 h3
      have h7 := cnt_on h5 (canGo_free h6)
      have hr : r ∈ goOn c f (onN c u k) (some k) := mem_goOn.2 ⟨by simpa using h1, h4⟩
      have ih := rank_nth (c := c) (f := f) (by omega) hr
      have hlt := (List.getElem?_eq_some_iff.1 ih).1
      have hp := filter_lt_prefix (nextN_sorted c u o) h3
      have hll := left_len hf h3
      rw [rankN]
      have hh := nth_hit (r := sumL c u ((nextN c u o).filter fun j => decide (j < k)) + rankN c (onN c u k) (some k) r) hf hp (by omega) (by omega)
      rw [Nat.add_sub_cancel_left, ih] at hh
      exact hh
theorem rank_join {c : Cyl} {l : List Nat} (h : l ∈ joinsN c) : (joinsN c)[rankN c 0 none l]? = some l := rank_nth (by rw [cnt_zero]; rfl) h
theorem rank_le {c : Cyl} (h8 : c.pcs.length ≤ 8) : ∀ (u : Nat) (o : Option Nat) (l : List Nat), rankN c u o l ≤ l.length * 68719476736
  | _, _, [] => by simp [rankN]
  | u, o, k :: r => by
    have ih := rank_le h8 (onN c u k) (some k) r
    have h1 : (((nextN c u o).filter fun j => decide (j < k)).map fun j => leftN c (onN c u j) (some j)).sum ≤ ((nextN c u o).filter fun j => decide (j < k)).length * 4294967296 := sum_le fun j _ => left_small h8 _ _
    have h2 : ((nextN c u o).filter fun j => decide (j < k)).length ≤ 16 := Nat.le_trans (List.length_filter_le _ _) (Nat.le_trans (next_len c u o) (steps_le c h8))
    rw [rankN, List.length_cons, Nat.succ_mul]
    omega
end Go.Proofs.Ytjjjockfppomdaa
