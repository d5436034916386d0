/- A cylinder whose pieces have other numbers, and whose places lie elsewhere. Plain. -/
import Derived.Test.YtjjjockfppomdaaRev
namespace Go.Proofs.Ytjjjockfppomdaa
set_option linter.unusedVariables false

theorem rot_eq {x b k : Nat} (hx : x < k) : (x + b) % k = if x + b % k < k then x + b % k else x + b % k - k := by
  have hb : b % k < k := Nat.mod_lt _ (by omega)
  rw [← Nat.add_mod_mod]
  by_cases h : x + b % k < k
  · rw [if_pos h, Nat.mod_eq_of_lt h]
  · rw [if_neg h, Nat.mod_eq_sub_mod (by omega), Nat.mod_eq_of_lt (by omega)]
theorem rot_inj {x y b k : Nat} (hx : x < k) (hy : y < k) (h : (x + b) % k = (y + b) % k) : x = y := by
  have hb : b % k < k := Nat.mod_lt _ (by omega)
  rw [rot_eq hx, rot_eq hy] at h
  split at h <;> split at h <;> omega
/-- back again -/
def unrot (k b : Nat) : Nat := k - b % k
theorem rot_back {x b k : Nat} (hx : x < k) : ((x + unrot k b) % k + b) % k = x := by
  have hb : b % k < k := Nat.mod_lt _ (by omega)
  have hu : unrot k b % k = if b % k = 0 then 0 else k - b % k := by
    unfold unrot
    split
    · rename_i h
      rw [h, Nat.sub_zero, Nat.mod_self]
    · rw [Nat.mod_eq_of_lt (by omega)]
  have h1 : (x + unrot k b) % k < k := Nat.mod_lt _ (by omega)
  rw [rot_eq h1, rot_eq hx, hu]
  split <;> split <;> split <;> omega
def shP (a : Int) (p : Pc) : Pc := ⟨⟨p.a.lo, p.a.hi, p.a.pl + a⟩, ⟨p.b.lo, p.b.hi, p.b.pl + a⟩, p.loose⟩
def renAt (c : Cyl) (b : Nat) (a : Int) (i : Nat) : Pc := shP a (pcAt c (((i + b) % c.pcs.length : Nat) : Int))
def ren (c : Cyl) (b : Nat) (a : Int) : Cyl := ⟨(List.range c.pcs.length).map (renAt c b a), c.off, c.slo, c.shi⟩
theorem ren_len (c : Cyl) (b : Nat) (a : Int) : (ren c b a).pcs.length = c.pcs.length := by unfold ren; simp
theorem pcAt_ren {c : Cyl} {b : Nat} {a : Int} {i : Nat} (hi : i < c.pcs.length) : pcAt (ren c b a) (i : Int) = shP a (pcAt c (((i + b) % c.pcs.length : Nat) : Int)) := by
  unfold pcAt ren
  rw [Int.toNat_natCast, List.getElem?_map, List.getElem?_range hi]
  rfl
def sg (k b : Nat) (s : St) : St := ⟨(((s.p.toNat + b) % k : Nat) : Int), s.t⟩
theorem isStep_nat {c : Cyl} {s : St} : isStep c s = true ↔ ∃ n : Nat, s.p = (n : Int) ∧ n < c.pcs.length ∧ (s.t = true → (pcAt c (n : Int)).loose = true) := by
  unfold isStep
  simp only [Bool.and_eq_true, decide_eq_true_eq, Bool.or_eq_true, Bool.not_eq_true']
  constructor
  · rintro ⟨⟨h1, h2⟩, h3⟩
    obtain ⟨n, hn⟩ := Int.eq_ofNat_of_zero_le h1
    rw [hn] at h2 h3
    refine ⟨n, hn, by omega, fun ht => ?_⟩
    rcases h3 with h3 | h3
    · rw [ht] at h3; cases h3
    · exact h3
  · rintro ⟨n, hn, h2, h3⟩
    rw [hn]
    refine ⟨⟨by omega, by omega⟩, ?_⟩
    cases ht : s.t
    · exact .inl rfl
    · exact .inr (h3 ht)
theorem sg_nat {k b n : Nat} {s : St} (h : s.p = (n : Int)) : sg k b s = ⟨(((n + b) % k : Nat) : Int), s.t⟩ := by unfold sg; rw [h, Int.toNat_natCast]
theorem step_ren {c : Cyl} {b : Nat} {a : Int} {s : St} (h : isStep (ren c b a) s = true) : isStep c (sg c.pcs.length b s) = true := by
  obtain ⟨n, h1, h2, h3⟩ := isStep_nat.1 h
  rw [ren_len] at h2
  rw [sg_nat h1]
  refine isStep_nat.2 ⟨_, rfl, Nat.mod_lt _ (by omega), fun ht => ?_⟩
  have := h3 ht
  rw [pcAt_ren h2] at this
  exact this
theorem beg_ren {c : Cyl} {b n : Nat} {a : Int} {s : St} (h : s.p = (n : Int)) (h2 : n < c.pcs.length) : beg (ren c b a) s = ⟨(beg c (sg c.pcs.length b s)).lo, (beg c (sg c.pcs.length b s)).hi, (beg c (sg c.pcs.length b s)).pl + a⟩ := by
  rw [sg_nat h]
  unfold beg
  rw [h, pcAt_ren h2]
  unfold shP
  cases s.t <;> rfl
theorem fin_ren {c : Cyl} {b n : Nat} {a : Int} {s : St} (h : s.p = (n : Int)) (h2 : n < c.pcs.length) : fin (ren c b a) s = ⟨(fin c (sg c.pcs.length b s)).lo, (fin c (sg c.pcs.length b s)).hi, (fin c (sg c.pcs.length b s)).pl + a⟩ := by
  rw [sg_nat h]
  unfold fin
  rw [h, pcAt_ren h2]
  unfold shP
  cases s.t <;> rfl
theorem fits_ren {c : Cyl} {b : Nat} {a : Int} {x y : St} (hx : isStep (ren c b a) x = true) (hy : isStep (ren c b a) y = true) : fitsS (ren c b a) x y = fitsS c (sg c.pcs.length b x) (sg c.pcs.length b y) := by
  obtain ⟨n, h1, h2, -⟩ := isStep_nat.1 hx
  obtain ⟨m, g1, g2, -⟩ := isStep_nat.1 hy
  rw [ren_len] at h2 g2
  unfold fitsS
  rw [fin_ren h1 h2, beg_ren g1 g2]
  congr 1
  · rw [sg_nat h1, sg_nat g1, h1, g1, Bool.eq_iff_iff, decide_eq_true_eq, decide_eq_true_eq]
    constructor
    · intro hne e
      have : n = m := rot_inj h2 g2 (b := b) (by simp only at e; omega)
      exact hne (by rw [this])
    · intro hne e
      exact hne (by simp only; rw [show n = m by omega])
  · unfold meets ren
    rw [Bool.eq_iff_iff]
    simp only [Bool.and_eq_true, decide_eq_true_eq]
    omega
theorem good_ren {c : Cyl} {b : Nat} {a : Int} {l : List St} (h : goodL (ren c b a) l) : goodL c (l.map (sg c.pcs.length b)) := by
  obtain ⟨h1, h2, h3, h4⟩ := h
  have hst : ∀ s ∈ l, isStep (ren c b a) s = true := fun s hs => List.all_eq_true.1 h2 s hs
  refine ⟨by rw [List.length_map, h1, ren_len], ?_, ?_, ?_⟩
  · rw [List.all_eq_true]
    intro s hs
    obtain ⟨t, ht, rfl⟩ := List.mem_map.1 hs
    exact step_ren (hst t ht)
  · rw [twice_pw, List.pairwise_map]
    refine ((twice_pw l).1 h3).imp_of_mem fun {x y} hx hy hne e => hne ?_
    obtain ⟨n, h1, h2, -⟩ := isStep_nat.1 (hst x hx)
    obtain ⟨m, g1, g2, -⟩ := isStep_nat.1 (hst y hy)
    rw [ren_len] at h2 g2
    rw [sg_nat h1, sg_nat g1] at e
    rw [h1, g1, rot_inj g2 h2 (b := b) (by simp only at e; omega)]
  · rw [chain_iff] at h4 ⊢
    intro i x y hx hy
    rw [List.getElem?_map, Option.map_eq_some_iff] at hx hy
    obtain ⟨x', hx', rfl⟩ := hx
    obtain ⟨y', hy', rfl⟩ := hy
    rw [← fits_ren (hst x' (List.mem_of_getElem? hx')) (hst y' (List.mem_of_getElem? hy'))]
    exact h4 i x' y' hx' hy'
theorem joins_ren_mem {c : Cyl} {b : Nat} {a : Int} {l : List St} (h : l ∈ joinsS (ren c b a)) : l.map (sg c.pcs.length b) ∈ joinsS c := mem_joinsS.2 (good_ren (mem_joinsS.1 h))
theorem sg_inj {c : Cyl} {b : Nat} {a : Int} {x y : St} (hx : isStep (ren c b a) x = true) (hy : isStep (ren c b a) y = true) (h : sg c.pcs.length b x = sg c.pcs.length b y) : x = y := by
  obtain ⟨n, h1, h2, -⟩ := isStep_nat.1 hx
  obtain ⟨m, g1, g2, -⟩ := isStep_nat.1 hy
  rw [ren_len] at h2 g2
  rw [sg_nat h1, sg_nat g1] at h
  simp only [St.mk.injEq] at h
  obtain ⟨xp, xt⟩ := x
  obtain ⟨yp, yt⟩ := y
  simp only at h1 g1 h
  rw [h1, g1, rot_inj h2 g2 (b := b) (by omega), h.2]
theorem map_inj {α β : Type} {f : α → β} : ∀ {l m : List α}, (∀ x ∈ l, ∀ y ∈ m, f x = f y → x = y) → l.map f = m.map f → l = m
  | [], [], _, _ => rfl
  | [], _ :: _, _, h => by simp at h
  | _ :: _, [], _, h => by simp at h
  | a :: r, b :: s, hi, h => by
    rw [List.map_cons, List.map_cons, List.cons.injEq] at h
    rw [hi a (by simp) b (by simp) h.1, map_inj (fun x hx y hy => hi x (by simp [hx]) y (by simp [hy])) h.2]
theorem joins_ren_le (c : Cyl) (b : Nat) (a : Int) : (joinsS (ren c b a)).length ≤ (joinsS c).length := by
  have hn : ((joinsS (ren c b a)).map fun l => l.map (sg c.pcs.length b)).Nodup := by
    rw [List.Nodup, List.pairwise_map]
    refine (joinsS_nodup _).imp_of_mem fun {x y} hx hy hne e => hne (map_inj (fun s hs t ht => sg_inj (joinsS_step hx hs) (joinsS_step hy ht)) e)
  have := len_of_subset hn fun x hx => by
    obtain ⟨l, hl, rfl⟩ := List.mem_map.1 hx
    exact joins_ren_mem hl
  rwa [List.length_map] at this
theorem ren_ren (c : Cyl) (b : Nat) (a : Int) (hk : 0 < c.pcs.length) : ren (ren c b a) (unrot c.pcs.length b) (-a) = c := by
  have hl : (ren (ren c b a) (unrot c.pcs.length b) (-a)).pcs = c.pcs := by
    refine List.ext_getElem? fun i => ?_
    by_cases hi : i < c.pcs.length
    · have h1 : (i + unrot c.pcs.length b) % c.pcs.length < c.pcs.length := Nat.mod_lt _ hk
      show (((List.range (ren c b a).pcs.length).map (renAt (ren c b a) (unrot c.pcs.length b) (-a)))[i]?) = _
      rw [ren_len, List.getElem?_map, List.getElem?_range hi, Option.map_some]
      unfold renAt
      rw [ren_len, pcAt_ren h1, rot_back hi]
      have : pcAt c (i : Int) = c.pcs[i] := by
        unfold pcAt
        rw [Int.toNat_natCast, List.getElem?_eq_getElem hi]; rfl
      rw [this, List.getElem?_eq_getElem hi]
      congr 1
      generalize c.pcs[i] = p
      obtain ⟨⟨x, y, z⟩, ⟨x', y', z'⟩, t⟩ := p
      unfold shP
      simp only [Pc.mk.injEq, En.mk.injEq, true_and, and_true]
      omega
    · rw [List.getElem?_eq_none (by rw [ren_len, ren_len]; omega), List.getElem?_eq_none (by omega)]
  obtain ⟨pcs, off, slo, shi⟩ := c
  show Cyl.mk _ _ _ _ = _
  unfold ren at hl ⊢
  simp only at hl ⊢
  rw [hl]
theorem joins_ren_len (c : Cyl) (b : Nat) (a : Int) (hk : 0 < c.pcs.length) : (joinsS (ren c b a)).length = (joinsS c).length := by
  have h1 := joins_ren_le c b a
  have h2 := joins_ren_le (ren c b a) (unrot c.pcs.length b) (-a)
  rw [ren_ren c b a hk] at h2
  omega
end Go.Proofs.Ytjjjockfppomdaa
