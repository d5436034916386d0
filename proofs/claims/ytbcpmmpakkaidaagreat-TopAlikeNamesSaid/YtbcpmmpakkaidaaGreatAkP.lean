/- Words as names: what is alike is joined. Nothing of the program is imported here beyond the models. -/
import Derived.Test.YtbcpmmpakkaidaaGreatPdM
import Derived.Test.YtbcpmmpakkaidaaGreatPe1
import Derived.Test.YtbcpmmpakkaidaaGreatPbM
import Derived.Test.YtbcpmmpakkaidaaGreatWoA
namespace Go.Proofs.YtbcpmmpakkaidaaGreat
set_option linter.unusedVariables false
/-- links for pairs of different words -/
def lksOf (b : List (Int × Int)) : List LkI := (b.filter fun p => p.1 != p.2).map fun p => ⟨p.1, p.2, 1⟩
def nlA (b : List (Int × Int)) (x y : Int) : NL := ⟨40, lksOf b, [x], [y]⟩
theorem lksOf_len (b : List (Int × Int)) : (lksOf b).length ≤ b.length := by
  unfold lksOf
  rw [List.length_map]
  exact List.length_filter_le _ _
theorem lksOf_snoc (b : List (Int × Int)) (p : Int × Int) : lksOf (b ++ [p]) = lksOf b ++ if (p.1 != p.2) = true then [⟨p.1, p.2, 1⟩] else [] := by
  unfold lksOf
  rw [List.filter_append, List.map_append]
  congr 1
  by_cases h : (p.1 != p.2) = true <;> simp [h]
/-- what is asked of a dictionary and two words -/
structure AkIn (b : List (Int × Int)) (x y : Nat) : Prop where
  book : checkBook b = 0
  small : ∀ p ∈ b, p.1 < 40 ∧ p.2 < 40
  x1 : 1 ≤ x
  x2 : x < 40
  y1 : 1 ≤ y
  y2 : y < 40
  ne : x ≠ y
variable {b : List (Int × Int)} {x y : Nat}
theorem AkIn.pos (h : AkIn b x y) : ∀ p ∈ b, (1 ≤ p.1 ∧ p.1 < 40) ∧ (1 ≤ p.2 ∧ p.2 < 40) := fun p hp => by
  have h1 := (book_len h.book).2 p hp
  have h2 := h.small p hp
  omega
theorem AkIn.good (h : AkIn b x y) : Good (nlA b x y) := by
  have hl := (book_len h.book).1
  have hk := lksOf_len b
  have := h.x1
  have := h.x2
  have := h.y1
  have := h.y2
  have hne := h.ne
  refine ⟨by simp [nlA], by simp [nlA], by simp only [nlA]; omega, by simp [nlA], by simp [nlA], by simp [nlA], by simp [nlA], fun k hk => ?_, ?_, ?_, fun z hz hz2 => ?_⟩
  · obtain ⟨p, hp, rfl⟩ := List.mem_map.1 (show k ∈ (b.filter fun p => p.1 != p.2).map fun p => (⟨p.1, p.2, 1⟩ : LkI) from hk)
    obtain ⟨hp1, hp2⟩ := List.mem_filter.1 hp
    have h3 := h.pos p hp1
    simp only [bne_iff_ne, ne_eq] at hp2
    simp only [nlA]
    omega
  · simp only [nlA, rises, risesFrom, Bool.and_true, Bool.and_eq_true, decide_eq_true_eq]
    omega
  · simp only [nlA, rises, risesFrom, Bool.and_true, Bool.and_eq_true, decide_eq_true_eq]
    omega
  · simp only [nlA, List.mem_singleton] at hz hz2
    omega
theorem AkIn.open_ (h : AkIn b x y) : openE (nlA b x y) [] = 0 := by
  unfold openE
  rw [if_neg (by rw [check_good.2 h.good]; simp)]
  rfl
/-- what is joined by links is what is joined by pairs -/
theorem ak_pairs {p : Nat × Nat} (h : p ∈ pairsOf (nlA b x y).L []) : p ∈ nats b := by
  obtain ⟨u, v⟩ := p
  obtain ⟨i, hi, -, h3, h4⟩ := mem_pairs.1 h
  obtain ⟨k, hk, hm⟩ := NL.ex hi
  rw [NL.at_ hk] at h3 h4
  obtain ⟨q, hq, rfl⟩ := List.mem_map.1 (show k ∈ (b.filter fun p => p.1 != p.2).map fun p => (⟨p.1, p.2, 1⟩ : LkI) from hm)
  have hq := (List.mem_filter.1 hq).1
  unfold nats
  refine List.mem_map.2 ⟨q, hq, ?_⟩
  rw [← h3, ← h4]
  rfl
theorem pairs_ak {p : Nat × Nat} (h : p ∈ nats b) : p.1 = p.2 ∨ p ∈ pairsOf (nlA b x y).L [] := by
  unfold nats at h
  obtain ⟨q, hq, rfl⟩ := List.mem_map.1 h
  by_cases hne : q.1 = q.2
  · exact .inl (by rw [hne])
  · right
    have hm : (⟨q.1, q.2, 1⟩ : LkI) ∈ (nlA b x y).links := List.mem_map.2 ⟨q, List.mem_filter.2 ⟨hq, by simpa using hne⟩, rfl⟩
    obtain ⟨i, hi, he⟩ := List.getElem_of_mem hm
    have e := NL.at_ (l := nlA b x y) (List.getElem?_eq_getElem hi)
    exact mem_pairs.2 ⟨i, by rw [NL.len]; exact hi, by simp, by rw [e, he]; rfl, by rw [e, he]; rfl⟩
theorem ak_conn {u v : Nat} : Conn (pairsOf (nlA b x y).L []) u v ↔ Conn (nats b) u v := by
  constructor
  · exact fun h => h.mono fun p hp => ak_pairs hp
  · intro h
    induction h with
    | refl => exact .refl _
    | step h1 _ ih =>
      rcases h1 with h1 | h1
      · rcases pairs_ak (x := x) (y := y) h1 with h2 | h2
        · simp only at h2
          rw [h2]; exact ih
        · exact .step (.inl h2) ih
      · rcases pairs_ak (x := x) (y := y) h1 with h2 | h2
        · simp only at h2
          rw [← h2]; exact ih
        · exact .step (.inr h2) ih
/-- are they alike? -/
def akB (b : List (Int × Int)) (x y : Nat) : Bool := likeB b x y
theorem akB_iff : akB b x y = true ↔ Conn (nats b) x y := by
  unfold akB likeB clsI
  rw [beq_iff_eq, Int.toNat_natCast, Int.toNat_natCast]
  exact cls_iff _ _ _
theorem ak_alike (hb : checkBook b = 0) (hx1 : 1 ≤ x) (hx2 : x < 40) (hy1 : 1 ≤ y) (hy2 : y < 40) : alikeM b x y = (akB b x y, 0) := by
  unfold alikeM
  rw [if_neg (by simp [hb]), if_neg]
  · rfl
  · have e1 : isWordB (x : Int) = true := isWordB_iff.2 (by omega)
    have e2 : isWordB (y : Int) = true := isWordB_iff.2 (by omega)
    rw [e1, e2]
    simp
theorem ak_self : akB b x x = true := akB_iff.2 (.refl x)
theorem ak_chain (h : AkIn b x y) : chainE (nlA b x y) [] = if akB b x y = true then 0 else 5 := by
  rw [chainE_go h.open_]
  have : joinedB (nlA b x y) (natL []) = akB b x y := by
    rw [Bool.eq_iff_iff, joined_iff h.good, akB_iff]
    unfold anyP
    constructor
    · rintro ⟨v, hv, hr⟩
      obtain ⟨u, hu, hc⟩ := (rch_conn h.good.net).1 hr
      have hv' : v = y := by simpa [nlA, natL] using hv
      have hu' : u = x := by simpa [nlA, natL] using hu
      rw [hv', hu'] at hc
      exact ak_conn.1 hc
    · intro hc
      exact ⟨y, by simp [nlA, natL], (rch_conn h.good.net).2 ⟨x, by simp [nlA, natL], ak_conn.2 hc⟩⟩
  rw [this]
theorem ak_cost (h : AkIn b x y) : decide (0 < lstC (nlA b x y)) = akB b x y := by
  have h0 : lstC (nlA b x y) = costL (nlA b x y) := if_pos (check_good.2 h.good)
  rw [h0]
  have hS := cheap_least2 h.good
  unfold costL
  generalize (fun u => @decide (LeastP (nlA b x y) u) (Classical.propDecidable _)) = S at hS ⊢
  have hA : (nlA b x y).A x = true := NL.mA.2 (by simp [nlA, natL])
  have hB : (nlA b x y).B y = true := NL.mB.2 (by simp [nlA, natL])
  have h1 := hS.1.1 x hA
  have h2 := hS.1.2 y hB
  rw [Bool.eq_iff_iff, decide_eq_true_eq, akB_iff]
  constructor
  · intro hc
    refine Classical.byContradiction fun hn => ?_
    let T : Nat → Bool := fun u => @decide (Conn (nats b) x u) (Classical.propDecidable _)
    have hT : Side (nlA b x y) T := by
      refine ⟨fun u hu => ?_, fun u hu => ?_⟩
      · have : u = x := by simpa [nlA, natL] using NL.mA.1 hu
        subst this
        exact @decide_eq_true _ (Classical.propDecidable _) (.refl _)
      · have : u = y := by simpa [nlA, natL] using NL.mB.1 hu
        subst this
        exact @decide_eq_false _ (Classical.propDecidable _) hn
    have hz : cutC (nlA b x y).L T = 0 := by
      unfold cutC
      refine isum_zero fun i hi => ?_
      rw [if_neg]
      simp only [ne_eq, Decidable.not_not]
      have hp : ((lkAt (nlA b x y).L i).a, (lkAt (nlA b x y).L i).b) ∈ nats b := ak_pairs (x := x) (y := y) (mem_pairs.2 ⟨i, List.mem_range.1 hi, by simp, rfl, rfl⟩)
      rw [Bool.eq_iff_iff]
      simp only [T, decide_eq_true_eq]
      exact ⟨fun k => k.trans (.one (.inl hp)), fun k => k.trans (.one (.inr hp))⟩
    have := hS.2 T hT
    omega
  · intro hc
    refine Int.lt_iff_le_and_ne.2 ⟨cut_nonneg h.good S, fun e => ?_⟩
    have hall : ∀ i, i < (nlA b x y).L.length → S (lkAt (nlA b x y).L i).a = S (lkAt (nlA b x y).L i).b := by
      intro i hi
      refine Classical.byContradiction fun hne => ?_
      have ht := h.good.net.t i hi
      have hle : (if S (lkAt (nlA b x y).L i).a ≠ S (lkAt (nlA b x y).L i).b then (lkAt (nlA b x y).L i).t else 0) ≤ cutC (nlA b x y).L S := by
        unfold cutC
        refine isum_mem (f := fun i => if S (lkAt (nlA b x y).L i).a ≠ S (lkAt (nlA b x y).L i).b then (lkAt (nlA b x y).L i).t else 0) (fun k hk => ?_) (List.mem_range.2 hi)
        have := h.good.net.t k (List.mem_range.1 hk)
        split <;> omega
      rw [if_pos hne] at hle
      omega
    have hs := (ak_conn (x := x) (y := y)).2 hc
    have := hs.same (f := S) fun p hp => by
      obtain ⟨u, v⟩ := p
      obtain ⟨i, hi, -, h3, h4⟩ := mem_pairs.1 hp
      rw [← h3, ← h4]
      exact hall i hi
    rw [h1, h2] at this
    cases this
where
  isum_mem {f : Nat → Int} : ∀ {l : List Nat}, (∀ x ∈ l, 0 ≤ f x) → ∀ {i : Nat}, i ∈ l → f i ≤ isum f l
    | [], _, i, hi => by cases hi
    | z :: l, h, i, hi => by
      rw [isum_cons]
      have h1 := h z (List.mem_cons_self ..)
      have h2 := isum_pos (f := f) (l := l) fun y hy => h y (List.mem_cons_of_mem _ hy)
      rcases List.mem_cons.1 hi with rfl | hi
      · omega
      · have := isum_mem (fun y hy => h y (List.mem_cons_of_mem _ hy)) hi
        omega
/-- groups -/
theorem ak_groups (h : AkIn b x y) {g : List Int} (hg : g ∈ grpL (nlA b x y) []) (hx : g.contains (x : Int) = true) : g.contains (y : Int) = akB b x y := by
  unfold grpL at hg
  rw [if_pos h.open_] at hg
  obtain ⟨gn, hgn, rfl⟩ := List.mem_map.1 hg
  unfold groupsOf groupsTo at hgn
  obtain ⟨hm, -⟩ := List.mem_filter.1 hgn
  obtain ⟨n, -, rfl⟩ := List.mem_map.1 hm
  have hps := pairs_lt h.good.net (natL [])
  have hN : (nlA b x y).N = 40 := rfl
  have mem : ∀ z : Nat, (intL (groupAt (pairsOf (nlA b x y).L (natL [])) (nlA b x y).N n)).contains (z : Int) = true ↔ z < 40 ∧ labN (pairsOf (nlA b x y).L (natL [])) (nlA b x y).N z = n := by
    intro z
    rw [List.contains_iff_mem]
    unfold intL
    rw [List.mem_map]
    constructor
    · rintro ⟨u, hu, e⟩
      have : u = z := by omega
      subst this
      exact mem_group.1 hu
    · intro hz
      exact ⟨z, mem_group.2 hz, rfl⟩
  obtain ⟨-, h1⟩ := (mem x).1 hx
  rw [Bool.eq_iff_iff, mem, akB_iff, ← ak_conn (x := x) (y := y)]
  constructor
  · rintro ⟨-, h2⟩
    exact (labN_iff hps h.x2 h.y2).1 (h1.trans h2.symm)
  · intro hc
    exact ⟨h.y2, ((labN_iff hps h.x2 h.y2).2 hc).symm.trans h1⟩
/-- all words of a chain are alike -/
theorem ak_walk (h : AkIn b x y) : ∀ {c : List Int} {z : Nat}, chainB (nlA b x y) [] ((z : Int) :: c) = true → Conn (nats b) x z → 1 ≤ z → z < 40 → (∀ k ∈ c, inN 40 k = true) → ∀ k ∈ ((z : Int) :: c), ∃ n : Nat, k = n ∧ 1 ≤ n ∧ n < 40 ∧ Conn (nats b) x n
  | [], z, _, hc, h1, h2, _, k, hk => by
    rw [List.mem_singleton] at hk
    exact ⟨z, hk, h1, h2, hc⟩
  | q :: c, z, hb, hc, h1, h2, hin, k, hk => by
    rcases List.mem_cons.1 hk with hk | hk
    · exact ⟨z, hk, h1, h2, hc⟩
    · simp only [chainB, Bool.and_eq_true] at hb
      have hq := hin q (List.mem_cons_self ..)
      have hq' := hq
      unfold inN at hq'
      simp only [Bool.and_eq_true, decide_eq_true_eq] at hq'
      have hz : inN 40 (z : Int) = true := by unfold inN; simp only [Bool.and_eq_true, decide_eq_true_eq]; omega
      obtain ⟨i, hi⟩ := (linked_way (drop := []) h.good hz hq).1 hb.1
      have hp := (way_pair (drop := []) h.good.net).1 ⟨i, hi⟩
      rw [Int.toNat_natCast] at hp
      have hp' : (z, q.toNat) ∈ nats b ∨ (q.toNat, z) ∈ nats b := hp.imp (fun k => ak_pairs k) (fun k => ak_pairs k)
      have hq1 : 1 ≤ q.toNat := by
        have : ∀ p ∈ nats b, 1 ≤ p.1 ∧ 1 ≤ p.2 := fun p hp => by
          unfold nats at hp
          obtain ⟨r, hr, rfl⟩ := List.mem_map.1 hp
          have := h.pos r hr
          simp only
          omega
        rcases hp' with hp' | hp'
        · exact (this _ hp').2
        · exact (this _ hp').1
      have e : q = ((q.toNat : Nat) : Int) := by omega
      have hq2 : q.toNat < 40 := by omega
      have hb2 := hb.2
      rw [e] at hb2 hk
      exact ak_walk h hb2 (hc.trans (.one hp')) hq1 hq2 (fun k hk => hin k (List.mem_cons_of_mem _ hk)) k hk
theorem ak_links (h : AkIn b x y) {c : List Int} (hc : chkC (nlA b x y) [] c = 0) : ∀ k ∈ c, ∃ n : Nat, k = n ∧ 1 ≤ n ∧ n < 40 ∧ akB b x n = true := by
  unfold chkC at hc
  rw [if_neg (by rw [h.open_]; simp)] at hc
  split at hc
  · cases hc
  rename_i h2
  split at hc
  · cases hc
  rename_i h3
  split at hc
  rotate_left
  · cases hc
  rename_i h4
  simp only [Bool.and_eq_true] at h4
  obtain ⟨h4, h5⟩ := h4
  cases c with
  | nil => simp at h2
  | cons z c =>
    unfold endsC at h4
    simp only [Bool.and_eq_true, nlA, List.headD_cons, List.contains_iff_mem, List.mem_singleton] at h4
    have hz : z = (x : Int) := h4.1
    subst hz
    have hall : ∀ k ∈ ((x : Int) :: c), inN 40 k = true := by
      have : (((x : Int) :: c).all (inN (nlA b x y).n)) = true := by simpa using h3
      exact List.all_eq_true.1 this
    intro k hk
    obtain ⟨n, e1, e2, e3, e4⟩ := ak_walk h h5 (.refl x) h.x1 h.x2 (fun k hk => hall k (List.mem_cons_of_mem _ hk)) k hk
    exact ⟨n, e1, e2, e3, akB_iff.2 e4⟩
end Go.Proofs.YtbcpmmpakkaidaaGreat
