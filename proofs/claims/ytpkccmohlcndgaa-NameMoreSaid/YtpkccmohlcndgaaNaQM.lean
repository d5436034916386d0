/- Plain laws of the statements: what a side by names costs, what a flow is worth, groups and chains without what a side cuts. Growing rows of names; the greatest side. -/
import Derived.Test.YtpkccmohlcndgaaLwFM
namespace Go.Proofs.Ytpkccmohlcndgaa
open Go.RowKit Go.Shelf
set_option linter.unusedVariables false

variable {l : NL}
/-- names of a kind -/
def namesOf (l : NL) (p : Nat → Bool) : List Nat := (List.range l.N).filter p
theorem inS_names (l : NL) (p : Nat → Bool) {u : Nat} (hu : u < l.N) : inS (intL (namesOf l p)) u = p u := by
  unfold inS intL namesOf
  rw [nat_map, Bool.eq_iff_iff]
  simp [hu]
theorem cutL_congr (g : Good l) {S T : Nat → Bool} (h : ∀ u, u < l.N → S u = T u) : cutL l S = cutL l T := by
  unfold cutL
  refine List.filter_congr fun i hi => ?_
  have hi : i < l.L.length := by rw [NL.len]; exact List.mem_range.1 hi
  rw [h _ (g.net.a i hi), h _ (g.net.b i hi)]
theorem rises_range {n : Int} {N : Nat} (hN : (N : Int) = n) (p : Nat → Bool) : rises n (intL ((List.range N).filter p)) = true := by
  refine rises_map (List.pairwise_lt_range.filter _) fun u hu => ?_
  have := List.mem_range.1 (List.mem_filter.1 hu).1
  omega
/-- a side by names: the error, what it costs, what it cuts -/
theorem cut_names (g : Good l) {p : Nat → Bool} (hs : Side l p) : cutE l (intL (namesOf l p)) = 0 ∧ cutsC l (intL (namesOf l p)) = cutC l.L p ∧ cutsL l (intL (namesOf l p)) = intL (cutL l p) := by
  have hc := fun u (hu : u < l.N) => inS_names l p hu
  have h0 : cutE l (intL (namesOf l p)) = 0 := cutE_ok (check_good.2 g) (rises_range g.nN p) ((sideE_iff g).2 (g.side_congr (fun u hu => (hc u hu).symm) hs))
  obtain ⟨h1, h2⟩ := cuts_go h0
  exact ⟨h0, by rw [h2]; exact g.cut_congr hc, by rw [h1, cutL_congr g hc]⟩
theorem least_side (g : Good l) : Cheap l (leastB l) := cheap_least2 g
theorem lstL_names (g : Good l) : lstL l = intL (namesOf l (leastB l)) := if_pos (check_good.2 g)
theorem lstC_eq (g : Good l) : lstC l = costL l := if_pos (check_good.2 g)
theorem cost_least (l : NL) : costL l = cutC l.L (leastB l) := rfl
theorem on_side (g : Good l) (b : Nat) : Side l (onSide l b) := by
  refine ⟨fun u hu => ?_, fun u hu => ?_⟩
  · unfold onSide
    rw [hu]
    rfl
  · unfold onSide
    have ha : l.A u = false := by
      cases ha : l.A u
      · rfl
      · have := g.both ha
        rw [hu] at this
        cases this
    rw [ha, hu]
    simp
theorem sideU_names (l : NL) (b : Nat) : sideU l b l.N = namesOf l (onSide l b) := rfl
theorem cost_le (g : Good l) {p : Nat → Bool} (hs : Side l p) : costL l ≤ cutC l.L p := (least_side g).2 p hs
theorem cut_rises (l : NL) (S : Nat → Bool) : rises l.links.length (intL (cutL l S)) = true := rises_range rfl _
/-- the flow that is returned -/
theorem flow_worth (g : Good l) {fl : List Int} (h : FlowOf l fl) : chkF l fl = (costL l, 0) := by
  obtain ⟨h1, h2⟩ := h.2 (check_good.2 g)
  rw [chkF_ok (check_good.2 g) h1 h2.right, h2.costL_eq g]
/-- no given right flow is worth more -/
theorem flow_less (g : Good l) {fl : List Int} (h : (chkF l fl).2 = 0) : (chkF l fl).1 ≤ costL l := by
  obtain ⟨-, -, hr, he⟩ := chkF_inv h
  rw [he]
  exact great_le g.net hr (least_side g).1

/-! ### without what a side cuts -/
theorem cut_drop (l : NL) (S : Nat → Bool) : natL (intL (cutL l S)) = cutL l S := nat_map _
theorem cut_open (g : Good l) (S : Nat → Bool) : openE l (intL (cutL l S)) = 0 := by
  rw [openE_go (check_good.2 g), cut_rises]
  rfl
theorem cut_chain (g : Good l) {S : Nat → Bool} (hS : Side l S) : chainE l (intL (cutL l S)) = 5 ∧ joinedB l (natL (intL (cutL l S))) = false := by
  have hj : joinedB l (natL (intL (cutL l S))) = false := by rw [cut_drop]; exact cut_apart g hS fun i hi => hi
  exact ⟨by rw [chainE_go (cut_open g S), hj]; rfl, hj⟩
/-- no group has names of both recordings -/
theorem group_apart (g : Good l) {drop : List Nat} (hj : joinedB l drop = false) {gi : List Nat} (hg : gi ∈ groupsOf (pairsOf l.L drop) l.N) {u v : Nat} (hu : u ∈ gi) (hv : v ∈ gi) (ha : l.A u = true) (hb : l.B v = true) : False := by
  unfold groupsOf groupsTo at hg
  obtain ⟨n, -, rfl⟩ := List.mem_map.1 (List.mem_filter.1 hg).1
  obtain ⟨hu1, hu2⟩ := mem_group.1 hu
  obtain ⟨hv1, hv2⟩ := mem_group.1 hv
  have : joinedB l drop = true := by
    unfold joinedB
    rw [List.any_eq_true]
    refine ⟨u, NL.mA.1 ha, List.any_eq_true.2 ⟨v, NL.mB.1 hb, ?_⟩⟩
    rw [hu2, hv2]
    simp
  rw [hj] at this
  cases this
theorem group_mem (g : Good l) {drop : List Nat} {gi : List Nat} (hg : gi ∈ groupsOf (pairsOf l.L drop) l.N) {u : Nat} (hu : u ∈ gi) : u < l.N := by
  unfold groupsOf groupsTo at hg
  obtain ⟨n, -, rfl⟩ := List.mem_map.1 (List.mem_filter.1 hg).1
  exact (mem_group.1 hu).1
/-- a chain that is there has a link of the cut that is not dropped -/
theorem chain_cut (g : Good l) {S : Nat → Bool} (hS : Side l S) {drop : List Int} (hd : ∀ x ∈ drop, 0 ≤ x) (h : chainE l drop = 0) (ho : openE l drop = 0) : ¬ ∀ x ∈ intL (cutL l S), drop.contains x = true := by
  intro hall
  have hj : joinedB l (natL drop) = false := cut_apart g hS fun i hi => by
    have := hall (i : Int) (List.mem_map.2 ⟨i, hi, rfl⟩)
    rw [contains_nat hd] at this
    exact List.contains_iff_mem.1 this
  rw [chainE_go ho, hj] at h
  simp at h
/-- a drop by bits -/
def dropB (a b i : Nat) : Bool := bitB (if i / 64 = 0 then a else b) (i % 64)
def dropU (a b k : Nat) : List Nat := (List.range k).filter (dropB a b)
theorem dropU_yes {a b k : Nat} (h : dropB a b k = true) : dropU a b (k + 1) = dropU a b k ++ [k] := by
  unfold dropU
  rw [List.range_succ, List.filter_append]
  simp [h]
theorem dropU_no {a b k : Nat} (h : dropB a b k = false) : dropU a b (k + 1) = dropU a b k := by
  unfold dropU
  rw [List.range_succ, List.filter_append]
  simp [h]
theorem dropU_len (a b k : Nat) : (dropU a b k).length ≤ k := by
  unfold dropU
  exact Nat.le_trans (List.length_filter_le _ _) (by simp)
theorem dropU_open (g : Good l) (a b : Nat) : openE l (intL (dropU a b l.links.length)) = 0 := by
  rw [openE_go (check_good.2 g)]
  unfold dropU
  rw [rises_range rfl]
  rfl
theorem bit_u64B (b k : Nat) (hb : b < 18446744073709551616) : (bits .and .u64 ((b : Int) / 2 ^ k) 1 == 1) = bitB b k := by
  rw [bit_u64 b k hb]
  cases bitB b k <;> rfl
end Go.Proofs.Ytpkccmohlcndgaa

namespace Go.Proofs.Ytpkccmohlcndgaa
open Go.RowKit Go.Shelf
set_option linter.unusedVariables false

/-- the numbers below a number that are of a kind -/
def selTo (p : Nat → Bool) (k : Nat) : List Nat := (List.range k).filter p
theorem selTo_yes {p : Nat → Bool} {k : Nat} (h : p k = true) : selTo p (k + 1) = selTo p k ++ [k] := by
  unfold selTo
  rw [List.range_succ, List.filter_append]
  simp [h]
theorem selTo_no {p : Nat → Bool} {k : Nat} (h : p k = false) : selTo p (k + 1) = selTo p k := by
  unfold selTo
  rw [List.range_succ, List.filter_append]
  simp [h]
theorem selTo_len (p : Nat → Bool) (k : Nat) : (selTo p k).length ≤ k := by
  unfold selTo
  exact Nat.le_trans (List.length_filter_le _ _) (by simp)
theorem selTo_in (p : Nat → Bool) {k n : Nat} (h : k < n) : (intL (selTo p n)).contains (k : Int) = p k := by
  rw [intL_in]
  unfold selTo
  rw [Bool.eq_iff_iff]
  simp [h]
theorem selTo_all (l : NL) (p : Nat → Bool) : selTo p l.N = namesOf l p := rfl
/-- a growing row of names -/
def RowN (w : World) (base : Nat) (v : Value) (n : Nat) (l : List Nat) : Prop := w.ownsRow base 3 1 v n ((intL l).map (Value.int .i64)) ∧ n = l.length
theorem RowN.nil_ (w : World) (base : Nat) : RowN w base (.slice none 0 0) 0 [] := ⟨by simpa [intL] using World.ownsRow_nil _ _ _ _, rfl⟩
theorem RowN.call {w w' : World} {base n : Nat} {v : Value} {l : List Nat} (h : RowN w base v n l) (hb : Below w.heap.size w w') : RowN w' base v n l := ⟨own_call h.1 hb, h.2⟩
theorem RowN.arr {w : World} {base n cap : Nat} {A : Option Addr} {l : List Nat} (h : RowN w base (.slice A n cap) n l) : Arr w w.heap.size 1 (.slice A (intL l).length cap) (intL l) icell := by
  have hl : (intL l).length = n := by rw [h.2]; simp [intL]
  refine Arr.of_own (base := base) (e := 3) ?_
  rw [flat_int, hl]
  exact h.1
theorem RowN.snoc {w : World} {base n k : Nat} {v : Value} {l : List Nat} (h : w.ownsRow base 3 1 v (n + 1) ((intL l).map (Value.int .i64) ++ #[Value.int .i64 (k : Int)].toList)) (hn : n = l.length) : RowN w base v (n + 1) (l ++ [k]) := by
  refine ⟨?_, by simp [hn]⟩
  rw [intL_append, List.map_append]
  simpa [intL] using h
/-- three growing rows -/
structure Rows3 (w : World) (base : Nat) (x y z : Value) (nx ny nz : Nat) (lx ly lz : List Nat) : Prop where
  ox : RowN w base x nx lx
  oy : RowN w base y ny ly
  oz : RowN w base z nz lz
  xy : Apart x y
  xz : Apart x z
  yz : Apart y z
section
variable {w w' : World} {base nx ny nz k : Nat} {x y z v : Value} {lx ly lz : List Nat}
theorem Rows3.call (R : Rows3 w base x y z nx ny nz lx ly lz) (hb : Below w.heap.size w w') : Rows3 w' base x y z nx ny nz lx ly lz := ⟨R.ox.call hb, R.oy.call hb, R.oz.call hb, R.xy, R.xz, R.yz⟩
theorem Rows3.app1 (R : Rows3 w base x y z nx ny nz lx ly lz) (h : w'.ownsRow base 3 1 v (nx + 1) ((intL lx).map (Value.int .i64) ++ #[Value.int .i64 (k : Int)].toList)) (hg : w.grownBy w' x.ownBlock) (hn : ∀ b, v.ownBlock = some b → x.ownBlock = some b ∨ w.heap.size ≤ b) : Rows3 w' base v y z (nx + 1) ny nz (lx ++ [k]) ly lz := by
  obtain ⟨h1, h2⟩ := own_apart R.oy.1 hg hn R.xy
  obtain ⟨h3, h4⟩ := own_apart R.oz.1 hg hn R.xz
  exact ⟨RowN.snoc h R.ox.2, ⟨h1, R.oy.2⟩, ⟨h3, R.oz.2⟩, h2, h4, R.yz⟩
theorem Rows3.app2 (R : Rows3 w base x y z nx ny nz lx ly lz) (h : w'.ownsRow base 3 1 v (ny + 1) ((intL ly).map (Value.int .i64) ++ #[Value.int .i64 (k : Int)].toList)) (hg : w.grownBy w' y.ownBlock) (hn : ∀ b, v.ownBlock = some b → y.ownBlock = some b ∨ w.heap.size ≤ b) : Rows3 w' base x v z nx (ny + 1) nz lx (ly ++ [k]) lz := by
  obtain ⟨h1, h2⟩ := own_apart R.ox.1 hg hn R.xy.symm
  obtain ⟨h3, h4⟩ := own_apart R.oz.1 hg hn R.yz
  exact ⟨⟨h1, R.ox.2⟩, RowN.snoc h R.oy.2, ⟨h3, R.oz.2⟩, h2.symm, R.xz, h4⟩
theorem Rows3.app3 (R : Rows3 w base x y z nx ny nz lx ly lz) (h : w'.ownsRow base 3 1 v (nz + 1) ((intL lz).map (Value.int .i64) ++ #[Value.int .i64 (k : Int)].toList)) (hg : w.grownBy w' z.ownBlock) (hn : ∀ b, v.ownBlock = some b → z.ownBlock = some b ∨ w.heap.size ≤ b) : Rows3 w' base x y v nx ny (nz + 1) lx ly (lz ++ [k]) := by
  obtain ⟨h1, h2⟩ := own_apart R.ox.1 hg hn R.xz.symm
  obtain ⟨h3, h4⟩ := own_apart R.oy.1 hg hn R.yz.symm
  exact ⟨⟨h1, R.ox.2⟩, ⟨h3, R.oy.2⟩, RowN.snoc h R.oz.2, R.xy, h2.symm, h4.symm⟩
end
theorem RowN.form {w : World} {base n : Nat} {v : Value} {l : List Nat} (h : RowN w base v n l) : ∃ A cap, v = .slice A n cap := own_form h.1
theorem RowN.below {w w' : World} {base n : Nat} {v : Value} {l : List Nat} (h : RowN w base v n l) (hg : w.grownBy w' v.ownBlock) (hb : base ≤ w.heap.size) : Below base w w' := below_own h.1 hg hb

/-! ### the greatest side -/
variable {l : NL}
theorem Cheap.union (g : Good l) {S T : Nat → Bool} (h : Cheap l S) (k : Cheap l T) : Cheap l fun u => S u || T u :=
  ⟨h.1.union k.1, fun U hU => by
    have h1 := g.together h.1 k
    have h2 := h.2 U hU
    omega⟩
theorem cheap_any (g : Good l) {S : Nat → Bool} (hS : Cheap l S) : ∀ (ls : List (List Nat)), (∀ s ∈ ls, Cheap l (memB s)) → Cheap l fun u => S u || ls.any fun s => memB s u
  | [], _ => by simpa using hS
  | s :: ls, h => by
    have h1 := Cheap.union g (h s (List.mem_cons_self ..)) (cheap_any g hS ls fun t ht => h t (List.mem_cons_of_mem _ ht))
    have : (fun u => memB s u || (S u || ls.any fun s => memB s u)) = fun u => S u || (s :: ls).any fun s => memB s u := by
      funext u
      rw [List.any_cons]
      cases memB s u <;> simp
    rwa [this] at h1
open Classical in
/-- a name is in some cheapest side -/
noncomputable def mostB (l : NL) (u : Nat) : Bool := decide (MostP l u)
open Classical in
theorem most_side (g : Good l) : Cheap l (mostB l) := by
  obtain ⟨S, hS⟩ := exists_cheap g
  have h := cheap_any g hS ((allSides l).filter fun s => decide (Cheap l (memB s))) fun s hs => by simpa using (List.mem_filter.1 hs).2
  refine g.cheap_congr (fun u hu => ?_) h
  unfold mostB
  rw [Bool.eq_iff_iff, Bool.or_eq_true, List.any_eq_true, decide_eq_true_eq]
  constructor
  · rintro (h2 | ⟨s, hs, h2⟩)
    · exact ⟨S, hS, h2⟩
    · exact ⟨_, by simpa using (List.mem_filter.1 hs).2, h2⟩
  · rintro ⟨T, hT, h2⟩
    obtain ⟨s, hs, he⟩ := mem_allSides g hT.1
    exact .inr ⟨s, List.mem_filter.2 ⟨hs, by rw [decide_eq_true_eq]; exact g.cheap_congr (fun v hv => (he v hv).symm) hT⟩, by rw [he u hu]; exact h2⟩
open Classical in
theorem least_most2 (g : Good l) {u : Nat} (h : leastB l u = true) : mostB l u = true := by
  obtain ⟨S, hS⟩ := exists_cheap g
  exact decide_eq_true ⟨S, hS, (of_decide_eq_true h : LeastP l u) S hS⟩
theorem cost_most (g : Good l) : cutC l.L (mostB l) = costL l := by
  have h1 := (most_side g).2 _ (least_side g).1
  have h2 := (least_side g).2 _ (most_side g).1
  rw [cost_least]
  omega
/-- on which side a name is -/
noncomputable def sideV (l : NL) (u : Nat) : Int := if leastB l u = true then 1 else if mostB l u = true then 0 else -1
open Classical in
theorem sides_at (l : NL) {k : Nat} (hk : k < l.N) : (sidesL l)[k]? = some (sideV l k) := by
  unfold sidesL sideV leastB mostB
  rw [List.getElem?_map, List.getElem?_range hk]
  simp
/-- a side between the least and the greatest one, by bits -/
noncomputable def givenB (l : NL) (b u : Nat) : Bool := leastB l u || (mostB l u && bitB b u)
theorem given_side (g : Good l) (b : Nat) : Side l (givenB l b) := by
  refine ⟨fun u hu => ?_, fun u hu => ?_⟩
  · unfold givenB
    rw [(least_side g).1.1 u hu]
    rfl
  · unfold givenB
    rw [(least_side g).1.2 u hu, (most_side g).1.2 u hu]
    rfl
theorem common_le (g : Good l) (b : Nat) : Side l (fun u => onSide l b u && mostB l u) ∧ cutC l.L (fun u => onSide l b u && mostB l u) ≤ cutC l.L (onSide l b) := ⟨(on_side g b).inter (most_side g).1, g.common (on_side g b) (most_side g)⟩
theorem together_le (g : Good l) (b : Nat) : Side l (fun u => onSide l b u || leastB l u) ∧ cutC l.L (fun u => onSide l b u || leastB l u) ≤ cutC l.L (onSide l b) := ⟨(on_side g b).union (least_side g).1, g.together (on_side g b) (least_side g)⟩
end Go.Proofs.Ytpkccmohlcndgaa
