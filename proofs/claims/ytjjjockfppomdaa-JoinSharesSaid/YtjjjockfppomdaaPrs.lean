/- Contract of the table: pairs. -/
import Derived.Test.YtjjjockfppomdaaJnd
import Derived.Test.YtjjjockfppomdaaMst
import Derived.Test.YtjjjockfppomdaaGo
namespace Go.Proofs.Ytjjjockfppomdaa
open Go.RowKit Go.Shelf
set_option linter.unusedVariables false

theorem keyPair : KeyII 103 where
  und := ⟨_, Try.underlying103⟩
  eq := by
    intro a b c d w
    show (Op.equalIn (9999+1) 103 _ _).run _ _ = _
    rw [run_equalIn_struct w 9999 103 _ _ (by kernel_rfl) (by kernel_rfl)]
    cases h : (a == c)
    · simp [Op.eqFields, go_sem, h]
    · cases h2 : (b == d) <;> simp [Op.eqFields, go_sem, h, h2]
  ck := fun e a b w => by kernel_rfl
/-- a table of counts, as the map reads -/
def mapP (P : Nat → Nat → Nat) (a b : Int) : Option Value := if 0 ≤ a ∧ 0 ≤ b ∧ 0 < P a.toNat b.toNat then some (.int .i64 (P a.toNat b.toNat : Int)) else none
theorem mapP_nat (P : Nat → Nat → Nat) (i k : Nat) : (mapP P i k).getD (.int .i64 0) = .int .i64 (P i k : Int) := by
  unfold mapP
  by_cases h : 0 < P i k
  · rw [if_pos ⟨by omega, by omega, by simpa using h⟩]; simp
  · rw [if_neg (by rintro ⟨_, _, h2⟩; simp at h2; omega)]
    have : P i k = 0 := by omega
    rw [this]; rfl
theorem mapP_add {P P' : Nat → Nat → Nat} {i k n : Nat} (hn : 0 < n) (h : ∀ a b, P' a b = P a b + if a = i ∧ b = k then n else 0) (x y : Int) :
    mapP P' x y = if (x == (i : Int) && y == (k : Int)) = true then some (.int .i64 ((P i k : Int) + (n : Int))) else mapP P x y := by
  by_cases hxy : (x == (i : Int) && y == (k : Int)) = true
  · rw [if_pos hxy]
    simp only [Bool.and_eq_true, beq_iff_eq] at hxy
    obtain ⟨rfl, rfl⟩ := hxy
    unfold mapP
    have e := h i k
    rw [if_pos ⟨rfl, rfl⟩] at e
    rw [Int.toNat_natCast, Int.toNat_natCast, e, if_pos ⟨by omega, by omega, by omega⟩, Int.natCast_add]
  · rw [if_neg hxy]
    have hne : 0 ≤ x → 0 ≤ y → P' x.toNat y.toNat = P x.toNat y.toNat := by
      intro hx hy
      rw [h, if_neg, Nat.add_zero]
      rintro ⟨h1, h2⟩
      refine hxy ?_
      simp only [Bool.and_eq_true, beq_iff_eq]
      omega
    unfold mapP
    by_cases hx : 0 ≤ x
    · by_cases hy : 0 ≤ y
      · rw [hne hx hy]
      · rw [if_neg (by rintro ⟨_, h2, _⟩; exact hy h2), if_neg (by rintro ⟨_, h2, _⟩; exact hy h2)]
    · rw [if_neg (by rintro ⟨h1, _⟩; exact hx h1), if_neg (by rintro ⟨h1, _⟩; exact hx h1)]
/-- a stamped map that reads as a table of counts -/
def MapPt (W : World) (g : Nat) (P : Nat → Nat → Nat) : Prop := ∃ l cl, MapL W g l cl ∧ ∀ x y, readL l x y = mapP P x y
theorem MapPt.heap {w w' : World} {g : Nat} {P : Nat → Nat → Nat} (h : MapPt w g P) (hh : w'.heap[g]? = w.heap[g]?) : MapPt w' g P := by
  obtain ⟨l, cl, h1, h2⟩ := h
  exact ⟨l, cl, h1.heap hh, h2⟩
theorem MapPt.same {w : World} {g : Nat} {P P' : Nat → Nat → Nat} (h : MapPt w g P) (e : ∀ i k, P' i k = P i k) : MapPt w g P' := by
  have : P' = P := by funext i k; exact e i k
  rw [this]; exact h
theorem MapPt.lt {w : World} {g : Nat} {P : Nat → Nat → Nat} (h : MapPt w g P) : g < w.heap.size := by
  obtain ⟨l, cl, h1, -⟩ := h
  exact h1.lt

def pOut (c : Cyl) (j i k : Nat) : Nat := if i < j then pairN c i k else 0
def pMid (c : Cyl) (j : Nat) (us : List Nat) (i k : Nat) : Nat := pOut c j i k + if i = j then (us.map fun u => termN c j k u).sum else 0
def wayN (c : Cyl) (j u k : Nat) : Nat := comeN c u j * leftN c (onN c u k) (some k)
def pIn (c : Cyl) (j : Nat) (us : List Nat) (u : Nat) (ks : List Nat) (i k : Nat) : Nat := pMid c j us i k + if i = j then ((ks.filter (· == k)).map (wayN c j u)).sum else 0
theorem pMid_nil (c : Cyl) (j i k : Nat) : pMid c j [] i k = pOut c j i k := by simp [pMid]
theorem pIn_nil (c : Cyl) (j : Nat) (us : List Nat) (u i k : Nat) : pIn c j us u [] i k = pMid c j us i k := by simp [pIn]
theorem pIn_snoc (c : Cyl) (j : Nat) (us : List Nat) (u : Nat) (ks : List Nat) (q : Nat) (i k : Nat) : pIn c j us u (ks ++ [q]) i k = pIn c j us u ks i k + if i = j ∧ k = q then wayN c j u q else 0 := by
  unfold pIn
  by_cases hi : i = j
  · rw [if_pos hi, if_pos hi, List.filter_append, List.map_append, List.sum_append]
    by_cases hk : k = q
    · rw [if_pos ⟨hi, hk⟩]; subst hk; simp; omega
    · rw [if_neg (by rintro ⟨_, h⟩; exact hk h)]
      have : (q == k) = false := by simpa using fun e => hk e.symm
      simp [this]
  · rw [if_neg hi, if_neg hi, if_neg (by rintro ⟨h, _⟩; exact hi h)]
theorem filter_one {l : List Nat} (h : l.Nodup) (k : Nat) : l.filter (· == k) = if k ∈ l then [k] else [] := by
  induction l with
  | nil => simp
  | cons x r ih =>
    rw [List.nodup_cons] at h
    rw [List.filter_cons]
    by_cases hx : x = k
    · subst hx
      have : r.filter (· == x) = [] := by rw [ih h.2, if_neg h.1]
      simp [this]
    · have hb : (x == k) = false := by simpa using hx
      rw [if_neg (by rw [hb]; simp), ih h.2]
      have : (k ∈ x :: r) ↔ k ∈ r := ⟨fun hh => (List.mem_cons.1 hh).resolve_left (fun e => hx e.symm), List.mem_cons_of_mem _⟩
      by_cases hk : k ∈ r
      · rw [if_pos hk, if_pos (this.2 hk)]
      · rw [if_neg hk, if_neg (fun hh => hk (this.1 hh))]
theorem nextN_nodup (c : Cyl) (u : Nat) (o : Option Nat) : (nextN c u o).Nodup := (nextN_sorted c u o).imp Nat.ne_of_lt
theorem pIn_end {c : Cyl} {j u : Nat} (hb : u.testBit (pieceN c j) = true) (us : List Nat) (i k : Nat) : pIn c j us u (nextN c u (some j)) i k = pMid c j (us ++ [u]) i k := by
  unfold pIn pMid
  by_cases hi : i = j
  · rw [if_pos hi, if_pos hi, if_pos hi, List.map_append, List.sum_append, filter_one (nextN_nodup c u (some j)) k]
    have : termN c j k u = if k ∈ nextN c u (some j) then wayN c j u k else 0 := by
      unfold termN
      by_cases hk : k ∈ nextN c u (some j)
      · rw [if_pos ⟨hb, hk⟩, if_pos hk]; rfl
      · rw [if_neg (fun h => hk h.2), if_neg hk]
    by_cases hk : k ∈ nextN c u (some j)
    · rw [if_pos hk] at this ⊢; simp [this]; omega
    · rw [if_neg hk] at this ⊢; simp [this]
  · rw [if_neg hi, if_neg hi, if_neg hi]
theorem pMid_end (c : Cyl) (j i k : Nat) : pMid c j (usedN c j) i k = pOut c (j + 1) i k := by
  unfold pMid pOut
  have key : ∀ n, (((List.range n).filter fun u => u.testBit (pieceN c j)).map fun u => termN c j k u).sum = pairsTo c j k n := by
    intro n
    induction n with
    | zero => rfl
    | succ n ih =>
      rw [List.range_succ, List.filter_append, List.map_append, List.sum_append, ih, pairsTo]
      congr 1
      simp only [List.filter_cons, List.filter_nil]
      by_cases hb : n.testBit (pieceN c j) = true
      · rw [if_pos hb]; simp
      · rw [if_neg hb]
        unfold termN
        rw [if_neg (fun h => hb h.1)]; rfl
  by_cases hi : i = j
  · subst hi
    rw [if_neg (by omega), if_pos rfl, if_pos (by omega), Nat.zero_add]
    exact key _
  · rw [if_neg hi, Nat.add_zero]
    by_cases h : i < j
    · rw [if_pos h, if_pos (by omega)]
    · rw [if_neg h, if_neg (by omega)]
theorem wayN_le {c : Cyl} (h8 : c.pcs.length ≤ 8) {j u k : Nat} (hj : j < (stepsOf c).length) (hb : u.testBit (pieceN c j) = true) (hk : k ∈ nextN c u (some j)) : wayN c j u k ≤ 16777216 := prod_le h8 hj hb hk
theorem pMid_le {c : Cyl} (h8 : c.pcs.length ≤ 8) {j : Nat} (hj : j < (stepsOf c).length) (us : List Nat) (hu : us.length ≤ 256) (i k : Nat) : pMid c j us i k ≤ 8589934592 := by
  have h1 : pOut c j i k ≤ 4294967296 := by
    unfold pOut
    split
    · exact pairN_le h8 (by omega)
    · omega
  have h2 : (us.map fun u => termN c j k u).sum ≤ us.length * 16777216 := sum_le fun u _ => termN_le h8 hj
  unfold pMid
  split <;> omega
theorem pIn_le {c : Cyl} (h8 : c.pcs.length ≤ 8) {j u : Nat} (hj : j < (stepsOf c).length) (hb : u.testBit (pieceN c j) = true) (us : List Nat) (hu : us.length ≤ 256) (ks : List (VNx c u (some j))) (hk : ks.length ≤ 16) (i k : Nat) : pIn c j us u (ks.map (·.1)) i k ≤ 17179869184 := by
  have h1 := pMid_le h8 hj us hu i k
  have h2 : (((ks.map (·.1)).filter (· == k)).map (wayN c j u)).sum ≤ ((ks.map (·.1)).filter (· == k)).length * 16777216 := sum_le fun q hq => by
    obtain ⟨y, hy, rfl⟩ := List.mem_map.1 (List.mem_filter.1 hq).1
    exact wayN_le h8 hj hb y.2
  have h3 := List.length_filter_le (· == k) (ks.map (·.1))
  rw [List.length_map] at h3
  unfold pIn
  split <;> omega

/-- only the map of counts, the table's maps and new blocks change -/
structure ChgM (gm ga gu : Nat) (w w' : World) : Prop where
  os : w'.os = w.os
  tape : True
  output : w'.output = w.output
  size : w.heap.size ≤ w'.heap.size
  block : ∀ k, k < w.heap.size → k ≠ gm → k ≠ ga → k ≠ gu → w'.heap[k]? = w.heap[k]?
theorem ChgM.refl {gm ga gu : Nat} (w : World) : ChgM gm ga gu w w := ⟨rfl, trivial, rfl, Nat.le_refl _, fun _ _ _ _ _ => rfl⟩
theorem ChgM.trans {gm ga gu : Nat} {w w' w'' : World} (h : ChgM gm ga gu w w') (k : ChgM gm ga gu w' w'') : ChgM gm ga gu w w'' :=
  ⟨k.os.trans h.os, trivial, k.output.trans h.output, Nat.le_trans h.size k.size, fun i h1 h2 h3 h4 => (k.block i (Nat.lt_of_lt_of_le h1 h.size) h2 h3 h4).trans (h.block i h1 h2 h3 h4)⟩
theorem Chg.toM {gm ga gu : Nat} {w w' : World} (h : Chg ga gu w w') : ChgM gm ga gu w w' := ⟨h.os, trivial, h.output, h.size, fun k h1 _ h3 h4 => h.block k h1 h3 h4⟩
theorem ChgM.grown {gm ga gu : Nat} {w w' w'' : World} (h : ChgM gm ga gu w w') {row : Option Nat} (hg : w'.grownBy w'' row) (hr : ∀ r, row = some r → w.heap.size ≤ r ∨ r = gm) : ChgM gm ga gu w w'' :=
  ⟨hg.os.trans h.os, trivial, hg.output.trans h.output, Nat.le_trans h.size hg.size, fun k h1 h2 h3 h4 => (hg.block k (Nat.lt_of_lt_of_le h1 h.size) (fun e => by rcases hr k e.symm with h | h <;> omega)).trans (h.block k h1 h2 h3 h4)⟩
/-- what pairs holds of the world -/
structure PrW (w : World) (x : TX) (c : Cyl) (P : Nat → Nat → Nat) (W : World) : Prop where
  tb : TB W x c
  bt : Blk W w.heap.size 72 #[.pointer (some ⟨x.g, 0, none⟩)]
  mp : MapPt W (w.heap.size + 1) P
  bo : Blk W (w.heap.size + 2) 100 #[.map (some (w.heap.size + 1))]
  ch : Chg x.ga x.gu w W
  sz : w.heap.size + 3 ≤ W.heap.size
  le : x.N ≤ w.heap.size
section
variable {w W W' : World} {x : TX} {c : Cyl} {P P' : Nat → Nat → Nat}
theorem PrW.grown (h : PrW w x c P W) {row : Option Nat} (hg : W.grownBy W' row) (hr : ∀ ρ, row = some ρ → w.heap.size + 3 ≤ ρ) : PrW w x c P W' := by
  have h1 := h.le
  have h2 := h.sz
  exact ⟨h.tb.grown hg (fun ρ e => by have := hr ρ e; omega), h.bt.grown hg (fun e => by have := hr _ e.symm; omega), h.mp.heap (hg.block _ (by omega) (fun e => by have := hr _ e.symm; omega)), h.bo.grown hg (fun e => by have := hr _ e.symm; omega), h.ch.grown_ge hg (fun ρ e => by have := hr ρ e; omega), Nat.le_trans h2 hg.size, h1⟩
theorem PrW.chg (h : PrW w x c P W) (ht : TB W' x c) (hc : Chg x.ga x.gu W W') : PrW w x c P W' := by
  have h1 := h.le
  have h2 := h.sz
  have h3 := h.tb.f.al
  have h4 := h.tb.f.ul
  exact ⟨ht, hc.blk h.bt (by omega) (by omega), h.mp.heap (hc.block _ (by omega) (by omega) (by omega)), hc.blk h.bo (by omega) (by omega), h.ch.trans hc, Nat.le_trans h2 hc.size, h1⟩
theorem PrW.up (h : PrW w x c P W) (hg : W.grownBy W' (some (w.heap.size + 1))) (hm : MapPt W' (w.heap.size + 1) P') : PrW w x c P' W' := by
  have h1 := h.le
  exact ⟨h.tb.grown hg (fun ρ e => by injection e; omega), h.bt.grown hg (fun e => by injection e; omega), hm, h.bo.grown hg (fun e => by injection e; omega), h.ch.grown_ge hg (fun ρ e => by injection e; omega), Nat.le_trans h.sz hg.size, h1⟩
theorem PrW.same (h : PrW w x c P W) (e : ∀ i k, P' i k = P i k) : PrW w x c P' W := { h with mp := h.mp.same e }
end
end Go.Proofs.Ytjjjockfppomdaa
