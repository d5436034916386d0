/- A wider cylinder, plain; a row of pieces of the call's own, with one cell set. -/
import Derived.Test.YtjjjockfppomdaaGrw
namespace Go.Proofs.Ytjjjockfppomdaa
open Go.RowKit Go.Shelf
set_option linter.unusedVariables false

/-- an end that is wider -/
def widE (x y : En) : Prop := y.lo ≤ x.lo ∧ x.hi ≤ y.hi ∧ y.pl = x.pl
theorem wider_of {c d : Cyl} {k : Nat} {p q : Pc} (hk : c.pcs[k]? = some p) (hd : d.pcs = c.pcs.set k q) (ha : widE p.a q.a) (hb : widE p.b q.b) (hl : q.loose = true) (h1 : c.off ≤ d.off) (h2 : d.slo ≤ c.slo) (h3 : c.shi ≤ d.shi) : Wider c d := by
  have hlen : d.pcs.length = c.pcs.length := by rw [hd, List.length_set]
  have hat : ∀ i : Int, 0 ≤ i → i < c.pcs.length → (widE (pcAt c i).a (pcAt d i).a ∧ widE (pcAt c i).b (pcAt d i).b) ∧ ((pcAt c i).loose = true → (pcAt d i).loose = true) := by
    intro i hi1 hi2
    obtain ⟨m, rfl⟩ := Int.eq_ofNat_of_zero_le hi1
    unfold pcAt
    rw [Int.toNat_natCast, hd, List.getElem?_set]
    by_cases hm : k = m
    · subst hm
      rw [if_pos rfl, if_pos (by omega), hk]
      exact ⟨⟨ha, hb⟩, fun _ => hl⟩
    · rw [if_neg hm]
      exact ⟨⟨⟨Int.le_refl _, Int.le_refl _, rfl⟩, ⟨Int.le_refl _, Int.le_refl _, rfl⟩⟩, fun h => h⟩
  refine ⟨hlen, fun s hs => ?_, fun x y hx hy h => ?_⟩
  · unfold isStep at hs ⊢
    simp only [Bool.and_eq_true, decide_eq_true_eq, Bool.or_eq_true, Bool.not_eq_true'] at hs ⊢
    obtain ⟨⟨g1, g2⟩, g3⟩ := hs
    refine ⟨⟨g1, by rw [hlen]; exact g2⟩, ?_⟩
    rcases g3 with g3 | g3
    · exact .inl g3
    · exact .inr ((hat s.p g1 g2).2 g3)
  · have hrange : ∀ s, isStep c s = true → 0 ≤ s.p ∧ s.p < c.pcs.length := fun s hs => by
      unfold isStep at hs
      simp only [Bool.and_eq_true, decide_eq_true_eq] at hs
      exact hs.1
    obtain ⟨⟨xa, xb⟩, -⟩ := hat x.p (hrange x hx).1 (hrange x hx).2
    obtain ⟨⟨ya, yb⟩, -⟩ := hat y.p (hrange y hy).1 (hrange y hy).2
    have hf : widE (fin c x) (fin d x) := by unfold fin; split <;> assumption
    have hg : widE (beg c y) (beg d y) := by unfold beg; split <;> assumption
    obtain ⟨f1, f2, f3⟩ := hf
    obtain ⟨g1, g2, g3⟩ := hg
    unfold fitsS meets at h ⊢
    simp only [Bool.and_eq_true, decide_eq_true_eq] at h ⊢
    omega

/-- a row of pieces, cell by cell -/
structure Row (W : World) (rb : Nat) (l : List Pc) : Prop where
  cell : ∀ i x, l[i]? = some x → ∀ j, j < 7 → W.cell? ⟨rb, i * 7 + j, none⟩ = some (pccell x j)
  blk : ∃ cs, Blk W rb 62 cs
theorem Row.call {W W' : World} {rb : Nat} {l : List Pc} (h : Row W rb l) {B : Nat} (hb : Below B W W') (hB : rb < B) : Row W' rb l := by
  obtain ⟨h1, cs, h2⟩ := h
  exact ⟨fun i x hx j hj => (hb.cell (p := ⟨rb, i * 7 + j, none⟩) hB).trans (h1 i x hx j hj), cs, h2.below hb hB⟩
theorem Row.set {W : World} {rb : Nat} {l : List Pc} (h : Row W rb l) {k : Nat} {p q : Pc} (hk : l[k]? = some p) {j0 : Nat} (hj0 : j0 < 7) (hq : ∀ j, j < 7 → j ≠ j0 → pccell q j = pccell p j) : Row (W.setCell ⟨rb, k * 7 + j0, none⟩ (pccell q j0)) rb (l.set k q) := by
  obtain ⟨h1, cs, h2⟩ := h
  have h3 := h2.set_ (k * 7 + j0) (pccell q j0)
  have hin : k * 7 + j0 < cs.size := by
    have := h1 k p hk j0 hj0
    rw [h2.cell] at this
    exact (Array.getElem?_eq_some_iff.1 this).1
  refine ⟨fun i x hx j hj => ?_, _, h3⟩
  rw [h3.cell, Array.getElem?_setIfInBounds]
  by_cases hik : i = k
  · subst hik
    rw [List.getElem?_set_self (by exact (List.getElem?_eq_some_iff.1 hk).1)] at hx
    injection hx with hx
    subst hx
    by_cases hjj : j = j0
    · subst hjj
      rw [if_pos rfl, if_pos hin]
    · rw [if_neg (by omega), ← h2.cell, h1 i p hk j hj, hq j hj hjj]
  · rw [List.getElem?_set_ne (fun e => hik e.symm)] at hx
    rw [if_neg (by omega), ← h2.cell]
    exact h1 i x hx j hj
theorem Row.arr {W : World} {rb n cap : Nat} {l : List Pc} (h : Row W rb l) (hn : n = l.length) (h1 : l.length ≤ cap) (h2 : cap ≤ 9223372036854775807) : Arr W W.heap.size 7 (.slice (some ⟨rb, 0, none⟩) n cap) l pccell := by
  subst hn
  obtain ⟨g1, cs, g2⟩ := h
  refine ⟨_, _, rfl, h1, h2, fun _ => ⟨rb, 0, rfl, g2.lt, fun i x hx j hj => ?_⟩⟩
  rw [Nat.zero_add]
  exact g1 i x hx j hj
theorem Row.of_own {W : World} {base n : Nat} {v : Value} {l : List Pc} (h : W.ownsRow base 62 7 v n (l.flatMap (cellsOf 7 pccell))) (hn : n = l.length) (hpos : 0 < n) :
    ∃ rb cap, v = .slice (some ⟨rb, 0, none⟩) n cap ∧ Row W rb l ∧ base ≤ rb ∧ n ≤ cap ∧ cap ≤ 9223372036854775807 := by
  rcases h.2 with ⟨_, h0⟩ | ⟨g, cap, cur, rfl, h1, h2, h3, h4, h5, h6⟩
  · omega
  · have hb : Blk W g 62 cur := h2
    refine ⟨g, cap, rfl, ⟨fun i x hx j hj => ?_, cur, hb⟩, h1, h3, h4⟩
    have := flat_get 7 pccell l i x hx j hj
    have hil := (List.getElem?_eq_some_iff.1 hx).1
    rw [← h6, List.getElem?_take, if_pos (by omega)] at this
    rw [hb.cell, ← this]
    simp
theorem Row.frozen {W : World} {rb : Nat} {l : List Pc} (h : Row W rb l) (i : Nat) : W.frozen? ⟨rb, i, none⟩ = false := by
  obtain ⟨-, cs, h2⟩ := h
  exact h2.frozen i
theorem Row.lt {W : World} {rb : Nat} {l : List Pc} (h : Row W rb l) : rb < W.heap.size := by
  obtain ⟨-, cs, h2⟩ := h
  exact h2.lt
theorem one_pcs (l : List Pc) : ∀ u ∈ l.flatMap (cellsOf 7 pccell), u.oneCell' = true := by
  intro u hu
  simp only [List.mem_flatMap, cellsOf, List.mem_map, List.mem_range] at hu
  obtain ⟨p, _, j, hj, rfl⟩ := hu
  have : j = 0 ∨ j = 1 ∨ j = 2 ∨ j = 3 ∨ j = 4 ∨ j = 5 ∨ j = 6 := by omega
  rcases this with rfl | rfl | rfl | rfl | rfl | rfl | rfl <;> rfl
theorem Blk.put4w {w : World} {g : Nat} {t : TypeId} {x0 x1 x2 x3 : Value} (h : Blk w g t #[x0, x1, x2, x3]) (a b c d : Value) :
    Blk ((((w.setCell ⟨g, 0, none⟩ a).setCell ⟨g, 1, none⟩ b).setCell ⟨g, 2, none⟩ c).setCell ⟨g, 3, none⟩ d) g t #[a, b, c, d] := by
  simpa using (((h.set_ 0 a).set_ 1 b).set_ 2 c).set_ 3 d
theorem below_put4 {B : Nat} {v w : World} {g : Nat} (h : Below B v w) (hB : B ≤ g) (a b c d : Value) :
    Below B v ((((w.setCell ⟨g, 0, none⟩ a).setCell ⟨g, 1, none⟩ b).setCell ⟨g, 2, none⟩ c).setCell ⟨g, 3, none⟩ d) :=
  (((h.setCell (p := ⟨g, 0, none⟩) hB a).setCell (p := ⟨g, 1, none⟩) hB b).setCell (p := ⟨g, 2, none⟩) hB c).setCell (p := ⟨g, 3, none⟩) hB d
theorem Row.set_far {W : World} {rb : Nat} {l : List Pc} (h : Row W rb l) {g i : Nat} (hne : rb ≠ g) (v : Value) : Row (W.setCell ⟨g, i, none⟩ v) rb l := by
  obtain ⟨h1, cs, h2⟩ := h
  have h3 := h2.far (p := ⟨g, i, none⟩) hne v
  exact ⟨fun k x hx j hj => by rw [h3.cell, ← h2.cell]; exact h1 k x hx j hj, cs, h3⟩
def setE (p : Pc) (e : Nat) (lo hi : Int) : Pc := if e = 0 then ⟨⟨lo, hi, p.a.pl⟩, p.b, p.loose⟩ else ⟨p.a, ⟨lo, hi, p.b.pl⟩, p.loose⟩
theorem Row.setE {W : World} {rb : Nat} {l : List Pc} (h : Row W rb l) {k e : Nat} {p : Pc} (hk : l[k]? = some p) (he : e = 0 ∨ e = 1) (lo hi : Int) :
    Row ((W.setCell ⟨rb, k * 7 + e * 3, none⟩ (.int .i64 lo)).setCell ⟨rb, k * 7 + e * 3 + 1, none⟩ (.int .i64 hi)) rb (l.set k (Go.Proofs.Ytjjjockfppomdaa.setE p e lo hi)) := by
  have hkl := (List.getElem?_eq_some_iff.1 hk).1
  rcases he with rfl | rfl
  · have h1 := h.set (q := ⟨⟨lo, p.a.hi, p.a.pl⟩, p.b, p.loose⟩) hk (j0 := 0) (by omega) (fun j h1 h2 => by
      have : j = 1 ∨ j = 2 ∨ j = 3 ∨ j = 4 ∨ j = 5 ∨ j = 6 := by omega
      rcases this with rfl | rfl | rfl | rfl | rfl | rfl <;> rfl)
    have h2 := h1.set (k := k) (p := ⟨⟨lo, p.a.hi, p.a.pl⟩, p.b, p.loose⟩) (q := ⟨⟨lo, hi, p.a.pl⟩, p.b, p.loose⟩) (List.getElem?_set_self hkl) (j0 := 1) (by omega) (fun j h1 h2 => by
      have : j = 0 ∨ j = 2 ∨ j = 3 ∨ j = 4 ∨ j = 5 ∨ j = 6 := by omega
      rcases this with rfl | rfl | rfl | rfl | rfl | rfl <;> rfl)
    rw [List.set_set] at h2
    exact h2
  · have h1 := h.set (q := ⟨p.a, ⟨lo, p.b.hi, p.b.pl⟩, p.loose⟩) hk (j0 := 3) (by omega) (fun j h1 h2 => by
      have : j = 0 ∨ j = 1 ∨ j = 2 ∨ j = 4 ∨ j = 5 ∨ j = 6 := by omega
      rcases this with rfl | rfl | rfl | rfl | rfl | rfl <;> rfl)
    have h2 := h1.set (k := k) (p := ⟨p.a, ⟨lo, p.b.hi, p.b.pl⟩, p.loose⟩) (q := ⟨p.a, ⟨lo, hi, p.b.pl⟩, p.loose⟩) (List.getElem?_set_self hkl) (j0 := 4) (by omega) (fun j h1 h2 => by
      have : j = 0 ∨ j = 1 ∨ j = 2 ∨ j = 3 ∨ j = 5 ∨ j = 6 := by omega
      rcases this with rfl | rfl | rfl | rfl | rfl | rfl <;> rfl)
    rw [List.set_set] at h2
    exact h2
theorem setE_wid {p : Pc} {e : Nat} {lo hi : Int} {E : En} (hE : E = if e = 0 then p.a else p.b) (he : e = 0 ∨ e = 1) (h1 : lo ≤ E.lo) (h2 : E.hi ≤ hi) :
    widE p.a (setE ⟨p.a, p.b, true⟩ e lo hi).a ∧ widE p.b (setE ⟨p.a, p.b, true⟩ e lo hi).b ∧ (setE ⟨p.a, p.b, true⟩ e lo hi).loose = true := by
  subst hE
  rcases he with rfl | rfl
  · exact ⟨⟨h1, h2, rfl⟩, ⟨Int.le_refl _, Int.le_refl _, rfl⟩, rfl⟩
  · exact ⟨⟨Int.le_refl _, Int.le_refl _, rfl⟩, ⟨h1, h2, rfl⟩, rfl⟩
end Go.Proofs.Ytjjjockfppomdaa
