/- The table: its cells. Contracts of the table: end, meets. -/
import Derived.Test.YtjjjockfppomdaaChkA
import Derived.Test.YtjjjockfppomdaaRefE
import Derived.Test.YtjjjockfppomdaaTail
namespace Go.Proofs.Ytjjjockfppomdaa
open Go.RowKit Go.Shelf
set_option linter.unusedVariables false

def fcell (V : Nat → Nat → Int) (i : Nat) : Value := .int .i64 (V (i / 16) (i % 16))
def tcells (c : Cyl) (pa : Option Addr) (pc : Nat) (sv : Value) (V : Nat → Nat → Int) (ga gu : Nat) : Array Value :=
  #[.slice pa c.pcs.length pc, .int .i64 c.off, .int .i64 c.slo, .int .i64 c.shi, sv] ++ ((List.range 256).map (fcell V)).toArray ++ #[.map (some ga), .map (some gu)]

theorem tcells_zero (p : Value) (o l h : Int) (a u : Value) :
    ((((((Try.zeroCells80.setIfInBounds 0 p).setIfInBounds 1 (.int .i64 o)).setIfInBounds 2 (.int .i64 l)).setIfInBounds 3 (.int .i64 h)).setIfInBounds 261 a).setIfInBounds 262 u) =
    #[p, .int .i64 o, .int .i64 l, .int .i64 h, .slice none 0 0] ++ ((List.range 256).map (fcell fun _ _ => 0)).toArray ++ #[a, u] := by
  kernel_rfl

section
variable {c : Cyl} {pa : Option Addr} {pc ga gu : Nat} {sv sv' : Value} {V V' : Nat → Nat → Int}
theorem tcells_size : (tcells c pa pc sv V ga gu).size = 263 := by simp [tcells]
theorem tget (i : Nat) :
    (tcells c pa pc sv V ga gu)[i]? = if i < 5 then (#[.slice pa c.pcs.length pc, .int .i64 c.off, .int .i64 c.slo, .int .i64 c.shi, sv] : Array Value)[i]? else if i < 261 then some (fcell V (i - 5)) else if i = 261 then some (.map (some ga)) else if i = 262 then some (.map (some gu)) else none := by
  have hs1 : (#[.slice pa c.pcs.length pc, .int .i64 c.off, .int .i64 c.slo, .int .i64 c.shi, sv] : Array Value).size = 5 := rfl
  have hs2 : (((List.range 256).map (fcell V)).toArray).size = 256 := by simp
  unfold tcells
  by_cases h5 : i < 5
  · rw [if_pos h5, Array.getElem?_append_left (by rw [Array.size_append, hs1, hs2]; omega), Array.getElem?_append_left (by rw [hs1]; omega)]
  · rw [if_neg h5]
    by_cases h6 : i < 261
    · rw [if_pos h6, Array.getElem?_append_left (by rw [Array.size_append, hs1, hs2]; omega), Array.getElem?_append_right (by rw [hs1]; omega), hs1]
      simp only [List.getElem?_toArray, List.getElem?_map]
      rw [List.getElem?_range (by omega)]
      rfl
    · rw [if_neg h6, Array.getElem?_append_right (by rw [Array.size_append, hs1, hs2]; omega), Array.size_append, hs1, hs2]
      by_cases h7 : i = 261
      · rw [if_pos h7, h7]; rfl
      · rw [if_neg h7]
        by_cases h8 : i = 262
        · rw [if_pos h8, h8]; rfl
        · rw [if_neg h8]
          exact Array.getElem?_eq_none (by simp; omega)
theorem tc_row (i k : Nat) (hi : i < 16) (hk : k < 16) : (tcells c pa pc sv V ga gu)[5 + i * 16 + k]? = some (.int .i64 (V i k)) := by
  have h2 : (5 + i * 16 + k - 5) / 16 = i := by omega
  have h3 : (5 + i * 16 + k - 5) % 16 = k := by omega
  rw [tget, if_neg (by omega), if_pos (by omega), fcell, h2, h3]
theorem tc_set (i k : Nat) (x : Int) (hi : i < 16) (hk : k < 16) (hV : ∀ i' k', i' < 16 → k' < 16 → V' i' k' = if i' = i ∧ k' = k then x else V i' k') :
    (tcells c pa pc sv V ga gu).setIfInBounds (5 + i * 16 + k) (.int .i64 x) = tcells c pa pc sv V' ga gu := by
  apply Array.ext_getElem?
  intro j
  rw [Array.getElem?_setIfInBounds, tget, tget, tcells_size]
  by_cases hj : 5 + i * 16 + k = j
  · subst hj
    have h2 : (5 + i * 16 + k - 5) / 16 = i := by omega
    have h3 : (5 + i * 16 + k - 5) % 16 = k := by omega
    rw [if_pos rfl, if_pos (by omega), if_neg (by omega), if_pos (by omega), fcell, h2, h3, hV i k hi hk, if_pos ⟨rfl, rfl⟩]
  · rw [if_neg hj]
    by_cases h5 : j < 5
    · rw [if_pos h5, if_pos h5]
    · rw [if_neg h5, if_neg h5]
      by_cases h6 : j < 261
      · rw [if_pos h6, if_pos h6, fcell, fcell, hV _ _ (by omega) (by omega), if_neg (by omega)]
      · rw [if_neg h6, if_neg h6]
theorem tc_sets : (tcells c pa pc sv V ga gu).setIfInBounds 4 sv' = tcells c pa pc sv' V ga gu := by
  apply Array.ext_getElem?
  intro j
  rw [Array.getElem?_setIfInBounds, tget, tget, tcells_size]
  by_cases hj : 4 = j
  · subst hj
    rw [if_pos rfl, if_pos (by omega), if_pos (by omega)]; rfl
  · rw [if_neg hj]
    by_cases h5 : j < 5
    · rw [if_pos h5, if_pos h5]
      rcases j with _ | _ | _ | _ | _ | j
      · rfl
      · rfl
      · rfl
      · rfl
      · omega
      · omega
    · rw [if_neg h5, if_neg h5]
end

/-- the cells of a table in block g -/
def TC (W : World) (g : Nat) (c : Cyl) (pa : Option Addr) (pc : Nat) (sv : Value) (V : Nat → Nat → Int) (ga gu : Nat) : Prop := Blk W g 80 (tcells c pa pc sv V ga gu)
section
variable {W W' : World} {g pc ga gu : Nat} {c : Cyl} {pa : Option Addr} {sv sv' : Value} {V V' : Nat → Nat → Int}
theorem TC.c5 (h : TC W g c pa pc sv V ga gu) :
    W.cell? ⟨g, 0, none⟩ = some (.slice pa c.pcs.length pc) ∧ W.cell? ⟨g, 1, none⟩ = some (.int .i64 c.off) ∧ W.cell? ⟨g, 2, none⟩ = some (.int .i64 c.slo) ∧ W.cell? ⟨g, 3, none⟩ = some (.int .i64 c.shi) ∧ W.cell? ⟨g, 4, none⟩ = some sv := by
  refine ⟨?_, ?_, ?_, ?_, ?_⟩ <;> (rw [Blk.cell h, tget]; rfl)
theorem TC.at_ (h : TC W g c pa pc sv V ga gu) {i k : Nat} (hi : i < 16) (hk : k < 16) : W.cell? ⟨g, 5 + i * 16 + k, none⟩ = some (.int .i64 (V i k)) := by
  rw [Blk.cell h]; exact tc_row i k hi hk
theorem TC.ma (h : TC W g c pa pc sv V ga gu) : W.cell? ⟨g, 261, none⟩ = some (.map (some ga)) := by
  rw [Blk.cell h, tget]; rfl
theorem TC.mu (h : TC W g c pa pc sv V ga gu) : W.cell? ⟨g, 262, none⟩ = some (.map (some gu)) := by
  rw [Blk.cell h, tget]; rfl
theorem TC.frozen (h : TC W g c pa pc sv V ga gu) (i : Nat) : W.frozen? ⟨g, i, none⟩ = false := Blk.frozen h i
theorem TC.lt (h : TC W g c pa pc sv V ga gu) : g < W.heap.size := Blk.lt h
theorem TC.call (h : TC W g c pa pc sv V ga gu) (hb : Below W.heap.size W W') : TC W' g c pa pc sv V ga gu := Blk.call h hb
theorem TC.belowB {B : Nat} (h : TC W g c pa pc sv V ga gu) (hb : Below B W W') (hg : g < B) : TC W' g c pa pc sv V ga gu := Blk.below h hb hg
theorem TC.set_ (h : TC W g c pa pc sv V ga gu) {i k : Nat} {x : Int} (hi : i < 16) (hk : k < 16) (hV : ∀ i' k', i' < 16 → k' < 16 → V' i' k' = if i' = i ∧ k' = k then x else V i' k') :
    TC (W.setCell ⟨g, 5 + i * 16 + k, none⟩ (.int .i64 x)) g c pa pc sv V' ga gu := by
  unfold TC
  rw [← tc_set (V := V) i k x hi hk hV]
  exact Blk.set_ h _ _
theorem TC.sets (h : TC W g c pa pc sv V ga gu) (sv' : Value) : TC (W.setCell ⟨g, 4, none⟩ sv') g c pa pc sv' V ga gu := by
  unfold TC
  rw [← tc_sets (sv := sv)]
  exact Blk.set_ h _ _
theorem TC.far (h : TC W g c pa pc sv V ga gu) {p : Addr} (hp : g ≠ p.block) (u : Value) : TC (W.setCell p u) g c pa pc sv V ga gu := Blk.far h hp u
end
end Go.Proofs.Ytjjjockfppomdaa

namespace Go.Proofs.Ytjjjockfppomdaa
open Go.RowKit Go.Shelf
set_option linter.unusedVariables false

/-- the end of a step: false: where it begins; true: where it ends -/
def endOf (c : Cyl) (s : St) (wb : Bool) : En := if wb then fin c s else beg c s
theorem endOf_eq (c : Cyl) (k : Nat) (t wb : Bool) {p : Pc} (h : c.pcs[k]? = some p) : endOf c ⟨k, t⟩ wb = if (t == wb) = true then p.a else p.b := by
  have hp : pcAt c (k : Int) = p := by unfold pcAt; rw [Int.toNat_natCast, h]; rfl
  unfold endOf beg fin
  rw [hp]
  cases t <;> cases wb <;> rfl

set_option maxRecDepth 100000 in
set_option maxHeartbeats 1600000 in
theorem end_ok (c : Cyl) (k : Nat) (t wb : Bool) (g B pc ga gu : Nat) (pa : Option Addr) (sv : Value) (V : Nat → Nat → Int) (w : World) (hT : TC w g c pa pc sv V ga gu) (hp : Arr w B 7 (.slice pa c.pcs.length pc) c.pcs pccell) (hB : B ≤ w.heap.size) (hk : k < c.pcs.length) (hlen : c.pcs.length ≤ 8) :
    Calls Try.prog 75 #[.pointer (some ⟨g, 0, none⟩), .agg #[.int .i64 (k : Int), .bool t], .int .i64 (if wb then 1 else 0)] w fun r w' => r = .returned (enV (endOf c ⟨k, t⟩ wb)) ∧ Below w.heap.size w w' := by
  have hb := (Below.refl w.heap.size w).alloc (Nat.le_refl _) (.cells #[.int .i64 (k : Int), .bool t] 28)
  have hS := Blk.new w 28 #[.int .i64 (k : Int), .bool t]
  have hT1 := hT.call hb
  have hp1 := (hp.more hB).below hb
  have hz : (w.alloc (.cells #[.int .i64 (k : Int), .bool t] 28)).heap.size = w.heap.size + 1 := by simp
  have hg := hT.lt
  clear hT hp
  go_enter Try.func75, Try.ntmps75
  go_upto_region 1 with (fail)
  generalize w.alloc (.cells #[.int .i64 (k : Int), .bool t] 28) = W at *
  have hbA := (Below.refl W.heap.size W).alloc (Nat.le_refl _) (.cells #[.int .i64 0, .int .i64 0, .int .i64 0] 59)
  have hR := Blk.new W 59 #[.int .i64 0, .int .i64 0, .int .i64 0]
  rw [hz] at hR
  replace hT1 := hT1.call hbA
  replace hS := hS.call hbA
  replace hp1 := hp1.below (hbA.mono hb.size)
  replace hb := hb.trans (hbA.mono hb.size)
  clear hbA hz
  generalize W.alloc (.cells #[.int .i64 0, .int .i64 0, .int .i64 0] 59) = W2 at *
  obtain ⟨b, off, p, hpa, hpb, hp1', c0, c1, c2, c3, c4, c5, c6⟩ := piece_at hp1 hk
  subst hpa
  have HE : Hid (endOf c ⟨k, t⟩ wb = if (t == wb) = true then p.a else p.b) := endOf_eq c k t wb hp1'
  obtain ⟨q0, q1, q2, q3, q4⟩ := hT1.c5
  have s0 := hS.cell 0
  have s1 := hS.cell 1
  simp at s0 s1
  have r0 := hR.cell 0
  have r1 := hR.cell 1
  have r2 := hR.cell 2
  simp at r0 r1 r2
  have hrz := fun i => hR.frozen i
  have a1 : (k : Int) < (c.pcs.length : Int) := by omega
  clear hp1 hp1'
  cases t
  · cases wb
    · simp only [if_true, if_false, Bool.false_eq_true, reduceIte]
      go_upto_region 3 with (fail)
      go_wp2_with fail
      go_still_tail 12, (by kernel_rfl)
      change wpList _ _ _ _ _ (W2).drew
      go_wp2
      have hR2 := hR.put3 (.int .i64 p.a.lo) (.int .i64 p.a.hi) (.int .i64 p.a.pl)
      have hb2 := below_put3 (g := w.heap.size + 1) hb (by omega) (.int .i64 p.a.lo) (.int .i64 p.a.hi) (.int .i64 p.a.pl)
      replace hR2 := hR2.drew
      replace hb2 := hb2.drew
      clear hR hrz r0 r1 r2
      generalize (((W2.setCell ⟨w.heap.size + 1, 0, none⟩ (.int .i64 p.a.lo)).setCell ⟨w.heap.size + 1, 1, none⟩ (.int .i64 p.a.hi)).setCell ⟨w.heap.size + 1, 2, none⟩ (.int .i64 p.a.pl)).drew = W3 at *
      have t0 := hR2.cell 0
      have t1 := hR2.cell 1
      have t2 := hR2.cell 2
      simp at t0 t1 t2
      exact bodyPost_ret (v := enV p.a) (by simp [results, Try.results75, go_sem, t0, t1, t2, enV]) rfl ⟨by rw [HE.out]; rfl, hb2⟩
    · simp only [if_true, if_false, Bool.false_eq_true, reduceIte]
      go_upto_region 3 with (fail)
      go_wp2_with fail
      go_still_tail 12, (by kernel_rfl)
      change wpList _ _ _ _ _ (W2).drew
      go_wp2
      have hR2 := hR.put3 (.int .i64 p.b.lo) (.int .i64 p.b.hi) (.int .i64 p.b.pl)
      have hb2 := below_put3 (g := w.heap.size + 1) hb (by omega) (.int .i64 p.b.lo) (.int .i64 p.b.hi) (.int .i64 p.b.pl)
      replace hR2 := hR2.drew
      replace hb2 := hb2.drew
      clear hR hrz r0 r1 r2
      generalize (((W2.setCell ⟨w.heap.size + 1, 0, none⟩ (.int .i64 p.b.lo)).setCell ⟨w.heap.size + 1, 1, none⟩ (.int .i64 p.b.hi)).setCell ⟨w.heap.size + 1, 2, none⟩ (.int .i64 p.b.pl)).drew = W3 at *
      have t0 := hR2.cell 0
      have t1 := hR2.cell 1
      have t2 := hR2.cell 2
      simp at t0 t1 t2
      exact bodyPost_ret (v := enV p.b) (by simp [results, Try.results75, go_sem, t0, t1, t2, enV]) rfl ⟨by rw [HE.out]; rfl, hb2⟩
  · cases wb
    · simp only [if_true, if_false, Bool.false_eq_true, reduceIte]
      go_upto_region 3 with (fail)
      go_wp2_with fail
      go_still_tail 12, (by kernel_rfl)
      change wpList _ _ _ _ _ (W2).drew
      go_wp2
      have hR2 := hR.put3 (.int .i64 p.b.lo) (.int .i64 p.b.hi) (.int .i64 p.b.pl)
      have hb2 := below_put3 (g := w.heap.size + 1) hb (by omega) (.int .i64 p.b.lo) (.int .i64 p.b.hi) (.int .i64 p.b.pl)
      replace hR2 := hR2.drew
      replace hb2 := hb2.drew
      clear hR hrz r0 r1 r2
      generalize (((W2.setCell ⟨w.heap.size + 1, 0, none⟩ (.int .i64 p.b.lo)).setCell ⟨w.heap.size + 1, 1, none⟩ (.int .i64 p.b.hi)).setCell ⟨w.heap.size + 1, 2, none⟩ (.int .i64 p.b.pl)).drew = W3 at *
      have t0 := hR2.cell 0
      have t1 := hR2.cell 1
      have t2 := hR2.cell 2
      simp at t0 t1 t2
      exact bodyPost_ret (v := enV p.b) (by simp [results, Try.results75, go_sem, t0, t1, t2, enV]) rfl ⟨by rw [HE.out]; rfl, hb2⟩
    · simp only [if_true, if_false, Bool.false_eq_true, reduceIte]
      go_upto_region 3 with (fail)
      go_wp2_with fail
      go_still_tail 12, (by kernel_rfl)
      change wpList _ _ _ _ _ (W2).drew
      go_wp2
      have hR2 := hR.put3 (.int .i64 p.a.lo) (.int .i64 p.a.hi) (.int .i64 p.a.pl)
      have hb2 := below_put3 (g := w.heap.size + 1) hb (by omega) (.int .i64 p.a.lo) (.int .i64 p.a.hi) (.int .i64 p.a.pl)
      replace hR2 := hR2.drew
      replace hb2 := hb2.drew
      clear hR hrz r0 r1 r2
      generalize (((W2.setCell ⟨w.heap.size + 1, 0, none⟩ (.int .i64 p.a.lo)).setCell ⟨w.heap.size + 1, 1, none⟩ (.int .i64 p.a.hi)).setCell ⟨w.heap.size + 1, 2, none⟩ (.int .i64 p.a.pl)).drew = W3 at *
      have t0 := hR2.cell 0
      have t1 := hR2.cell 1
      have t2 := hR2.cell 2
      simp at t0 t1 t2
      exact bodyPost_ret (v := enV p.a) (by simp [results, Try.results75, go_sem, t0, t1, t2, enV]) rfl ⟨by rw [HE.out]; rfl, hb2⟩

set_option maxRecDepth 100000 in
set_option maxHeartbeats 1600000 in
theorem meets_ok (c : Cyl) (x y : En) (g pc ga gu : Nat) (pa : Option Addr) (sv : Value) (V : Nat → Nat → Int) (w : World) (hT : TC w g c pa pc sv V ga gu) (hx : BdE x) (hy : BdE y) :
    Calls Try.prog 74 #[.pointer (some ⟨g, 0, none⟩), enV x, enV y] w fun r w' => r = .returned (.bool (meets c x y)) ∧ Below w.heap.size w w' := by
  obtain ⟨⟨hx1, hx2, hx3⟩, hx4, hx5⟩ := hx
  obtain ⟨⟨hy1, hy2, hy3⟩, hy4, hy5⟩ := hy
  have hb := (Below.refl w.heap.size w).alloc (Nat.le_refl _) (.cells #[.int .i64 x.lo, .int .i64 x.hi, .int .i64 x.pl] 59)
  have hX := Blk.new w 59 #[.int .i64 x.lo, .int .i64 x.hi, .int .i64 x.pl]
  have hT1 := hT.call hb
  have hz : (w.alloc (.cells #[.int .i64 x.lo, .int .i64 x.hi, .int .i64 x.pl] 59)).heap.size = w.heap.size + 1 := by simp
  have hg := hT.lt
  clear hT
  go_enter Try.func74, Try.ntmps74
  go_upto_region 1 with (fail)
  generalize w.alloc (.cells #[.int .i64 x.lo, .int .i64 x.hi, .int .i64 x.pl] 59) = W at *
  have hbA := (Below.refl W.heap.size W).alloc (Nat.le_refl _) (.cells #[.int .i64 y.lo, .int .i64 y.hi, .int .i64 y.pl] 59)
  have hY := Blk.new W 59 #[.int .i64 y.lo, .int .i64 y.hi, .int .i64 y.pl]
  rw [hz] at hY
  replace hT1 := hT1.call hbA
  replace hX := hX.call hbA
  replace hb := hb.trans (hbA.mono hb.size)
  clear hbA hz
  generalize W.alloc (.cells #[.int .i64 y.lo, .int .i64 y.hi, .int .i64 y.pl] 59) = W2 at *
  obtain ⟨q0, q1, q2, q3, q4⟩ := hT1.c5
  have x0 := hX.cell 0
  have x1 := hX.cell 1
  have x2 := hX.cell 2
  have y0 := hY.cell 0
  have y1 := hY.cell 1
  have y2 := hY.cell 2
  simp at x0 x1 x2 y0 y1 y2
  have e1 : IntKind.i64.wrap (y.pl - x.pl) = y.pl - x.pl := by rw [IntKind.wrap_i64]; omega
  have e2 : IntKind.i64.wrap (x.lo - y.hi) = x.lo - y.hi := by rw [IntKind.wrap_i64]; omega
  have e3 : IntKind.i64.wrap (y.lo - x.hi) = y.lo - x.hi := by rw [IntKind.wrap_i64]; omega
  have HQ : Hid (meets c x y = true ↔ ((x.lo - y.hi ≤ c.off ∧ y.lo - x.hi ≤ c.off) ∧ c.slo ≤ y.pl - x.pl) ∧ y.pl - x.pl ≤ c.shi) := by
    rw [Hid, meets]
    simp only [Bool.and_eq_true, decide_eq_true_eq]
  clear hX hY hT1 hx1 hx2 hx3 hx4 hx5 hy1 hy2 hy3 hy4 hy5
  go_wp2
  all_goals go_ret
  all_goals refine ⟨ret_b ?_, hb⟩
  all_goals (rw [Bool.eq_iff_iff, HQ.out]; simp; omega)
end Go.Proofs.Ytjjjockfppomdaa
