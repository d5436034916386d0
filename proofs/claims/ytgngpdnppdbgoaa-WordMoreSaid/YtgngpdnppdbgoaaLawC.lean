/- Literals in memory; the laws' Dialects, Lines; the examples' values; Works. -/
import Derived.Test.YtgngpdnppdbgoaaLawA
import Derived.Test.YtgngpdnppdbgoaaPas
namespace Go.Proofs.Ytgngpdnppdbgoaa
set_option linter.unusedVariables false
set_option maxRecDepth 1000000
def exB : List (Int × Int) := [(2, 5)]
def exL : List (List Int) := [[1, 2, 3, 4], [1, 3, 5, 4]]
theorem ex1 : alikeM exB 2 5 = (true, 0) := by decide +kernel
theorem ex2 : alikeM exB 2 3 = (false, 0) := by decide +kernel
theorem ex3 : matchesM exB exL = ([[0, 0], [1, 2], [2, 1], [3, 3]], 0) := by decide +kernel
theorem ex4 : levelsM exB exL = ([1, 2, 2, 3], 0) := by decide +kernel
theorem ex5 : longestM exB exL = ([[0, 0], [1, 2], [3, 3]], 0) := by decide +kernel
theorem ex6 : countM exB exL = (2, 0) := by decide +kernel
theorem ex7 : certainM exB exL = ([[0, 0], [3, 3]], 0) := by decide +kernel
theorem ex8 : gradesM exB exL 1 = ([2, 1, 1, 2], 0) := by decide +kernel
theorem ex9 : checkLv exB exL [1, 2, 3, 4] = (4, 0) := by decide +kernel
theorem ex10 : checkPass exB exL [[1, 2], [2, 1]] = 24 := by decide +kernel
theorem ex11 : checkPass exB exL [[0, 0], [2, 1], [3, 3]] = 0 := by decide +kernel
theorem ex12 : checkPass exB exL [[0, 1]] = 20 := by decide +kernel
theorem ex13 : checkLv exB exL [1, 2, 2, 2] = (0, 14) := by decide +kernel
theorem ex14 : longestM exB [[1, 2, 3, 4], [1, 3, 5, 4], [4, 1]] = ([[0, 0, 1]], 0) := by decide +kernel
theorem ex15 : gradesM exB exL 0 = ([2, 1, 1, 2], 0) := by decide +kernel
end Go.Proofs.Ytgngpdnppdbgoaa

namespace Go.Proofs.Ytgngpdnppdbgoaa
open Go.RowKit Go.Shelf
set_option linter.unusedVariables false

/-! ### literals -/
def rowO (l : List Int) : Obj := .cells (l.map (Value.int .i64)).toArray 3
def rowsW : World → List (List Int) → World
  | w, [] => w
  | w, l :: r => rowsW (w.alloc (rowO l)) r
def headsV : Nat → List (List Int) → List Value
  | _, [] => []
  | n, l :: r => .slice (some ⟨n, 0, none⟩) l.length l.length :: headsV (n + 1) r
theorem headsV_len : ∀ (n : Nat) (ls : List (List Int)), (headsV n ls).length = ls.length
  | _, [] => rfl
  | n, l :: r => by rw [headsV, List.length_cons, List.length_cons, headsV_len (n + 1) r]
theorem rowsW_size : ∀ (w : World) (ls : List (List Int)), (rowsW w ls).heap.size = w.heap.size + ls.length
  | w, [] => rfl
  | w, l :: r => by rw [rowsW, rowsW_size (w.alloc (rowO l)) r]; simp; omega
theorem rowsW_below : ∀ (w : World) (ls : List (List Int)), Below w.heap.size w (rowsW w ls)
  | w, [] => Below.refl _ _
  | w, l :: r => by
    have h1 := (Below.refl w.heap.size w).alloc (Nat.le_refl _) (rowO l)
    exact h1.trans ((rowsW_below (w.alloc (rowO l)) r).mono h1.size)
theorem heads_arr : ∀ (w : World) (ls : List (List Int)), (∀ l ∈ ls, l.length ≤ 100) → ∀ x ∈ (headsV w.heap.size ls).zip ls, Arr (rowsW w ls) (rowsW w ls).heap.size 1 x.1 x.2 icell
  | w, [], _, x, hx => by simp [headsV] at hx
  | w, l :: r, hl, x, hx => by
    rw [headsV, List.zip_cons_cons] at hx
    have hz : (w.alloc (rowO l)).heap.size = w.heap.size + 1 := by simp
    have ih := heads_arr (w.alloc (rowO l)) r fun m hm => hl m (List.mem_cons_of_mem _ hm)
    rw [hz] at ih
    rcases List.mem_cons.1 hx with rfl | hx
    · have hb := Blk.new w 3 (l.map (Value.int .i64)).toArray
      have hb2 : Blk (rowsW (w.alloc (rowO l)) r) w.heap.size 3 (l.map (Value.int .i64)).toArray := hb.call (rowsW_below (w.alloc (rowO l)) r)
      have := hl l (List.mem_cons_self ..)
      exact Arr.lit hb2 hb2.lt rfl (Nat.le_refl _) (by omega) (by rw [flat_i])
    · exact ih x hx
/-- a literal list of lists -/
def litW (w : World) (ls : List (List Int)) (te : TypeId) : World := (rowsW w ls).alloc (.cells (headsV w.heap.size ls).toArray te)
theorem lit_ok (w : World) (ls : List (List Int)) (te : TypeId) (hl : ∀ l ∈ ls, l.length ≤ 100) (hn : ls.length ≤ 100) : LLi (litW w ls te) (.slice (some ⟨w.heap.size + ls.length, 0, none⟩) ls.length ls.length) ls ∧ Below w.heap.size w (litW w ls te) ∧
    (litW w ls te).ownsRow (w.heap.size + ls.length) te 1 (.slice (some ⟨w.heap.size + ls.length, 0, none⟩) ls.length ls.length) ls.length (headsV w.heap.size ls) := by
  have hb := rowsW_below w ls
  have hb2 := (Below.refl (rowsW w ls).heap.size (rowsW w ls)).alloc (Nat.le_refl _) (.cells (headsV w.heap.size ls).toArray te)
  have hz := rowsW_size w ls
  have hB := hb.trans (hb2.mono hb.size)
  have hbl := Blk.new (rowsW w ls) te (headsV w.heap.size ls).toArray
  rw [hz] at hbl
  refine ⟨⟨(headsV w.heap.size ls).zip ls, ?_, ?_, fun x hx => ?_⟩, hB, ⟨by rw [headsV_len]; omega, .inr ⟨_, ls.length, (headsV w.heap.size ls).toArray, rfl, Nat.le_refl _, hbl, Nat.le_refl _, by simp only [maxLen]; omega, by simp [headsV_len], by rw [Nat.mul_one]; exact List.take_of_length_le (by simp [headsV_len])⟩⟩⟩
  · rw [List.map_snd_zip]
    rw [headsV_len]
    exact Nat.le_refl _
  · refine Arr.lit (t := te) (cs := (headsV w.heap.size ls).toArray) hbl hbl.lt ?_ ?_ ?_ ?_
    · rw [List.length_zip, headsV_len, Nat.min_self]
    · rw [List.length_zip, headsV_len, Nat.min_self]; exact Nat.le_refl _
    · omega
    · rw [flat_vl, List.map_fst_zip]
      rw [headsV_len]
      exact Nat.le_refl _
  · exact (heads_arr w ls hl x hx).call hb2
theorem LLB.len_ {w : World} {B n c : Nat} {A : Option Addr} {ls : List (List Int)} (h : LLB w B (.slice A n c) ls) : n = ls.length := by
  obtain ⟨A', c', e, -⟩ := h.form
  injection e

set_option maxRecDepth 100000 in
set_option maxHeartbeats 800000 in
theorem ldial_ok (w : World) : Calls Try.prog 45 #[] w fun r w' => ∃ A, r = .returned (.agg #[.slice A 1 1]) ∧ Arr w' w'.heap.size 2 (.slice A 1 1) exB p2cell ∧ Below w.heap.size w w' := by
  go_enter Try.func45, Try.ntmps45
  go_upto_region 1 with (fail)
  have hR := Blk.new w 24 #[.slice none 0 0]
  have hb := (Below.refl w.heap.size w).alloc (Nat.le_refl _) (.cells #[.slice none 0 0] 24)
  generalize w.alloc (.cells #[.slice none 0 0] 24) = W at *
  have hlt := hR.lt
  have r0 := hR.cell 0
  have rz := hR.frozen 0
  simp at r0
  go_wp2
  have hz : (W.setCell ⟨w.heap.size, 0, none⟩ (.slice (some ⟨W.heap.size, 0, none⟩) 1 1)).heap.size = W.heap.size := by simp
  have hR2 := hR.set_ 0 (.slice (some ⟨W.heap.size, 0, none⟩) 1 1)
  have hB2 := hb.setCell (p := ⟨w.heap.size, 0, none⟩) (Nat.le_refl _) (.slice (some ⟨W.heap.size, 0, none⟩) 1 1)
  clear hR hb r0 rz
  generalize W.setCell ⟨w.heap.size, 0, none⟩ (.slice (some ⟨W.heap.size, 0, none⟩) 1 1) = W2 at *
  have hS := Blk.new W2 57 #[.int .i64 2, .int .i64 5]
  have hb2 := (Below.refl W2.heap.size W2).alloc (Nat.le_refl _) (.cells #[.int .i64 2, .int .i64 5] 57)
  have hR3 := hR2.call hb2
  have hB3 := hB2.trans (hb2.mono hB2.size)
  rw [hz] at hS
  clear hR2 hB2 hb2
  generalize W2.alloc (.cells #[.int .i64 2, .int .i64 5] 57) = V at *
  have r0 := hR3.cell 0
  simp at r0
  have hA : Arr V V.heap.size 2 (.slice (some ⟨W.heap.size, 0, none⟩) 1 1) exB p2cell := Arr.lit hS hS.lt rfl (by simp [exB]) (by omega) (by simp [exB, cellsOf, List.range_succ, p2cell])
  exact bodyPost_ret (v := .agg #[.slice (some ⟨W.heap.size, 0, none⟩) 1 1]) (by simp [results, Try.results45, go_sem, r0]) rfl ⟨_, rfl, hA, hB3⟩

set_option maxRecDepth 100000 in
set_option maxHeartbeats 800000 in
theorem llines_ok (w : World) : Calls Try.prog 46 #[] w fun r w' => ∃ g vs, r = .returned (.slice (some ⟨g, 0, none⟩) 2 2) ∧ LLi w' (.slice (some ⟨g, 0, none⟩) 2 2) exL ∧ w'.ownsRow w.heap.size 38 1 (.slice (some ⟨g, 0, none⟩) 2 2) 2 vs ∧ Below w.heap.size w w' := by
  have h := lit_ok w exL 38 (by decide) (by decide)
  have e : litW w exL 38 = ((w.alloc (.cells #[.int .i64 1, .int .i64 2, .int .i64 3, .int .i64 4] 3)).alloc (.cells #[.int .i64 1, .int .i64 3, .int .i64 5, .int .i64 4] 3)).alloc (.cells #[.slice (some ⟨w.heap.size, 0, none⟩) 4 4, .slice (some ⟨w.heap.size + 1, 0, none⟩) 4 4] 38) := rfl
  rw [e] at h
  obtain ⟨h1, h2, h3⟩ := h
  clear e
  go_enter Try.func46, Try.ntmps46
  go_wp2
  go_ret
  exact ⟨_, _, rfl, h1, own_mono h3 (Nat.le_add_right _ _), h2⟩

theorem lit2 (w : World) (a b c d : Int) : LLi (((w.alloc (.cells #[.int .i64 a, .int .i64 b] 3)).alloc (.cells #[.int .i64 c, .int .i64 d] 3)).alloc (.cells #[.slice (some ⟨w.heap.size, 0, none⟩) 2 2, .slice (some ⟨w.heap.size + 1, 0, none⟩) 2 2] 40)) (.slice (some ⟨w.heap.size + 2, 0, none⟩) 2 2) [[a, b], [c, d]] ∧
    Below w.heap.size w (((w.alloc (.cells #[.int .i64 a, .int .i64 b] 3)).alloc (.cells #[.int .i64 c, .int .i64 d] 3)).alloc (.cells #[.slice (some ⟨w.heap.size, 0, none⟩) 2 2, .slice (some ⟨w.heap.size + 1, 0, none⟩) 2 2] 40)) := by
  have h := lit_ok w [[a, b], [c, d]] 40 (by simp) (by simp)
  exact ⟨h.1, h.2.1⟩
theorem lit3 (w : World) (a b c d e f : Int) : LLi ((((w.alloc (.cells #[.int .i64 a, .int .i64 b] 3)).alloc (.cells #[.int .i64 c, .int .i64 d] 3)).alloc (.cells #[.int .i64 e, .int .i64 f] 3)).alloc (.cells #[.slice (some ⟨w.heap.size, 0, none⟩) 2 2, .slice (some ⟨w.heap.size + 1, 0, none⟩) 2 2, .slice (some ⟨w.heap.size + 2, 0, none⟩) 2 2] 40)) (.slice (some ⟨w.heap.size + 3, 0, none⟩) 3 3) [[a, b], [c, d], [e, f]] ∧
    Below w.heap.size w ((((w.alloc (.cells #[.int .i64 a, .int .i64 b] 3)).alloc (.cells #[.int .i64 c, .int .i64 d] 3)).alloc (.cells #[.int .i64 e, .int .i64 f] 3)).alloc (.cells #[.slice (some ⟨w.heap.size, 0, none⟩) 2 2, .slice (some ⟨w.heap.size + 1, 0, none⟩) 2 2, .slice (some ⟨w.heap.size + 2, 0, none⟩) 2 2] 40)) := by
  have h := lit_ok w [[a, b], [c, d], [e, f]] 40 (by simp) (by simp)
  exact ⟨h.1, h.2.1⟩
theorem lit4 (w : World) (a b c d e f g i : Int) : LLi (((((w.alloc (.cells #[.int .i64 a, .int .i64 b] 3)).alloc (.cells #[.int .i64 c, .int .i64 d] 3)).alloc (.cells #[.int .i64 e, .int .i64 f] 3)).alloc (.cells #[.int .i64 g, .int .i64 i] 3)).alloc (.cells #[.slice (some ⟨w.heap.size, 0, none⟩) 2 2, .slice (some ⟨w.heap.size + 1, 0, none⟩) 2 2, .slice (some ⟨w.heap.size + 2, 0, none⟩) 2 2, .slice (some ⟨w.heap.size + 3, 0, none⟩) 2 2] 40)) (.slice (some ⟨w.heap.size + 4, 0, none⟩) 4 4) [[a, b], [c, d], [e, f], [g, i]] ∧
    Below w.heap.size w (((((w.alloc (.cells #[.int .i64 a, .int .i64 b] 3)).alloc (.cells #[.int .i64 c, .int .i64 d] 3)).alloc (.cells #[.int .i64 e, .int .i64 f] 3)).alloc (.cells #[.int .i64 g, .int .i64 i] 3)).alloc (.cells #[.slice (some ⟨w.heap.size, 0, none⟩) 2 2, .slice (some ⟨w.heap.size + 1, 0, none⟩) 2 2, .slice (some ⟨w.heap.size + 2, 0, none⟩) 2 2, .slice (some ⟨w.heap.size + 3, 0, none⟩) 2 2] 40)) := by
  have h := lit_ok w [[a, b], [c, d], [e, f], [g, i]] 40 (by simp) (by simp)
  exact ⟨h.1, h.2.1⟩
theorem ints4 (w : World) (a b c d : Int) : Arr (w.alloc (.cells #[.int .i64 a, .int .i64 b, .int .i64 c, .int .i64 d] 3)) (w.alloc (.cells #[.int .i64 a, .int .i64 b, .int .i64 c, .int .i64 d] 3)).heap.size 1 (.slice (some ⟨w.heap.size, 0, none⟩) 4 4) [a, b, c, d] icell ∧ Below w.heap.size w (w.alloc (.cells #[.int .i64 a, .int .i64 b, .int .i64 c, .int .i64 d] 3)) := by
  have hb := Blk.new w 3 #[.int .i64 a, .int .i64 b, .int .i64 c, .int .i64 d]
  exact ⟨Arr.lit hb hb.lt rfl (by simp) (by omega) (by simp [cellsOf, List.range_succ]), (Below.refl _ _).alloc (Nat.le_refl _) _⟩
theorem matchesT (av bv : Value) (a : List (List Int)) (w : World) (ha : LLi w av a) (hb : LLi w bv a) : Calls Try.prog 23 #[av, bv] w fun r w' => r = .returned (.bool true) ∧ Below w.heap.size w w' := by
  have := lmatches_ok av bv a a w ha hb
  rwa [show decide (a = a) = true by simp] at this
theorem intsT (av bv : Value) (a : List Int) (w : World) (ha : Arr w w.heap.size 1 av a icell) (hb : Arr w w.heap.size 1 bv a icell) : Calls Try.prog 31 #[av, bv] w fun r w' => r = .returned (.bool true) ∧ Below w.heap.size w w' := by
  have := lints_ok av bv a a w ha hb
  rwa [show decide (a = a) = true by simp] at this

set_option maxRecDepth 100000 in
set_option maxHeartbeats 3200000 in
theorem works_ok (w : World) : Calls Try.prog 14 #[] w fun r w' => r = .returned (.bool true) ∧ Below w.heap.size w w' := by
  go_enter Try.func14, Try.ntmps14
  go_wp2_with fail
  refine (ldial_ok w).mono ?_
  rintro e w1 ⟨dA, rfl, hd, hb1⟩
  go_wp2_with fail
  refine (llines_ok w1).mono ?_
  rintro e w2 ⟨lg, vs, rfl, hL, -, hb2⟩
  have hB := hb1.trans (hb2.mono hb1.size)
  have hd2 := hd.call hb2
  go_upto_region 2 with (fail)
  have hE := BB.new (w := w2) (b := exB) (pa := dA) (pc := 1) hd2
  have hb := (Below.refl w2.heap.size w2).alloc (Nat.le_refl _) (.cells #[.slice dA exB.length 1] 24)
  replace hL := hL.call hb
  replace hB := hB.trans (hb.mono hB.size)
  have ew : w2.alloc (.cells #[.slice dA exB.length 1] 24) = w2.alloc (.cells #[.slice dA 1 1] 24) := rfl
  rw [ew] at hE hL hB
  clear hd hd2 hb1 hb2 hb ew
  generalize w2.alloc (.cells #[.slice dA 1 1] 24) = w3 at *
  generalize w2.heap.size = g0 at *
  have k0 : (w3).cell? ⟨g0, 0, none⟩ = some (.slice dA 1 1) := hE.c0
  go_wp2_with fail
  refine (alikeP_ok _ exB 2 5 w3 hE.bv).mono ?_
  rintro e w4 hp
  clear k0
  rw [ex1] at hp
  obtain ⟨rfl, hb⟩ := hp
  replace hE := hE.call hb
  replace hL := hL.call hb
  replace hB := hB.trans ((hb).mono hB.size)
  clear hb
  have k0 : (w4).cell? ⟨g0, 0, none⟩ = some (.slice dA 1 1) := hE.c0
  go_wp2_with fail
  refine (alikeP_ok _ exB 2 3 w4 hE.bv).mono ?_
  rintro e w5 hp
  clear k0
  rw [ex2] at hp
  obtain ⟨rfl, hb⟩ := hp
  replace hE := hE.call hb
  replace hL := hL.call hb
  replace hB := hB.trans ((hb).mono hB.size)
  clear hb
  have k0 : (w5).cell? ⟨g0, 0, none⟩ = some (.slice dA 1 1) := hE.c0
  go_wp2_with fail
  refine (matches_ok _ _ exB exL w5 hE.bv hL).mono ?_
  rintro e w6 hp
  clear k0
  rw [ex3] at hp
  obtain ⟨mv, rfl, hM, hb⟩ := hp
  obtain ⟨mA, mc, rfl, -, -⟩ := hM.form
  replace hE := hE.call hb
  replace hL := hL.call hb
  replace hB := hB.trans ((hb).mono hB.size)
  clear hb
  have k0 : (w6).cell? ⟨g0, 0, none⟩ = some (.slice dA 1 1) := hE.c0
  go_wp2_with fail
  refine (levelsP_ok _ _ exB exL w6 hE.bv hL).mono ?_
  rintro e w7 hp
  clear k0
  rw [ex4] at hp
  obtain ⟨vv, rfl, hV, hb⟩ := hp
  obtain ⟨vA, vc, rfl, -⟩ := id hV
  replace hE := hE.call hb
  replace hL := hL.call hb
  replace hB := hB.trans ((hb).mono hB.size)
  replace hM := hM.call hb
  clear hb
  have k0 : (w7).cell? ⟨g0, 0, none⟩ = some (.slice dA 1 1) := hE.c0
  go_wp2_with fail
  refine (longestP_ok _ _ exB exL w7 hE.bv hL).mono ?_
  rintro e w8 hp
  clear k0
  rw [ex5] at hp
  obtain ⟨pv, rfl, hP, hb⟩ := hp
  obtain ⟨pA, pc, rfl, -, -⟩ := hP.form
  replace hE := hE.call hb
  replace hL := hL.call hb
  replace hB := hB.trans ((hb).mono hB.size)
  replace hM := hM.call hb
  replace hV := hV.call hb
  clear hb
  have k0 : (w8).cell? ⟨g0, 0, none⟩ = some (.slice dA 1 1) := hE.c0
  go_wp2_with fail
  refine (countP_ok _ _ exB exL w8 hE.bv hL).mono ?_
  rintro e w9 hp
  clear k0
  rw [ex6] at hp
  obtain ⟨rfl, hb⟩ := hp
  replace hE := hE.call hb
  replace hL := hL.call hb
  replace hB := hB.trans ((hb).mono hB.size)
  replace hM := hM.call hb
  replace hV := hV.call hb
  replace hP := hP.call hb
  clear hb
  have k0 : (w9).cell? ⟨g0, 0, none⟩ = some (.slice dA 1 1) := hE.c0
  go_wp2_with fail
  refine (certainP_ok _ _ exB exL w9 hE.bv hL).mono ?_
  rintro e w10 hp
  clear k0
  rw [ex7] at hp
  obtain ⟨tv, rfl, hT, hb⟩ := hp
  obtain ⟨tA, tc, rfl, -, -⟩ := hT.form
  replace hE := hE.call hb
  replace hL := hL.call hb
  replace hB := hB.trans ((hb).mono hB.size)
  replace hM := hM.call hb
  replace hV := hV.call hb
  replace hP := hP.call hb
  clear hb
  have k0 : (w10).cell? ⟨g0, 0, none⟩ = some (.slice dA 1 1) := hE.c0
  go_wp2_with fail
  refine (gradesP_ok _ _ exB exL 1 w10 hE.bv hL).mono ?_
  rintro e w11 hp
  clear k0
  rw [ex8] at hp
  obtain ⟨gv, rfl, hG, hb⟩ := hp
  obtain ⟨gA, gc, rfl, -⟩ := id hG
  replace hE := hE.call hb
  replace hL := hL.call hb
  replace hB := hB.trans ((hb).mono hB.size)
  replace hM := hM.call hb
  replace hV := hV.call hb
  replace hP := hP.call hb
  replace hT := hT.call hb
  clear hb
  obtain ⟨hq, hb⟩ := ints4 w11 1 2 3 4
  have k0 : (w11).cell? ⟨g0, 0, none⟩ = some (.slice dA 1 1) := hE.c0
  go_wp2_with fail
  refine (checkLv_ok _ _ _ exB exL [1, 2, 3, 4] _ (hE.call hb).bv (hL.call hb) hq).mono ?_
  rintro e w12 hp
  clear k0
  rw [ex9] at hp
  obtain ⟨rfl, hb2⟩ := hp
  replace hb := hb.trans (hb2.mono hb.size)
  replace hE := hE.call hb
  replace hL := hL.call hb
  replace hB := hB.trans ((hb).mono hB.size)
  replace hM := hM.call hb
  replace hV := hV.call hb
  replace hP := hP.call hb
  replace hT := hT.call hb
  replace hG := hG.call hb
  clear hb hb2 hq
  obtain ⟨hq, hb⟩ := lit2 w12 1 2 2 1
  have k0 : (w12).cell? ⟨g0, 0, none⟩ = some (.slice dA 1 1) := hE.c0
  go_wp2_with fail
  refine (checkPass_ok _ _ _ exB exL [[1, 2], [2, 1]] _ (hE.call hb).bv (hL.call hb) hq).mono ?_
  rintro e w13 hp
  clear k0
  rw [ex10] at hp
  obtain ⟨rfl, hb2⟩ := hp
  replace hb := hb.trans (hb2.mono hb.size)
  replace hB := hB.trans (hb.mono hB.size)
  replace hM := hM.call hb
  replace hV := hV.call hb
  replace hP := hP.call hb
  replace hT := hT.call hb
  replace hG := hG.call hb
  clear hb hb2 hq hE hL
  obtain ⟨hq, hb⟩ := lit4 w13 0 0 1 2 2 1 3 3
  go_wp2_with fail
  refine (matchesT _ _ _ _ (hM.call hb) hq).mono ?_
  rintro e w14 ⟨rfl, hb2⟩
  replace hb := hb.trans (hb2.mono hb.size)
  replace hB := hB.trans (hb.mono hB.size)
  replace hV := hV.call hb
  replace hP := hP.call hb
  replace hT := hT.call hb
  replace hG := hG.call hb
  clear hb hb2 hq hM
  obtain ⟨hq, hb⟩ := ints4 w14 1 2 2 3
  go_wp2_with fail
  refine (intsT _ _ _ _ (hV.call hb) hq).mono ?_
  rintro e w15 ⟨rfl, hb2⟩
  replace hb := hb.trans (hb2.mono hb.size)
  replace hB := hB.trans (hb.mono hB.size)
  replace hP := hP.call hb
  replace hT := hT.call hb
  replace hG := hG.call hb
  clear hb hb2 hq hV
  obtain ⟨hq, hb⟩ := lit3 w15 0 0 1 2 3 3
  go_wp2_with fail
  refine (matchesT _ _ _ _ (hP.call hb) hq).mono ?_
  rintro e w16 ⟨rfl, hb2⟩
  replace hb := hb.trans (hb2.mono hb.size)
  replace hB := hB.trans (hb.mono hB.size)
  replace hT := hT.call hb
  replace hG := hG.call hb
  clear hb hb2 hq hP
  obtain ⟨hq, hb⟩ := lit2 w16 0 0 3 3
  go_wp2_with fail
  refine (matchesT _ _ _ _ (hT.call hb) hq).mono ?_
  rintro e w17 ⟨rfl, hb2⟩
  replace hb := hb.trans (hb2.mono hb.size)
  replace hB := hB.trans (hb.mono hB.size)
  replace hG := hG.call hb
  clear hb hb2 hq hT
  obtain ⟨hq, hb⟩ := ints4 w17 2 1 1 2
  go_wp2_with fail
  refine (intsT _ _ _ _ (hG.call hb) hq).mono ?_
  rintro e w18 ⟨rfl, hb2⟩
  replace hb := hb.trans (hb2.mono hb.size)
  replace hB := hB.trans (hb.mono hB.size)
  clear hb hb2 hq hG
  go_wp2
  go_ret
  exact ⟨rfl, hB⟩
end Go.Proofs.Ytgngpdnppdbgoaa
