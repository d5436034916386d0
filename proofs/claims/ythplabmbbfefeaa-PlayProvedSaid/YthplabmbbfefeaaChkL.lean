/- Contract: play.CheckLabels. -/
import Derived.Test.YthplabmbbfefeaaPlayH
import Derived.Test.YthplabmbbfefeaaLab
import Derived.Test.YthplabmbbfefeaaMinMax
import Derived.Test.YthplabmbbfefeaaTail
import Derived.Laws.EntriesVeiled
namespace Go.Proofs.Ythplabmbbfefeaa
open Go.RowKit Go.Shelf
set_option linter.unusedVariables false

/-- a return ahead of a range over a function -/
theorem retM {F : Fence} {n : Nat} {P : Program} {fn : Func} {R : Ending → World → Prop} {a : Act} {w : World} {v : Value} (hr : (results fn a.tmps).run P w = .ok v w) (hd : a.defers = []) (hR : R (.returned v) w) : bodyPostM F n P fn R .ret a w := by
  show LeavesInM F n P fn a.tmps R a.defers .returning w
  rw [hd]
  exact ⟨v, hr, hR⟩

/-- the frame in which a round's body runs: the loop variable boxed in block Bx -/
def AxL (tm : Array Value) (base T : Nat) (x : VStr T) (a' : Act) (W : World) : Prop :=
  ∃ Bx, base ≤ Bx ∧ Blk W Bx 55 #[.int .i64 x.1.a, .int .i64 x.1.b] ∧ a' = { tmps := (tm.setIfInBounds 95 (.agg #[.int .i64 x.1.a, .int .i64 x.1.b])).setIfInBounds 13 (.pointer (some ⟨Bx, 0, none⟩)), defers := [] }

/-- the labels' closure -/
theorem lab1_ok (l : List Int) (K t k B lb nb : Nat) (lv : Value) (w : World) (hs : Arr w B 1 lv l icell) (h0 : w.cell? ⟨lb, 0, none⟩ = some lv) (h1 : w.cell? ⟨nb, 0, none⟩ = some (.int .i64 ((K : Int) + 1)))
    (hl : t * (K + 1) + k < l.length) (ht : t ≤ 31) (hk : k ≤ 7) (hK : K ≤ 6) :
    Calls Try.prog 64 #[.int .i64 t, .int .i64 k, .pointer (some ⟨lb, 0, none⟩), .pointer (some ⟨nb, 0, none⟩)] w fun r w' => r = .returned (.int .i64 (labAt l K t k)) ∧ w = w' := by
  obtain ⟨A, c, rfl, hn, hc, hcell⟩ := hs
  obtain ⟨b, off, rfl, hB, hcc⟩ := hcell (by omega)
  have h4 : l[t * (K + 1) + k]? = some (labAt l K t k) := by unfold labAt; rw [List.getElem?_eq_getElem hl]; rfl
  have hce := hcc _ _ h4 0 (by omega)
  simp only [Nat.mul_one, Nat.add_zero, icell] at hce
  have hm : t * (K + 1) ≤ 31 * 7 := Nat.mul_le_mul ht (by omega)
  have e1 : IntKind.i64.wrap ((t : Int) * ((K : Int) + 1)) = ((t * (K + 1) : Nat) : Int) := by
    rw [show ((t : Int) * ((K : Int) + 1)) = ((t * (K + 1) : Nat) : Int) by rw [Int.natCast_mul]; rfl]
    exact wrap_id _ (by omega) (by omega)
  generalize t * (K + 1) = q at *
  have e2 : IntKind.i64.wrap ((q : Int) + k) = ((q + k : Nat) : Int) := by
    rw [show ((q : Int) + k) = ((q + k : Nat) : Int) by omega]
    exact wrap_id _ (by omega) (by omega)
  have e3 : ((q + k : Nat) : Int) < l.length := by omega
  clear hcc hcell h4
  go_enter Try.func64, Try.ntmps64
  go_wp2
  go_ret
  exact ⟨rfl, rfl⟩

/-- the boxes of a call of CheckLabels: the cylinder's, the labels', n's, the board's, at's; good's last -/
structure LabInv (w0 : World) (x1 x2 x3 g x4 x5 x6 : Nat) (c : Cyl) (fa : Option Addr) (fc : Nat) (pa : Option Addr) (pc : Nat) (la : Option Addr) (lc : Nat) (l : List Int) (K B : Nat) (fa' : Option Addr) (fc' : Nat) (pa' : Option Addr) (pc' : Nat) (good : Bool) (W : World) : Prop where
  cb : CB W w0.heap.size x1 c fa fc pa pc
  ar : Arr W w0.heap.size 1 (.slice la l.length lc) l icell
  lb : Blk W x2 36 #[.slice la l.length lc]
  nb : Blk W x3 3 #[.int .i64 ((K : Int) + 1)]
  bd : Board W B g c fa' fc' pa' pc' (fun _ _ => 0) (.map none)
  bb : Blk W x4 78 #[.pointer (some ⟨g, 0, none⟩)]
  ab : Blk W x5 99 #[.func (.func 64) #[] #[.pointer (some ⟨x2, 0, none⟩), .pointer (some ⟨x3, 0, none⟩)]]
  gd : Blk W x6 4 #[.bool good]
  bl : Below w0.heap.size w0 W
  l0 : w0.heap.size ≤ x1
  l1 : x1 < x2
  l2 : x2 < x3
  l3 : x3 < g
  l4 : g < x4
  l5 : x4 < x5
  l6 : x5 < x6

section
variable {w0 W W' : World} {x1 x2 x3 g x4 x5 x6 : Nat} {c : Cyl} {fa : Option Addr} {fc : Nat} {pa : Option Addr} {pc : Nat} {la : Option Addr} {lc : Nat} {l : List Int} {K B : Nat} {fa' : Option Addr} {fc' : Nat} {pa' : Option Addr} {pc' : Nat} {good : Bool}
theorem LabInv.same (h : LabInv w0 x1 x2 x3 g x4 x5 x6 c fa fc pa pc la lc l K B fa' fc' pa' pc' good W) (hg : Below (x6 + 1) W W') : LabInv w0 x1 x2 x3 g x4 x5 x6 c fa fc pa pc la lc l K B fa' fc' pa' pc' good W' := by
  have l0 := h.l0
  have l1 := h.l1
  have l2 := h.l2
  have l3 := h.l3
  have l4 := h.l4
  have l5 := h.l5
  have l6 := h.l6
  have h8 := h.gd.lt
  exact ⟨h.cb.belowB hg (by omega), h.ar.below (hg.mono (by omega)), h.lb.below hg (by omega), h.nb.below hg (by omega), h.bd.belowB hg (by omega), h.bb.below hg (by omega), h.ab.below hg (by omega), h.gd.below hg (by omega), h.bl.trans (hg.mono (by omega)), l0, l1, l2, l3, l4, l5, l6⟩
theorem LabInv.call (h : LabInv w0 x1 x2 x3 g x4 x5 x6 c fa fc pa pc la lc l K B fa' fc' pa' pc' good W) (hg : Below W.heap.size W W') : LabInv w0 x1 x2 x3 g x4 x5 x6 c fa fc pa pc la lc l K B fa' fc' pa' pc' good W' :=
  h.same (hg.mono (by have := h.gd.lt; omega))
theorem LabInv.put (h : LabInv w0 x1 x2 x3 g x4 x5 x6 c fa fc pa pc la lc l K B fa' fc' pa' pc' good W) (b : Bool) : LabInv w0 x1 x2 x3 g x4 x5 x6 c fa fc pa pc la lc l K B fa' fc' pa' pc' b (W.setCell ⟨x6, 0, none⟩ (.bool b)) := by
  have l0 := h.l0
  have l1 := h.l1
  have l2 := h.l2
  have l3 := h.l3
  have l4 := h.l4
  have l5 := h.l5
  have l6 := h.l6
  have hg : Below x6 W (W.setCell ⟨x6, 0, none⟩ (.bool b)) := (Below.refl x6 W).setCell (p := ⟨x6, 0, none⟩) (Nat.le_refl _) (.bool b)
  exact ⟨h.cb.belowB hg (by omega), h.ar.below (hg.mono (by omega)), h.lb.below hg (by omega), h.nb.below hg (by omega), h.bd.belowB hg (by omega), h.bb.below hg (by omega), h.ab.below hg (by omega), by simpa using h.gd.set_ 0 (.bool b), h.bl.trans (hg.mono (by omega)), l0, l1, l2, l3, l4, l5, l6⟩
theorem LabInv.cells (h : LabInv w0 x1 x2 x3 g x4 x5 x6 c fa fc pa pc la lc l K B fa' fc' pa' pc' good W) :
    W.cell? ⟨x2, 0, none⟩ = some (.slice la l.length lc) ∧ W.cell? ⟨x3, 0, none⟩ = some (.int .i64 ((K : Int) + 1)) ∧ W.cell? ⟨x4, 0, none⟩ = some (.pointer (some ⟨g, 0, none⟩)) ∧
    W.cell? ⟨x5, 0, none⟩ = some (.func (.func 64) #[] #[.pointer (some ⟨x2, 0, none⟩), .pointer (some ⟨x3, 0, none⟩)]) ∧ W.cell? ⟨x6, 0, none⟩ = some (.bool good) := by
  refine ⟨?_, ?_, ?_, ?_, ?_⟩
  · simpa using h.lb.cell 0
  · simpa using h.nb.cell 0
  · simpa using h.bb.cell 0
  · simpa using h.ab.cell 0
  · simpa using h.gd.cell 0
theorem LabInv.at_ (h : LabInv w0 x1 x2 x3 g x4 x5 x6 c fa fc pa pc la lc l K B fa' fc' pa' pc' good W) {t k : Nat} (hl : t * (K + 1) + k < l.length) (ht : t ≤ 31) (hk : k ≤ 7) (hK : K ≤ 6) :
    Calls Try.prog 64 #[.int .i64 t, .int .i64 k, .pointer (some ⟨x2, 0, none⟩), .pointer (some ⟨x3, 0, none⟩)] W fun r w' => r = .returned (.int .i64 (labAt l K t k)) ∧ W = w' :=
  lab1_ok l K t k _ _ _ _ W h.ar h.cells.1 h.cells.2.1 hl ht hk hK
theorem LabInv.ext (h : LabInv w0 x1 x2 x3 g x4 x5 x6 c fa fc pa pc la lc l K B fa' fc' pa' pc' good W) {t k : Nat} {a b : Int} (ha : a = (t : Int)) (hb : b = (k : Int)) (hl : t * (K + 1) + k < l.length) (ht : t ≤ 31) (hk : k ≤ 7) (hK : K ≤ 6) (x : Ext W) :
    Calls Try.prog 64 #[.int .i64 a, .int .i64 b, .pointer (some ⟨x2, 0, none⟩), .pointer (some ⟨x3, 0, none⟩)] x.w fun e w'' => e = .returned (.int .i64 (labAt l K t k)) ∧ ∃ y : Ext W, w'' = y.w := by
  subst ha hb
  refine ext_call x (((h.call x.h).at_ hl ht hk hK).mono ?_)
  rintro e w' ⟨rfl, rfl⟩
  exact ⟨rfl, Below.refl _ _⟩
end

attribute [local go_sem] Oper.semAt_some
set_option maxRecDepth 100000 in
set_option maxHeartbeats 3200000 in
theorem checkLabels_ok (v lv : Value) (c : Cyl) (l : List Int) (w : World) (hv : CylV w w.heap.size v c) (hs : Arr w w.heap.size 1 lv l icell) :
    Calls Try.prog 39 #[v, lv] w fun r w' => r = .returned (.tuple #[.int .i64 (checkLab c l).1, .int .i64 (checkLab c l).2]) ∧ Below w.heap.size w w' := by
  obtain ⟨fa, fc, pa, pc, rfl, hf, hp⟩ := hv.open_
  obtain ⟨la, lc, rfl, hs'⟩ := id hs
  clear hs'
  have hC := (CB.new hf hp).alloc (.cells #[.slice la l.length lc] 36)
  have hB := ((Below.refl w.heap.size w).alloc (Nat.le_refl _) (.cells #[.int .i64 c.turns, .int .i64 c.long, .int .i64 c.plays, .slice fa c.frag.length fc, .slice pa c.pas.length pc] 25)).alloc (by simp) (.cells #[.slice la l.length lc] 36)
  have hx := Blk.new (w.alloc (.cells #[.int .i64 c.turns, .int .i64 c.long, .int .i64 c.plays, .slice fa c.frag.length fc, .slice pa c.pas.length pc] 25)) 36 #[.slice la l.length lc]
  rw [show (w.alloc (.cells #[.int .i64 c.turns, .int .i64 c.long, .int .i64 c.plays, .slice fa c.frag.length fc, .slice pa c.pas.length pc] 25)).heap.size = w.heap.size + 1 by simp] at hx
  refine (callsIn_wide (n := 8)).1 ?_
  refine callsIn_of_wp_marks Try.func39 rfl trivial ?_ rfl
  simp only [Try.ntmps39, List.size_toArray, List.length_cons, List.length_nil, Nat.reduceAdd, Nat.reduceSub, Array.replicate_succ, Array.replicate_zero, List.push_toArray, List.append_toArray, List.nil_append, List.cons_append]
  refine wpIn_wide.2 ?_
  go_upto_region 1 with (fail)
  generalize (w.alloc (.cells #[.int .i64 c.turns, .int .i64 c.long, .int .i64 c.plays, .slice fa c.frag.length fc, .slice pa c.pas.length pc] 25)).alloc (.cells #[.slice la l.length lc] 36) = W at *
  clear hf hp
  obtain ⟨k0, k1, k2, k3, k4⟩ := hC.c5
  go_wp2_with fail
  refine (checkCyl_ok _ c _ hC.cyl).mono ?_
  rintro e w1 ⟨rfl, hb1⟩
  have hB1 := hB.trans (hb1.mono hB.size)
  have hC1 := hC.call hb1
  have hx1 := hx.call hb1
  have x0 := hx1.cell 0
  simp at x0
  clear k0 k1 k2 k3 k4
  obtain ⟨k0, k1, k2, k3, k4⟩ := hC1.c5
  have hx1lt := Lib.hid hx1.lt
  by_cases h0 : checkCyl c = 0
  case neg =>
    have hn1 : (checkCyl c == 0) = false := by simpa using h0
    have hn2 : (checkCyl c != 0) = true := by simpa using h0
    have HC : Hid (checkLab c l = (0, checkCyl c)) := by simp [Hid, checkLab, h0]
    clear h0
    go_wp2
    refine retM (results_tmp2 rfl _ _ _) rfl ?_
    exact ⟨by rw [HC.out]; rfl, hB1.alloc hB1.size _⟩
  case pos =>
    have HC : Hid (checkLab c l = if l.length ≠ (tT c + 1) * (tK c + 1) then (0, 15) else if badRange l = true then (0, 3) else if goodLab c (labAt l (tK c)) = false then (0, 14) else (labAt l (tK c) (tT c) (tK c), 0)) := by simp [Hid, checkLab, h0]
    have H0 := Lib.hid h0
    obtain ⟨_, _, hlen, hall⟩ := cyl_valid h0
    have HALL := Lib.hid hall
    obtain ⟨n1, n2, n3, n4, n5, n6, n7⟩ := cyl_nat h0
    have N1 := Lib.hid n1
    have N2 := Lib.hid n2
    clear hall
    rw [h0]
    clear h0
    obtain ⟨T, hTT⟩ : ∃ T, T = tT c := ⟨_, rfl⟩
    obtain ⟨K, hKK⟩ : ∃ K, K = tK c := ⟨_, rfl⟩
    have HTT := Lib.hid hTT
    have HKK := Lib.hid hKK
    rw [← hTT] at n1 n3 n4 N1 HC
    rw [← hKK] at n2 n5 N2 HC
    rw [n1] at k0
    rw [n2] at k2
    clear hTT hKK n1 n2
    have a2 : IntKind.i64.wrap ((K : Int) + 1) = (K : Int) + 1 := wrap_id _ (by omega) (by omega)
    have a3 : IntKind.i64.wrap ((T : Int) + 1) = (T : Int) + 1 := wrap_id _ (by omega) (by omega)
    have hm : (T + 1) * (K + 1) ≤ 31 * 7 := Nat.mul_le_mul (by omega) (by omega)
    have hm2 : 0 < (T + 1) * (K + 1) := Nat.mul_pos (by omega) (by omega)
    obtain ⟨N, hN⟩ : ∃ N, N = (T + 1) * (K + 1) := ⟨_, rfl⟩
    have a4 : IntKind.i64.wrap (((T : Int) + 1) * ((K : Int) + 1)) = (N : Int) := by
      rw [show (((T : Int) + 1) * ((K : Int) + 1)) = (N : Int) by rw [hN, Int.natCast_mul]; rfl]
      exact wrap_id _ (by omega) (by omega)
    rw [← hN] at HC hm hm2
    have HN := Lib.hid hN
    clear hN
    go_upto_region 3 with (fail)
    have hn := Blk.new w1 3 #[.int .i64 ((K : Int) + 1)]
    have hbn := (Below.refl w1.heap.size w1).alloc (Nat.le_refl _) (.cells #[.int .i64 ((K : Int) + 1)] 3)
    have hC2 := hC1.call hbn
    have hx2 := hx1.call hbn
    have hB2 := hB1.trans (hbn.mono hB1.size)
    generalize w1.alloc (.cells #[.int .i64 ((K : Int) + 1)] 3) = w2 at *
    clear k0 k1 k2 k3 k4 x0
    obtain ⟨k0, k1, k2, k3, k4⟩ := hC2.c5
    rw [N1.out] at k0
    rw [N2.out] at k2
    have x0 := hx2.cell 0
    have y0 := hn.cell 0
    simp at x0 y0
    by_cases hl : l.length = N
    case neg =>
      have HQ : Hid (checkLab c l = (0, 15)) := by rw [Hid, HC.out, if_pos hl]
      have d1 : ((l.length : Int) == (N : Int)) = false := by simp; omega
      have d2 : ((l.length : Int) != (N : Int)) = true := by simp; omega
      clear hl
      go_wp2
      refine retM (results_tmp2 rfl _ _ _) rfl ?_
      exact ⟨by rw [HQ.out]; rfl, hB2⟩
    case pos =>
      have HQ : Hid (checkLab c l = if badRange l = true then (0, 3) else if goodLab c (labAt l K) = false then (0, 14) else (labAt l K T K, 0)) := by rw [Hid, HC.out, if_neg (by simpa using hl)]
      have HL := Lib.hid hl
      have harr := (hs.below hB2).more hB2.size
      have hne : l ≠ [] := by intro h; rw [h] at hl; simp at hl; omega
      have hmin := min_ok _ l w2 hne harr
      rw [hl] at x0 hmin
      have d1 : ((N : Int) == (N : Int)) = true := by simp
      have m1 := minL_lt 0 l hne
      have m2 := maxL_gt 1099511627776 l hne
      obtain ⟨mn, hmn⟩ : ∃ mn, minL l = mn := ⟨_, rfl⟩
      obtain ⟨mx, hmx⟩ : ∃ mx, maxL l = mx := ⟨_, rfl⟩
      rw [hmn] at m1 hmin
      rw [hmx] at m2
      have M1 := Lib.hid m1
      have M2 := Lib.hid m2
      clear m1 m2 hl hmn
      go_wp2_with fail
      refine hmin.mono ?_
      rintro e w3 ⟨rfl, hb3⟩
      by_cases hmn0 : mn < 0
      · have HR : Hid (checkLab c l = (0, 3)) := by
          rw [Hid, HQ.out, if_pos]
          rw [badRange, ← M1.out]
          simp [hmn0]
        go_wp2
        refine retM (results_tmp2 rfl _ _ _) rfl ?_
        exact ⟨by rw [HR.out]; rfl, hB2.trans (hb3.mono hB2.size)⟩
      · have harr3 := (harr.below hb3).more hb3.size
        have hmax := max_ok _ l w3 hne harr3
        rw [hmx, HL.out] at hmax
        have hx3 := hx2.call hb3
        have hn3 := hn.call hb3
        have hC3 := hC2.call hb3
        have hB3 := hB2.trans (hb3.mono hB2.size)
        clear k0 k1 k2 k3 k4 x0 y0 hmin hmx
        have x0 := hx3.cell 0
        simp at x0
        rw [HL.out] at x0
        have hmn1 : decide (mn < 0) = false := by simpa using hmn0
        go_wp2_with fail
        refine hmax.mono ?_
        rintro e w4 ⟨rfl, hb4⟩
        by_cases hmx0 : 1099511627776 < mx
        · have HR : Hid (checkLab c l = (0, 3)) := by
            rw [Hid, HQ.out, if_pos]
            rw [badRange, ← M2.out]
            simp [hmx0]
          go_wp2
          refine retM (results_tmp2 rfl _ _ _) rfl ?_
          exact ⟨by rw [HR.out]; rfl, hB3.trans (hb4.mono hB3.size)⟩
        · have hmx1 : decide (1099511627776 < mx) = false := by simpa using hmx0
          have HBR : Hid (badRange l = false) := by rw [Hid, badRange, ← M1.out, ← M2.out]; simp [hmn1, hmx1]
          have HR : Hid (checkLab c l = if goodLab c (labAt l K) = false then (0, 14) else (labAt l K T K, 0)) := by rw [Hid, HQ.out, if_neg (by rw [HBR.out]; simp)]
          have hx4 := hx3.call hb4
          have hn4 := hn3.call hb4
          have hC4 := hC3.call hb4
          have hB4 := hB3.trans (hb4.mono hB3.size)
          clear x0 hmax hx3 hn3 hC3 hB3 harr harr3 hx2 hC2 hB2 hx1 hC1 hB1
          obtain ⟨k0, k1, k2, k3, k4⟩ := hC4.c5
          go_wp2_with fail
          refine (newBoard_ok _ c _ hC4.cyl).mono ?_
          rintro e w5 ⟨rfl, ⟨fa', fc', pa', pc', hbd5⟩, hsz5, hb5⟩
          have hx5 := hx4.call hb5
          have hn5 := hn4.call hb5
          have hC5 := hC4.call hb5
          have hB5 := hB4.trans (hb5.mono hB4.size)
          have lt1 := hx4.lt
          have lt2 := hn4.lt
          have lt3 : w.heap.size + 1 < w1.heap.size := hx1lt.out
          generalize hS : w4.heap.size = S at *
          clear hx4 hn4 hC4 hB4 hb4 hb5 k0 k1 k2 k3 k4
          go_upto_region 10 with (fail)
          have hbb6 := (Blk.new w5 78 #[.pointer (some ⟨S + 1, 0, none⟩)])
          have hbw6 := (Below.refl w5.heap.size w5).alloc (Nat.le_refl _) (.cells #[.pointer (some ⟨S + 1, 0, none⟩)] 78)
          have hsz6 : (w5.alloc (.cells #[.pointer (some ⟨S + 1, 0, none⟩)] 78)).heap.size = S + 3 := by simp [hsz5]
          rw [hsz5] at hbb6 hbw6
          have hbd6 := hbd5.belowB hbw6 (by omega)
          have hx6 := hx5.below hbw6 (by omega)
          have hn6 := hn5.below hbw6 (by omega)
          have hC6 := hC5.belowB hbw6 (by omega)
          have hB6 := hB5.trans (hbw6.mono (by omega))
          clear hbd5 hx5 hn5 hC5 hB5 hbw6
          generalize w5.alloc (.cells #[.pointer (some ⟨S + 1, 0, none⟩)] 78) = w6 at *
          go_upto_region 11 with (fail)
          have hab7 := (Blk.new w6 99 #[.func (.func 64) #[] #[.pointer (some ⟨w.heap.size + 1, 0, none⟩), .pointer (some ⟨w1.heap.size, 0, none⟩)]])
          have hbw7 := (Below.refl w6.heap.size w6).alloc (Nat.le_refl _) (.cells #[.func (.func 64) #[] #[.pointer (some ⟨w.heap.size + 1, 0, none⟩), .pointer (some ⟨w1.heap.size, 0, none⟩)]] 99)
          have hsz7 : (w6.alloc (.cells #[.func (.func 64) #[] #[.pointer (some ⟨w.heap.size + 1, 0, none⟩), .pointer (some ⟨w1.heap.size, 0, none⟩)]] 99)).heap.size = S + 4 := by simp [hsz6]
          rw [hsz6] at hab7 hbw7
          have hbb7 := hbb6.below hbw7 (by omega)
          have hbd7 := hbd6.belowB hbw7 (by omega)
          have hx7 := hx6.below hbw7 (by omega)
          have hn7 := hn6.below hbw7 (by omega)
          have hC7 := hC6.belowB hbw7 (by omega)
          have hB7 := hB6.trans (hbw7.mono (by omega))
          clear hbb6 hbd6 hx6 hn6 hC6 hB6 hbw7 hsz6
          generalize w6.alloc (.cells #[.func (.func 64) #[] #[.pointer (some ⟨w.heap.size + 1, 0, none⟩), .pointer (some ⟨w1.heap.size, 0, none⟩)]] 99) = w7 at *
          have b0 := hab7.cell 0
          have b1 := hx7.cell 0
          have b2 := hn7.cell 0
          simp at b0 b1 b2
          have eg := enters_of Try.func64 (by kernel_rfl) rfl
          have hz00 := lab1_ok l K 0 0 _ _ _ _ w7 (hs.below hB7) b1 b2 (by have := HL.out; simp; omega) (by omega) (by omega) n5
          rw [show ((0 : Nat) : Int) = 0 from rfl] at hz00
          obtain ⟨x, hx⟩ : ∃ x, labAt l K 0 0 = x := ⟨_, rfl⟩
          rw [hx] at hz00
          have HX := Lib.hid hx
          clear hx
          go_wp2_with fail
          refine hz00.mono ?_
          rintro e w8 ⟨rfl, rfl⟩
          go_upto_region 12 with (fail)
          have hgd8 := Blk.new w7 4 #[.bool (x == 0)]
          have hbw8 := (Below.refl w7.heap.size w7).alloc (Nat.le_refl _) (.cells #[.bool (x == 0)] 4)
          rw [hsz7] at hgd8 hbw8
          have hv : LabInv w w.heap.size (w.heap.size + 1) w1.heap.size (S + 1) (S + 2) (S + 3) (S + 4) c fa fc pa pc la lc l K S fa' fc' pa' pc' (x == 0) (w7.alloc (.cells #[.bool (x == 0)] 4)) :=
            ⟨hC7.belowB hbw8 (by omega), hs.below (hB7.trans (hbw8.mono (by omega))), hx7.below hbw8 (by omega), hn7.below hbw8 (by omega), hbd7.belowB hbw8 (by omega), hbb7.below hbw8 (by omega), hab7.below hbw8 (by omega), hgd8, hB7.trans (hbw8.mono (by omega)), Nat.le_refl _, by omega, by omega, by omega, by omega, by omega, by omega⟩
          clear hC7 hx7 hn7 hbd7 hbb7 hab7 hgd8 hbw8 hB7 hz00 b0 b1 b2 hsz7 hb1 hbn hb3
          generalize w7.alloc (.cells #[.bool (x == 0)] 4) = w9 at *
          obtain ⟨gd0, hgd0⟩ : ∃ gd0, (x == 0) = gd0 := ⟨_, rfl⟩
          rw [hgd0] at hv ⊢
          have HG0 : Hid (gd0 = decide (labAt l K 0 0 = 0)) := by rw [Hid, HX.out, ← hgd0]; rfl
          clear hgd0
          obtain ⟨k0, k1, k2, k3, k4⟩ := hv.cb.c5
          rw [N1.out] at k0
          obtain ⟨b0, b1, b2, b3, b4⟩ := hv.cells
          have hlab : ∀ t k, t ≤ T → k ≤ K → t * (K + 1) + k < l.length := fun t k ht hk => (labAt_fit HBR.out (by rw [HL.out, HN.out]) ht hk).2.2.1
          have HLAB := Lib.hid hlab
          clear hlab
          go_wp2
          go_loopw [51] (fun i wr => ∃ t : Nat, t ≤ T + 1 ∧ i = .int .i64 t ∧ LabInv w w.heap.size (w.heap.size + 1) w1.heap.size (S + 1) (S + 2) (S + 3) (S + 4) c fa fc pa pc la lc l K S fa' fc' pa' pc' (gd0 && (List.range t).all (rowOk (labAt l K) K)) wr) (fun i _ => T + 1 - (intOf i).toNat)
          case atStart => exact ⟨0, by omega, rfl, by simpa using hv⟩
          case round =>
            obtain ⟨t, ht, rfl, hvt⟩ := hrel
            clear b0 b1 b2 b3 b4 k0 k1 k2 k3 k4 hv
            obtain ⟨k0, k1, k2, k3, k4⟩ := hvt.cb.c5
            obtain ⟨b0, b1, b2, b3, b4⟩ := hvt.cells
            by_cases hlt : t < T + 1
            · obtain ⟨wo, rfl⟩ : ∃ wo : World, wo = wr := ⟨_, rfl⟩
              have dlt : decide ((t : Int) < (T : Int) + 1) = true := by simp; omega
              go_wp2
              go_loopw [55] (fun i wr => ∃ k : Nat, k ≤ K + 1 ∧ i = .int .i64 k ∧ LabInv w w.heap.size (w.heap.size + 1) w1.heap.size (S + 1) (S + 2) (S + 3) (S + 4) c fa fc pa pc la lc l K S fa' fc' pa' pc' ((gd0 && (List.range t).all (rowOk (labAt l K) K)) && (List.range k).all fun k => step1 (labAt l K) t k) wr) (fun i _ => K + 1 - (intOf i).toNat)
              case atStart => exact ⟨0, by omega, rfl, by simpa using hvt⟩
              case round =>
                obtain ⟨k, hk, rfl, hv⟩ := hrel
                clear b0 b1 b2 b3 b4 k0 k1 k2 k3 k4
                obtain ⟨k0, k1, k2, k3, k4⟩ := hv.cb.c5
                obtain ⟨b0, b1, b2, b3, b4⟩ := hv.cells
                by_cases hlk : k < K + 1
                · have f3 := Ext.of b3
                  have f4 := Ext.of b4
                  obtain ⟨gd, hgd⟩ : ∃ gd, ((gd0 && (List.range t).all (rowOk (labAt l K) K)) && (List.range k).all fun k => step1 (labAt l K) t k) = gd := ⟨_, rfl⟩
                  rw [hgd] at hv f4 b4
                  have HGD := Lib.hid hgd
                  clear hgd b0 b1 b2 b3 b4 k0 k1 k2 k3 k4
                  have HA0 := Lib.hid (hv.ext (t := t) (k := k) rfl rfl (HLAB.out t k (by omega) (by omega)) (by omega) (by omega) n5)
                  cases gd with
                  | false =>
                    have HA1 := HA0
                    have HA2 := HA0
                    go_wp2_with fail
                    have hq : Hid (((gd0 && (List.range t).all (rowOk (labAt l K) K)) && (List.range (k + 1)).all fun k => step1 (labAt l K) t k) = false) := by
                      rw [Hid, all_range_snoc, ← Bool.and_assoc, HGD.out]
                      simp [step1, *]
                    clear HGD
                    refine wp_region_tail (C := fun w' => ∃ x : Ext wr, w' = x.w) 33 (by kernel_rfl) (by kernel_rfl) ⟨⟨(wr).drew, ⟨rfl, rfl, rfl, Nat.le_refl _, fun _ _ => rfl⟩⟩, rfl⟩ ?_
                    simp only [List.take_succ_cons, List.take_zero, List.drop_succ_cons, List.drop_zero]
                    repeat (go_big_quiet_step (first | (go_at_call 64; with_reducible exact HA0.out _) | (go_at_call 64; with_reducible exact HA1.out _) | (go_at_call 64; with_reducible exact HA2.out _)))
                    refine wpQuiet_nil ?_
                    intro _ hw'
                    obtain ⟨xr, hw''⟩ := hw'
                    subst hw''
                    have hv2 := hv.call xr.h
                    have z1 := hv2.gd.cell 0
                    have z2 := hv2.gd.frozen 0
                    simp at z1
                    have hv3 := hv2.put false
                    go_wp2
                    go_roundw
                    case rel => exact ⟨k + 1, by omega, by go_num, by rw [hq.out]; exact hv3⟩
                    case measure => simp [intOf]; omega
                  | true =>
                    rcases Nat.eq_zero_or_pos t with ht0 | ht0
                    · have d1 : ((t : Int) == 0) = true := by simpa using ht0
                      have d1' : decide (t = 0) = true := by simpa using ht0
                      have HA1 := HA0
                      clear ht0
                      rcases Nat.eq_zero_or_pos k with hk0 | hk0
                      · have d3 : ((k : Int) == 0) = true := by simpa using hk0
                        have d3' : decide (k = 0) = true := by simpa using hk0
                        have HA2 := HA0
                        clear hk0
                        go_wp2_with fail
                        have hq : Hid (((gd0 && (List.range t).all (rowOk (labAt l K) K)) && (List.range (k + 1)).all fun k => step1 (labAt l K) t k) = true) := by
                          rw [Hid, all_range_snoc, ← Bool.and_assoc, HGD.out]
                          simp [step1, *]
                        clear HGD
                        refine wp_region_tail (C := fun w' => ∃ x : Ext wr, w' = x.w) 33 (by kernel_rfl) (by kernel_rfl) ⟨⟨(wr).drew, ⟨rfl, rfl, rfl, Nat.le_refl _, fun _ _ => rfl⟩⟩, rfl⟩ ?_
                        simp only [List.take_succ_cons, List.take_zero, List.drop_succ_cons, List.drop_zero]
                        repeat (go_big_quiet_step (first | (go_at_call 64; with_reducible exact HA0.out _) | (go_at_call 64; with_reducible exact HA1.out _) | (go_at_call 64; with_reducible exact HA2.out _)))
                        refine wpQuiet_nil ?_
                        intro _ hw'
                        obtain ⟨xr, hw''⟩ := hw'
                        subst hw''
                        have hv2 := hv.call xr.h
                        have z1 := hv2.gd.cell 0
                        have z2 := hv2.gd.frozen 0
                        simp at z1
                        have hv3 := hv2.put true
                        go_wp2
                        go_roundw
                        case rel => exact ⟨k + 1, by omega, by go_num, by rw [hq.out]; exact hv3⟩
                        case measure => simp [intOf]; omega
                      · have d3 : ((k : Int) == 0) = false := by simp; omega
                        have d3' : decide (k = 0) = false := by simp; omega
                        have e3 : IntKind.i64.wrap ((k : Int) - 1) = (k : Int) - 1 := wrap_id _ (by omega) (by omega)
                        have HA2 := Lib.hid (hv.ext (t := t) (k := k - 1) (a := (t : Int)) (b := (k : Int) - 1) rfl (by omega) (HLAB.out t (k - 1) (by omega) (by omega)) (by omega) (by omega) n5)
                        by_cases hc2 : labAt l K t (k - 1) ≤ labAt l K t k
                        · have d4 : decide (labAt l K t (k - 1) ≤ labAt l K t k) = true := by simpa using hc2
                          go_wp2_with fail
                          have hq : Hid (((gd0 && (List.range t).all (rowOk (labAt l K) K)) && (List.range (k + 1)).all fun k => step1 (labAt l K) t k) = true) := by
                            rw [Hid, all_range_snoc, ← Bool.and_assoc, HGD.out]
                            simp [step1, *]
                          clear HGD
                          refine wp_region_tail (C := fun w' => ∃ x : Ext wr, w' = x.w) 33 (by kernel_rfl) (by kernel_rfl) ⟨⟨(wr).drew, ⟨rfl, rfl, rfl, Nat.le_refl _, fun _ _ => rfl⟩⟩, rfl⟩ ?_
                          simp only [List.take_succ_cons, List.take_zero, List.drop_succ_cons, List.drop_zero]
                          repeat (go_big_quiet_step (first | (go_at_call 64; with_reducible exact HA0.out _) | (go_at_call 64; with_reducible exact HA1.out _) | (go_at_call 64; with_reducible exact HA2.out _)))
                          refine wpQuiet_nil ?_
                          intro _ hw'
                          obtain ⟨xr, hw''⟩ := hw'
                          subst hw''
                          have hv2 := hv.call xr.h
                          have z1 := hv2.gd.cell 0
                          have z2 := hv2.gd.frozen 0
                          simp at z1
                          have hv3 := hv2.put true
                          go_wp2
                          go_roundw
                          case rel => exact ⟨k + 1, by omega, by go_num, by rw [hq.out]; exact hv3⟩
                          case measure => simp [intOf]; omega
                        · have d4 : decide (labAt l K t (k - 1) ≤ labAt l K t k) = false := by simpa using hc2
                          go_wp2_with fail
                          have hq : Hid (((gd0 && (List.range t).all (rowOk (labAt l K) K)) && (List.range (k + 1)).all fun k => step1 (labAt l K) t k) = false) := by
                            rw [Hid, all_range_snoc, ← Bool.and_assoc, HGD.out]
                            simp [step1, *]
                          clear HGD
                          refine wp_region_tail (C := fun w' => ∃ x : Ext wr, w' = x.w) 33 (by kernel_rfl) (by kernel_rfl) ⟨⟨(wr).drew, ⟨rfl, rfl, rfl, Nat.le_refl _, fun _ _ => rfl⟩⟩, rfl⟩ ?_
                          simp only [List.take_succ_cons, List.take_zero, List.drop_succ_cons, List.drop_zero]
                          repeat (go_big_quiet_step (first | (go_at_call 64; with_reducible exact HA0.out _) | (go_at_call 64; with_reducible exact HA1.out _) | (go_at_call 64; with_reducible exact HA2.out _)))
                          refine wpQuiet_nil ?_
                          intro _ hw'
                          obtain ⟨xr, hw''⟩ := hw'
                          subst hw''
                          have hv2 := hv.call xr.h
                          have z1 := hv2.gd.cell 0
                          have z2 := hv2.gd.frozen 0
                          simp at z1
                          have hv3 := hv2.put false
                          go_wp2
                          go_roundw
                          case rel => exact ⟨k + 1, by omega, by go_num, by rw [hq.out]; exact hv3⟩
                          case measure => simp [intOf]; omega
                    · have d1 : ((t : Int) == 0) = false := by simp; omega
                      have d1' : decide (t = 0) = false := by simp; omega
                      have e1 : IntKind.i64.wrap ((t : Int) - 1) = (t : Int) - 1 := wrap_id _ (by omega) (by omega)
                      have HA1 := Lib.hid (hv.ext (t := t - 1) (k := k) (a := (t : Int) - 1) (b := (k : Int)) (by omega) rfl (HLAB.out (t - 1) k (by omega) (by omega)) (by omega) (by omega) n5)
                      by_cases hc1 : labAt l K (t - 1) k ≤ labAt l K t k
                      · have d2 : decide (labAt l K (t - 1) k ≤ labAt l K t k) = true := by simpa using hc1
                        rcases Nat.eq_zero_or_pos k with hk0 | hk0
                        · have d3 : ((k : Int) == 0) = true := by simpa using hk0
                          have d3' : decide (k = 0) = true := by simpa using hk0
                          have HA2 := HA0
                          clear hk0
                          go_wp2_with fail
                          have hq : Hid (((gd0 && (List.range t).all (rowOk (labAt l K) K)) && (List.range (k + 1)).all fun k => step1 (labAt l K) t k) = true) := by
                            rw [Hid, all_range_snoc, ← Bool.and_assoc, HGD.out]
                            simp [step1, *]
                          clear HGD
                          refine wp_region_tail (C := fun w' => ∃ x : Ext wr, w' = x.w) 33 (by kernel_rfl) (by kernel_rfl) ⟨⟨(wr).drew, ⟨rfl, rfl, rfl, Nat.le_refl _, fun _ _ => rfl⟩⟩, rfl⟩ ?_
                          simp only [List.take_succ_cons, List.take_zero, List.drop_succ_cons, List.drop_zero]
                          repeat (go_big_quiet_step (first | (go_at_call 64; with_reducible exact HA0.out _) | (go_at_call 64; with_reducible exact HA1.out _) | (go_at_call 64; with_reducible exact HA2.out _)))
                          refine wpQuiet_nil ?_
                          intro _ hw'
                          obtain ⟨xr, hw''⟩ := hw'
                          subst hw''
                          have hv2 := hv.call xr.h
                          have z1 := hv2.gd.cell 0
                          have z2 := hv2.gd.frozen 0
                          simp at z1
                          have hv3 := hv2.put true
                          go_wp2
                          go_roundw
                          case rel => exact ⟨k + 1, by omega, by go_num, by rw [hq.out]; exact hv3⟩
                          case measure => simp [intOf]; omega
                        · have d3 : ((k : Int) == 0) = false := by simp; omega
                          have d3' : decide (k = 0) = false := by simp; omega
                          have e3 : IntKind.i64.wrap ((k : Int) - 1) = (k : Int) - 1 := wrap_id _ (by omega) (by omega)
                          have HA2 := Lib.hid (hv.ext (t := t) (k := k - 1) (a := (t : Int)) (b := (k : Int) - 1) rfl (by omega) (HLAB.out t (k - 1) (by omega) (by omega)) (by omega) (by omega) n5)
                          by_cases hc2 : labAt l K t (k - 1) ≤ labAt l K t k
                          · have d4 : decide (labAt l K t (k - 1) ≤ labAt l K t k) = true := by simpa using hc2
                            go_wp2_with fail
                            have hq : Hid (((gd0 && (List.range t).all (rowOk (labAt l K) K)) && (List.range (k + 1)).all fun k => step1 (labAt l K) t k) = true) := by
                              rw [Hid, all_range_snoc, ← Bool.and_assoc, HGD.out]
                              simp [step1, *]
                            clear HGD
                            refine wp_region_tail (C := fun w' => ∃ x : Ext wr, w' = x.w) 33 (by kernel_rfl) (by kernel_rfl) ⟨⟨(wr).drew, ⟨rfl, rfl, rfl, Nat.le_refl _, fun _ _ => rfl⟩⟩, rfl⟩ ?_
                            simp only [List.take_succ_cons, List.take_zero, List.drop_succ_cons, List.drop_zero]
                            repeat (go_big_quiet_step (first | (go_at_call 64; with_reducible exact HA0.out _) | (go_at_call 64; with_reducible exact HA1.out _) | (go_at_call 64; with_reducible exact HA2.out _)))
                            refine wpQuiet_nil ?_
                            intro _ hw'
                            obtain ⟨xr, hw''⟩ := hw'
                            subst hw''
                            have hv2 := hv.call xr.h
                            have z1 := hv2.gd.cell 0
                            have z2 := hv2.gd.frozen 0
                            simp at z1
                            have hv3 := hv2.put true
                            go_wp2
                            go_roundw
                            case rel => exact ⟨k + 1, by omega, by go_num, by rw [hq.out]; exact hv3⟩
                            case measure => simp [intOf]; omega
                          · have d4 : decide (labAt l K t (k - 1) ≤ labAt l K t k) = false := by simpa using hc2
                            go_wp2_with fail
                            have hq : Hid (((gd0 && (List.range t).all (rowOk (labAt l K) K)) && (List.range (k + 1)).all fun k => step1 (labAt l K) t k) = false) := by
                              rw [Hid, all_range_snoc, ← Bool.and_assoc, HGD.out]
                              simp [step1, *]
                            clear HGD
                            refine wp_region_tail (C := fun w' => ∃ x : Ext wr, w' = x.w) 33 (by kernel_rfl) (by kernel_rfl) ⟨⟨(wr).drew, ⟨rfl, rfl, rfl, Nat.le_refl _, fun _ _ => rfl⟩⟩, rfl⟩ ?_
                            simp only [List.take_succ_cons, List.take_zero, List.drop_succ_cons, List.drop_zero]
                            repeat (go_big_quiet_step (first | (go_at_call 64; with_reducible exact HA0.out _) | (go_at_call 64; with_reducible exact HA1.out _) | (go_at_call 64; with_reducible exact HA2.out _)))
                            refine wpQuiet_nil ?_
                            intro _ hw'
                            obtain ⟨xr, hw''⟩ := hw'
                            subst hw''
                            have hv2 := hv.call xr.h
                            have z1 := hv2.gd.cell 0
                            have z2 := hv2.gd.frozen 0
                            simp at z1
                            have hv3 := hv2.put false
                            go_wp2
                            go_roundw
                            case rel => exact ⟨k + 1, by omega, by go_num, by rw [hq.out]; exact hv3⟩
                            case measure => simp [intOf]; omega
                      · have d2 : decide (labAt l K (t - 1) k ≤ labAt l K t k) = false := by simpa using hc1
                        have HA2 := HA0
                        go_wp2_with fail
                        have hq : Hid (((gd0 && (List.range t).all (rowOk (labAt l K) K)) && (List.range (k + 1)).all fun k => step1 (labAt l K) t k) = false) := by
                          rw [Hid, all_range_snoc, ← Bool.and_assoc, HGD.out]
                          simp [step1, *]
                        clear HGD
                        refine wp_region_tail (C := fun w' => ∃ x : Ext wr, w' = x.w) 33 (by kernel_rfl) (by kernel_rfl) ⟨⟨(wr).drew, ⟨rfl, rfl, rfl, Nat.le_refl _, fun _ _ => rfl⟩⟩, rfl⟩ ?_
                        simp only [List.take_succ_cons, List.take_zero, List.drop_succ_cons, List.drop_zero]
                        repeat (go_big_quiet_step (first | (go_at_call 64; with_reducible exact HA0.out _) | (go_at_call 64; with_reducible exact HA1.out _) | (go_at_call 64; with_reducible exact HA2.out _)))
                        refine wpQuiet_nil ?_
                        intro _ hw'
                        obtain ⟨xr, hw''⟩ := hw'
                        subst hw''
                        have hv2 := hv.call xr.h
                        have z1 := hv2.gd.cell 0
                        have z2 := hv2.gd.frozen 0
                        simp at z1
                        have hv3 := hv2.put false
                        go_wp2
                        go_roundw
                        case rel => exact ⟨k + 1, by omega, by go_num, by rw [hq.out]; exact hv3⟩
                        case measure => simp [intOf]; omega
                · obtain rfl : k = K + 1 := by omega
                  go_wp2
                  go_roundw
                  case rel => exact ⟨t + 1, by omega, by go_num, by rw [all_range_snoc, ← Bool.and_assoc]; exact hv⟩
                  case measure => simp [intOf]; omega
            · obtain rfl : t = T + 1 := by omega
              have hvT := hvt.bd.blk.lt
              go_wp2_with fail
              refine (stretches_ok _ _).mono ?_
              rintro e w' ⟨rfl, rfl⟩
              obtain ⟨G1, hG1⟩ : ∃ G1, (gd0 && (List.range (T + 1)).all (rowOk (labAt l K) K)) = G1 := ⟨_, rfl⟩
              rw [hG1] at hvt
              have HG1 := Lib.hid hG1
              clear hG1 b0 b1 b2 b3 b4 k0 k1 k2 k3 k4 ht hlt
              have hbS := (Below.refl wr.heap.size wr).alloc (Nat.le_refl _) (.cells #[.pointer (some ⟨S + 1, 0, none⟩)] 78)
              have hxS := Blk.new wr 78 #[.pointer (some ⟨S + 1, 0, none⟩)]
              have hvS := hvt.call hbS
              have hszS : (wr.alloc (.cells #[.pointer (some ⟨S + 1, 0, none⟩)] 78)).heap.size = wr.heap.size + 1 := by simp
              have hx6 := hvt.gd.lt
              generalize wr.alloc (.cells #[.pointer (some ⟨S + 1, 0, none⟩)] 78) = wS at *
              generalize wr.heap.size = sb at *
              clear hvt hbS
              go_wp2
              have hinv : LabInv w w.heap.size (w.heap.size + 1) w1.heap.size (S + 1) (S + 2) (S + 3) (S + 4) c fa fc pa pc la lc l K S fa' fc' pa' pc' (G1 && (([] : List (VStr T)).map (·.1)).all (strOk (labAt l K) (ownW c.pas) c.pas K)) wS := by simpa using hvS
              refine (wpIn_wide (n := 8)).1 ?_
              refine wpIn_rangeFunc_ownH (F := Fence.wide) (n := 8) (a := ?aa) rfl (by omega) (gf := 75) (lb := #[.pointer (some ⟨sb, 0, none⟩)]) ?hgg trivial (enters_of Try.func75 (by kernel_rfl) rfl)
                (stretches_stops 4 S (S + 1) sb c fa' pa' fc' pc' (fun _ _ => 0) (.map none) T N1.out n4 (by have := N1.out; omega) wS hvS.bd hxS) ?hKt ?hKb (Below.refl _ _) ?hps
                (fun pre W => LabInv w w.heap.size (w.heap.size + 1) w1.heap.size (S + 1) (S + 2) (S + 3) (S + 4) c fa fc pa pc la lc l K S fa' fc' pa' pc' (G1 && (pre.map (·.1)).all (strOk (labAt l K) (ownW c.pas) c.pas K)) W ∧ sb < W.heap.size) (fun _ _ _ => False) ?hI (fun _ _ _ _ _ hs _ _ => hs) ⟨hinv, by omega⟩ (AxL (Act.tmps ?aa) (sb + 1) T) ?hAx ?assign ?body ?done ?stop
              case hKt => exact fun h1 h2 k hk => (h2 k hk).trans (h1 k hk)
              case hKb =>
                intro W l o o' hl ho _ _ k hk
                exact World.putObj_heap_other (by omega)
              case hgg => rfl
              case hps => exact fun _ => rfl
              case hI =>
                rintro s W W' row ⟨hs, hss⟩ hg hr
                have hsz := hs.gd.lt
                exact ⟨hs.same ((Below.refl _ W).grown hg (by omega) (fun k hk => by have := (hr k hk).1; omega)), Nat.lt_of_lt_of_le hss hg.size⟩
              case hAx =>
                rintro x a' _ W W' row ⟨Bx, h1, h2, h3⟩ hg hr
                refine ⟨Bx, h1, h2.grown hg ?_, h3⟩
                intro e
                obtain ⟨_, o, ho, hc⟩ := hr Bx e.symm
                rw [h2] at ho
                injection ho with ho
                subst ho
                simp [Obj.isCells] at hc
              case assign =>
                rintro l' pre x W K' ⟨hi, hss⟩ hK
                have hx := Blk.new W 55 #[.int .i64 x.1.a, .int .i64 x.1.b]
                have hsz := hi.gd.lt
                have hbx := (Below.refl W.heap.size W).alloc (Nat.le_refl _) (.cells #[.int .i64 x.1.a, .int .i64 x.1.b] 55)
                have hk := hK ({ tmps := (_ : Array Value), defers := [] }) (W.alloc (.cells #[.int .i64 x.1.a, .int .i64 x.1.b] 55)) ((KeepsOthers.alloc _ _).from _) (fun k hk => Below.heap_alloc W _ k (by omega)) ⟨hi.call hbx, by simp; omega⟩ ⟨W.heap.size, by omega, hx, rfl⟩
                simp [encStr]
                gi_wp2
                exact hk
              case body =>
                rintro l' pre s a' W hl hr ⟨hi, hss⟩ ⟨Bx, hBx, bX, rfl⟩ hlt
                simp only [List.setIfInBounds_toArray, List.set_cons_succ, List.set_cons_zero]
                obtain ⟨hs0, hs1, hs2⟩ := s.2
                obtain ⟨k0, k1, k2, k3, k4⟩ := hi.cb.c5
                rw [N2.out] at k2
                have hBxl := bX.lt
                gi_wp2
                gi_loopw [98] (fun i wr => ∃ k : Nat, k ≤ K ∧ i = .int .i64 k ∧ LabInv w w.heap.size (w.heap.size + 1) w1.heap.size (S + 1) (S + 2) (S + 3) (S + 4) c fa fc pa pc la lc l K S fa' fc' pa' pc' ((G1 && (pre.map (·.1)).all (strOk (labAt l K) (ownW c.pas) c.pas K)) && (List.range k).all fun k => step2 (labAt l K) (ownW c.pas) c.pas s.1 k) wr ∧ Blk wr Bx 55 #[.int .i64 s.1.a, .int .i64 s.1.b] ∧ W.grownBy wr (some (S + 4))) (fun i _ => K - (intOf i).toNat)
                case atStart => exact ⟨0, by omega, rfl, by simpa using hi, bX, World.grownBy.refl _ _⟩
                case round =>
                  obtain ⟨k, hk, rfl, hv, hX, hgr⟩ := hrel
                  clear k0 k1 k2 k3 k4
                  obtain ⟨b0, b1, b2, b3, b4⟩ := hv.cells
                  have s0 := hX.cell 0
                  have s1 := hX.cell 1
                  simp at s0 s1
                  by_cases hlk : k < K
                  · have f2 := Ext.of b2
                    have f3 := Ext.of b3
                    have f4 := Ext.of b4
                    have g0 := Ext.of s0
                    have g1 := Ext.of s1
                    obtain ⟨gd, hgd⟩ : ∃ gd, ((G1 && (pre.map (·.1)).all (strOk (labAt l K) (ownW c.pas) c.pas K)) && (List.range k).all fun k => step2 (labAt l K) (ownW c.pas) c.pas s.1 k) = gd := ⟨_, rfl⟩
                    rw [hgd] at hv f4 b4
                    have HGD := Lib.hid hgd
                    clear hgd b0 b1 b2 b3 b4
                    obtain ⟨fl1, fl2, _, _⟩ := labAt_fit HBR.out (by rw [HL.out, HN.out]) (t := s.1.a.toNat) (k := k) (by omega) (by omega)
                    have hsum := sumW_bound (ownW c.pas) 1000 (by omega) (fun i => by have := ownW_bound HALL.out i; omega) s.1 c.pas 0
                    have e1 : IntKind.i64.wrap (s.1.b + 1) = s.1.b + 1 := wrap_id _ (by omega) (by omega)
                    have e2 : IntKind.i64.wrap ((k : Int) + 1) = (k : Int) + 1 := wrap_id _ (by omega) (by omega)
                    have e3 : IntKind.i64.wrap (labAt l K s.1.a.toNat k + sumW (ownW c.pas) s.1 0 c.pas) = labAt l K s.1.a.toNat k + sumW (ownW c.pas) s.1 0 c.pas := wrap_id _ (by omega) (by omega)
                    have HA0 := Lib.hid (hv.ext (t := (s.1.b + 1).toNat) (k := k + 1) (a := s.1.b + 1) (b := (k : Int) + 1) (by omega) (by omega) (HLAB.out _ _ (by omega) (by omega)) (by omega) (by omega) n5)
                    have HA1 := Lib.hid (hv.ext (t := s.1.a.toNat) (k := k) (a := s.1.a) (b := (k : Int)) (by omega) rfl (HLAB.out _ _ (by omega) (by omega)) (by omega) (by omega) n5)
                    have HA2 := Lib.hid (fun x : Ext wr => ext_call x (sum_ok S (S + 1) c s.1 _ _ x.w ⟨_, _, _, _, (hv.call x.h).bd⟩ 52 #[.pointer (some ⟨S + 1, 0, none⟩)] #[] (ownW c.pas) (gives_own _ _ _ _) (fun i => by have := ownW_bound HALL.out i; omega) hlen))
                    clear fl1 fl2 hsum
                    cases gd with
                    | false =>
                      gi_wp2_with fail
                      have hq : Hid (((G1 && (pre.map (·.1)).all (strOk (labAt l K) (ownW c.pas) c.pas K)) && (List.range (k + 1)).all fun k => step2 (labAt l K) (ownW c.pas) c.pas s.1 k) = false) := by
                        rw [Hid, all_range_snoc, ← Bool.and_assoc, HGD.out]
                        simp [step2, *]
                      clear HGD
                      refine wpIn_region_tail (C := fun w' => ∃ x : Ext wr, w' = x.w) 22 (by kernel_rfl) (by kernel_rfl) (by kernel_rfl) ⟨⟨(wr).drew, ⟨rfl, rfl, rfl, Nat.le_refl _, fun _ _ => rfl⟩⟩, rfl⟩ ?_
                      simp only [List.take_succ_cons, List.take_zero, List.drop_succ_cons, List.drop_zero]
                      repeat (go_big_quiet_step (first | (go_at_call 64; with_reducible exact HA0.out _) | (go_at_call 64; with_reducible exact HA1.out _) | (go_at_call 66; with_reducible exact HA2.out _)))
                      refine wpQuiet_nil ?_
                      intro _ hw'
                      obtain ⟨xr, hw''⟩ := hw'
                      subst hw''
                      intro K' hK'
                      have hv2 := hv.call xr.h
                      have z1 := hv2.gd.cell 0
                      have z2 := hv2.gd.frozen 0
                      simp at z1
                      have hv3 := hv2.put false
                      have hgr3 : W.grownBy (xr.w.setCell ⟨S + 4, 0, none⟩ (.bool false)) (some (S + 4)) := grown_trans' (grown_trans' hgr (grown_call xr.h _)) (grown_setCell _)
                      have hX3 : Blk (xr.w.setCell ⟨S + 4, 0, none⟩ (.bool false)) Bx 55 #[.int .i64 s.1.a, .int .i64 s.1.b] := (hX.call xr.h).far (by show Bx ≠ S + 4; omega) _
                      go_wp2
                      refine hK' _ _ ?_
                      clear hK' K'
                      gi_wp2
                      go_roundw
                      case rel => exact ⟨k + 1, by omega, by go_num, by rw [hq.out]; exact hv3, hX3, hgr3⟩
                      case measure => (simp [intOf]; try omega)
                    | true =>
                      by_cases hc : labAt l K s.1.a.toNat k + sumW (ownW c.pas) s.1 0 c.pas ≤ labAt l K (s.1.b + 1).toNat (k + 1)
                      · have d5 : decide (labAt l K s.1.a.toNat k + sumW (ownW c.pas) s.1 0 c.pas ≤ labAt l K (s.1.b + 1).toNat (k + 1)) = true := by simpa using hc
                        gi_wp2_with fail
                        have hq : Hid (((G1 && (pre.map (·.1)).all (strOk (labAt l K) (ownW c.pas) c.pas K)) && (List.range (k + 1)).all fun k => step2 (labAt l K) (ownW c.pas) c.pas s.1 k) = true) := by
                          rw [Hid, all_range_snoc, ← Bool.and_assoc, HGD.out]
                          simp [step2, *]
                        clear HGD
                        refine wpIn_region_tail (C := fun w' => ∃ x : Ext wr, w' = x.w) 22 (by kernel_rfl) (by kernel_rfl) (by kernel_rfl) ⟨⟨(wr).drew, ⟨rfl, rfl, rfl, Nat.le_refl _, fun _ _ => rfl⟩⟩, rfl⟩ ?_
                        simp only [List.take_succ_cons, List.take_zero, List.drop_succ_cons, List.drop_zero]
                        repeat (go_big_quiet_step (first | (go_at_call 64; with_reducible exact HA0.out _) | (go_at_call 64; with_reducible exact HA1.out _) | (go_at_call 66; with_reducible exact HA2.out _)))
                        refine wpQuiet_nil ?_
                        intro _ hw'
                        obtain ⟨xr, hw''⟩ := hw'
                        subst hw''
                        intro K' hK'
                        have hv2 := hv.call xr.h
                        have z1 := hv2.gd.cell 0
                        have z2 := hv2.gd.frozen 0
                        simp at z1
                        have hv3 := hv2.put true
                        have hgr3 : W.grownBy (xr.w.setCell ⟨S + 4, 0, none⟩ (.bool true)) (some (S + 4)) := grown_trans' (grown_trans' hgr (grown_call xr.h _)) (grown_setCell _)
                        have hX3 : Blk (xr.w.setCell ⟨S + 4, 0, none⟩ (.bool true)) Bx 55 #[.int .i64 s.1.a, .int .i64 s.1.b] := (hX.call xr.h).far (by show Bx ≠ S + 4; omega) _
                        go_wp2
                        refine hK' _ _ ?_
                        clear hK' K'
                        gi_wp2
                        go_roundw
                        case rel => exact ⟨k + 1, by omega, by go_num, by rw [hq.out]; exact hv3, hX3, hgr3⟩
                        case measure => (simp [intOf]; try omega)
                      · have d5 : decide (labAt l K s.1.a.toNat k + sumW (ownW c.pas) s.1 0 c.pas ≤ labAt l K (s.1.b + 1).toNat (k + 1)) = false := by simpa using hc
                        gi_wp2_with fail
                        have hq : Hid (((G1 && (pre.map (·.1)).all (strOk (labAt l K) (ownW c.pas) c.pas K)) && (List.range (k + 1)).all fun k => step2 (labAt l K) (ownW c.pas) c.pas s.1 k) = false) := by
                          rw [Hid, all_range_snoc, ← Bool.and_assoc, HGD.out]
                          simp [step2, *]
                        clear HGD
                        refine wpIn_region_tail (C := fun w' => ∃ x : Ext wr, w' = x.w) 22 (by kernel_rfl) (by kernel_rfl) (by kernel_rfl) ⟨⟨(wr).drew, ⟨rfl, rfl, rfl, Nat.le_refl _, fun _ _ => rfl⟩⟩, rfl⟩ ?_
                        simp only [List.take_succ_cons, List.take_zero, List.drop_succ_cons, List.drop_zero]
                        repeat (go_big_quiet_step (first | (go_at_call 64; with_reducible exact HA0.out _) | (go_at_call 64; with_reducible exact HA1.out _) | (go_at_call 66; with_reducible exact HA2.out _)))
                        refine wpQuiet_nil ?_
                        intro _ hw'
                        obtain ⟨xr, hw''⟩ := hw'
                        subst hw''
                        intro K' hK'
                        have hv2 := hv.call xr.h
                        have z1 := hv2.gd.cell 0
                        have z2 := hv2.gd.frozen 0
                        simp at z1
                        have hv3 := hv2.put false
                        have hgr3 : W.grownBy (xr.w.setCell ⟨S + 4, 0, none⟩ (.bool false)) (some (S + 4)) := grown_trans' (grown_trans' hgr (grown_call xr.h _)) (grown_setCell _)
                        have hX3 : Blk (xr.w.setCell ⟨S + 4, 0, none⟩ (.bool false)) Bx 55 #[.int .i64 s.1.a, .int .i64 s.1.b] := (hX.call xr.h).far (by show Bx ≠ S + 4; omega) _
                        go_wp2
                        refine hK' _ _ ?_
                        clear hK' K'
                        gi_wp2
                        go_roundw
                        case rel => exact ⟨k + 1, by omega, by go_num, by rw [hq.out]; exact hv3, hX3, hgr3⟩
                        case measure => (simp [intOf]; try omega)
                  · obtain rfl : k = K := by omega
                    clear b0 b1 b2 b3 b4 s0 s1
                    gi_wp2
                    refine ⟨⟨hgr.size, fun j o hj ho _ => (hgr.block j (Array.getElem?_eq_some_iff.1 ho).1 (fun e => by injection e; omega)).trans ho⟩, fun j hj => hgr.block j (by omega) (fun e => by injection e; omega), ?_, Nat.lt_of_lt_of_le hss hgr.size⟩
                    rw [List.map_append, List.all_append, ← Bool.and_assoc]
                    simpa [strOk] using hv
              case stop =>
                rintro D cc pre W _ _ hh _
                exact hh.elim
              case done =>
                rintro D xs W hD hS2 ⟨hi, hss⟩ hdf
                rw [hS2] at hi
                obtain ⟨G2, hG2⟩ : ∃ G2, (G1 && (allStr c T).all (strOk (labAt l K) (ownW c.pas) c.pas K)) = G2 := ⟨_, rfl⟩
                rw [hG2] at hi
                have HG2 : Hid (goodLab c (labAt l K) = G2) := by
                  rw [Hid, ← hG2, ← HG1.out, HG0.out, goodLab, ← HTT.out, ← HKK.out]
                clear hG2 hS2 hvS hinv hxS
                obtain ⟨k0, k1, k2, k3, k4⟩ := hi.cb.c5
                rw [N1.out] at k0
                rw [N2.out] at k2
                obtain ⟨b0, b1, b2, b3, b4⟩ := hi.cells
                have hbl := hi.bl
                cases G2 with
                | false =>
                  have HE : Hid (checkLab c l = (0, 14)) := by rw [Hid, HR.out, HG2.out]; rfl
                  go_wp2
                  refine ⟨by simp, .inl ⟨_, _, rfl, run_takeDeferred hdf, ?_⟩⟩
                  have hfin := hbl.grown (grownBy_putObj' W D (.deferred none)) hbl.size (fun k hk => by injection hk with hk; omega)
                  exact ⟨.tuple #[.int .i64 0, .int .i64 14], by simp [results, Try.results39, go_sem], by rw [HE.out], hfin⟩
                | true =>
                  have HE : Hid (checkLab c l = (labAt l K T K, 0)) := by rw [Hid, HR.out, HG2.out]; rfl
                  have hat := hi.at_ (t := T) (k := K) (HLAB.out T K (by omega) (by omega)) (by omega) (by omega) n5
                  go_wp2_with fail
                  refine hat.mono ?_
                  rintro e w10 ⟨rfl, rfl⟩
                  go_wp2
                  refine ⟨by simp, .inl ⟨_, _, rfl, run_takeDeferred hdf, ?_⟩⟩
                  have hfin := hbl.grown (grownBy_putObj' W D (.deferred none)) hbl.size (fun k hk => by injection hk with hk; omega)
                  exact ⟨.tuple #[.int .i64 (labAt l K T K), .int .i64 0], by simp [results, Try.results39, go_sem], by rw [HE.out], hfin⟩
end Go.Proofs.Ythplabmbbfefeaa
