/- Contract of the reference: Classes. -/
import Derived.Test.YtgngpdnppdbgoaaRfA
import Derived.Test.YtgngpdnppdbgoaaLev
namespace Go.Proofs.Ytgngpdnppdbgoaa
open Go.RowKit Go.Shelf
set_option linter.unusedVariables false

theorem Arr.part {w : World} {B g off n cap : Nat} {l : List Int} (hn : n = l.length) (h1 : l.length ≤ cap) (h2 : cap ≤ 9223372036854775807) (hg : g < B)
    (hc : ∀ i x, l[i]? = some x → w.cell? ⟨g, off + i, none⟩ = some (.int .i64 x)) : Arr w B 1 (.slice (some ⟨g, off, none⟩) n cap) l icell := by
  subst hn
  refine ⟨_, cap, rfl, h1, h2, fun _ => ⟨g, off, rfl, hg, fun i x hx j hj => ?_⟩⟩
  obtain rfl : j = 0 := by omega
  rw [Nat.mul_one, Nat.add_zero]
  exact hc i x hx
/-- a row of the call's own that reads as a list of numbers: its block -/
def OwnB (w : World) (b n cap : Nat) (l : List Int) : Prop := ∃ cur, Blk w b 3 cur ∧ cur.toList.take n = l.map (Value.int .i64) ∧ n = l.length ∧ n ≤ cap ∧ cap ≤ 9223372036854775807 ∧ n ≤ cur.size
theorem own_B {w : World} {base n cap : Nat} {A : Option Addr} {l : List Int} (h : w.ownsRow base 3 1 (.slice A n cap) n (l.map (Value.int .i64))) (hn : 0 < n) : ∃ b, A = some ⟨b, 0, none⟩ ∧ base ≤ b ∧ OwnB w b n cap l := by
  obtain ⟨h1, h2⟩ := h
  rcases h2 with ⟨hv, h0⟩ | ⟨g, cap', cur, hv, hg, hh, hc, hm, hs, ht⟩
  · omega
  · injection hv with hA _ hcc
    subst hcc
    rw [Nat.mul_one] at ht
    have hl : n = l.length := by have := h1; simp at this; omega
    refine ⟨g, hA, hg, cur, hh, ht, hl, hc, by simpa only [maxLen] using hm, ?_⟩
    have := congrArg List.length ht
    simp at this
    omega
theorem OwnB.lt {w : World} {b n cap : Nat} {l : List Int} (h : OwnB w b n cap l) : b < w.heap.size := h.elim fun cur h => h.1.lt
theorem OwnB.call {w w' : World} {b n cap : Nat} {l : List Int} (h : OwnB w b n cap l) (hb : Below w.heap.size w w') : OwnB w' b n cap l := by
  obtain ⟨cur, h1, h2⟩ := h
  exact ⟨cur, h1.call hb, h2⟩
theorem OwnB.far {w : World} {b n cap : Nat} {l : List Int} (h : OwnB w b n cap l) {p : Addr} (hp : b ≠ p.block) (u : Value) : OwnB (w.setCell p u) b n cap l := by
  obtain ⟨cur, h1, h2⟩ := h
  exact ⟨cur, h1.far hp u, h2⟩
theorem OwnB.cell {w : World} {b n cap : Nat} {l : List Int} (h : OwnB w b n cap l) {i : Nat} {x : Int} (hx : l[i]? = some x) : w.cell? ⟨b, i, none⟩ = some (.int .i64 x) ∧ w.frozen? ⟨b, i, none⟩ = false := by
  obtain ⟨cur, h1, h2, h3, h4, h5, h6⟩ := h
  have hi : i < n := by rw [h3]; exact (List.getElem?_eq_some_iff.1 hx).1
  refine ⟨?_, h1.frozen i⟩
  have h7 : (cur.toList.take n)[i]? = some (.int .i64 x) := by rw [h2, List.getElem?_map, hx]; rfl
  rw [List.getElem?_take, if_pos hi] at h7
  rw [h1.cell]
  simpa using h7
theorem OwnB.set_ {w : World} {b n cap : Nat} {l : List Int} (h : OwnB w b n cap l) {i : Nat} (hi : i < n) (x : Int) : OwnB (w.setCell ⟨b, i, none⟩ (.int .i64 x)) b n cap (l.set i x) := by
  obtain ⟨cur, h1, h2, h3, h4, h5, h6⟩ := h
  refine ⟨cur.setIfInBounds i (.int .i64 x), h1.set_ i _, ?_, by simpa using h3, h4, h5, by simpa using h6⟩
  rw [Array.toList_setIfInBounds, List.take_set, h2, List.map_set]
theorem OwnB.arr {w : World} {b n cap : Nat} {l : List Int} (h : OwnB w b n cap l) : Arr w w.heap.size 1 (.slice (some ⟨b, 0, none⟩) n cap) l icell := by
  have hl := h.lt
  have h' := h
  obtain ⟨cur, h1, h2, h3, h4, h5, h6⟩ := h
  exact Arr.part h3 (by omega) h5 hl fun i x hx => by rw [Nat.zero_add]; exact (h'.cell hx).1

def labL (L : Nat → Nat) : List Int := (List.range 101).map fun n => (L n : Int)
theorem labL_len (L : Nat → Nat) : (labL L).length = 101 := by simp [labL]
theorem labL_at (L : Nat → Nat) {n : Nat} (hn : n < 101) : (labL L)[n]? = some (L n : Int) := by
  unfold labL
  rw [List.getElem?_map, List.getElem?_range hn]
  rfl
theorem labL_relax (L : Nat → Nat) {x y : Nat} (hx : x < 101) (hy : y < 101) : ((labL L).set x ((min (L x) (L y) : Nat) : Int)).set y ((min (L x) (L y) : Nat) : Int) = labL (relax L (x, y)) := by
  apply List.ext_getElem?
  intro i
  rw [List.getElem?_set, List.getElem?_set]
  by_cases hi : i < 101
  · rw [labL_at L hi, labL_at _ hi]
    unfold relax
    by_cases e1 : y = i
    · rw [if_pos e1, if_pos (by simp [labL_len]; omega), if_pos (.inr e1.symm)]
    · rw [if_neg e1]
      by_cases e2 : x = i
      · rw [if_pos e2, if_pos (by simp [labL_len]; omega), if_pos (.inl e2.symm)]
      · rw [if_neg e2, if_neg (by rintro (h | h) <;> omega)]
  · rw [if_neg (by omega), if_neg (by omega), List.getElem?_eq_none (by rw [labL_len]; omega), List.getElem?_eq_none (by rw [labL_len]; omega)]
/-- the labels that the reference finds -/
def labsOf (b : List (Int × Int)) : List Int := labL (rounds (nats b) (nats b).length)

set_option maxRecDepth 100000 in
set_option maxHeartbeats 3200000 in
theorem rclasses_ok (v : Value) (b : List (Int × Int)) (w : World) (hv : BookV w w.heap.size v b) (h0 : checkBook b = 0) :
    Calls Try.prog 51 #[v] w fun r w' => ∃ ob cap, r = .returned (.slice (some ⟨ob, 0, none⟩) 101 cap) ∧ OwnB w' ob 101 cap (labsOf b) ∧ w.heap.size ≤ ob ∧ Below w.heap.size w w' := by
  obtain ⟨pa, pc, rfl, hp⟩ := hv.open_
  have hC := BB.new hp
  have hB := (Below.refl w.heap.size w).alloc (Nat.le_refl _) (.cells #[.slice pa b.length pc] 24)
  have hb40 := (book_len h0).1
  have HBL := Lib.hid (book_len h0).2
  go_enter Try.func51, Try.ntmps51
  go_upto_region 1 with (fail)
  generalize hW : w.alloc (.cells #[.slice pa b.length pc] 24) = W at *
  clear hW hv h0
  go_wp2
  go_loopw [3, 4] (fun o i wr => ∃ k : Nat, k ≤ 101 ∧ i = .int .i64 k ∧ Below W.heap.size W wr ∧ wr.ownsRow W.heap.size 3 1 o k (((List.range k).map fun n => ((n : Nat) : Int)).map (Value.int .i64))) (fun _ i _ => 101 - (intOf i).toNat)
  case atStart => exact ⟨0, by omega, rfl, Below.refl _ _, by simpa using World.ownsRow_nil _ _ _ _⟩
  case round =>
    obtain ⟨k, hk, rfl, hbr, hown⟩ := hrel
    by_cases hlt : k < 101
    · have d1 : decide ((k : Int) ≤ 100) = true := decide_eq_true (by omega)
      have d1' : decide (k ≤ 100) = true := decide_eq_true (by omega)
      have ek : IntKind.i64.wrap ((k : Int) + 1) = ((k + 1 : Nat) : Int) := by rw [IntKind.wrap_i64]; omega
      have hsz := hbr.size
      go_wp2_with (at_builtin; refine wpList_app2 slT_i rfl (.tmp 14) (.tmp 16) rfl (sv := u3) rfl hown rfl rfl (one_i _) hsz ?_ ?_ ?_)
      any_goals omega
      intro v4 w4 hown4 hg4 hat4
      have hown5 : w4.ownsRow W.heap.size 3 1 v4 (k + 1) (((List.range (k + 1)).map fun n => ((n : Nat) : Int)).map (Value.int .i64)) := by
        rw [List.range_succ, List.map_append, List.map_append]
        simpa using hown4
      have hb4 : Below W.heap.size W w4 := hbr.grown hg4 hbr.size (fun g hg => (hown.lt g hg).1)
      clear hown4 hg4 hat4 hown hbr hsz
      go_wp2
      go_roundw
      case rel => exact ⟨k + 1, by omega, by go_num, hb4, hown5⟩
      case measure => (simp [intOf]; try omega)
    · obtain rfl : k = 101 := by omega
      have d1 : decide (((101 : Nat) : Int) ≤ 100) = false := by decide
      obtain ⟨oA, oc, rfl⟩ := own_form hown
      obtain ⟨ob, rfl, hob, hO⟩ := own_B hown (by omega)
      have hob2 : w.heap.size ≤ ob := Nat.le_trans hB.size hob
      have hCr := hC.blk.call hbr
      have hgo : w.heap.size < ob := by have := hC.blk.lt; omega
      have hBr := hB.trans (hbr.mono hB.size)
      have hO0 : OwnB wr ob 101 oc (labL (rounds (nats b) 0)) := hO
      clear hk hlt hown hO hbr hB hC
      have k0 := hCr.cell 0
      simp at k0
      obtain ⟨wo, hwo⟩ : ∃ wo : World, wo = wr := ⟨_, rfl⟩
      rw [← hwo] at hO0 hCr hBr k0 ⊢
      clear hwo
      go_wp2
      go_loopw [5] (fun i wr => ∃ r : Nat, r ≤ b.length ∧ i = .int .i64 r ∧ Below w.heap.size w wr ∧ OwnB wr ob 101 oc (labL (rounds (nats b) r)) ∧ Blk wr w.heap.size 24 #[.slice pa b.length pc]) (fun i _ => b.length - (intOf i).toNat)
      case atStart => exact ⟨0, Nat.zero_le _, rfl, hBr, hO0, hCr⟩
      case round =>
        clear k0 hBr hO0 hCr d1
        obtain ⟨r, hr, rfl, hBr, hO, hC⟩ := hrel
        have k0 := hC.cell 0
        simp at k0
        by_cases hrl : r < b.length
        · have d2 : decide (r < b.length) = true := by simpa using hrl
          have d2' : decide ((r : Int) < (b.length : Int)) = true := by simp; omega
          have HR1 : Hid (rounds (nats b) (r + 1) = (nats b).foldl relax (rounds (nats b) r)) := rfl
          generalize rounds (nats b) r = L at *
          go_wp2
          go_loopw [6] (fun i wr => ∃ j : Nat, j ≤ b.length ∧ i = .int .i64 j ∧ Below w.heap.size w wr ∧ OwnB wr ob 101 oc (labL ((nats (b.take j)).foldl relax L)) ∧ Blk wr w.heap.size 24 #[.slice pa b.length pc]) (fun i _ => b.length - (intOf i).toNat)
          case atStart => exact ⟨0, Nat.zero_le _, rfl, hBr, hO, hC⟩
          case round =>
            clear k0 hBr hO hC
            obtain ⟨j, hj, rfl, hBr, hO, hC⟩ := hrel
            have k0 := hC.cell 0
            simp at k0
            by_cases hjl : j < b.length
            · have d3 : decide (j < b.length) = true := by simpa using hjl
              have d3' : decide ((j : Int) < (b.length : Int)) = true := by simp; omega
              have hji : (j : Int) < (b.length : Int) := by omega
              obtain ⟨xb, xo, x, y, hxa, hxb, hx1, c0, c1⟩ := cell2_at (hp.below hBr) hjl
              subst hxa
              have hxy := HBL.out (x, y) (List.mem_of_getElem? hx1)
              dsimp only at hxy
              obtain ⟨xn, rfl⟩ : ∃ xn : Nat, x = (xn : Int) := ⟨x.toNat, by omega⟩
              obtain ⟨yn, rfl⟩ : ∃ yn : Nat, y = (yn : Int) := ⟨y.toNat, by omega⟩
              have hxn : xn < 101 := by omega
              have hyn : yn < 101 := by omega
              have hxi : (xn : Int) < 101 := by omega
              have hyi : (yn : Int) < 101 := by omega
              have HT : Hid ((nats (b.take (j + 1))).foldl relax L = relax ((nats (b.take j)).foldl relax L) (xn, yn)) := by rw [Hid, nats_take_succ hx1, List.foldl_append]; rfl
              clear hx1 hxy
              generalize (nats (b.take j)).foldl relax L = M at *
              have f0 := Ext.of k0
              have f1 := Ext.of c0
              have f2 := Ext.of c1
              go_upto_region 12 with (fail)
              clear k0 c0 c1
              refine wp_region_ext (by kernel_rfl) (by kernel_rfl) ?_
              repeat (go_big_quiet_step (fail))
              refine wpQuiet_nil ?_
              intro _ hw'
              obtain ⟨xr, hw''⟩ := hw'
              subst hw''
              have hB2 := hBr.trans (xr.h.mono hBr.size)
              have hO2 := hO.call xr.h
              have hC2 := hC.call xr.h
              obtain ⟨W2, hW2⟩ : ∃ W2 : World, W2 = xr.w := ⟨_, rfl⟩
              rw [← hW2] at hB2 hO2 hC2 ⊢
              clear hW2 xr f0 f1 f2 hO hC hBr
              obtain ⟨c0, -⟩ := hO2.cell (labL_at M hxn)
              obtain ⟨c1, -⟩ := hO2.cell (labL_at M hyn)
              obtain ⟨A, hA⟩ : ∃ A, A = M xn := ⟨_, rfl⟩
              obtain ⟨D, hD⟩ : ∃ D, D = M yn := ⟨_, rfl⟩
              rw [← hA] at c0
              rw [← hD] at c1
              have HRX : Hid (((labL M).set xn ((min A D : Nat) : Int)).set yn ((min A D : Nat) : Int) = labL (relax M (xn, yn))) := by rw [hA, hD]; exact labL_relax M hxn hyn
              clear hA hD
              have f0 := Ext.of c0
              have f1 := Ext.of c1
              clear c0 c1
              go_upto_region 13 with (fail)
              refine wp_region_ext (by kernel_rfl) (by kernel_rfl) ?_
              repeat (go_big_quiet_step (fail))
              refine wpQuiet_nil ?_
              intro _ hw'
              obtain ⟨xr, hw''⟩ := hw'
              subst hw''
              have emin : (if D < A then (D : Int) else (A : Int)) = ((min A D : Nat) : Int) := by split <;> omega
              rw [emin]
              have hB3 := hB2.trans (xr.h.mono hB2.size)
              have hO3 := hO2.call xr.h
              have hC3 := hC2.call xr.h
              obtain ⟨W3, hW3⟩ : ∃ W3 : World, W3 = xr.w := ⟨_, rfl⟩
              rw [← hW3] at hB3 hO3 hC3 ⊢
              clear hW3 xr f0 f1 hO2 hC2 hB2 emin
              obtain ⟨N, hN⟩ : ∃ N, N = min A D := ⟨_, rfl⟩
              rw [← hN] at HRX ⊢
              clear hN
              obtain ⟨c0, z0⟩ := hO3.cell (labL_at M hxn)
              have hO4 := hO3.set_ hxn (N : Int)
              have hO5 := hO4.set_ hyn (N : Int)
              rw [HRX.out, ← HT.out] at hO5
              have hgs1 : W3.grownBy (W3.setCell ⟨ob, xn, none⟩ (.int .i64 (N : Int))) (some ob) := grown_setCell _
              have hgs2 : (W3.setCell ⟨ob, xn, none⟩ (.int .i64 (N : Int))).grownBy ((W3.setCell ⟨ob, xn, none⟩ (.int .i64 (N : Int))).setCell ⟨ob, yn, none⟩ (.int .i64 (N : Int))) (some ob) := grown_setCell _
              have hC5 := (hC3.grown hgs1 (fun e => by injection e; omega)).grown hgs2 (fun e => by injection e; omega)
              have hB5 := (hB3.setCell (p := ⟨ob, xn, none⟩) hob2 (.int .i64 (N : Int))).setCell (p := ⟨ob, yn, none⟩) hob2 (.int .i64 (N : Int))
              obtain ⟨y5, hy5⟩ : ∃ y5, ((labL M).set xn (N : Int))[yn]? = some y5 := ⟨_, List.getElem?_eq_getElem (by rw [List.length_set, labL_len]; exact hyn)⟩
              obtain ⟨c4, z4⟩ := hO4.cell hy5
              clear hO3 hO4 hC3 hB3 hgs1 hgs2 hy5
              go_wp2
              go_roundw
              case rel => exact ⟨j + 1, by omega, by go_num, hB5, hO5, hC5⟩
              case measure => (simp [intOf]; try omega)
            · obtain rfl : b.length = j := by omega
              have d3 : decide (b.length < b.length) = false := by simp
              rw [List.take_length, ← HR1.out] at hO
              go_wp2
              go_roundw
              case rel => exact ⟨r + 1, by omega, by go_num, hBr, hO, hC⟩
              case measure => (simp [intOf]; try omega)
        · obtain rfl : b.length = r := by omega
          have d2 : decide (b.length < b.length) = false := by simp
          have hll : (nats b).length = b.length := by simp [nats]
          have HFI : Hid (labL (rounds (nats b) b.length) = labsOf b) := by unfold labsOf; rw [hll]; rfl
          rw [HFI.out] at hO
          clear hll
          go_wp2
          go_ret
          exact ⟨ob, oc, by rfl, hO, hob2, hBr⟩
end Go.Proofs.Ytgngpdnppdbgoaa
