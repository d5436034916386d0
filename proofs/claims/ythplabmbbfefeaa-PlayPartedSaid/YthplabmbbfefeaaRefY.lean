/- Contract of the reference: Kinds. -/
import Derived.Test.YthplabmbbfefeaaRefW
import Derived.Test.YthplabmbbfefeaaKnd
import Derived.Test.YthplabmbbfefeaaSchedH
import Derived.Test.YthplabmbbfefeaaPlayL
namespace Go.Proofs.Ythplabmbbfefeaa
open Go.RowKit Go.Shelf
set_option linter.unusedVariables false

/-- a row of the call's own that reads as a list of numbers: its block -/
def OwnB (w : World) (b n cap : Nat) (l : List Int) : Prop := ∃ cur, Blk w b 2 cur ∧ cur.toList.take n = l.map (Value.int .i64) ∧ n = l.length ∧ n ≤ cap ∧ cap ≤ 9223372036854775807 ∧ n ≤ cur.size
theorem own_B {w : World} {base n cap : Nat} {A : Option Addr} {l : List Int} (h : w.ownsRow base 2 1 (.slice A n cap) n (l.map (Value.int .i64))) (hn : 0 < n) : ∃ b, A = some ⟨b, 0, none⟩ ∧ base ≤ b ∧ OwnB w b n cap l := by
  obtain ⟨h1, h2⟩ := h
  rcases h2 with ⟨hv, h0⟩ | ⟨g, cap', cur, hv, hg, hh, hc, hm, hs, ht⟩
  · omega
  · injection hv with hA _ hcc
    subst hcc
    rw [Nat.mul_one] at ht
    have hl : n = l.length := by have := h1; simp at this; omega
    refine ⟨g, hA, hg, cur, hh, ht, hl, hc, by simpa only [maxLen] using hm, ?_⟩
    have := congrArg List.length ht
    simp at this
    omega
theorem OwnB.lt {w : World} {b n cap : Nat} {l : List Int} (h : OwnB w b n cap l) : b < w.heap.size := h.elim fun cur h => h.1.lt
theorem OwnB.call {w w' : World} {b n cap : Nat} {l : List Int} (h : OwnB w b n cap l) (hb : Below w.heap.size w w') : OwnB w' b n cap l := by
  obtain ⟨cur, h1, h2⟩ := h
  exact ⟨cur, h1.call hb, h2⟩
theorem OwnB.far {w : World} {b n cap : Nat} {l : List Int} (h : OwnB w b n cap l) {p : Addr} (hp : b ≠ p.block) (u : Value) : OwnB (w.setCell p u) b n cap l := by
  obtain ⟨cur, h1, h2⟩ := h
  exact ⟨cur, h1.far hp u, h2⟩
theorem OwnB.cell {w : World} {b n cap : Nat} {l : List Int} (h : OwnB w b n cap l) {i : Nat} {x : Int} (hx : l[i]? = some x) : w.cell? ⟨b, i, none⟩ = some (.int .i64 x) ∧ w.frozen? ⟨b, i, none⟩ = false := by
  obtain ⟨cur, h1, h2, h3, h4, h5, h6⟩ := h
  have hi : i < n := by rw [h3]; exact (List.getElem?_eq_some_iff.1 hx).1
  refine ⟨?_, h1.frozen i⟩
  have h7 : (cur.toList.take n)[i]? = some (.int .i64 x) := by rw [h2, List.getElem?_map, hx]; rfl
  rw [List.getElem?_take, if_pos hi] at h7
  rw [h1.cell]
  simpa using h7
theorem OwnB.set_ {w : World} {b n cap : Nat} {l : List Int} (h : OwnB w b n cap l) {i : Nat} (hi : i < n) (x : Int) : OwnB (w.setCell ⟨b, i, none⟩ (.int .i64 x)) b n cap (l.set i x) := by
  obtain ⟨cur, h1, h2, h3, h4, h5, h6⟩ := h
  refine ⟨cur.setIfInBounds i (.int .i64 x), h1.set_ i _, ?_, by simpa using h3, h4, h5, by simpa using h6⟩
  rw [Array.toList_setIfInBounds, List.take_set, h2, List.map_set]
theorem OwnB.arr {w : World} {b n cap : Nat} {l : List Int} (h : OwnB w b n cap l) : Arr w w.heap.size 1 (.slice (some ⟨b, 0, none⟩) n cap) l icell := by
  have hl := h.lt
  have h' := h
  obtain ⟨cur, h1, h2, h3, h4, h5, h6⟩ := h
  exact Arr.part h3 (by omega) h5 hl fun i x hx => by rw [Nat.zero_add]; exact (h'.cell hx).1

theorem listW_set (c : Cyl) (k : Nat) (x : Int) (hk : k < c.pas.length) : listW ((ownL c).set k (ownW c.pas k + x)) = addW (ownW c.pas) k x := by
  funext j
  unfold listW addW
  rw [List.getElem?_set]
  by_cases h : j = k
  · subst h
    simp [ownL_len, hk]
  · rw [if_neg (Ne.symm h), if_neg h]
    have := congrFun (ownL_W c) j
    simpa [listW] using this
theorem set_bound {c : Cyl} (hall : c.pas.all (pasOk c.turns) = true) {k : Nat} {x : Int} (hx : -1002000 ≤ x ∧ x ≤ 1002000) : ∀ y ∈ (ownL c).set k x, -2000000 ≤ y ∧ y ≤ 2000000 := by
  intro y hy
  rcases List.mem_or_eq_of_mem_set hy with h | h
  · exact ownL_bound hall y h
  · omega

set_option maxRecDepth 100000 in
set_option maxHeartbeats 3200000 in
theorem rkinds_ok (v : Value) (c : Cyl) (w : World) (hv : CylV w w.heap.size v c) :
    Calls Try.prog 31 #[v] w (KindsPost c 1000000 w) := by
  obtain ⟨fa, fc, pa, pc, rfl, hf, hp⟩ := hv.open_
  have hC := CB.new hf hp
  have hB := (Below.refl w.heap.size w).alloc (Nat.le_refl _) (.cells #[.int .i64 c.turns, .int .i64 c.long, .int .i64 c.plays, .slice fa c.frag.length fc, .slice pa c.pas.length pc] 25)
  go_enter Try.func31, Try.ntmps31
  go_upto_region 1 with (fail)
  generalize hW : w.alloc (.cells #[.int .i64 c.turns, .int .i64 c.long, .int .i64 c.plays, .slice fa c.frag.length fc, .slice pa c.pas.length pc] 25) = W at *
  clear hW hf hp
  obtain ⟨k0, k1, k2, k3, k4⟩ := hC.c5
  go_wp2_with fail
  refine (rcheckCyl_ok _ c _ hC.cyl).mono ?_
  rintro e w1 ⟨rfl, hb1⟩
  have hB1 := hB.trans (hb1.mono hB.size)
  have hC1 := hC.call hb1
  clear k0 k1 k2 k3 k4
  obtain ⟨k0, k1, k2, k3, k4⟩ := hC1.c5
  by_cases h0 : checkCyl c = 0
  case neg =>
    have hn1 : (checkCyl c == 0) = false := by simpa using h0
    have hn2 : (checkCyl c != 0) = true := by simpa using h0
    have HC : Hid (kindsOf c 1000000 = []) := by simp [Hid, kindsOf, h0]
    clear h0
    go_wp2_with fail
    refine (rcheckCyl_ok _ c _ hC1.cyl).mono ?_
    rintro e w2 ⟨rfl, hb2⟩
    go_wp2
    go_ret2
    exact ⟨_, rfl, by rw [HC.out]; exact Arr.nil_, hB1.trans (hb2.mono hB1.size)⟩
  case pos =>
    have HC : Hid (kindsOf c 1000000 = (List.range c.pas.length).map (kindOf c 1000000)) := by simp [Hid, kindsOf, h0]
    have H0 := Lib.hid h0
    obtain ⟨_, _, hlen, hall⟩ := cyl_valid h0
    have HALL := Lib.hid hall
    obtain ⟨n1, n2, n3, n4, n5, n6, n7⟩ := cyl_nat h0
    have N1 := Lib.hid n1
    have N2 := Lib.hid n2
    clear hall n1 n2
    rw [h0]
    clear h0
    go_wp2_with fail
    refine (rmost_ok _ c _ hC1.cyl H0.out).mono ?_
    rintro e w2 ⟨rfl, hb2⟩
    have hB2 := hB1.trans (hb2.mono hB1.size)
    have hC2 := hC1.call hb2
    clear k0 k1 k2 k3 k4
    obtain ⟨k0, k1, k2, k3, k4⟩ := hC2.c5
    obtain ⟨mo, hmo⟩ : ∃ mo, mostOf c = mo := ⟨_, rfl⟩
    rw [hmo]
    have HMO := Lib.hid hmo
    clear hmo
    go_wp2
    go_loopw [5, 6] (fun o i wr => ∃ (k : Nat) (A : Option Addr) (cap : Nat), k ≤ c.pas.length ∧ i = .int .i64 k ∧ o = .slice A k cap ∧ wr.ownsRow w2.heap.size 3 1 (.slice A k cap) k ((((List.range k).map (kindOf c 1000000))).map (Value.int .i64)) ∧ Below w2.heap.size w2 wr) (fun _ i _ => c.pas.length - (intOf i).toNat)
    case atStart => exact ⟨0, none, 0, Nat.zero_le _, rfl, rfl, by simpa using World.ownsRow_nil _ _ _ _, Below.refl _ _⟩
    case round =>
      obtain ⟨k, A, cap, hk, rfl, rfl, hown, hb⟩ := hrel
      have hcap := own_cap hown
      have hCr := hC2.call hb
      have hBr := hB2.trans (hb.mono hB2.size)
      clear k0 k1 k2 k3 k4
      obtain ⟨k0, k1, k2, k3, k4⟩ := hCr.c5
      by_cases hlt : k < c.pas.length
      · have dlt : decide (k < c.pas.length) = true := by simpa using hlt
        have dlt' : decide ((k : Int) < (c.pas.length : Int)) = true := by simpa using hlt
        have f0 := Ext.of k0
        have f1 := Ext.of k1
        have f2 := Ext.of k2
        have f3 := Ext.of k3
        have f4 := Ext.of k4
        rw [N1.out] at f0
        rw [N2.out] at f2
        have hcyx : ∀ x : Ext wr, CylV x.w x.w.heap.size (.agg #[.int .i64 (tT c : Int), .int .i64 c.long, .int .i64 (tK c : Int), .slice fa c.frag.length fc, .slice pa c.pas.length pc]) c := fun x => by have h := (hCr.call x.h).cyl; rw [N1.out, N2.out] at h; exact h
        have HCY := Lib.hid hcyx
        clear hcyx
        go_upto_region 8 with (fail)
        clear k0 k1 k2 k3 k4
        refine wp_region_schedH (C := fun w' => ∃ x : Ext wr, w' = x.w) [(0, true), (2, true), (1, false), (3, false), (4, true), (5, true)] (by kernel_rfl) (by kernel_rfl) ⟨⟨wr.drew, (Below.refl _ wr).drew⟩, rfl⟩ ?_
        refine schedH_q (by rfl) (by rfl) ?_
        intro K hK
        go_big_quiet_op
        go_big_quiet_on
        refine schedH_q (by rfl) (by rfl) ?_
        intro K hK
        go_big_quiet_op
        go_big_quiet_on
        refine schedH_c (by rfl) (by rfl) ?_
        intro K' hK'
        go_wp2_with fail
        refine (rown_ok _ c wr.drew (HCY.out ⟨wr.drew, (Below.refl _ wr).drew⟩) (by omega)).mono ?_
        rintro e w4 ⟨A4, cap4, rfl, hown4, hb4⟩
        have hx4 : Below wr.heap.size wr w4 := (Below.refl _ wr).drew.trans hb4
        go_wp2
        refine hK' _ _ ⟨⟨⟨w4, hx4⟩, rfl⟩, ?_⟩
        clear hK' K'
        refine schedH_c (by rfl) (by rfl) ?_
        intro K' hK'
        go_wp2_with fail
        refine (rown_ok _ c w4 (HCY.out ⟨w4, hx4⟩) (by omega)).mono ?_
        rintro e w5 ⟨A5, cap5, rfl, hown5, hb5⟩
        have hx5 : Below wr.heap.size wr w5 := hx4.trans (hb5.mono hx4.size)
        obtain ⟨b4, rfl, hb41, hO4⟩ := own_B hown4 (by omega)
        obtain ⟨b5, rfl, hb51, hO5⟩ := own_B hown5 (by omega)
        have hlt4 := hO4.lt
        have hO4 := hO4.call hb5
        clear hown4 hown5
        go_wp2
        refine hK' _ _ ⟨⟨⟨w5, hx5⟩, rfl⟩, ?_⟩
        clear hK' K'
        refine schedH_q (by rfl) (by rfl) ?_
        intro K hK
        go_big_quiet_op
        go_big_quiet_on
        refine schedH_q (by rfl) (by rfl) ?_
        intro K hK
        go_big_quiet_op
        go_big_quiet_on
        refine schedH_nil ?_
        clear f0 f1 f2 f3 f4 HCY
        obtain ⟨pw, hpw⟩ : ∃ pw, ownW c.pas k = pw := ⟨_, rfl⟩
        have hget : (ownL c)[k]? = some pw := by
          have := congrFun (ownL_W c) k
          unfold listW at this
          have hk2 : k < (ownL c).length := by rw [ownL_len]; exact hlt
          rw [List.getElem?_eq_getElem hk2] at this ⊢
          rw [← hpw]
          simpa using this
        have hpb := ownW_bound HALL.out k
        rw [hpw] at hpb
        have HPW := Lib.hid hpw
        clear hpw
        obtain ⟨p1, p2⟩ := hpb
        have hne45 : b4 ≠ b5 := by omega
        have hbw4 : wr.heap.size ≤ b4 := hb41
        have hbw5 : wr.heap.size ≤ b5 := by have := hx4.size; omega
        have q4 := hO4.cell hget
        have q5 := hO5.cell hget
        obtain ⟨q4, z4⟩ := q4
        obtain ⟨q5, z5⟩ := q5
        have e1 : IntKind.i64.wrap (pw + 1000000) = pw + 1000000 := wrap_id _ (by omega) (by omega)
        have e2 : IntKind.i64.wrap (pw - 1000000) = pw - 1000000 := wrap_id _ (by omega) (by omega)
        have j1 : (k : Int) < (c.pas.length : Int) := by omega
        clear hget
        go_upto_region 11 with (fail)
        have hP4 := (hO4.set_ hlt (pw + 1000000)).far (p := ⟨b5, k, none⟩) hne45 (.int .i64 (pw - 1000000))
        have hP5 := (hO5.far (p := ⟨b4, k, none⟩) (Ne.symm hne45) (.int .i64 (pw + 1000000))).set_ hlt (pw - 1000000)
        have hx7 := (hx5.setCell (p := ⟨b4, k, none⟩) hbw4 (.int .i64 (pw + 1000000))).setCell (p := ⟨b5, k, none⟩) hbw5 (.int .i64 (pw - 1000000))
        clear q4 q5 z4 z5 hO4 hO5 hx4 hx5
        generalize (w5.setCell ⟨b4, k, none⟩ (.int .i64 (pw + 1000000))).setCell ⟨b5, k, none⟩ (.int .i64 (pw - 1000000)) = w7 at *
        have hC7 := hCr.call hx7
        have hl1 : ((ownL c).set k (pw + 1000000)).length = c.pas.length := by rw [List.length_set, ownL_len]
        have hl2 : ((ownL c).set k (pw - 1000000)).length = c.pas.length := by rw [List.length_set, ownL_len]
        have hs1 : listW ((ownL c).set k (pw + 1000000)) = addW (ownW c.pas) k 1000000 := by rw [← HPW.out]; exact listW_set c k 1000000 hlt
        have hs2 : listW ((ownL c).set k (pw - 1000000)) = addW (ownW c.pas) k (-1000000) := by rw [← HPW.out]; exact listW_set c k (-1000000) hlt
        have hg1 := set_bound HALL.out (k := k) (x := pw + 1000000) (by omega)
        have hg2 := set_bound HALL.out (k := k) (x := pw - 1000000) (by omega)
        have ht1 := tabC_bound c _ H0.out hlen (listW_bound hg1) (tT c) (tK c)
        rw [hs1] at ht1
        obtain ⟨x1, hx1⟩ : ∃ x1, tabC c (addW (ownW c.pas) k 1000000) (tT c) (tK c) = x1 := ⟨_, rfl⟩
        obtain ⟨x2, hx2⟩ : ∃ x2, tabC c (addW (ownW c.pas) k (-1000000)) (tT c) (tK c) = x2 := ⟨_, rfl⟩
        rw [hx1] at ht1
        have e3 : IntKind.i64.wrap (x1 - 1000000) = x1 - 1000000 := wrap_id _ (by omega) (by omega)
        have HL1 := Lib.hid hl1
        have HL2 := Lib.hid hl2
        have HS1 := Lib.hid hs1
        have HS2 := Lib.hid hs2
        have HG1 := Lib.hid hg1
        have HG2 := Lib.hid hg2
        have HX1 := Lib.hid hx1
        have HX2 := Lib.hid hx2
        have i1 : (tT c : Int) < (tT c : Int) + 1 := by omega
        have i2 : tT c < tT c + 1 := by omega
        have i3 : (tK c : Int) < (tK c : Int) + 1 := by omega
        have i4 : tK c < tK c + 1 := by omega
        clear hl1 hl2 hs1 hs2 hg1 hg2 hx1 hx2 ht1
        have f0 := Ext.of (hC7.c5).1
        have f1 := Ext.of (hC7.c5).2.1
        have f2 := Ext.of (hC7.c5).2.2.1
        have f3 := Ext.of (hC7.c5).2.2.2.1
        have f4 := Ext.of (hC7.c5).2.2.2.2
        rw [N1.out] at f0
        rw [N2.out] at f2
        have hcyx : ∀ x : Ext w7, CylV x.w x.w.heap.size (.agg #[.int .i64 (tT c : Int), .int .i64 c.long, .int .i64 (tK c : Int), .slice fa c.frag.length fc, .slice pa c.pas.length pc]) c := fun x => by have h := (hC7.call x.h).cyl; rw [N1.out, N2.out] at h; exact h
        have HCY := Lib.hid hcyx
        clear hcyx
        refine wp_region_schedH (C := fun w' => ∃ x : Ext w7, w' = x.w) [(0, true), (1, true), (3, true), (4, true), (7, true), (8, true), (2, false), (5, false), (6, false), (9, false), (10, false), (11, false), (12, false)] (by kernel_rfl) (by kernel_rfl) ⟨⟨(w7).drew, (Below.refl _ w7).drew⟩, rfl⟩ ?_
        refine schedH_q (by rfl) (by rfl) ?_
        intro K hK
        go_big_quiet_op
        go_big_quiet_on
        refine schedH_q (by rfl) (by rfl) ?_
        intro K hK
        go_big_quiet_op
        go_big_quiet_on
        refine schedH_q (by rfl) (by rfl) ?_
        intro K hK
        go_big_quiet_op
        go_big_quiet_on
        refine schedH_q (by rfl) (by rfl) ?_
        intro K hK
        go_big_quiet_op
        go_big_quiet_on
        refine schedH_q (by rfl) (by rfl) ?_
        intro K hK
        go_big_quiet_op
        go_big_quiet_on
        refine schedH_q (by rfl) (by rfl) ?_
        intro K hK
        go_big_quiet_op
        go_big_quiet_on
        refine schedH_c (by rfl) (by rfl) ?_
        intro K' hK'
        go_wp2_with fail
        refine (rtable_post _ _ c _ (w7).drew (HCY.out ⟨(w7).drew, (Below.refl _ w7).drew⟩) (hP4.call (Below.refl _ w7).drew).arr H0.out HL1.out HG1.out).mono ?_
        rintro e wt ⟨At, capt, hst, rfl, hownt, htbt, hbt⟩
        have hxt : Below (w7).heap.size w7 wt := (Below.refl _ w7).drew.trans hbt
        obtain ⟨ob, rfl, hob1, hob2, hoc⟩ := own_cells hownt (by omega)
        obtain ⟨rb, hrb1, hrb2, hrb3⟩ := htbt.2 (tT c) (by omega)
        have o1 := hoc _ _ hrb1
        have r1 := hrb3.cell (tK c)
        rw [rowB_get (Nat.le_refl _)] at r1
        clear hoc hrb1 hownt htbt
        go_wp2
        refine hK' _ _ ⟨⟨⟨wt, hxt⟩, rfl⟩, ?_⟩
        clear hK' K'
        refine schedH_c (by rfl) (by rfl) ?_
        intro K' hK'
        go_wp2
        refine hK' _ _ ⟨⟨⟨wt, hxt⟩, rfl⟩, ?_⟩
        clear hK' K'
        refine schedH_c (by rfl) (by rfl) ?_
        intro K' hK'
        go_wp2
        refine hK' _ _ ⟨⟨⟨wt, hxt⟩, rfl⟩, ?_⟩
        clear hK' K'
        refine schedH_c (by rfl) (by rfl) ?_
        intro K' hK'
        go_wp2
        refine hK' _ _ ⟨⟨⟨wt, hxt⟩, rfl⟩, ?_⟩
        clear hK' K'
        refine schedH_c (by rfl) (by rfl) ?_
        intro K' hK'
        go_wp2
        refine hK' _ _ ⟨⟨⟨wt, hxt⟩, rfl⟩, ?_⟩
        clear hK' K'
        rw [HS1.out, HX1.out]
        refine schedH_c (by rfl) (by rfl) ?_
        intro K' hK'
        go_wp2
        refine hK' _ _ ⟨⟨⟨wt, hxt⟩, rfl⟩, ?_⟩
        clear hK' K'
        refine schedH_c (by rfl) (by rfl) ?_
        intro K' hK'
        go_wp2
        refine hK' _ _ ⟨⟨⟨wt, hxt⟩, rfl⟩, ?_⟩
        clear hK' K'
        refine schedH_nil ?_
        clear f0 f1 f2 f3 f4 HCY o1 r1 hrb3 hP4
        have hC8 := hC7.call hxt
        have hP5 := hP5.call hxt
        have hx8 : Below wr.heap.size wr wt := hx7.trans (hxt.mono hx7.size)
        clear hbt hxt hob1 hob2 hrb2 hC7 hx7
        obtain ⟨w8, rfl⟩ : ∃ w8 : World, w8 = wt := ⟨_, rfl⟩
        have f0 := Ext.of (hC8.c5).1
        have f1 := Ext.of (hC8.c5).2.1
        have f2 := Ext.of (hC8.c5).2.2.1
        have f3 := Ext.of (hC8.c5).2.2.2.1
        have f4 := Ext.of (hC8.c5).2.2.2.2
        rw [N1.out] at f0
        rw [N2.out] at f2
        have hcyx : ∀ x : Ext w8, CylV x.w x.w.heap.size (.agg #[.int .i64 (tT c : Int), .int .i64 c.long, .int .i64 (tK c : Int), .slice fa c.frag.length fc, .slice pa c.pas.length pc]) c := fun x => by have h := (hC8.call x.h).cyl; rw [N1.out, N2.out] at h; exact h
        have HCY := Lib.hid hcyx
        clear hcyx
        go_upto_region 12 with (fail)
        refine wp_region_schedH (C := fun w' => ∃ x : Ext w8, w' = x.w) [(0, true), (1, true), (3, true), (4, true), (7, true), (8, true), (2, false), (5, false), (6, false), (9, false), (10, false), (11, false)] (by kernel_rfl) (by kernel_rfl) ⟨⟨(w8).drew, (Below.refl _ w8).drew⟩, rfl⟩ ?_
        refine schedH_q (by rfl) (by rfl) ?_
        intro K hK
        go_big_quiet_op
        go_big_quiet_on
        refine schedH_q (by rfl) (by rfl) ?_
        intro K hK
        go_big_quiet_op
        go_big_quiet_on
        refine schedH_q (by rfl) (by rfl) ?_
        intro K hK
        go_big_quiet_op
        go_big_quiet_on
        refine schedH_q (by rfl) (by rfl) ?_
        intro K hK
        go_big_quiet_op
        go_big_quiet_on
        refine schedH_q (by rfl) (by rfl) ?_
        intro K hK
        go_big_quiet_op
        go_big_quiet_on
        refine schedH_q (by rfl) (by rfl) ?_
        intro K hK
        go_big_quiet_op
        go_big_quiet_on
        refine schedH_c (by rfl) (by rfl) ?_
        intro K' hK'
        go_wp2_with fail
        refine (rtable_post _ _ c _ (w8).drew (HCY.out ⟨(w8).drew, (Below.refl _ w8).drew⟩) (hP5.call (Below.refl _ w8).drew).arr H0.out HL2.out HG2.out).mono ?_
        rintro e wt ⟨At, capt, hst, rfl, hownt, htbt, hbt⟩
        have hxt : Below (w8).heap.size w8 wt := (Below.refl _ w8).drew.trans hbt
        obtain ⟨ob, rfl, hob1, hob2, hoc⟩ := own_cells hownt (by omega)
        obtain ⟨rb, hrb1, hrb2, hrb3⟩ := htbt.2 (tT c) (by omega)
        have o1 := hoc _ _ hrb1
        have r1 := hrb3.cell (tK c)
        rw [rowB_get (Nat.le_refl _)] at r1
        clear hoc hrb1 hownt htbt
        go_wp2
        refine hK' _ _ ⟨⟨⟨wt, hxt⟩, rfl⟩, ?_⟩
        clear hK' K'
        refine schedH_c (by rfl) (by rfl) ?_
        intro K' hK'
        go_wp2
        refine hK' _ _ ⟨⟨⟨wt, hxt⟩, rfl⟩, ?_⟩
        clear hK' K'
        refine schedH_c (by rfl) (by rfl) ?_
        intro K' hK'
        go_wp2
        refine hK' _ _ ⟨⟨⟨wt, hxt⟩, rfl⟩, ?_⟩
        clear hK' K'
        refine schedH_c (by rfl) (by rfl) ?_
        intro K' hK'
        go_wp2
        refine hK' _ _ ⟨⟨⟨wt, hxt⟩, rfl⟩, ?_⟩
        clear hK' K'
        refine schedH_c (by rfl) (by rfl) ?_
        intro K' hK'
        go_wp2
        refine hK' _ _ ⟨⟨⟨wt, hxt⟩, rfl⟩, ?_⟩
        clear hK' K'
        rw [HS2.out, HX2.out]
        refine schedH_c (by rfl) (by rfl) ?_
        intro K' hK'
        go_wp2
        refine hK' _ _ ⟨⟨⟨wt, hxt⟩, rfl⟩, ?_⟩
        clear hK' K'
        refine schedH_nil ?_
        have hb9 : Below w2.heap.size w2 wt := hb.trans ((hx8.trans (hxt.mono hx8.size)).mono hb.size)
        have hown9 := own_call hown (hx8.trans (hxt.mono hx8.size))
        clear f0 f1 f2 f3 f4 HCY o1 r1 hrb3 hP5 hC8 hbt hown
        have hkd : kindOf c 1000000 k = if x1 - 1000000 < mo then 0 else if x2 < mo then 2 else 1 := by
          unfold kindOf withOf withoutOf
          rw [HX1.out, HX2.out, HMO.out]
        have HKD := Lib.hid hkd
        clear hkd
        by_cases hc1 : x1 - 1000000 < mo
        · have HKO : Hid (kindOf c 1000000 k = 0) := by rw [Hid, HKD.out, if_pos hc1]
          go_wp2_with (at_builtin; refine wpList_app1 slT_int rfl (.tmp 67) (.tmp 68) rfl (A := A) (cc := cap) rfl ⟨cap, hown9, .inl rfl⟩ rfl rfl one_1 hb9.size ?_ ?_ ?_)
          any_goals omega
          intro v' w10 hown10 hb10 hkeep
          have hap : Hid ((List.range (k + 1)).map (kindOf c 1000000) = (List.range k).map (kindOf c 1000000) ++ [(0 : Int)]) := by rw [Hid, List.range_succ, List.map_append, List.map_singleton, HKO.out]
          have hown11 : w10.ownsRow w2.heap.size 3 1 v' (k + 1) ((((List.range (k + 1)).map (kindOf c 1000000))).map (Value.int .i64)) := by rw [hap.out, List.map_append]; simpa using hown10
          obtain ⟨A', cap', rfl⟩ := own_form hown11
          have hb11 := hb9.trans hb10
          clear hown10 hkeep hown9
          go_wp2
          go_roundw
          case rel => exact ⟨k + 1, A', cap', by omega, by go_num, rfl, hown11, hb11⟩
          case measure => (simp [intOf]; try omega)
        · by_cases hc2 : x2 < mo
          · have HKO : Hid (kindOf c 1000000 k = 2) := by rw [Hid, HKD.out, if_neg hc1, if_pos hc2]
            go_wp2_with (at_builtin; refine wpList_app1 slT_int rfl (.tmp 73) (.tmp 74) rfl (A := A) (cc := cap) rfl ⟨cap, hown9, .inl rfl⟩ rfl rfl one_1 hb9.size ?_ ?_ ?_)
            any_goals omega
            intro v' w10 hown10 hb10 hkeep
            have hap : Hid ((List.range (k + 1)).map (kindOf c 1000000) = (List.range k).map (kindOf c 1000000) ++ [(2 : Int)]) := by rw [Hid, List.range_succ, List.map_append, List.map_singleton, HKO.out]
            have hown11 : w10.ownsRow w2.heap.size 3 1 v' (k + 1) ((((List.range (k + 1)).map (kindOf c 1000000))).map (Value.int .i64)) := by rw [hap.out, List.map_append]; simpa using hown10
            obtain ⟨A', cap', rfl⟩ := own_form hown11
            have hb11 := hb9.trans hb10
            clear hown10 hkeep hown9
            go_wp2
            go_roundw
            case rel => exact ⟨k + 1, A', cap', by omega, by go_num, rfl, hown11, hb11⟩
            case measure => (simp [intOf]; try omega)
          · have HKO : Hid (kindOf c 1000000 k = 1) := by rw [Hid, HKD.out, if_neg hc1, if_neg hc2]
            go_wp2_with (at_builtin; refine wpList_app1 slT_int rfl (.tmp 76) (.tmp 77) rfl (A := A) (cc := cap) rfl ⟨cap, hown9, .inl rfl⟩ rfl rfl one_1 hb9.size ?_ ?_ ?_)
            any_goals omega
            intro v' w10 hown10 hb10 hkeep
            have hap : Hid ((List.range (k + 1)).map (kindOf c 1000000) = (List.range k).map (kindOf c 1000000) ++ [(1 : Int)]) := by rw [Hid, List.range_succ, List.map_append, List.map_singleton, HKO.out]
            have hown11 : w10.ownsRow w2.heap.size 3 1 v' (k + 1) ((((List.range (k + 1)).map (kindOf c 1000000))).map (Value.int .i64)) := by rw [hap.out, List.map_append]; simpa using hown10
            obtain ⟨A', cap', rfl⟩ := own_form hown11
            have hb11 := hb9.trans hb10
            clear hown10 hkeep hown9
            go_wp2
            go_roundw
            case rel => exact ⟨k + 1, A', cap', by omega, by go_num, rfl, hown11, hb11⟩
            case measure => (simp [intOf]; try omega)
      · obtain rfl : k = c.pas.length := by omega
        go_wp2
        go_ret2
        refine ⟨.slice A c.pas.length cap, ret_t2 rfl H0.out.symm, ?_, hBr⟩
        rw [HC.out]
        exact Arr.of_own_int (by simp) hown
end Go.Proofs.Ythplabmbbfefeaa
