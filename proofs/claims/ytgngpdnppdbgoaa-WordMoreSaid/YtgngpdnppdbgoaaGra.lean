/- Contract: Grades. -/
import Derived.Test.YtgngpdnppdbgoaaCer
import Derived.Test.YtgngpdnppdbgoaaWysP
namespace Go.Proofs.Ytgngpdnppdbgoaa
open Go.RowKit Go.Shelf
set_option linter.unusedVariables false

theorem slT_i64 : SlT 103 2 1 8 (.int .i64 0) := ⟨Try.underlying103, by kernel_rfl, rfl, by omega⟩
/-- a row of numbers -/
structure NRow (W : World) (rb n : Nat) (t : TypeId) (V : Nat → Int) : Prop where
  blk : ∃ cs : Array Value, Blk W rb t cs ∧ cs.size = n ∧ ∀ j, j < n → cs[j]? = some (.int .i64 (V j))
section
variable {W W' : World} {rb n : Nat} {t : TypeId} {V : Nat → Int}
theorem NRow.lt (h : NRow W rb n t V) : rb < W.heap.size := by obtain ⟨⟨cs, h1, -⟩⟩ := h; exact h1.lt
theorem NRow.grown {row : Option Nat} (h : NRow W rb n t V) (hg : W.grownBy W' row) (hr : row ≠ some rb) : NRow W' rb n t V := by
  obtain ⟨⟨cs, h1, h2⟩⟩ := h
  exact ⟨⟨cs, h1.grown hg fun e => hr e.symm, h2⟩⟩
theorem NRow.call (h : NRow W rb n t V) (hb : Below W.heap.size W W') : NRow W' rb n t V := h.grown (grown_call hb none) (by simp)
theorem NRow.at_ (h : NRow W rb n t V) {j : Nat} (hj : j < n) : W.cell? ⟨rb, j, none⟩ = some (.int .i64 (V j)) := by
  obtain ⟨⟨cs, h1, h2, h3⟩⟩ := h
  rw [h1.cell]
  exact h3 j hj
theorem NRow.frozen (h : NRow W rb n t V) (j : Nat) : W.frozen? ⟨rb, j, none⟩ = false := by
  obtain ⟨⟨cs, h1, h2, h3⟩⟩ := h
  exact h1.frozen j
theorem NRow.same {V' : Nat → Int} (h : NRow W rb n t V) (hV : ∀ j, j < n → V' j = V j) : NRow W rb n t V' := by
  obtain ⟨⟨cs, h1, h2, h3⟩⟩ := h
  exact ⟨⟨cs, h1, h2, fun j hj => by rw [hV j hj]; exact h3 j hj⟩⟩
theorem NRow.set_ (h : NRow W rb n t V) {k : Nat} (hk : k < n) (v : Int) : NRow (W.setCell ⟨rb, k, none⟩ (.int .i64 v)) rb n t (fun j => if j = k then v else V j) := by
  obtain ⟨⟨cs, h1, h2, h3⟩⟩ := h
  refine ⟨⟨_, h1.set_ k (.int .i64 v), by simpa using h2, fun j hj => ?_⟩⟩
  have g1 := h3 j hj
  rw [Array.getElem?_setIfInBounds]
  by_cases e : j = k
  · subst e
    rw [if_pos rfl, if_pos (by omega), if_pos rfl]
  · rw [if_neg (by omega), if_neg e]
    exact g1
theorem NRow.new (w : World) (n : Nat) (t : TypeId) : NRow (w.alloc (.cells (madeCells (Value.int .i64 0).cells (n * 1)) t)) w.heap.size n t (fun _ => 0) := by
  refine ⟨⟨_, Blk.new _ _ _, by simp [madeCells], fun j hj => ?_⟩⟩
  have e : (Value.int .i64 0).cells = #[.int .i64 0] := by simp [Value.cells]
  rw [e, Nat.mul_one, ← Array.getElem?_toList, toList_madeCells_one, List.getElem?_replicate, if_pos hj]
theorem NRow.arr (h : NRow W rb n t V) (hn : n ≤ 9223372036854775807) : Arr W W.heap.size 1 (.slice (some ⟨rb, 0, none⟩) n n) ((List.range n).map V) icell := by
  have hl := h.lt
  refine ⟨_, n, by simp, by simp, hn, fun _ => ⟨rb, 0, rfl, hl, fun i x hx j hj => ?_⟩⟩
  obtain rfl : j = 0 := by omega
  have hi : i < n := by have := (List.getElem?_eq_some_iff.1 hx).1; simpa using this
  have hx2 : V i = x := by
    rw [List.getElem?_map, List.getElem?_range hi] at hx
    simpa using hx
  rw [show 0 + i * 1 + 0 = i by omega, h.at_ hi, hx2]
end
theorem grades_if {b : List (Int × Int)} {ls : List (List Int)} {h : Nat} {j : Nat} {N all : Nat} (hN : N = (longOf b ls).countP (hearsB h j)) (ha : all = (longOf b ls).length) (h0 : N ≤ all) : gradeN ((longOf b ls).countP (hearsB h j)) (longOf b ls).length = if N = 0 then 0 else if N = all then 2 else 1 := by
  subst hN ha
  unfold gradeN
  by_cases e : (longOf b ls).countP (hearsB h j) = 0
  · rw [if_pos e, if_pos e]
  · rw [if_neg e, if_neg e]
    by_cases e2 : (longOf b ls).countP (hearsB h j) = (longOf b ls).length
    · rw [if_neg (by omega), if_pos e2]
    · rw [if_pos (by omega), if_neg e2]

attribute [local go_sem] Oper.semAt_some
set_option maxRecDepth 100000 in
set_option maxHeartbeats 1600000 in
theorem gradesP_ok (v lv : Value) (b : List (Int × Int)) (ls : List (List Int)) (h : Int) (w : World) (hv : BookV w w.heap.size v b) (hl : LLi w lv ls) :
    Calls Try.prog 38 #[v, lv, .int .i64 h] w fun r w' => ∃ mv, r = .returned (.tuple #[mv, .int .i64 (gradesM b ls h).2]) ∧ Arr w' w'.heap.size 1 mv (gradesM b ls h).1 icell ∧ Below w.heap.size w w' := by
  obtain ⟨pa, pc, rfl, hp⟩ := hv.open_
  obtain ⟨la, lc, rfl, -, -⟩ := hl.form
  have hC := BB.new hp
  have hB := (Below.refl w.heap.size w).alloc (Nat.le_refl _) (.cells #[.slice pa b.length pc] 24)
  go_enter Try.func38, Try.ntmps38
  go_upto_region 1 with (fail)
  generalize w.alloc (.cells #[.slice pa b.length pc] 24) = W at *
  have k0 := hC.c0
  go_wp2_with fail
  refine (newSong_ok _ b ls la lc W hC.bv ((hl.below hB).more hB.size)).mono ?_
  rintro e w1 ⟨hb1, hpost⟩
  have hB1 := hB.trans (hb1.mono hB.size)
  clear hC hB hb1 k0 hp hv
  rcases hpost with ⟨hne, rfl⟩ | ⟨he, gs, d, A, c, rfl, hs⟩
  · have d0 : (checkLines b ls != 0) = true := by simp [hne]
    have HE : Hid (gradesM b ls h = ([], checkLines b ls)) := if_pos hne
    clear hne
    go_wp2
    exact bodyPost_ret (v := .tuple #[.slice none 0 0, .int .i64 (checkLines b ls)]) (by simp [results, Try.results38, go_sem]) rfl ⟨_, by rw [HE.out], by rw [HE.out]; exact Arr.nil_, hB1⟩
  · by_cases hr0 : h < 0 ∨ (ls.length : Int) ≤ h
    · have HE : Hid (gradesM b ls h = ([], 3)) := by
        unfold gradesM
        rw [Hid, if_neg (by simp [he]), if_pos hr0]
      by_cases hh : h < 0
      · have d1 : decide (h < 0) = true := by simpa using hh
        clear hr0 hh
        go_wp2
        exact bodyPost_ret (v := .tuple #[.slice none 0 0, .int .i64 3]) (by simp [results, Try.results38, go_sem]) rfl ⟨_, by rw [HE.out], by rw [HE.out]; exact Arr.nil_, hB1⟩
      · have d1 : decide (h < 0) = false := by simpa using hh
        have d2 : decide ((ls.length : Int) ≤ h) = true := by simp; omega
        clear hr0 hh
        go_wp2
        exact bodyPost_ret (v := .tuple #[.slice none 0 0, .int .i64 3]) (by simp [results, Try.results38, go_sem]) rfl ⟨_, by rw [HE.out], by rw [HE.out]; exact Arr.nil_, hB1⟩
    · obtain ⟨q, rfl⟩ : ∃ q : Nat, h = (q : Int) := ⟨h.toNat, by omega⟩
      have hq : q < ls.length := by omega
      have HE : Hid (gradesM b ls (q : Int) = (gradesOf b ls q, 0)) := by
        unfold gradesM
        rw [Hid, if_neg (by simp [he]), if_neg hr0, Int.toNat_natCast]
      have d1 : decide ((q : Int) < 0) = false := by simp
      have d2 : decide ((ls.length : Int) ≤ (q : Int)) = false := by simp; omega
      have d2' : decide (ls.length ≤ q) = false := by simp; omega
      have hqi : (q : Int) < (ls.length : Int) := by omega
      have HG := Lib.hid hs.1.good
      have ht := ways_ok W.heap.size gs d b ls la lc A c w1 hs
      have hms := mats_4096 HG.out
      clear he hl hr0
      go_wp2_with fail
      refine ht.mono ?_
      rintro e w2 ⟨rb, rfl, hr, hb2⟩
      have hs2 := hs.call hb2
      have hb3 := hB1.trans (hb2.mono hB1.size)
      have ht2 := count_ok W.heap.size gs d b ls la lc A c rb w2 hs2 hr
      clear ht
      go_wp2_with fail
      refine ht2.mono ?_
      rintro e w3 ⟨rfl, hb4⟩
      have hs3 := hs2.call hb4
      have hr3 := hr.call hb4
      have hb5 := hb3.trans (hb4.mono hb3.size)
      obtain ⟨n, hn⟩ : ∃ n, n = (matsOf b ls).length := ⟨_, rfl⟩
      have HNN := Lib.hid hn
      obtain ⟨cnt, hcnt⟩ : ∃ cnt, cnt = (longOf b ls).length := ⟨_, rfl⟩
      have HCN := Lib.hid hcnt
      obtain ⟨q0, q1, q2⟩ := hs3.1.c3
      obtain ⟨l1, lb, lo, lA, lcc, hl1, hla, hlb, hc, -⟩ := hs3.1.line hq
      subst hla
      have h8 := hs3.1.good.eight l1 (by rw [← hl1, List.getD_eq_getElem?_getD, List.getElem?_eq_getElem hq]; exact List.getElem_mem hq)
      obtain ⟨T, hT⟩ : ∃ T, T = l1.length := ⟨_, rfl⟩
      rw [← hT] at hc h8
      have HTL : Hid (T = (ls.getD q []).length) := by rw [Hid, hl1]; exact hT
      rw [← hn] at q2 hr3 hms ⊢
      rw [← hcnt]
      have hmk := run_mk slT_i64 T (by omega) (by omega)
      clear ht2 hs hs2 hr hb2 hb3 hB1 hb4 hn hcnt hl1 hT
      go_upto_region 9 with (fail)
      have em : madeCells #[Value.int .i64 0] T = madeCells (Value.int .i64 0).cells (T * 1) := by rw [Nat.mul_one]; rfl
      rw [em]
      have hrow := NRow.new w3 T 2
      have hbm := (Below.refl w3.heap.size w3).alloc (Nat.le_refl _) (.cells (madeCells (Value.int .i64 0).cells (T * 1)) 2)
      have q2' := (hs3.call hbm).1.c3.2.2
      rw [← HNN.out] at q2'
      clear em hmk q0 q1 q2 hc
      generalize w3.alloc (.cells (madeCells (Value.int .i64 0).cells (T * 1)) 2) = W0 at *
      obtain ⟨hb, hhb⟩ : ∃ hb, hb = w3.heap.size := ⟨_, rfl⟩
      rw [← hhb] at hrow ⊢
      have hhb2 : w3.heap.size ≤ hb := by omega
      clear hhb
      go_wp2
      go_loopw [51] (fun i wr => ∃ k : Nat, k ≤ n ∧ i = .int .i64 k ∧ Below w3.heap.size w3 wr ∧ NRow wr hb T 2 (fun j => (hsum b ls q j k : Int))) (fun i _ => n - (intOf i).toNat)
      case atStart => exact ⟨0, Nat.zero_le _, rfl, hbm, hrow.same fun j _ => by simp [hsum]⟩
      case round =>
        clear q2' hrow hbm
        obtain ⟨k, hk, rfl, hbr, hrw⟩ := hrel
        by_cases hlt : k < n
        · have d3 : decide (k < n) = true := decide_eq_true hlt
          have d3' : decide ((k : Int) < (n : Int)) = true := decide_eq_true (by omega)
          have hki : (k : Int) < (n : Int) := by omega
          have HKM : Hid (k < (matsOf b ls).length) := by rw [Hid, ← HNN.out]; exact hlt
          have hq4 : q < 4 := by have := HG.out.four; omega
          have hq4i : (q : Int) < 4 := by omega
          obtain ⟨xb, xo, rfl, hxb, hxc⟩ := pl_all hs3.2 (by have := HKM.out; omega)
          have c0 := (hbr.cell (p := ⟨xb, xo + k * 4 + 0, none⟩) hxb).trans (hxc k HKM.out 0 (by omega))
          have c1 := (hbr.cell (p := ⟨xb, xo + k * 4 + 1, none⟩) hxb).trans (hxc k HKM.out 1 (by omega))
          have c2 := (hbr.cell (p := ⟨xb, xo + k * 4 + 2, none⟩) hxb).trans (hxc k HKM.out 2 (by omega))
          have c3 := (hbr.cell (p := ⟨xb, xo + k * 4 + 3, none⟩) hxb).trans (hxc k HKM.out 3 (by omega))
          change wr.cell? ⟨xb, xo + k * 4, none⟩ = some (.int .i64 (at0 (xAt b ls k) 0 : Int)) at c0
          change wr.cell? ⟨xb, xo + k * 4 + 1, none⟩ = some (.int .i64 (at0 (xAt b ls k) 1 : Int)) at c1
          change wr.cell? ⟨xb, xo + k * 4 + 2, none⟩ = some (.int .i64 (at0 (xAt b ls k) 2 : Int)) at c2
          change wr.cell? ⟨xb, xo + k * 4 + 3, none⟩ = some (.int .i64 (at0 (xAt b ls k) 3 : Int)) at c3
          clear hxc
          go_upto_region 12 with (fail)
          have e : wr.alloc (.cells #[.int .i64 (at0 (xAt b ls k) 0 : Int), .int .i64 (at0 (xAt b ls k) 1 : Int), .int .i64 (at0 (xAt b ls k) 2 : Int), .int .i64 (at0 (xAt b ls k) 3 : Int)] 88) = wr.alloc (.cells (plC (xAt b ls k)) 88) := rfl
          rw [e]
          clear e c0 c1 c2 c3
          have hX := Blk.new wr 88 (plC (xAt b ls k))
          have hbA := (Below.refl wr.heap.size wr).alloc (Nat.le_refl _) (.cells (plC (xAt b ls k)) 88)
          have hb6 := hbr.trans (hbA.mono hbr.size)
          have hrw6 := hrw.call hbA
          clear hbr hrw hbA
          generalize wr.alloc (.cells (plC (xAt b ls k)) 88) = W6 at *
          generalize wr.heap.size = xg at *
          obtain ⟨o0, o1⟩ := (hr3.call hb6).at_ hlt
          have hPle := (ways_leN HG.out HKM.out).2.2
          have hth := through_ok (upN b ls k) (dnN b ls k) hPle W6.drew
          obtain ⟨P, hP⟩ : ∃ P, P = upN b ls k * dnN b ls k := ⟨_, rfl⟩
          rw [← hP] at hth hPle
          obtain ⟨a, ha⟩ : ∃ a, a = at0 (xAt b ls k) q := ⟨_, rfl⟩
          have haT : a < T := by
            have h1 := (mem_matsOf.1 (xAt_mem HKM.out)).1.2 q hq
            rw [ha, HTL.out]
            exact h1
          have hai : (a : Int) < (T : Int) := by omega
          have HS : Hid (∀ j, hsum b ls q j (k + 1) = if j = a then hsum b ls q a k + P else hsum b ls q j k) := fun j => by
            rw [hsum_succ, ← hP, ← ha]
            by_cases e : j = a
            · rw [if_pos e, if_pos e.symm, e]
            · rw [if_neg e, if_neg fun e2 => e e2.symm]; rfl
          have hhl := hsum_le HG.out q a k (by have := HKM.out; omega)
          obtain ⟨S, hS⟩ : ∃ S, S = hsum b ls q a k := ⟨_, rfl⟩
          have HSS := Lib.hid hS
          have e2 : IntKind.i64.wrap ((S : Int) + (P : Int)) = (S : Int) + (P : Int) := wrap_id _ (by rw [hS]; omega) (by rw [hS]; omega)
          have c4 := hrw6.at_ haT
          rw [← hS] at c4
          have f0 := Ext.of (show W6.cell? ⟨xg, q, none⟩ = some (.int .i64 (a : Int)) by rw [hX.cell, ha]; exact plC_at (xAt b ls k) hq4)
          have f1 := Ext.of o0
          have f2 := Ext.of o1
          have f3 := Ext.of c4
          clear ha hP hS hhl o0 o1 c4
          go_wp2_with fail
          refine wp_region_sched (C := fun w' => ∃ x : Ext W6, w' = x.w) [(0, true), (1, true), (2, true), (3, true), (4, true), (5, true), (6, true), (7, true), (8, true), (9, true), (10, false), (11, true), (12, true), (13, false)] (by kernel_rfl) (by kernel_rfl) ⟨⟨W6.drew, (Below.refl _ W6).drew⟩, rfl⟩ ?_
          refine sched_q (by rfl) (by rfl) ?_
          intro K hK
          go_big_quiet_op
          go_big_quiet_on
          refine sched_q (by rfl) (by rfl) ?_
          intro K hK
          go_big_quiet_op
          go_big_quiet_on
          refine sched_q (by rfl) (by rfl) ?_
          intro K hK
          go_big_quiet_op
          go_big_quiet_on
          refine sched_q (by rfl) (by rfl) ?_
          intro K hK
          go_big_quiet_op
          go_big_quiet_on
          refine sched_q (by rfl) (by rfl) ?_
          intro K hK
          go_big_quiet_op
          go_big_quiet_on
          refine sched_q (by rfl) (by rfl) ?_
          intro K hK
          go_big_quiet_op
          go_big_quiet_on
          refine sched_q (by rfl) (by rfl) ?_
          intro K hK
          go_big_quiet_op
          go_big_quiet_on
          refine sched_q (by rfl) (by rfl) ?_
          intro K hK
          go_big_quiet_op
          go_big_quiet_on
          refine sched_q (by rfl) (by rfl) ?_
          intro K hK
          go_big_quiet_op
          go_big_quiet_on
          refine sched_q (by rfl) (by rfl) ?_
          intro K hK
          go_big_quiet_op
          go_big_quiet_on
          refine sched_c (by rfl) (by rfl) ?_
          intro K hK
          go_wp2_with fail
          refine hth.mono ?_
          rintro e w7 ⟨rfl, hb7⟩
          have hx7 : Below W6.heap.size W6 w7 := ((Below.refl _ W6).drew).trans hb7
          have hb8 := hb6.trans (hx7.mono hb6.size)
          have hrw8 := hrw6.call hx7
          clear hth
          go_wp2
          refine hK _ _ ⟨.inr ⟨⟨w7, hx7⟩, rfl⟩, ?_⟩
          clear hK K
          refine sched_q (by rfl) (by rfl) ?_
          intro K hK
          go_big_quiet_op
          go_big_quiet_on
          refine sched_q (by rfl) (by rfl) ?_
          intro K hK
          go_big_quiet_op
          go_big_quiet_on
          refine sched_c (by rfl) (by rfl) ?_
          intro K hK
          have c5 := hrw8.at_ haT
          have z5 := hrw8.frozen a
          have hrw9 := (hrw8.set_ haT ((S : Int) + (P : Int))).same (V' := fun j => (hsum b ls q j (k + 1) : Int)) fun j _ => by
            rw [HS.out]
            by_cases e : j = a
            · rw [if_pos e, if_pos e, ← HSS.out]; simp
            · rw [if_neg e, if_neg e]
          have hb9 := hb8.setCell (p := ⟨hb, a, none⟩) hhb2 (.int .i64 ((S : Int) + (P : Int)))
          clear hrw8 hb8 f0 f1 f2 f3 hx7 hb7 hb6 hrw6
          go_wp2
          refine hK _ _ ⟨(by first | exact .inl rfl | exact .inl trivial), ?_⟩
          clear hK K
          refine sched_nil ?_
          go_wp2
          go_roundw
          case rel => exact ⟨k + 1, by omega, by go_num, hb9, hrw9⟩
          case measure => (simp [intOf]; try omega)
        · obtain rfl : n = k := by omega
          have d3 : decide (n < n) = false := by simp
          have HGR : Hid (∀ j, gradeN ((longOf b ls).countP (hearsB q j)) (longOf b ls).length = if hsum b ls q j n = 0 then 0 else if hsum b ls q j n = cnt then 2 else 1) := fun j => by
            refine grades_if (by rw [HNN.out]; exact hsum_all HG.out hq) HCN.out ?_
            rw [HNN.out, hsum_all HG.out hq, HCN.out]
            exact List.countP_le_length
          have HGO : Hid (gradesOf b ls q = (List.range T).map fun j => gradeN ((longOf b ls).countP (hearsB q j)) (longOf b ls).length) := by rw [Hid, HTL.out]; rfl
          have hmk := run_mk slT_i T (by omega) (by omega)
          have hbf := hb5.trans (hbr.mono hb5.size)
          clear hk hlt hbr hs3 hr3 hb5
          obtain ⟨N, hN⟩ : ∃ N : Nat → Nat, ∀ j, N j = hsum b ls q j n := ⟨_, fun _ => rfl⟩
          obtain ⟨G, hG⟩ : ∃ G : Nat → Int, G = fun j => gradeN ((longOf b ls).countP (hearsB q j)) (longOf b ls).length := ⟨_, rfl⟩
          have HGN : Hid (∀ j, G j = if N j = 0 then 0 else if N j = cnt then 2 else 1) := fun j => by rw [hG, hN]; exact HGR.out j
          have HGA : Hid (gradesOf b ls q = (List.range T).map G) := by rw [Hid, HGO.out, hG]
          have hrw2 := hrw.same (V' := fun j => (N j : Int)) fun j _ => by rw [hN]
          clear hN hG HGR HGO hrw
          go_upto_region 15 with (fail)
          have em : madeCells #[Value.int .i64 0] T = madeCells (Value.int .i64 0).cells (T * 1) := by rw [Nat.mul_one]; rfl
          rw [em]
          have hou := NRow.new wr T 3
          have hbm := (Below.refl wr.heap.size wr).alloc (Nat.le_refl _) (.cells (madeCells (Value.int .i64 0).cells (T * 1)) 3)
          have hrw3 := hrw2.call hbm
          have hbg := hbf.trans (hbm.mono hbf.size)
          have hlt3 := hrw2.lt
          clear em hmk hbm hrw2
          generalize wr.alloc (.cells (madeCells (Value.int .i64 0).cells (T * 1)) 3) = W1 at *
          obtain ⟨ob, hob⟩ : ∃ ob, ob = wr.heap.size := ⟨_, rfl⟩
          rw [← hob] at hou ⊢
          have hob2 : w.heap.size ≤ ob := by have := hbf.size; omega
          have hob3 : hb ≠ ob := by omega
          clear hob hlt3 hbf
          go_wp2
          go_loopw [75] (fun i wr => ∃ k : Nat, k ≤ T ∧ i = .int .i64 k ∧ Below w.heap.size w wr ∧ NRow wr hb T 2 (fun j => (N j : Int)) ∧ NRow wr ob T 3 (fun j => if j < k then G j else 0)) (fun i _ => T - (intOf i).toNat)
          case atStart => exact ⟨0, Nat.zero_le _, rfl, hbg, hrw3, hou.same fun j _ => if_neg (Nat.not_lt_zero _)⟩
          case round =>
            clear hbg hrw3 hou
            obtain ⟨k, hk, rfl, hbr, hrw, hou⟩ := hrel
            by_cases hkt : k < T
            · have d4 : decide (k < T) = true := decide_eq_true hkt
              have d4' : decide ((k : Int) < (T : Int)) = true := decide_eq_true (by omega)
              have hkti : (k : Int) < (T : Int) := by omega
              have c0 := hrw.at_ hkt
              have c1 := hou.at_ hkt
              have z1 := hou.frozen k
              have hgn := HGN.out k
              obtain ⟨M, hM⟩ : ∃ M, M = N k := ⟨_, rfl⟩
              rw [← hM] at c0 hgn
              clear hM
              have key : ∀ x : Int, G k = x → ∀ wq, NRow wq ob T 3 (fun j => if j = k then x else if j < k then G j else 0) → NRow wq ob T 3 (fun j => if j < k + 1 then G j else 0) := fun x hx wq hq => hq.same fun j _ => by
                by_cases e : j = k
                · have e2 : j < k + 1 := by omega
                  rw [if_pos e, if_pos e2, e, hx]
                · by_cases e3 : j < k
                  · have e2 : j < k + 1 := by omega
                    rw [if_neg e, if_pos e3, if_pos e2]
                  · have e2 : ¬ j < k + 1 := by omega
                    rw [if_neg e, if_neg e3, if_neg e2]
              have KEY := Lib.hid key
              clear key
              by_cases h0 : M = 0
              · have d5 : ((M : Int) == 0) = true := by simp; omega
                rw [if_pos h0] at hgn
                have hn2 := KEY.out _ hgn wr (hou.same fun j _ => by
                  by_cases e : j = k
                  · rw [if_pos e, if_neg (by omega)]
                  · rw [if_neg e])
                clear h0 hgn c1 hou
                go_wp2
                go_roundw
                case rel => exact ⟨k + 1, by omega, by go_num, hbr, hrw, hn2⟩
                case measure => (simp [intOf]; try omega)
              · have d5 : ((M : Int) == 0) = false := beq_false_of_ne (by omega)
                rw [if_neg h0] at hgn
                by_cases h1 : M = cnt
                · have d6 : ((M : Int) == (cnt : Int)) = true := by simp; omega
                  rw [if_pos h1] at hgn
                  have hn2 := KEY.out _ hgn _ (hou.set_ hkt 2)
                  have hb2 := hbr.setCell (p := ⟨ob, k, none⟩) hob2 (.int .i64 2)
                  have hr2 := hrw.grown (row := some ob) (grown_setCell (g := ob) (o := k) (.int .i64 2)) (fun e => by injection e with e; exact hob3 e.symm)
                  clear h0 h1 hgn hou hrw hbr
                  go_wp2
                  go_roundw
                  case rel => exact ⟨k + 1, by omega, by go_num, hb2, hr2, hn2⟩
                  case measure => (simp [intOf]; try omega)
                · have d6 : ((M : Int) == (cnt : Int)) = false := beq_false_of_ne (by omega)
                  rw [if_neg h1] at hgn
                  have hn2 := KEY.out _ hgn _ (hou.set_ hkt 1)
                  have hb2 := hbr.setCell (p := ⟨ob, k, none⟩) hob2 (.int .i64 1)
                  have hr2 := hrw.grown (row := some ob) (grown_setCell (g := ob) (o := k) (.int .i64 1)) (fun e => by injection e with e; exact hob3 e.symm)
                  clear h0 h1 hgn hou hrw hbr
                  go_wp2
                  go_roundw
                  case rel => exact ⟨k + 1, by omega, by go_num, hb2, hr2, hn2⟩
                  case measure => (simp [intOf]; try omega)
            · obtain rfl : T = k := by omega
              have d4 : decide (T < T) = false := by simp
              have harr := (hou.same (V' := G) fun j hj => (if_pos hj).symm).arr (by omega)
              rw [← HGA.out] at harr
              clear hou
              go_wp2
              exact bodyPost_ret (v := .tuple #[.slice (some ⟨ob, 0, none⟩) T T, .int .i64 0]) (by simp [results, Try.results38, go_sem]) rfl ⟨_, by rw [HE.out], by rw [HE.out]; exact harr, hbr⟩
end Go.Proofs.Ytgngpdnppdbgoaa
