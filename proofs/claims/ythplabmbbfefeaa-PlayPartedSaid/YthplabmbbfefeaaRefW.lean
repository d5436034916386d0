/- Contracts of the reference: Most, Worths, Fewest. -/
import Derived.Test.YthplabmbbfefeaaRefV
namespace Go.Proofs.Ythplabmbbfefeaa
open Go.RowKit Go.Shelf
set_option linter.unusedVariables false

theorem ownL_len (c : Cyl) : (ownL c).length = c.pas.length := by simp [ownL]
theorem ownL_W (c : Cyl) : listW (ownL c) = ownW c.pas := by
  funext i
  unfold listW ownL ownW
  rw [List.getElem?_map]
theorem ownL_bound {c : Cyl} (h : c.pas.all (pasOk c.turns) = true) : ∀ x ∈ ownL c, -2000000 ≤ x ∧ x ≤ 2000000 := by
  intro x hx
  obtain ⟨p, hp, rfl⟩ := List.mem_map.1 hx
  have := pas_fit h p hp
  omega

/-- what Table hands back -/
def TabPost (c : Cyl) (V : Nat → Nat → Int) (w : World) (r : Ending) (w' : World) : Prop :=
  ∃ A cap hs, r = .returned (.slice A (tT c + 1) cap) ∧ w'.ownsRow w.heap.size 36 1 (.slice A (tT c + 1) cap) (tT c + 1) hs ∧ TabAt w' w.heap.size (tT c + 1) (tK c) V hs ∧ Below w.heap.size w w'
theorem rtable_post (v lv : Value) (c : Cyl) (l : List Int) (w : World) (hv : CylV w w.heap.size v c) (hs : Arr w w.heap.size 1 lv l icell) (h0 : checkCyl c = 0) (hll : l.length = c.pas.length) (hbd : ∀ x ∈ l, -2000000 ≤ x ∧ x ≤ 2000000) :
    Calls Try.prog 53 #[v, lv] w (TabPost c (tabC c (listW l)) w) := rtable_ok v lv c l w hv hs h0 hll hbd

theorem Arr.of_own1 {w : World} {base : Nat} {v : Value} {n : Nat} {l : List Int} (hn : n = l.length) (h : w.ownsRow base 2 1 v n (l.map (Value.int .i64))) : Arr w w.heap.size 1 v l icell := by
  subst hn
  rw [← flat_int] at h
  exact Arr.of_own h

set_option maxRecDepth 100000 in
set_option maxHeartbeats 1600000 in
theorem rmost_ok (v : Value) (c : Cyl) (w : World) (hv : CylV w w.heap.size v c) (h0 : checkCyl c = 0) :
    Calls Try.prog 29 #[v] w fun r w' => r = .returned (.int .i64 (mostOf c)) ∧ Below w.heap.size w w' := by
  obtain ⟨_, _, hlen, hall⟩ := cyl_valid h0
  obtain ⟨n1, n2, n3, n4, n5, n6, n7⟩ := cyl_nat h0
  have N1 := Lib.hid n1
  have N2 := Lib.hid n2
  have H0 := Lib.hid h0
  have HALL := Lib.hid hall
  clear n1 n2 h0 hall
  obtain ⟨fa, fc, pa, pc, rfl, hf, hp⟩ := hv.open_
  have hC := CB.new hf hp
  have hB := (Below.refl w.heap.size w).alloc (Nat.le_refl _) (.cells #[.int .i64 c.turns, .int .i64 c.long, .int .i64 c.plays, .slice fa c.frag.length fc, .slice pa c.pas.length pc] 25)
  go_enter Try.func29, Try.ntmps29
  go_upto_region 1 with (fail)
  generalize hW : w.alloc (.cells #[.int .i64 c.turns, .int .i64 c.long, .int .i64 c.plays, .slice fa c.frag.length fc, .slice pa c.pas.length pc] 25) = W at *
  clear hW hf hp
  obtain ⟨k0, k1, k2, k3, k4⟩ := hC.c5
  go_wp2_with fail
  have f0 := Ext.of k0
  have f1 := Ext.of k1
  have f2 := Ext.of k2
  have f3 := Ext.of k3
  have f4 := Ext.of k4
  rw [N1.out] at f0
  rw [N2.out] at f2
  refine wp_region_sched (C := fun w' => ∃ x : Ext W, w' = x.w) [(0, true), (1, true), (4, true), (5, true), (8, true), (9, true), (2, false), (3, false), (6, false), (7, false), (10, false), (11, false), (12, false)] (by kernel_rfl) (by kernel_rfl) ⟨⟨W.drew, (Below.refl _ W).drew⟩, rfl⟩ ?_
  refine sched_q (by rfl) (by rfl) ?_
  intro K hK
  go_big_quiet_op
  go_big_quiet_on
  refine sched_q (by rfl) (by rfl) ?_
  intro K hK
  go_big_quiet_op
  go_big_quiet_on
  refine sched_q (by rfl) (by rfl) ?_
  intro K hK
  go_big_quiet_op
  go_big_quiet_on
  refine sched_q (by rfl) (by rfl) ?_
  intro K hK
  go_big_quiet_op
  go_big_quiet_on
  refine sched_q (by rfl) (by rfl) ?_
  intro K hK
  go_big_quiet_op
  go_big_quiet_on
  refine sched_q (by rfl) (by rfl) ?_
  intro K hK
  go_big_quiet_op
  go_big_quiet_on
  refine sched_c (by rfl) (by rfl) ?_
  intro K' hK'
  go_wp2_with fail
  have hcy := hC.drew.cyl
  rw [N1.out, N2.out] at hcy
  refine (rown_ok _ c W.drew hcy (by omega)).mono ?_
  rintro e w5 ⟨A5, cap5, rfl, hown5, hb5⟩
  have hx5 : Below W.heap.size W w5 := (Below.refl _ W).drew.trans hb5
  have hC5 := hC.call hx5
  go_wp2
  refine hK' _ _ ⟨.inr ⟨⟨w5, hx5⟩, rfl⟩, ?_⟩
  clear hK' K'
  refine sched_c (by rfl) (by rfl) ?_
  intro K' hK'
  go_wp2_with fail
  have hcy5 := hC5.cyl
  rw [N1.out, N2.out] at hcy5
  refine (rtable_post _ _ c (ownL c) w5 hcy5 (Arr.of_own1 (ownL_len c).symm hown5) H0.out (ownL_len c) (ownL_bound HALL.out)).mono ?_
  rintro e w6 ⟨A6, cap6, hs6, rfl, hown6, htb6, hb6⟩
  have hx6 : Below W.heap.size W w6 := hx5.trans (hb6.mono hx5.size)
  rw [ownL_W] at htb6
  obtain ⟨ob, rfl, hob1, hob2, hoc⟩ := own_cells hown6 (by omega)
  obtain ⟨rb, hrb1, hrb2, hrb3⟩ := htb6.2 (tT c) (by omega)
  have o1 := hoc _ _ hrb1
  have i1 : (tT c : Int) < (tT c : Int) + 1 := by omega
  have i2 : tT c < tT c + 1 := by omega
  have i3 : (tK c : Int) < (tK c : Int) + 1 := by omega
  have i4 : tK c < tK c + 1 := by omega
  clear hoc hrb1
  go_wp2
  refine hK' _ _ ⟨.inr ⟨⟨w6, hx6⟩, rfl⟩, ?_⟩
  clear hK' K'
  refine sched_c (by rfl) (by rfl) ?_
  intro K' hK'
  go_wp2
  refine hK' _ _ ⟨.inr ⟨⟨w6, hx6⟩, rfl⟩, ?_⟩
  clear hK' K'
  refine sched_c (by rfl) (by rfl) ?_
  intro K' hK'
  go_wp2
  refine hK' _ _ ⟨.inr ⟨⟨w6, hx6⟩, rfl⟩, ?_⟩
  clear hK' K'
  have r1 := hrb3.cell (tK c)
  rw [rowB_get (Nat.le_refl _)] at r1
  refine sched_c (by rfl) (by rfl) ?_
  intro K' hK'
  go_wp2
  refine hK' _ _ ⟨.inr ⟨⟨w6, hx6⟩, rfl⟩, ?_⟩
  clear hK' K'
  refine sched_c (by rfl) (by rfl) ?_
  intro K' hK'
  go_wp2
  refine hK' _ _ ⟨.inr ⟨⟨w6, hx6⟩, rfl⟩, ?_⟩
  clear hK' K'
  refine sched_c (by rfl) (by rfl) ?_
  intro K' hK'
  go_wp2
  refine hK' _ _ ⟨(by first | exact .inl rfl | exact .inl trivial), ?_⟩
  clear hK' K'
  refine sched_nil ?_
  go_wp2
  go_ret
  exact ⟨rfl, hB.trans (hx6.mono hB.size)⟩

def RWorthsPost (c : Cyl) (w : World) (r : Ending) (w' : World) : Prop :=
  ∃ ov, r = .returned (.tuple #[ov, .int .i64 (checkCyl c)]) ∧ Arr w' w'.heap.size 1 ov (worthsOf c) icell ∧ Below w.heap.size w w'

set_option maxRecDepth 100000 in
set_option maxHeartbeats 1600000 in
theorem rworths_ok (v : Value) (c : Cyl) (w : World) (hv : CylV w w.heap.size v c) :
    Calls Try.prog 24 #[v] w (RWorthsPost c w) := by
  obtain ⟨fa, fc, pa, pc, rfl, hf, hp⟩ := hv.open_
  have hC := CB.new hf hp
  have hB := (Below.refl w.heap.size w).alloc (Nat.le_refl _) (.cells #[.int .i64 c.turns, .int .i64 c.long, .int .i64 c.plays, .slice fa c.frag.length fc, .slice pa c.pas.length pc] 25)
  go_enter Try.func24, Try.ntmps24
  go_upto_region 1 with (fail)
  generalize hW : w.alloc (.cells #[.int .i64 c.turns, .int .i64 c.long, .int .i64 c.plays, .slice fa c.frag.length fc, .slice pa c.pas.length pc] 25) = W at *
  clear hW hf hp
  obtain ⟨k0, k1, k2, k3, k4⟩ := hC.c5
  go_wp2_with fail
  refine (rcheckCyl_ok _ c _ hC.cyl).mono ?_
  rintro e w1 ⟨rfl, hb1⟩
  have hB1 := hB.trans (hb1.mono hB.size)
  have hC1 := hC.call hb1
  clear k0 k1 k2 k3 k4
  obtain ⟨k0, k1, k2, k3, k4⟩ := hC1.c5
  by_cases h0 : checkCyl c = 0
  case neg =>
    have hn1 : (checkCyl c == 0) = false := by simpa using h0
    have hn2 : (checkCyl c != 0) = true := by simpa using h0
    have HC : Hid (worthsOf c = []) := by simp [Hid, worthsOf, h0]
    clear h0
    go_wp2_with fail
    refine (rcheckCyl_ok _ c _ hC1.cyl).mono ?_
    rintro e w2 ⟨rfl, hb2⟩
    go_wp2
    go_ret2
    exact ⟨_, rfl, by rw [HC.out]; exact Arr.nil_, hB1.trans (hb2.mono hB1.size)⟩
  case pos =>
    have HC : Hid (worthsOf c = rowL (tabC c (ownW c.pas)) (tK c) (tT c)) := by simp [Hid, worthsOf, h0]
    have H0 := Lib.hid h0
    obtain ⟨_, _, hlen, hall⟩ := cyl_valid h0
    have HALL := Lib.hid hall
    obtain ⟨n1, n2, n3, n4, n5, n6, n7⟩ := cyl_nat h0
    have N1 := Lib.hid n1
    have N2 := Lib.hid n2
    clear hall n1 n2
    rw [h0]
    clear h0 k0 k1 k2 k3 k4 hC hB hb1
    rename CB w1 _ _ _ _ _ _ _ => hC
    rename Below w.heap.size w w1 => hB
    obtain ⟨W', hW'⟩ : ∃ W', W' = w1 := ⟨_, rfl⟩
    rw [← hW'] at hC hB ⊢
    clear hW' w1 W
    rename World => W
    obtain ⟨k0, k1, k2, k3, k4⟩ := hC.c5
    have f0 := Ext.of k0
    have f1 := Ext.of k1
    have f2 := Ext.of k2
    have f3 := Ext.of k3
    have f4 := Ext.of k4
    rw [N1.out] at f0
    rw [N2.out] at f2
    clear k0 k1 k2 k3 k4
    go_wp2_with fail
    refine wp_region_sched (C := fun w' => ∃ x : Ext W, w' = x.w) [(0, true), (1, true), (4, true), (5, true), (2, false), (3, false), (6, false), (7, false), (8, true), (9, false)] (by kernel_rfl) (by kernel_rfl) ⟨⟨W.drew, (Below.refl _ W).drew⟩, rfl⟩ ?_
    refine sched_q (by rfl) (by rfl) ?_
    intro K hK
    go_big_quiet_op
    go_big_quiet_on
    refine sched_q (by rfl) (by rfl) ?_
    intro K hK
    go_big_quiet_op
    go_big_quiet_on
    refine sched_q (by rfl) (by rfl) ?_
    intro K hK
    go_big_quiet_op
    go_big_quiet_on
    refine sched_q (by rfl) (by rfl) ?_
    intro K hK
    go_big_quiet_op
    go_big_quiet_on
    refine sched_c (by rfl) (by rfl) ?_
    intro K' hK'
    go_wp2_with fail
    have hcy := hC.drew.cyl
    rw [N1.out, N2.out] at hcy
    refine (rown_ok _ c W.drew hcy (by omega)).mono ?_
    rintro e w5 ⟨A5, cap5, rfl, hown5, hb5⟩
    have hx5 : Below W.heap.size W w5 := (Below.refl _ W).drew.trans hb5
    have hC5 := hC.call hx5
    go_wp2
    refine hK' _ _ ⟨.inr ⟨⟨w5, hx5⟩, rfl⟩, ?_⟩
    clear hK' K'
    refine sched_c (by rfl) (by rfl) ?_
    intro K' hK'
    go_wp2_with fail
    have hcy5 := hC5.cyl
    rw [N1.out, N2.out] at hcy5
    refine (rtable_post _ _ c (ownL c) w5 hcy5 (Arr.of_own1 (ownL_len c).symm hown5) H0.out (ownL_len c) (ownL_bound HALL.out)).mono ?_
    rintro e w6 ⟨A6, cap6, hs6, rfl, hown6, htb6, hb6⟩
    have hx6 : Below W.heap.size W w6 := hx5.trans (hb6.mono hx5.size)
    rw [ownL_W] at htb6
    obtain ⟨ob, rfl, hob1, hob2, hoc⟩ := own_cells hown6 (by omega)
    obtain ⟨rb, hrb1, hrb2, hrb3⟩ := htb6.2 (tT c) (by omega)
    have o1 := hoc _ _ hrb1
    have i1 : (tT c : Int) < (tT c : Int) + 1 := by omega
    have i2 : tT c < tT c + 1 := by omega
    have i3 : (tK c : Int) < (tK c : Int) + 1 := by omega
    have i4 : tK c < tK c + 1 := by omega
    clear hoc hrb1
    go_wp2
    refine hK' _ _ ⟨.inr ⟨⟨w6, hx6⟩, rfl⟩, ?_⟩
    clear hK' K'
    refine sched_c (by rfl) (by rfl) ?_
    intro K' hK'
    go_wp2
    refine hK' _ _ ⟨.inr ⟨⟨w6, hx6⟩, rfl⟩, ?_⟩
    clear hK' K'
    refine sched_c (by rfl) (by rfl) ?_
    intro K' hK'
    go_wp2
    refine hK' _ _ ⟨.inr ⟨⟨w6, hx6⟩, rfl⟩, ?_⟩
    clear hK' K'
    refine sched_q (by rfl) (by rfl) ?_
    intro K hK
    go_big_quiet_op
    go_big_quiet_on
    refine sched_c (by rfl) (by rfl) ?_
    intro K' hK'
    go_wp2
    refine hK' _ _ ⟨(by first | exact .inl rfl | exact .inl trivial), ?_⟩
    clear hK' K'
    refine sched_nil ?_
    go_wp2
    go_ret2
    refine ⟨_, ret_t2 rfl H0.out.symm, ?_, hB.trans (hx6.mono hB.size)⟩
    rw [HC.out]
    have hcell : ∀ i x, (rowL (tabC c (ownW c.pas)) (tK c) (tT c))[i]? = some x → w6.cell? ⟨rb, 0 + i, none⟩ = some (.int .i64 x) := by
      intro i x hx
      have hil := (List.getElem?_eq_some_iff.1 hx).1
      rw [rowL_length] at hil
      rw [rowL_get _ _ _ _ (by omega)] at hx
      injection hx with hx
      rw [Nat.zero_add, hrb3.cell, rowB_get (by omega), hx]
    exact Arr.part (by rw [rowL_length]) (by rw [rowL_length]; exact Nat.le_refl _) (by omega) hrb3.lt hcell

set_option maxRecDepth 100000 in
set_option maxHeartbeats 1600000 in
theorem rfewest_ok (v : Value) (c : Cyl) (x : Int) (w : World) (hv : CylV w w.heap.size v c) :
    Calls Try.prog 26 #[v, .int .i64 x] w fun r w' => r = .returned (.tuple #[.int .i64 (fewestOf c x).1, .int .i64 (fewestOf c x).2]) ∧ Below w.heap.size w w' := by
  obtain ⟨fa, fc, pa, pc, rfl, hf, hp⟩ := hv.open_
  have hC := CB.new hf hp
  have hB := (Below.refl w.heap.size w).alloc (Nat.le_refl _) (.cells #[.int .i64 c.turns, .int .i64 c.long, .int .i64 c.plays, .slice fa c.frag.length fc, .slice pa c.pas.length pc] 25)
  go_enter Try.func26, Try.ntmps26
  go_upto_region 1 with (fail)
  generalize hW : w.alloc (.cells #[.int .i64 c.turns, .int .i64 c.long, .int .i64 c.plays, .slice fa c.frag.length fc, .slice pa c.pas.length pc] 25) = W at *
  clear hW hf hp
  obtain ⟨k0, k1, k2, k3, k4⟩ := hC.c5
  go_wp2_with fail
  refine (rcheckCyl_ok _ c _ hC.cyl).mono ?_
  rintro e w1 ⟨rfl, hb1⟩
  have hB1 := hB.trans (hb1.mono hB.size)
  have hC1 := hC.call hb1
  clear k0 k1 k2 k3 k4
  obtain ⟨k0, k1, k2, k3, k4⟩ := hC1.c5
  by_cases h0 : checkCyl c = 0
  case neg =>
    have hn1 : (checkCyl c == 0) = false := by simpa using h0
    have hn2 : (checkCyl c != 0) = true := by simpa using h0
    have HC : Hid (fewestOf c x = (0, checkCyl c)) := by simp [Hid, fewestOf, h0]
    clear h0
    go_wp2_with fail
    refine (rcheckCyl_ok _ c _ hC1.cyl).mono ?_
    rintro e w2 ⟨rfl, hb2⟩
    go_wp2
    go_ret2
    exact ⟨by rw [HC.out]; rfl, hB1.trans (hb2.mono hB1.size)⟩
  case pos =>
    have HC : Hid (fewestOf c x = if x < 0 then (0, 3) else if firstGe x (worthsOf c) < 0 then (0, 13) else (firstGe x (worthsOf c), 0)) := by simp [Hid, fewestOf, h0]
    have H0 := Lib.hid h0
    rw [h0]
    clear h0
    by_cases hx0 : x < 0
    · have HQ : Hid (fewestOf c x = (0, 3)) := by rw [Hid, HC.out, if_pos hx0]
      go_wp2
      go_ret2
      exact ⟨by rw [HQ.out]; rfl, hB1⟩
    · have HQ : Hid (fewestOf c x = if firstGe x (worthsOf c) < 0 then (0, 13) else (firstGe x (worthsOf c), 0)) := by rw [Hid, HC.out, if_neg hx0]
      go_wp2_with fail
      refine (rworths_ok _ c _ hC1.cyl).mono ?_
      rintro e w2 ⟨ov, rfl, harr, hb2⟩
      have hB2 := hB1.trans (hb2.mono hB1.size)
      rw [H0.out]
      obtain ⟨l, hl⟩ : ∃ l, worthsOf c = l := ⟨_, rfl⟩
      rw [hl] at harr HQ
      obtain ⟨A, cc, rfl, hn, hc, hcell⟩ := harr
      clear hl k0 k1 k2 k3 k4
      go_wp2
      go_loop [8] (fun i => ∃ k : Nat, k ≤ l.length ∧ i = .int .i64 k ∧ firstGe x l = idxOf (fun n => decide (x ≤ n)) k (l.drop k)) (fun i => l.length - (intOf i).toNat)
      case atStart => exact ⟨0, Nat.zero_le _, rfl, rfl⟩
      case round =>
        obtain ⟨k, hk, rfl, hf⟩ := hrel
        by_cases hlt : k < l.length
        · obtain ⟨b, off, rfl, hBb, hcc⟩ := hcell (by omega)
          obtain ⟨y, hy⟩ : ∃ y, l[k]? = some y := ⟨l[k], List.getElem?_eq_getElem hlt⟩
          have hce := hcc k y hy 0 (by omega)
          simp only [Nat.mul_one, Nat.add_zero, icell] at hce
          rw [idxOf_drop _ l k y hy] at hf
          have HF := Lib.hid hf
          clear hf hy hcc hcell
          by_cases hge : x ≤ y
          · have HR : Hid (fewestOf c x = ((k : Int), 0)) := by
              have hfk : firstGe x l = (k : Int) := by rw [HF.out]; simp [hge]
              rw [Hid, HQ.out, hfk, if_neg (by omega)]
            go_wp2
            go_ret2
            exact ⟨by rw [HR.out]; rfl, hB2⟩
          · have hfk : firstGe x l = idxOf (fun n => decide (x ≤ n)) (k + 1) (l.drop (k + 1)) := by rw [HF.out]; simp [hge]
            have HFK := Lib.hid hfk
            clear hfk
            go_wp2
            go_round
            case rel => exact ⟨k + 1, by omega, by go_num, HFK.out⟩
            case measure => simp [intOf]; omega
        · obtain rfl : k = l.length := by omega
          have HR : Hid (fewestOf c x = (0, 13)) := by
            have hfk : firstGe x l = -1 := by rw [hf]; simp [idxOf]
            rw [Hid, HQ.out, hfk, if_pos (by omega)]
          clear hf
          go_wp2
          go_ret2
          exact ⟨by rw [HR.out]; rfl, hB2⟩
end Go.Proofs.Ythplabmbbfefeaa
