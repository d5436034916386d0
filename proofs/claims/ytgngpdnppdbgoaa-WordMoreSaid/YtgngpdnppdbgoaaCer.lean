/- Contract: Certain. -/
import Derived.Test.YtgngpdnppdbgoaaPub
namespace Go.Proofs.Ytgngpdnppdbgoaa
open Go.RowKit Go.Shelf
set_option linter.unusedVariables false

def certB (b : List (Int × Int)) (ls : List (List Int)) (m : List Nat) : Bool := (longOf b ls).all fun l => decide (m ∈ l)
theorem cert_iff {b : List (Int × Int)} {ls : List (List Int)} (hg : Good b ls) {k : Nat} (hk : k < (matsOf b ls).length) : certB b ls (xAt b ls k) = decide (upN b ls k * dnN b ls k = (longOf b ls).length) := by
  have h := (levOf hg).through (xAt_mem hk)
  rw [thrN, thrOf, ← h]
  unfold certB longOf
  rw [Bool.eq_iff_iff, decide_eq_true_eq, List.all_eq_true, List.countP_eq_length]
  simp
theorem mats_at {b : List (Int × Int)} {ls : List (List Int)} {k : Nat} (hk : k < (matsOf b ls).length) : (matsOf b ls)[k]? = some (xAt b ls k) := by
  unfold xAt
  rw [List.getD_eq_getElem?_getD, List.getElem?_eq_getElem hk]
  rfl

attribute [local go_sem] Oper.semAt_some
set_option maxRecDepth 100000 in
set_option maxHeartbeats 1600000 in
theorem certainP_ok (v lv : Value) (b : List (Int × Int)) (ls : List (List Int)) (w : World) (hv : BookV w w.heap.size v b) (hl : LLi w lv ls) :
    Calls Try.prog 36 #[v, lv] w fun r w' => ∃ mv, r = .returned (.tuple #[mv, .int .i64 (certainM b ls).2]) ∧ LLi w' mv (certainM b ls).1 ∧ Below w.heap.size w w' := by
  obtain ⟨pa, pc, rfl, hp⟩ := hv.open_
  obtain ⟨la, lc, rfl, -, -⟩ := hl.form
  have hC := BB.new hp
  have hB := (Below.refl w.heap.size w).alloc (Nat.le_refl _) (.cells #[.slice pa b.length pc] 24)
  go_enter Try.func36, Try.ntmps36
  go_upto_region 1 with (fail)
  generalize w.alloc (.cells #[.slice pa b.length pc] 24) = W at *
  have k0 := hC.c0
  go_wp2_with fail
  refine (newSong_ok _ b ls la lc W hC.bv ((hl.below hB).more hB.size)).mono ?_
  rintro e w1 ⟨hb1, hpost⟩
  have hB1 := hB.trans (hb1.mono hB.size)
  clear hC hB hb1 k0 hp hv
  rcases hpost with ⟨hne, rfl⟩ | ⟨he, gs, d, A, c, rfl, hs⟩
  · have d0 : (checkLines b ls != 0) = true := by simp [hne]
    have HE : Hid (certainM b ls = ([], checkLines b ls)) := if_pos hne
    clear hne
    go_wp2
    exact bodyPost_ret (v := .tuple #[.slice none 0 0, .int .i64 (checkLines b ls)]) (by simp [results, Try.results36, go_sem]) rfl ⟨_, by rw [HE.out], by rw [HE.out]; exact LLB.nil_, hB1⟩
  · have HE : Hid (certainM b ls = (iLL (certainOf b ls), 0)) := if_neg (by simp [he])
    have HG := Lib.hid hs.1.good
    have ht := ways_ok W.heap.size gs d b ls la lc A c w1 hs
    have hms := mats_4096 HG.out
    clear he hl
    go_wp2_with fail
    refine ht.mono ?_
    rintro e w2 ⟨rb, rfl, hr, hb2⟩
    have hs2 := hs.call hb2
    have hb3 := hB1.trans (hb2.mono hB1.size)
    have ht2 := count_ok W.heap.size gs d b ls la lc A c rb w2 hs2 hr
    clear ht
    go_wp2_with fail
    refine ht2.mono ?_
    rintro e w3 ⟨rfl, hb4⟩
    have hs3 := hs2.call hb4
    have hr3 := hr.call hb4
    have hb5 := hb3.trans (hb4.mono hb3.size)
    obtain ⟨n, hn⟩ : ∃ n, n = (matsOf b ls).length := ⟨_, rfl⟩
    have HNN := Lib.hid hn
    obtain ⟨cnt, hcnt⟩ : ∃ cnt, cnt = (longOf b ls).length := ⟨_, rfl⟩
    have HCN := Lib.hid hcnt
    obtain ⟨q0, q1, q2⟩ := hs3.1.c3
    rw [← hn] at q2 hr3 hms ⊢
    rw [← hcnt]
    clear ht2 hs hs2 hr hb2 hb3 hB1 hb4 hn hcnt
    go_wp2
    go_loopw [10, 32] (fun o i wr => ∃ k : Nat, k ≤ n ∧ i = .int .i64 k ∧ Below w3.heap.size w3 wr ∧ wr.ownsRow w3.heap.size 88 4 o (((matsOf b ls).take k).filter (certB b ls)).length ((((matsOf b ls).take k).filter (certB b ls)).flatMap (cellsOf 4 plcell))) (fun _ i _ => n - (intOf i).toNat)
    case atStart => exact ⟨0, Nat.zero_le _, rfl, Below.refl _ _, by simpa using World.ownsRow_nil _ _ _ _⟩
    case round =>
      obtain ⟨k, hk, rfl, hb, hown⟩ := hrel
      clear q0 q1 q2
      by_cases hlt : k < n
      · have d1 : decide (k < n) = true := decide_eq_true hlt
        have d1' : decide ((k : Int) < (n : Int)) = true := decide_eq_true (by omega)
        have hki : (k : Int) < (n : Int) := by omega
        have HKM : Hid (k < (matsOf b ls).length) := by rw [Hid, ← HNN.out]; exact hlt
        obtain ⟨xb, xo, rfl, hxb, hxc⟩ := pl_all hs3.2 (by have := HKM.out; omega)
        have c0 := (hb.cell (p := ⟨xb, xo + k * 4 + 0, none⟩) hxb).trans (hxc k HKM.out 0 (by omega))
        have c1 := (hb.cell (p := ⟨xb, xo + k * 4 + 1, none⟩) hxb).trans (hxc k HKM.out 1 (by omega))
        have c2 := (hb.cell (p := ⟨xb, xo + k * 4 + 2, none⟩) hxb).trans (hxc k HKM.out 2 (by omega))
        have c3 := (hb.cell (p := ⟨xb, xo + k * 4 + 3, none⟩) hxb).trans (hxc k HKM.out 3 (by omega))
        change wr.cell? ⟨xb, xo + k * 4, none⟩ = some (.int .i64 (at0 (xAt b ls k) 0 : Int)) at c0
        change wr.cell? ⟨xb, xo + k * 4 + 1, none⟩ = some (.int .i64 (at0 (xAt b ls k) 1 : Int)) at c1
        change wr.cell? ⟨xb, xo + k * 4 + 2, none⟩ = some (.int .i64 (at0 (xAt b ls k) 2 : Int)) at c2
        change wr.cell? ⟨xb, xo + k * 4 + 3, none⟩ = some (.int .i64 (at0 (xAt b ls k) 3 : Int)) at c3
        have hlf : (((matsOf b ls).take k).filter (certB b ls)).length ≤ k := Nat.le_trans (List.length_filter_le _ _) (by rw [List.length_take]; omega)
        have HT : Hid (((matsOf b ls).take (k + 1)).filter (certB b ls) = ((matsOf b ls).take k).filter (certB b ls) ++ [xAt b ls k].filter (certB b ls)) := by rw [Hid, take_snoc (mats_at HKM.out), List.filter_append]
        have hci := cert_iff HG.out HKM.out
        rw [← HCN.out] at hci
        generalize ((matsOf b ls).take k).filter (certB b ls) = l at *
        clear hxc
        go_upto_region 10 with (fail)
        have e : wr.alloc (.cells #[.int .i64 (at0 (xAt b ls k) 0 : Int), .int .i64 (at0 (xAt b ls k) 1 : Int), .int .i64 (at0 (xAt b ls k) 2 : Int), .int .i64 (at0 (xAt b ls k) 3 : Int)] 88) = wr.alloc (.cells (plC (xAt b ls k)) 88) := rfl
        rw [e]
        clear e c0 c1 c2 c3
        have hX := Blk.new wr 88 (plC (xAt b ls k))
        have hbA := (Below.refl wr.heap.size wr).alloc (Nat.le_refl _) (.cells (plC (xAt b ls k)) 88)
        have hb6 := hb.trans (hbA.mono hb.size)
        have hown6 := own_call hown hbA
        clear hb hown hbA
        generalize wr.alloc (.cells (plC (xAt b ls k)) 88) = W6 at *
        generalize wr.heap.size = xg at *
        obtain ⟨o0, o1⟩ := (hr3.call hb6).at_ hlt
        have hth := through_ok (upN b ls k) (dnN b ls k) (ways_leN HG.out HKM.out).2.2 W6
        obtain ⟨P, hP⟩ : ∃ P, P = upN b ls k * dnN b ls k := ⟨_, rfl⟩
        rw [← hP] at hth hci
        clear hP
        by_cases hq : P = cnt
        · have d4 : ((P : Int) == (cnt : Int)) = true := by simp; omega
          have HF : Hid (l ++ [xAt b ls k].filter (certB b ls) = l ++ [xAt b ls k]) := by rw [Hid]; simp [hci, hq]
          clear hq hci
          go_wp2_with fail
          refine hth.mono ?_
          rintro e w7 ⟨rfl, hb7⟩
          have hb8 := hb6.trans (hb7.mono hb6.size)
          have hown8 := own_call hown6 hb7
          have hX8 := hX.call hb7
          clear hth o0 o1 hown6 hX hb6 hb7
          have p0 := hX8.cell 0
          have p1 := hX8.cell 1
          have p2 := hX8.cell 2
          have p3 := hX8.cell 3
          simp [plC] at p0 p1 p2 p3
          have hsz8 := hb8.size
          go_wp2_with (at_builtin; refine wpList_app2 slT_pl rfl (.tmp 44) (.tmp 46) rfl (sv := u10) rfl hown8 rfl rfl (one_pl (xAt b ls k)) hsz8 ?_ ?_ ?_)
          any_goals omega
          intro v4 w4 hown4 hg4 hat4
          have hown5 := own_snoc (l := l) rfl (cells_pl (xAt b ls k)) hown4
          have hb9 : Below w3.heap.size w3 w4 := hb8.grown hg4 hb8.size (fun g hg => (hown8.lt g hg).1)
          clear hown4 hg4 hat4 hown8 hX8 hb8 hsz8 p0 p1 p2 p3
          go_wp2
          go_roundw
          case rel => exact ⟨k + 1, by omega, by go_num, hb9, by rw [HT.out, HF.out]; exact hown5⟩
          case measure => (simp [intOf]; try omega)
        · have d4 : ((P : Int) == (cnt : Int)) = false := beq_false_of_ne (by omega)
          have HF : Hid (l ++ [xAt b ls k].filter (certB b ls) = l) := by rw [Hid]; simp [hci, hq]
          clear hq hci
          go_wp2_with fail
          refine hth.mono ?_
          rintro e w7 ⟨rfl, hb7⟩
          have hb8 := hb6.trans (hb7.mono hb6.size)
          have hown8 := own_call hown6 hb7
          clear hth o0 o1 hown6 hX hb6 hb7
          go_wp2
          go_roundw
          case rel => exact ⟨k + 1, by omega, by go_num, hb8, by rw [HT.out, HF.out]; exact hown8⟩
          case measure => (simp [intOf]; try omega)
      · obtain rfl : n = k := by omega
        have d1 : decide (n < n) = false := by simp
        have HC : Hid (((matsOf b ls).take n).filter (certB b ls) = certainOf b ls) := by rw [Hid, HNN.out, List.take_length]; rfl
        rw [HC.out] at hown
        have harr := Arr.of_own hown
        have hs4 := hs3.call hb
        have hb6 := hb5.trans (hb.mono hb5.size)
        have ht2 := told_ok W.heap.size gs d b ls la lc _ u10 (certainOf b ls) wr hs4.1 harr (fun m hm => matches_len (List.mem_filter.1 hm).1) (Nat.le_trans (List.length_filter_le _ _) (by rw [← HNN.out]; exact hms))
        clear hown harr
        go_wp2_with fail
        refine ht2.mono ?_
        rintro e w7 ⟨A', c', rfl, hll, hb7⟩
        have hb8 := hb6.trans (hb7.mono hb6.size)
        clear ht2
        go_wp2
        exact bodyPost_ret (v := .tuple #[.slice A' (certainOf b ls).length c', .int .i64 0]) (by simp [results, Try.results36, go_sem]) rfl ⟨_, by rw [HE.out], by rw [HE.out]; exact hll, hb8⟩
end Go.Proofs.Ytgngpdnppdbgoaa
