/- Contracts of the reference: Count, Nth, Only, Rank. -/
import Derived.Test.YtjjjockfppomdaaAll
namespace Go.Proofs.Ytjjjockfppomdaa
open Go.RowKit Go.Shelf
set_option linter.unusedVariables false

set_option maxRecDepth 100000 in
set_option maxHeartbeats 1600000 in
theorem rcount_ok (v : Value) (c : Cyl) (w : World) (hv : CylV w w.heap.size v c) (h5 : checkCyl c = 0 → c.pcs.length ≤ 5) :
    Calls Try.prog 22 #[v] w fun r w' => r = .returned (.tuple #[.int .i64 (countM c).1, .int .i64 (countM c).2]) ∧ Below w.heap.size w w' := by
  obtain ⟨pa, pc, rfl, hp⟩ := hv.open_
  have hC := CB.new hp
  have hB := (Below.refl w.heap.size w).alloc (Nat.le_refl _) (.cells #[.slice pa c.pcs.length pc, .int .i64 c.off, .int .i64 c.slo, .int .i64 c.shi] 26)
  go_enter Try.func22, Try.ntmps22
  go_upto_region 1 with (fail)
  have HWS : Hid ((w.alloc (.cells #[.slice pa c.pcs.length pc, .int .i64 c.off, .int .i64 c.slo, .int .i64 c.shi] 26)).heap.size = w.heap.size + 1) := by simp [Hid]
  generalize hW : w.alloc (.cells #[.slice pa c.pcs.length pc, .int .i64 c.off, .int .i64 c.slo, .int .i64 c.shi] 26) = W at *
  clear hW hp
  clear hv HWS
  have hrc := rcheckCyl_ok _ c W hC.cyl
  by_cases h0 : checkCyl c = 0
  · rw [h0] at hrc
    have HE : Hid (countM c = (((joinsS c).length : Int), 0)) := countM_good h0
    obtain ⟨k0, k1, k2, k3⟩ := hC.c4
    go_wp2_with fail
    refine (hrc).mono ?_
    rintro e w1 hp
    clear k0 k1 k2 k3
    obtain ⟨rfl, hb⟩ := hp
    replace hC := hC.call hb
    replace hB := hB.trans ((hb).mono hB.size)
    clear hb hrc
    have hall := rall_ok _ c w1 hC.cyl h0 (h5 h0)
    clear h0 h5
    obtain ⟨k0, k1, k2, k3⟩ := hC.c4
    go_wp2_with fail
    refine (hall).mono ?_
    rintro e w2 hp
    clear k0 k1 k2 k3
    obtain ⟨A, cap, rfl, hL, hb⟩ := hp
    replace hC := hC.call hb
    replace hB := hB.trans ((hb).mono hB.size)
    clear hb hall hC
    go_wp2
    exact bodyPost_ret (v := .tuple #[.int .i64 ((joinsS c).length : Int), .int .i64 0]) (by simp [results, Try.results22, go_sem]) rfl ⟨by rw [HE.out], hB⟩
  · have d0 : (checkCyl c != 0) = true := by simpa using h0
    have HE : Hid (countM c = (0, checkCyl c)) := if_pos h0
    clear h0 h5
    obtain ⟨k0, k1, k2, k3⟩ := hC.c4
    go_wp2_with fail
    refine (hrc).mono ?_
    rintro e w1 hp
    clear k0 k1 k2 k3
    obtain ⟨rfl, hb⟩ := hp
    replace hC := hC.call hb
    replace hB := hB.trans ((hb).mono hB.size)
    clear hb hrc
    obtain ⟨k0, k1, k2, k3⟩ := hC.c4
    go_wp2_with fail
    refine (rcheckCyl_ok _ c w1 hC.cyl).mono ?_
    rintro e w2 hp
    clear k0 k1 k2 k3
    obtain ⟨rfl, hb⟩ := hp
    replace hC := hC.call hb
    replace hB := hB.trans ((hb).mono hB.size)
    clear hb
    go_wp2
    exact bodyPost_ret (v := .tuple #[.int .i64 0, .int .i64 (checkCyl c)]) (by simp [results, Try.results22, go_sem]) rfl ⟨by rw [HE.out], hB⟩

set_option maxRecDepth 100000 in
set_option maxHeartbeats 1600000 in
theorem rnth_ok (v : Value) (c : Cyl) (n : Int) (w : World) (hv : CylV w w.heap.size v c) (h5 : checkCyl c = 0 → c.pcs.length ≤ 5) :
    Calls Try.prog 24 #[v, .int .i64 n] w (StPost w (nthM c n)) := by
  obtain ⟨pa, pc, rfl, hp⟩ := hv.open_
  have hC := CB.new hp
  have hB := (Below.refl w.heap.size w).alloc (Nat.le_refl _) (.cells #[.slice pa c.pcs.length pc, .int .i64 c.off, .int .i64 c.slo, .int .i64 c.shi] 26)
  go_enter Try.func24, Try.ntmps24
  go_upto_region 1 with (fail)
  have HWS : Hid ((w.alloc (.cells #[.slice pa c.pcs.length pc, .int .i64 c.off, .int .i64 c.slo, .int .i64 c.shi] 26)).heap.size = w.heap.size + 1) := by simp [Hid]
  generalize hW : w.alloc (.cells #[.slice pa c.pcs.length pc, .int .i64 c.off, .int .i64 c.slo, .int .i64 c.shi] 26) = W at *
  clear hW hp
  clear hv HWS
  have hrc := rcheckCyl_ok _ c W hC.cyl
  by_cases h0 : checkCyl c = 0
  · rw [h0] at hrc
    have H0 := Lib.hid h0
    obtain ⟨k0, k1, k2, k3⟩ := hC.c4
    go_wp2_with fail
    refine (hrc).mono ?_
    rintro e w1 hp
    clear k0 k1 k2 k3
    obtain ⟨rfl, hb⟩ := hp
    replace hC := hC.call hb
    replace hB := hB.trans ((hb).mono hB.size)
    clear hb hrc
    have hall := rall_ok _ c w1 hC.cyl h0 (h5 h0)
    clear h0 h5
    obtain ⟨k0, k1, k2, k3⟩ := hC.c4
    go_wp2_with fail
    refine (hall).mono ?_
    rintro e w2 hp
    clear k0 k1 k2 k3
    obtain ⟨A, cap, rfl, hL, hb⟩ := hp
    replace hC := hC.call hb
    replace hB := hB.trans ((hb).mono hB.size)
    clear hb hall hC
    obtain ⟨J, hJ⟩ : ∃ J, J = joinsS c := ⟨_, rfl⟩
    rw [← hJ] at hL ⊢
    have HJ := Lib.hid hJ
    clear hJ
    by_cases hn : n < 0
    · have HE : Hid (nthM c n = ([], 3)) := nthM_bad H0.out (.inl hn)
      have d1 : decide (n < 0) = true := by simpa using hn
      clear hn
      go_wp2
      exact bodyPost_ret (v := .tuple #[.slice none 0 0, .int .i64 3]) (by simp [results, Try.results24, go_sem]) rfl (StPost.nil_ hB HE.out)
    · have d1 : decide (n < 0) = false := by simpa using hn
      by_cases hc : (J.length : Int) ≤ n
      · have HE : Hid (nthM c n = ([], 3)) := nthM_bad H0.out (.inr (by rw [← HJ.out]; exact hc))
        have d2 : decide ((J.length : Int) ≤ n) = true := by simpa using hc
        clear hn hc
        go_wp2
        exact bodyPost_ret (v := .tuple #[.slice none 0 0, .int .i64 3]) (by simp [results, Try.results24, go_sem]) rfl (StPost.nil_ hB HE.out)
      · have d2 : decide ((J.length : Int) ≤ n) = false := by simpa using hc
        obtain ⟨k, rfl⟩ : ∃ k : Nat, n = (k : Int) := ⟨n.toNat, by omega⟩
        have hkl : k < J.length := by omega
        have hki : (k : Int) < (J.length : Int) := by omega
        obtain ⟨l, hl⟩ : ∃ l, J[k]? = some l := ⟨_, List.getElem?_eq_getElem hkl⟩
        have HE : Hid (nthM c (k : Int) = (l, 0)) := nthM_good H0.out (by rw [← HJ.out]; exact hl)
        obtain ⟨b, off, lA, lc, hA, hb, hcell, hla⟩ := hL.at_ hl
        subst hA
        clear hn hc hl
        go_wp2
        refine bodyPost_ret (v := .tuple #[.slice lA l.length lc, .int .i64 0]) (by simp [results, Try.results24, go_sem]) rfl ?_
        rw [HE.out]
        exact ⟨_, _, rfl, hla, hB⟩
  · have d0 : (checkCyl c != 0) = true := by simpa using h0
    have HE : Hid (nthM c n = ([], checkCyl c)) := if_pos h0
    clear h0 h5
    obtain ⟨k0, k1, k2, k3⟩ := hC.c4
    go_wp2_with fail
    refine (hrc).mono ?_
    rintro e w1 hp
    clear k0 k1 k2 k3
    obtain ⟨rfl, hb⟩ := hp
    replace hC := hC.call hb
    replace hB := hB.trans ((hb).mono hB.size)
    clear hb hrc
    obtain ⟨k0, k1, k2, k3⟩ := hC.c4
    go_wp2_with fail
    refine (rcheckCyl_ok _ c w1 hC.cyl).mono ?_
    rintro e w2 hp
    clear k0 k1 k2 k3
    obtain ⟨rfl, hb⟩ := hp
    replace hC := hC.call hb
    replace hB := hB.trans ((hb).mono hB.size)
    clear hb
    go_wp2
    exact bodyPost_ret (v := .tuple #[.slice none 0 0, .int .i64 (checkCyl c)]) (by simp [results, Try.results24, go_sem]) rfl (StPost.nil_ hB HE.out)

theorem onlyM_r {c : Cyl} (h : checkCyl c = 0) : onlyM c = if (joinsS c).length = 0 then ([], 5) else if 1 < (joinsS c).length then ([], 6) else (((joinsS c)[0]?).getD [], 0) := by
  unfold onlyM
  rw [if_neg (by simp [h]), joinsS_len]

set_option maxRecDepth 100000 in
set_option maxHeartbeats 1600000 in
theorem ronly_ok (v : Value) (c : Cyl) (w : World) (hv : CylV w w.heap.size v c) (h5 : checkCyl c = 0 → c.pcs.length ≤ 5) :
    Calls Try.prog 28 #[v] w (StPost w (onlyM c)) := by
  obtain ⟨pa, pc, rfl, hp⟩ := hv.open_
  have hC := CB.new hp
  have hB := (Below.refl w.heap.size w).alloc (Nat.le_refl _) (.cells #[.slice pa c.pcs.length pc, .int .i64 c.off, .int .i64 c.slo, .int .i64 c.shi] 26)
  go_enter Try.func28, Try.ntmps28
  go_upto_region 1 with (fail)
  have HWS : Hid ((w.alloc (.cells #[.slice pa c.pcs.length pc, .int .i64 c.off, .int .i64 c.slo, .int .i64 c.shi] 26)).heap.size = w.heap.size + 1) := by simp [Hid]
  generalize hW : w.alloc (.cells #[.slice pa c.pcs.length pc, .int .i64 c.off, .int .i64 c.slo, .int .i64 c.shi] 26) = W at *
  clear hW hp
  clear hv HWS
  have hrc := rcheckCyl_ok _ c W hC.cyl
  by_cases h0 : checkCyl c = 0
  · rw [h0] at hrc
    have HO := Lib.hid (onlyM_r h0)
    obtain ⟨k0, k1, k2, k3⟩ := hC.c4
    go_wp2_with fail
    refine (hrc).mono ?_
    rintro e w1 hp
    clear k0 k1 k2 k3
    obtain ⟨rfl, hb⟩ := hp
    replace hC := hC.call hb
    replace hB := hB.trans ((hb).mono hB.size)
    clear hb hrc
    have hall := rall_ok _ c w1 hC.cyl h0 (h5 h0)
    clear h0 h5
    obtain ⟨k0, k1, k2, k3⟩ := hC.c4
    go_wp2_with fail
    refine (hall).mono ?_
    rintro e w2 hp
    clear k0 k1 k2 k3
    obtain ⟨A, cap, rfl, hL, hb⟩ := hp
    replace hC := hC.call hb
    replace hB := hB.trans ((hb).mono hB.size)
    clear hb hall hC
    obtain ⟨J, hJ⟩ : ∃ J, J = joinsS c := ⟨_, rfl⟩
    rw [← hJ] at hL HO ⊢
    clear hJ
    obtain ⟨n, hn⟩ : ∃ n, n = J.length := ⟨_, rfl⟩
    rw [← hn] at hL HO ⊢
    have HN := Lib.hid hn
    clear hn
    by_cases hz : n = 0
    · have HE : Hid (onlyM c = ([], 5)) := by rw [Hid, HO.out, if_pos hz]
      have d1 : ((n : Int) == 0) = true := by simp; omega
      clear hz
      go_wp2
      exact bodyPost_ret (v := .tuple #[.slice none 0 0, .int .i64 5]) (by simp [results, Try.results28, go_sem]) rfl (StPost.nil_ hB HE.out)
    · have d1 : ((n : Int) == 0) = false := beq_false_of_ne (by omega)
      by_cases h1 : 1 < n
      · have HE : Hid (onlyM c = ([], 6)) := by rw [Hid, HO.out, if_neg hz, if_pos h1]
        have d2 : decide ((1 : Int) < (n : Int)) = true := decide_eq_true (by omega)
        have d2' : decide (1 < n) = true := decide_eq_true h1
        clear hz h1
        go_wp2
        exact bodyPost_ret (v := .tuple #[.slice none 0 0, .int .i64 6]) (by simp [results, Try.results28, go_sem]) rfl (StPost.nil_ hB HE.out)
      · have d2 : decide ((1 : Int) < (n : Int)) = false := decide_eq_false (by omega)
        have d2' : decide (1 < n) = false := decide_eq_false h1
        obtain ⟨l, hl⟩ : ∃ l, J[0]? = some l := ⟨_, List.getElem?_eq_getElem (by have := HN.out; omega)⟩
        have HE : Hid (onlyM c = (l, 0)) := by rw [Hid, HO.out, if_neg hz, if_neg h1, hl]; rfl
        have hni : (0 : Int) < (n : Int) := by omega
        obtain ⟨b, off, lA, lc, hA, hb, hcell, hla⟩ := hL.at_ hl
        subst hA
        rw [Nat.add_zero] at hcell
        clear hz h1 hl
        go_wp2
        refine bodyPost_ret (v := .tuple #[.slice lA l.length lc, .int .i64 0]) (by simp [results, Try.results28, go_sem]) rfl ?_
        rw [HE.out]
        exact ⟨_, _, rfl, hla, hB⟩
  · have d0 : (checkCyl c != 0) = true := by simpa using h0
    have HE : Hid (onlyM c = ([], checkCyl c)) := if_pos h0
    clear h0 h5
    obtain ⟨k0, k1, k2, k3⟩ := hC.c4
    go_wp2_with fail
    refine (hrc).mono ?_
    rintro e w1 hp
    clear k0 k1 k2 k3
    obtain ⟨rfl, hb⟩ := hp
    replace hC := hC.call hb
    replace hB := hB.trans ((hb).mono hB.size)
    clear hb hrc
    obtain ⟨k0, k1, k2, k3⟩ := hC.c4
    go_wp2_with fail
    refine (rcheckCyl_ok _ c w1 hC.cyl).mono ?_
    rintro e w2 hp
    clear k0 k1 k2 k3
    obtain ⟨rfl, hb⟩ := hp
    replace hC := hC.call hb
    replace hB := hB.trans ((hb).mono hB.size)
    clear hb
    go_wp2
    exact bodyPost_ret (v := .tuple #[.slice none 0 0, .int .i64 (checkCyl c)]) (by simp [results, Try.results28, go_sem]) rfl (StPost.nil_ hB HE.out)

set_option maxRecDepth 100000 in
set_option maxHeartbeats 1600000 in
theorem rrank_ok (v lv : Value) (c : Cyl) (l : List St) (w : World) (hv : CylV w w.heap.size v c) (hl : Arr w w.heap.size 2 lv l stcell) (h5 : checkCyl c = 0 → c.pcs.length ≤ 5) :
    Calls Try.prog 26 #[v, lv] w fun r w' => r = .returned (.tuple #[.int .i64 (rankM c l).1, .int .i64 (rankM c l).2]) ∧ Below w.heap.size w w' := by
  obtain ⟨la, lc, rfl, hl1, hl2, -⟩ := id hl
  obtain ⟨pa, pc, rfl, hp⟩ := hv.open_
  have hC := CB.new hp
  have hB := (Below.refl w.heap.size w).alloc (Nat.le_refl _) (.cells #[.slice pa c.pcs.length pc, .int .i64 c.off, .int .i64 c.slo, .int .i64 c.shi] 26)
  go_enter Try.func26, Try.ntmps26
  go_upto_region 1 with (fail)
  have HWS : Hid ((w.alloc (.cells #[.slice pa c.pcs.length pc, .int .i64 c.off, .int .i64 c.slo, .int .i64 c.shi] 26)).heap.size = w.heap.size + 1) := by simp [Hid]
  generalize hW : w.alloc (.cells #[.slice pa c.pcs.length pc, .int .i64 c.off, .int .i64 c.slo, .int .i64 c.shi] 26) = W at *
  clear hW hp
  clear hv HWS
  have hlW := (hl.below hB).more hB.size
  have hrc := rcheckJoin_ok _ _ c l W hC.cyl hlW
  by_cases hj : checkJoin c l = 0
  · rw [hj] at hrc
    obtain ⟨h0, hg⟩ := checkJoin_iff.1 hj
    obtain ⟨r, hr⟩ : ∃ r, (joinsS c)[r]? = some l := ⟨_, rank_at (mem_joinsS.2 hg)⟩
    have HE : Hid (rankM c l = ((r : Int), 0)) := rankM_good h0 hr
    have HR := Lib.hid hr
    clear hj hg hr
    obtain ⟨k0, k1, k2, k3⟩ := hC.c4
    go_wp2_with fail
    refine (hrc).mono ?_
    rintro e w1 hp
    clear k0 k1 k2 k3
    obtain ⟨rfl, hb⟩ := hp
    replace hC := hC.call hb
    replace hB := hB.trans ((hb).mono hB.size)
    replace hlW := (hlW.below hb).more hb.size
    clear hb hrc
    have hall := rall_ok _ c w1 hC.cyl h0 (h5 h0)
    have hsm : Hid ((joinsS c).length ≤ 100000) := by rw [Hid, joinsS_lvl]; exact lvl_small (h5 h0) (h5 h0)
    clear h0 h5
    obtain ⟨k0, k1, k2, k3⟩ := hC.c4
    go_wp2_with fail
    refine (hall).mono ?_
    rintro e w2 hp
    clear k0 k1 k2 k3
    obtain ⟨A, cap, rfl, hL, hb⟩ := hp
    replace hC := hC.call hb
    replace hB := hB.trans ((hb).mono hB.size)
    replace hlW := (hlW.below hb).more hb.size
    clear hb hall hC
    obtain ⟨J, hJ⟩ : ∃ J, J = joinsS c := ⟨_, rfl⟩
    have HJ := Lib.hid hJ
    rw [← hJ] at hL HR hsm ⊢
    clear hJ
    go_wp2
    go_loopw [7] (fun i wr => ∃ k : Nat, k ≤ r ∧ i = .int .i64 k ∧ Below w2.heap.size w2 wr) (fun i _ => r - (intOf i).toNat)
    case atStart => exact ⟨0, Nat.zero_le _, rfl, Below.refl _ _⟩
    case round =>
      obtain ⟨k, hk, rfl, hbr⟩ := hrel
      have hrl := (List.getElem?_eq_some_iff.1 HR.out).1
      have hki : (k : Int) < (J.length : Int) := by omega
      obtain ⟨m, hm⟩ : ∃ m, J[k]? = some m := ⟨_, List.getElem?_eq_getElem (by omega)⟩
      obtain ⟨b, off, mA, mc, hA, hb, hcell, hma⟩ := hL.at_ hm
      subst hA
      have c0 := (hbr.cell (p := ⟨b, off + k, none⟩) hb).trans hcell
      have hs := same_ok _ _ m l wr ((hma.below hbr).more hbr.size) ((hlW.below hbr).more hbr.size)
      have ek : IntKind.i64.wrap ((k : Int) + 1) = ((k + 1 : Nat) : Int) := by have := hsm.out; rw [IntKind.wrap_i64]; omega
      by_cases hkr : k = r
      · have hml : m = l := by
          have := HR.out
          rw [← hkr, hm] at this
          injection this
        rw [show decide (m = l) = true by simpa using hml] at hs
        have HK := Lib.hid hkr
        clear hkr hml hm hcell hrl
        go_wp2_with fail
        refine hs.mono ?_
        rintro e w3 ⟨rfl, hb3⟩
        replace hB := hB.trans ((hbr.trans (hb3.mono hbr.size)).mono hB.size)
        clear hb3 hs c0 hbr
        go_wp2
        exact bodyPost_ret (v := .tuple #[.int .i64 (k : Int), .int .i64 0]) (by simp [results, Try.results26, go_sem]) rfl ⟨by rw [HE.out, HK.out], hB⟩
      · have hml : m ≠ l := by
          intro e
          have h1 := HR.out
          rw [HJ.out] at hm h1
          rw [e] at hm
          exact hkr (joinsS_inj hm h1)
        rw [show decide (m = l) = false by simpa using hml] at hs
        have hlt : k < r := by omega
        clear hkr hml hm hcell hrl
        go_wp2_with fail
        refine hs.mono ?_
        rintro e w3 ⟨rfl, hb3⟩
        replace hbr := hbr.trans (hb3.mono hbr.size)
        clear hb3 hs c0
        go_wp2
        go_roundw
        case rel => exact ⟨k + 1, by omega, by go_num, hbr⟩
        case measure => (simp [intOf]; try omega)
  · have d0 : (checkJoin c l != 0) = true := by simpa using hj
    have HE : Hid (rankM c l = (0, checkJoin c l)) := if_pos hj
    clear hj h5
    obtain ⟨k0, k1, k2, k3⟩ := hC.c4
    go_wp2_with fail
    refine (hrc).mono ?_
    rintro e w1 hp
    clear k0 k1 k2 k3
    obtain ⟨rfl, hb⟩ := hp
    replace hC := hC.call hb
    replace hB := hB.trans ((hb).mono hB.size)
    replace hlW := (hlW.below hb).more hb.size
    clear hb hrc
    obtain ⟨k0, k1, k2, k3⟩ := hC.c4
    go_wp2_with fail
    refine (rcheckJoin_ok _ _ c l w1 hC.cyl hlW).mono ?_
    rintro e w2 hp
    clear k0 k1 k2 k3
    obtain ⟨rfl, hb⟩ := hp
    replace hC := hC.call hb
    replace hB := hB.trans ((hb).mono hB.size)
    clear hb
    go_wp2
    exact bodyPost_ret (v := .tuple #[.int .i64 0, .int .i64 (checkJoin c l)]) (by simp [results, Try.results26, go_sem]) rfl ⟨by rw [HE.out], hB⟩
end Go.Proofs.Ytjjjockfppomdaa
