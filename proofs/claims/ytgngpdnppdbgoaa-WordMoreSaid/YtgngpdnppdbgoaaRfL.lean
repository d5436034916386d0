/- Contracts of the reference: Longest, Count, Has, Hears, Certain, Grades. Contracts of the reference: Certain, Grades. Contract of the reference: Grades. -/
import Derived.Test.YtgngpdnppdbgoaaRfK
import Derived.Test.YtgngpdnppdbgoaaGra
namespace Go.Proofs.Ytgngpdnppdbgoaa
open Go.RowKit Go.Shelf
set_option linter.unusedVariables false

theorem longOf_ne {b : List (Int × Int)} {ls : List (List Int)} (hg : Good b ls) : 0 < (longOf b ls).length := by
  obtain ⟨l, hl⟩ := (levOf hg).exists_
  exact List.length_pos_of_mem hl

set_option maxRecDepth 100000 in
set_option maxHeartbeats 1600000 in
theorem rlongest_ok (v lv : Value) (b : List (Int × Int)) (ls : List (List Int)) (w : World) (hv : BookV w w.heap.size v b) (hl : LLi w lv ls) (h16 : checkLines b ls = 0 → (matsOf b ls).length ≤ 16) :
    Calls Try.prog 33 #[v, lv] w fun r w' => ∃ mv, r = .returned (.tuple #[mv, .int .i64 (longestM b ls).2]) ∧ LLi w' mv (longestM b ls).1 ∧ Below w.heap.size w w' := by
  have H16 := Lib.hid h16
  clear h16
  obtain ⟨pa, pc, rfl, hp⟩ := hv.open_
  obtain ⟨la, lc, rfl, -, -⟩ := hl.form
  have hC := BB.new hp
  have hB := (Below.refl w.heap.size w).alloc (Nat.le_refl _) (.cells #[.slice pa b.length pc] 24)
  go_enter Try.func33, Try.ntmps33
  go_upto_region 1 with (fail)
  generalize w.alloc (.cells #[.slice pa b.length pc] 24) = W at *
  have hl0 := (hl.below hB).more hB.size
  clear hp hv hl
  have k0 := hC.c0
  go_wp2_with fail
  refine (rcheckLines_ok _ _ b ls W hC.bv hl0).mono ?_
  rintro e w1 ⟨rfl, hb1⟩
  have hB1 := hB.trans (hb1.mono hB.size)
  have hC1 := hC.call hb1
  have hl1 := hl0.call hb1
  clear hC hB hb1 k0 hl0
  have k0 := hC1.c0
  by_cases he : checkLines b ls = 0
  · have d0 : (checkLines b ls != 0) = false := by simp [he]
    have HE : Hid (longestM b ls = (iLL ((longOf b ls).headD []), 0)) := if_neg (by simp [he])
    have hr := rallLong_ok _ _ b ls w1 hC1.bv hl1 he (H16.out he)
    have hn0 := longOf_ne (good_of he)
    have hni : (0 : Int) < ((longOf b ls).length : Int) := by omega
    clear he
    go_wp2_with fail
    refine hr.mono ?_
    rintro e w2 ⟨A, c, rfl, hll, hb2⟩
    have hB2 := hB1.trans (hb2.mono hB1.size)
    obtain ⟨qb, qo, lA, lcc, hA, hqb, hqc, hq⟩ := hll.at_ (i := 0) (l := iLL ((longOf b ls).headD [])) (by
      rw [List.getElem?_map, List.headD_eq_head?_getD, List.head?_eq_getElem?, List.getElem?_eq_getElem hn0]
      rfl)
    subst hA
    rw [Nat.add_zero] at hqc
    clear hr hb2 k0 hC1 hl1 hll
    go_wp2
    exact bodyPost_ret (v := .tuple #[.slice lA (iLL ((longOf b ls).headD [])).length lcc, .int .i64 0]) (by simp [results, Try.results33, go_sem]) rfl ⟨_, by rw [HE.out], by rw [HE.out]; exact hq, hB2⟩
  · have HE : Hid (longestM b ls = ([], checkLines b ls)) := if_pos he
    have d0 : (checkLines b ls != 0) = true := by simp [he]
    go_wp2_with fail
    refine (rcheckLines_ok _ _ b ls w1 hC1.bv hl1).mono ?_
    rintro e w2 ⟨rfl, hb2⟩
    have hB2 := hB1.trans (hb2.mono hB1.size)
    clear k0 hC1 hl1 hb2
    go_wp2
    exact bodyPost_ret (v := .tuple #[.slice none 0 0, .int .i64 (checkLines b ls)]) (by simp [results, Try.results33, go_sem]) rfl ⟨_, by rw [HE.out], by rw [HE.out]; exact LLB.nil_, hB2⟩

set_option maxRecDepth 100000 in
set_option maxHeartbeats 1600000 in
theorem rcount_ok (v lv : Value) (b : List (Int × Int)) (ls : List (List Int)) (w : World) (hv : BookV w w.heap.size v b) (hl : LLi w lv ls) (h16 : checkLines b ls = 0 → (matsOf b ls).length ≤ 16) :
    Calls Try.prog 35 #[v, lv] w fun r w' => r = .returned (.tuple #[.int .i64 (countM b ls).1, .int .i64 (countM b ls).2]) ∧ Below w.heap.size w w' := by
  have H16 := Lib.hid h16
  clear h16
  obtain ⟨pa, pc, rfl, hp⟩ := hv.open_
  obtain ⟨la, lc, rfl, -, -⟩ := hl.form
  have hC := BB.new hp
  have hB := (Below.refl w.heap.size w).alloc (Nat.le_refl _) (.cells #[.slice pa b.length pc] 24)
  go_enter Try.func35, Try.ntmps35
  go_upto_region 1 with (fail)
  generalize w.alloc (.cells #[.slice pa b.length pc] 24) = W at *
  have hl0 := (hl.below hB).more hB.size
  clear hp hv hl
  have k0 := hC.c0
  go_wp2_with fail
  refine (rcheckLines_ok _ _ b ls W hC.bv hl0).mono ?_
  rintro e w1 ⟨rfl, hb1⟩
  have hB1 := hB.trans (hb1.mono hB.size)
  have hC1 := hC.call hb1
  have hl1 := hl0.call hb1
  clear hC hB hb1 k0 hl0
  have k0 := hC1.c0
  by_cases he : checkLines b ls = 0
  · have d0 : (checkLines b ls != 0) = false := by simp [he]
    have HE : Hid (countM b ls = (((longOf b ls).length : Int), 0)) := if_neg (by simp [he])
    have hr := rallLong_ok _ _ b ls w1 hC1.bv hl1 he (H16.out he)
    clear he
    go_wp2_with fail
    refine hr.mono ?_
    rintro e w2 ⟨A, c, rfl, hll, hb2⟩
    have hB2 := hB1.trans (hb2.mono hB1.size)
    clear hr hb2 k0 hC1 hl1 hll
    go_wp2
    exact bodyPost_ret (v := .tuple #[.int .i64 ((longOf b ls).length : Int), .int .i64 0]) (by simp [results, Try.results35, go_sem]) rfl ⟨by rw [HE.out], hB2⟩
  · have HE : Hid (countM b ls = (0, checkLines b ls)) := if_pos he
    have d0 : (checkLines b ls != 0) = true := by simp [he]
    go_wp2_with fail
    refine (rcheckLines_ok _ _ b ls w1 hC1.bv hl1).mono ?_
    rintro e w2 ⟨rfl, hb2⟩
    have hB2 := hB1.trans (hb2.mono hB1.size)
    clear k0 hC1 hl1 hb2
    go_wp2
    exact bodyPost_ret (v := .tuple #[.int .i64 0, .int .i64 (checkLines b ls)]) (by simp [results, Try.results35, go_sem]) rfl ⟨by rw [HE.out], hB2⟩

set_option maxRecDepth 100000 in
set_option maxHeartbeats 1600000 in
theorem rhas_ok (pv mv : Value) (p : List (List Int)) (m : List Int) (w : World) (hp : LLi w pv p) (hm : Arr w w.heap.size 1 mv m icell) :
    Calls Try.prog 42 #[pv, mv] w fun r w' => r = .returned (.bool (decide (m ∈ p))) ∧ Below w.heap.size w w' := by
  obtain ⟨pA, pc, rfl, hpc1, hpc2⟩ := hp.form
  go_enter Try.func42, Try.ntmps42
  go_wp2
  go_loopw [5] (fun i wr => ∃ k : Nat, k ≤ p.length ∧ i = .int .i64 k ∧ Hid (m ∉ p.take k) ∧ Below w.heap.size w wr) (fun i _ => p.length - (intOf i).toNat)
  case atStart => exact ⟨0, Nat.zero_le _, rfl, (fun h => by simp at h), Below.refl _ _⟩
  case round =>
    obtain ⟨k, hk, rfl, hok, hb⟩ := hrel
    by_cases hlt : k < p.length
    · have d1 : decide (k < p.length) = true := decide_eq_true hlt
      have d1' : decide ((k : Int) < (p.length : Int)) = true := decide_eq_true (by omega)
      have hki : (k : Int) < (p.length : Int) := by omega
      obtain ⟨xb, xo, lA, lcc, hA, hxb, hxc, hx⟩ := (hp.call hb).at_ (getD_some [] hlt)
      subst hA
      obtain ⟨x, hxe⟩ : ∃ x, x = p.getD k [] := ⟨_, rfl⟩
      rw [← hxe] at hxc hx
      have HX := Lib.hid hxe
      have hs := rsame_ok _ _ x m wr hx (hm.call hb)
      clear hxe hx
      by_cases hq : x = m
      · have HR : Hid (decide (m ∈ p) = true) := by
          rw [Hid, decide_eq_true_eq, ← hq, HX.out]
          exact getD_in hlt
        rw [decide_eq_true hq] at hs
        clear hq
        go_wp2_with fail
        refine hs.mono ?_
        rintro e w2 ⟨rfl, hb2⟩
        have hb3 := hb.trans (hb2.mono hb.size)
        clear hs hxc
        go_wp2
        go_ret
        exact ⟨by rw [HR.out]; rfl, hb3⟩
      · have HOK : Hid (m ∉ p.take (k + 1)) := fun h => by
          rw [take_snoc (getD_some [] hlt), List.mem_append, List.mem_singleton] at h
          rcases h with h | h
          · exact hok.out h
          · exact hq (by rw [HX.out, h])
        rw [decide_eq_false hq] at hs
        clear hq hok
        go_wp2_with fail
        refine hs.mono ?_
        rintro e w2 ⟨rfl, hb2⟩
        have hb3 := hb.trans (hb2.mono hb.size)
        clear hs hxc
        go_wp2
        go_roundw
        case rel => exact ⟨k + 1, by omega, by go_num, HOK, hb3⟩
        case measure => (simp [intOf]; try omega)
    · obtain rfl : p.length = k := by omega
      have d1 : decide (p.length < p.length) = false := by simp
      rw [List.take_length] at hok
      have HR : Hid (decide (m ∈ p) = false) := by rw [Hid, decide_eq_false_iff_not]; exact hok.out
      clear hok
      go_wp2
      go_ret
      exact ⟨by rw [HR.out]; rfl, hb⟩

theorem has_iL {p : List (List Nat)} {m : List Nat} : decide (iL m ∈ iLL p) = decide (m ∈ p) := by
  rw [Bool.eq_iff_iff, decide_eq_true_eq, decide_eq_true_eq]
  unfold iLL
  rw [List.mem_map]
  constructor
  · rintro ⟨x, hx, e⟩
    rw [← iL_inj e]
    exact hx
  · intro h
    exact ⟨m, h, rfl⟩

set_option maxRecDepth 100000 in
set_option maxHeartbeats 1600000 in
theorem rhears_ok (pv : Value) (p : List (List Nat)) (h i : Nat) (w : World) (hp : LLi w pv (iLL p)) (hl : ∀ m ∈ p, h < m.length) :
    Calls Try.prog 43 #[pv, .int .i64 (h : Int), .int .i64 (i : Int)] w fun r w' => r = .returned (.bool (hearsB h i p)) ∧ Below w.heap.size w w' := by
  obtain ⟨pA, pc, rfl, hpc1, hpc2⟩ := hp.form
  have HPL := Lib.hid (iLL_len p)
  have HL := Lib.hid hl
  rw [HPL.out] at hp hpc1 ⊢
  clear hl HPL
  go_enter Try.func43, Try.ntmps43
  go_wp2
  go_loopw [7] (fun x wr => ∃ k : Nat, k ≤ p.length ∧ x = .int .i64 k ∧ Hid (hearsB h i (p.take k) = false) ∧ Below w.heap.size w wr) (fun x _ => p.length - (intOf x).toNat)
  case atStart => exact ⟨0, Nat.zero_le _, rfl, rfl, Below.refl _ _⟩
  case round =>
    obtain ⟨k, hk, rfl, hok, hb⟩ := hrel
    by_cases hlt : k < p.length
    · have d1 : decide (k < p.length) = true := decide_eq_true hlt
      have d1' : decide ((k : Int) < (p.length : Int)) = true := decide_eq_true (by omega)
      have hki : (k : Int) < (p.length : Int) := by omega
      obtain ⟨xb, xo, lA, lcc, hA, hxb, hxc, hx⟩ := mat_at (hp.call hb) hlt
      subst hA
      obtain ⟨m, hm⟩ : ∃ m, m = p.getD k [] := ⟨_, rfl⟩
      rw [← hm] at hxc hx
      have hmp : m ∈ p := by rw [hm]; exact getD_in hlt
      have hml := HL.out m hmp
      have HG : Hid (p[k]? = some m) := by rw [hm]; exact getD_some [] hlt
      have hhi : (h : Int) < ((iL m).length : Int) := by rw [iL_len]; omega
      obtain ⟨nb, no, rfl, hnb, hnc⟩ := num_at hx (k := h) (by rw [iL_len]; exact hml)
      rw [getD_iL2] at hnc
      obtain ⟨a, ha⟩ : ∃ a, a = at0 m h := ⟨_, rfl⟩
      rw [← ha] at hnc
      have HA := Lib.hid ha
      clear hm ha hx hmp hml
      by_cases hq : a = i
      · have d2 : ((a : Int) == (i : Int)) = true := by rw [beq_iff_eq]; omega
        have HR : Hid (hearsB h i p = true) := by
          unfold hearsB
          rw [Hid, List.any_eq_true]
          exact ⟨m, List.mem_of_getElem? HG.out, by rw [beq_iff_eq, ← HA.out]; exact hq⟩
        clear hq
        go_wp2
        go_ret
        exact ⟨by rw [HR.out]; rfl, hb⟩
      · have d2 : ((a : Int) == (i : Int)) = false := beq_false_of_ne (by omega)
        have HOK : Hid (hearsB h i (p.take (k + 1)) = false) := by
          have h1 := hok.out
          unfold hearsB at h1 ⊢
          rw [Hid, take_snoc HG.out, List.any_append, h1, Bool.false_or]
          simp only [List.any_cons, List.any_nil, Bool.or_false]
          exact beq_false_of_ne (by rw [← HA.out]; exact hq)
        clear hq hok
        go_wp2
        go_roundw
        case rel => exact ⟨k + 1, by omega, by go_num, HOK, hb⟩
        case measure => (simp [intOf]; try omega)
    · obtain rfl : p.length = k := by omega
      have d1 : decide (p.length < p.length) = false := by simp
      rw [List.take_length] at hok
      go_wp2
      go_ret
      exact ⟨by rw [hok.out]; rfl, hb⟩
end Go.Proofs.Ytgngpdnppdbgoaa

namespace Go.Proofs.Ytgngpdnppdbgoaa
open Go.RowKit Go.Shelf
set_option linter.unusedVariables false

theorem own_lli {w : World} {base n : Nat} {te : TypeId} {v : Value} {A : Option Addr} {ms l : List (List Nat)} {hd : List Nat → Value} (h : w.ownsRow base te 1 v n (l.map hd)) (hn : n = l.length) (hh : HdOf w A ms hd) (hl : ∀ m ∈ l, m ∈ ms) : LLi w v (iLL l) := by
  subst hn
  refine ⟨l.map fun m => (hd m, iL m), by unfold iLL; rw [List.map_map]; rfl, ?_, fun x hx => ?_⟩
  · have := Arr.of_own (w := w) (base := base) (e := te) (size := 1) (v := v) (l := l.map fun m => (hd m, iL m)) (cell := vlcell) (by rw [flat_vl, List.map_map, List.length_map]; exact h)
    exact this
  · obtain ⟨m, hm, rfl⟩ := List.mem_map.1 hx
    exact hh.arr m (hl m hm)

set_option maxRecDepth 100000 in
set_option maxHeartbeats 3200000 in
theorem rcertain_ok (v lv : Value) (b : List (Int × Int)) (ls : List (List Int)) (w : World) (hv : BookV w w.heap.size v b) (hl : LLi w lv ls) (h16 : checkLines b ls = 0 → (matsOf b ls).length ≤ 16) :
    Calls Try.prog 37 #[v, lv] w fun r w' => ∃ mv, r = .returned (.tuple #[mv, .int .i64 (certainM b ls).2]) ∧ LLi w' mv (certainM b ls).1 ∧ Below w.heap.size w w' := by
  have H16 := Lib.hid h16
  clear h16
  obtain ⟨pa, pc, rfl, hp⟩ := hv.open_
  obtain ⟨la, lc, rfl, -, -⟩ := hl.form
  have hC := BB.new hp
  have hB := (Below.refl w.heap.size w).alloc (Nat.le_refl _) (.cells #[.slice pa b.length pc] 24)
  go_enter Try.func37, Try.ntmps37
  go_upto_region 1 with (fail)
  generalize w.alloc (.cells #[.slice pa b.length pc] 24) = W at *
  have hl0 := (hl.below hB).more hB.size
  clear hp hv hl
  have k0 := hC.c0
  go_wp2_with fail
  refine (rcheckLines_ok _ _ b ls W hC.bv hl0).mono ?_
  rintro e w1 ⟨rfl, hb1⟩
  have hB1 := hB.trans (hb1.mono hB.size)
  have hC1 := hC.call hb1
  have hl1 := hl0.call hb1
  clear hC hB hb1 k0 hl0
  have k0 := hC1.c0
  by_cases he : checkLines b ls = 0
  · have d0 : (checkLines b ls != 0) = false := by simp [he]
    have HE : Hid (certainM b ls = (iLL (certainOf b ls), 0)) := if_neg (by simp [he])
    have H0 := Lib.hid he
    have HG := Lib.hid (good_of he)
    have hn16 := H16.out he
    have f0 := Ext.of k0
    clear he k0
    go_upto_region 3 with (fail)
    refine ways_start 8 (fun w' => ∃ x : Ext w1, w' = x.w) (by rfl) (by kernel_rfl) ?_
    have hx : Below w1.heap.size w1 w1.drew := (Below.refl w1.heap.size w1).drew
    generalize w1.drew = v0 at *
    refine ways_q 0 (by rfl) (by rfl) (by kernel_rfl) (by kernel_rfl) (by kernel_rfl) (by rfl) ⟨⟨v0, hx⟩, rfl⟩ ?_
    intro K hK
    go_big_quiet_op
    go_big_quiet_on
    refine ways_q 1 (by rfl) (by rfl) (by kernel_rfl) (by kernel_rfl) (by kernel_rfl) (by rfl) ⟨⟨v0, hx⟩, rfl⟩ ?_
    intro K hK
    go_big_quiet_op
    go_big_quiet_on
    refine ways_q 3 (by rfl) (by rfl) (by kernel_rfl) (by kernel_rfl) (by kernel_rfl) (by rfl) ⟨⟨v0, hx⟩, rfl⟩ ?_
    intro K hK
    go_big_quiet_op
    go_big_quiet_on
    refine ways_q 4 (by rfl) (by rfl) (by kernel_rfl) (by kernel_rfl) (by kernel_rfl) (by rfl) ⟨⟨v0, hx⟩, rfl⟩ ?_
    intro K hK
    go_big_quiet_op
    go_big_quiet_on
    have hr := rall_ok _ _ b ls v0 (hC1.call hx).bv (hl1.call hx) H0.out
    refine ways_1 2 (by kernel_rfl) ?_
    refine ⟨_, _, (by rfl), (by rfl), ?_⟩
    intro K' hK'
    go_wp2_with fail
    refine hr.mono ?_
    rintro e v1 ⟨lA, lcc, rfl, hll, hb⟩
    replace hx := hx.trans (hb.mono hx.size)
    clear hr hb
    have hr := rallLong_ok _ _ b ls v1 (hC1.call hx).bv (hl1.call hx) H0.out hn16
    go_wp2
    refine hK' _ _ ⟨⟨⟨v1, hx⟩, rfl⟩, ?_⟩
    clear hK' K'
    refine ways_1 5 (by kernel_rfl) ?_
    refine ⟨_, _, (by rfl), (by rfl), ?_⟩
    intro K' hK'
    go_wp2_with fail
    refine hr.mono ?_
    rintro e v2 ⟨A, c, rfl, hal, hb⟩
    replace hx := hx.trans (hb.mono hx.size)
    replace hll := hll.call hb
    clear hr hb
    go_wp2
    refine hK' _ _ ⟨⟨⟨v2, hx⟩, rfl⟩, ?_⟩
    clear hK' K'
    refine ways_q 6 (by rfl) (by rfl) (by kernel_rfl) (by kernel_rfl) (by kernel_rfl) (by rfl) ⟨⟨v2, hx⟩, rfl⟩ ?_
    intro K hK
    go_big_quiet_op
    go_big_quiet_on
    refine ways_q 7 (by rfl) (by rfl) (by kernel_rfl) (by kernel_rfl) (by kernel_rfl) (by rfl) ⟨⟨v2, hx⟩, rfl⟩ ?_
    intro K hK
    go_big_quiet_op
    go_big_quiet_on
    refine ways_end (by kernel_rfl) ?_
    have hB3 := hB1.trans (hx.mono hB1.size)
    obtain ⟨hd, hH⟩ := hd_of hll (levOf HG.out).nd
    clear f0 hx hll hC1 hl1 hB1
    obtain ⟨n, hn⟩ : ∃ n, n = (matsOf b ls).length := ⟨_, rfl⟩
    obtain ⟨cnt, hcnt⟩ : ∃ cnt, cnt = (longOf b ls).length := ⟨_, rfl⟩
    have HNN := Lib.hid hn
    have HCN := Lib.hid hcnt
    have hcnt6 : cnt ≤ 65536 := by
      rw [hcnt]
      exact chO_small HG.out hn16 (mostOf b ls)
    rw [← hn] at hn16 ⊢
    rw [← hcnt] at hal ⊢
    clear hn hcnt
    generalize v2 = w3 at *
    go_wp2
    go_loopw [8, 9] (fun o i wr => ∃ k : Nat, k ≤ n ∧ i = .int .i64 k ∧ Below w3.heap.size w3 wr ∧ wr.ownsRow w3.heap.size 40 1 o (((matsOf b ls).take k).filter (certB b ls)).length ((((matsOf b ls).take k).filter (certB b ls)).map hd)) (fun _ i _ => n - (intOf i).toNat)
    case atStart => exact ⟨0, Nat.zero_le _, rfl, Below.refl _ _, by simpa using World.ownsRow_nil _ _ _ _⟩
    case round =>
      obtain ⟨k, hk, rfl, hb, hown⟩ := hrel
      by_cases hlt : k < n
      · have d1 : decide (k < n) = true := decide_eq_true hlt
        have d1' : decide ((k : Int) < (n : Int)) = true := decide_eq_true (by omega)
        have hki : (k : Int) < (n : Int) := by omega
        have hkm : k < (matsOf b ls).length := by rw [← HNN.out]; exact hlt
        obtain ⟨lb, lo, hlA, hlb, hlc⟩ := hH.at_ k hkm
        subst hlA
        change w3.cell? ⟨lb, lo + k, none⟩ = some (hd (xAt b ls k)) at hlc
        have hxm := xAt_mem hkm
        obtain ⟨x, hx⟩ : ∃ x, x = xAt b ls k := ⟨_, rfl⟩
        have HXK : Hid ((matsOf b ls)[k]? = some x) := by rw [hx]; exact mats_at hkm
        rw [← hx] at hlc hxm
        obtain ⟨xA, xcap, hxe, -⟩ := id (hH.arr _ hxm)
        have hxa := hH.arr _ hxm
        rw [hxe] at hlc hxa
        have HXE := Lib.hid hxe
        have HT : Hid (((matsOf b ls).take (k + 1)).filter (certB b ls) = ((matsOf b ls).take k).filter (certB b ls) ++ if certB b ls x = true then [x] else []) := by
          rw [Hid, take_snoc HXK.out, List.filter_append]
          congr 1
          simp only [List.filter_cons, List.filter_nil]
        have HFL : Hid ((((matsOf b ls).take k).filter (certB b ls)).length ≤ 16) := by
          refine Nat.le_trans (List.length_filter_le _ _) ?_
          rw [List.length_take]
          omega
        clear hx hxe hxm
        obtain ⟨wo, hwo⟩ : ∃ wo : World, wo = wr := ⟨_, rfl⟩
        rw [← hwo] at hb hown ⊢
        clear hwo
        generalize ((matsOf b ls).take k).filter (certB b ls) = Fk at *
        go_wp2
        go_loopw [10, 11] (fun g i wr => ∃ j : Nat, j ≤ cnt ∧ i = .int .i64 j ∧ g = .bool (((longOf b ls).take j).all fun l => decide (x ∈ l)) ∧ Below wo.heap.size wo wr) (fun _ i _ => cnt - (intOf i).toNat)
        case atStart => exact ⟨0, Nat.zero_le _, rfl, rfl, Below.refl _ _⟩
        case round =>
          obtain ⟨j, hj, rfl, rfl, hbj⟩ := hrel
          by_cases hjc : j < cnt
          · have d2 : decide (j < cnt) = true := decide_eq_true hjc
            have d2' : decide ((j : Int) < (cnt : Int)) = true := decide_eq_true (by omega)
            have hji : (j : Int) < (cnt : Int) := by omega
            have hjl : j < (longOf b ls).length := by rw [← HCN.out]; exact hjc
            have hb2 := hb.trans (hbj.mono hb.size)
            obtain ⟨p, hp⟩ : ∃ p, (longOf b ls)[j]? = some p := ⟨_, List.getElem?_eq_getElem hjl⟩
            have HNJ : Hid ((((longOf b ls).take (j + 1)).all fun l => decide (x ∈ l)) = ((((longOf b ls).take j).all fun l => decide (x ∈ l)) && decide (x ∈ p))) := by
              rw [Hid, take_snoc hp, List.all_append]
              simp
            obtain ⟨qb, qo, qA, qc, hA, hqb, hqc, hq⟩ := (hal.call hb2).at_ (i := j) (l := iLL p) (by rw [List.getElem?_map, hp]; rfl)
            subst hA
            have HA : Hid (∀ y : Ext wr, Calls Try.prog 42 #[.slice qA (iLL p).length qc, .slice xA (iL x).length xcap] y.w fun r w' => r = .returned (.bool (decide (x ∈ p))) ∧ ∃ z : Ext wr, w' = z.w) := fun y => by
              have := ext_call y (rhas_ok _ _ (iLL p) (iL x) y.w (hq.call y.h) ((hxa.call hb2).call y.h))
              rw [has_iL] at this
              exact this
            have f0 := Ext.of hqc
            have f1 := Ext.of ((hb2.cell (p := ⟨lb, lo + k, none⟩) hlb).trans hlc)
            clear hp hqc hq
            generalize (((longOf b ls).take j).all fun l => decide (x ∈ l)) = G at *
            go_upto_region 12 with (fail)
            cases G
            · refine wp_region_ext (by kernel_rfl) (by kernel_rfl) ?_
              repeat (go_big_quiet_step (fail))
              refine wpQuiet_nil ?_
              intro _ hw'
              obtain ⟨xr, hw''⟩ := hw'
              subst hw''
              have hb4 := hbj.trans (xr.h.mono hbj.size)
              go_wp2
              go_roundw
              case rel => exact ⟨j + 1, by omega, by go_num, by rw [HNJ.out]; rfl, hb4⟩
              case measure => (simp [intOf]; try omega)
            · obtain ⟨Y, hY⟩ : ∃ Y, Y = decide (x ∈ p) := ⟨_, rfl⟩
              rw [← hY] at HA HNJ
              clear hY
              refine wp_region_ext (by kernel_rfl) (by kernel_rfl) ?_
              repeat (go_big_quiet_step ((go_at_call 42; with_reducible exact HA.out _)))
              refine wpQuiet_nil ?_
              intro _ hw'
              obtain ⟨xr, hw''⟩ := hw'
              subst hw''
              have hb4 := hbj.trans (xr.h.mono hbj.size)
              go_wp2
              go_roundw
              case rel => exact ⟨j + 1, by omega, by go_num, by rw [HNJ.out]; rfl, hb4⟩
              case measure => (simp [intOf]; try omega)
          · obtain rfl : cnt = j := by omega
            have d2 : decide (cnt < cnt) = false := by simp
            have HCB : Hid ((((longOf b ls).take cnt).all fun l => decide (x ∈ l)) = certB b ls x) := by rw [Hid, HCN.out, List.take_length]; rfl
            rw [HCB.out]
            have hb4 := hb.trans (hbj.mono hb.size)
            have hown4 := own_call hown hbj
            have hsz := hb4.size
            clear HCB hown hb hbj
            cases hcb : certB b ls x
            · have HT2 : Hid (((matsOf b ls).take (k + 1)).filter (certB b ls) = Fk) := by rw [Hid, HT.out, hcb]; simp
              clear hcb
              go_wp2
              go_roundw
              case rel => exact ⟨k + 1, by omega, by go_num, hb4, by rw [HT2.out]; exact hown4⟩
              case measure => (simp [intOf]; try omega)
            · have HT2 : Hid (((matsOf b ls).take (k + 1)).filter (certB b ls) = Fk ++ [x]) := by rw [Hid, HT.out, hcb]; simp
              have c0 := (hb4.cell (p := ⟨lb, lo + k, none⟩) hlb).trans hlc
              clear hcb
              go_wp2_with (at_builtin; refine wpList_app2 slT_wm rfl (.tmp 50) (.tmp 55) rfl (sv := u8) rfl hown4 rfl rfl one_sl hsz ?_ ?_ ?_)
              any_goals (have := HFL.out; omega)
              intro v5 w5 hown5 hg5 hat5
              have hb5 := hb4.grown hg5 hb4.size fun g hg => (hown4.lt g hg).1
              have hown6 : w5.ownsRow w3.heap.size 40 1 v5 (((matsOf b ls).take (k + 1)).filter (certB b ls)).length ((((matsOf b ls).take (k + 1)).filter (certB b ls)).map hd) := by
                rw [HT2.out, List.map_append, List.length_append, List.map_singleton, HXE.out]
                simpa using hown5
              clear hown5 hg5 hat5 hown4 hb4 c0
              go_wp2
              go_roundw
              case rel => exact ⟨k + 1, by omega, by go_num, hb5, hown6⟩
              case measure => (simp [intOf]; try omega)
      · obtain rfl : n = k := by omega
        have d1 : decide (n < n) = false := by simp
        have HCF : Hid (((matsOf b ls).take n).filter (certB b ls) = certainOf b ls) := by rw [Hid, HNN.out, List.take_length]; rfl
        rw [HCF.out] at hown
        have hfin := own_lli hown rfl (hH.call hb) (fun m hm => (List.mem_filter.1 hm).1)
        have hb4 := hB3.trans (hb.mono hB3.size)
        obtain ⟨oA, oc, rfl⟩ := own_form hown
        clear hown
        go_wp2
        try rw [Exit.noGoto_ret]
        exact bodyPost_ret (v := .tuple #[.slice oA (certainOf b ls).length oc, .int .i64 0]) (by simp [results, Try.results37, go_sem]) rfl ⟨_, by rw [HE.out], by rw [HE.out]; exact hfin, hb4⟩
  · have HE : Hid (certainM b ls = ([], checkLines b ls)) := if_pos he
    have d0 : (checkLines b ls != 0) = true := by simp [he]
    go_wp2_with fail
    refine (rcheckLines_ok _ _ b ls w1 hC1.bv hl1).mono ?_
    rintro e w2 ⟨rfl, hb2⟩
    have hB2 := hB1.trans (hb2.mono hB1.size)
    clear k0 hC1 hl1 hb2
    go_wp2
    exact bodyPost_ret (v := .tuple #[.slice none 0 0, .int .i64 (checkLines b ls)]) (by simp [results, Try.results37, go_sem]) rfl ⟨_, by rw [HE.out], by rw [HE.out]; exact LLB.nil_, hB2⟩
end Go.Proofs.Ytgngpdnppdbgoaa

namespace Go.Proofs.Ytgngpdnppdbgoaa
open Go.RowKit Go.Shelf
set_option linter.unusedVariables false

def grAt (b : List (Int × Int)) (ls : List (List Int)) (h i : Nat) : Int := gradeN ((longOf b ls).countP (hearsB h i)) (longOf b ls).length
def grTo (b : List (Int × Int)) (ls : List (List Int)) (h k : Nat) : List Int := (List.range k).map (grAt b ls h)
theorem grTo_succ (b : List (Int × Int)) (ls : List (List Int)) (h k : Nat) : grTo b ls h (k + 1) = grTo b ls h k ++ [grAt b ls h k] := by
  unfold grTo
  rw [List.range_succ, List.map_append]
  rfl
theorem grTo_len (b : List (Int × Int)) (ls : List (List Int)) (h k : Nat) : (grTo b ls h k).length = k := by simp [grTo]

set_option maxRecDepth 100000 in
set_option maxHeartbeats 3200000 in
theorem rgrades_ok (v lv : Value) (b : List (Int × Int)) (ls : List (List Int)) (h : Int) (w : World) (hv : BookV w w.heap.size v b) (hl : LLi w lv ls) (h16 : checkLines b ls = 0 → (matsOf b ls).length ≤ 16) :
    Calls Try.prog 39 #[v, lv, .int .i64 h] w fun r w' => ∃ mv, r = .returned (.tuple #[mv, .int .i64 (gradesM b ls h).2]) ∧ Arr w' w'.heap.size 1 mv (gradesM b ls h).1 icell ∧ Below w.heap.size w w' := by
  have H16 := Lib.hid h16
  clear h16
  obtain ⟨pa, pc, rfl, hp⟩ := hv.open_
  obtain ⟨la, lc, rfl, -, -⟩ := hl.form
  have hC := BB.new hp
  have hB := (Below.refl w.heap.size w).alloc (Nat.le_refl _) (.cells #[.slice pa b.length pc] 24)
  go_enter Try.func39, Try.ntmps39
  go_upto_region 1 with (fail)
  generalize w.alloc (.cells #[.slice pa b.length pc] 24) = W at *
  have hl0 := (hl.below hB).more hB.size
  clear hp hv hl
  have k0 := hC.c0
  go_wp2_with fail
  refine (rcheckLines_ok _ _ b ls W hC.bv hl0).mono ?_
  rintro e w1 ⟨rfl, hb1⟩
  have hB1 := hB.trans (hb1.mono hB.size)
  have hC1 := hC.call hb1
  have hl1 := hl0.call hb1
  clear hC hB hb1 k0 hl0
  have k0 := hC1.c0
  by_cases he : checkLines b ls = 0
  · have d0 : (checkLines b ls != 0) = false := by simp [he]
    have HE : Hid (gradesM b ls h = if h < 0 ∨ (ls.length : Int) ≤ h then ([], 3) else (gradesOf b ls h.toNat, 0)) := if_neg (by simp [he])
    have HG := Lib.hid (good_of he)
    by_cases hr : h < 0 ∨ (ls.length : Int) ≤ h
    · have HR : Hid (gradesM b ls h = ([], 3)) := by rw [Hid, HE.out, if_pos hr]
      clear HE he
      by_cases h1 : h < 0
      · have d1 : decide (h < 0) = true := decide_eq_true h1
        clear hr h1
        go_wp2
        exact bodyPost_ret (v := .tuple #[.slice none 0 0, .int .i64 3]) (by simp [results, Try.results39, go_sem]) rfl ⟨_, by rw [HR.out], by rw [HR.out]; exact Arr.nil_, hB1⟩
      · have d1 : decide (h < 0) = false := decide_eq_false h1
        have h2 : (ls.length : Int) ≤ h := hr.resolve_left h1
        have d2 : decide ((ls.length : Int) ≤ h) = true := decide_eq_true h2
        clear hr h1 h2
        go_wp2
        exact bodyPost_ret (v := .tuple #[.slice none 0 0, .int .i64 3]) (by simp [results, Try.results39, go_sem]) rfl ⟨_, by rw [HR.out], by rw [HR.out]; exact Arr.nil_, hB1⟩
    · obtain ⟨hh, rfl⟩ : ∃ hh : Nat, h = (hh : Int) := ⟨h.toNat, by omega⟩
      have HR : Hid (gradesM b ls (hh : Int) = (gradesOf b ls hh, 0)) := by rw [Hid, HE.out, if_neg hr, Int.toNat_natCast]
      have d1 : decide ((hh : Int) < 0) = false := decide_eq_false (by omega)
      have d2 : decide ((ls.length : Int) ≤ (hh : Int)) = false := decide_eq_false (by omega)
      have d2' : decide (ls.length ≤ hh) = false := decide_eq_false (by omega)
      have hhl : hh < ls.length := by omega
      have hhi : (hh : Int) < (ls.length : Int) := by omega
      have hal := rallLong_ok _ _ b ls w1 hC1.bv hl1 he (H16.out he)
      have hn16 := H16.out he
      obtain ⟨cnt, hcnt⟩ : ∃ cnt, cnt = (longOf b ls).length := ⟨_, rfl⟩
      have HCN := Lib.hid hcnt
      have hcnt6 : cnt ≤ 65536 := by
        rw [hcnt]
        exact chO_small HG.out hn16 (mostOf b ls)
      obtain ⟨lb, lo, lA, lcc, rfl, hlb, hlc, -⟩ := hl1.at_ (getD_some [] hhl)
      obtain ⟨T, hT⟩ : ∃ T, T = (ls.getD hh []).length := ⟨_, rfl⟩
      have HTT := Lib.hid hT
      have hT8 : T ≤ 8 := by rw [hT]; exact HG.out.eight _ (getD_in hhl)
      rw [← hT] at hlc
      rw [← hcnt] at hal
      clear HE he hr hT hcnt hn16
      go_wp2_with fail
      refine hal.mono ?_
      rintro e w3 ⟨A, c, rfl, hll, hb2⟩
      have hB3 := hB1.trans (hb2.mono hB1.size)
      have hlc3 := (hb2.cell (p := ⟨lb, lo + hh, none⟩) hlb).trans hlc
      have hlb3 := Nat.lt_of_lt_of_le hlb hb2.size
      clear hal hb2 k0 hC1 hl1 hB1 hlc hlb d1 d2 d2'
      go_wp2
      go_loopw [9, 10] (fun o i wr => ∃ k : Nat, k ≤ T ∧ i = .int .i64 k ∧ Below w3.heap.size w3 wr ∧ wr.ownsRow w3.heap.size 3 1 o k ((grTo b ls hh k).map (Value.int .i64))) (fun _ i _ => T - (intOf i).toNat)
      case atStart => exact ⟨0, Nat.zero_le _, rfl, Below.refl _ _, by simpa [grTo] using World.ownsRow_nil _ _ _ _⟩
      case round =>
        obtain ⟨k, hk, rfl, hb, hown⟩ := hrel
        have c0 := (hb.cell (p := ⟨lb, lo + hh, none⟩) hlb3).trans hlc3
        by_cases hlt : k < T
        · have d1 : decide (k < T) = true := decide_eq_true hlt
          have d1' : decide ((k : Int) < (T : Int)) = true := decide_eq_true (by omega)
          have hki : (k : Int) < (T : Int) := by omega
          have HGS := Lib.hid (grTo_succ b ls hh k)
          obtain ⟨wo, hwo⟩ : ∃ wo : World, wo = wr := ⟨_, rfl⟩
          rw [← hwo] at hb hown c0 ⊢
          clear hwo
          go_wp2
          clear c0
          go_loopw [11, 12] (fun m i wr => ∃ j : Nat, j ≤ cnt ∧ i = .int .i64 j ∧ m = .int .i64 ((((longOf b ls).take j).countP (hearsB hh k) : Nat) : Int) ∧ Below wo.heap.size wo wr) (fun _ i _ => cnt - (intOf i).toNat)
          case atStart => exact ⟨0, Nat.zero_le _, rfl, rfl, Below.refl _ _⟩
          case round =>
            obtain ⟨j, hj, rfl, rfl, hbj⟩ := hrel
            by_cases hjc : j < cnt
            · have d2 : decide (j < cnt) = true := decide_eq_true hjc
              have d2' : decide ((j : Int) < (cnt : Int)) = true := decide_eq_true (by omega)
              have hji : (j : Int) < (cnt : Int) := by omega
              have hb2 := hb.trans (hbj.mono hb.size)
              obtain ⟨p, hp⟩ : ∃ p, (longOf b ls)[j]? = some p := ⟨_, List.getElem?_eq_getElem (by rw [← HCN.out]; exact hjc)⟩
              have hpm := (long_iff.1 (List.mem_of_getElem? hp)).2.mem
              have HNJ : Hid (((longOf b ls).take (j + 1)).countP (hearsB hh k) = ((longOf b ls).take j).countP (hearsB hh k) + if hearsB hh k p = true then 1 else 0) := by
                rw [Hid, take_snoc hp, List.countP_append]
                congr 1
                rw [List.countP_cons, List.countP_nil, Nat.zero_add]
              have HCJ : Hid (((longOf b ls).take j).countP (hearsB hh k) ≤ 65536) := by
                refine Nat.le_trans (List.countP_le_length ..) ?_
                rw [List.length_take]
                omega
              obtain ⟨qb, qo, qA, qc, hA, hqb, hqc, hq⟩ := (hll.call hb2).at_ (i := j) (l := iLL p) (by rw [List.getElem?_map, hp]; rfl)
              subst hA
              have hH := rhears_ok _ p hh k wr hq (fun m hm => by rw [matches_len (hpm m hm)]; exact hhl)
              obtain ⟨N, hN⟩ : ∃ N, N = ((longOf b ls).take j).countP (hearsB hh k) := ⟨_, rfl⟩
              rw [← hN] at HNJ HCJ ⊢
              have hN6 := HCJ.out
              have eN : IntKind.i64.wrap ((N : Int) + 1) = (N : Int) + 1 := wrap_id _ (by omega) (by omega)
              clear hp hq hpm hN
              cases hhb : hearsB hh k p
              · rw [hhb] at hH
                have HN2 : Hid (((longOf b ls).take (j + 1)).countP (hearsB hh k) = N) := by rw [Hid, HNJ.out, hhb]; rfl
                clear hhb
                go_wp2_with fail
                refine hH.mono ?_
                rintro e w4 ⟨rfl, hb4⟩
                have hb5 := hbj.trans (hb4.mono hbj.size)
                clear hH hqc
                go_wp2
                go_roundw
                case rel => exact ⟨j + 1, by omega, by go_num, by rw [HN2.out], hb5⟩
                case measure => (simp [intOf]; try omega)
              · rw [hhb] at hH
                have HN2 : Hid (((longOf b ls).take (j + 1)).countP (hearsB hh k) = N + 1) := by rw [Hid, HNJ.out, hhb]; rfl
                clear hhb
                go_wp2_with fail
                refine hH.mono ?_
                rintro e w4 ⟨rfl, hb4⟩
                have hb5 := hbj.trans (hb4.mono hbj.size)
                clear hH hqc
                go_wp2
                go_roundw
                case rel => exact ⟨j + 1, by omega, by go_num, by rw [HN2.out]; go_num, hb5⟩
                case measure => (simp [intOf]; try omega)
            · obtain rfl : cnt = j := by omega
              have d2 : decide (cnt < cnt) = false := by simp
              have HCF : Hid (((longOf b ls).take cnt).countP (hearsB hh k) = (longOf b ls).countP (hearsB hh k)) := by rw [Hid, HCN.out, List.take_length]
              have HGR : Hid (grAt b ls hh k = gradeN ((longOf b ls).countP (hearsB hh k)) cnt) := by rw [Hid, HCN.out]; rfl
              have hNle : (longOf b ls).countP (hearsB hh k) ≤ cnt := by rw [HCN.out]; exact List.countP_le_length ..
              rw [HCF.out]
              obtain ⟨N, hN⟩ : ∃ N, N = (longOf b ls).countP (hearsB hh k) := ⟨_, rfl⟩
              rw [← hN] at HGR hNle ⊢
              have hb4 := hb.trans (hbj.mono hb.size)
              have hown4 := own_call hown hbj
              have hsz := hb4.size
              clear HCF hN hown hb hbj
              by_cases hN0 : N = 0
              · have d3 : ((N : Int) == 0) = true := by rw [beq_iff_eq]; omega
                have HG2 : Hid (grAt b ls hh k = 0) := by rw [Hid, HGR.out, gradeN, if_pos hN0]
                clear hN0
                go_wp2_with (at_builtin; refine wpList_app2 slT_i rfl (.tmp 57) (.tmp 58) rfl (sv := u9) rfl hown4 rfl rfl (one_i _) hsz ?_ ?_ ?_)
                any_goals omega
                intro v5 w5 hown5 hg5 hat5
                have hb5 := hb4.grown hg5 hb4.size fun g hg => (hown4.lt g hg).1
                have hown6 : w5.ownsRow w3.heap.size 3 1 v5 (k + 1) ((grTo b ls hh (k + 1)).map (Value.int .i64)) := by rw [HGS.out, HG2.out, List.map_append]; simpa using hown5
                clear hown5 hg5 hat5 hown4 hb4
                go_wp2
                go_roundw
                case rel => exact ⟨k + 1, by omega, by go_num, hb5, hown6⟩
                case measure => (simp [intOf]; try omega)
              · have d3 : ((N : Int) == 0) = false := beq_false_of_ne (by omega)
                by_cases hNc : N < cnt
                · have d4 : decide ((N : Int) < (cnt : Int)) = true := decide_eq_true (by omega)
                  have d4' : decide (N < cnt) = true := decide_eq_true hNc
                  have HG2 : Hid (grAt b ls hh k = 1) := by rw [Hid, HGR.out, gradeN, if_neg hN0, if_pos hNc]
                  clear hN0 hNc
                  go_wp2_with (at_builtin; refine wpList_app2 slT_i rfl (.tmp 64) (.tmp 65) rfl (sv := u9) rfl hown4 rfl rfl (one_i _) hsz ?_ ?_ ?_)
                  any_goals omega
                  intro v5 w5 hown5 hg5 hat5
                  have hb5 := hb4.grown hg5 hb4.size fun g hg => (hown4.lt g hg).1
                  have hown6 : w5.ownsRow w3.heap.size 3 1 v5 (k + 1) ((grTo b ls hh (k + 1)).map (Value.int .i64)) := by rw [HGS.out, HG2.out, List.map_append]; simpa using hown5
                  clear hown5 hg5 hat5 hown4 hb4
                  go_wp2
                  go_roundw
                  case rel => exact ⟨k + 1, by omega, by go_num, hb5, hown6⟩
                  case measure => (simp [intOf]; try omega)
                · have d4 : decide ((N : Int) < (cnt : Int)) = false := decide_eq_false (by omega)
                  have d4' : decide (N < cnt) = false := decide_eq_false hNc
                  have HG2 : Hid (grAt b ls hh k = 2) := by rw [Hid, HGR.out, gradeN, if_neg hN0, if_neg hNc]
                  clear hN0 hNc
                  go_wp2_with (at_builtin; refine wpList_app2 slT_i rfl (.tmp 67) (.tmp 68) rfl (sv := u9) rfl hown4 rfl rfl (one_i _) hsz ?_ ?_ ?_)
                  any_goals omega
                  intro v5 w5 hown5 hg5 hat5
                  have hb5 := hb4.grown hg5 hb4.size fun g hg => (hown4.lt g hg).1
                  have hown6 : w5.ownsRow w3.heap.size 3 1 v5 (k + 1) ((grTo b ls hh (k + 1)).map (Value.int .i64)) := by rw [HGS.out, HG2.out, List.map_append]; simpa using hown5
                  clear hown5 hg5 hat5 hown4 hb4
                  go_wp2
                  go_roundw
                  case rel => exact ⟨k + 1, by omega, by go_num, hb5, hown6⟩
                  case measure => (simp [intOf]; try omega)
        · obtain rfl : T = k := by omega
          have d1 : decide (T < T) = false := by simp
          have HGF : Hid (grTo b ls hh T = gradesOf b ls hh) := by rw [Hid, HTT.out]; rfl
          have HGT := Lib.hid (grTo_len b ls hh T)
          obtain ⟨oA, oc, rfl⟩ := own_form hown
          have harr : Arr wr wr.heap.size 1 (.slice oA T oc) (gradesOf b ls hh) icell := by
            rw [← HGF.out]
            have hown2 : wr.ownsRow w3.heap.size 3 1 (.slice oA T oc) (grTo b ls hh T).length ((grTo b ls hh T).flatMap (cellsOf 1 icell)) := by rw [HGT.out, flat_i]; exact hown
            exact Arr.of_own hown2
          have hb4 := hB3.trans (hb.mono hB3.size)
          clear hown
          go_wp2
          try rw [Exit.noGoto_ret]
          exact bodyPost_ret (v := .tuple #[.slice oA T oc, .int .i64 0]) (by simp [results, Try.results39, go_sem]) rfl ⟨_, by rw [HR.out], by rw [HR.out]; exact harr, hb4⟩
  · have HE : Hid (gradesM b ls h = ([], checkLines b ls)) := if_pos he
    have d0 : (checkLines b ls != 0) = true := by simp [he]
    go_wp2_with fail
    refine (rcheckLines_ok _ _ b ls w1 hC1.bv hl1).mono ?_
    rintro e w2 ⟨rfl, hb2⟩
    have hB2 := hB1.trans (hb2.mono hB1.size)
    clear k0 hC1 hl1 hb2
    go_wp2
    exact bodyPost_ret (v := .tuple #[.slice none 0 0, .int .i64 (checkLines b ls)]) (by simp [results, Try.results39, go_sem]) rfl ⟨_, by rw [HE.out], by rw [HE.out]; exact Arr.nil_, hB2⟩
end Go.Proofs.Ytgngpdnppdbgoaa
