/- The laws' small functions: ints, matches, great, dense, fine, long. Contract of the laws' Climb. -/
import Derived.Test.YtgngpdnppdbgoaaRfL
import Derived.Test.YtgngpdnppdbgoaaChl
namespace Go.Proofs.Ytgngpdnppdbgoaa
open Go.RowKit Go.Shelf
set_option linter.unusedVariables false

set_option maxRecDepth 100000 in
set_option maxHeartbeats 1600000 in
theorem lints_ok (av bv : Value) (a b : List Int) (w : World) (ha : Arr w w.heap.size 1 av a icell) (hb : Arr w w.heap.size 1 bv b icell) :
    Calls Try.prog 31 #[av, bv] w fun r w' => r = .returned (.bool (decide (a = b))) ∧ Below w.heap.size w w' := by
  obtain ⟨aa, ac, rfl, ha1, ha2, -⟩ := id ha
  obtain ⟨ba, bc, rfl, -, -, -⟩ := id hb
  go_enter Try.func31, Try.ntmps31
  by_cases hl : a.length = b.length
  · have d1 : ((a.length : Int) != (b.length : Int)) = false := by simp; omega
    have HLN := Lib.hid hl
    clear hl
    go_wp2
    go_loopw [5] (fun i wr => ∃ n : Nat, n ≤ a.length ∧ i = .int .i64 n ∧ Hid (decide (a = b) = decide (a.drop n = b.drop n)) ∧ Below w.heap.size w wr) (fun i _ => a.length - (intOf i).toNat)
    case atStart => exact ⟨0, Nat.zero_le _, rfl, rfl, Below.refl _ _⟩
    case round =>
      obtain ⟨n, hn, rfl, hd, hbx⟩ := hrel
      by_cases hn1 : n < a.length
      · have d3 : decide (n < a.length) = true := by simpa using hn1
        have d3' : decide ((n : Int) < (a.length : Int)) = true := by simp; omega
        have hnb : n < b.length := by rw [← HLN.out]; exact hn1
        obtain ⟨xb, xo, x, hxa, hxb, hx1, hx2⟩ := row_cell2 (ha.call hbx) hn1
        obtain ⟨yb, yo, y, hya, hyb, hy1, hy2⟩ := row_cell2 (hb.call hbx) hnb
        subst hxa
        subst hya
        have f0 := Ext.of hx2
        have f1 := Ext.of hy2
        have hnb' : (n : Int) < (b.length : Int) := by omega
        have hna' : (n : Int) < (a.length : Int) := by omega
        have HD : Hid (decide (a = b) = decide (x :: a.drop (n + 1) = y :: b.drop (n + 1))) := by rw [Hid, hd.out, drop_cons hx1, drop_cons hy1]
        clear hd hx1 hy1 hx2 hy2
        go_upto_region 6 with (fail)
        by_cases hz : x = y
        · have d4 : ((x : Int) != y) = false := by simp [hz]
          have HE : Hid (decide (a = b) = decide (a.drop (n + 1) = b.drop (n + 1))) := by rw [Hid, HD.out, hz]; simp
          clear hz HD
          refine wp_region_ext (by kernel_rfl) (by kernel_rfl) ?_
          repeat (go_big_quiet_step (fail))
          refine wpQuiet_nil ?_
          intro _ hw'
          obtain ⟨xr, hw''⟩ := hw'
          subst hw''
          have hbz := hbx.trans (xr.h.mono hbx.size)
          go_wp2
          go_roundw
          case rel => exact ⟨n + 1, by omega, by go_num, HE, hbz⟩
          case measure => (simp [intOf]; try omega)
        · have d4 : ((x : Int) != y) = true := by simp [hz]
          have HE : Hid (decide (a = b) = false) := by
            rw [Hid, HD.out, decide_eq_false_iff_not]
            intro h
            injection h with h _
            exact hz h
          clear hz HD
          refine wp_region_ext (by kernel_rfl) (by kernel_rfl) ?_
          repeat (go_big_quiet_step (fail))
          refine wpQuiet_nil ?_
          intro _ hw'
          obtain ⟨xr, hw''⟩ := hw'
          subst hw''
          have hbz := hbx.trans (xr.h.mono hbx.size)
          go_wp2
          go_ret
          exact ⟨by rw [HE.out]; rfl, hbz⟩
      · obtain rfl : n = a.length := by omega
        have d3 : decide (a.length < a.length) = false := by simp
        have HE : Hid (decide (a = b) = true) := by
          have h1 := HLN.out
          rw [Hid, hd.out, List.drop_length, h1, List.drop_length]; simp
        clear hd
        go_wp2
        go_ret
        exact ⟨by rw [HE.out]; rfl, hbx⟩
  · have d1 : ((a.length : Int) != (b.length : Int)) = true := by simp; omega
    have HE : Hid (decide (a = b) = false) := by simp [Hid]; intro h; exact hl (by rw [h])
    clear hl
    go_wp2
    go_ret
    exact ⟨by rw [HE.out]; rfl, Below.refl _ _⟩

set_option maxRecDepth 100000 in
set_option maxHeartbeats 1600000 in
theorem lmatches_ok (av bv : Value) (a b : List (List Int)) (w : World) (ha : LLi w av a) (hb : LLi w bv b) :
    Calls Try.prog 23 #[av, bv] w fun r w' => r = .returned (.bool (decide (a = b))) ∧ Below w.heap.size w w' := by
  obtain ⟨aa, ac, rfl, ha1, ha2⟩ := ha.form
  obtain ⟨ba, bc, rfl, -, -⟩ := hb.form
  go_enter Try.func23, Try.ntmps23
  by_cases hl : a.length = b.length
  · have d1 : ((a.length : Int) != (b.length : Int)) = false := by simp; omega
    have HLN := Lib.hid hl
    clear hl
    go_wp2
    go_loopw [5] (fun i wr => ∃ n : Nat, n ≤ a.length ∧ i = .int .i64 n ∧ Hid (decide (a = b) = decide (a.drop n = b.drop n)) ∧ Below w.heap.size w wr) (fun i _ => a.length - (intOf i).toNat)
    case atStart => exact ⟨0, Nat.zero_le _, rfl, rfl, Below.refl _ _⟩
    case round =>
      obtain ⟨n, hn, rfl, hd, hbx⟩ := hrel
      by_cases hn1 : n < a.length
      · have d3 : decide (n < a.length) = true := by simpa using hn1
        have d3' : decide ((n : Int) < (a.length : Int)) = true := by simp; omega
        have hnb : n < b.length := by rw [← HLN.out]; exact hn1
        obtain ⟨xb, xo, xA, xc, hxa, hxb, hx2, hxx⟩ := (ha.call hbx).at_ (getD_some [] hn1)
        obtain ⟨yb, yo, yA, yc, hya, hyb, hy2, hyy⟩ := (hb.call hbx).at_ (getD_some [] hnb)
        subst hxa
        subst hya
        have hx1 := getD_some [] hn1
        have hy1 := getD_some [] hnb
        obtain ⟨x, hx⟩ : ∃ x, x = a.getD n [] := ⟨_, rfl⟩
        obtain ⟨y, hy⟩ : ∃ y, y = b.getD n [] := ⟨_, rfl⟩
        rw [← hx] at hx1 hx2 hxx
        rw [← hy] at hy1 hy2 hyy
        have f0 := Ext.of hx2
        have f1 := Ext.of hy2
        have hnb' : (n : Int) < (b.length : Int) := by omega
        have hna' : (n : Int) < (a.length : Int) := by omega
        have HD : Hid (decide (a = b) = decide (x :: a.drop (n + 1) = y :: b.drop (n + 1))) := by rw [Hid, hd.out, drop_cons hx1, drop_cons hy1]
        have HA : Hid (∀ z : Ext wr, Calls Try.prog 58 #[.slice xA x.length xc, .slice yA y.length yc] z.w fun r w' => r = .returned (.bool (decide (x = y))) ∧ ∃ q : Ext wr, w' = q.w) := fun z => ext_call z (rsame_ok _ _ x y z.w (hxx.call z.h) (hyy.call z.h))
        clear hd hx1 hy1 hx2 hy2 hxx hyy hx hy
        go_upto_region 6 with (fail)
        by_cases hz : x = y
        · have HE : Hid (decide (a = b) = decide (a.drop (n + 1) = b.drop (n + 1))) := by rw [Hid, HD.out, hz]; simp
          have hzd : decide (x = y) = true := by simpa using hz
          rw [hzd] at HA
          clear hz HD hzd
          refine wp_region_ext (by kernel_rfl) (by kernel_rfl) ?_
          repeat (go_big_quiet_step ((go_at_call 58; with_reducible exact HA.out _)))
          refine wpQuiet_nil ?_
          intro _ hw'
          obtain ⟨xr, hw''⟩ := hw'
          subst hw''
          have hbz := hbx.trans (xr.h.mono hbx.size)
          go_wp2
          go_roundw
          case rel => exact ⟨n + 1, by omega, by go_num, HE, hbz⟩
          case measure => (simp [intOf]; try omega)
        · have HE : Hid (decide (a = b) = false) := by
            rw [Hid, HD.out, decide_eq_false_iff_not]
            intro h
            injection h with h _
            exact hz h
          have hzd : decide (x = y) = false := by simpa using hz
          rw [hzd] at HA
          clear hz HD hzd
          refine wp_region_ext (by kernel_rfl) (by kernel_rfl) ?_
          repeat (go_big_quiet_step ((go_at_call 58; with_reducible exact HA.out _)))
          refine wpQuiet_nil ?_
          intro _ hw'
          obtain ⟨xr, hw''⟩ := hw'
          subst hw''
          have hbz := hbx.trans (xr.h.mono hbx.size)
          go_wp2
          go_ret
          exact ⟨by rw [HE.out]; rfl, hbz⟩
      · obtain rfl : n = a.length := by omega
        have d3 : decide (a.length < a.length) = false := by simp
        have HE : Hid (decide (a = b) = true) := by
          have h1 := HLN.out
          rw [Hid, hd.out, List.drop_length, h1, List.drop_length]; simp
        clear hd
        go_wp2
        go_ret
        exact ⟨by rw [HE.out]; rfl, hbx⟩
  · have d1 : ((a.length : Int) != (b.length : Int)) = true := by simp; omega
    have HE : Hid (decide (a = b) = false) := by simp [Hid]; intro h; exact hl (by rw [h])
    clear hl
    go_wp2
    go_ret
    exact ⟨by rw [HE.out]; rfl, Below.refl _ _⟩

/-! ### great, dense, fine -/
def greatB (b : List (Int × Int)) (ls : List (List Int)) : Bool := decide (50 < b.length) || decide (8 < ls.length) || ls.any fun l => decide (12 < l.length)
theorem great_no {b : List (Int × Int)} {ls : List (List Int)} (h : checkLines b ls = 0) : greatB b ls = false := by
  have hg := good_of h
  have h1 := (book_len hg.book).1
  have h4 := hg.four
  unfold greatB
  rw [decide_eq_false (by omega), decide_eq_false (by omega), Bool.false_or, Bool.false_or, List.any_eq_false]
  intro l hl
  have := hg.eight l hl
  simp
  omega
def denseB (b : List (Int × Int)) (ls : List (List Int)) (m : Nat) : Bool := decide (checkLines b ls = 0) && decide (m < (matsOf b ls).length)
def fineB (b : List (Int × Int)) (ls : List (List Int)) : Bool := decide (checkLines b ls = 0) && decide ((matsOf b ls).length ≤ 1000)
theorem fineB_iff {b : List (Int × Int)} {ls : List (List Int)} : fineB b ls = true ↔ checkLines b ls = 0 ∧ (matsOf b ls).length ≤ 1000 := by
  unfold fineB
  rw [Bool.and_eq_true, decide_eq_true_eq, decide_eq_true_eq]

set_option maxRecDepth 100000 in
set_option maxHeartbeats 1600000 in
theorem lgreat_ok (v lv : Value) (b : List (Int × Int)) (ls : List (List Int)) (w : World) (hv : BookV w w.heap.size v b) (hl : LLi w lv ls) :
    Calls Try.prog 13 #[v, lv] w fun r w' => r = .returned (.bool (greatB b ls)) ∧ Below w.heap.size w w' := by
  obtain ⟨pa, pc, rfl, hp⟩ := hv.open_
  obtain ⟨la, lc, rfl, hlc1, hlc2⟩ := hl.form
  have hC := BB.new hp
  have hB := (Below.refl w.heap.size w).alloc (Nat.le_refl _) (.cells #[.slice pa b.length pc] 24)
  go_enter Try.func13, Try.ntmps13
  go_upto_region 1 with (fail)
  generalize w.alloc (.cells #[.slice pa b.length pc] 24) = W at *
  have hl0 := (hl.below hB).more hB.size
  have k0 := hC.c0
  clear hp hv hl
  by_cases h50 : 50 < b.length
  · have d1 : decide ((50 : Int) < (b.length : Int)) = true := decide_eq_true (by omega)
    have d1' : decide (50 < b.length) = true := decide_eq_true h50
    have HR : Hid (greatB b ls = true) := by unfold greatB; rw [Hid, d1']; rfl
    clear h50
    go_wp2
    go_ret
    exact ⟨by rw [HR.out]; rfl, hB⟩
  · have d1 : decide ((50 : Int) < (b.length : Int)) = false := decide_eq_false (by omega)
    have d1' : decide (50 < b.length) = false := decide_eq_false h50
    by_cases h8 : 8 < ls.length
    · have d2 : decide ((8 : Int) < (ls.length : Int)) = true := decide_eq_true (by omega)
      have d2' : decide (8 < ls.length) = true := decide_eq_true h8
      have HR : Hid (greatB b ls = true) := by unfold greatB; rw [Hid, d1', d2']; rfl
      clear h50 h8
      go_wp2
      go_ret
      exact ⟨by rw [HR.out]; rfl, hB⟩
    · have d2 : decide ((8 : Int) < (ls.length : Int)) = false := decide_eq_false (by omega)
      have d2' : decide (8 < ls.length) = false := decide_eq_false h8
      have HR : Hid (greatB b ls = ls.any fun l => decide (12 < l.length)) := by unfold greatB; rw [Hid, d1', d2']; rfl
      clear h50 h8
      go_wp2
      go_loopw [5] (fun i wr => ∃ n : Nat, n ≤ ls.length ∧ i = .int .i64 n ∧ Hid (∀ l ∈ ls.take n, l.length ≤ 12) ∧ Below W.heap.size W wr) (fun i _ => ls.length - (intOf i).toNat)
      case atStart => exact ⟨0, Nat.zero_le _, rfl, (fun l hl => by simp at hl), Below.refl _ _⟩
      case round =>
        obtain ⟨n, hn, rfl, hok, hb⟩ := hrel
        by_cases hn1 : n < ls.length
        · have d3 : decide (n < ls.length) = true := by simpa using hn1
          have d3' : decide ((n : Int) < (ls.length : Int)) = true := by simp; omega
          have hni : (n : Int) < (ls.length : Int) := by omega
          obtain ⟨xb, xo, xA, xc, hxa, hxb, hx2, -⟩ := (hl0.call hb).at_ (getD_some [] hn1)
          subst hxa
          have hx1 := getD_some [] hn1
          obtain ⟨x, hx⟩ : ∃ x, x = ls.getD n [] := ⟨_, rfl⟩
          rw [← hx] at hx1 hx2
          have HX := Lib.hid hx1
          clear hx hx1
          by_cases h12 : 12 < x.length
          · have d4 : decide ((12 : Int) < (x.length : Int)) = true := decide_eq_true (by omega)
            have d4' : decide (12 < x.length) = true := decide_eq_true h12
            have HR2 : Hid (greatB b ls = true) := by rw [Hid, HR.out, List.any_eq_true]; exact ⟨x, List.mem_of_getElem? HX.out, d4'⟩
            have hb2 := hB.trans (hb.mono hB.size)
            clear h12
            go_wp2
            go_ret
            exact ⟨by rw [HR2.out]; rfl, hb2⟩
          · have d4 : decide ((12 : Int) < (x.length : Int)) = false := decide_eq_false (by omega)
            have d4' : decide (12 < x.length) = false := decide_eq_false h12
            have HOK : Hid (∀ l ∈ ls.take (n + 1), l.length ≤ 12) := fun l hl => by
              rw [take_snoc HX.out, List.mem_append, List.mem_singleton] at hl
              rcases hl with hl | rfl
              · exact hok.out l hl
              · omega
            clear h12 hok
            go_wp2
            go_roundw
            case rel => exact ⟨n + 1, by omega, by go_num, HOK, hb⟩
            case measure => (simp [intOf]; try omega)
        · obtain rfl : n = ls.length := by omega
          have d3 : decide (ls.length < ls.length) = false := by simp
          rw [List.take_length] at hok
          have HR2 : Hid (greatB b ls = false) := by
            rw [Hid, HR.out, List.any_eq_false]
            intro l hl
            have := hok.out l hl
            simp
            omega
          have hb2 := hB.trans (hb.mono hB.size)
          clear hok
          go_wp2
          go_ret
          exact ⟨by rw [HR2.out]; rfl, hb2⟩

set_option maxRecDepth 100000 in
set_option maxHeartbeats 1600000 in
theorem ldense_ok (v lv : Value) (b : List (Int × Int)) (ls : List (List Int)) (m : Nat) (w : World) (hv : BookV w w.heap.size v b) (hl : LLi w lv ls) :
    Calls Try.prog 24 #[v, lv, .int .i64 (m : Int)] w fun r w' => r = .returned (.bool (denseB b ls m)) ∧ Below w.heap.size w w' := by
  obtain ⟨pa, pc, rfl, hp⟩ := hv.open_
  obtain ⟨la, lc, rfl, hlc1, hlc2⟩ := hl.form
  have hC := BB.new hp
  have hB := (Below.refl w.heap.size w).alloc (Nat.le_refl _) (.cells #[.slice pa b.length pc] 24)
  go_enter Try.func24, Try.ntmps24
  go_upto_region 1 with (fail)
  generalize w.alloc (.cells #[.slice pa b.length pc] 24) = W at *
  have hl0 := (hl.below hB).more hB.size
  have k0 := hC.c0
  clear hp hv hl
  have hgr := lgreat_ok _ _ b ls W hC.bv hl0
  cases hg : greatB b ls
  · rw [hg] at hgr
    clear hg
    go_wp2_with fail
    refine hgr.mono ?_
    rintro e w1 ⟨rfl, hb1⟩
    have hB1 := hB.trans (hb1.mono hB.size)
    have hC1 := hC.call hb1
    have hl1 := hl0.call hb1
    clear hgr hC hl0 hB hb1 k0
    have k0 := hC1.c0
    have hck := rcheckLines_ok _ _ b ls w1 hC1.bv hl1
    by_cases he : checkLines b ls = 0
    · rw [he] at hck
      have HE := Lib.hid he
      clear he
      go_wp2_with fail
      refine hck.mono ?_
      rintro e w2 ⟨rfl, hb2⟩
      have hB2 := hB1.trans (hb2.mono hB1.size)
      have hC2 := hC1.call hb2
      have hl2 := hl1.call hb2
      clear hck hC1 hl1 hB1 hb2 k0
      have k0 := hC2.c0
      have hmn := rmany_ok _ _ b ls w2 hC2.bv hl2 HE.out
      obtain ⟨n, hn⟩ : ∃ n, n = (matsOf b ls).length := ⟨_, rfl⟩
      rw [← hn] at hmn
      have HN := Lib.hid hn
      clear hn
      go_wp2_with fail
      refine hmn.mono ?_
      rintro e w3 ⟨rfl, hb3⟩
      have hB3 := hB2.trans (hb3.mono hB2.size)
      clear hmn hC2 hl2 hB2 hb3 k0
      by_cases hq : m < n
      · have d1 : decide ((m : Int) < (n : Int)) = true := decide_eq_true (by omega)
        have d1' : decide (m < n) = true := decide_eq_true hq
        have HR : Hid (denseB b ls m = true) := by
          unfold denseB
          rw [Hid, ← HN.out, decide_eq_true HE.out, decide_eq_true hq]
          rfl
        clear hq
        go_wp2
        go_ret
        exact ⟨by rw [HR.out]; rfl, hB3⟩
      · have d1 : decide ((m : Int) < (n : Int)) = false := decide_eq_false (by omega)
        have d1' : decide (m < n) = false := decide_eq_false hq
        have HR : Hid (denseB b ls m = false) := by
          unfold denseB
          rw [Hid, ← HN.out, decide_eq_true HE.out, decide_eq_false hq]
          rfl
        clear hq
        go_wp2
        go_ret
        exact ⟨by rw [HR.out]; rfl, hB3⟩
    · have HR : Hid (denseB b ls m = false) := by unfold denseB; rw [Hid, decide_eq_false he]; rfl
      obtain ⟨E, hE⟩ : ∃ E, E = checkLines b ls := ⟨_, rfl⟩
      rw [← hE] at hck he
      have d1 : ((E : Int) == 0) = false := beq_false_of_ne he
      clear he hE
      go_wp2_with fail
      refine hck.mono ?_
      rintro e w2 ⟨rfl, hb2⟩
      have hB2 := hB1.trans (hb2.mono hB1.size)
      clear hck
      go_wp2
      go_ret
      exact ⟨by rw [HR.out]; rfl, hB2⟩
  · have HR : Hid (denseB b ls m = false) := by
      unfold denseB
      rw [Hid, decide_eq_false fun he => by rw [great_no he] at hg; cases hg]
      rfl
    rw [hg] at hgr
    clear hg
    go_wp2_with fail
    refine hgr.mono ?_
    rintro e w1 ⟨rfl, hb1⟩
    have hB1 := hB.trans (hb1.mono hB.size)
    clear hgr
    go_wp2
    go_ret
    exact ⟨by rw [HR.out]; rfl, hB1⟩

set_option maxRecDepth 100000 in
set_option maxHeartbeats 1600000 in
theorem lfine_ok (v lv : Value) (b : List (Int × Int)) (ls : List (List Int)) (w : World) (hv : BookV w w.heap.size v b) (hl : LLi w lv ls) :
    Calls Try.prog 40 #[v, lv] w fun r w' => r = .returned (.bool (fineB b ls)) ∧ Below w.heap.size w w' := by
  obtain ⟨pa, pc, rfl, hp⟩ := hv.open_
  obtain ⟨la, lc, rfl, hlc1, hlc2⟩ := hl.form
  have hC := BB.new hp
  have hB := (Below.refl w.heap.size w).alloc (Nat.le_refl _) (.cells #[.slice pa b.length pc] 24)
  go_enter Try.func40, Try.ntmps40
  go_upto_region 1 with (fail)
  generalize w.alloc (.cells #[.slice pa b.length pc] 24) = W at *
  have hl0 := (hl.below hB).more hB.size
  have k0 := hC.c0
  clear hp hv hl
  have hgr := lgreat_ok _ _ b ls W hC.bv hl0
  cases hg : greatB b ls
  · rw [hg] at hgr
    clear hg
    go_wp2_with fail
    refine hgr.mono ?_
    rintro e w1 ⟨rfl, hb1⟩
    have hB1 := hB.trans (hb1.mono hB.size)
    have hC1 := hC.call hb1
    have hl1 := hl0.call hb1
    clear hgr hC hl0 hB hb1 k0
    have k0 := hC1.c0
    have hck := rcheckLines_ok _ _ b ls w1 hC1.bv hl1
    by_cases he : checkLines b ls = 0
    · rw [he] at hck
      have HE := Lib.hid he
      clear he
      go_wp2_with fail
      refine hck.mono ?_
      rintro e w2 ⟨rfl, hb2⟩
      have hB2 := hB1.trans (hb2.mono hB1.size)
      have hC2 := hC1.call hb2
      have hl2 := hl1.call hb2
      clear hck hC1 hl1 hB1 hb2 k0
      have k0 := hC2.c0
      have hmn := rmany_ok _ _ b ls w2 hC2.bv hl2 HE.out
      obtain ⟨n, hn⟩ : ∃ n, n = (matsOf b ls).length := ⟨_, rfl⟩
      rw [← hn] at hmn
      have HN := Lib.hid hn
      clear hn
      go_wp2_with fail
      refine hmn.mono ?_
      rintro e w3 ⟨rfl, hb3⟩
      have hB3 := hB2.trans (hb3.mono hB2.size)
      clear hmn hC2 hl2 hB2 hb3 k0
      by_cases hq : n ≤ 1000
      · have d1 : decide ((n : Int) ≤ 1000) = true := decide_eq_true (by omega)
        have d1' : decide (n ≤ 1000) = true := decide_eq_true hq
        have HR : Hid (fineB b ls = true) := by
          unfold fineB
          rw [Hid, ← HN.out, decide_eq_true HE.out, decide_eq_true hq]
          rfl
        clear hq
        go_wp2
        go_ret
        exact ⟨by rw [HR.out]; rfl, hB3⟩
      · have d1 : decide ((n : Int) ≤ 1000) = false := decide_eq_false (by omega)
        have d1' : decide (n ≤ 1000) = false := decide_eq_false hq
        have HR : Hid (fineB b ls = false) := by
          unfold fineB
          rw [Hid, ← HN.out, decide_eq_true HE.out, decide_eq_false hq]
          rfl
        clear hq
        go_wp2
        go_ret
        exact ⟨by rw [HR.out]; rfl, hB3⟩
    · have HR : Hid (fineB b ls = false) := by unfold fineB; rw [Hid, decide_eq_false he]; rfl
      obtain ⟨E, hE⟩ : ∃ E, E = checkLines b ls := ⟨_, rfl⟩
      rw [← hE] at hck he
      have d1 : ((E : Int) == 0) = false := beq_false_of_ne he
      clear he hE
      go_wp2_with fail
      refine hck.mono ?_
      rintro e w2 ⟨rfl, hb2⟩
      have hB2 := hB1.trans (hb2.mono hB1.size)
      clear hck
      go_wp2
      go_ret
      exact ⟨by rw [HR.out]; rfl, hB2⟩
  · have HR : Hid (fineB b ls = false) := by
      unfold fineB
      rw [Hid, decide_eq_false fun he => by rw [great_no he] at hg; cases hg]
      rfl
    rw [hg] at hgr
    clear hg
    go_wp2_with fail
    refine hgr.mono ?_
    rintro e w1 ⟨rfl, hb1⟩
    have hB1 := hB.trans (hb1.mono hB.size)
    clear hgr
    go_wp2
    go_ret
    exact ⟨by rw [HR.out]; rfl, hB1⟩

/-- a long passage, as the law takes it: its length, and whether it is one -/
theorem long_pass {b : List (Int × Int)} {ls : List (List Int)} (hg : Good b ls) : checkPass b ls (iLL (firstOf b ls)) = 0 ∧ (iLL (firstOf b ls)).length = mostOf b ls := by
  obtain ⟨h1, h2⟩ := long_iff.1 (first_mem hg)
  exact ⟨(chain_pass hg h2).1, by rw [iLL_len]; exact h1⟩

set_option maxRecDepth 100000 in
set_option maxHeartbeats 1600000 in
theorem llong_ok (v lv : Value) (b : List (Int × Int)) (ls : List (List Int)) (w : World) (hv : BookV w w.heap.size v b) (hl : LLi w lv ls) (h0 : checkLines b ls = 0) :
    Calls Try.prog 44 #[v, lv] w fun r w' => r = .returned (.tuple #[.int .i64 (mostOf b ls : Int), .bool true]) ∧ Below w.heap.size w w' := by
  obtain ⟨pa, pc, rfl, hp⟩ := hv.open_
  obtain ⟨la, lc, rfl, hlc1, hlc2⟩ := hl.form
  have hC := BB.new hp
  have hB := (Below.refl w.heap.size w).alloc (Nat.le_refl _) (.cells #[.slice pa b.length pc] 24)
  go_enter Try.func44, Try.ntmps44
  go_upto_region 1 with (fail)
  generalize w.alloc (.cells #[.slice pa b.length pc] 24) = W at *
  have hl0 := (hl.below hB).more hB.size
  have k0 := hC.c0
  clear hp hv hl
  have hlo := longestP_ok _ _ b ls W hC.bv hl0
  have hE : longestM b ls = (iLL (firstOf b ls), 0) := by unfold longestM; rw [if_neg (by simp [h0])]; rfl
  rw [hE] at hlo
  obtain ⟨hps, hpl⟩ := long_pass (good_of h0)
  have HPL := Lib.hid hpl
  clear hE h0 hpl
  go_wp2_with fail
  refine hlo.mono ?_
  rintro e w1 ⟨mv, rfl, hll, hb1⟩
  have hB1 := hB.trans (hb1.mono hB.size)
  have hC1 := hC.call hb1
  have hl1 := hl0.call hb1
  obtain ⟨mA, mc, rfl, -, -⟩ := hll.form
  have hck := rcheckPass_ok _ _ _ b ls (iLL (firstOf b ls)) w1 hC1.bv hl1 hll
  rw [hps] at hck
  rw [HPL.out] at hck ⊢
  clear hlo hC hl0 hB hb1 k0 hps hll
  have k0 := hC1.c0
  go_wp2_with fail
  refine hck.mono ?_
  rintro e w2 ⟨rfl, hb2⟩
  have hB2 := hB1.trans (hb2.mono hB1.size)
  clear hck k0
  go_wp2
  exact bodyPost_ret (v := .tuple #[.int .i64 (mostOf b ls : Int), .bool true]) (by simp [results, Try.results44, go_sem]) rfl ⟨rfl, hB2⟩
end Go.Proofs.Ytgngpdnppdbgoaa

namespace Go.Proofs.Ytgngpdnppdbgoaa
open Go.RowKit Go.Shelf
set_option linter.unusedVariables false

def u8cell (x : Fin 256) (_ : Nat) : Value := .int .u8 x.val
/-- what Climb leaves: some passage -/
def ClimbPost (b : List (Int × Int)) (ls : List (List Int)) (w : World) (r : Ending) (w' : World) : Prop :=
  ∃ (l : List (List Nat)) (A : Option Addr) (cap : Nat), IsCh (matsOf b ls) (befL ls) none l ∧ r = .returned (.slice A l.length cap) ∧ LLi w' (.slice A l.length cap) (iLL l) ∧ Below w.heap.size w w'
/-- the matches behind a passage, as far as looked at -/
def canO (b : List (Int × Int)) (ls : List (List Int)) (l : List (List Nat)) (j : Nat) : List (List Nat) := ((matsOf b ls).take j).filter (aft (befL ls) (lastO none l))
theorem canO_succ (b : List (Int × Int)) (ls : List (List Int)) (l : List (List Nat)) {j : Nat} (hj : j < (matsOf b ls).length) : canO b ls l (j + 1) = canO b ls l j ++ if aft (befL ls) (lastO none l) (xAt b ls j) = true then [xAt b ls j] else [] := by
  unfold canO
  rw [take_snoc (x := xAt b ls j) (getD_some [] hj), List.filter_append]
  congr 1
  simp only [List.filter_cons, List.filter_nil]
theorem canO_len (b : List (Int × Int)) (ls : List (List Int)) (l : List (List Nat)) (j : Nat) : (canO b ls l j).length ≤ j := by
  unfold canO
  refine Nat.le_trans (List.length_filter_le _ _) ?_
  rw [List.length_take]
  exact Nat.min_le_left _ _
theorem canO_step {b : List (Int × Int)} {ls : List (List Int)} {l : List (List Nat)} {n : Nat} {x : List Nat} (hl : IsCh (matsOf b ls) (befL ls) none l) (hx : x ∈ canO b ls l n) : IsCh (matsOf b ls) (befL ls) none (l ++ [x]) ∧ x ∈ matsOf b ls := by
  unfold canO at hx
  obtain ⟨h1, h2⟩ := List.mem_filter.1 hx
  exact ⟨isCh_snoc.2 ⟨hl, List.mem_of_mem_take h1, h2⟩, List.mem_of_mem_take h1⟩

set_option maxRecDepth 100000 in
set_option maxHeartbeats 6400000 in
theorem lclimb_ok (v lv yv : Value) (b : List (Int × Int)) (ls : List (List Int)) (bl : List (Fin 256)) (w : World) (hv : BookV w w.heap.size v b) (hl : LLi w lv ls) (hy : Arr w w.heap.size 1 yv bl u8cell) (h0 : checkLines b ls = 0) :
    Calls Try.prog 41 #[v, lv, yv] w (ClimbPost b ls w) := by
  obtain ⟨pa, pc, rfl, hp⟩ := hv.open_
  obtain ⟨la, lc, rfl, -, -⟩ := hl.form
  obtain ⟨ya, yc, rfl, hy1, hy2, -⟩ := id hy
  have hG := good_of h0
  have HG := Lib.hid hG
  have hms := mats_4096 hG
  have hC := BB.new hp
  have hB := (Below.refl w.heap.size w).alloc (Nat.le_refl _) (.cells #[.slice pa b.length pc] 24)
  go_enter Try.func41, Try.ntmps41
  go_upto_region 1 with (fail)
  generalize w.alloc (.cells #[.slice pa b.length pc] 24) = W at *
  have hl0 := (hl.below hB).more hB.size
  have hr := rall_ok _ _ b ls W hC.bv hl0 h0
  have k0 := hC.c0
  clear hp hv hl h0 hl0 hG
  obtain ⟨n, hn⟩ : ∃ n, n = (matsOf b ls).length := ⟨_, rfl⟩
  have HNN := Lib.hid hn
  rw [← hn] at hr hms
  clear hn
  go_wp2_with fail
  refine hr.mono ?_
  rintro e w1 ⟨lA, lcc, rfl, hll, hb1⟩
  have hB1 := hB.trans (hb1.mono hB.size)
  have hy1 := (hy.below hB1).more hB1.size
  obtain ⟨hd, hH⟩ := hd_of hll (levOf HG.out).nd
  have hm8 := mostOf_le HG.out
  clear hC hB hb1 k0 hr hll hy
  go_wp2
  go_loopw [8, 9] (fun o i wr => ∃ (l : List (List Nat)) (A : Option Addr) (cap : Nat), Hid (IsCh (matsOf b ls) (befL ls) none l) ∧ o = .slice A l.length cap ∧ i = .int .i64 l.length ∧ Below w1.heap.size w1 wr ∧ wr.ownsRow w1.heap.size 40 1 (.slice A l.length cap) l.length (l.map hd)) (fun _ i _ => 9 - (intOf i).toNat)
  case atStart => exact ⟨[], none, 0, trivial, rfl, rfl, Below.refl _ _, by simpa using World.ownsRow_nil _ _ _ _⟩
  case round =>
    obtain ⟨l, A, cap, hch, rfl, rfl, hb, hown⟩ := hrel
    have hl8 : l.length ≤ 8 := Nat.le_trans ((levOf HG.out).longest hch.out) hm8
    obtain ⟨wo, hwo⟩ : ∃ wo : World, wo = wr := ⟨_, rfl⟩
    rw [← hwo] at hb hown ⊢
    clear hwo
    go_wp2
    go_loopw [10, 11] (fun o i wr => ∃ j : Nat, j ≤ n ∧ i = .int .i64 j ∧ Below wo.heap.size wo wr ∧ wr.ownsRow wo.heap.size 40 1 o (canO b ls l j).length ((canO b ls l j).map hd)) (fun _ i _ => n - (intOf i).toNat)
    case atStart => exact ⟨0, Nat.zero_le _, rfl, Below.refl _ _, by simpa [canO] using World.ownsRow_nil _ _ _ _⟩
    case round =>
      obtain ⟨j, hj, rfl, hbj, hcan⟩ := hrel
      have hb2 := hb.trans (hbj.mono hb.size)
      by_cases hjn : j < n
      · have d3 : decide (j < n) = true := decide_eq_true hjn
        have d3' : decide ((j : Int) < (n : Int)) = true := decide_eq_true (by omega)
        have hji : (j : Int) < (n : Int) := by omega
        have hjm : j < (matsOf b ls).length := by rw [← HNN.out]; exact hjn
        obtain ⟨lb, lo, hlA, hlb, hlc⟩ := hH.at_ j hjm
        subst hlA
        change w1.cell? ⟨lb, lo + j, none⟩ = some (hd (xAt b ls j)) at hlc
        have hxm := xAt_mem hjm
        obtain ⟨xA, xcap, hxe, -⟩ := id (hH.arr _ hxm)
        have hxa := hH.arr _ hxm
        rw [hxe] at hlc hxa
        have HSU := Lib.hid (canO_succ b ls l hjm)
        have HXN := Lib.hid (matches_len hxm)
        have HXA := Lib.hid hxa
        have HXE := Lib.hid hxe
        have HCL := Lib.hid (canO_len b ls l j)
        clear hxa hxe hxm
        obtain ⟨wq, hwq⟩ : ∃ wq : World, wq = wr := ⟨_, rfl⟩
        rw [← hwq] at hbj hcan hb2 ⊢
        clear hwq
        go_upto_region 9 with (fail)
        go_cut [39] from 24 to 40 (fun g wx => g = .bool (aft (befL ls) (lastO none l) (xAt b ls j)) ∧ Below wq.heap.size wq wx)
        case first =>
          have f0 := Ext.of ((hb2.cell (p := ⟨lb, lo + j, none⟩) hlb).trans hlc)
          rcases List.eq_nil_or_concat l with hp0 | ⟨p', z, hp0⟩
          · have hL0 : l.length = 0 := by rw [hp0]; rfl
            have d4 : ((l.length : Int) == 0) = true := by rw [beq_iff_eq]; omega
            have HSO : Hid (aft (befL ls) (lastO none l) (xAt b ls j) = true) := by rw [Hid, hp0]; rfl
            clear hp0 hL0 hlc
            refine wp_region_ext (by kernel_rfl) (by kernel_rfl) ?_
            repeat (go_big_quiet_step (fail))
            refine wpQuiet_nil ?_
            intro _ hw'
            obtain ⟨xr, hw''⟩ := hw'
            subst hw''
            go_wp2
            go_meet
            case rel => exact ⟨by rw [HSO.out], xr.h⟩
          · rw [List.concat_eq_append] at hp0
            obtain ⟨i0, hi0⟩ : ∃ i0, l.length = i0 + 1 := ⟨p'.length, by rw [hp0]; simp⟩
            have hLz : (l.map hd)[i0]? = some (hd z) := by
              have : i0 = p'.length := by rw [hp0, List.length_append, List.length_singleton] at hi0; omega
              rw [hp0, List.map_append, List.getElem?_append_right (by rw [List.length_map]; omega), List.length_map, this, Nat.sub_self]
              rfl
            have hzm : z ∈ matsOf b ls := hch.out.mem z (by rw [hp0]; simp)
            have HZN := Lib.hid (matches_len hzm)
            have HZA := Lib.hid (hH.arr _ hzm)
            have hrow : Arr wq wq.heap.size 1 (.slice A (l.map hd).length cap) (l.map hd) vcell := by
              have h1 := own_call hown hbj
              refine Arr.of_own (base := w1.heap.size) (e := 40) ?_
              rw [flat_v, List.length_map]
              exact h1
            obtain ⟨xb', xo', y, e1, hxb', hy1', hy2'⟩ := hrow.at_ (k := i0) (by rw [List.length_map]; omega)
            subst e1
            rw [hLz] at hy1'
            injection hy1' with hy1'
            subst hy1'
            have c0 := hy2' 0 (by omega)
            simp only [Nat.mul_one, Nat.add_zero, vcell] at c0
            have HSO : Hid (aft (befL ls) (lastO none l) (xAt b ls j) = befL ls z (xAt b ls j)) := by rw [Hid, hp0]; simp [lastO, aft]
            obtain ⟨hdz, hhz⟩ : ∃ v, v = hd z := ⟨_, rfl⟩
            rw [← hhz] at c0 HZA
            have f1 := Ext.of c0
            have d4 : ((l.length : Int) == 0) = false := beq_false_of_ne (by omega)
            have ej : IntKind.i64.wrap ((l.length : Int) - 1) = (i0 : Int) := by rw [IntKind.wrap_i64]; omega
            have hij : (i0 : Int) < (l.length : Int) := by omega
            have HI0 := Lib.hid hi0
            have HA : Hid (∀ y : Ext wq, Calls Try.prog 65 #[hdz, .slice xA (iL (xAt b ls j)).length xcap] y.w fun r w' => r = .returned (.bool (befL ls z (xAt b ls j))) ∧ ∃ z : Ext wq, w' = z.w) := fun y => by
              have hbw := hb2.trans (y.h.mono hb2.size)
              have := ext_call y (rbefore_ok _ _ (iL z) (iL (xAt b ls j)) y.w ((HZA.out.below hbw).more hbw.size) ((HXA.out.below hbw).more hbw.size) (by rw [iL_len, iL_len, HZN.out, HXN.out]; exact Nat.le_refl _))
              rw [rbef_iL HZN.out] at this
              exact this
            clear hp0 hi0 hLz c0 hy2' hhz hlc hzm hrow
            refine wp_region_ext (by kernel_rfl) (by kernel_rfl) ?_
            repeat (go_big_quiet_step ((go_at_call 65; with_reducible exact HA.out _)))
            refine wpQuiet_nil ?_
            intro _ hw'
            obtain ⟨xr, hw''⟩ := hw'
            subst hw''
            go_wp2
            go_meet
            case rel => exact ⟨by rw [HSO.out], xr.h⟩
        case rest =>
          obtain ⟨rfl, hbc⟩ := hcut
          have hbj2 := hbj.trans (hbc.mono hbj.size)
          have hcan2 := own_call hcan hbc
          obtain ⟨W4, hW4⟩ : ∃ W4 : World, W4 = wc := ⟨_, rfl⟩
          rw [← hW4] at hbj2 hcan2 ⊢
          clear hW4 hbc hcan hbj hb2
          have hb3 := hb.trans (hbj2.mono hb.size)
          have c0 := (hb3.cell (p := ⟨lb, lo + j, none⟩) hlb).trans hlc
          have hszj := hbj2.size
          cases hso : aft (befL ls) (lastO none l) (xAt b ls j)
          · have HN : Hid (canO b ls l (j + 1) = canO b ls l j) := by rw [Hid, HSU.out, hso]; simp
            clear hso c0
            go_wp2
            go_roundw
            case rel => exact ⟨j + 1, by omega, by go_num, hbj2, by rw [HN.out]; exact hcan2⟩
            case measure => (simp [intOf]; try omega)
          · have HN : Hid (canO b ls l (j + 1) = canO b ls l j ++ [xAt b ls j]) := by rw [Hid, HSU.out, hso]; simp
            clear hso
            go_wp2_with (at_builtin; refine wpList_app2 slT_wm rfl (.tmp 40) (.tmp 45) rfl (sv := u10) rfl hcan2 rfl rfl one_sl hszj ?_ ?_ ?_)
            any_goals (have := HCL.out; omega)
            intro v5 w5 hown5 hg5 hat5
            have hb5 := hbj2.grown hg5 hbj2.size fun g hg => (hcan2.lt g hg).1
            have hown6 : w5.ownsRow wo.heap.size 40 1 v5 (canO b ls l (j + 1)).length ((canO b ls l (j + 1)).map hd) := by
              rw [HN.out, List.map_append, List.length_append, List.map_singleton, HXE.out]
              simpa using hown5
            clear hown5 hg5 hat5 hcan2 hbj2 c0 hb3
            go_wp2
            go_roundw
            case rel => exact ⟨j + 1, by omega, by go_num, hb5, hown6⟩
            case measure => (simp [intOf]; try omega)
      · obtain rfl : n = j := by omega
        have d3 : decide (n < n) = false := by simp
        have hown2 := own_call hown hbj
        obtain ⟨cA, ccap, rfl⟩ := own_form hcan
        obtain ⟨cn, hcn⟩ : ∃ cn, cn = (canO b ls l n).length := ⟨_, rfl⟩
        have HCN := Lib.hid hcn
        rw [← hcn] at hcan ⊢
        have hcn6 : cn ≤ 4096 := by rw [hcn]; exact Nat.le_trans (canO_len b ls l n) hms
        clear hcn
        by_cases hc0 : cn = 0
        · have d4 : ((cn : Int) == 0) = true := by rw [beq_iff_eq]; omega
          have hfin := own_lli hown2 rfl (hH.call hb2) (fun m hm => hch.out.mem m hm)
          have hb3 := hB1.trans (hb2.mono hB1.size)
          have HCH : Hid (ClimbPost b ls w (.returned (.slice A l.length cap)) wr) := ⟨l, A, cap, hch.out, rfl, hfin, hb3⟩
          clear hc0 hfin hown2 hcan
          go_wp2
          go_ret
          exact HCH.out
        · have d4 : ((cn : Int) == 0) = false := beq_false_of_ne (by omega)
          have hcpos : 0 < cn := by omega
          clear hc0
          have hpick : ∀ k, k < cn → ∃ x cA0 xA xcap, canO b ls l n = canO b ls l n ∧ x ∈ canO b ls l n ∧ cA = some ⟨cA0, 0, none⟩ ∧ wr.cell? ⟨cA0, k, none⟩ = some (.slice xA (iL x).length xcap) ∧ hd x = .slice xA (iL x).length xcap := by
            intro k hk
            have harr : Arr wr wr.heap.size 1 (.slice cA ((canO b ls l n).map hd).length ccap) ((canO b ls l n).map hd) vcell := by
              refine Arr.of_own (base := wo.heap.size) (e := 40) ?_
              rw [flat_v, List.length_map, ← HCN.out]
              exact hcan
            have hk2 : k < (canO b ls l n).length := by rw [← HCN.out]; exact hk
            obtain ⟨cb, co, u, e1, -, hu1, hu2⟩ := harr.at_ (k := k) (by rw [List.length_map]; exact hk2)
            have hco : co = 0 := by
              rcases hcan.2 with ⟨h1, _⟩ | ⟨g, cp, cur, h1, _⟩
              · injection h1 with h1; rw [e1] at h1; cases h1
              · injection h1 with h1
                rw [e1] at h1
                injection h1 with h1
                injection h1 with _ h1
            subst hco
            rw [List.getElem?_map, List.getElem?_eq_getElem hk2] at hu1
            simp only [Option.map_some, Option.some.injEq] at hu1
            have hxm := List.getElem_mem hk2
            obtain ⟨xA, xcap, hxe, -⟩ := id (hH.arr _ (canO_step hch.out hxm).2)
            have hu3 := hu2 0 (by omega)
            rw [show 0 + k * 1 + 0 = k by omega] at hu3
            unfold vcell at hu3
            rw [← hu1, hxe] at hu3
            exact ⟨_, cb, xA, xcap, rfl, hxm, e1, hu3, hxe⟩
          have HPICK := Lib.hid hpick
          clear hpick
          by_cases hb0 : bl.length = 0
          · have d5 : decide ((0 : Int) < (bl.length : Int)) = false := decide_eq_false (by omega)
            have d5' : decide (0 < bl.length) = false := decide_eq_false (by omega)
            obtain ⟨x, cA0, xA, xcap, -, hx, rfl, c0, hxe⟩ := HPICK.out 0 hcpos
            have hci : (0 : Int) < (cn : Int) := by omega
            clear hb0
            obtain ⟨hch2, hxm⟩ := canO_step hch.out hx
            have hsz := hb2.size
            have hl82 := Nat.le_trans ((levOf HG.out).longest hch2) hm8
            rw [List.length_append, List.length_singleton] at hl82
            have HCH2 := Lib.hid hch2
            have HXE := Lib.hid hxe
            have HX := Lib.hid hx
            clear hcan hch2 hxe hx hxm
            go_wp2_with (at_builtin; refine wpList_app2 slT_wm rfl (.tmp 65) (.tmp 70) rfl (sv := .slice A l.length cap) rfl hown2 rfl rfl one_sl hsz ?_ ?_ ?_)
            any_goals omega
            intro v5 w5 hown5 hg5 hat5
            have hb5 := hb2.grown hg5 hb2.size fun g hg => (hown2.lt g hg).1
            have hown6 : w5.ownsRow w1.heap.size 40 1 v5 (l ++ [x]).length ((l ++ [x]).map hd) := by
              rw [List.map_append, List.length_append, List.map_singleton, HXE.out]
              simpa using hown5
            obtain ⟨oA, oc, rfl⟩ := own_form hown6
            clear hown5 hg5 hat5 hown2 hb2 c0
            go_wp2
            go_roundw
            case rel => exact ⟨l ++ [x], oA, oc, HCH2, by simp, by simp, hb5, hown6⟩
            case measure => (simp [intOf]; try omega)
          · have d5 : decide ((0 : Int) < (bl.length : Int)) = true := decide_eq_true (by omega)
            have d5' : decide (0 < bl.length) = true := decide_eq_true (by omega)
            have hyw := (hy1.below hb2).more hb2.size
            obtain ⟨K, hK⟩ : ∃ K, K = l.length % bl.length := ⟨_, rfl⟩
            have hml : K < bl.length := by rw [hK]; exact Nat.mod_lt _ (by omega)
            have hK8 : K ≤ 8 := by rw [hK]; exact Nat.le_trans (Nat.mod_le _ _) hl8
            obtain ⟨yb, yo, y, rfl, hyb, hy3, hy4⟩ := hyw.at_ hml
            have hy5 := hy4 0 (by omega)
            rw [Nat.mul_one, Nat.add_zero] at hy5
            unfold u8cell at hy5
            have hyl := y.isLt
            obtain ⟨q, hq⟩ : ∃ q, q = y.val := ⟨_, rfl⟩
            rw [← hq] at hy5 hyl
            obtain ⟨J, hJ⟩ : ∃ J, J = q % cn := ⟨_, rfl⟩
            have hkc : J < cn := by rw [hJ]; exact Nat.mod_lt _ hcpos
            obtain ⟨x, cA0, xA, xcap, -, hx, rfl, c0, hxe⟩ := HPICK.out J hkc
            have hki : (J : Int) < (cn : Int) := by omega
            have hmi : (K : Int) < (bl.length : Int) := by omega
            have nz : ((bl.length : Int) == 0) = false := beq_false_of_ne (by omega)
            have m1 : (l.length : Int).tmod (bl.length : Int) = (K : Int) := by rw [hK]; rfl
            have m2 : (q : Int).tmod (cn : Int) = (J : Int) := by rw [hJ]; rfl
            have c1 : IntKind.i64.wrap (q : Int) = q := wrap_id _ (by omega) (by omega)
            have c3 : IntKind.i64.wrap (K : Int) = K := wrap_id _ (by omega) (by omega)
            have c4 : IntKind.i64.wrap (J : Int) = J := wrap_id _ (by omega) (by omega)
            clear hy3 hy4 hq hyw hb0 hK hJ
            go_upto_region 16 with (fail)
            clear m1 m2 c1 c3 c4 nz hy5
            obtain ⟨hch2, hxm⟩ := canO_step hch.out hx
            have hsz := hb2.size
            have hl82 := Nat.le_trans ((levOf HG.out).longest hch2) hm8
            rw [List.length_append, List.length_singleton] at hl82
            have HCH2 := Lib.hid hch2
            have HXE := Lib.hid hxe
            have HX := Lib.hid hx
            clear hcan hch2 hxe hx hxm
            go_wp2_with (at_builtin; refine wpList_app2 slT_wm rfl (.tmp 65) (.tmp 70) rfl (sv := .slice A l.length cap) rfl hown2 rfl rfl one_sl hsz ?_ ?_ ?_)
            any_goals omega
            intro v5 w5 hown5 hg5 hat5
            have hb5 := hb2.grown hg5 hb2.size fun g hg => (hown2.lt g hg).1
            have hown6 : w5.ownsRow w1.heap.size 40 1 v5 (l ++ [x]).length ((l ++ [x]).map hd) := by
              rw [List.map_append, List.length_append, List.map_singleton, HXE.out]
              simpa using hown5
            obtain ⟨oA, oc, rfl⟩ := own_form hown6
            clear hown5 hg5 hat5 hown2 hb2 c0
            go_wp2
            go_roundw
            case rel => exact ⟨l ++ [x], oA, oc, HCH2, by simp, by simp, hb5, hown6⟩
            case measure => (simp [intOf]; try omega)
end Go.Proofs.Ytgngpdnppdbgoaa
