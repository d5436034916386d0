/- The laws' small functions: ints, great. The laws' small functions: lists, fine, inside. The laws' small functions: inside. -/
import Derived.Test.YtpkccmohlcndgaaRfCM
import Derived.BigQuiet
namespace Go.Proofs.Ytpkccmohlcndgaa
open Go.RowKit Go.Shelf
set_option linter.unusedVariables false

set_option maxRecDepth 100000 in
set_option maxHeartbeats 1600000 in
theorem lints_ok (av bv : Value) (a b : List Int) (w : World) (ha : Arr w w.heap.size 1 av a icell) (hb : Arr w w.heap.size 1 bv b icell) :
    Calls Try.prog 28 #[av, bv] w fun r w' => r = .returned (.bool (decide (a = b))) ∧ Below w.heap.size w w' := by
  obtain ⟨aa, ac, rfl, ha1, ha2, -⟩ := id ha
  obtain ⟨ba, bc, rfl, -, -, -⟩ := id hb
  go_enter Try.func28, Try.ntmps28
  by_cases hl : a.length = b.length
  · have d1 : ((a.length : Int) != (b.length : Int)) = false := by simp; omega
    have HLN := Lib.hid hl
    clear hl
    go_wp2
    go_loopw [5] (fun i wr => ∃ n : Nat, n ≤ a.length ∧ i = .int .i64 n ∧ Hid (decide (a = b) = decide (a.drop n = b.drop n)) ∧ Below w.heap.size w wr) (fun i _ => a.length - (intOf i).toNat)
    case atStart => exact ⟨0, Nat.zero_le _, rfl, rfl, Below.refl _ _⟩
    case round =>
      obtain ⟨n, hn, rfl, hd, hbx⟩ := hrel
      by_cases hn1 : n < a.length
      · have d3 : decide (n < a.length) = true := by simpa using hn1
        have d3' : decide ((n : Int) < (a.length : Int)) = true := by simp; omega
        have hnb : n < b.length := by rw [← HLN.out]; exact hn1
        obtain ⟨xb, xo, x, hxa, hxb, hx1, hx2⟩ := row_cell2 (ha.call hbx) hn1
        obtain ⟨yb, yo, y, hya, hyb, hy1, hy2⟩ := row_cell2 (hb.call hbx) hnb
        subst hxa
        subst hya
        have f0 := Ext.of hx2
        have f1 := Ext.of hy2
        have hnb' : (n : Int) < (b.length : Int) := by omega
        have hna' : (n : Int) < (a.length : Int) := by omega
        have HD : Hid (decide (a = b) = decide (x :: a.drop (n + 1) = y :: b.drop (n + 1))) := by rw [Hid, hd.out, drop_cons hx1, drop_cons hy1]
        clear hd hx1 hy1 hx2 hy2
        go_upto_region 6 with (fail)
        by_cases hz : x = y
        · have d4 : ((x : Int) != y) = false := by simp [hz]
          have HE : Hid (decide (a = b) = decide (a.drop (n + 1) = b.drop (n + 1))) := by rw [Hid, HD.out, hz]; simp
          clear hz HD
          refine wp_region_ext (by kernel_rfl) (by kernel_rfl) ?_
          repeat (go_big_quiet_step (fail))
          refine wpQuiet_nil ?_
          intro _ hw'
          obtain ⟨xr, hw''⟩ := hw'
          subst hw''
          have hbz := hbx.trans (xr.h.mono hbx.size)
          go_wp2
          go_roundw
          case rel => exact ⟨n + 1, by omega, by go_num, HE, hbz⟩
          case measure => (simp [intOf]; try omega)
        · have d4 : ((x : Int) != y) = true := by simp [hz]
          have HE : Hid (decide (a = b) = false) := by
            rw [Hid, HD.out, decide_eq_false_iff_not]
            intro h
            injection h with h _
            exact hz h
          clear hz HD
          refine wp_region_ext (by kernel_rfl) (by kernel_rfl) ?_
          repeat (go_big_quiet_step (fail))
          refine wpQuiet_nil ?_
          intro _ hw'
          obtain ⟨xr, hw''⟩ := hw'
          subst hw''
          have hbz := hbx.trans (xr.h.mono hbx.size)
          go_wp2
          go_ret
          exact ⟨by rw [HE.out]; rfl, hbz⟩
      · obtain rfl : n = a.length := by omega
        have d3 : decide (a.length < a.length) = false := by simp
        have HE : Hid (decide (a = b) = true) := by
          have h1 := HLN.out
          rw [Hid, hd.out, List.drop_length, h1, List.drop_length]; simp
        clear hd
        go_wp2
        go_ret
        exact ⟨by rw [HE.out]; rfl, hbx⟩
  · have d1 : ((a.length : Int) != (b.length : Int)) = true := by simp; omega
    have HE : Hid (decide (a = b) = false) := by simp [Hid]; intro h; exact hl (by rw [h])
    clear hl
    go_wp2
    go_ret
    exact ⟨by rw [HE.out]; rfl, Below.refl _ _⟩


def greatN (l : NL) : Bool := decide (130 < l.links.length) || decide (20 < l.left.length) || decide (20 < l.right.length)
set_option maxHeartbeats 800000 in
theorem lgreat_ok (v : Value) (l : NL) (w : World) (hv : NLV w w.heap.size v l) :
    Calls Try.prog 13 #[v] w fun r w' => r = .returned (.bool (greatN l)) ∧ Below w.heap.size w w' := by
  obtain ⟨ka, kc, aa, ac, ba, bc, rfl, hna⟩ := hv
  have hC := NB.new hna
  have hB := (Below.refl w.heap.size w).alloc (Nat.le_refl _) (.cells #[.int .i64 l.n, .slice ka l.links.length kc, .slice aa l.left.length ac, .slice ba l.right.length bc] 25)
  go_enter Try.func13, Try.ntmps13
  go_upto_region 1 with (fail)
  generalize w.alloc (.cells #[.int .i64 l.n, .slice ka l.links.length kc, .slice aa l.left.length ac, .slice ba l.right.length bc] 25) = W at *
  obtain ⟨k0, k1, k2, k3⟩ := hC.blk.c4
  have HG := Lib.hid (show greatN l = (decide (130 < l.links.length) || decide (20 < l.left.length) || decide (20 < l.right.length)) from rfl)
  by_cases h1 : 130 < l.links.length
  · have d1 : decide (130 < l.links.length) = true := decide_eq_true h1
    have d1' : decide ((130 : Int) < (l.links.length : Int)) = true := decide_eq_true (by omega)
    have HX : Hid (greatN l = true) := by rw [Hid, HG.out, d1]; rfl
    clear h1
    go_wp2
    go_ret
    exact ⟨ret_b HX.out.symm, hB⟩
  · have d1 : decide (130 < l.links.length) = false := decide_eq_false h1
    have d1' : decide ((130 : Int) < (l.links.length : Int)) = false := decide_eq_false (by omega)
    by_cases h2 : 20 < l.left.length
    · have d2 : decide (20 < l.left.length) = true := decide_eq_true h2
      have d2' : decide ((20 : Int) < (l.left.length : Int)) = true := decide_eq_true (by omega)
      have HX : Hid (greatN l = true) := by rw [Hid, HG.out, d1, d2]; rfl
      clear h1 h2
      go_wp2
      go_ret
      exact ⟨ret_b HX.out.symm, hB⟩
    · have d2 : decide (20 < l.left.length) = false := decide_eq_false h2
      have d2' : decide ((20 : Int) < (l.left.length : Int)) = false := decide_eq_false (by omega)
      by_cases h3 : 20 < l.right.length
      · have d3 : decide (20 < l.right.length) = true := decide_eq_true h3
        have d3' : decide ((20 : Int) < (l.right.length : Int)) = true := decide_eq_true (by omega)
        have HX : Hid (greatN l = true) := by rw [Hid, HG.out, d1, d2, d3]; rfl
        clear h1 h2 h3
        go_wp2
        go_ret
        exact ⟨ret_b HX.out.symm, hB⟩
      · have d3 : decide (20 < l.right.length) = false := decide_eq_false h3
        have d3' : decide ((20 : Int) < (l.right.length : Int)) = false := decide_eq_false (by omega)
        have HX : Hid (greatN l = false) := by rw [Hid, HG.out, d1, d2, d3]; rfl
        clear h1 h2 h3
        go_wp2
        go_ret
        exact ⟨ret_b HX.out.symm, hB⟩
end Go.Proofs.Ytpkccmohlcndgaa

namespace Go.Proofs.Ytpkccmohlcndgaa
open Go.RowKit Go.Shelf
set_option linter.unusedVariables false

theorem getD_some {α : Type} {l : List α} {i : Nat} (d : α) (h : i < l.length) : l[i]? = some (l.getD i d) := by
  rw [List.getD_eq_getElem?_getD, List.getElem?_eq_getElem h]
  rfl

set_option maxRecDepth 100000 in
set_option maxHeartbeats 1600000 in
theorem llists_ok (av bv : Value) (a b : List (List Int)) (w : World) (ha : LLi w av a) (hb : LLi w bv b) :
    Calls Try.prog 19 #[av, bv] w fun r w' => r = .returned (.bool (decide (a = b))) ∧ Below w.heap.size w w' := by
  obtain ⟨aa, ac, rfl, ha1, ha2⟩ := ha.form
  obtain ⟨ba, bc, rfl, -, -⟩ := hb.form
  go_enter Try.func19, Try.ntmps19
  by_cases hl : a.length = b.length
  · have d1 : ((a.length : Int) != (b.length : Int)) = false := by simp; omega
    have HLN := Lib.hid hl
    clear hl
    go_wp2
    go_loopw [5] (fun i wr => ∃ n : Nat, n ≤ a.length ∧ i = .int .i64 n ∧ Hid (decide (a = b) = decide (a.drop n = b.drop n)) ∧ Below w.heap.size w wr) (fun i _ => a.length - (intOf i).toNat)
    case atStart => exact ⟨0, Nat.zero_le _, rfl, rfl, Below.refl _ _⟩
    case round =>
      obtain ⟨n, hn, rfl, hd, hbx⟩ := hrel
      by_cases hn1 : n < a.length
      · have d3 : decide (n < a.length) = true := by simpa using hn1
        have d3' : decide ((n : Int) < (a.length : Int)) = true := by simp; omega
        have hnb : n < b.length := by rw [← HLN.out]; exact hn1
        obtain ⟨xb, xo, xA, xc, hxa, hxb, hx2, hxx⟩ := (ha.call hbx).at_ (getD_some [] hn1)
        obtain ⟨yb, yo, yA, yc, hya, hyb, hy2, hyy⟩ := (hb.call hbx).at_ (getD_some [] hnb)
        subst hxa
        subst hya
        have hx1 := getD_some [] hn1
        have hy1 := getD_some [] hnb
        obtain ⟨x, hx⟩ : ∃ x, x = a.getD n [] := ⟨_, rfl⟩
        obtain ⟨y, hy⟩ : ∃ y, y = b.getD n [] := ⟨_, rfl⟩
        rw [← hx] at hx1 hx2 hxx
        rw [← hy] at hy1 hy2 hyy
        have f0 := Ext.of hx2
        have f1 := Ext.of hy2
        have hnb' : (n : Int) < (b.length : Int) := by omega
        have hna' : (n : Int) < (a.length : Int) := by omega
        have HD : Hid (decide (a = b) = decide (x :: a.drop (n + 1) = y :: b.drop (n + 1))) := by rw [Hid, hd.out, drop_cons hx1, drop_cons hy1]
        have HA : Hid (∀ z : Ext wr, Calls Try.prog 28 #[.slice xA x.length xc, .slice yA y.length yc] z.w fun r w' => r = .returned (.bool (decide (x = y))) ∧ ∃ q : Ext wr, w' = q.w) := fun z => ext_call z (lints_ok _ _ x y z.w (hxx.call z.h) (hyy.call z.h))
        clear hd hx1 hy1 hx2 hy2 hxx hyy hx hy
        go_upto_region 6 with (fail)
        by_cases hz : x = y
        · have HE : Hid (decide (a = b) = decide (a.drop (n + 1) = b.drop (n + 1))) := by rw [Hid, HD.out, hz]; simp
          have hzd : decide (x = y) = true := by simpa using hz
          rw [hzd] at HA
          clear hz HD hzd
          refine wp_region_ext (by kernel_rfl) (by kernel_rfl) ?_
          repeat (go_big_quiet_step ((go_at_call 28; with_reducible exact HA.out _)))
          refine wpQuiet_nil ?_
          intro _ hw'
          obtain ⟨xr, hw''⟩ := hw'
          subst hw''
          have hbz := hbx.trans (xr.h.mono hbx.size)
          go_wp2
          go_roundw
          case rel => exact ⟨n + 1, by omega, by go_num, HE, hbz⟩
          case measure => (simp [intOf]; try omega)
        · have HE : Hid (decide (a = b) = false) := by
            rw [Hid, HD.out, decide_eq_false_iff_not]
            intro h
            injection h with h _
            exact hz h
          have hzd : decide (x = y) = false := by simpa using hz
          rw [hzd] at HA
          clear hz HD hzd
          refine wp_region_ext (by kernel_rfl) (by kernel_rfl) ?_
          repeat (go_big_quiet_step ((go_at_call 28; with_reducible exact HA.out _)))
          refine wpQuiet_nil ?_
          intro _ hw'
          obtain ⟨xr, hw''⟩ := hw'
          subst hw''
          have hbz := hbx.trans (xr.h.mono hbx.size)
          go_wp2
          go_ret
          exact ⟨by rw [HE.out]; rfl, hbz⟩
      · obtain rfl : n = a.length := by omega
        have d3 : decide (a.length < a.length) = false := by simp
        have HE : Hid (decide (a = b) = true) := by
          have h1 := HLN.out
          rw [Hid, hd.out, List.drop_length, h1, List.drop_length]; simp
        clear hd
        go_wp2
        go_ret
        exact ⟨by rw [HE.out]; rfl, hbx⟩
  · have d1 : ((a.length : Int) != (b.length : Int)) = true := by simp; omega
    have HE : Hid (decide (a = b) = false) := by simp [Hid]; intro h; exact hl (by rw [h])
    clear hl
    go_wp2
    go_ret
    exact ⟨by rw [HE.out]; rfl, Below.refl _ _⟩

/-! ### great, dense, fine -/

def fineN (l : NL) : Bool := !greatN l && decide (checkL l = 0)
theorem fineN_iff {l : NL} : fineN l = true ↔ checkL l = 0 := by
  unfold fineN
  constructor
  · intro h; simp at h; exact h.2
  · intro h
    have g := check_good.1 h
    have h1 := g.few
    have h2 := g.la10
    have h3 := g.lb10
    have : greatN l = false := by unfold greatN; rw [decide_eq_false (by omega), decide_eq_false (by omega), decide_eq_false (by omega)]; rfl
    rw [this, h]; rfl
set_option maxHeartbeats 800000 in
theorem lfine_ok (v : Value) (l : NL) (w : World) (hv : NLV w w.heap.size v l) :
    Calls Try.prog 34 #[v] w fun r w' => r = .returned (.bool (fineN l)) ∧ Below w.heap.size w w' := by
  obtain ⟨ka, kc, aa, ac, ba, bc, rfl, hna⟩ := hv
  have hC := NB.new hna
  have hB := (Below.refl w.heap.size w).alloc (Nat.le_refl _) (.cells #[.int .i64 l.n, .slice ka l.links.length kc, .slice aa l.left.length ac, .slice ba l.right.length bc] 25)
  go_enter Try.func34, Try.ntmps34
  go_upto_region 1 with (fail)
  generalize w.alloc (.cells #[.int .i64 l.n, .slice ka l.links.length kc, .slice aa l.left.length ac, .slice ba l.right.length bc] 25) = W at *
  obtain ⟨k0, k1, k2, k3⟩ := hC.blk.c4
  have hgr := lgreat_ok _ l W hC.v
  cases hg : greatN l
  · rw [hg] at hgr
    go_wp2_with fail
    refine hgr.mono ?_
    rintro e w2 ⟨rfl, hb2⟩
    have hB2 := hB.trans (hb2.mono hB.size)
    have hC2 := hC.call hb2
    have hck := rcheckList_ok _ l w2 hC2.v
    clear hgr k0 k1 k2 k3
    obtain ⟨k0, k1, k2, k3⟩ := hC2.blk.c4
    have HX : Hid (fineN l = decide (checkL l = 0)) := by rw [Hid]; unfold fineN; rw [hg]; rfl
    clear hg
    go_wp2_with fail
    refine hck.mono ?_
    rintro e w3 ⟨rfl, hb3⟩
    have hB3 := hB2.trans (hb3.mono hB2.size)
    clear hck k0 k1 k2 k3
    go_wp2
    go_ret
    exact ⟨ret_b (by rw [HX.out]; first | rfl | (rw [Bool.eq_iff_iff]; simp)), hB3⟩
  · rw [hg] at hgr
    have HX : Hid (fineN l = false) := by rw [Hid]; unfold fineN; rw [hg]; rfl
    clear hg
    go_wp2_with fail
    refine hgr.mono ?_
    rintro e w2 ⟨rfl, hb2⟩
    have hB2 := hB.trans (hb2.mono hB.size)
    clear hgr k0 k1 k2 k3
    go_wp2
    go_ret
    exact ⟨ret_b HX.out.symm, hB2⟩
end Go.Proofs.Ytpkccmohlcndgaa

namespace Go.Proofs.Ytpkccmohlcndgaa
open Go.RowKit Go.Shelf
set_option linter.unusedVariables false

set_option maxHeartbeats 800000 in
theorem linside_ok (av bv : Value) (a b : List Int) (w : World) (ha : Arr w w.heap.size 1 av a icell) (hb : Arr w w.heap.size 1 bv b icell) :
    Calls Try.prog 39 #[av, bv] w fun r w' => r = .returned (.bool (a.all fun x => b.contains x)) ∧ w' = w := by
  obtain ⟨aa, ac, rfl, ha1, ha2, -⟩ := id ha
  have hin := fun x => rin_ok bv b x w hb
  go_enter Try.func39, Try.ntmps39
  go_wp2
  go_loop [5] (fun i => ∃ k : Nat, k ≤ a.length ∧ i = .int .i64 k ∧ Hid ((a.all fun x => b.contains x) = (a.drop k).all fun x => b.contains x)) (fun i => a.length - (intOf i).toNat)
  case atStart => exact ⟨0, Nat.zero_le _, rfl, rfl⟩
  case round =>
    obtain ⟨k, hk, rfl, hq⟩ := hrel
    by_cases hlt : k < a.length
    · have d1 : decide (k < a.length) = true := decide_eq_true hlt
      have d1' : decide ((k : Int) < (a.length : Int)) = true := decide_eq_true (by omega)
      have hki : (k : Int) < (a.length : Int) := by omega
      obtain ⟨bb, off, x, rfl, hbl, hx, c0⟩ := numx_at ha hlt
      have hst : ((a.drop k).all fun x => b.contains x) = (b.contains x && (a.drop (k + 1)).all fun x => b.contains x) := by rw [drop_cons hx, List.all_cons]
      have hi := hin x
      cases hc : b.contains x
      · rw [hc] at hi
        have HX : Hid ((a.all fun x => b.contains x) = false) := by rw [Hid, hq.out, hst, hc]; rfl
        clear hst hx hc hq hin
        go_wp2_with fail
        refine hi.mono ?_
        rintro e w2 ⟨rfl, rfl⟩
        clear hi
        go_wp2
        go_ret
        exact ⟨ret_b (by rw [← HX.out]; try simp), rfl⟩
      · rw [hc] at hi
        have HN : Hid ((a.all fun x => b.contains x) = (a.drop (k + 1)).all fun x => b.contains x) := by rw [Hid, hq.out, hst, hc]; rfl
        clear hst hx hc hq hin
        go_wp2_with fail
        refine hi.mono ?_
        rintro e w2 ⟨rfl, rfl⟩
        clear hi
        go_wp2
        go_round
        case rel => exact ⟨k + 1, by omega, by go_num, HN⟩
        case measure => (simp [intOf]; try omega)
    · obtain rfl : k = a.length := by omega
      have d1 : decide (a.length < a.length) = false := by simp
      have HX : Hid ((a.all fun x => b.contains x) = true) := by rw [Hid, hq.out, List.drop_length]; rfl
      clear hq
      go_wp2
      go_ret
      exact ⟨ret_b (by rw [← HX.out]; try simp), rfl⟩
end Go.Proofs.Ytpkccmohlcndgaa
