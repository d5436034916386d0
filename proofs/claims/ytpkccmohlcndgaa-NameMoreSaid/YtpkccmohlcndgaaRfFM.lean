/- Contracts of the reference: cut. Contracts of the reference: Cut. -/
import Derived.Test.YtpkccmohlcndgaaRfCM
import Derived.Test.YtpkccmohlcndgaaPcN
namespace Go.Proofs.Ytpkccmohlcndgaa
open Go.RowKit Go.Shelf
set_option linter.unusedVariables false

/-- the names of a side, as the reference looks for them -/
def memS (S : List Int) (u : Nat) : Bool := S.contains (u : Int)
set_option maxHeartbeats 1600000 in
theorem rcut_ok (v sv : Value) (l : NL) (S : List Int) (w : World) (hg : Good l) (hv : NLV w w.heap.size v l) (hs : Arr w w.heap.size 1 sv S icell) :
    Calls Try.prog 64 #[v, sv] w fun r w' => ∃ cv, r = .returned (.tuple #[cv, .int .i64 (cutC l.L (memS S))]) ∧ Arr w' w'.heap.size 1 cv (intL (cutL l (memS S))) icell ∧ Below w.heap.size w w' := by
  obtain ⟨ka, kc, aa, ac, ba, bc, rfl, hna⟩ := hv
  have hC := NB.new hna
  have hB := (Below.refl w.heap.size w).alloc (Nat.le_refl _) (.cells #[.int .i64 l.n, .slice ka l.links.length kc, .slice aa l.left.length ac, .slice ba l.right.length bc] 25)
  go_enter Try.func64, Try.ntmps64
  go_upto_region 1 with (fail)
  generalize w.alloc (.cells #[.int .i64 l.n, .slice ka l.links.length kc, .slice aa l.left.length ac, .slice ba l.right.length bc] 25) = W at *
  have hS := (hs.below hB).more hB.size
  have HX := Lib.hid (show cutTo l (memS S) l.links.length = cutL l (memS S) from rfl)
  have HY := Lib.hid (show costTo l (memS S) l.links.length = cutC l.L (memS S) by unfold costTo cutC; rw [NL.len])
  have HIN := Lib.hid (fun (W' : World) (hb : Below W.heap.size W W') (u : Nat) => (rin_ok sv S (u : Int) W' (hS.call hb)).mono fun e w' h => (⟨h.1, by rw [h.2]; exact Below.refl _ _⟩ : e = .returned (.bool (memS S u)) ∧ Below W'.heap.size W' w'))
  have h120 := hg.few
  clear hS hs
  obtain ⟨m, hm⟩ : ∃ m, m = memS S := ⟨_, rfl⟩
  rw [← hm] at HX HY HIN
  have HM := Lib.hid hm
  clear hm
  go_wp2
  go_loopw [6, 7, 8] (fun sv cv i wr => ∃ (k : Nat) (A : Option Addr) (cap : Nat), k ≤ l.links.length ∧ i = .int .i64 k ∧ sv = .slice A (cutTo l m k).length cap ∧ cv = .int .i64 (costTo l m k) ∧ (0 ≤ costTo l m k ∧ costTo l m k ≤ 1000000 * (k : Int)) ∧ wr.ownsRow W.heap.size 3 1 (.slice A (cutTo l m k).length cap) (cutTo l m k).length ((intL (cutTo l m k)).map (Value.int .i64)) ∧ Below W.heap.size W wr) (fun _ _ i _ => l.links.length - (intOf i).toNat)
  case atStart => exact ⟨0, none, 0, Nat.zero_le _, rfl, rfl, rfl, by simp [costTo, isum], by simpa [cutTo, intL] using World.ownsRow_nil _ _ _ _, Below.refl _ _⟩
  case round =>
    obtain ⟨k, A, cap, hk, rfl, rfl, rfl, hcb, hown, hbw⟩ := hrel
    have hft := cutTo_succ l m k
    have hct := costTo_succ l m k
    have hfl := cutTo_len l m k
    have hCr := hC.call hbw
    obtain ⟨k0, k1, k2, k3⟩ := hCr.blk.c4
    by_cases hlt : k < l.links.length
    · have d2 : decide (k < l.links.length) = true := decide_eq_true hlt
      have d2' : decide ((k : Int) < (l.links.length : Int)) = true := decide_eq_true (by omega)
      have hki : (k : Int) < (l.links.length : Int) := by omega
      obtain ⟨a, b, t, h1, h2, h3, h4, h5, h6, h7⟩ := hg.lk_at hlt
      obtain ⟨kb, ko, x, rfl, kl, kx, c0, c1, c2⟩ := link_at hCr.na.ks hlt
      rw [h1] at kx
      injection kx with kx
      subst kx
      simp only [h2] at hft hct
      go_upto_region 7 with (fail)
      have hX := Blk.new wr 60 #[.int .i64 (a : Int), .int .i64 (b : Int), .int .i64 t]
      have hb1 := (Below.refl wr.heap.size wr).alloc (Nat.le_refl _) (.cells #[.int .i64 (a : Int), .int .i64 (b : Int), .int .i64 t] 60)
      have hown1 := own_call hown hb1
      have hAlt := own_block hown
      have hbw1 := hbw.trans (hb1.mono hbw.size)
      clear hown hCr c0 c1 c2 hb1 k0 k1 k2 k3
      generalize wr.alloc (.cells #[.int .i64 (a : Int), .int .i64 (b : Int), .int .i64 t] 60) = V at *
      have x0 := hX.cell 0
      have x1 := hX.cell 1
      simp at x0 x1
      have f0 := Ext.of x0
      have f1 := Ext.of x1
      have hia := fun y : Ext V => ext_call y (HIN.out y.w (hbw1.trans (y.h.mono hbw1.size)) a)
      have hib := fun y : Ext V => ext_call y (HIN.out y.w (hbw1.trans (y.h.mono hbw1.size)) b)
      by_cases hqq : m a = m b
      · have hq : (m a != m b) = false := by simp [hqq]
        rw [hq] at hft hct
        simp only [Bool.false_eq_true, if_false, Int.add_zero] at hft hct
        rw [← hqq] at hib
        have HIA := Lib.hid hia
        have HIB := Lib.hid hib
        clear hq hqq hia hib
        refine wp_region_ext (by kernel_rfl) (by kernel_rfl) ?_
        repeat (go_big_quiet_step ((first | (go_at_call 38; first | with_reducible exact HIA.out _ | with_reducible exact HIB.out _))))
        refine wpQuiet_nil ?_
        intro _ hw'
        obtain ⟨xr, hw''⟩ := hw'
        subst hw''
        have hown2 := own_call hown1 xr.h
        have hbw2 := hbw1.trans (xr.h.mono hbw1.size)
        rw [← hft] at hown2
        rw [← hft, ← hct]
        rw [← hct] at hcb
        clear hft hct hown1 hbw1 f0 f1 x0 x1 hX HIA HIB
        go_wp2
        go_roundw
        case rel => exact ⟨k + 1, _, _, by omega, by go_num, rfl, rfl, by omega, hown2, hbw2⟩
        case measure => (simp [intOf]; try omega)
      · have hq : (m a != m b) = true := by simp [hqq]
        rw [hq] at hft hct
        simp only [if_true] at hft hct
        have hqb : m b = !m a := by
          cases h1 : m a <;> cases h2 : m b <;> simp_all
        rw [hqb] at hib
        have HFT := Lib.hid hft
        have wc : IntKind.i64.wrap (costTo l m k + t) = costTo l m (k + 1) := by rw [hct]; exact wrap_id _ (by omega) (by omega)
        have hcb2 : 0 ≤ costTo l m (k + 1) ∧ costTo l m (k + 1) ≤ 1000000 * ((k + 1 : Nat) : Int) := by omega
        have HIA := Lib.hid hia
        have HIB := Lib.hid hib
        clear hq hqq hqb hft hct hcb hia hib
        refine wp_region_ext (by kernel_rfl) (by kernel_rfl) ?_
        repeat (go_big_quiet_step ((first | (go_at_call 38; first | with_reducible exact HIA.out _ | with_reducible exact HIB.out _))))
        refine wpQuiet_nil ?_
        intro _ hw'
        obtain ⟨xr, hw''⟩ := hw'
        subst hw''
        have hownq := own_call hown1 xr.h
        have hbwq := hbw1.trans (xr.h.mono hbw1.size)
        have hXq := hX.call xr.h
        have hx2 := hXq.cell 2
        have hszq := hbwq.size
        have hVw : wr.heap.size < xr.w.heap.size := hXq.lt
        clear f0 f1 x0 x1 hX HIA HIB hown1 hbw1
        obtain ⟨Z, hZ⟩ : ∃ Z : World, Z = xr.w := ⟨_, rfl⟩
        rw [← hZ] at hownq hbwq hXq hx2 hszq hVw ⊢
        clear hZ xr
        simp at hx2
        generalize hn0 : (cutTo l m k).length = n at *
        have HN0 := Lib.hid hn0
        clear hn0
        obtain ⟨-, hnc, hncm⟩ := own_cap hownq
        go_wp2_with (at_builtin; refine wpList_app1 slT_int rfl (.tmp 31) (.tmp 33) rfl (A := A) (cc := cap) rfl ⟨cap, hownq, .inl rfl⟩ rfl rfl one_1 hszq ?_ ?_ ?_)
        any_goals omega
        intro v4 w4' hown4 hb4' hkeep4
        have hown5 : w4'.ownsRow W.heap.size 3 1 v4 (cutTo l m (k + 1)).length ((intL (cutTo l m (k + 1))).map (Value.int .i64)) := by
          rw [HFT.out, intL_append, List.map_append, List.length_append, HN0.out]
          exact hown4
        have hbw2 := hbwq.trans hb4'
        obtain ⟨A4, c4, rfl⟩ := own_form hown5
        have hx3 : w4'.cell? ⟨wr.heap.size, 2, none⟩ = some (.int .i64 t) := by
          have hk := hkeep4 wr.heap.size hVw fun ad e => Nat.ne_of_lt (hAlt ad e)
          unfold World.cell? at hx2 ⊢
          rw [hk]
          exact hx2
        clear hown4 hb4' hkeep4 hownq hx2 hXq
        go_wp2
        go_roundw
        case rel => exact ⟨k + 1, _, _, by omega, by go_num, rfl, rfl, by omega, hown5, hbw2⟩
        case measure => (simp [intOf]; try omega)
    · obtain rfl : k = l.links.length := by omega
      have d2 : decide (l.links.length < l.links.length) = false := by simp
      rw [HX.out] at hown
      rw [HX.out, HY.out]
      have hB7 := hB.trans (hbw.mono hB.size)
      have hia : (intL (cutL l m)).length = (cutL l m).length := by simp [intL]
      have harr : Arr wr wr.heap.size 1 (.slice A (cutL l m).length cap) (intL (cutL l m)) icell := Arr.of_own (by rw [flat_int, hia]; exact hown)
      clear hown hft hct hfl hia hcb
      go_wp2
      go_ret2
      exact ⟨_, by rw [← HM.out]; rfl, by rw [← HM.out]; exact harr, hB7⟩
end Go.Proofs.Ytpkccmohlcndgaa

namespace Go.Proofs.Ytpkccmohlcndgaa
open Go.RowKit Go.Shelf
set_option linter.unusedVariables false

theorem memS_in {n : Int} {S : List Int} (hr : rises n S = true) : memS S = inS S := by
  funext u
  have h := (rises_nat hr).2.2
  unfold memS inS
  rw [Bool.eq_iff_iff, List.contains_iff_mem, List.contains_iff_mem]
  constructor
  · intro hu
    rw [h] at hu
    obtain ⟨x, hx, he⟩ := List.mem_map.1 hu
    have he' : (x : Int) = (u : Int) := he
    have : x = u := by omega
    exact this ▸ hx
  · intro hu
    rw [h]
    exact List.mem_map.2 ⟨u, hu, rfl⟩
theorem sideI_E {l : NL} {S : List Int} (g : Good l) (hr : rises l.n S = true) : sideI l S = !sideE l S := by
  have hx : ∀ x : Int, 0 ≤ x → S.contains x = inS S x.toNat := fun x h => by
    have := congrFun (memS_in hr) x.toNat
    rw [← this]
    unfold memS
    rw [show ((x.toNat : Nat) : Int) = x by omega]
  unfold sideI sideE
  rw [Bool.not_or, List.not_any_eq_all_not, List.not_any_eq_all_not]
  congr 1
  · rw [Bool.eq_iff_iff, List.all_eq_true, List.all_eq_true]
    constructor
    · intro h x hm
      rw [Bool.not_not, ← hx x (g.left_pos x hm)]
      exact h x hm
    · intro h x hm
      have := h x hm
      rw [Bool.not_not, ← hx x (g.left_pos x hm)] at this
      exact this
  · rw [Bool.eq_iff_iff, List.all_eq_true, List.all_eq_true]
    constructor
    · intro h x hm
      rw [← hx x (g.right_pos x hm)]
      exact h x hm
    · intro h x hm
      have := h x hm
      rw [← hx x (g.right_pos x hm)] at this
      exact this
set_option maxHeartbeats 800000 in
theorem rCut_ok (v sv : Value) (l : NL) (S : List Int) (w : World) (hv : NLV w w.heap.size v l) (hs : Arr w w.heap.size 1 sv S icell) :
    Calls Try.prog 25 #[v, sv] w fun r w' => ∃ cv, r = .returned (.tuple #[cv, .int .i64 (cutsC l S), .int .i64 (cutE l S)]) ∧ Arr w' w'.heap.size 1 cv (cutsL l S) icell ∧ Below w.heap.size w w' := by
  obtain ⟨ka, kc, aa, ac, ba, bc, rfl, hna⟩ := hv
  have hC := NB.new hna
  have hB := (Below.refl w.heap.size w).alloc (Nat.le_refl _) (.cells #[.int .i64 l.n, .slice ka l.links.length kc, .slice aa l.left.length ac, .slice ba l.right.length bc] 25)
  go_enter Try.func25, Try.ntmps25
  go_upto_region 1 with (fail)
  generalize w.alloc (.cells #[.int .i64 l.n, .slice ka l.links.length kc, .slice aa l.left.length ac, .slice ba l.right.length bc] 25) = W at *
  obtain ⟨k0, k1, k2, k3⟩ := hC.blk.c4
  have ho := rcheckList_ok _ l W hC.v
  go_wp2_with fail
  refine ho.mono ?_
  rintro e w1 ⟨rfl, hb⟩
  replace hB := hB.trans (hb.mono hB.size)
  replace hC := hC.call hb
  clear ho k0 k1 k2 k3 hb
  obtain ⟨k0, k1, k2, k3⟩ := hC.blk.c4
  by_cases h0 : checkL l = 0
  · have d0 : (checkL l != 0) = false := by simp [h0]
    have hg := check_good.1 h0
    have H0 := Lib.hid h0
    have hrs := rrising_ok sv S l.n w1 ((hs.below hB).more hB.size)
    clear h0
    cases hr : rises l.n S
    · rw [hr] at hrs
      have HE := Lib.hid (cutE_rises H0.out hr)
      have HL := Lib.hid (cuts_bad (S := S) (l := l) (by rw [cutE_rises H0.out hr]; decide))
      clear hr
      go_wp2_with fail
      refine hrs.mono ?_
      rintro e w2 ⟨rfl, hb2⟩
      have hB2 := hB.trans (hb2.mono hB.size)
      clear hrs k0 k1 k2 k3
      go_wp2
      go_ret3
      exact ⟨_, by rw [HE.out, HL.out.2]; rfl, by rw [HL.out.1]; exact Arr.nil_, hB2⟩
    · rw [hr] at hrs
      go_wp2_with fail
      refine hrs.mono ?_
      rintro e w2 ⟨rfl, hb2⟩
      have hB2 := hB.trans (hb2.mono hB.size)
      have hC2 := hC.call hb2
      clear hrs k0 k1 k2 k3
      obtain ⟨k0, k1, k2, k3⟩ := hC2.blk.c4
      have hsd := rside_ok _ sv l S w2 hC2.v ((hs.below hB2).more hB2.size)
      rw [sideI_E hg hr] at hsd
      cases hse : sideE l S
      · rw [hse] at hsd
        have hE0 := cutE_ok H0.out hr hse
        have HE := Lib.hid hE0
        have HL := Lib.hid (cuts_go hE0)
        have HM := Lib.hid (memS_in hr)
        clear hE0 hse hr
        go_wp2_with fail
        refine hsd.mono ?_
        rintro e w3 ⟨rfl, hb3⟩
        have hB3 := hB2.trans (hb3.mono hB2.size)
        have hC3 := hC2.call hb3
        have hct := rcut_ok _ sv l S w3 hg hC3.v ((hs.below hB3).more hB3.size)
        rw [HM.out, ← HL.out.1, ← HL.out.2] at hct
        clear hsd k0 k1 k2 k3
        obtain ⟨k0, k1, k2, k3⟩ := hC3.blk.c4
        go_wp2_with fail
        refine hct.mono ?_
        rintro e w4 ⟨cv, rfl, harr, hb4⟩
        have hB4 := hB3.trans (hb4.mono hB3.size)
        clear hct k0 k1 k2 k3
        go_wp2
        go_ret3
        exact ⟨_, by rw [HE.out]; rfl, harr, hB4⟩
      · rw [hse] at hsd
        have hE0 := cutE_side H0.out hr hse
        have HE := Lib.hid hE0
        have HL := Lib.hid (cuts_bad (S := S) (l := l) (by rw [hE0]; decide))
        clear hE0 hse hr
        go_wp2_with fail
        refine hsd.mono ?_
        rintro e w3 ⟨rfl, hb3⟩
        have hB3 := hB2.trans (hb3.mono hB2.size)
        clear hsd k0 k1 k2 k3
        go_wp2
        go_ret3
        exact ⟨_, by rw [HE.out, HL.out.2]; rfl, by rw [HL.out.1]; exact Arr.nil_, hB3⟩
  · have d0 : (checkL l != 0) = true := by simpa using h0
    have HE := Lib.hid (cutE_bad (S := S) h0)
    have HL := Lib.hid (cuts_bad (S := S) (l := l) (by rw [cutE_bad h0]; exact h0))
    have ho2 := rcheckList_ok _ l w1 hC.v
    clear h0
    go_wp2_with fail
    refine ho2.mono ?_
    rintro e w2 ⟨rfl, hb2⟩
    have hB2 := hB.trans (hb2.mono hB.size)
    clear ho2 k0 k1 k2 k3
    go_wp2
    go_ret3
    exact ⟨_, by rw [HE.out, HL.out.2]; rfl, by rw [HL.out.1]; exact Arr.nil_, hB2⟩
end Go.Proofs.Ytpkccmohlcndgaa
