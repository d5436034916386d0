/- Contract of the law NameTurned. -/
import Derived.Test.YtpkccmohlcndgaaNaQM
namespace Go.Proofs.Ytpkccmohlcndgaa
open Go.RowKit Go.Shelf
set_option linter.unusedVariables false

section
variable {l : NL}
theorem cost_of (g : Good l) {S : Nat → Bool} (h : Cheap l S) : cutC l.L S = costL l := by
  have h1 := h.2 _ (least_side g).1
  have h2 := (least_side g).2 _ h.1
  rw [cost_least]
  omega
theorem cost_swap (g : Good l) : costL (swapN l) = costL l := by
  have h := cheap_swap.1 (least_side g.swap)
  have h1 := cost_of g h
  rw [cut_neg] at h1
  exact h1
theorem cost_turn (g : Good l) : costL (turnN l) = costL l := by
  have h := cheap_turn.1 (least_side g.turn)
  have h1 := cost_of g h
  rw [← cut_turn] at h1
  exact h1
open Classical in
theorem leastB_turn (l : NL) : leastB (turnN l) = leastB l := by
  funext u
  exact decide_eq_decide.2 least_turn
open Classical in
theorem mostB_turn (l : NL) : mostB (turnN l) = mostB l := by
  funext u
  exact decide_eq_decide.2 most_turn
open Classical in
theorem leastB_swap (l : NL) (u : Nat) : leastB (swapN l) u = !mostB l u := by
  unfold leastB mostB
  rw [← decide_not]
  exact decide_eq_decide.2 least_swap
open Classical in
theorem mostB_swap (l : NL) (u : Nat) : mostB (swapN l) u = !leastB l u := by
  unfold leastB mostB
  rw [← decide_not]
  exact decide_eq_decide.2 most_swap
theorem sideV_swap (g : Good l) (u : Nat) : sideV (swapN l) u = -(sideV l u) := by
  unfold sideV
  rw [leastB_swap, mostB_swap]
  cases h1 : leastB l u
  · cases h2 : mostB l u <;> simp
  · rw [least_most2 g h1]; simp
theorem sideV_turn (l : NL) (u : Nat) : sideV (turnN l) u = sideV l u := by
  unfold sideV
  rw [leastB_turn, mostB_turn]
theorem sidesL_turn (l : NL) : sidesL (turnN l) = sidesL l := by
  apply List.ext_getElem?
  intro k
  by_cases hk : k < l.N
  · rw [sides_at l hk, sides_at (turnN l) hk, sideV_turn]
  · rw [List.getElem?_eq_none (by rw [sidesL_len]; show l.N ≤ k; omega), List.getElem?_eq_none (by rw [sidesL_len]; omega)]
theorem names_turn (l : NL) : namesOf (turnN l) (leastB (turnN l)) = namesOf l (leastB l) := by rw [leastB_turn]; rfl
theorem turn_links (l : NL) : (turnN l).links = backTo turnK l.links 0 := (backTo_all turnK l.links).symm
end
theorem slT_lk : SlT 22 60 3 24 (.agg #[.int .i64 0, .int .i64 0, .int .i64 0]) := ⟨Try.underlying22, by kernel_rfl, rfl, by omega⟩
/-- a world in which some cells read as they do -/
structure KeepL (cs : List (Addr × Value)) where
  w : World
  h : ∀ p ∈ cs, w.cell? p.1 = some p.2
theorem KeepL.at_ {cs : List (Addr × Value)} (x : KeepL cs) {a : Addr} {v : Value} (h : (a, v) ∈ cs) : x.w.cell? a = some v := x.h _ h

theorem KeepL.grown {cs : List (Addr × Value)} {w w' : World} {row : Option Nat} (h : ∀ p ∈ cs, w.cell? p.1 = some p.2) (hg : w.grownBy w' row) (hr : ∀ p ∈ cs, row ≠ some p.1.block) : ∀ p ∈ cs, w'.cell? p.1 = some p.2 := fun p hp =>
  (World.cell?_of_block (hg.block p.1.block (World.block_lt_of_cell? _ _ (h p hp)) fun e => hr p hp e.symm)).trans (h p hp)
theorem keep5 {w : World} {a1 a2 a3 a4 a5 : Addr} {v1 v2 v3 v4 v5 : Value} (h1 : w.cell? a1 = some v1) (h2 : w.cell? a2 = some v2) (h3 : w.cell? a3 = some v3) (h4 : w.cell? a4 = some v4) (h5 : w.cell? a5 = some v5) :
    ∀ p ∈ [(a1, v1), (a2, v2), (a3, v3), (a4, v4), (a5, v5)], w.cell? p.1 = some p.2 := by
  intro p hp
  simp only [List.mem_cons, List.not_mem_nil, or_false] at hp
  rcases hp with rfl | rfl | rfl | rfl | rfl <;> assumption
set_option maxRecDepth 100000 in
set_option maxHeartbeats 6400000 in
theorem nturned_ok (v : Value) (l : NL) (w : World) (hv : NLV w w.heap.size v l) :
    Calls Try.prog 10 #[v] w fun r w' => r = .returned (.bool true) ∧ Below w.heap.size w w' := by
  obtain ⟨ka, kc, aa, ac, ba, bc, rfl, hna⟩ := hv
  have hE := NB.new hna
  have hB := (Below.refl w.heap.size w).alloc (Nat.le_refl _) (.cells #[.int .i64 l.n, .slice ka l.links.length kc, .slice aa l.left.length ac, .slice ba l.right.length bc] 25)
  go_enter Try.func10, Try.ntmps10
  go_upto_region 1 with (fail)
  generalize hW : w.alloc (.cells #[.int .i64 l.n, .slice ka l.links.length kc, .slice aa l.left.length ac, .slice ba l.right.length bc] 25) = W at *
  clear hW
  have hfi := lfine_ok _ l W hE.v
  cases hg : fineN l
  · rw [hg] at hfi
    clear hg
    obtain ⟨k0, k1, k2, k3⟩ := hE.blk.c4
    go_wp2_with fail
    refine (hfi).mono ?_
    rintro e w1 hp
    clear k0 k1 k2 k3
    obtain ⟨rfl, hb⟩ := hp
    replace hE := hE.call hb
    replace hB := hB.trans ((hb).mono hB.size)
    clear hfi hb
    go_wp2_with fail
    refine (lworks_ok _).mono ?_
    rintro e wz ⟨rfl, hbz⟩
    have hBz := hB.trans (hbz.mono hB.size)
    go_wp2
    try rw [Exit.noGoto_ret]
    go_ret
    exact ⟨rfl, hBz⟩
  · rw [hg] at hfi
    have hc0 := fineN_iff.1 hg
    have hgd := check_good.1 hc0
    clear hg
    obtain ⟨k0, k1, k2, k3⟩ := hE.blk.c4
    go_wp2_with fail
    refine (hfi).mono ?_
    rintro e w1 hp
    clear k0 k1 k2 k3
    obtain ⟨rfl, hb⟩ := hp
    replace hE := hE.call hb
    replace hB := hB.trans ((hb).mono hB.size)
    clear hfi hb
    obtain ⟨k0, k1, k2, k3⟩ := hE.blk.c4
    have hWl := hE.blk.lt
    go_upto_region 4 with (fail)
    have hX := Blk.new w1 25 #[.int .i64 l.n, .slice ka l.links.length kc, .slice ba l.right.length bc, .slice aa l.left.length ac]
    have hb := (Below.refl w1.heap.size w1).alloc (Nat.le_refl _) (.cells #[.int .i64 l.n, .slice ka l.links.length kc, .slice ba l.right.length bc, .slice aa l.left.length ac] 25)
    replace hE := hE.call hb
    replace hB := hB.trans ((hb).mono hB.size)
    clear k0 k1 k2 k3 hb
    obtain ⟨gx, hgx⟩ : ∃ gx, gx = w1.heap.size := ⟨_, rfl⟩
    rw [← hgx] at hX hWl ⊢
    clear hgx
    generalize w1.alloc (.cells #[.int .i64 l.n, .slice ka l.links.length kc, .slice ba l.right.length bc, .slice aa l.left.length ac] 25) = w2 at *
    obtain ⟨k0, k1, k2, k3⟩ := hE.blk.c4
    go_upto_region 5 with (fail)
    have hY := Blk.new w2 25 #[.int .i64 l.n, .slice none 0 0, .slice aa l.left.length ac, .slice ba l.right.length bc]
    have hb := (Below.refl w2.heap.size w2).alloc (Nat.le_refl _) (.cells #[.int .i64 l.n, .slice none 0 0, .slice aa l.left.length ac, .slice ba l.right.length bc] 25)
    have hgxy := hX.lt
    replace hX := hX.call hb
    replace hE := hE.call hb
    replace hB := hB.trans ((hb).mono hB.size)
    clear k0 k1 k2 k3
    obtain ⟨gy, hgy⟩ : ∃ gy, gy = w2.heap.size := ⟨_, rfl⟩
    rw [← hgy] at hY hgxy ⊢
    clear hgy hb
    generalize w2.alloc (.cells #[.int .i64 l.n, .slice none 0 0, .slice aa l.left.length ac, .slice ba l.right.length bc] 25) = w3 at *
    have hl120 := hgd.few
    have hgy3 := hY.lt
    have w5 : IntKind.i64.wrap ((l.links.length : Int) - 1) = (l.links.length : Int) - 1 := wrap_id _ (by omega) (by omega)
    obtain ⟨k0, k1, k2, k3⟩ := hE.blk.c4
    go_upto_region 6 with (fail)
    clear w5 k0 k1 k2 k3
    have hown0 : w3.ownsRow w3.heap.size 60 3 (.slice none 0 0) 0 ((backTo turnK l.links l.links.length).flatMap (cellsOf 3 lkcell)) := by rw [backTo_end]; exact World.ownsRow_nil _ _ _ _
    go_loopw [5] (fun i wr => ∃ (k m : Nat) (yA : Option Addr) (yc : Nat), m + k = l.links.length ∧ i = .int .i64 ((k : Int) - 1) ∧ Blk wr gy 25 #[.int .i64 l.n, .slice yA m yc, .slice aa l.left.length ac, .slice ba l.right.length bc] ∧ wr.ownsRow w3.heap.size 60 3 (.slice yA m yc) m ((backTo turnK l.links k).flatMap (cellsOf 3 lkcell)) ∧ w3.grownBy wr (some gy)) (fun i _ => (intOf i + 1).toNat)
    case atStart => exact ⟨l.links.length, 0, none, 0, by omega, rfl, hY, hown0, World.grownBy.refl _ _⟩
    case round =>
      clear hown0
      obtain ⟨k, m, yA, yc, hmk, rfl, hYr, hown, hgr⟩ := hrel
      have hBr : Below w.heap.size w wr := ⟨hgr.os.trans hB.os, hgr.tape.trans hB.tape, hgr.output.trans hB.output, Nat.le_trans hB.size hgr.size, fun q hq => (hgr.block q (Nat.lt_of_lt_of_le hq hB.size) fun e => by injection e; omega).trans (hB.block q hq)⟩
      have hEr : NB wr w.heap.size l ka kc aa ac ba bc := ⟨hE.blk.grown hgr fun e => (by injection e; omega), (hna.below hBr).more hBr.size⟩
      have hXr := hX.grown hgr fun e => by injection e; omega
      cases k with
      | zero =>
        rw [show (((0 : Nat) : Int) - 1) = -1 from rfl]
        have d1 : decide ((0 : Int) ≤ -1) = false := by decide
        have hm : m = (turnN l).links.length := by
          rw [show (turnN l).links.length = ((l.links.map turnK).reverse).length from rfl, List.length_reverse, List.length_map]
          omega
        subst hm
        rw [← turn_links] at hown
        have hNY : NB wr gy (turnN l) yA yc aa ac ba bc := ⟨hYr, ⟨Arr.of_own hown, hEr.na.as_, hEr.na.bs⟩⟩
        have hNX : NB wr gx (swapN l) ka kc ba bc aa ac := ⟨hXr, ⟨hEr.na.ks, hEr.na.bs, hEr.na.as_⟩⟩
        replace hB := hBr
        replace hE := hEr
        have HL := Lib.hid (lstL_names hgd)
        have HLC := Lib.hid (lstC_eq hgd)
        have HTL := Lib.hid ((lstL_names hgd.turn).trans (congrArg intL (names_turn l)))
        have HTC := Lib.hid ((lstC_eq hgd.turn).trans (cost_turn hgd))
        have HXC := Lib.hid ((lstC_eq hgd.swap).trans (cost_swap hgd))
        have HC0 := Lib.hid hc0
        have HCT := Lib.hid (check_good.2 hgd.turn)
        have HCX := Lib.hid (check_good.2 hgd.swap)
        have HSD := Lib.hid (show sdsL l = sidesL l from if_pos hc0)
        have HST := Lib.hid ((show sdsL (turnN l) = sidesL (turnN l) from if_pos (check_good.2 hgd.turn)).trans (sidesL_turn l))
        have HSX := Lib.hid (show sdsL (swapN l) = sidesL (swapN l) from if_pos (check_good.2 hgd.swap))
        have HLN := Lib.hid (sidesL_len l)
        have HLX := Lib.hid (show (sidesL (swapN l)).length = l.N from sidesL_len (swapN l))
        have HAT := Lib.hid (fun k (h : k < l.N) => sides_at l h)
        have HAX := Lib.hid (fun k (h : k < l.N) => (sides_at (swapN l) (k := k) h).trans (congrArg some (sideV_swap hgd k)))
        have HVB := Lib.hid (fun k => show -1 ≤ sideV l k ∧ sideV l k ≤ 1 by unfold sideV; split <;> (try split) <;> omega)
        have hN40 : l.N ≤ 40 := by have := hgd.forty; have := hgd.nN; omega
        clear hX hY hYr hown hXr hEr hBr hmk hgr hc0
        go_upto_region 9 with (fail)
        have h1 := least_ok _ l wr hE.v
        rw [HL.out, HLC.out, HC0.out] at h1
        obtain ⟨k0, k1, k2, k3⟩ := hE.blk.c4
        go_wp2_with fail
        refine (h1).mono ?_
        rintro e w4 hp
        clear k0 k1 k2 k3
        obtain ⟨av, rfl, hA1, hb⟩ := hp
        obtain ⟨a1, a2, rfl, -⟩ := id hA1
        replace hE := hE.call hb
        replace hB := hB.trans ((hb).mono hB.size)
        replace hNX := hNX.call hb
        replace hNY := hNY.call hb
        clear hb h1
        have h1 := least_ok _ (swapN l) w4 hNX.v
        rw [HXC.out, HCX.out] at h1
        obtain ⟨k0, k1, k2, k3⟩ := (hNX).blk.c4
        go_wp2_with fail
        refine (h1).mono ?_
        rintro e w5 hp
        clear k0 k1 k2 k3
        obtain ⟨bv, rfl, -, hb⟩ := hp
        replace hE := hE.call hb
        replace hB := hB.trans ((hb).mono hB.size)
        replace hNX := hNX.call hb
        replace hNY := hNY.call hb
        replace hA1 := hA1.call hb
        clear hb h1
        have h1 := least_ok _ (turnN l) w5 hNY.v
        rw [HTL.out, HTC.out, HCT.out] at h1
        obtain ⟨k0, k1, k2, k3⟩ := (hNY).blk.c4
        go_wp2_with fail
        refine (h1).mono ?_
        rintro e w6 hp
        clear k0 k1 k2 k3
        obtain ⟨cv, rfl, hA2, hb⟩ := hp
        obtain ⟨b1, b2, rfl, -⟩ := id hA2
        replace hE := hE.call hb
        replace hB := hB.trans ((hb).mono hB.size)
        replace hNX := hNX.call hb
        replace hNY := hNY.call hb
        replace hA1 := hA1.call hb
        clear hb h1
        have h1 := sides_ok _ l w6 hE.v
        rw [HSD.out, HC0.out] at h1
        obtain ⟨k0, k1, k2, k3⟩ := hE.blk.c4
        go_wp2_with fail
        refine (h1).mono ?_
        rintro e w7 hp
        clear k0 k1 k2 k3
        obtain ⟨dv, rfl, hS1, hb⟩ := hp
        obtain ⟨c1, c2, rfl, -⟩ := id hS1
        replace hE := hE.call hb
        replace hB := hB.trans ((hb).mono hB.size)
        replace hNX := hNX.call hb
        replace hNY := hNY.call hb
        replace hA1 := hA1.call hb
        replace hA2 := hA2.call hb
        clear hb h1
        have h1 := sides_ok _ (swapN l) w7 hNX.v
        rw [HSX.out, HCX.out] at h1
        obtain ⟨k0, k1, k2, k3⟩ := (hNX).blk.c4
        go_wp2_with fail
        refine (h1).mono ?_
        rintro e w8 hp
        clear k0 k1 k2 k3
        obtain ⟨ev, rfl, hS2, hb⟩ := hp
        obtain ⟨e1, e2, rfl, -⟩ := id hS2
        replace hE := hE.call hb
        replace hB := hB.trans ((hb).mono hB.size)
        replace hNY := hNY.call hb
        replace hA1 := hA1.call hb
        replace hA2 := hA2.call hb
        replace hS1 := hS1.call hb
        clear hb h1 hNX
        have h1 := sides_ok _ (turnN l) w8 hNY.v
        rw [HST.out, HCT.out] at h1
        obtain ⟨k0, k1, k2, k3⟩ := (hNY).blk.c4
        go_wp2_with fail
        refine (h1).mono ?_
        rintro e w9 hp
        clear k0 k1 k2 k3
        obtain ⟨fv, rfl, hS3, hb⟩ := hp
        obtain ⟨f1, f2, rfl, -⟩ := id hS3
        replace hE := hE.call hb
        replace hB := hB.trans ((hb).mono hB.size)
        replace hA1 := hA1.call hb
        replace hA2 := hA2.call hb
        replace hS1 := hS1.call hb
        replace hS2 := hS2.call hb
        clear hb h1 hNY
        rw [HLN.out] at hS1 hS3 ⊢
        rw [HLX.out] at hS2 ⊢
        have q1 : (costL l != costL l) = false := by simp
        have q2 : ((l.N : Int) != (l.N : Int)) = false := by simp
        generalize namesOf l (leastB l) = nn at *
        generalize costL l = cl at *
        go_wp2_with fail
        refine (intsT _ _ (intL nn) w9 hA1 hA2).mono ?_
        rintro e w10 ⟨rfl, hb⟩
        replace hE := hE.call hb
        replace hB := hB.trans ((hb).mono hB.size)
        replace hS1 := hS1.call hb
        replace hS2 := hS2.call hb
        replace hS3 := hS3.call hb
        clear hb hA1 hA2 q1
        go_wp2_with fail
        refine (intsT _ _ (sidesL l) w10 hS1 hS3).mono ?_
        rintro e w11 ⟨rfl, hb⟩
        replace hE := hE.call hb
        replace hB := hB.trans ((hb).mono hB.size)
        replace hS1 := hS1.call hb
        replace hS2 := hS2.call hb
        clear hb hS3
        go_wp2
        go_loopw [21] (fun i wr => ∃ k : Nat, k ≤ l.N ∧ i = .int .i64 k ∧ Below w11.heap.size w11 wr) (fun i _ => l.N - (intOf i).toNat)
        case atStart => exact ⟨0, Nat.zero_le _, rfl, Below.refl _ _⟩
        case round =>
          obtain ⟨k, hk, rfl, hr⟩ := hrel
          by_cases hlt : k < l.N
          · have d2 : decide (k < l.N) = true := decide_eq_true hlt
            have d2' : decide ((k : Int) < (l.N : Int)) = true := decide_eq_true (by omega)
            have hki : (k : Int) < (l.N : Int) := by omega
            obtain ⟨sb, so, x, rfl, hsb, hx, c0⟩ := numx_at (hS1.call hr) (k := k) (by rw [HLN.out]; exact hlt)
            obtain ⟨tb, ty, y, rfl, htb, hy, c1⟩ := numx_at (hS2.call hr) (k := k) (by rw [HLX.out]; exact hlt)
            rw [HAT.out k hlt] at hx
            rw [HAX.out k hlt] at hy
            injection hx with hx
            injection hy with hy
            have hvb := HVB.out k
            rw [hx] at hvb hy
            subst hy
            have wn : IntKind.i64.wrap (-(-x)) = x := by rw [Int.neg_neg]; exact wrap_id _ (by omega) (by omega)
            have wn' : wrap64 (-(-x)) = x := by rw [Int.neg_neg]; exact IntWalk.wrap64_in _ ⟨by omega, by omega⟩
            have wn2 : IntKind.i64.wrap x = x := wrap_id _ (by omega) (by omega)
            have e3 : (x != x) = false := by simp
            have f0 := Ext.of c0
            have f1 := Ext.of c1
            clear hx hvb
            go_upto_region 20 with (fail)
            clear c0 c1
            refine wp_region_ext (by kernel_rfl) (by kernel_rfl) ?_
            repeat (go_big_quiet_step (fail))
            refine wpQuiet_nil ?_
            intro _ hw'
            obtain ⟨xr, hw''⟩ := hw'
            subst hw''
            have hr2 := hr.trans (xr.h.mono hr.size)
            go_wp2
            go_roundw
            case rel => exact ⟨k + 1, by omega, by go_num, hr2⟩
            case measure => (simp [intOf]; try omega)
          · obtain rfl : k = l.N := by omega
            have d2 : decide (l.N < l.N) = false := by simp
            replace hB := hB.trans (hr.mono hB.size)
            clear hr
            go_wp2_with fail
            refine (lworks_ok _).mono ?_
            rintro e wz ⟨rfl, hbz⟩
            have hBz := hB.trans (hbz.mono hB.size)
            go_wp2
            try rw [Exit.noGoto_ret]
            go_ret
            exact ⟨rfl, hBz⟩
      | succ j =>
        rw [show (((j + 1 : Nat) : Int) - 1) = (j : Int) by omega]
        have hjl : j < l.links.length := by omega
        have hji : (j : Int) < (l.links.length : Int) := by omega
        have d1 : decide ((0 : Int) ≤ (j : Int)) = true := decide_eq_true (by omega)
        obtain ⟨kb, ko, x, rfl, hkb, hx, c0, c1, c2⟩ := link_at hEr.na.ks hjl
        have hst := backTo_step turnK hx
        obtain ⟨k0, k1, k2, k3⟩ := hEr.blk.c4
        have y1 := hYr.cell 1
        simp at y1
        go_upto_region 8 with (fail)
        have hkM : kb < w.heap.size := by
          obtain ⟨kb2, ko2, x2, hq2, h2, -⟩ := link_at hna.ks hjl
          have : kb = kb2 := by injection hq2 with h; injection h
          omega
        have hq0 := keep5 y1 k1 c0 c1 c2
        obtain ⟨cs, hcs⟩ : ∃ cs : List (Addr × Value), cs = [((⟨gy, 1, none⟩ : Addr), Value.slice yA m yc), (⟨w.heap.size, 1, none⟩, .slice (some ⟨kb, ko, none⟩) l.links.length kc), (⟨kb, ko + j * 3, none⟩, .int .i64 x.one), (⟨kb, ko + j * 3 + 1, none⟩, .int .i64 x.two), (⟨kb, ko + j * 3 + 2, none⟩, .int .i64 x.trust)] := ⟨_, rfl⟩
        rw [← hcs] at hq0
        have f0 : ∀ z : KeepL cs, z.w.cell? ⟨gy, 1, none⟩ = some (.slice yA m yc) := fun z => z.at_ (by rw [hcs]; simp)
        have f1 : ∀ z : KeepL cs, z.w.cell? ⟨w.heap.size, 1, none⟩ = some (.slice (some ⟨kb, ko, none⟩) l.links.length kc) := fun z => z.at_ (by rw [hcs]; simp)
        have f2 : ∀ z : KeepL cs, z.w.cell? ⟨kb, ko + j * 3, none⟩ = some (.int .i64 x.one) := fun z => z.at_ (by rw [hcs]; simp)
        have f3 : ∀ z : KeepL cs, z.w.cell? ⟨kb, ko + j * 3 + 1, none⟩ = some (.int .i64 x.two) := fun z => z.at_ (by rw [hcs]; simp)
        have f4 : ∀ z : KeepL cs, z.w.cell? ⟨kb, ko + j * 3 + 2, none⟩ = some (.int .i64 x.trust) := fun z => z.at_ (by rw [hcs]; simp)
        have HCS := Lib.hid hcs
        clear hcs
        have hq1 : ∀ p ∈ cs, wr.drew.cell? p.1 = some p.2 := hq0
        refine wp_region_sched (C := fun w' => ∃ z : KeepL cs, w' = z.w) [(0, true), (1, true), (2, true), (3, true), (4, true), (5, true), (6, true), (7, true), (8, true), (9, true), (10, true), (11, true), (12, true), (13, true), (14, true), (15, true), (16, true), (17, true), (18, true), (19, true), (20, true), (21, false), (22, false), (23, true), (24, false)] (by kernel_rfl) (by kernel_rfl) ⟨⟨wr.drew, hq1⟩, rfl⟩ ?_
        have hdr := (Below.refl wr.heap.size wr).drew
        have hownd := own_call hown hdr
        have hYd := hYr.call hdr
        have hgrd : w3.grownBy wr.drew (some gy) := grown_below hgr (Below.mono hdr hgr.size)
        clear hown hYr hgr hdr hq0 k0 k1 k2 k3 c0 c1 c2 y1 hEr hXr hBr
        generalize wr.drew = wd at *
        haveI : Nonempty (KeepL cs) := ⟨⟨wd, hq1⟩⟩
        refine sched_q (by rfl) (by rfl) ?_
        intro K hK
        go_big_quiet_op
        go_big_quiet_on
        refine sched_q (by rfl) (by rfl) ?_
        intro K hK
        go_big_quiet_op
        go_big_quiet_on
        refine sched_q (by rfl) (by rfl) ?_
        intro K hK
        go_big_quiet_op
        go_big_quiet_on
        refine sched_q (by rfl) (by rfl) ?_
        intro K hK
        go_big_quiet_op
        go_big_quiet_on
        refine sched_q (by rfl) (by rfl) ?_
        intro K hK
        go_big_quiet_op
        go_big_quiet_on
        refine sched_q (by rfl) (by rfl) ?_
        intro K hK
        go_big_quiet_op
        go_big_quiet_on
        refine sched_q (by rfl) (by rfl) ?_
        intro K hK
        go_big_quiet_op
        go_big_quiet_on
        refine sched_q (by rfl) (by rfl) ?_
        intro K hK
        go_big_quiet_op
        go_big_quiet_on
        refine sched_q (by rfl) (by rfl) ?_
        intro K hK
        go_big_quiet_op
        go_big_quiet_on
        refine sched_q (by rfl) (by rfl) ?_
        intro K hK
        go_big_quiet_op
        go_big_quiet_on
        refine sched_q (by rfl) (by rfl) ?_
        intro K hK
        go_big_quiet_op
        go_big_quiet_on
        refine sched_q (by rfl) (by rfl) ?_
        intro K hK
        go_big_quiet_op
        go_big_quiet_on
        refine sched_q (by rfl) (by rfl) ?_
        intro K hK
        go_big_quiet_op
        go_big_quiet_on
        refine sched_q (by rfl) (by rfl) ?_
        intro K hK
        go_big_quiet_op
        go_big_quiet_on
        refine sched_q (by rfl) (by rfl) ?_
        intro K hK
        go_big_quiet_op
        go_big_quiet_on
        refine sched_q (by rfl) (by rfl) ?_
        intro K hK
        go_big_quiet_op
        go_big_quiet_on
        refine sched_q (by rfl) (by rfl) ?_
        intro K hK
        go_big_quiet_op
        go_big_quiet_on
        refine sched_q (by rfl) (by rfl) ?_
        intro K hK
        go_big_quiet_op
        go_big_quiet_on
        refine sched_q (by rfl) (by rfl) ?_
        intro K hK
        go_big_quiet_op
        go_big_quiet_on
        refine sched_q (by rfl) (by rfl) ?_
        intro K hK
        go_big_quiet_op
        go_big_quiet_on
        refine sched_q (by rfl) (by rfl) ?_
        intro K hK
        go_big_quiet_op
        go_big_quiet_on
        refine sched_c (by rfl) (by rfl) ?_
        intro K' hK'
        go_wp2
        refine hK' _ _ ⟨.inr ⟨⟨_, KeepL.grown hq1 (World.grownBy_alloc wd _ none) fun p _ e => by cases e⟩, rfl⟩, ?_⟩
        clear hK' K'
        refine sched_c (by rfl) (by rfl) ?_
        intro K' hK'
        have hszd : w3.heap.size ≤ wd.heap.size := hgrd.size
        refine wpList_app2 slT_lk rfl (.tmp 51) (.tmp 71) rfl (sv := .slice yA m yc) rfl hownd rfl rfl one_3 hszd (by omega) (by omega) ?_
        intro v4 w4 hown4 hg4 hat4
        have hq4 : ∀ p ∈ cs, w4.cell? p.1 = some p.2 := KeepL.grown hq1 hg4 fun p hp e => by
          have h4 := (hownd.lt _ e).1
          rw [HCS.out] at hp
          simp only [List.mem_cons, List.not_mem_nil, or_false] at hp
          rcases hp with rfl | rfl | rfl | rfl | rfl <;> (dsimp only at h4; omega)
        have hY4 : Blk w4 gy 25 _ := hYd.grown hg4 fun e => by have := (hownd.lt _ e.symm).1; omega
        have hgr4 : w3.grownBy w4 (some gy) := ⟨hg4.os.trans hgrd.os, hg4.tape.trans hgrd.tape, hg4.output.trans hgrd.output, Nat.le_trans hgrd.size hg4.size, fun q hq hr => (hg4.block q (Nat.lt_of_lt_of_le hq hgrd.size) fun e => by have := (hownd.lt _ e.symm).1; omega).trans (hgrd.block q hq hr)⟩
        have hown5 : w4.ownsRow w3.heap.size 60 3 v4 (m + 1) ((backTo turnK l.links j).flatMap (cellsOf 3 lkcell)) := by
          rw [hst, List.flatMap_append]
          exact hown4
        obtain ⟨yA4, yc4, rfl⟩ := own_form hown5
        have z1 := hY4.cell 1
        have z2 := hY4.frozen 1
        simp at z1
        have hY5 := hY4.set_ 1 (.slice yA4 (m + 1) yc4)
        have hgr5 : w3.grownBy (w4.setCell ⟨gy, 1, none⟩ (.slice yA4 (m + 1) yc4)) (some gy) := grown_trans' hgr4 (grown_setCell _)
        have hown6 := own_low (b := gy) (o := 1) (y := .slice yA4 (m + 1) yc4) hown5 hgy3
        clear hown4 hg4 hat4 hownd hYd hgrd hY4 hgr4 hown5
        go_wp2
        refine hK' _ _ ⟨.inr ⟨⟨w4, hq4⟩, rfl⟩, ?_⟩
        clear hK' K'
        refine sched_q (by rfl) (by rfl) ?_
        intro K hK
        go_big_quiet_op
        go_big_quiet_on
        refine sched_c (by rfl) (by rfl) ?_
        intro K' hK'
        go_wp2
        refine hK' _ _ ⟨(by first | exact .inl rfl | exact .inl trivial), ?_⟩
        clear hK' K'
        refine sched_nil ?_
        clear f0 f1 f2 f3 f4 this hq1 hq4 z1 z2 HCS
        go_wp2
        go_roundw
        case rel => exact ⟨j, m + 1, yA4, yc4, by omega, rfl, by simpa using hY5, hown6, hgr5⟩
        case measure => (simp [intOf]; try omega)
end Go.Proofs.Ytpkccmohlcndgaa
