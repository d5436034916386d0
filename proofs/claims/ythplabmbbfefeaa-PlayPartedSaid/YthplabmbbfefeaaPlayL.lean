/- Contract: play.Kinds. -/
import Derived.Test.YthplabmbbfefeaaPlayK
import Derived.Test.YthplabmbbfefeaaPlayE
namespace Go.Proofs.Ythplabmbbfefeaa
open Go.RowKit Go.Shelf
set_option linter.unusedVariables false

theorem Arr.of_own_int {w : World} {base : Nat} {v : Value} {n : Nat} {l : List Int} (hn : n = l.length) (h : w.ownsRow base 3 1 v n (l.map (Value.int .i64))) : Arr w w.heap.size 1 v l icell := by
  subst hn
  rw [← flat_int] at h
  exact Arr.of_own h
theorem tabC_bound2 (c : Cyl) (ws : Nat → Int) (h : checkCyl c = 0) (hlen : c.pas.length ≤ 12) (hws : ∀ i, -100000 ≤ ws i ∧ ws i ≤ 100000) : -36000000 ≤ tabC c ws (tT c) (tK c) ∧ tabC c ws (tT c) (tK c) ≤ 36000000 := by
  have hT := (cyl_nat h).1
  have hn := (cyl_nat h).2.2.2.1
  have hb := tabN_bound (endC c ws) 1200000 (by omega) (endsOf_fit ws c (tT c) hws hlen) (tK c) (tT c) (tT c) (tK c)
  have hb' : -(1200000 * (tT c : Int)) ≤ tabC c ws (tT c) (tK c) ∧ tabC c ws (tT c) (tK c) ≤ 1200000 * (tT c : Int) := hb
  omega

def KindsPost (c : Cyl) (m : Int) (w : World) (r : Ending) (w' : World) : Prop :=
  ∃ ov, r = .returned (.tuple #[ov, .int .i64 (checkCyl c)]) ∧ Arr w' w'.heap.size 1 ov (kindsOf c m) icell ∧ Below w.heap.size w w'

set_option maxRecDepth 100000 in
set_option maxHeartbeats 1600000 in
theorem kinds_ok (v : Value) (c : Cyl) (w : World) (hv : CylV w w.heap.size v c) :
    Calls Try.prog 30 #[v] w (KindsPost c 24000 w) := by
  obtain ⟨fa, fc, pa, pc, rfl, hf, hp⟩ := hv.open_
  have hC := CB.new hf hp
  have hB := (Below.refl w.heap.size w).alloc (Nat.le_refl _) (.cells #[.int .i64 c.turns, .int .i64 c.long, .int .i64 c.plays, .slice fa c.frag.length fc, .slice pa c.pas.length pc] 25)
  go_enter Try.func30, Try.ntmps30
  go_upto_region 1 with (fail)
  generalize hW : w.alloc (.cells #[.int .i64 c.turns, .int .i64 c.long, .int .i64 c.plays, .slice fa c.frag.length fc, .slice pa c.pas.length pc] 25) = W at *
  clear hW hf hp
  obtain ⟨k0, k1, k2, k3, k4⟩ := hC.c5
  go_wp2_with fail
  refine (checkCyl_ok _ c _ hC.cyl).mono ?_
  rintro e w1 ⟨rfl, hb1⟩
  have hB1 := hB.trans (hb1.mono hB.size)
  have hC1 := hC.call hb1
  clear k0 k1 k2 k3 k4
  obtain ⟨k0, k1, k2, k3, k4⟩ := hC1.c5
  by_cases h0 : checkCyl c = 0
  case neg =>
    have hn1 : (checkCyl c == 0) = false := by simpa using h0
    have hn2 : (checkCyl c != 0) = true := by simpa using h0
    have HC : Hid (kindsOf c 24000 = []) := by simp [Hid, kindsOf, h0]
    clear h0
    go_wp2
    go_ret2
    exact ⟨_, rfl, by rw [HC.out]; exact Arr.nil_, hB1⟩
  case pos =>
    have HC : Hid (kindsOf c 24000 = (List.range c.pas.length).map (kindOf c 24000)) := by simp [Hid, kindsOf, h0]
    have H0 := Lib.hid h0
    obtain ⟨_, _, hlen, hall⟩ := cyl_valid h0
    have HALL := Lib.hid hall
    obtain ⟨n1, n2, n3, n4, n5, n6, n7⟩ := cyl_nat h0
    have N1 := Lib.hid n1
    have N2 := Lib.hid n2
    clear hall n1 n2
    rw [h0]
    clear h0
    go_wp2_with fail
    refine (newBoard_ok _ c _ hC1.cyl).mono ?_
    rintro e w2 ⟨rfl, hbd2, hsz2, hb2⟩
    have hB2 := hB1.trans (hb2.mono hB1.size)
    have hC2 := hC1.call hb2
    have hgle : w.heap.size < w1.heap.size + 1 := by have := hB1.size; omega
    clear k0 k1 k2 k3 k4
    obtain ⟨B, hBB⟩ : ∃ B, B = w1.heap.size := ⟨_, rfl⟩
    obtain ⟨g, hgg⟩ : ∃ g, g = w1.heap.size + 1 := ⟨_, rfl⟩
    replace hsz2 : w2.heap.size = g + 1 := by omega
    rw [← hgg, ← hBB] at hbd2
    rw [← hgg] at hgle ⊢
    clear hgg hBB
    go_upto_region 5 with (fail)
    have hbb := Blk.new w2 78 #[.pointer (some ⟨g, 0, none⟩)]
    have hbx := (Below.refl w2.heap.size w2).alloc (Nat.le_refl _) (.cells #[.pointer (some ⟨g, 0, none⟩)] 78)
    have hszx : (w2.alloc (.cells #[.pointer (some ⟨g, 0, none⟩)] 78)).heap.size = g + 2 := by simp [hsz2]
    have hC2x := hC2.call hbx
    have hB2x := hB2.trans (hbx.mono hB2.size)
    have hbd2x : BoardAt (w2.alloc (.cells #[.pointer (some ⟨g, 0, none⟩)] 78)) B g c (fun _ _ => 0) (.map none) := hbd2.elim fun a h => h.elim fun b h => h.elim fun d h => h.elim fun e h => ⟨a, b, d, e, h.call hbx⟩
    rw [hsz2] at hbb
    clear hbd2 hC2 hB2 hbx
    generalize w2.alloc (.cells #[.pointer (some ⟨g, 0, none⟩)] 78) = wx at *
    have z1 := hbb.cell 0
    simp at z1
    go_wp2_with fail
    refine (fill_ok (tT c) (tK c) B g c N1.out n4 (by have := N1.out; omega) N2.out n5 _ _ wx hbd2x 52 _ _ (ownW c.pas) (gives_own _ _ _ _) (fun i => by have := ownW_bound HALL.out i; omega) hlen).mono ?_
    rintro e w3 ⟨rfl, gm, hgm, hbd3, hm3, hgr3⟩
    have hb3 : Below g wx w3 := (Below.refl g wx).grown hgr3 (by omega) (fun k hk => by injection hk with hk; omega)
    have hB3 := hB2x.trans (hb3.mono (Nat.le_of_lt hgle))
    have hC3 := hC2x.belowB hb3 hgle
    have hbb3 := hbb.grown hgr3 (by simp)
    have hsz3 := hgr3.size
    clear hbd2x hgr3 hb3 hC2x hB2x hbb z1 hm3
    have z1 := hbb3.cell 0
    simp at z1
    go_wp2_with fail
    refine (most_ok B g (tT c) (tK c) c _ _ w3 hbd3 (by omega) (by omega) N1.out N2.out).mono ?_
    rintro e w4 ⟨rfl, hb4⟩
    have hB4 := hB3.trans (hb4.mono hB3.size)
    have hC4 := hC3.call hb4
    have hbb4 := hbb3.call hb4
    have hbd4 := hbd3.elim fun a h => h.elim fun b h => h.elim fun d h => h.elim fun e h => (⟨a, b, d, e, h.call hb4⟩ : BoardAt w4 B g c _ _)
    have hbd4' : ∃ V m, BoardAt w4 B g c V m := ⟨_, _, hbd4⟩
    have hsz4 : w3.heap.size ≤ w4.heap.size := hb4.size
    obtain ⟨k0, k1, k2, k3, k4⟩ := hC4.c5
    have hmo : Hid (tabN (endsOf (ownW c.pas) c.pas (allStr c (tT c))) (tK c) (tT c) (tT c) (tK c) = mostOf c) := rfl
    rw [hmo.out]
    obtain ⟨mo, hmo2⟩ : ∃ mo, mostOf c = mo := ⟨_, rfl⟩
    rw [hmo2]
    have HMO := Lib.hid hmo2
    clear hmo2 hmo
    clear hbd3 hbd4 hbb3 hC3 hB3 z1
    go_wp2
    go_loopw [7, 28] (fun o i wr => ∃ (k : Nat) (A : Option Addr) (cap : Nat), k ≤ c.pas.length ∧ i = .int .i64 k ∧ o = .slice A k cap ∧ wr.ownsRow w3.heap.size 3 1 (.slice A k cap) k ((((List.range k).map (kindOf c 24000))).map (Value.int .i64)) ∧ CB wr w.heap.size w.heap.size c fa fc pa pc ∧ Blk wr (g + 1) 78 #[.pointer (some ⟨g, 0, none⟩)] ∧ (∃ V m, BoardAt wr B g c V m) ∧ Below w.heap.size w wr ∧ w3.heap.size ≤ wr.heap.size) (fun _ i _ => c.pas.length - (intOf i).toNat)
    case atStart => exact ⟨0, none, 0, Nat.zero_le _, rfl, rfl, by simpa using World.ownsRow_nil _ _ _ _, hC4, hbb4, hbd4', hB4, hsz4⟩
    case round =>
      obtain ⟨k, A, cap, hk, rfl, rfl, hown, hCr, hbbr, hbdr, hBr, hszr⟩ := hrel
      have hcap := own_cap hown
      by_cases hlt : k < c.pas.length
      · have dlt : decide (k < c.pas.length) = true := by simpa using hlt
        have dlt' : decide ((k : Int) < (c.pas.length : Int)) = true := by simpa using hlt
        obtain ⟨wo, rfl⟩ : ∃ wo : World, wo = wr := ⟨_, rfl⟩
        clear k0 k1 k2 k3 k4
        go_upto_region 12 with (fail)
        have hi := Blk.new wo 3 #[.int .i64 k]
        have hbi := (Below.refl wo.heap.size wo).alloc (Nat.le_refl _) (.cells #[.int .i64 k] 3)
        have hCi := hCr.call hbi
        have hbbi := hbbr.call hbi
        have hbdi : ∃ V m, BoardAt (wo.alloc (.cells #[.int .i64 k] 3)) B g c V m := hbdr.elim fun V h => h.elim fun m h => h.elim fun a h => h.elim fun b h => h.elim fun d h => h.elim fun e h => ⟨V, m, a, b, d, e, h.call hbi⟩
        have howni := own_call hown hbi
        have hBi := hBr.trans (hbi.mono hBr.size)
        have hszi : wo.heap.size < (wo.alloc (.cells #[.int .i64 k] 3)).heap.size := by simp
        clear hown hCr hbbr hbdr hBr hbi
        generalize wo.alloc (.cells #[.int .i64 k] 3) = wi at *
        have eg := enters_of Try.func59 (by kernel_rfl) rfl
        obtain ⟨V, m, hbdi⟩ := hbdi
        have hb1 := tabC_bound2 c (addW (ownW c.pas) k 24000) H0.out hlen (fun j => by have := ownW_bound HALL.out j; unfold addW; split <;> omega)
        have hb2 := tabC_bound2 c (addW (ownW c.pas) k (-24000)) H0.out hlen (fun j => by have := ownW_bound HALL.out j; unfold addW; split <;> omega)
        obtain ⟨x1, hx1⟩ : ∃ x1, tabC c (addW (ownW c.pas) k 24000) (tT c) (tK c) = x1 := ⟨_, rfl⟩
        obtain ⟨x2, hx2⟩ : ∃ x2, tabC c (addW (ownW c.pas) k (-24000)) (tT c) (tK c) = x2 := ⟨_, rfl⟩
        rw [hx1] at hb1
        rw [hx2] at hb2
        obtain ⟨l1, l2⟩ := hb1
        obtain ⟨l3, l4⟩ := hb2
        have e1 : IntKind.i64.wrap (x1 - 24000) = x1 - 24000 := wrap_id _ (by omega) (by omega)
        have HX1 := Lib.hid hx1
        have HX2 := Lib.hid hx2
        clear hx1 hx2
        go_wp2_with fail
        refine (changed_ok 24000 B g wo.heap.size (g + 1) k c V m wi hbdi H0.out (by omega) (by omega) (by omega) (by omega) hi hbbi).mono ?_
        rintro e w5 ⟨rfl, ⟨V5, m5, hbd5⟩, hgr5⟩
        rw [HX1.out]
        have hC5 := hCi.belowB ((Below.refl g wi).grown hgr5 (by omega) (fun k hk => by injection hk with hk; omega)) hgle
        have hbb5 := hbbi.grown hgr5 (by simp)
        have hi5 := hi.grown hgr5 (by simp; omega)
        have hown5 := howni.kept hgr5 (own_far howni (by omega))
        have hB5 : Below w.heap.size w w5 := hBi.trans ((Below.refl _ wi).grown hgr5 hBi.size (fun k hk => by injection hk with hk; omega))
        have hsz5 : w3.heap.size ≤ w5.heap.size := Nat.le_trans (by omega) hgr5.size
        have hszw5 := hgr5.size
        clear hbdi hCi hbbi hi howni hBi hgr5
        go_wp2_with fail
        refine (changed_ok (-24000) B g wo.heap.size (g + 1) k c V5 m5 w5 hbd5 H0.out (by omega) (by omega) (by omega) (by omega) hi5 hbb5).mono ?_
        rintro e w6 ⟨rfl, ⟨V6, m6, hbd6⟩, hgr6⟩
        rw [HX2.out]
        have hC6 := hC5.belowB ((Below.refl g w5).grown hgr6 (by omega) (fun k hk => by injection hk with hk; omega)) hgle
        have hbb6 := hbb5.grown hgr6 (by simp)
        have hown6 := hown5.kept hgr6 (own_far hown5 (by omega))
        have hB6 : Below w.heap.size w w6 := hB5.trans ((Below.refl _ w5).grown hgr6 hB5.size (fun k hk => by injection hk with hk; omega))
        have hsz6 : w3.heap.size ≤ w6.heap.size := Nat.le_trans hsz5 hgr6.size
        have hbd6' : ∃ V m, BoardAt w6 B g c V m := ⟨_, _, hbd6⟩
        clear hbd5 hC5 hbb5 hi5 hown5 hB5 hgr6 hbd6 hszw5 hsz5
        rename CB w6 w.heap.size w.heap.size c fa fc pa pc => hC5
        rename Blk w6 (g + 1) _ _ => hbb5
        rename Below w.heap.size w w6 => hgr5
        rename w3.heap.size ≤ w6.heap.size => hsz5
        rename (∃ V m, BoardAt w6 B g c V m) => hbd5
        rename w6.ownsRow _ _ _ _ _ _ => hown5
        have hw6 := hC5.blk.lt
        have hw7 := hbb5.lt
        have hkd : kindOf c 24000 k = if x1 - 24000 < mo then 0 else if x2 < mo then 2 else 1 := by
          unfold kindOf withOf withoutOf
          rw [HX1.out, HX2.out, HMO.out]
        have HKD := Lib.hid hkd
        clear hkd
        by_cases hc1 : x1 - 24000 < mo
        · have HKO : Hid (kindOf c 24000 k = 0) := by rw [Hid, HKD.out, if_pos hc1]
          go_wp2_with (at_builtin; refine wpList_app1 slT_int rfl (.tmp 44) (.tmp 45) rfl (A := A) (cc := cap) rfl ⟨cap, hown5, .inl rfl⟩ rfl rfl one_1 hsz5 ?_ ?_ ?_)
          any_goals omega
          intro v' w6 hown6 hb6 hkeep
          have hCB6 := hC5.belowB hb6 (by omega)
          have hbb6 : Blk w6 (g + 1) 78 _ := (hb6.block (g + 1) (by omega)).trans hbb5
          have hbd6 : ∃ V m, BoardAt w6 B g c V m := hbd5.elim fun V h => h.elim fun m h => h.elim fun a h => h.elim fun b h => h.elim fun d h => h.elim fun e h => ⟨V, m, a, b, d, e, h.belowB hb6 (by omega)⟩
          have hgr6 : Below w.heap.size w w6 := hgr5.trans (hb6.mono (by omega))
          have hap : Hid ((List.range (k + 1)).map (kindOf c 24000) = (List.range k).map (kindOf c 24000) ++ [(0 : Int)]) := by rw [Hid, List.range_succ, List.map_append, List.map_singleton, HKO.out]
          have hown7 : w6.ownsRow w3.heap.size 3 1 v' (k + 1) ((((List.range (k + 1)).map (kindOf c 24000))).map (Value.int .i64)) := by rw [hap.out, List.map_append]; simpa using hown6
          obtain ⟨A', cap', rfl⟩ := own_form hown7
          have hsz6 := hb6.size
          clear hown6 hkeep hown5 hC5 hbb5 hbd5
          go_wp2
          go_roundw
          case rel => exact ⟨k + 1, A', cap', by omega, by go_num, rfl, hown7, hCB6, hbb6, hbd6, hgr6, by omega⟩
          case measure => (simp [intOf]; try omega)
        · by_cases hc2 : x2 < mo
          · have HKO : Hid (kindOf c 24000 k = 2) := by rw [Hid, HKD.out, if_neg hc1, if_pos hc2]
            go_wp2_with (at_builtin; refine wpList_app1 slT_int rfl (.tmp 51) (.tmp 52) rfl (A := A) (cc := cap) rfl ⟨cap, hown5, .inl rfl⟩ rfl rfl one_1 hsz5 ?_ ?_ ?_)
            any_goals omega
            intro v' w6 hown6 hb6 hkeep
            have hCB6 := hC5.belowB hb6 (by omega)
            have hbb6 : Blk w6 (g + 1) 78 _ := (hb6.block (g + 1) (by omega)).trans hbb5
            have hbd6 : ∃ V m, BoardAt w6 B g c V m := hbd5.elim fun V h => h.elim fun m h => h.elim fun a h => h.elim fun b h => h.elim fun d h => h.elim fun e h => ⟨V, m, a, b, d, e, h.belowB hb6 (by omega)⟩
            have hgr6 : Below w.heap.size w w6 := hgr5.trans (hb6.mono (by omega))
            have hap : Hid ((List.range (k + 1)).map (kindOf c 24000) = (List.range k).map (kindOf c 24000) ++ [(2 : Int)]) := by rw [Hid, List.range_succ, List.map_append, List.map_singleton, HKO.out]
            have hown7 : w6.ownsRow w3.heap.size 3 1 v' (k + 1) ((((List.range (k + 1)).map (kindOf c 24000))).map (Value.int .i64)) := by rw [hap.out, List.map_append]; simpa using hown6
            obtain ⟨A', cap', rfl⟩ := own_form hown7
            have hsz6 := hb6.size
            clear hown6 hkeep hown5 hC5 hbb5 hbd5
            go_wp2
            go_roundw
            case rel => exact ⟨k + 1, A', cap', by omega, by go_num, rfl, hown7, hCB6, hbb6, hbd6, hgr6, by omega⟩
            case measure => (simp [intOf]; try omega)
          · have HKO : Hid (kindOf c 24000 k = 1) := by rw [Hid, HKD.out, if_neg hc1, if_neg hc2]
            go_wp2_with (at_builtin; refine wpList_app1 slT_int rfl (.tmp 37) (.tmp 38) rfl (A := A) (cc := cap) rfl ⟨cap, hown5, .inl rfl⟩ rfl rfl one_1 hsz5 ?_ ?_ ?_)
            any_goals omega
            intro v' w6 hown6 hb6 hkeep
            have hCB6 := hC5.belowB hb6 (by omega)
            have hbb6 : Blk w6 (g + 1) 78 _ := (hb6.block (g + 1) (by omega)).trans hbb5
            have hbd6 : ∃ V m, BoardAt w6 B g c V m := hbd5.elim fun V h => h.elim fun m h => h.elim fun a h => h.elim fun b h => h.elim fun d h => h.elim fun e h => ⟨V, m, a, b, d, e, h.belowB hb6 (by omega)⟩
            have hgr6 : Below w.heap.size w w6 := hgr5.trans (hb6.mono (by omega))
            have hap : Hid ((List.range (k + 1)).map (kindOf c 24000) = (List.range k).map (kindOf c 24000) ++ [(1 : Int)]) := by rw [Hid, List.range_succ, List.map_append, List.map_singleton, HKO.out]
            have hown7 : w6.ownsRow w3.heap.size 3 1 v' (k + 1) ((((List.range (k + 1)).map (kindOf c 24000))).map (Value.int .i64)) := by rw [hap.out, List.map_append]; simpa using hown6
            obtain ⟨A', cap', rfl⟩ := own_form hown7
            have hsz6 := hb6.size
            clear hown6 hkeep hown5 hC5 hbb5 hbd5
            go_wp2
            go_roundw
            case rel => exact ⟨k + 1, A', cap', by omega, by go_num, rfl, hown7, hCB6, hbb6, hbd6, hgr6, by omega⟩
            case measure => (simp [intOf]; try omega)
      · obtain rfl : k = c.pas.length := by omega
        go_wp2
        go_ret2
        refine ⟨.slice A c.pas.length cap, ret_t2 rfl H0.out.symm, ?_, hBr⟩
        rw [HC.out]
        exact Arr.of_own_int (by simp) hown
end Go.Proofs.Ythplabmbbfefeaa
