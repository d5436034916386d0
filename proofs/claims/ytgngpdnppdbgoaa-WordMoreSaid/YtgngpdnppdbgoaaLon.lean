/- Contract: longest. -/
import Derived.Test.YtgngpdnppdbgoaaCou
namespace Go.Proofs.Ytgngpdnppdbgoaa
open Go.RowKit Go.Shelf
set_option linter.unusedVariables false

def dnX (b : List (Int × Int)) (ls : List (List Int)) (x : List Nat) : Nat := dnC (matsOf b ls) (befL ls) (mostOf b ls - lvOf b ls x) x
/-- what is still to come of the first longest passage -/
def restF (b : List (Int × Int)) (ls : List (List Int)) (i : Nat) (l : List (List Nat)) : List (List Nat) := firstGo (befL ls) (lvOf b ls) (dnX b ls) ((matsOf b ls).drop i) l.length l.getLast?
theorem restF_all {b : List (Int × Int)} {ls : List (List Int)} (hg : Good b ls) : restF b ls 0 [] = (longOf b ls).headD [] := by
  have h := (levOf hg).firstOf (dn := dnX b ls) fun x _ => rfl
  unfold longOf
  rw [List.headD_eq_head?_getD, h]
  rfl
theorem restF_end {b : List (Int × Int)} {ls : List (List Int)} (l : List (List Nat)) : restF b ls (matsOf b ls).length l = [] := by
  unfold restF
  rw [List.drop_length]
  rfl
theorem drop_xAt {b : List (Int × Int)} {ls : List (List Int)} {i : Nat} (hi : i < (matsOf b ls).length) : (matsOf b ls).drop i = xAt b ls i :: (matsOf b ls).drop (i + 1) := by
  rw [List.drop_eq_getElem_cons hi]
  unfold xAt
  rw [List.getD_eq_getElem?_getD, List.getElem?_eq_getElem hi]
  rfl
theorem restF_yes {b : List (Int × Int)} {ls : List (List Int)} {i : Nat} (hi : i < (matsOf b ls).length) {l : List (List Nat)} (h1 : 0 < dnN b ls i) (h2 : lvN b ls i = l.length + 1) (h3 : aft (befL ls) l.getLast? (xAt b ls i) = true) : restF b ls i l = xAt b ls i :: restF b ls (i + 1) (l ++ [xAt b ls i]) := by
  unfold restF
  rw [drop_xAt hi]
  show (if _ then _ else _) = _
  have e1 : decide (0 < dnX b ls (xAt b ls i)) = true := decide_eq_true h1
  have e2 : decide (lvOf b ls (xAt b ls i) = l.length + 1) = true := decide_eq_true h2
  rw [if_pos (by rw [e1, e2, h3]; rfl)]
  simp
theorem restF_no {b : List (Int × Int)} {ls : List (List Int)} {i : Nat} (hi : i < (matsOf b ls).length) {l : List (List Nat)} (h : ¬ (0 < dnN b ls i ∧ lvN b ls i = l.length + 1 ∧ aft (befL ls) l.getLast? (xAt b ls i) = true)) : restF b ls i l = restF b ls (i + 1) l := by
  unfold restF
  rw [drop_xAt hi]
  show (if _ then _ else _) = _
  rw [if_neg]
  intro hc
  simp only [Bool.and_eq_true, decide_eq_true_eq] at hc
  exact h ⟨hc.1.1, hc.1.2, hc.2⟩

attribute [local go_sem] Oper.semAt_some
set_option maxRecDepth 100000 in
set_option maxHeartbeats 1600000 in
theorem longest_ok (B gs d : Nat) (b : List (Int × Int)) (ls : List (List Int)) (la : Option Addr) (lc : Nat) (A : Option Addr) (c : Nat) (w : World) (hs : SongM w B gs d b ls la lc A c) :
    Calls Try.prog 72 #[.pointer (some ⟨gs, 0, none⟩)] w fun r w' => ∃ v, r = .returned v ∧ Arr w' w'.heap.size 4 v ((longOf b ls).headD []) plcell ∧ Below w.heap.size w w' := by
  have hgd := hs.1.good
  have hms := mats_len hgd.ds8 (by rw [dsOf_len]; exact hgd.four : (dsOf ls).length ≤ 4) (mt := mtB b ls)
  change (matsOf b ls).length ≤ 4096 at hms
  have HG := Lib.hid hgd
  obtain ⟨n, hn⟩ : ∃ n, n = (matsOf b ls).length := ⟨_, rfl⟩
  have hwy := ways_ok B gs d b ls la lc A c w hs
  rw [← hn] at hwy hms
  have HNN := Lib.hid hn
  clear hgd hn
  go_enter Try.func72, Try.ntmps72
  go_wp2_with fail
  refine hwy.mono ?_
  rintro e w1 ⟨rb, rfl, hr, hb1⟩
  have hs1 := hs.call hb1
  clear hwy hs
  go_wp2_with fail
  refine (levels_ok B gs d b ls la lc A c w1 hs1).mono ?_
  rintro e w2 ⟨lA, lcc, rfl, hL, hb2⟩
  have hs2 := hs1.call hb2
  have hr2 := hr.call hb2
  have hbw := hb1.trans (hb2.mono hb1.size)
  clear hs1 hr hb1 hb2
  rw [← HNN.out] at hL ⊢
  obtain ⟨q0, q1, q2⟩ := hs2.1.c3
  rw [← HNN.out] at q2
  go_wp2
  go_loopw [5, 17] (fun o i wr => ∃ (k : Nat) (l : List (List Nat)), k ≤ n ∧ i = .int .i64 k ∧ l.length ≤ k ∧ Hid (l ++ restF b ls k l = (longOf b ls).headD []) ∧ Below w2.heap.size w2 wr ∧ wr.ownsRow w2.heap.size 88 4 o l.length (l.flatMap (cellsOf 4 plcell))) (fun _ i _ => n - (intOf i).toNat)
  case atStart => exact ⟨0, [], Nat.zero_le _, rfl, Nat.le_refl _, restF_all HG.out, Below.refl _ _, by simpa using World.ownsRow_nil _ _ _ _⟩
  case round =>
    obtain ⟨k, l, hk, rfl, hlk, hrest, hb, hown⟩ := hrel
    clear q0 q1 q2
    by_cases hlt : k < n
    · have d1 : decide (k < n) = true := decide_eq_true hlt
      have d1' : decide ((k : Int) < (n : Int)) = true := decide_eq_true (by omega)
      have hki : (k : Int) < (n : Int) := by omega
      obtain ⟨xb, xo, rfl, hxb, hxc⟩ := pl_all hs2.2 (by rw [← HNN.out]; omega)
      obtain ⟨lb, lo, rfl, hlb, hlc⟩ := num_all hL (by have := HNN.out; simp [lvsI]; omega)
      have HX : Hid (∀ W, Below w2.heap.size w2 W → ∀ k, k < n → W.cell? ⟨xb, xo + k * 4, none⟩ = some (.int .i64 (at0 (xAt b ls k) 0 : Int)) ∧ W.cell? ⟨xb, xo + k * 4 + 1, none⟩ = some (.int .i64 (at0 (xAt b ls k) 1 : Int)) ∧ W.cell? ⟨xb, xo + k * 4 + 2, none⟩ = some (.int .i64 (at0 (xAt b ls k) 2 : Int)) ∧ W.cell? ⟨xb, xo + k * 4 + 3, none⟩ = some (.int .i64 (at0 (xAt b ls k) 3 : Int))) := fun W hb k hk =>
        ⟨(hb.cell hxb).trans (hxc k (by rw [← HNN.out]; exact hk) 0 (by omega)), (hb.cell hxb).trans (hxc k (by rw [← HNN.out]; exact hk) 1 (by omega)), (hb.cell hxb).trans (hxc k (by rw [← HNN.out]; exact hk) 2 (by omega)), (hb.cell hxb).trans (hxc k (by rw [← HNN.out]; exact hk) 3 (by omega))⟩
      have HLV : Hid (∀ W, Below w2.heap.size w2 W → ∀ k, k < n → W.cell? ⟨lb, lo + k, none⟩ = some (.int .i64 (lvN b ls k : Int))) := fun W hb k hk => by
        have := (hb.cell (p := ⟨lb, lo + k, none⟩) hlb).trans (hlc k (by have := HNN.out; simp [lvsI]; omega))
        rw [lvs_getD (by rw [← HNN.out]; exact hk)] at this
        exact this
      clear hxc hlc
      obtain ⟨oA, oc, rfl⟩ := own_form hown
      have hoc := own_cap hown
      obtain ⟨len, hlen⟩ : ∃ len, len = l.length := ⟨_, rfl⟩
      rw [← hlen] at hown hlk hoc ⊢
      have HLEN := Lib.hid hlen
      obtain ⟨c0, c1, c2, c3⟩ := HX.out _ hb k hlt
      go_upto_region 7 with (fail)
      have e : wr.alloc (.cells #[.int .i64 (at0 (xAt b ls k) 0 : Int), .int .i64 (at0 (xAt b ls k) 1 : Int), .int .i64 (at0 (xAt b ls k) 2 : Int), .int .i64 (at0 (xAt b ls k) 3 : Int)] 88) = wr.alloc (.cells (plC (xAt b ls k)) 88) := rfl
      rw [e]
      clear e c0 c1 c2 c3 hlen
      have hX := Blk.new wr 88 (plC (xAt b ls k))
      have hbA := (Below.refl wr.heap.size wr).alloc (Nat.le_refl _) (.cells (plC (xAt b ls k)) 88)
      have hb3 := hb.trans (hbA.mono hb.size)
      have hown3 := own_call hown hbA
      have hne := own_ne hown (Nat.le_refl _)
      clear hb hown hbA
      generalize wr.alloc (.cells (plC (xAt b ls k)) 88) = W3 at *
      generalize wr.heap.size = xg at *
      have hsW := hs2.call hb3
      obtain ⟨-, o1⟩ := (hr2.call hb3).at_ hlt
      have f0 := Ext.of (HLV.out _ hb3 k hlt)
      have f1 := Ext.of o1
      have f2 := Ext.of (show W3.cell? ⟨xg, 0, none⟩ = some (.int .i64 (at0 (xAt b ls k) 0 : Int)) by rw [hX.cell]; rfl)
      have f3 := Ext.of (show W3.cell? ⟨xg, 1, none⟩ = some (.int .i64 (at0 (xAt b ls k) 1 : Int)) by rw [hX.cell]; rfl)
      have f4 := Ext.of (show W3.cell? ⟨xg, 2, none⟩ = some (.int .i64 (at0 (xAt b ls k) 2 : Int)) by rw [hX.cell]; rfl)
      have f5 := Ext.of (show W3.cell? ⟨xg, 3, none⟩ = some (.int .i64 (at0 (xAt b ls k) 3 : Int)) by rw [hX.cell]; rfl)
      have e1 : IntKind.i64.wrap ((len : Int) + 1) = (len : Int) + 1 := wrap_id _ (by omega) (by omega)
      have HKM : Hid (k < (matsOf b ls).length) := by rw [Hid, ← HNN.out]; exact hlt
      clear o1
      rcases Decidable.em (dnN b ls k = 0) with hz | hz
      · have d8 : decide (0 < (dnN b ls k : Int)) = false := by rw [hz]; rfl
        have HS : Hid (l ++ restF b ls (k + 1) l = (longOf b ls).headD []) := by rw [Hid, ← restF_no HKM.out (fun h => by omega)]; exact hrest.out
        rw [hz] at f1
        clear hz hrest
        refine wp_region_ext (by kernel_rfl) (by kernel_rfl) ?_
        repeat (go_big_quiet_step (fail))
        refine wpQuiet_nil ?_
        intro _ hw'
        obtain ⟨xr, hw''⟩ := hw'
        subst hw''
        have hb4 := hb3.trans (xr.h.mono hb3.size)
        have hown4 := own_call hown3 xr.h
        go_wp2
        go_roundw
        case rel => exact ⟨k + 1, l, by omega, by go_num, by rw [← HLEN.out]; omega, HS, hb4, by rw [← HLEN.out]; exact hown4⟩
        case measure => (simp [intOf]; try omega)
      · have d8 : decide (0 < (dnN b ls k : Int)) = true := decide_eq_true (by omega)
        have d8' : decide (0 < dnN b ls k) = true := decide_eq_true (by omega)
        rcases Decidable.em (lvN b ls k = len + 1) with hq | hq
        · have d9 : ((lvN b ls k : Int) == (len : Int) + 1) = true := by simp; omega
          rcases Decidable.em (len = 0) with h0 | h0
          · have d10 : ((len : Int) == 0) = true := by simp; omega
            have HA3 : Hid (aft (befL ls) l.getLast? (xAt b ls k) = true) := by
              have : l = [] := List.length_eq_zero_iff.1 (by rw [← HLEN.out]; exact h0)
              rw [this]
              rfl
            have HS : Hid ((l ++ [xAt b ls k]) ++ restF b ls (k + 1) (l ++ [xAt b ls k]) = (longOf b ls).headD []) := by
              rw [Hid, List.append_assoc, List.singleton_append, ← restF_yes HKM.out (by omega) (by rw [← HLEN.out]; exact hq) HA3.out]
              exact hrest.out
            clear hq hz hrest HA3 h0
            refine wp_region_ext (by kernel_rfl) (by kernel_rfl) ?_
            repeat (go_big_quiet_step (fail))
            refine wpQuiet_nil ?_
            intro _ hw'
            obtain ⟨xr, hw''⟩ := hw'
            subst hw''
            have hb4 := hb3.trans (xr.h.mono hb3.size)
            have hown4 := own_call hown3 xr.h
            have hX4 := hX.call xr.h
            obtain ⟨W4, hW4⟩ : ∃ W4 : World, W4 = xr.w := ⟨_, rfl⟩
            rw [← hW4] at hb4 hown4 hX4 ⊢
            clear hW4 xr
            have hol : len ≤ oc := by omega
            have p0 := hX4.cell 0
            have p1 := hX4.cell 1
            have p2 := hX4.cell 2
            have p3 := hX4.cell 3
            simp [plC] at p0 p1 p2 p3
            obtain ⟨F, hF⟩ : ∃ F : World → Prop, (∀ w', F w' ↔ Blk w' xg 88 (plC (xAt b ls k))) := ⟨_, fun _ => Iff.rfl⟩
            have hF0 : F W4.drew := (hF _).2 hX4.drew
            haveI : Nonempty (SubW F) := ⟨⟨_, hF0⟩⟩
            have g0 : ∀ z : SubW F, z.w.cell? ⟨xg, 0, none⟩ = some (.int .i64 (at0 (xAt b ls k) 0 : Int)) := fun z => by simpa [plC] using ((hF z.w).1 z.h).cell 0
            have g1 : ∀ z : SubW F, z.w.cell? ⟨xg, 1, none⟩ = some (.int .i64 (at0 (xAt b ls k) 1 : Int)) := fun z => by simpa [plC] using ((hF z.w).1 z.h).cell 1
            have g2 : ∀ z : SubW F, z.w.cell? ⟨xg, 2, none⟩ = some (.int .i64 (at0 (xAt b ls k) 2 : Int)) := fun z => by simpa [plC] using ((hF z.w).1 z.h).cell 2
            have g3 : ∀ z : SubW F, z.w.cell? ⟨xg, 3, none⟩ = some (.int .i64 (at0 (xAt b ls k) 3 : Int)) := fun z => by simpa [plC] using ((hF z.w).1 z.h).cell 3
            have HF := Lib.hid hF
            clear hF p0 p1 p2 p3
            go_upto_region 8 with (fail)
            refine wp_region_sched (C := fun w' => ∃ z : SubW F, w' = z.w) [(0, true), (1, true), (2, true), (3, true), (4, true), (5, true), (6, true), (7, false), (8, false), (9, false)] (by kernel_rfl) (by kernel_rfl) ⟨⟨W4.drew, hF0⟩, rfl⟩ ?_
            refine sched_q (by rfl) (by rfl) ?_
            intro K hK
            go_big_quiet_op
            go_big_quiet_on
            refine sched_q (by rfl) (by rfl) ?_
            intro K hK
            go_big_quiet_op
            go_big_quiet_on
            refine sched_q (by rfl) (by rfl) ?_
            intro K hK
            go_big_quiet_op
            go_big_quiet_on
            refine sched_q (by rfl) (by rfl) ?_
            intro K hK
            go_big_quiet_op
            go_big_quiet_on
            refine sched_q (by rfl) (by rfl) ?_
            intro K hK
            go_big_quiet_op
            go_big_quiet_on
            refine sched_q (by rfl) (by rfl) ?_
            intro K hK
            go_big_quiet_op
            go_big_quiet_on
            refine sched_q (by rfl) (by rfl) ?_
            intro K hK
            go_big_quiet_op
            go_big_quiet_on
            have hown5 := own_drew hown4
            have hX5 := hX4.drew
            have hb5 := hb4.trans ((Below.refl W4.heap.size W4).drew.mono hb4.size)
            have hxl : xg < W4.drew.heap.size := hX5.lt
            generalize W4.drew = W5 at *
            clear hown4 hX4 hoc
            refine sched_c (by rfl) (by rfl) ?_
            intro K hK
            go_wp2
            refine hK _ _ ⟨.inr ⟨⟨_, (HF.out _).2 (hX5.alloc (.cells (plC (xAt b ls k)) 88))⟩, rfl⟩, ?_⟩
            clear hK K
            refine sched_c (by rfl) (by rfl) ?_
            intro K hK
            have hsz5 := hb5.size
            refine wpList_app1 slT_pl rfl (.tmp 59) (.tmp 61) rfl (cc := len) rfl ⟨oc, hown5, .inr rfl⟩ rfl rfl (one_pl (xAt b ls k)) hsz5 ?_ ?_ ?_
            · omega
            · omega
            intro v6 w6 hown6 hb6 hkq
            have hX6 : Blk w6 xg 88 (plC (xAt b ls k)) := (hkq xg hxl hne).trans hX5
            have hown7 := own_snoc (l := l) HLEN.out (cells_pl (xAt b ls k)) hown6
            have hb7 := hb5.trans hb6
            clear hkq hown6 hown5 hb6
            go_wp2
            refine hK _ _ ⟨.inr ⟨⟨_, (HF.out _).2 hX6⟩, rfl⟩, ?_⟩
            clear hK K
            refine sched_c (by rfl) (by rfl) ?_
            intro K hK
            go_wp2
            refine hK _ _ ⟨(by first | exact .inl rfl | exact .inl trivial), ?_⟩
            clear hK K
            refine sched_nil ?_
            go_wp2
            go_roundw
            case rel => exact ⟨k + 1, l ++ [xAt b ls k], by omega, by go_num, by have := HLEN.out; simp; omega, HS, hb7, hown7⟩
            case measure => (simp [intOf]; try omega)
          · obtain ⟨m, hm⟩ : ∃ m, len = m + 1 := ⟨len - 1, by omega⟩
            have d10 : ((len : Int) == 0) = false := beq_false_of_ne (by omega)
            have e11 : IntKind.i64.wrap ((len : Int) - 1) = (m : Int) := by rw [wrap_id _ (by omega) (by omega)]; omega
            have hm1 : (m : Int) < (len : Int) := by omega
            have harr := Arr.of_own (l := l) (cell := plcell) (by rw [← HLEN.out]; exact hown3)
            obtain ⟨ob, oo, y, rfl, hob, hy, hyc⟩ := harr.at_ (k := m) (by rw [← HLEN.out]; omega)
            have g0 := hyc 0 (by omega)
            have g1 := hyc 1 (by omega)
            have g2 := hyc 2 (by omega)
            have g3 := hyc 3 (by omega)
            simp only [Nat.add_zero, plcell] at g0 g1 g2 g3
            have f6 := Ext.of g0
            have f7 := Ext.of g1
            have f8 := Ext.of g2
            have f9 := Ext.of g3
            have HY : Hid (l.getLast? = some y) := by
              rw [Hid, List.getLast?_eq_getElem?, show l.length - 1 = m by rw [← HLEN.out]; omega]
              exact hy
            have HA : Hid (∀ z : Ext W3, Calls Try.prog 63 #[.pointer (some ⟨gs, 0, none⟩), plV y, plV (xAt b ls k)] z.w fun r w' => r = .returned (.bool (befL ls y (xAt b ls k))) ∧ ∃ z' : Ext W3, w' = z'.w) := fun z => ext_call z (before_ok B gs d b ls la lc _ y (xAt b ls k) z.w (hsW.1.call z.h))
            clear g0 g1 g2 g3 hyc hy harr hsW
            cases hbf : befL ls y (xAt b ls k)
            · have HS : Hid (l ++ restF b ls (k + 1) l = (longOf b ls).headD []) := by
                rw [Hid, ← restF_no HKM.out (fun h => by
                  have := h.2.2
                  rw [HY.out] at this
                  change befL ls y (xAt b ls k) = true at this
                  rw [hbf] at this
                  cases this)]
                exact hrest.out
              rw [hbf] at HA
              clear hq hz hrest hbf h0 hm
              refine wp_region_ext (by kernel_rfl) (by kernel_rfl) ?_
              repeat (go_big_quiet_step ((go_at_call 63; with_reducible exact HA.out _)))
              refine wpQuiet_nil ?_
              intro _ hw'
              obtain ⟨xr, hw''⟩ := hw'
              subst hw''
              have hb4 := hb3.trans (xr.h.mono hb3.size)
              have hown4 := own_call hown3 xr.h
              go_wp2
              go_roundw
              case rel => exact ⟨k + 1, l, by omega, by go_num, by rw [← HLEN.out]; omega, HS, hb4, by rw [← HLEN.out]; exact hown4⟩
              case measure => (simp [intOf]; try omega)
            · have HS : Hid ((l ++ [xAt b ls k]) ++ restF b ls (k + 1) (l ++ [xAt b ls k]) = (longOf b ls).headD []) := by
                rw [Hid, List.append_assoc, List.singleton_append, ← restF_yes HKM.out (by omega) (by rw [← HLEN.out]; exact hq) (by rw [HY.out]; exact hbf)]
                exact hrest.out
              rw [hbf] at HA
              clear hq hz hrest hbf h0 hm
              refine wp_region_ext (by kernel_rfl) (by kernel_rfl) ?_
              repeat (go_big_quiet_step ((go_at_call 63; with_reducible exact HA.out _)))
              refine wpQuiet_nil ?_
              intro _ hw'
              obtain ⟨xr, hw''⟩ := hw'
              subst hw''
              have hb4 := hb3.trans (xr.h.mono hb3.size)
              have hown4 := own_call hown3 xr.h
              have hX4 := hX.call xr.h
              obtain ⟨W4, hW4⟩ : ∃ W4 : World, W4 = xr.w := ⟨_, rfl⟩
              rw [← hW4] at hb4 hown4 hX4 ⊢
              clear hW4 xr
              have hol : len ≤ oc := by omega
              have p0 := hX4.cell 0
              have p1 := hX4.cell 1
              have p2 := hX4.cell 2
              have p3 := hX4.cell 3
              simp [plC] at p0 p1 p2 p3
              obtain ⟨F, hF⟩ : ∃ F : World → Prop, (∀ w', F w' ↔ Blk w' xg 88 (plC (xAt b ls k))) := ⟨_, fun _ => Iff.rfl⟩
              have hF0 : F W4.drew := (hF _).2 hX4.drew
              haveI : Nonempty (SubW F) := ⟨⟨_, hF0⟩⟩
              have g0 : ∀ z : SubW F, z.w.cell? ⟨xg, 0, none⟩ = some (.int .i64 (at0 (xAt b ls k) 0 : Int)) := fun z => by simpa [plC] using ((hF z.w).1 z.h).cell 0
              have g1 : ∀ z : SubW F, z.w.cell? ⟨xg, 1, none⟩ = some (.int .i64 (at0 (xAt b ls k) 1 : Int)) := fun z => by simpa [plC] using ((hF z.w).1 z.h).cell 1
              have g2 : ∀ z : SubW F, z.w.cell? ⟨xg, 2, none⟩ = some (.int .i64 (at0 (xAt b ls k) 2 : Int)) := fun z => by simpa [plC] using ((hF z.w).1 z.h).cell 2
              have g3 : ∀ z : SubW F, z.w.cell? ⟨xg, 3, none⟩ = some (.int .i64 (at0 (xAt b ls k) 3 : Int)) := fun z => by simpa [plC] using ((hF z.w).1 z.h).cell 3
              have HF := Lib.hid hF
              clear hF p0 p1 p2 p3
              go_upto_region 8 with (fail)
              refine wp_region_sched (C := fun w' => ∃ z : SubW F, w' = z.w) [(0, true), (1, true), (2, true), (3, true), (4, true), (5, true), (6, true), (7, false), (8, false), (9, false)] (by kernel_rfl) (by kernel_rfl) ⟨⟨W4.drew, hF0⟩, rfl⟩ ?_
              refine sched_q (by rfl) (by rfl) ?_
              intro K hK
              go_big_quiet_op
              go_big_quiet_on
              refine sched_q (by rfl) (by rfl) ?_
              intro K hK
              go_big_quiet_op
              go_big_quiet_on
              refine sched_q (by rfl) (by rfl) ?_
              intro K hK
              go_big_quiet_op
              go_big_quiet_on
              refine sched_q (by rfl) (by rfl) ?_
              intro K hK
              go_big_quiet_op
              go_big_quiet_on
              refine sched_q (by rfl) (by rfl) ?_
              intro K hK
              go_big_quiet_op
              go_big_quiet_on
              refine sched_q (by rfl) (by rfl) ?_
              intro K hK
              go_big_quiet_op
              go_big_quiet_on
              refine sched_q (by rfl) (by rfl) ?_
              intro K hK
              go_big_quiet_op
              go_big_quiet_on
              have hown5 := own_drew hown4
              have hX5 := hX4.drew
              have hb5 := hb4.trans ((Below.refl W4.heap.size W4).drew.mono hb4.size)
              have hxl : xg < W4.drew.heap.size := hX5.lt
              generalize W4.drew = W5 at *
              clear hown4 hX4 hoc
              refine sched_c (by rfl) (by rfl) ?_
              intro K hK
              go_wp2
              refine hK _ _ ⟨.inr ⟨⟨_, (HF.out _).2 (hX5.alloc (.cells (plC (xAt b ls k)) 88))⟩, rfl⟩, ?_⟩
              clear hK K
              refine sched_c (by rfl) (by rfl) ?_
              intro K hK
              have hsz5 := hb5.size
              refine wpList_app1 slT_pl rfl (.tmp 59) (.tmp 61) rfl (cc := len) rfl ⟨oc, hown5, .inr rfl⟩ rfl rfl (one_pl (xAt b ls k)) hsz5 ?_ ?_ ?_
              · omega
              · omega
              intro v6 w6 hown6 hb6 hkq
              have hX6 : Blk w6 xg 88 (plC (xAt b ls k)) := (hkq xg hxl hne).trans hX5
              have hown7 := own_snoc (l := l) HLEN.out (cells_pl (xAt b ls k)) hown6
              have hb7 := hb5.trans hb6
              clear hkq hown6 hown5 hb6
              go_wp2
              refine hK _ _ ⟨.inr ⟨⟨_, (HF.out _).2 hX6⟩, rfl⟩, ?_⟩
              clear hK K
              refine sched_c (by rfl) (by rfl) ?_
              intro K hK
              go_wp2
              refine hK _ _ ⟨(by first | exact .inl rfl | exact .inl trivial), ?_⟩
              clear hK K
              refine sched_nil ?_
              go_wp2
              go_roundw
              case rel => exact ⟨k + 1, l ++ [xAt b ls k], by omega, by go_num, by have := HLEN.out; simp; omega, HS, hb7, hown7⟩
              case measure => (simp [intOf]; try omega)
        · have d9 : ((lvN b ls k : Int) == (len : Int) + 1) = false := beq_false_of_ne (by omega)
          have HS : Hid (l ++ restF b ls (k + 1) l = (longOf b ls).headD []) := by rw [Hid, ← restF_no HKM.out (fun h => hq (by rw [HLEN.out]; exact h.2.1))]; exact hrest.out
          clear hq hz hrest
          refine wp_region_ext (by kernel_rfl) (by kernel_rfl) ?_
          repeat (go_big_quiet_step (fail))
          refine wpQuiet_nil ?_
          intro _ hw'
          obtain ⟨xr, hw''⟩ := hw'
          subst hw''
          have hb4 := hb3.trans (xr.h.mono hb3.size)
          have hown4 := own_call hown3 xr.h
          go_wp2
          go_roundw
          case rel => exact ⟨k + 1, l, by omega, by go_num, by rw [← HLEN.out]; omega, HS, hb4, by rw [← HLEN.out]; exact hown4⟩
          case measure => (simp [intOf]; try omega)
    · obtain rfl : n = k := by omega
      have d1 : decide (n < n) = false := by simp
      have HE : Hid (l = (longOf b ls).headD []) := by
        have := hrest.out
        rw [HNN.out, restF_end, List.append_nil] at this
        exact this
      have harr := Arr.of_own hown
      have hbf := hbw.trans (hb.mono hbw.size)
      go_wp2
      go_ret
      exact ⟨_, by rfl, by rw [← HE.out]; exact harr, hbf⟩
end Go.Proofs.Ytgngpdnppdbgoaa
