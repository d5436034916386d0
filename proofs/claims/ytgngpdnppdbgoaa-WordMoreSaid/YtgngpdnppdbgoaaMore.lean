/- Contract of the law WordMore. -/
import Derived.Test.YtgngpdnppdbgoaaVal
import Derived.Test.YtgngpdnppdbgoaaLawQ
namespace Go.Proofs.Ytgngpdnppdbgoaa
open Go.RowKit Go.Shelf
set_option linter.unusedVariables false

theorem slT_pp : SlT 22 57 2 16 (.agg #[.int .i64 0, .int .i64 0]) := ⟨Try.underlying22, by kernel_rfl, rfl, by omega⟩
theorem one_pp (l : List (Int × Int)) : ∀ u ∈ l.flatMap (cellsOf 2 p2cell), u.oneCell' = true := by
  intro u hu
  simp only [List.mem_flatMap, cellsOf, List.mem_map, List.mem_range] at hu
  obtain ⟨p, _, j, hj, rfl⟩ := hu
  have : j = 0 ∨ j = 1 := by omega
  rcases this with rfl | rfl <;> rfl
theorem one_ii (l : List Int) : ∀ u ∈ l.flatMap (cellsOf 1 icell), u.oneCell' = true := by
  intro u hu
  rw [flat_i, List.mem_map] at hu
  obtain ⟨x, -, rfl⟩ := hu
  rfl

section
variable {P : Program} {Q : Exit → Act → World → Prop} {C : World → Prop} {l : List Oper} {z : Nat}
/-- as ways_start: the last operation, number z, need not keep the class -/
theorem zways_start {id : Nat} {a : Act} {W : World} (n z : Nat) (C : World → Prop) (hn : l.toArray.size = n) (hm : P.follows .mixedOrders = true) (h : AnyZ P l.toArray (NoP Q) C z n (Array.replicate n false) a W.drew) : (Code.region id l.toArray true).wp P Q a W := by
  subst hn
  exact wp_mono (wp_region_any hm (AnyZ.any _ _ _ _ h)) NoP_imp
theorem zways_q {rest : List Oper} {fuel : Nat} {listed : Array Bool} {a : Act} {w : World} {o : Oper} (i : Nat) (hi : l.drop i = o :: rest) (hv : valOnly o = true) (hs : Region.noSelect l.toArray = true) (hz : (lastB l.toArray z && (i != z)) = true) (hf : Region.free .any l.toArray listed i = true) (hr : (Region.ready .any l.toArray listed).contains i = true)
    (hw : Region.wanted o (yielded l.toArray a.tmps) = true) (hC : C w) (h : ∀ K : Act → Prop, (∀ a', AnyZ P l.toArray (NoP Q) C z fuel (listed.setIfInBounds i true) a' w → K a') → o.quiet P a C K) :
    AnyZ P l.toArray (NoP Q) C z (fuel + 1) listed a w := by
  have hi := getElem?_of_drop hi
  rw [Bool.and_eq_true, bne_iff_ne] at hz
  obtain ⟨v, hv', hn⟩ := h _ fun _ h => h
  exact AnyZ.take hi hz.2 hz.1 hs (fun c a w hh => hh.elim) fuel listed a w hf (by simpa using hr) (yieldsIf_of_quiet hv hw hv') hC hn
def ZWay (P : Program) (l : List Oper) (Q : Exit → Act → World → Prop) (C : World → Prop) (z : Nat) (fuel : Nat) (listed : Array Bool) (a : Act) (w : World) (i : Nat) : Prop :=
  ∃ o rest, l.drop i = o :: rest ∧ Region.wanted o (yielded l.toArray a.tmps) = true ∧
    ∀ K : Act → World → Prop, (∀ a' w', (i = z ∨ C w') ∧ AnyZ P l.toArray (NoP Q) C z fuel (listed.setIfInBounds i true) a' w' → K a' w') → wpList P l.toArray (NoP (Exit.then K Q)) [o] a w
theorem ZWay.op {fuel : Nat} {listed : Array Bool} {a : Act} {w : World} {i : Nat} (h : ZWay P l Q C z fuel listed a w i) : wpOp P l.toArray (NoP Q) i (fun a' w' => (i = z ∨ C w') ∧ AnyZ P l.toArray (NoP Q) C z fuel (listed.setIfInBounds i true) a' w') a w := by
  obtain ⟨o, rest, hi, hw, h⟩ := h
  have hi := getElem?_of_drop hi
  have h1 := h _ fun _ _ h => h
  simp only [wpList, hw, if_true] at h1
  unfold wpOp
  simp only [hi]
  show if _ then _ else _
  rw [if_pos hw]
  left
  rcases h1 with h1 | ⟨_, a', w', h2⟩
  · unfold Oper.wp at h1 ⊢
    generalize (execOp a.eval o).run P w = q at *
    cases q with
    | ok x w' =>
      cases x <;> simp only [Oper.upon] at h1 ⊢
      case value v => exact h1
      case skip => exact h1
      case defer d => exact h1
      case enter f args =>
        refine h1.mono fun e w'' hh => ?_
        cases e with
        | returned v => exact hh
        | panicked ch => exact hh.elim
        | outgrown => obtain ⟨a, w, hh⟩ := hh; exact hh.elim
      case row row args => exact h1
    | halt x w' => cases x <;> simp only [Oper.upon] at h1 ⊢ <;> first | exact h1 | exact h1.elim
  · exact h2.elim
theorem zways_1 {fuel : Nat} {listed : Array Bool} {a : Act} {w : World} (i : Nat) (hr : (Region.ready .any l.toArray listed == [i]) = true) (h : ZWay P l Q C z fuel listed a w i) : AnyZ P l.toArray (NoP Q) C z (fuel + 1) listed a w := by
  have hr : Region.ready .any l.toArray listed = [i] := by simpa using hr
  refine ⟨fun h0 => (by rw [hr] at h0; cases h0), fun j hj => ?_⟩
  rw [hr, List.mem_singleton] at hj
  subst hj
  exact h.op
theorem zways_2 {fuel : Nat} {listed : Array Bool} {a : Act} {w : World} (i j : Nat) (hr : (Region.ready .any l.toArray listed == [i, j]) = true) (h1 : ZWay P l Q C z fuel listed a w i) (h2 : ZWay P l Q C z fuel listed a w j) : AnyZ P l.toArray (NoP Q) C z (fuel + 1) listed a w := by
  have hr : Region.ready .any l.toArray listed = [i, j] := by simpa using hr
  refine ⟨fun h0 => (by rw [hr] at h0; cases h0), fun k hk => ?_⟩
  rw [hr] at hk
  have : k = i ∨ k = j := by simpa using hk
  rcases this with rfl | rfl
  · exact h1.op
  · exact h2.op
theorem zways_end {fuel : Nat} {listed : Array Bool} {a : Act} {w : World} (hr : (Region.ready .any l.toArray listed).isEmpty = true) (h : Q .normal a w) : AnyZ P l.toArray (NoP Q) C z fuel listed a w := by
  have hr : Region.ready .any l.toArray listed = [] := by simpa using hr
  have h' : NoP Q .normal a w := h
  cases fuel with
  | zero => exact ⟨hr, h'⟩
  | succ n => exact ⟨fun _ => h', fun i hi => (by rw [hr] at hi; cases hi)⟩
end

set_option maxRecDepth 100000 in
set_option maxHeartbeats 12800000 in
theorem more_ok (v lv nv : Value) (b : List (Int × Int)) (ls : List (List Int)) (nl : List Int) (p : Int × Int) (at_ ix : Fin 256) (ex : Int) (w : World) (hv : BookV w w.heap.size v b) (hl : LLi w lv ls) (hnv : Arr w w.heap.size 1 nv nl icell) :
    Calls Try.prog 9 #[v, lv, nv, .agg #[.int .i64 p.1, .int .i64 p.2], .int .u8 at_.val, .int .u8 ix.val, .int .i64 ex] w fun r w' => r = .returned (.bool true) ∧ Below w.heap.size w w' := by
  obtain ⟨pa, pc, rfl, hp⟩ := hv.open_
  obtain ⟨la, lc, rfl, -, -⟩ := hl.form
  obtain ⟨na, nc, rfl, hn1, hn2, -⟩ := id hnv
  have ha4 := at_.isLt
  have ha5 := ix.isLt
  generalize at_.val = n4 at *
  generalize ix.val = n5 at *
  have hC0 := BB.new hp
  have hB0 := (Below.refl w.heap.size w).alloc (Nat.le_refl _) (.cells #[.slice pa b.length pc] 24)
  have hz : (w.alloc (.cells #[.slice pa b.length pc] 24)).heap.size = w.heap.size + 1 := by simp
  go_enter Try.func9, Try.ntmps9
  go_upto_region 1 with (fail)
  have hL0 := (hl.below hB0).more hB0.size
  have hN0 := (hnv.below hB0).more hB0.size
  generalize w.alloc (.cells #[.slice pa b.length pc] 24) = W0 at *
  have hb := (Below.refl W0.heap.size W0).alloc (Nat.le_refl _) (.cells #[.int .i64 p.1, .int .i64 p.2] 57)
  have hQ := Blk.new W0 57 #[.int .i64 p.1, .int .i64 p.2]
  rw [hz] at hQ
  have hC := hC0.call hb
  have hL := hL0.call hb
  have hN := hN0.call hb
  have hB := hB0.trans (hb.mono hB0.size)
  clear hp hv hl hnv hC0 hL0 hN0 hB0 hb hz
  generalize W0.alloc (.cells #[.int .i64 p.1, .int .i64 p.2] 57) = W at *
  have hfi := lfine_ok _ _ b ls W hC.bv hL
  cases hf : fineB b ls
  · rw [hf] at hfi
    clear hf
    have k0 := hC.c0
    go_wp2_with fail
    refine (hfi).mono ?_
    rintro e w1 hp
    clear k0
    obtain ⟨rfl, hb⟩ := hp
    replace hC := hC.call hb
    replace hL := hL.call hb
    replace hB := hB.trans ((hb).mono hB.size)
    clear hfi
    go_wp2_with fail
    refine (works_ok _).mono ?_
    rintro e wz ⟨rfl, hbz⟩
    have hBz := hB.trans (hbz.mono hB.size)
    go_wp2
    try rw [Exit.noGoto_ret]
    go_ret
    exact ⟨rfl, hBz⟩
  · rw [hf] at hfi
    obtain ⟨hf0, hf1⟩ := fineB_iff.1 hf
    have H0 := Lib.hid hf0
    have HG := Lib.hid (good_of hf0)
    have hl2 := HG.out.two
    have hl4 := HG.out.four
    have hb40 := (book_len HG.out.book).1
    clear hf hf0
    have k0 := hC.c0
    go_wp2_with fail
    refine (hfi).mono ?_
    rintro e w1 hp
    clear k0
    obtain ⟨rfl, hb⟩ := hp
    replace hC := hC.call hb
    replace hL := hL.call hb
    replace hB := hB.trans ((hb).mono hB.size)
    replace hN := hN.call hb
    replace hQ := hQ.call hb
    clear hb hfi
    obtain ⟨M, hM⟩ : ∃ M, M = mostOf b ls := ⟨_, rfl⟩
    have HM := Lib.hid hM
    have hM8 : M ≤ 8 := by rw [hM]; exact mostOf_le HG.out
    have hlo := llong_ok _ _ b ls w1 hC.bv hL H0.out
    rw [← hM] at hlo
    clear hM
    have k0 := hC.c0
    go_wp2_with fail
    refine (hlo).mono ?_
    rintro e w2 hp
    clear k0
    obtain ⟨rfl, hb⟩ := hp
    replace hC := hC.call hb
    replace hL := hL.call hb
    replace hB := hB.trans ((hb).mono hB.size)
    replace hN := hN.call hb
    replace hQ := hQ.call hb
    clear hb hlo
    obtain ⟨xs, hx1, hx2, hx3⟩ := lli_vals hL
    have hxl : ls.length = (xs.map (·.1)).length := by rw [List.length_map, ← hx1, List.length_map]
    have HX3L := Lib.hid hx3
    have HXS := Lib.hid hx1
    have HXL := Lib.hid hxl
    have HX2 := Lib.hid hx2
    have HONEX := Lib.hid (vals_one hx3)
    clear hx1 hx2 hx3 hxl
    go_upto_region 6 with (fail)
    have hE0 := own_empty w2 w2.heap.size 38 1 (Nat.le_refl _)
    go_wp2_with (at_builtin; refine wpList_appArrN slT_ll rfl (.tmp 41) (.tmp 42) rfl HXL.out rfl hE0 rfl (HX2.out.alloc (Nat.le_refl _) _) HONEX.out ?_ ?_ ?_ ?_)
    any_goals (first | omega | (simp; done) | (simp; omega))
    intro v3 w3 hown3 hb3 hg3
    simp only [Nat.zero_add, List.nil_append, flat_v] at hown3
    have hbx : Below w2.heap.size w2 w3 := ((Below.refl _ _).alloc (Nat.le_refl _) _).trans hb3
    clear hb3 hg3 hE0
    go_wp2_with (at_builtin; refine wpList_app2 slT_ll rfl (.tmp 43) (.tmp 45) rfl (sv := v3) rfl hown3 rfl rfl one_sl hbx.size ?_ ?_ ?_)
    any_goals omega
    intro v4 w4 hown4 hg4 hat4
    have hbx4 := hbx.grown hg4 hbx.size fun g hg => (hown3.lt g hg).1
    obtain ⟨xA, xcap, rfl⟩ := own_form hown4
    have hXX : LLi w4 (.slice xA (ls.length + 1) xcap) (ls ++ [nl]) := by
      have h1 : (xs ++ [((.slice na nl.length nc, nl) : VL)]).map (·.2) = ls ++ [nl] := by rw [List.map_append, HXS.out]; rfl
      rw [← h1]
      refine lli_of ?_ fun x hx => ?_
      · have h2 : (((xs ++ [((.slice na nl.length nc, nl) : VL)]).map (·.1))).length = ls.length + 1 := by rw [List.length_map, List.length_append]; have := HXL.out; rw [List.length_map] at this; rw [this]; rfl
        have h3 : w4.ownsRow w2.heap.size 38 1 (.slice xA (ls.length + 1) xcap) ((xs ++ [((.slice na nl.length nc, nl) : VL)]).map (·.1)).length ((((xs ++ [((.slice na nl.length nc, nl) : VL)]).map (·.1))).flatMap (cellsOf 1 vcell)) := by rw [flat_v, h2, List.map_append]; simpa using hown4
        have h4 := Arr.of_own (l := (xs ++ [((.slice na nl.length nc, nl) : VL)]).map (·.1)) (cell := vcell) h3
        exact h4
      · rcases List.mem_append.1 hx with hx | hx
        · exact (HX3L.out x hx).call hbx4
        · rw [List.mem_singleton] at hx
          subst hx
          exact hN.call hbx4
    replace hC := hC.call hbx4
    replace hL := hL.call hbx4
    replace hB := hB.trans ((hbx4).mono hB.size)
    replace hQ := hQ.call hbx4
    clear hown3 hown4 hg4 hat4 hbx hbx4 hN HX2
    have hlx : (ls ++ [nl]).length = ls.length + 1 := by simp
    have HLX := Lib.hid hlx
    clear hlx
    obtain ⟨FX, hFX⟩ : ∃ F, F = fineB b (ls ++ [nl]) := ⟨_, rfl⟩
    have hfx := lfine_ok _ _ b (ls ++ [nl]) w4 hC.bv hXX
    rw [← hFX] at hfx
    have HFX := Lib.hid hFX
    clear hFX
    go_upto_region 7 with (fail)
    have k0 := hC.c0
    go_wp2_with fail
    refine (hfx).mono ?_
    rintro e w5 hp
    clear k0
    obtain ⟨rfl, hb⟩ := hp
    replace hC := hC.call hb
    replace hL := hL.call hb
    replace hB := hB.trans ((hb).mono hB.size)
    replace hQ := hQ.call hb
    replace hXX := hXX.call hb
    clear hb hfx
    go_upto_if 49 with (fail)
    go_cut [] from 50 to 63 (fun wx => Below w5.heap.size w5 wx)
    case first =>
      cases FX
      · go_wp2
        go_meet
        case rel => exact Below.refl _ _
      · obtain ⟨hf2, -⟩ := fineB_iff.1 HFX.out.symm
        have hle := more_hearer HG.out (good_of hf2)
        have hlo := llong_ok _ _ b (ls ++ [nl]) w5 hC.bv hXX hf2
        rw [← HM.out] at hle
        obtain ⟨M2, hM2⟩ : ∃ M2, M2 = mostOf b (ls ++ [nl]) := ⟨_, rfl⟩
        rw [← hM2] at hlo hle
        have d1 : decide ((M : Int) < (M2 : Int)) = false := decide_eq_false (by omega)
        have d1' : decide (M < M2) = false := decide_eq_false (by omega)
        clear hf2 hle hM2
        have k0 := hC.c0
        go_wp2_with fail
        refine (hlo).mono ?_
        rintro e w6 hp
        clear k0
        obtain ⟨rfl, hb⟩ := hp
        clear hlo
        go_wp2
        go_meet
        case rel => exact hb
    case rest =>
      have hb := hcut
      replace hC := hC.call hb
      replace hL := hL.call hb
      replace hB := hB.trans ((hb).mono hB.size)
      replace hQ := hQ.call hb
      obtain ⟨wq, hwq⟩ : ∃ wq : World, wq = wc := ⟨_, rfl⟩
      rw [← hwq] at hC hL hB hQ ⊢
      clear hb hcut hwq hXX HFX
      have q0 := hQ.cell 0
      have q1 := hQ.cell 1
      simp at q0 q1
      have f0 := Ext.of hC.c0
      have f1 := Ext.of q0
      have f2 := Ext.of q1
      have hla3 := hC.arr
      have HONE := Lib.hid (one_pp b)
      have HX : Hid (∀ {w' : World}, Below wq.heap.size wq w' → Below wq.heap.size wq w') := fun {w'} h => h
      clear q0 q1
      go_upto_region 11 with (fail)
      go_cut [20] from 63 to 71 (fun g wx => ∃ bx cA ccap, g = .pointer (some ⟨bx, 0, none⟩) ∧ wq.heap.size ≤ bx ∧ BB wx bx (b ++ [p]) cA ccap ∧ Below wq.heap.size wq wx)
      case first =>
        refine ways_start 10 (fun w' => ∃ x : Ext wq, w' = x.w) (by rfl) (by kernel_rfl) ?_
        have hx : Below wq.heap.size wq wq.drew := (Below.refl wq.heap.size wq).drew
        generalize wq.drew = v0 at *
        refine ways_q 1 (by rfl) (by rfl) (by kernel_rfl) (by kernel_rfl) (by kernel_rfl) (by rfl) ⟨⟨v0, HX.out hx⟩, rfl⟩ ?_
        intro K hK
        go_big_quiet_op
        go_big_quiet_on
        refine ways_q 2 (by rfl) (by rfl) (by kernel_rfl) (by kernel_rfl) (by kernel_rfl) (by rfl) ⟨⟨v0, HX.out hx⟩, rfl⟩ ?_
        intro K hK
        go_big_quiet_op
        go_big_quiet_on
        refine ways_q 4 (by rfl) (by rfl) (by kernel_rfl) (by kernel_rfl) (by kernel_rfl) (by rfl) ⟨⟨v0, HX.out hx⟩, rfl⟩ ?_
        intro K hK
        go_big_quiet_op
        go_big_quiet_on
        refine ways_3 0 5 8 (by kernel_rfl) ?_ ?_ ?_
        · refine ⟨_, _, (by rfl), (by rfl), ?_⟩
          intro K' hK'
          go_wp2
          have hown := own_empty v0 wq.heap.size 57 2 hx.size
          have hbb := (Below.refl (v0).heap.size v0).alloc (Nat.le_refl _) (.cells #[] 57)
          have hgs : (v0).heap.size < ((v0).alloc (.cells #[] 57)).heap.size := by simp
          replace hx := hx.trans (hbb.mono hx.size)
          generalize (v0).alloc (.cells #[] 57) = v1 at *
          generalize (v0).heap.size = eb at *
          refine hK' _ _ ⟨⟨⟨v1, HX.out hx⟩, rfl⟩, ?_⟩
          clear hK' K'
          clear hbb
          refine ways_3 3 5 8 (by kernel_rfl) ?_ ?_ ?_
          · refine ⟨_, _, (by rfl), (by rfl), ?_⟩
            intro K' hK'
            refine wpList_appArr (sv := .slice (some ⟨eb, 0, none⟩) 0 0) slT_pp rfl (.tmp 63) (.tmp 65) rfl rfl hown rfl (hla3.below hx) HONE.out hx.size (by omega) (by omega) ?_
            intro v' v2 hown2 hb2 hgr
            rw [Nat.zero_add, List.nil_append] at hown2
            obtain ⟨A3, cap3, rfl⟩ := own_form hown2
            replace hx := hx.trans hb2
            clear hown hgr hb2
            go_wp2
            refine hK' _ _ ⟨⟨⟨v2, HX.out hx⟩, rfl⟩, ?_⟩
            clear hK' K'
            refine ways_2 5 8 (by kernel_rfl) ?_ ?_
            · refine ⟨_, _, (by rfl), (by rfl), ?_⟩
              intro K' hK'
              go_wp2
              have hs1 := Blk.new v2 57 #[.int .i64 p.1, .int .i64 p.2]
              have hbb := (Below.refl (v2).heap.size v2).alloc (Nat.le_refl _) (.cells #[.int .i64 p.1, .int .i64 p.2] 57)
              have hgs2 : (v2).heap.size < ((v2).alloc (.cells #[.int .i64 p.1, .int .i64 p.2] 57)).heap.size := by simp
              replace hx := hx.trans (hbb.mono hx.size)
              replace hown2 := own_call hown2 hbb
              generalize (v2).alloc (.cells #[.int .i64 p.1, .int .i64 p.2] 57) = v3 at *
              generalize (v2).heap.size = sx at *
              refine hK' _ _ ⟨⟨⟨v3, HX.out hx⟩, rfl⟩, ?_⟩
              clear hK' K'
              clear hbb
              refine ways_2 6 8 (by kernel_rfl) ?_ ?_
              · refine ⟨_, _, (by rfl), (by rfl), ?_⟩
                intro K' hK'
                have harr1 : Arr v3 (v3).heap.size 2 (.slice (some ⟨sx, 0, none⟩) 1 1) [p] p2cell := Arr.lit hs1 hs1.lt rfl (by simp) (by omega) (by simp [cellsOf, List.range_succ, p2cell])
                refine wpList_appArr (l := [p]) slT_pp rfl (.tmp 66) (.tmp 68) rfl rfl hown2 rfl harr1 (one_pp _) hx.size (by simp; omega) (by omega) ?_
                intro v5 v4 hown3 hb3 hgr3
                rw [← List.flatMap_append] at hown3
                obtain ⟨A5, cap5, rfl⟩ := own_form hown3
                replace hx := hx.trans hb3
                clear hown2 hgr3 hb3 harr1 hs1
                go_wp2
                refine hK' _ _ ⟨⟨⟨v4, HX.out hx⟩, rfl⟩, ?_⟩
                clear hK' K'
                refine ways_q 7 (by rfl) (by rfl) (by kernel_rfl) (by kernel_rfl) (by kernel_rfl) (by rfl) ⟨⟨v4, HX.out hx⟩, rfl⟩ ?_
                intro K hK
                go_big_quiet_op
                go_big_quiet_on
                refine ways_1 8 (by kernel_rfl) ?_
                refine ⟨_, _, (by rfl), (by rfl), ?_⟩
                intro K' hK'
                go_wp2
                have hbx := Blk.new v4 24 #[.slice none 0 0]
                have hbw : wq.heap.size ≤ (v4).heap.size := hx.size
                have hbb := (Below.refl (v4).heap.size v4).alloc (Nat.le_refl _) (.cells #[.slice none 0 0] 24)
                have hgs8 : (v4).heap.size < ((v4).alloc (.cells #[.slice none 0 0] 24)).heap.size := by simp
                replace hx := hx.trans (hbb.mono hx.size)
                replace hown3 := own_call hown3 hbb
                generalize (v4).alloc (.cells #[.slice none 0 0] 24) = v5 at *
                generalize (v4).heap.size = bx at *
                refine hK' _ _ ⟨⟨⟨v5, HX.out hx⟩, rfl⟩, ?_⟩
                clear hK' K'
                clear hbb
                refine ways_1 9 (by kernel_rfl) ?_
                refine ⟨_, _, (by rfl), (by rfl), ?_⟩
                intro K' hK'
                have b0 := hbx.cell 0
                have b1 := hbx.frozen 0
                simp at b0
                go_wp2
                replace hown3 := own_grown hown3 (grown_setCell (w := v5) (g := bx) (o := 0) (.slice A5 (b.length + 1) cap5)) (fun r e e2 => own_blk_ne hown3 hbx (by decide) (by rw [e2]; exact e))
                replace hbx := hbx.set_ 0 (.slice A5 (b.length + 1) cap5)
                replace hx := hx.setCell (p := ⟨bx, 0, none⟩) hbw (.slice A5 (b.length + 1) cap5)
                clear b0 b1
                generalize (v5).setCell ⟨bx, 0, none⟩ (.slice A5 (b.length + 1) cap5) = vz at *
                refine hK' _ _ ⟨⟨⟨vz, HX.out hx⟩, rfl⟩, ?_⟩
                clear hK' K'
                refine ways_end (by kernel_rfl) ?_
                go_wp2
                go_meet
                case rel => exact ⟨bx, A5, cap5, rfl, hbw, ⟨by simpa using hbx, by have := Arr.of_own (w := vz) (base := wq.heap.size) (e := 57) (l := b ++ [p]) (cell := p2cell) (size := 2) (v := .slice A5 (b.length + 1) cap5) (by simpa using hown3); simpa using this⟩, hx⟩
              · refine ⟨_, _, (by rfl), (by rfl), ?_⟩
                intro K' hK'
                go_wp2
                have hbx := Blk.new v3 24 #[.slice none 0 0]
                have hbw : wq.heap.size ≤ (v3).heap.size := hx.size
                have hbb := (Below.refl (v3).heap.size v3).alloc (Nat.le_refl _) (.cells #[.slice none 0 0] 24)
                have hgs8 : (v3).heap.size < ((v3).alloc (.cells #[.slice none 0 0] 24)).heap.size := by simp
                replace hx := hx.trans (hbb.mono hx.size)
                replace hown2 := own_call hown2 hbb
                replace hs1 := hs1.call hbb
                generalize (v3).alloc (.cells #[.slice none 0 0] 24) = v4 at *
                generalize (v3).heap.size = bx at *
                refine hK' _ _ ⟨⟨⟨v4, HX.out hx⟩, rfl⟩, ?_⟩
                clear hK' K'
                clear hbb
                refine ways_1 6 (by kernel_rfl) ?_
                refine ⟨_, _, (by rfl), (by rfl), ?_⟩
                intro K' hK'
                have harr1 : Arr v4 (v4).heap.size 2 (.slice (some ⟨sx, 0, none⟩) 1 1) [p] p2cell := Arr.lit hs1 hs1.lt rfl (by simp) (by omega) (by simp [cellsOf, List.range_succ, p2cell])
                refine wpList_appArr (l := [p]) slT_pp rfl (.tmp 66) (.tmp 68) rfl rfl hown2 rfl harr1 (one_pp _) hx.size (by simp; omega) (by omega) ?_
                intro v5 v5 hown3 hb3 hgr3
                rw [← List.flatMap_append] at hown3
                obtain ⟨A5, cap5, rfl⟩ := own_form hown3
                replace hbx := hbx.grown hgr3 (own_blk_ne hown2 hbx (by decide))
                replace hx := hx.trans hb3
                clear hown2 hgr3 hb3 harr1 hs1
                go_wp2
                refine hK' _ _ ⟨⟨⟨v5, HX.out hx⟩, rfl⟩, ?_⟩
                clear hK' K'
                refine ways_q 7 (by rfl) (by rfl) (by kernel_rfl) (by kernel_rfl) (by kernel_rfl) (by rfl) ⟨⟨v5, HX.out hx⟩, rfl⟩ ?_
                intro K hK
                go_big_quiet_op
                go_big_quiet_on
                refine ways_1 9 (by kernel_rfl) ?_
                refine ⟨_, _, (by rfl), (by rfl), ?_⟩
                intro K' hK'
                have b0 := hbx.cell 0
                have b1 := hbx.frozen 0
                simp at b0
                go_wp2
                replace hown3 := own_grown hown3 (grown_setCell (w := v5) (g := bx) (o := 0) (.slice A5 (b.length + 1) cap5)) (fun r e e2 => own_blk_ne hown3 hbx (by decide) (by rw [e2]; exact e))
                replace hbx := hbx.set_ 0 (.slice A5 (b.length + 1) cap5)
                replace hx := hx.setCell (p := ⟨bx, 0, none⟩) hbw (.slice A5 (b.length + 1) cap5)
                clear b0 b1
                generalize (v5).setCell ⟨bx, 0, none⟩ (.slice A5 (b.length + 1) cap5) = vz at *
                refine hK' _ _ ⟨⟨⟨vz, HX.out hx⟩, rfl⟩, ?_⟩
                clear hK' K'
                refine ways_end (by kernel_rfl) ?_
                go_wp2
                go_meet
                case rel => exact ⟨bx, A5, cap5, rfl, hbw, ⟨by simpa using hbx, by have := Arr.of_own (w := vz) (base := wq.heap.size) (e := 57) (l := b ++ [p]) (cell := p2cell) (size := 2) (v := .slice A5 (b.length + 1) cap5) (by simpa using hown3); simpa using this⟩, hx⟩
            · refine ⟨_, _, (by rfl), (by rfl), ?_⟩
              intro K' hK'
              go_wp2
              have hbx := Blk.new v2 24 #[.slice none 0 0]
              have hbw : wq.heap.size ≤ (v2).heap.size := hx.size
              have hbb := (Below.refl (v2).heap.size v2).alloc (Nat.le_refl _) (.cells #[.slice none 0 0] 24)
              have hgs8 : (v2).heap.size < ((v2).alloc (.cells #[.slice none 0 0] 24)).heap.size := by simp
              replace hx := hx.trans (hbb.mono hx.size)
              replace hown2 := own_call hown2 hbb
              generalize (v2).alloc (.cells #[.slice none 0 0] 24) = v3 at *
              generalize (v2).heap.size = bx at *
              refine hK' _ _ ⟨⟨⟨v3, HX.out hx⟩, rfl⟩, ?_⟩
              clear hK' K'
              clear hbb
              refine ways_1 5 (by kernel_rfl) ?_
              refine ⟨_, _, (by rfl), (by rfl), ?_⟩
              intro K' hK'
              go_wp2
              have hs1 := Blk.new v3 57 #[.int .i64 p.1, .int .i64 p.2]
              have hbb := (Below.refl (v3).heap.size v3).alloc (Nat.le_refl _) (.cells #[.int .i64 p.1, .int .i64 p.2] 57)
              have hgs2 : (v3).heap.size < ((v3).alloc (.cells #[.int .i64 p.1, .int .i64 p.2] 57)).heap.size := by simp
              replace hx := hx.trans (hbb.mono hx.size)
              replace hown2 := own_call hown2 hbb
              replace hbx := hbx.call hbb
              generalize (v3).alloc (.cells #[.int .i64 p.1, .int .i64 p.2] 57) = v4 at *
              generalize (v3).heap.size = sx at *
              refine hK' _ _ ⟨⟨⟨v4, HX.out hx⟩, rfl⟩, ?_⟩
              clear hK' K'
              clear hbb
              refine ways_1 6 (by kernel_rfl) ?_
              refine ⟨_, _, (by rfl), (by rfl), ?_⟩
              intro K' hK'
              have harr1 : Arr v4 (v4).heap.size 2 (.slice (some ⟨sx, 0, none⟩) 1 1) [p] p2cell := Arr.lit hs1 hs1.lt rfl (by simp) (by omega) (by simp [cellsOf, List.range_succ, p2cell])
              refine wpList_appArr (l := [p]) slT_pp rfl (.tmp 66) (.tmp 68) rfl rfl hown2 rfl harr1 (one_pp _) hx.size (by simp; omega) (by omega) ?_
              intro v5 v5 hown3 hb3 hgr3
              rw [← List.flatMap_append] at hown3
              obtain ⟨A5, cap5, rfl⟩ := own_form hown3
              replace hbx := hbx.grown hgr3 (own_blk_ne hown2 hbx (by decide))
              replace hx := hx.trans hb3
              clear hown2 hgr3 hb3 harr1 hs1
              go_wp2
              refine hK' _ _ ⟨⟨⟨v5, HX.out hx⟩, rfl⟩, ?_⟩
              clear hK' K'
              refine ways_q 7 (by rfl) (by rfl) (by kernel_rfl) (by kernel_rfl) (by kernel_rfl) (by rfl) ⟨⟨v5, HX.out hx⟩, rfl⟩ ?_
              intro K hK
              go_big_quiet_op
              go_big_quiet_on
              refine ways_1 9 (by kernel_rfl) ?_
              refine ⟨_, _, (by rfl), (by rfl), ?_⟩
              intro K' hK'
              have b0 := hbx.cell 0
              have b1 := hbx.frozen 0
              simp at b0
              go_wp2
              replace hown3 := own_grown hown3 (grown_setCell (w := v5) (g := bx) (o := 0) (.slice A5 (b.length + 1) cap5)) (fun r e e2 => own_blk_ne hown3 hbx (by decide) (by rw [e2]; exact e))
              replace hbx := hbx.set_ 0 (.slice A5 (b.length + 1) cap5)
              replace hx := hx.setCell (p := ⟨bx, 0, none⟩) hbw (.slice A5 (b.length + 1) cap5)
              clear b0 b1
              generalize (v5).setCell ⟨bx, 0, none⟩ (.slice A5 (b.length + 1) cap5) = vz at *
              refine hK' _ _ ⟨⟨⟨vz, HX.out hx⟩, rfl⟩, ?_⟩
              clear hK' K'
              refine ways_end (by kernel_rfl) ?_
              go_wp2
              go_meet
              case rel => exact ⟨bx, A5, cap5, rfl, hbw, ⟨by simpa using hbx, by have := Arr.of_own (w := vz) (base := wq.heap.size) (e := 57) (l := b ++ [p]) (cell := p2cell) (size := 2) (v := .slice A5 (b.length + 1) cap5) (by simpa using hown3); simpa using this⟩, hx⟩
          · refine ⟨_, _, (by rfl), (by rfl), ?_⟩
            intro K' hK'
            go_wp2
            have hs1 := Blk.new v1 57 #[.int .i64 p.1, .int .i64 p.2]
            have hbb := (Below.refl (v1).heap.size v1).alloc (Nat.le_refl _) (.cells #[.int .i64 p.1, .int .i64 p.2] 57)
            have hgs2 : (v1).heap.size < ((v1).alloc (.cells #[.int .i64 p.1, .int .i64 p.2] 57)).heap.size := by simp
            replace hx := hx.trans (hbb.mono hx.size)
            replace hown := own_call hown hbb
            generalize (v1).alloc (.cells #[.int .i64 p.1, .int .i64 p.2] 57) = v2 at *
            generalize (v1).heap.size = sx at *
            refine hK' _ _ ⟨⟨⟨v2, HX.out hx⟩, rfl⟩, ?_⟩
            clear hK' K'
            clear hbb
            refine ways_2 3 8 (by kernel_rfl) ?_ ?_
            · refine ⟨_, _, (by rfl), (by rfl), ?_⟩
              intro K' hK'
              refine wpList_appArr (sv := .slice (some ⟨eb, 0, none⟩) 0 0) slT_pp rfl (.tmp 63) (.tmp 65) rfl rfl hown rfl (hla3.below hx) HONE.out hx.size (by omega) (by omega) ?_
              intro v' v3 hown2 hb2 hgr
              rw [Nat.zero_add, List.nil_append] at hown2
              obtain ⟨A3, cap3, rfl⟩ := own_form hown2
              replace hx := hx.trans hb2
              replace hs1 := hs1.grown hgr (fun e => absurd (show sx = eb by simpa [Value.ownBlock] using e) (by omega))
              clear hown hgr hb2
              go_wp2
              refine hK' _ _ ⟨⟨⟨v3, HX.out hx⟩, rfl⟩, ?_⟩
              clear hK' K'
              refine ways_2 6 8 (by kernel_rfl) ?_ ?_
              · refine ⟨_, _, (by rfl), (by rfl), ?_⟩
                intro K' hK'
                have harr1 : Arr v3 (v3).heap.size 2 (.slice (some ⟨sx, 0, none⟩) 1 1) [p] p2cell := Arr.lit hs1 hs1.lt rfl (by simp) (by omega) (by simp [cellsOf, List.range_succ, p2cell])
                refine wpList_appArr (l := [p]) slT_pp rfl (.tmp 66) (.tmp 68) rfl rfl hown2 rfl harr1 (one_pp _) hx.size (by simp; omega) (by omega) ?_
                intro v5 v4 hown3 hb3 hgr3
                rw [← List.flatMap_append] at hown3
                obtain ⟨A5, cap5, rfl⟩ := own_form hown3
                replace hx := hx.trans hb3
                clear hown2 hgr3 hb3 harr1 hs1
                go_wp2
                refine hK' _ _ ⟨⟨⟨v4, HX.out hx⟩, rfl⟩, ?_⟩
                clear hK' K'
                refine ways_q 7 (by rfl) (by rfl) (by kernel_rfl) (by kernel_rfl) (by kernel_rfl) (by rfl) ⟨⟨v4, HX.out hx⟩, rfl⟩ ?_
                intro K hK
                go_big_quiet_op
                go_big_quiet_on
                refine ways_1 8 (by kernel_rfl) ?_
                refine ⟨_, _, (by rfl), (by rfl), ?_⟩
                intro K' hK'
                go_wp2
                have hbx := Blk.new v4 24 #[.slice none 0 0]
                have hbw : wq.heap.size ≤ (v4).heap.size := hx.size
                have hbb := (Below.refl (v4).heap.size v4).alloc (Nat.le_refl _) (.cells #[.slice none 0 0] 24)
                have hgs8 : (v4).heap.size < ((v4).alloc (.cells #[.slice none 0 0] 24)).heap.size := by simp
                replace hx := hx.trans (hbb.mono hx.size)
                replace hown3 := own_call hown3 hbb
                generalize (v4).alloc (.cells #[.slice none 0 0] 24) = v5 at *
                generalize (v4).heap.size = bx at *
                refine hK' _ _ ⟨⟨⟨v5, HX.out hx⟩, rfl⟩, ?_⟩
                clear hK' K'
                clear hbb
                refine ways_1 9 (by kernel_rfl) ?_
                refine ⟨_, _, (by rfl), (by rfl), ?_⟩
                intro K' hK'
                have b0 := hbx.cell 0
                have b1 := hbx.frozen 0
                simp at b0
                go_wp2
                replace hown3 := own_grown hown3 (grown_setCell (w := v5) (g := bx) (o := 0) (.slice A5 (b.length + 1) cap5)) (fun r e e2 => own_blk_ne hown3 hbx (by decide) (by rw [e2]; exact e))
                replace hbx := hbx.set_ 0 (.slice A5 (b.length + 1) cap5)
                replace hx := hx.setCell (p := ⟨bx, 0, none⟩) hbw (.slice A5 (b.length + 1) cap5)
                clear b0 b1
                generalize (v5).setCell ⟨bx, 0, none⟩ (.slice A5 (b.length + 1) cap5) = vz at *
                refine hK' _ _ ⟨⟨⟨vz, HX.out hx⟩, rfl⟩, ?_⟩
                clear hK' K'
                refine ways_end (by kernel_rfl) ?_
                go_wp2
                go_meet
                case rel => exact ⟨bx, A5, cap5, rfl, hbw, ⟨by simpa using hbx, by have := Arr.of_own (w := vz) (base := wq.heap.size) (e := 57) (l := b ++ [p]) (cell := p2cell) (size := 2) (v := .slice A5 (b.length + 1) cap5) (by simpa using hown3); simpa using this⟩, hx⟩
              · refine ⟨_, _, (by rfl), (by rfl), ?_⟩
                intro K' hK'
                go_wp2
                have hbx := Blk.new v3 24 #[.slice none 0 0]
                have hbw : wq.heap.size ≤ (v3).heap.size := hx.size
                have hbb := (Below.refl (v3).heap.size v3).alloc (Nat.le_refl _) (.cells #[.slice none 0 0] 24)
                have hgs8 : (v3).heap.size < ((v3).alloc (.cells #[.slice none 0 0] 24)).heap.size := by simp
                replace hx := hx.trans (hbb.mono hx.size)
                replace hown2 := own_call hown2 hbb
                replace hs1 := hs1.call hbb
                generalize (v3).alloc (.cells #[.slice none 0 0] 24) = v4 at *
                generalize (v3).heap.size = bx at *
                refine hK' _ _ ⟨⟨⟨v4, HX.out hx⟩, rfl⟩, ?_⟩
                clear hK' K'
                clear hbb
                refine ways_1 6 (by kernel_rfl) ?_
                refine ⟨_, _, (by rfl), (by rfl), ?_⟩
                intro K' hK'
                have harr1 : Arr v4 (v4).heap.size 2 (.slice (some ⟨sx, 0, none⟩) 1 1) [p] p2cell := Arr.lit hs1 hs1.lt rfl (by simp) (by omega) (by simp [cellsOf, List.range_succ, p2cell])
                refine wpList_appArr (l := [p]) slT_pp rfl (.tmp 66) (.tmp 68) rfl rfl hown2 rfl harr1 (one_pp _) hx.size (by simp; omega) (by omega) ?_
                intro v5 v5 hown3 hb3 hgr3
                rw [← List.flatMap_append] at hown3
                obtain ⟨A5, cap5, rfl⟩ := own_form hown3
                replace hbx := hbx.grown hgr3 (own_blk_ne hown2 hbx (by decide))
                replace hx := hx.trans hb3
                clear hown2 hgr3 hb3 harr1 hs1
                go_wp2
                refine hK' _ _ ⟨⟨⟨v5, HX.out hx⟩, rfl⟩, ?_⟩
                clear hK' K'
                refine ways_q 7 (by rfl) (by rfl) (by kernel_rfl) (by kernel_rfl) (by kernel_rfl) (by rfl) ⟨⟨v5, HX.out hx⟩, rfl⟩ ?_
                intro K hK
                go_big_quiet_op
                go_big_quiet_on
                refine ways_1 9 (by kernel_rfl) ?_
                refine ⟨_, _, (by rfl), (by rfl), ?_⟩
                intro K' hK'
                have b0 := hbx.cell 0
                have b1 := hbx.frozen 0
                simp at b0
                go_wp2
                replace hown3 := own_grown hown3 (grown_setCell (w := v5) (g := bx) (o := 0) (.slice A5 (b.length + 1) cap5)) (fun r e e2 => own_blk_ne hown3 hbx (by decide) (by rw [e2]; exact e))
                replace hbx := hbx.set_ 0 (.slice A5 (b.length + 1) cap5)
                replace hx := hx.setCell (p := ⟨bx, 0, none⟩) hbw (.slice A5 (b.length + 1) cap5)
                clear b0 b1
                generalize (v5).setCell ⟨bx, 0, none⟩ (.slice A5 (b.length + 1) cap5) = vz at *
                refine hK' _ _ ⟨⟨⟨vz, HX.out hx⟩, rfl⟩, ?_⟩
                clear hK' K'
                refine ways_end (by kernel_rfl) ?_
                go_wp2
                go_meet
                case rel => exact ⟨bx, A5, cap5, rfl, hbw, ⟨by simpa using hbx, by have := Arr.of_own (w := vz) (base := wq.heap.size) (e := 57) (l := b ++ [p]) (cell := p2cell) (size := 2) (v := .slice A5 (b.length + 1) cap5) (by simpa using hown3); simpa using this⟩, hx⟩
            · refine ⟨_, _, (by rfl), (by rfl), ?_⟩
              intro K' hK'
              go_wp2
              have hbx := Blk.new v2 24 #[.slice none 0 0]
              have hbw : wq.heap.size ≤ (v2).heap.size := hx.size
              have hbb := (Below.refl (v2).heap.size v2).alloc (Nat.le_refl _) (.cells #[.slice none 0 0] 24)
              have hgs8 : (v2).heap.size < ((v2).alloc (.cells #[.slice none 0 0] 24)).heap.size := by simp
              replace hx := hx.trans (hbb.mono hx.size)
              replace hown := own_call hown hbb
              replace hs1 := hs1.call hbb
              generalize (v2).alloc (.cells #[.slice none 0 0] 24) = v3 at *
              generalize (v2).heap.size = bx at *
              refine hK' _ _ ⟨⟨⟨v3, HX.out hx⟩, rfl⟩, ?_⟩
              clear hK' K'
              clear hbb
              refine ways_1 3 (by kernel_rfl) ?_
              refine ⟨_, _, (by rfl), (by rfl), ?_⟩
              intro K' hK'
              refine wpList_appArr (sv := .slice (some ⟨eb, 0, none⟩) 0 0) slT_pp rfl (.tmp 63) (.tmp 65) rfl rfl hown rfl (hla3.below hx) HONE.out hx.size (by omega) (by omega) ?_
              intro v' v4 hown2 hb2 hgr
              rw [Nat.zero_add, List.nil_append] at hown2
              obtain ⟨A3, cap3, rfl⟩ := own_form hown2
              replace hx := hx.trans hb2
              replace hs1 := hs1.grown hgr (fun e => absurd (show sx = eb by simpa [Value.ownBlock] using e) (by omega))
              replace hbx := hbx.grown hgr (own_blk_ne hown hbx (by decide))
              clear hown hgr hb2
              go_wp2
              refine hK' _ _ ⟨⟨⟨v4, HX.out hx⟩, rfl⟩, ?_⟩
              clear hK' K'
              refine ways_1 6 (by kernel_rfl) ?_
              refine ⟨_, _, (by rfl), (by rfl), ?_⟩
              intro K' hK'
              have harr1 : Arr v4 (v4).heap.size 2 (.slice (some ⟨sx, 0, none⟩) 1 1) [p] p2cell := Arr.lit hs1 hs1.lt rfl (by simp) (by omega) (by simp [cellsOf, List.range_succ, p2cell])
              refine wpList_appArr (l := [p]) slT_pp rfl (.tmp 66) (.tmp 68) rfl rfl hown2 rfl harr1 (one_pp _) hx.size (by simp; omega) (by omega) ?_
              intro v5 v5 hown3 hb3 hgr3
              rw [← List.flatMap_append] at hown3
              obtain ⟨A5, cap5, rfl⟩ := own_form hown3
              replace hbx := hbx.grown hgr3 (own_blk_ne hown2 hbx (by decide))
              replace hx := hx.trans hb3
              clear hown2 hgr3 hb3 harr1 hs1
              go_wp2
              refine hK' _ _ ⟨⟨⟨v5, HX.out hx⟩, rfl⟩, ?_⟩
              clear hK' K'
              refine ways_q 7 (by rfl) (by rfl) (by kernel_rfl) (by kernel_rfl) (by kernel_rfl) (by rfl) ⟨⟨v5, HX.out hx⟩, rfl⟩ ?_
              intro K hK
              go_big_quiet_op
              go_big_quiet_on
              refine ways_1 9 (by kernel_rfl) ?_
              refine ⟨_, _, (by rfl), (by rfl), ?_⟩
              intro K' hK'
              have b0 := hbx.cell 0
              have b1 := hbx.frozen 0
              simp at b0
              go_wp2
              replace hown3 := own_grown hown3 (grown_setCell (w := v5) (g := bx) (o := 0) (.slice A5 (b.length + 1) cap5)) (fun r e e2 => own_blk_ne hown3 hbx (by decide) (by rw [e2]; exact e))
              replace hbx := hbx.set_ 0 (.slice A5 (b.length + 1) cap5)
              replace hx := hx.setCell (p := ⟨bx, 0, none⟩) hbw (.slice A5 (b.length + 1) cap5)
              clear b0 b1
              generalize (v5).setCell ⟨bx, 0, none⟩ (.slice A5 (b.length + 1) cap5) = vz at *
              refine hK' _ _ ⟨⟨⟨vz, HX.out hx⟩, rfl⟩, ?_⟩
              clear hK' K'
              refine ways_end (by kernel_rfl) ?_
              go_wp2
              go_meet
              case rel => exact ⟨bx, A5, cap5, rfl, hbw, ⟨by simpa using hbx, by have := Arr.of_own (w := vz) (base := wq.heap.size) (e := 57) (l := b ++ [p]) (cell := p2cell) (size := 2) (v := .slice A5 (b.length + 1) cap5) (by simpa using hown3); simpa using this⟩, hx⟩
          · refine ⟨_, _, (by rfl), (by rfl), ?_⟩
            intro K' hK'
            go_wp2
            have hbx := Blk.new v1 24 #[.slice none 0 0]
            have hbw : wq.heap.size ≤ (v1).heap.size := hx.size
            have hbb := (Below.refl (v1).heap.size v1).alloc (Nat.le_refl _) (.cells #[.slice none 0 0] 24)
            have hgs8 : (v1).heap.size < ((v1).alloc (.cells #[.slice none 0 0] 24)).heap.size := by simp
            replace hx := hx.trans (hbb.mono hx.size)
            replace hown := own_call hown hbb
            generalize (v1).alloc (.cells #[.slice none 0 0] 24) = v2 at *
            generalize (v1).heap.size = bx at *
            refine hK' _ _ ⟨⟨⟨v2, HX.out hx⟩, rfl⟩, ?_⟩
            clear hK' K'
            clear hbb
            refine ways_2 3 5 (by kernel_rfl) ?_ ?_
            · refine ⟨_, _, (by rfl), (by rfl), ?_⟩
              intro K' hK'
              refine wpList_appArr (sv := .slice (some ⟨eb, 0, none⟩) 0 0) slT_pp rfl (.tmp 63) (.tmp 65) rfl rfl hown rfl (hla3.below hx) HONE.out hx.size (by omega) (by omega) ?_
              intro v' v3 hown2 hb2 hgr
              rw [Nat.zero_add, List.nil_append] at hown2
              obtain ⟨A3, cap3, rfl⟩ := own_form hown2
              replace hx := hx.trans hb2
              replace hbx := hbx.grown hgr (own_blk_ne hown hbx (by decide))
              clear hown hgr hb2
              go_wp2
              refine hK' _ _ ⟨⟨⟨v3, HX.out hx⟩, rfl⟩, ?_⟩
              clear hK' K'
              refine ways_1 5 (by kernel_rfl) ?_
              refine ⟨_, _, (by rfl), (by rfl), ?_⟩
              intro K' hK'
              go_wp2
              have hs1 := Blk.new v3 57 #[.int .i64 p.1, .int .i64 p.2]
              have hbb := (Below.refl (v3).heap.size v3).alloc (Nat.le_refl _) (.cells #[.int .i64 p.1, .int .i64 p.2] 57)
              have hgs2 : (v3).heap.size < ((v3).alloc (.cells #[.int .i64 p.1, .int .i64 p.2] 57)).heap.size := by simp
              replace hx := hx.trans (hbb.mono hx.size)
              replace hown2 := own_call hown2 hbb
              replace hbx := hbx.call hbb
              generalize (v3).alloc (.cells #[.int .i64 p.1, .int .i64 p.2] 57) = v4 at *
              generalize (v3).heap.size = sx at *
              refine hK' _ _ ⟨⟨⟨v4, HX.out hx⟩, rfl⟩, ?_⟩
              clear hK' K'
              clear hbb
              refine ways_1 6 (by kernel_rfl) ?_
              refine ⟨_, _, (by rfl), (by rfl), ?_⟩
              intro K' hK'
              have harr1 : Arr v4 (v4).heap.size 2 (.slice (some ⟨sx, 0, none⟩) 1 1) [p] p2cell := Arr.lit hs1 hs1.lt rfl (by simp) (by omega) (by simp [cellsOf, List.range_succ, p2cell])
              refine wpList_appArr (l := [p]) slT_pp rfl (.tmp 66) (.tmp 68) rfl rfl hown2 rfl harr1 (one_pp _) hx.size (by simp; omega) (by omega) ?_
              intro v5 v5 hown3 hb3 hgr3
              rw [← List.flatMap_append] at hown3
              obtain ⟨A5, cap5, rfl⟩ := own_form hown3
              replace hbx := hbx.grown hgr3 (own_blk_ne hown2 hbx (by decide))
              replace hx := hx.trans hb3
              clear hown2 hgr3 hb3 harr1 hs1
              go_wp2
              refine hK' _ _ ⟨⟨⟨v5, HX.out hx⟩, rfl⟩, ?_⟩
              clear hK' K'
              refine ways_q 7 (by rfl) (by rfl) (by kernel_rfl) (by kernel_rfl) (by kernel_rfl) (by rfl) ⟨⟨v5, HX.out hx⟩, rfl⟩ ?_
              intro K hK
              go_big_quiet_op
              go_big_quiet_on
              refine ways_1 9 (by kernel_rfl) ?_
              refine ⟨_, _, (by rfl), (by rfl), ?_⟩
              intro K' hK'
              have b0 := hbx.cell 0
              have b1 := hbx.frozen 0
              simp at b0
              go_wp2
              replace hown3 := own_grown hown3 (grown_setCell (w := v5) (g := bx) (o := 0) (.slice A5 (b.length + 1) cap5)) (fun r e e2 => own_blk_ne hown3 hbx (by decide) (by rw [e2]; exact e))
              replace hbx := hbx.set_ 0 (.slice A5 (b.length + 1) cap5)
              replace hx := hx.setCell (p := ⟨bx, 0, none⟩) hbw (.slice A5 (b.length + 1) cap5)
              clear b0 b1
              generalize (v5).setCell ⟨bx, 0, none⟩ (.slice A5 (b.length + 1) cap5) = vz at *
              refine hK' _ _ ⟨⟨⟨vz, HX.out hx⟩, rfl⟩, ?_⟩
              clear hK' K'
              refine ways_end (by kernel_rfl) ?_
              go_wp2
              go_meet
              case rel => exact ⟨bx, A5, cap5, rfl, hbw, ⟨by simpa using hbx, by have := Arr.of_own (w := vz) (base := wq.heap.size) (e := 57) (l := b ++ [p]) (cell := p2cell) (size := 2) (v := .slice A5 (b.length + 1) cap5) (by simpa using hown3); simpa using this⟩, hx⟩
            · refine ⟨_, _, (by rfl), (by rfl), ?_⟩
              intro K' hK'
              go_wp2
              have hs1 := Blk.new v2 57 #[.int .i64 p.1, .int .i64 p.2]
              have hbb := (Below.refl (v2).heap.size v2).alloc (Nat.le_refl _) (.cells #[.int .i64 p.1, .int .i64 p.2] 57)
              have hgs2 : (v2).heap.size < ((v2).alloc (.cells #[.int .i64 p.1, .int .i64 p.2] 57)).heap.size := by simp
              replace hx := hx.trans (hbb.mono hx.size)
              replace hown := own_call hown hbb
              replace hbx := hbx.call hbb
              generalize (v2).alloc (.cells #[.int .i64 p.1, .int .i64 p.2] 57) = v3 at *
              generalize (v2).heap.size = sx at *
              refine hK' _ _ ⟨⟨⟨v3, HX.out hx⟩, rfl⟩, ?_⟩
              clear hK' K'
              clear hbb
              refine ways_1 3 (by kernel_rfl) ?_
              refine ⟨_, _, (by rfl), (by rfl), ?_⟩
              intro K' hK'
              refine wpList_appArr (sv := .slice (some ⟨eb, 0, none⟩) 0 0) slT_pp rfl (.tmp 63) (.tmp 65) rfl rfl hown rfl (hla3.below hx) HONE.out hx.size (by omega) (by omega) ?_
              intro v' v4 hown2 hb2 hgr
              rw [Nat.zero_add, List.nil_append] at hown2
              obtain ⟨A3, cap3, rfl⟩ := own_form hown2
              replace hx := hx.trans hb2
              replace hs1 := hs1.grown hgr (fun e => absurd (show sx = eb by simpa [Value.ownBlock] using e) (by omega))
              replace hbx := hbx.grown hgr (own_blk_ne hown hbx (by decide))
              clear hown hgr hb2
              go_wp2
              refine hK' _ _ ⟨⟨⟨v4, HX.out hx⟩, rfl⟩, ?_⟩
              clear hK' K'
              refine ways_1 6 (by kernel_rfl) ?_
              refine ⟨_, _, (by rfl), (by rfl), ?_⟩
              intro K' hK'
              have harr1 : Arr v4 (v4).heap.size 2 (.slice (some ⟨sx, 0, none⟩) 1 1) [p] p2cell := Arr.lit hs1 hs1.lt rfl (by simp) (by omega) (by simp [cellsOf, List.range_succ, p2cell])
              refine wpList_appArr (l := [p]) slT_pp rfl (.tmp 66) (.tmp 68) rfl rfl hown2 rfl harr1 (one_pp _) hx.size (by simp; omega) (by omega) ?_
              intro v5 v5 hown3 hb3 hgr3
              rw [← List.flatMap_append] at hown3
              obtain ⟨A5, cap5, rfl⟩ := own_form hown3
              replace hbx := hbx.grown hgr3 (own_blk_ne hown2 hbx (by decide))
              replace hx := hx.trans hb3
              clear hown2 hgr3 hb3 harr1 hs1
              go_wp2
              refine hK' _ _ ⟨⟨⟨v5, HX.out hx⟩, rfl⟩, ?_⟩
              clear hK' K'
              refine ways_q 7 (by rfl) (by rfl) (by kernel_rfl) (by kernel_rfl) (by kernel_rfl) (by rfl) ⟨⟨v5, HX.out hx⟩, rfl⟩ ?_
              intro K hK
              go_big_quiet_op
              go_big_quiet_on
              refine ways_1 9 (by kernel_rfl) ?_
              refine ⟨_, _, (by rfl), (by rfl), ?_⟩
              intro K' hK'
              have b0 := hbx.cell 0
              have b1 := hbx.frozen 0
              simp at b0
              go_wp2
              replace hown3 := own_grown hown3 (grown_setCell (w := v5) (g := bx) (o := 0) (.slice A5 (b.length + 1) cap5)) (fun r e e2 => own_blk_ne hown3 hbx (by decide) (by rw [e2]; exact e))
              replace hbx := hbx.set_ 0 (.slice A5 (b.length + 1) cap5)
              replace hx := hx.setCell (p := ⟨bx, 0, none⟩) hbw (.slice A5 (b.length + 1) cap5)
              clear b0 b1
              generalize (v5).setCell ⟨bx, 0, none⟩ (.slice A5 (b.length + 1) cap5) = vz at *
              refine hK' _ _ ⟨⟨⟨vz, HX.out hx⟩, rfl⟩, ?_⟩
              clear hK' K'
              refine ways_end (by kernel_rfl) ?_
              go_wp2
              go_meet
              case rel => exact ⟨bx, A5, cap5, rfl, hbw, ⟨by simpa using hbx, by have := Arr.of_own (w := vz) (base := wq.heap.size) (e := 57) (l := b ++ [p]) (cell := p2cell) (size := 2) (v := .slice A5 (b.length + 1) cap5) (by simpa using hown3); simpa using this⟩, hx⟩
        · refine ⟨_, _, (by rfl), (by rfl), ?_⟩
          intro K' hK'
          go_wp2
          have hs1 := Blk.new v0 57 #[.int .i64 p.1, .int .i64 p.2]
          have hbb := (Below.refl (v0).heap.size v0).alloc (Nat.le_refl _) (.cells #[.int .i64 p.1, .int .i64 p.2] 57)
          have hgs2 : (v0).heap.size < ((v0).alloc (.cells #[.int .i64 p.1, .int .i64 p.2] 57)).heap.size := by simp
          replace hx := hx.trans (hbb.mono hx.size)
          generalize (v0).alloc (.cells #[.int .i64 p.1, .int .i64 p.2] 57) = v1 at *
          generalize (v0).heap.size = sx at *
          refine hK' _ _ ⟨⟨⟨v1, HX.out hx⟩, rfl⟩, ?_⟩
          clear hK' K'
          clear hbb
          refine ways_2 0 8 (by kernel_rfl) ?_ ?_
          · refine ⟨_, _, (by rfl), (by rfl), ?_⟩
            intro K' hK'
            go_wp2
            have hown := own_empty v1 wq.heap.size 57 2 hx.size
            have hbb := (Below.refl (v1).heap.size v1).alloc (Nat.le_refl _) (.cells #[] 57)
            have hgs : (v1).heap.size < ((v1).alloc (.cells #[] 57)).heap.size := by simp
            replace hx := hx.trans (hbb.mono hx.size)
            replace hs1 := hs1.call hbb
            generalize (v1).alloc (.cells #[] 57) = v2 at *
            generalize (v1).heap.size = eb at *
            refine hK' _ _ ⟨⟨⟨v2, HX.out hx⟩, rfl⟩, ?_⟩
            clear hK' K'
            clear hbb
            refine ways_2 3 8 (by kernel_rfl) ?_ ?_
            · refine ⟨_, _, (by rfl), (by rfl), ?_⟩
              intro K' hK'
              refine wpList_appArr (sv := .slice (some ⟨eb, 0, none⟩) 0 0) slT_pp rfl (.tmp 63) (.tmp 65) rfl rfl hown rfl (hla3.below hx) HONE.out hx.size (by omega) (by omega) ?_
              intro v' v3 hown2 hb2 hgr
              rw [Nat.zero_add, List.nil_append] at hown2
              obtain ⟨A3, cap3, rfl⟩ := own_form hown2
              replace hx := hx.trans hb2
              replace hs1 := hs1.grown hgr (fun e => absurd (show sx = eb by simpa [Value.ownBlock] using e) (by omega))
              clear hown hgr hb2
              go_wp2
              refine hK' _ _ ⟨⟨⟨v3, HX.out hx⟩, rfl⟩, ?_⟩
              clear hK' K'
              refine ways_2 6 8 (by kernel_rfl) ?_ ?_
              · refine ⟨_, _, (by rfl), (by rfl), ?_⟩
                intro K' hK'
                have harr1 : Arr v3 (v3).heap.size 2 (.slice (some ⟨sx, 0, none⟩) 1 1) [p] p2cell := Arr.lit hs1 hs1.lt rfl (by simp) (by omega) (by simp [cellsOf, List.range_succ, p2cell])
                refine wpList_appArr (l := [p]) slT_pp rfl (.tmp 66) (.tmp 68) rfl rfl hown2 rfl harr1 (one_pp _) hx.size (by simp; omega) (by omega) ?_
                intro v5 v4 hown3 hb3 hgr3
                rw [← List.flatMap_append] at hown3
                obtain ⟨A5, cap5, rfl⟩ := own_form hown3
                replace hx := hx.trans hb3
                clear hown2 hgr3 hb3 harr1 hs1
                go_wp2
                refine hK' _ _ ⟨⟨⟨v4, HX.out hx⟩, rfl⟩, ?_⟩
                clear hK' K'
                refine ways_q 7 (by rfl) (by rfl) (by kernel_rfl) (by kernel_rfl) (by kernel_rfl) (by rfl) ⟨⟨v4, HX.out hx⟩, rfl⟩ ?_
                intro K hK
                go_big_quiet_op
                go_big_quiet_on
                refine ways_1 8 (by kernel_rfl) ?_
                refine ⟨_, _, (by rfl), (by rfl), ?_⟩
                intro K' hK'
                go_wp2
                have hbx := Blk.new v4 24 #[.slice none 0 0]
                have hbw : wq.heap.size ≤ (v4).heap.size := hx.size
                have hbb := (Below.refl (v4).heap.size v4).alloc (Nat.le_refl _) (.cells #[.slice none 0 0] 24)
                have hgs8 : (v4).heap.size < ((v4).alloc (.cells #[.slice none 0 0] 24)).heap.size := by simp
                replace hx := hx.trans (hbb.mono hx.size)
                replace hown3 := own_call hown3 hbb
                generalize (v4).alloc (.cells #[.slice none 0 0] 24) = v5 at *
                generalize (v4).heap.size = bx at *
                refine hK' _ _ ⟨⟨⟨v5, HX.out hx⟩, rfl⟩, ?_⟩
                clear hK' K'
                clear hbb
                refine ways_1 9 (by kernel_rfl) ?_
                refine ⟨_, _, (by rfl), (by rfl), ?_⟩
                intro K' hK'
                have b0 := hbx.cell 0
                have b1 := hbx.frozen 0
                simp at b0
                go_wp2
                replace hown3 := own_grown hown3 (grown_setCell (w := v5) (g := bx) (o := 0) (.slice A5 (b.length + 1) cap5)) (fun r e e2 => own_blk_ne hown3 hbx (by decide) (by rw [e2]; exact e))
                replace hbx := hbx.set_ 0 (.slice A5 (b.length + 1) cap5)
                replace hx := hx.setCell (p := ⟨bx, 0, none⟩) hbw (.slice A5 (b.length + 1) cap5)
                clear b0 b1
                generalize (v5).setCell ⟨bx, 0, none⟩ (.slice A5 (b.length + 1) cap5) = vz at *
                refine hK' _ _ ⟨⟨⟨vz, HX.out hx⟩, rfl⟩, ?_⟩
                clear hK' K'
                refine ways_end (by kernel_rfl) ?_
                go_wp2
                go_meet
                case rel => exact ⟨bx, A5, cap5, rfl, hbw, ⟨by simpa using hbx, by have := Arr.of_own (w := vz) (base := wq.heap.size) (e := 57) (l := b ++ [p]) (cell := p2cell) (size := 2) (v := .slice A5 (b.length + 1) cap5) (by simpa using hown3); simpa using this⟩, hx⟩
              · refine ⟨_, _, (by rfl), (by rfl), ?_⟩
                intro K' hK'
                go_wp2
                have hbx := Blk.new v3 24 #[.slice none 0 0]
                have hbw : wq.heap.size ≤ (v3).heap.size := hx.size
                have hbb := (Below.refl (v3).heap.size v3).alloc (Nat.le_refl _) (.cells #[.slice none 0 0] 24)
                have hgs8 : (v3).heap.size < ((v3).alloc (.cells #[.slice none 0 0] 24)).heap.size := by simp
                replace hx := hx.trans (hbb.mono hx.size)
                replace hown2 := own_call hown2 hbb
                replace hs1 := hs1.call hbb
                generalize (v3).alloc (.cells #[.slice none 0 0] 24) = v4 at *
                generalize (v3).heap.size = bx at *
                refine hK' _ _ ⟨⟨⟨v4, HX.out hx⟩, rfl⟩, ?_⟩
                clear hK' K'
                clear hbb
                refine ways_1 6 (by kernel_rfl) ?_
                refine ⟨_, _, (by rfl), (by rfl), ?_⟩
                intro K' hK'
                have harr1 : Arr v4 (v4).heap.size 2 (.slice (some ⟨sx, 0, none⟩) 1 1) [p] p2cell := Arr.lit hs1 hs1.lt rfl (by simp) (by omega) (by simp [cellsOf, List.range_succ, p2cell])
                refine wpList_appArr (l := [p]) slT_pp rfl (.tmp 66) (.tmp 68) rfl rfl hown2 rfl harr1 (one_pp _) hx.size (by simp; omega) (by omega) ?_
                intro v5 v5 hown3 hb3 hgr3
                rw [← List.flatMap_append] at hown3
                obtain ⟨A5, cap5, rfl⟩ := own_form hown3
                replace hbx := hbx.grown hgr3 (own_blk_ne hown2 hbx (by decide))
                replace hx := hx.trans hb3
                clear hown2 hgr3 hb3 harr1 hs1
                go_wp2
                refine hK' _ _ ⟨⟨⟨v5, HX.out hx⟩, rfl⟩, ?_⟩
                clear hK' K'
                refine ways_q 7 (by rfl) (by rfl) (by kernel_rfl) (by kernel_rfl) (by kernel_rfl) (by rfl) ⟨⟨v5, HX.out hx⟩, rfl⟩ ?_
                intro K hK
                go_big_quiet_op
                go_big_quiet_on
                refine ways_1 9 (by kernel_rfl) ?_
                refine ⟨_, _, (by rfl), (by rfl), ?_⟩
                intro K' hK'
                have b0 := hbx.cell 0
                have b1 := hbx.frozen 0
                simp at b0
                go_wp2
                replace hown3 := own_grown hown3 (grown_setCell (w := v5) (g := bx) (o := 0) (.slice A5 (b.length + 1) cap5)) (fun r e e2 => own_blk_ne hown3 hbx (by decide) (by rw [e2]; exact e))
                replace hbx := hbx.set_ 0 (.slice A5 (b.length + 1) cap5)
                replace hx := hx.setCell (p := ⟨bx, 0, none⟩) hbw (.slice A5 (b.length + 1) cap5)
                clear b0 b1
                generalize (v5).setCell ⟨bx, 0, none⟩ (.slice A5 (b.length + 1) cap5) = vz at *
                refine hK' _ _ ⟨⟨⟨vz, HX.out hx⟩, rfl⟩, ?_⟩
                clear hK' K'
                refine ways_end (by kernel_rfl) ?_
                go_wp2
                go_meet
                case rel => exact ⟨bx, A5, cap5, rfl, hbw, ⟨by simpa using hbx, by have := Arr.of_own (w := vz) (base := wq.heap.size) (e := 57) (l := b ++ [p]) (cell := p2cell) (size := 2) (v := .slice A5 (b.length + 1) cap5) (by simpa using hown3); simpa using this⟩, hx⟩
            · refine ⟨_, _, (by rfl), (by rfl), ?_⟩
              intro K' hK'
              go_wp2
              have hbx := Blk.new v2 24 #[.slice none 0 0]
              have hbw : wq.heap.size ≤ (v2).heap.size := hx.size
              have hbb := (Below.refl (v2).heap.size v2).alloc (Nat.le_refl _) (.cells #[.slice none 0 0] 24)
              have hgs8 : (v2).heap.size < ((v2).alloc (.cells #[.slice none 0 0] 24)).heap.size := by simp
              replace hx := hx.trans (hbb.mono hx.size)
              replace hown := own_call hown hbb
              replace hs1 := hs1.call hbb
              generalize (v2).alloc (.cells #[.slice none 0 0] 24) = v3 at *
              generalize (v2).heap.size = bx at *
              refine hK' _ _ ⟨⟨⟨v3, HX.out hx⟩, rfl⟩, ?_⟩
              clear hK' K'
              clear hbb
              refine ways_1 3 (by kernel_rfl) ?_
              refine ⟨_, _, (by rfl), (by rfl), ?_⟩
              intro K' hK'
              refine wpList_appArr (sv := .slice (some ⟨eb, 0, none⟩) 0 0) slT_pp rfl (.tmp 63) (.tmp 65) rfl rfl hown rfl (hla3.below hx) HONE.out hx.size (by omega) (by omega) ?_
              intro v' v4 hown2 hb2 hgr
              rw [Nat.zero_add, List.nil_append] at hown2
              obtain ⟨A3, cap3, rfl⟩ := own_form hown2
              replace hx := hx.trans hb2
              replace hs1 := hs1.grown hgr (fun e => absurd (show sx = eb by simpa [Value.ownBlock] using e) (by omega))
              replace hbx := hbx.grown hgr (own_blk_ne hown hbx (by decide))
              clear hown hgr hb2
              go_wp2
              refine hK' _ _ ⟨⟨⟨v4, HX.out hx⟩, rfl⟩, ?_⟩
              clear hK' K'
              refine ways_1 6 (by kernel_rfl) ?_
              refine ⟨_, _, (by rfl), (by rfl), ?_⟩
              intro K' hK'
              have harr1 : Arr v4 (v4).heap.size 2 (.slice (some ⟨sx, 0, none⟩) 1 1) [p] p2cell := Arr.lit hs1 hs1.lt rfl (by simp) (by omega) (by simp [cellsOf, List.range_succ, p2cell])
              refine wpList_appArr (l := [p]) slT_pp rfl (.tmp 66) (.tmp 68) rfl rfl hown2 rfl harr1 (one_pp _) hx.size (by simp; omega) (by omega) ?_
              intro v5 v5 hown3 hb3 hgr3
              rw [← List.flatMap_append] at hown3
              obtain ⟨A5, cap5, rfl⟩ := own_form hown3
              replace hbx := hbx.grown hgr3 (own_blk_ne hown2 hbx (by decide))
              replace hx := hx.trans hb3
              clear hown2 hgr3 hb3 harr1 hs1
              go_wp2
              refine hK' _ _ ⟨⟨⟨v5, HX.out hx⟩, rfl⟩, ?_⟩
              clear hK' K'
              refine ways_q 7 (by rfl) (by rfl) (by kernel_rfl) (by kernel_rfl) (by kernel_rfl) (by rfl) ⟨⟨v5, HX.out hx⟩, rfl⟩ ?_
              intro K hK
              go_big_quiet_op
              go_big_quiet_on
              refine ways_1 9 (by kernel_rfl) ?_
              refine ⟨_, _, (by rfl), (by rfl), ?_⟩
              intro K' hK'
              have b0 := hbx.cell 0
              have b1 := hbx.frozen 0
              simp at b0
              go_wp2
              replace hown3 := own_grown hown3 (grown_setCell (w := v5) (g := bx) (o := 0) (.slice A5 (b.length + 1) cap5)) (fun r e e2 => own_blk_ne hown3 hbx (by decide) (by rw [e2]; exact e))
              replace hbx := hbx.set_ 0 (.slice A5 (b.length + 1) cap5)
              replace hx := hx.setCell (p := ⟨bx, 0, none⟩) hbw (.slice A5 (b.length + 1) cap5)
              clear b0 b1
              generalize (v5).setCell ⟨bx, 0, none⟩ (.slice A5 (b.length + 1) cap5) = vz at *
              refine hK' _ _ ⟨⟨⟨vz, HX.out hx⟩, rfl⟩, ?_⟩
              clear hK' K'
              refine ways_end (by kernel_rfl) ?_
              go_wp2
              go_meet
              case rel => exact ⟨bx, A5, cap5, rfl, hbw, ⟨by simpa using hbx, by have := Arr.of_own (w := vz) (base := wq.heap.size) (e := 57) (l := b ++ [p]) (cell := p2cell) (size := 2) (v := .slice A5 (b.length + 1) cap5) (by simpa using hown3); simpa using this⟩, hx⟩
          · refine ⟨_, _, (by rfl), (by rfl), ?_⟩
            intro K' hK'
            go_wp2
            have hbx := Blk.new v1 24 #[.slice none 0 0]
            have hbw : wq.heap.size ≤ (v1).heap.size := hx.size
            have hbb := (Below.refl (v1).heap.size v1).alloc (Nat.le_refl _) (.cells #[.slice none 0 0] 24)
            have hgs8 : (v1).heap.size < ((v1).alloc (.cells #[.slice none 0 0] 24)).heap.size := by simp
            replace hx := hx.trans (hbb.mono hx.size)
            replace hs1 := hs1.call hbb
            generalize (v1).alloc (.cells #[.slice none 0 0] 24) = v2 at *
            generalize (v1).heap.size = bx at *
            refine hK' _ _ ⟨⟨⟨v2, HX.out hx⟩, rfl⟩, ?_⟩
            clear hK' K'
            clear hbb
            refine ways_1 0 (by kernel_rfl) ?_
            refine ⟨_, _, (by rfl), (by rfl), ?_⟩
            intro K' hK'
            go_wp2
            have hown := own_empty v2 wq.heap.size 57 2 hx.size
            have hbb := (Below.refl (v2).heap.size v2).alloc (Nat.le_refl _) (.cells #[] 57)
            have hgs : (v2).heap.size < ((v2).alloc (.cells #[] 57)).heap.size := by simp
            replace hx := hx.trans (hbb.mono hx.size)
            replace hs1 := hs1.call hbb
            replace hbx := hbx.call hbb
            generalize (v2).alloc (.cells #[] 57) = v3 at *
            generalize (v2).heap.size = eb at *
            refine hK' _ _ ⟨⟨⟨v3, HX.out hx⟩, rfl⟩, ?_⟩
            clear hK' K'
            clear hbb
            refine ways_1 3 (by kernel_rfl) ?_
            refine ⟨_, _, (by rfl), (by rfl), ?_⟩
            intro K' hK'
            refine wpList_appArr (sv := .slice (some ⟨eb, 0, none⟩) 0 0) slT_pp rfl (.tmp 63) (.tmp 65) rfl rfl hown rfl (hla3.below hx) HONE.out hx.size (by omega) (by omega) ?_
            intro v' v4 hown2 hb2 hgr
            rw [Nat.zero_add, List.nil_append] at hown2
            obtain ⟨A3, cap3, rfl⟩ := own_form hown2
            replace hx := hx.trans hb2
            replace hs1 := hs1.grown hgr (fun e => absurd (show sx = eb by simpa [Value.ownBlock] using e) (by omega))
            replace hbx := hbx.grown hgr (own_blk_ne hown hbx (by decide))
            clear hown hgr hb2
            go_wp2
            refine hK' _ _ ⟨⟨⟨v4, HX.out hx⟩, rfl⟩, ?_⟩
            clear hK' K'
            refine ways_1 6 (by kernel_rfl) ?_
            refine ⟨_, _, (by rfl), (by rfl), ?_⟩
            intro K' hK'
            have harr1 : Arr v4 (v4).heap.size 2 (.slice (some ⟨sx, 0, none⟩) 1 1) [p] p2cell := Arr.lit hs1 hs1.lt rfl (by simp) (by omega) (by simp [cellsOf, List.range_succ, p2cell])
            refine wpList_appArr (l := [p]) slT_pp rfl (.tmp 66) (.tmp 68) rfl rfl hown2 rfl harr1 (one_pp _) hx.size (by simp; omega) (by omega) ?_
            intro v5 v5 hown3 hb3 hgr3
            rw [← List.flatMap_append] at hown3
            obtain ⟨A5, cap5, rfl⟩ := own_form hown3
            replace hbx := hbx.grown hgr3 (own_blk_ne hown2 hbx (by decide))
            replace hx := hx.trans hb3
            clear hown2 hgr3 hb3 harr1 hs1
            go_wp2
            refine hK' _ _ ⟨⟨⟨v5, HX.out hx⟩, rfl⟩, ?_⟩
            clear hK' K'
            refine ways_q 7 (by rfl) (by rfl) (by kernel_rfl) (by kernel_rfl) (by kernel_rfl) (by rfl) ⟨⟨v5, HX.out hx⟩, rfl⟩ ?_
            intro K hK
            go_big_quiet_op
            go_big_quiet_on
            refine ways_1 9 (by kernel_rfl) ?_
            refine ⟨_, _, (by rfl), (by rfl), ?_⟩
            intro K' hK'
            have b0 := hbx.cell 0
            have b1 := hbx.frozen 0
            simp at b0
            go_wp2
            replace hown3 := own_grown hown3 (grown_setCell (w := v5) (g := bx) (o := 0) (.slice A5 (b.length + 1) cap5)) (fun r e e2 => own_blk_ne hown3 hbx (by decide) (by rw [e2]; exact e))
            replace hbx := hbx.set_ 0 (.slice A5 (b.length + 1) cap5)
            replace hx := hx.setCell (p := ⟨bx, 0, none⟩) hbw (.slice A5 (b.length + 1) cap5)
            clear b0 b1
            generalize (v5).setCell ⟨bx, 0, none⟩ (.slice A5 (b.length + 1) cap5) = vz at *
            refine hK' _ _ ⟨⟨⟨vz, HX.out hx⟩, rfl⟩, ?_⟩
            clear hK' K'
            refine ways_end (by kernel_rfl) ?_
            go_wp2
            go_meet
            case rel => exact ⟨bx, A5, cap5, rfl, hbw, ⟨by simpa using hbx, by have := Arr.of_own (w := vz) (base := wq.heap.size) (e := 57) (l := b ++ [p]) (cell := p2cell) (size := 2) (v := .slice A5 (b.length + 1) cap5) (by simpa using hown3); simpa using this⟩, hx⟩
        · refine ⟨_, _, (by rfl), (by rfl), ?_⟩
          intro K' hK'
          go_wp2
          have hbx := Blk.new v0 24 #[.slice none 0 0]
          have hbw : wq.heap.size ≤ (v0).heap.size := hx.size
          have hbb := (Below.refl (v0).heap.size v0).alloc (Nat.le_refl _) (.cells #[.slice none 0 0] 24)
          have hgs8 : (v0).heap.size < ((v0).alloc (.cells #[.slice none 0 0] 24)).heap.size := by simp
          replace hx := hx.trans (hbb.mono hx.size)
          generalize (v0).alloc (.cells #[.slice none 0 0] 24) = v1 at *
          generalize (v0).heap.size = bx at *
          refine hK' _ _ ⟨⟨⟨v1, HX.out hx⟩, rfl⟩, ?_⟩
          clear hK' K'
          clear hbb
          refine ways_2 0 5 (by kernel_rfl) ?_ ?_
          · refine ⟨_, _, (by rfl), (by rfl), ?_⟩
            intro K' hK'
            go_wp2
            have hown := own_empty v1 wq.heap.size 57 2 hx.size
            have hbb := (Below.refl (v1).heap.size v1).alloc (Nat.le_refl _) (.cells #[] 57)
            have hgs : (v1).heap.size < ((v1).alloc (.cells #[] 57)).heap.size := by simp
            replace hx := hx.trans (hbb.mono hx.size)
            replace hbx := hbx.call hbb
            generalize (v1).alloc (.cells #[] 57) = v2 at *
            generalize (v1).heap.size = eb at *
            refine hK' _ _ ⟨⟨⟨v2, HX.out hx⟩, rfl⟩, ?_⟩
            clear hK' K'
            clear hbb
            refine ways_2 3 5 (by kernel_rfl) ?_ ?_
            · refine ⟨_, _, (by rfl), (by rfl), ?_⟩
              intro K' hK'
              refine wpList_appArr (sv := .slice (some ⟨eb, 0, none⟩) 0 0) slT_pp rfl (.tmp 63) (.tmp 65) rfl rfl hown rfl (hla3.below hx) HONE.out hx.size (by omega) (by omega) ?_
              intro v' v3 hown2 hb2 hgr
              rw [Nat.zero_add, List.nil_append] at hown2
              obtain ⟨A3, cap3, rfl⟩ := own_form hown2
              replace hx := hx.trans hb2
              replace hbx := hbx.grown hgr (own_blk_ne hown hbx (by decide))
              clear hown hgr hb2
              go_wp2
              refine hK' _ _ ⟨⟨⟨v3, HX.out hx⟩, rfl⟩, ?_⟩
              clear hK' K'
              refine ways_1 5 (by kernel_rfl) ?_
              refine ⟨_, _, (by rfl), (by rfl), ?_⟩
              intro K' hK'
              go_wp2
              have hs1 := Blk.new v3 57 #[.int .i64 p.1, .int .i64 p.2]
              have hbb := (Below.refl (v3).heap.size v3).alloc (Nat.le_refl _) (.cells #[.int .i64 p.1, .int .i64 p.2] 57)
              have hgs2 : (v3).heap.size < ((v3).alloc (.cells #[.int .i64 p.1, .int .i64 p.2] 57)).heap.size := by simp
              replace hx := hx.trans (hbb.mono hx.size)
              replace hown2 := own_call hown2 hbb
              replace hbx := hbx.call hbb
              generalize (v3).alloc (.cells #[.int .i64 p.1, .int .i64 p.2] 57) = v4 at *
              generalize (v3).heap.size = sx at *
              refine hK' _ _ ⟨⟨⟨v4, HX.out hx⟩, rfl⟩, ?_⟩
              clear hK' K'
              clear hbb
              refine ways_1 6 (by kernel_rfl) ?_
              refine ⟨_, _, (by rfl), (by rfl), ?_⟩
              intro K' hK'
              have harr1 : Arr v4 (v4).heap.size 2 (.slice (some ⟨sx, 0, none⟩) 1 1) [p] p2cell := Arr.lit hs1 hs1.lt rfl (by simp) (by omega) (by simp [cellsOf, List.range_succ, p2cell])
              refine wpList_appArr (l := [p]) slT_pp rfl (.tmp 66) (.tmp 68) rfl rfl hown2 rfl harr1 (one_pp _) hx.size (by simp; omega) (by omega) ?_
              intro v5 v5 hown3 hb3 hgr3
              rw [← List.flatMap_append] at hown3
              obtain ⟨A5, cap5, rfl⟩ := own_form hown3
              replace hbx := hbx.grown hgr3 (own_blk_ne hown2 hbx (by decide))
              replace hx := hx.trans hb3
              clear hown2 hgr3 hb3 harr1 hs1
              go_wp2
              refine hK' _ _ ⟨⟨⟨v5, HX.out hx⟩, rfl⟩, ?_⟩
              clear hK' K'
              refine ways_q 7 (by rfl) (by rfl) (by kernel_rfl) (by kernel_rfl) (by kernel_rfl) (by rfl) ⟨⟨v5, HX.out hx⟩, rfl⟩ ?_
              intro K hK
              go_big_quiet_op
              go_big_quiet_on
              refine ways_1 9 (by kernel_rfl) ?_
              refine ⟨_, _, (by rfl), (by rfl), ?_⟩
              intro K' hK'
              have b0 := hbx.cell 0
              have b1 := hbx.frozen 0
              simp at b0
              go_wp2
              replace hown3 := own_grown hown3 (grown_setCell (w := v5) (g := bx) (o := 0) (.slice A5 (b.length + 1) cap5)) (fun r e e2 => own_blk_ne hown3 hbx (by decide) (by rw [e2]; exact e))
              replace hbx := hbx.set_ 0 (.slice A5 (b.length + 1) cap5)
              replace hx := hx.setCell (p := ⟨bx, 0, none⟩) hbw (.slice A5 (b.length + 1) cap5)
              clear b0 b1
              generalize (v5).setCell ⟨bx, 0, none⟩ (.slice A5 (b.length + 1) cap5) = vz at *
              refine hK' _ _ ⟨⟨⟨vz, HX.out hx⟩, rfl⟩, ?_⟩
              clear hK' K'
              refine ways_end (by kernel_rfl) ?_
              go_wp2
              go_meet
              case rel => exact ⟨bx, A5, cap5, rfl, hbw, ⟨by simpa using hbx, by have := Arr.of_own (w := vz) (base := wq.heap.size) (e := 57) (l := b ++ [p]) (cell := p2cell) (size := 2) (v := .slice A5 (b.length + 1) cap5) (by simpa using hown3); simpa using this⟩, hx⟩
            · refine ⟨_, _, (by rfl), (by rfl), ?_⟩
              intro K' hK'
              go_wp2
              have hs1 := Blk.new v2 57 #[.int .i64 p.1, .int .i64 p.2]
              have hbb := (Below.refl (v2).heap.size v2).alloc (Nat.le_refl _) (.cells #[.int .i64 p.1, .int .i64 p.2] 57)
              have hgs2 : (v2).heap.size < ((v2).alloc (.cells #[.int .i64 p.1, .int .i64 p.2] 57)).heap.size := by simp
              replace hx := hx.trans (hbb.mono hx.size)
              replace hown := own_call hown hbb
              replace hbx := hbx.call hbb
              generalize (v2).alloc (.cells #[.int .i64 p.1, .int .i64 p.2] 57) = v3 at *
              generalize (v2).heap.size = sx at *
              refine hK' _ _ ⟨⟨⟨v3, HX.out hx⟩, rfl⟩, ?_⟩
              clear hK' K'
              clear hbb
              refine ways_1 3 (by kernel_rfl) ?_
              refine ⟨_, _, (by rfl), (by rfl), ?_⟩
              intro K' hK'
              refine wpList_appArr (sv := .slice (some ⟨eb, 0, none⟩) 0 0) slT_pp rfl (.tmp 63) (.tmp 65) rfl rfl hown rfl (hla3.below hx) HONE.out hx.size (by omega) (by omega) ?_
              intro v' v4 hown2 hb2 hgr
              rw [Nat.zero_add, List.nil_append] at hown2
              obtain ⟨A3, cap3, rfl⟩ := own_form hown2
              replace hx := hx.trans hb2
              replace hs1 := hs1.grown hgr (fun e => absurd (show sx = eb by simpa [Value.ownBlock] using e) (by omega))
              replace hbx := hbx.grown hgr (own_blk_ne hown hbx (by decide))
              clear hown hgr hb2
              go_wp2
              refine hK' _ _ ⟨⟨⟨v4, HX.out hx⟩, rfl⟩, ?_⟩
              clear hK' K'
              refine ways_1 6 (by kernel_rfl) ?_
              refine ⟨_, _, (by rfl), (by rfl), ?_⟩
              intro K' hK'
              have harr1 : Arr v4 (v4).heap.size 2 (.slice (some ⟨sx, 0, none⟩) 1 1) [p] p2cell := Arr.lit hs1 hs1.lt rfl (by simp) (by omega) (by simp [cellsOf, List.range_succ, p2cell])
              refine wpList_appArr (l := [p]) slT_pp rfl (.tmp 66) (.tmp 68) rfl rfl hown2 rfl harr1 (one_pp _) hx.size (by simp; omega) (by omega) ?_
              intro v5 v5 hown3 hb3 hgr3
              rw [← List.flatMap_append] at hown3
              obtain ⟨A5, cap5, rfl⟩ := own_form hown3
              replace hbx := hbx.grown hgr3 (own_blk_ne hown2 hbx (by decide))
              replace hx := hx.trans hb3
              clear hown2 hgr3 hb3 harr1 hs1
              go_wp2
              refine hK' _ _ ⟨⟨⟨v5, HX.out hx⟩, rfl⟩, ?_⟩
              clear hK' K'
              refine ways_q 7 (by rfl) (by rfl) (by kernel_rfl) (by kernel_rfl) (by kernel_rfl) (by rfl) ⟨⟨v5, HX.out hx⟩, rfl⟩ ?_
              intro K hK
              go_big_quiet_op
              go_big_quiet_on
              refine ways_1 9 (by kernel_rfl) ?_
              refine ⟨_, _, (by rfl), (by rfl), ?_⟩
              intro K' hK'
              have b0 := hbx.cell 0
              have b1 := hbx.frozen 0
              simp at b0
              go_wp2
              replace hown3 := own_grown hown3 (grown_setCell (w := v5) (g := bx) (o := 0) (.slice A5 (b.length + 1) cap5)) (fun r e e2 => own_blk_ne hown3 hbx (by decide) (by rw [e2]; exact e))
              replace hbx := hbx.set_ 0 (.slice A5 (b.length + 1) cap5)
              replace hx := hx.setCell (p := ⟨bx, 0, none⟩) hbw (.slice A5 (b.length + 1) cap5)
              clear b0 b1
              generalize (v5).setCell ⟨bx, 0, none⟩ (.slice A5 (b.length + 1) cap5) = vz at *
              refine hK' _ _ ⟨⟨⟨vz, HX.out hx⟩, rfl⟩, ?_⟩
              clear hK' K'
              refine ways_end (by kernel_rfl) ?_
              go_wp2
              go_meet
              case rel => exact ⟨bx, A5, cap5, rfl, hbw, ⟨by simpa using hbx, by have := Arr.of_own (w := vz) (base := wq.heap.size) (e := 57) (l := b ++ [p]) (cell := p2cell) (size := 2) (v := .slice A5 (b.length + 1) cap5) (by simpa using hown3); simpa using this⟩, hx⟩
          · refine ⟨_, _, (by rfl), (by rfl), ?_⟩
            intro K' hK'
            go_wp2
            have hs1 := Blk.new v1 57 #[.int .i64 p.1, .int .i64 p.2]
            have hbb := (Below.refl (v1).heap.size v1).alloc (Nat.le_refl _) (.cells #[.int .i64 p.1, .int .i64 p.2] 57)
            have hgs2 : (v1).heap.size < ((v1).alloc (.cells #[.int .i64 p.1, .int .i64 p.2] 57)).heap.size := by simp
            replace hx := hx.trans (hbb.mono hx.size)
            replace hbx := hbx.call hbb
            generalize (v1).alloc (.cells #[.int .i64 p.1, .int .i64 p.2] 57) = v2 at *
            generalize (v1).heap.size = sx at *
            refine hK' _ _ ⟨⟨⟨v2, HX.out hx⟩, rfl⟩, ?_⟩
            clear hK' K'
            clear hbb
            refine ways_1 0 (by kernel_rfl) ?_
            refine ⟨_, _, (by rfl), (by rfl), ?_⟩
            intro K' hK'
            go_wp2
            have hown := own_empty v2 wq.heap.size 57 2 hx.size
            have hbb := (Below.refl (v2).heap.size v2).alloc (Nat.le_refl _) (.cells #[] 57)
            have hgs : (v2).heap.size < ((v2).alloc (.cells #[] 57)).heap.size := by simp
            replace hx := hx.trans (hbb.mono hx.size)
            replace hs1 := hs1.call hbb
            replace hbx := hbx.call hbb
            generalize (v2).alloc (.cells #[] 57) = v3 at *
            generalize (v2).heap.size = eb at *
            refine hK' _ _ ⟨⟨⟨v3, HX.out hx⟩, rfl⟩, ?_⟩
            clear hK' K'
            clear hbb
            refine ways_1 3 (by kernel_rfl) ?_
            refine ⟨_, _, (by rfl), (by rfl), ?_⟩
            intro K' hK'
            refine wpList_appArr (sv := .slice (some ⟨eb, 0, none⟩) 0 0) slT_pp rfl (.tmp 63) (.tmp 65) rfl rfl hown rfl (hla3.below hx) HONE.out hx.size (by omega) (by omega) ?_
            intro v' v4 hown2 hb2 hgr
            rw [Nat.zero_add, List.nil_append] at hown2
            obtain ⟨A3, cap3, rfl⟩ := own_form hown2
            replace hx := hx.trans hb2
            replace hs1 := hs1.grown hgr (fun e => absurd (show sx = eb by simpa [Value.ownBlock] using e) (by omega))
            replace hbx := hbx.grown hgr (own_blk_ne hown hbx (by decide))
            clear hown hgr hb2
            go_wp2
            refine hK' _ _ ⟨⟨⟨v4, HX.out hx⟩, rfl⟩, ?_⟩
            clear hK' K'
            refine ways_1 6 (by kernel_rfl) ?_
            refine ⟨_, _, (by rfl), (by rfl), ?_⟩
            intro K' hK'
            have harr1 : Arr v4 (v4).heap.size 2 (.slice (some ⟨sx, 0, none⟩) 1 1) [p] p2cell := Arr.lit hs1 hs1.lt rfl (by simp) (by omega) (by simp [cellsOf, List.range_succ, p2cell])
            refine wpList_appArr (l := [p]) slT_pp rfl (.tmp 66) (.tmp 68) rfl rfl hown2 rfl harr1 (one_pp _) hx.size (by simp; omega) (by omega) ?_
            intro v5 v5 hown3 hb3 hgr3
            rw [← List.flatMap_append] at hown3
            obtain ⟨A5, cap5, rfl⟩ := own_form hown3
            replace hbx := hbx.grown hgr3 (own_blk_ne hown2 hbx (by decide))
            replace hx := hx.trans hb3
            clear hown2 hgr3 hb3 harr1 hs1
            go_wp2
            refine hK' _ _ ⟨⟨⟨v5, HX.out hx⟩, rfl⟩, ?_⟩
            clear hK' K'
            refine ways_q 7 (by rfl) (by rfl) (by kernel_rfl) (by kernel_rfl) (by kernel_rfl) (by rfl) ⟨⟨v5, HX.out hx⟩, rfl⟩ ?_
            intro K hK
            go_big_quiet_op
            go_big_quiet_on
            refine ways_1 9 (by kernel_rfl) ?_
            refine ⟨_, _, (by rfl), (by rfl), ?_⟩
            intro K' hK'
            have b0 := hbx.cell 0
            have b1 := hbx.frozen 0
            simp at b0
            go_wp2
            replace hown3 := own_grown hown3 (grown_setCell (w := v5) (g := bx) (o := 0) (.slice A5 (b.length + 1) cap5)) (fun r e e2 => own_blk_ne hown3 hbx (by decide) (by rw [e2]; exact e))
            replace hbx := hbx.set_ 0 (.slice A5 (b.length + 1) cap5)
            replace hx := hx.setCell (p := ⟨bx, 0, none⟩) hbw (.slice A5 (b.length + 1) cap5)
            clear b0 b1
            generalize (v5).setCell ⟨bx, 0, none⟩ (.slice A5 (b.length + 1) cap5) = vz at *
            refine hK' _ _ ⟨⟨⟨vz, HX.out hx⟩, rfl⟩, ?_⟩
            clear hK' K'
            refine ways_end (by kernel_rfl) ?_
            go_wp2
            go_meet
            case rel => exact ⟨bx, A5, cap5, rfl, hbw, ⟨by simpa using hbx, by have := Arr.of_own (w := vz) (base := wq.heap.size) (e := 57) (l := b ++ [p]) (cell := p2cell) (size := 2) (v := .slice A5 (b.length + 1) cap5) (by simpa using hown3); simpa using this⟩, hx⟩
      case rest =>
        obtain ⟨bx, cA, ccap, rfl, hbw, hD, hb⟩ := hcut
        replace hC := hC.call hb
        replace hL := hL.call hb
        replace hB := hB.trans ((hb).mono hB.size)
        obtain ⟨w6, hw6⟩ : ∃ w6 : World, w6 = wc := ⟨_, rfl⟩
        rw [← hw6] at hC hL hB hD ⊢
        clear hb hw6 hQ f0 f1 f2 hla3 HX HONE hbw
        obtain ⟨FC, hFC⟩ : ∃ F, F = fineB (b ++ [p]) ls := ⟨_, rfl⟩
        have HBP : Hid ((b ++ [p]).length = b.length + 1) := by rw [Hid]; simp
        have HDV : Hid (∀ W', BB W' bx (b ++ [p]) cA ccap → BookV W' W'.heap.size (.agg #[.slice cA (b.length + 1) ccap]) (b ++ [p]) ∧ W'.cell? ⟨bx, 0, none⟩ = some (.slice cA (b.length + 1) ccap)) := fun W' h => by
          have h1 := h.bv
          have h2 := h.c0
          rw [HBP.out] at h1 h2
          exact ⟨h1, h2⟩
        have hfx := lfine_ok _ _ (b ++ [p]) ls w6 (HDV.out _ hD).1 hL
        rw [← hFC] at hfx
        have HFC := Lib.hid hFC
        clear hFC
        have k1 := (HDV.out _ hD).2
        have k0 := hC.c0
        go_wp2_with fail
        refine hfx.mono ?_
        rintro e w7 ⟨rfl, hb⟩
        clear k1 k0
        replace hC := hC.call hb
        replace hL := hL.call hb
        replace hB := hB.trans ((hb).mono hB.size)
        replace hD := hD.call hb
        clear hb hfx
        go_upto_if 73 with (fail)
        go_cut [] from 74 to 87 (fun wx => Below w7.heap.size w7 wx)
        case first =>
          cases FC
          · go_wp2
            go_meet
            case rel => exact Below.refl _ _
          · obtain ⟨hf2, -⟩ := fineB_iff.1 HFC.out.symm
            have hle := more_pair HG.out (good_of hf2)
            have hlo := llong_ok _ _ (b ++ [p]) ls w7 (HDV.out _ hD).1 hL hf2
            rw [← HM.out] at hle
            obtain ⟨M2, hM2⟩ : ∃ M2, M2 = mostOf (b ++ [p]) ls := ⟨_, rfl⟩
            rw [← hM2] at hlo hle
            have d1 : decide ((M2 : Int) < (M : Int)) = false := decide_eq_false (by omega)
            have d1' : decide (M2 < M) = false := decide_eq_false (by omega)
            have k1 := (HDV.out _ hD).2
            clear hf2 hle hM2
            go_wp2_with fail
            refine hlo.mono ?_
            rintro e w8 ⟨rfl, hb⟩
            clear hlo k1
            go_wp2
            go_meet
            case rel => exact hb
        case rest =>
          have hb := hcut
          replace hC := hC.call hb
          replace hL := hL.call hb
          replace hB := hB.trans ((hb).mono hB.size)
          obtain ⟨w8, hw8⟩ : ∃ w8 : World, w8 = wc := ⟨_, rfl⟩
          rw [← hw8] at hC hL hB ⊢
          clear hb hcut hw8 hD HFC HDV HBP
          obtain ⟨ys, hy1, hy2, hy3⟩ := lli_vals hL
          have hyl : ls.length = (ys.map (·.1)).length := by rw [List.length_map, ← hy1, List.length_map]
          have HY3 := Lib.hid hy3
          have HYS := Lib.hid hy1
          have HYL := Lib.hid hyl
          have hone := vals_one hy3
          clear hy1 hy3 hyl
          go_upto_region 16 with (fail)
          have hE0 := own_empty w8 w8.heap.size 38 1 (Nat.le_refl _)
          go_wp2_with (at_builtin; refine wpList_appArrN slT_ll rfl (.tmp 87) (.tmp 88) rfl HYL.out rfl hE0 rfl (hy2.alloc (Nat.le_refl _) _) hone ?_ ?_ ?_ ?_)
          any_goals (first | omega | (simp; done) | (simp; omega))
          intro v9 w9 hown9 hb9 hg9
          simp only [Nat.zero_add, List.nil_append, flat_v] at hown9
          have hbx : Below w8.heap.size w8 w9 := ((Below.refl _ _).alloc (Nat.le_refl _) _).trans hb9
          obtain ⟨oA, oc, rfl⟩ := own_form hown9
          obtain ⟨ob, rfl, hob, hOV⟩ := own_V hown9 (by omega)
          clear hown9 hb9 hg9 hE0 hone hy2
          obtain ⟨hh, hhe⟩ : ∃ hh, hh = n4 % ls.length := ⟨_, rfl⟩
          have hhl : hh < ls.length := by rw [hhe]; exact Nat.mod_lt _ (by omega)
          have hhi : (hh : Int) < (ls.length : Int) := by omega
          have nz : ((ls.length : Int) == 0) = false := beq_false_of_ne (by omega)
          have m1 : (n4 : Int).tmod (ls.length : Int) = (hh : Int) := by rw [hhe]; rfl
          have c1 : IntKind.i64.wrap (n4 : Int) = n4 := wrap_id _ (by omega) (by omega)
          have c3 : IntKind.i64.wrap (hh : Int) = hh := wrap_id _ (by omega) (by omega)
          clear hhe
          go_upto_region 18 with (fail)
          clear nz m1 c1 c3
          obtain ⟨ls0, hls0⟩ : ∃ l, l = ls.getD hh [] := ⟨_, rfl⟩
          have HLS0 := Lib.hid hls0
          have hT8 : ls0.length ≤ 8 := by rw [hls0]; exact HG.out.eight _ (getD_in hhl)
          obtain ⟨y0, hy0⟩ : ∃ y0, ys[hh]? = some y0 := ⟨_, List.getElem?_eq_getElem (by have := HYL.out; rw [List.length_map] at this; omega)⟩
          have hy02 : y0.2 = ls0 := by
            have h1 : (ys.map (·.2))[hh]? = ls[hh]? := by rw [HYS.out]
            rw [List.getElem?_map, hy0, getD_some [] hhl] at h1
            simp only [Option.map_some, Option.some.injEq] at h1
            rw [h1, hls0]
          have hya := HY3.out y0 (List.mem_of_getElem? hy0)
          obtain ⟨zA, zc, hze, hz1, hz2, -⟩ := id hya
          rw [hy02] at hya hze
          rw [hze] at hya
          have HY0 : Hid ((ys.map (·.1))[hh]? = some (.slice zA ls0.length zc)) := by rw [Hid, List.getElem?_map, hy0]; exact congrArg some hze
          obtain ⟨T, hT⟩ : ∃ T, T = ls0.length := ⟨_, rfl⟩
          have HT0 := Lib.hid hT
          rw [← hT] at hya hT8 HY0
          clear hy0 hy02 hze hz1 hz2 hT hls0
          obtain ⟨ii, hii⟩ : ∃ ii, ii = n5 % (T + 1) := ⟨_, rfl⟩
          have hil : ii ≤ T := by have := Nat.mod_lt n5 (show 0 < T + 1 by omega); omega
          have nz : (((T : Int) + 1) == 0) = false := beq_false_of_ne (by omega)
          have m1 : (n5 : Int).tmod ((T : Int) + 1) = (ii : Int) := by rw [hii]; rfl
          have c1 : IntKind.i64.wrap (n5 : Int) = n5 := wrap_id _ (by omega) (by omega)
          have c2 : IntKind.i64.wrap ((T : Int) + 1) = (T : Int) + 1 := wrap_id _ (by omega) (by omega)
          have c3 : IntKind.i64.wrap (ii : Int) = ii := wrap_id _ (by omega) (by omega)
          obtain ⟨o0, -⟩ := hOV.cell HY0.out
          clear hii
          go_upto_region 19 with (fail)
          clear nz m1 c1 c2 c3
          obtain ⟨pA1, pc1, pA2, pc2, hr1, hr2, hpa1, hpa2⟩ := slice_parts hya (show ii ≤ ls0.length by rw [← HT0.out]; exact hil)
          have HTK : Hid (ii = (ls0.take ii).length) := by have := HT0.out; rw [Hid, List.length_take]; omega
          have HDK : Hid (T - ii = (ls0.drop ii).length) := by have := HT0.out; rw [Hid, List.length_drop]; omega
          replace hpa1 := (hpa1.below hbx).more hbx.size
          replace hpa2 := (hpa2.below hbx).more hbx.size
          obtain ⟨wq, hwq⟩ : ∃ wq : World, wq = w9 := ⟨_, rfl⟩
          rw [← hwq] at hbx hOV o0 hpa1 hpa2 ⊢
          clear hwq hya
          have hOVq := hOV
          have hol := hOV.lt
          have f0 := Ext.of o0
          have HX : Hid (∀ {w' : World}, Below wq.heap.size wq w' → Below wq.heap.size wq w') := fun {w'} h => h
          have HBL : Hid (∀ w', Below wq.heap.size wq w' → Below w8.heap.size w8 w') := fun w' h => hbx.trans (h.mono hbx.size)
          clear o0
          go_cut [] from 104 to 125 (fun wx => ∃ rb rcap, OwnV wx 38 ob ls.length oc ((ys.map (·.1)).set hh (.slice (some ⟨rb, 0, none⟩) (putW ls0 ii ex).length rcap)) ∧ RowI wx rb 3 (putW ls0 ii ex) ∧ (putW ls0 ii ex).length ≤ rcap ∧ rcap ≤ 9223372036854775807 ∧ Below w8.heap.size w8 wx)
          case first =>
            refine zways_start 22 21 (fun w' => ∃ x : Ext wq, w' = x.w) (by rfl) (by kernel_rfl) ?_
            have hx : Below wq.heap.size wq wq.drew := (Below.refl wq.heap.size wq).drew
            generalize wq.drew = v0 at *
            refine zways_q 0 (by rfl) (by rfl) (by kernel_rfl) (by kernel_rfl) (by kernel_rfl) (by kernel_rfl) (by rfl) ⟨⟨v0, HX.out hx⟩, rfl⟩ ?_
            intro K hK
            go_big_quiet_op
            go_big_quiet_on
            refine zways_q 1 (by rfl) (by rfl) (by kernel_rfl) (by kernel_rfl) (by kernel_rfl) (by kernel_rfl) (by rfl) ⟨⟨v0, HX.out hx⟩, rfl⟩ ?_
            intro K hK
            go_big_quiet_op
            go_big_quiet_on
            refine zways_q 3 (by rfl) (by rfl) (by kernel_rfl) (by kernel_rfl) (by kernel_rfl) (by kernel_rfl) (by rfl) ⟨⟨v0, HX.out hx⟩, rfl⟩ ?_
            intro K hK
            go_big_quiet_op
            go_big_quiet_on
            refine zways_q 4 (by rfl) (by rfl) (by kernel_rfl) (by kernel_rfl) (by kernel_rfl) (by kernel_rfl) (by rfl) ⟨⟨v0, HX.out hx⟩, rfl⟩ ?_
            intro K hK
            go_big_quiet_op
            go_big_quiet_on
            refine zways_q 5 (by rfl) (by rfl) (by kernel_rfl) (by kernel_rfl) (by kernel_rfl) (by kernel_rfl) (by rfl) ⟨⟨v0, HX.out hx⟩, rfl⟩ ?_
            intro K hK
            go_big_quiet_op
            go_big_quiet_on
            refine zways_q 6 (by rfl) (by rfl) (by kernel_rfl) (by kernel_rfl) (by kernel_rfl) (by kernel_rfl) (by rfl) ⟨⟨v0, HX.out hx⟩, rfl⟩ ?_
            intro K hK
            go_big_quiet_op
            go_big_quiet_on
            refine zways_q 7 (by rfl) (by rfl) (by kernel_rfl) (by kernel_rfl) (by kernel_rfl) (by kernel_rfl) (by rfl) ⟨⟨v0, HX.out hx⟩, rfl⟩ ?_
            intro K hK
            go_big_quiet_op
            go_big_quiet_on
            refine zways_q 8 (by rfl) (by rfl) (by kernel_rfl) (by kernel_rfl) (by kernel_rfl) (by kernel_rfl) (by rfl) ⟨⟨v0, HX.out hx⟩, rfl⟩ ?_
            intro K hK
            go_big_quiet_op
            go_big_quiet_on
            refine zways_q 10 (by rfl) (by rfl) (by kernel_rfl) (by kernel_rfl) (by kernel_rfl) (by kernel_rfl) (by rfl) ⟨⟨v0, HX.out hx⟩, rfl⟩ ?_
            intro K hK
            go_big_quiet_op
            go_big_quiet_on
            refine zways_q 13 (by rfl) (by rfl) (by kernel_rfl) (by kernel_rfl) (by kernel_rfl) (by kernel_rfl) (by rfl) ⟨⟨v0, HX.out hx⟩, rfl⟩ ?_
            intro K hK
            go_big_quiet_op
            go_big_quiet_on
            refine zways_q 14 (by rfl) (by rfl) (by kernel_rfl) (by kernel_rfl) (by kernel_rfl) (by kernel_rfl) (by rfl) ⟨⟨v0, HX.out hx⟩, rfl⟩ ?_
            intro K hK
            go_big_quiet_op
            go_big_quiet_on
            refine zways_q 15 (by rfl) (by rfl) (by kernel_rfl) (by kernel_rfl) (by kernel_rfl) (by kernel_rfl) (by rfl) ⟨⟨v0, HX.out hx⟩, rfl⟩ ?_
            intro K hK
            go_big_quiet_op
            go_big_quiet_on
            refine zways_q 16 (by rfl) (by rfl) (by kernel_rfl) (by kernel_rfl) (by kernel_rfl) (by kernel_rfl) (by rfl) ⟨⟨v0, HX.out hx⟩, rfl⟩ ?_
            intro K hK
            go_big_quiet_op
            go_big_quiet_on
            refine zways_q 17 (by rfl) (by rfl) (by kernel_rfl) (by kernel_rfl) (by kernel_rfl) (by kernel_rfl) (by rfl) ⟨⟨v0, HX.out hx⟩, rfl⟩ ?_
            intro K hK
            go_big_quiet_op
            go_big_quiet_on
            refine zways_q 18 (by rfl) (by rfl) (by kernel_rfl) (by kernel_rfl) (by kernel_rfl) (by kernel_rfl) (by rfl) ⟨⟨v0, HX.out hx⟩, rfl⟩ ?_
            intro K hK
            go_big_quiet_op
            go_big_quiet_on
            refine zways_2 2 11 (by kernel_rfl) ?_ ?_
            · refine ⟨_, _, (by rfl), (by rfl), ?_⟩
              intro K' hK'
              go_wp2
              have hown := own_empty v0 wq.heap.size 3 1 hx.size
              have hbb := (Below.refl (v0).heap.size v0).alloc (Nat.le_refl _) (.cells #[] 3)
              have hgs : (v0).heap.size < ((v0).alloc (.cells #[] 3)).heap.size := by simp
              replace hx := hx.trans (hbb.mono hx.size)
              generalize (v0).alloc (.cells #[] 3) = v1 at *
              generalize (v0).heap.size = eb at *
              refine hK' _ _ ⟨.inr ⟨⟨v1, HX.out hx⟩, rfl⟩, ?_⟩
              clear hK' K'
              clear hbb
              refine zways_2 9 11 (by kernel_rfl) ?_ ?_
              · refine ⟨_, _, (by rfl), (by rfl), ?_⟩
                intro K' hK'
                refine wpList_appArrN (sv := .slice (some ⟨eb, 0, none⟩) 0 0) slT_i rfl (.tmp 106) (.tmp 112) rfl HTK.out rfl hown rfl (hpa1.below hx) (one_ii _) hx.size (by omega) (by omega) ?_
                intro v' v2 hown2 hb2 hgr
                rw [Nat.zero_add, List.nil_append, flat_i] at hown2
                obtain ⟨A3, cap3, rfl⟩ := own_form hown2
                replace hx := hx.trans hb2
                clear hown hgr hb2
                go_wp2
                refine hK' _ _ ⟨.inr ⟨⟨v2, HX.out hx⟩, rfl⟩, ?_⟩
                clear hK' K'
                refine zways_1 11 (by kernel_rfl) ?_
                refine ⟨_, _, (by rfl), (by rfl), ?_⟩
                intro K' hK'
                go_wp2
                have hs1 := Blk.new v2 3 #[.int .i64 ex]
                have hbb := (Below.refl (v2).heap.size v2).alloc (Nat.le_refl _) (.cells #[.int .i64 ex] 3)
                have hgs2 : (v2).heap.size < ((v2).alloc (.cells #[.int .i64 ex] 3)).heap.size := by simp
                replace hx := hx.trans (hbb.mono hx.size)
                replace hown2 := own_call hown2 hbb
                generalize (v2).alloc (.cells #[.int .i64 ex] 3) = v3 at *
                generalize (v2).heap.size = sx at *
                refine hK' _ _ ⟨.inr ⟨⟨v3, HX.out hx⟩, rfl⟩, ?_⟩
                clear hK' K'
                clear hbb
                refine zways_1 12 (by kernel_rfl) ?_
                refine ⟨_, _, (by rfl), (by rfl), ?_⟩
                intro K' hK'
                have harr1 : Arr v3 (v3).heap.size 1 (.slice (some ⟨sx, 0, none⟩) 1 1) [ex] icell := Arr.lit hs1 hs1.lt rfl (by simp) (by omega) (by simp [cellsOf, List.range_succ])
                refine wpList_appArr (l := [ex]) slT_i rfl (.tmp 113) (.tmp 115) rfl rfl hown2 rfl harr1 (one_ii _) hx.size (by simp; omega) (by omega) ?_
                intro v5 u5 hown3 hb3 hgr3
                rw [flat_i, ← List.map_append] at hown3
                obtain ⟨A5, cap5, rfl⟩ := own_form hown3
                replace hx := hx.trans hb3
                clear hown2 hgr3 hb3 harr1 hs1
                go_wp2
                refine hK' _ _ ⟨.inr ⟨⟨u5, HX.out hx⟩, rfl⟩, ?_⟩
                clear hK' K'
                refine zways_1 19 (by kernel_rfl) ?_
                refine ⟨_, _, (by rfl), (by rfl), ?_⟩
                intro K' hK'
                refine wpList_appArrN slT_i rfl (.tmp 116) (.tmp 122) rfl HDK.out rfl hown3 rfl (hpa2.below hx) (one_ii _) hx.size (by simp; omega) (by omega) ?_
                intro v6 u6 hown4 hb4 hgr4
                rw [flat_i, ← List.map_append] at hown4
                replace hx := hx.trans hb4
                clear hown3 hgr4 hb4
                have hpw : ls0.take ii ++ [ex] ++ ls0.drop ii = putW ls0 ii ex := by unfold putW; simp
                rw [hpw] at hown4
                have hlen : ii + [ex].length + (T - ii) = (putW ls0 ii ex).length := by unfold putW; have := HT0.out; simp; omega
                rw [hlen] at hown4
                obtain ⟨rb, rcap, rfl, hr1, hr2, hRow, hrb⟩ := row_own hown4 rfl (by unfold putW; simp; omega)
                clear hpw hlen hown4
                go_wp2
                refine hK' _ _ ⟨.inr ⟨⟨u6, HX.out hx⟩, rfl⟩, ?_⟩
                clear hK' K'
                refine zways_q 20 (by rfl) (by rfl) (by kernel_rfl) (by kernel_rfl) (by kernel_rfl) (by kernel_rfl) (by rfl) ⟨⟨u6, HX.out hx⟩, rfl⟩ ?_
                intro K hK
                go_big_quiet_op
                go_big_quiet_on
                refine zways_1 21 (by kernel_rfl) ?_
                refine ⟨_, _, (by rfl), (by rfl), ?_⟩
                intro K' hK'
                have hOV := hOVq.call hx
                obtain ⟨o0, o1⟩ := hOV.cell HY0.out
                have hOV3 := hOV.set_ (i := hh) hhl (.slice (some ⟨rb, 0, none⟩) (putW ls0 ii ex).length rcap)
                have hRow3 := hRow.heap (W' := u6.setCell ⟨ob, hh, none⟩ (.slice (some ⟨rb, 0, none⟩) (putW ls0 ii ex).length rcap)) (Below.heap_setCell u6 ⟨ob, hh, none⟩ _ rb (by simp; omega))
                have hz := HBL.out _ hx
                have hx3 := hz.setCell (p := ⟨ob, hh, none⟩) hob (.slice (some ⟨rb, 0, none⟩) (putW ls0 ii ex).length rcap)
                go_wp2
                generalize u6.setCell ⟨ob, hh, none⟩ (.slice (some ⟨rb, 0, none⟩) (putW ls0 ii ex).length rcap) = vz at *
                refine hK' _ _ ⟨(by first | exact .inl rfl | exact .inl trivial), ?_⟩
                clear hK' K' o0 o1
                refine zways_end (by kernel_rfl) ?_
                go_wp2
                go_meet
                case rel => exact ⟨rb, rcap, hOV3, hRow3, hr1, hr2, hx3⟩
              · refine ⟨_, _, (by rfl), (by rfl), ?_⟩
                intro K' hK'
                go_wp2
                have hs1 := Blk.new v1 3 #[.int .i64 ex]
                have hbb := (Below.refl (v1).heap.size v1).alloc (Nat.le_refl _) (.cells #[.int .i64 ex] 3)
                have hgs2 : (v1).heap.size < ((v1).alloc (.cells #[.int .i64 ex] 3)).heap.size := by simp
                replace hx := hx.trans (hbb.mono hx.size)
                replace hown := own_call hown hbb
                generalize (v1).alloc (.cells #[.int .i64 ex] 3) = v2 at *
                generalize (v1).heap.size = sx at *
                refine hK' _ _ ⟨.inr ⟨⟨v2, HX.out hx⟩, rfl⟩, ?_⟩
                clear hK' K'
                clear hbb
                refine zways_1 9 (by kernel_rfl) ?_
                refine ⟨_, _, (by rfl), (by rfl), ?_⟩
                intro K' hK'
                refine wpList_appArrN (sv := .slice (some ⟨eb, 0, none⟩) 0 0) slT_i rfl (.tmp 106) (.tmp 112) rfl HTK.out rfl hown rfl (hpa1.below hx) (one_ii _) hx.size (by omega) (by omega) ?_
                intro v' v3 hown2 hb2 hgr
                rw [Nat.zero_add, List.nil_append, flat_i] at hown2
                obtain ⟨A3, cap3, rfl⟩ := own_form hown2
                replace hx := hx.trans hb2
                replace hs1 := hs1.grown hgr (fun e => absurd (show sx = eb by simpa [Value.ownBlock] using e) (by omega))
                clear hown hgr hb2
                go_wp2
                refine hK' _ _ ⟨.inr ⟨⟨v3, HX.out hx⟩, rfl⟩, ?_⟩
                clear hK' K'
                refine zways_1 12 (by kernel_rfl) ?_
                refine ⟨_, _, (by rfl), (by rfl), ?_⟩
                intro K' hK'
                have harr1 : Arr v3 (v3).heap.size 1 (.slice (some ⟨sx, 0, none⟩) 1 1) [ex] icell := Arr.lit hs1 hs1.lt rfl (by simp) (by omega) (by simp [cellsOf, List.range_succ])
                refine wpList_appArr (l := [ex]) slT_i rfl (.tmp 113) (.tmp 115) rfl rfl hown2 rfl harr1 (one_ii _) hx.size (by simp; omega) (by omega) ?_
                intro v5 u5 hown3 hb3 hgr3
                rw [flat_i, ← List.map_append] at hown3
                obtain ⟨A5, cap5, rfl⟩ := own_form hown3
                replace hx := hx.trans hb3
                clear hown2 hgr3 hb3 harr1 hs1
                go_wp2
                refine hK' _ _ ⟨.inr ⟨⟨u5, HX.out hx⟩, rfl⟩, ?_⟩
                clear hK' K'
                refine zways_1 19 (by kernel_rfl) ?_
                refine ⟨_, _, (by rfl), (by rfl), ?_⟩
                intro K' hK'
                refine wpList_appArrN slT_i rfl (.tmp 116) (.tmp 122) rfl HDK.out rfl hown3 rfl (hpa2.below hx) (one_ii _) hx.size (by simp; omega) (by omega) ?_
                intro v6 u6 hown4 hb4 hgr4
                rw [flat_i, ← List.map_append] at hown4
                replace hx := hx.trans hb4
                clear hown3 hgr4 hb4
                have hpw : ls0.take ii ++ [ex] ++ ls0.drop ii = putW ls0 ii ex := by unfold putW; simp
                rw [hpw] at hown4
                have hlen : ii + [ex].length + (T - ii) = (putW ls0 ii ex).length := by unfold putW; have := HT0.out; simp; omega
                rw [hlen] at hown4
                obtain ⟨rb, rcap, rfl, hr1, hr2, hRow, hrb⟩ := row_own hown4 rfl (by unfold putW; simp; omega)
                clear hpw hlen hown4
                go_wp2
                refine hK' _ _ ⟨.inr ⟨⟨u6, HX.out hx⟩, rfl⟩, ?_⟩
                clear hK' K'
                refine zways_q 20 (by rfl) (by rfl) (by kernel_rfl) (by kernel_rfl) (by kernel_rfl) (by kernel_rfl) (by rfl) ⟨⟨u6, HX.out hx⟩, rfl⟩ ?_
                intro K hK
                go_big_quiet_op
                go_big_quiet_on
                refine zways_1 21 (by kernel_rfl) ?_
                refine ⟨_, _, (by rfl), (by rfl), ?_⟩
                intro K' hK'
                have hOV := hOVq.call hx
                obtain ⟨o0, o1⟩ := hOV.cell HY0.out
                have hOV3 := hOV.set_ (i := hh) hhl (.slice (some ⟨rb, 0, none⟩) (putW ls0 ii ex).length rcap)
                have hRow3 := hRow.heap (W' := u6.setCell ⟨ob, hh, none⟩ (.slice (some ⟨rb, 0, none⟩) (putW ls0 ii ex).length rcap)) (Below.heap_setCell u6 ⟨ob, hh, none⟩ _ rb (by simp; omega))
                have hz := HBL.out _ hx
                have hx3 := hz.setCell (p := ⟨ob, hh, none⟩) hob (.slice (some ⟨rb, 0, none⟩) (putW ls0 ii ex).length rcap)
                go_wp2
                generalize u6.setCell ⟨ob, hh, none⟩ (.slice (some ⟨rb, 0, none⟩) (putW ls0 ii ex).length rcap) = vz at *
                refine hK' _ _ ⟨(by first | exact .inl rfl | exact .inl trivial), ?_⟩
                clear hK' K' o0 o1
                refine zways_end (by kernel_rfl) ?_
                go_wp2
                go_meet
                case rel => exact ⟨rb, rcap, hOV3, hRow3, hr1, hr2, hx3⟩
            · refine ⟨_, _, (by rfl), (by rfl), ?_⟩
              intro K' hK'
              go_wp2
              have hs1 := Blk.new v0 3 #[.int .i64 ex]
              have hbb := (Below.refl (v0).heap.size v0).alloc (Nat.le_refl _) (.cells #[.int .i64 ex] 3)
              have hgs2 : (v0).heap.size < ((v0).alloc (.cells #[.int .i64 ex] 3)).heap.size := by simp
              replace hx := hx.trans (hbb.mono hx.size)
              generalize (v0).alloc (.cells #[.int .i64 ex] 3) = v1 at *
              generalize (v0).heap.size = sx at *
              refine hK' _ _ ⟨.inr ⟨⟨v1, HX.out hx⟩, rfl⟩, ?_⟩
              clear hK' K'
              clear hbb
              refine zways_1 2 (by kernel_rfl) ?_
              refine ⟨_, _, (by rfl), (by rfl), ?_⟩
              intro K' hK'
              go_wp2
              have hown := own_empty v1 wq.heap.size 3 1 hx.size
              have hbb := (Below.refl (v1).heap.size v1).alloc (Nat.le_refl _) (.cells #[] 3)
              have hgs : (v1).heap.size < ((v1).alloc (.cells #[] 3)).heap.size := by simp
              replace hx := hx.trans (hbb.mono hx.size)
              replace hs1 := hs1.call hbb
              generalize (v1).alloc (.cells #[] 3) = v2 at *
              generalize (v1).heap.size = eb at *
              refine hK' _ _ ⟨.inr ⟨⟨v2, HX.out hx⟩, rfl⟩, ?_⟩
              clear hK' K'
              clear hbb
              refine zways_1 9 (by kernel_rfl) ?_
              refine ⟨_, _, (by rfl), (by rfl), ?_⟩
              intro K' hK'
              refine wpList_appArrN (sv := .slice (some ⟨eb, 0, none⟩) 0 0) slT_i rfl (.tmp 106) (.tmp 112) rfl HTK.out rfl hown rfl (hpa1.below hx) (one_ii _) hx.size (by omega) (by omega) ?_
              intro v' v3 hown2 hb2 hgr
              rw [Nat.zero_add, List.nil_append, flat_i] at hown2
              obtain ⟨A3, cap3, rfl⟩ := own_form hown2
              replace hx := hx.trans hb2
              replace hs1 := hs1.grown hgr (fun e => absurd (show sx = eb by simpa [Value.ownBlock] using e) (by omega))
              clear hown hgr hb2
              go_wp2
              refine hK' _ _ ⟨.inr ⟨⟨v3, HX.out hx⟩, rfl⟩, ?_⟩
              clear hK' K'
              refine zways_1 12 (by kernel_rfl) ?_
              refine ⟨_, _, (by rfl), (by rfl), ?_⟩
              intro K' hK'
              have harr1 : Arr v3 (v3).heap.size 1 (.slice (some ⟨sx, 0, none⟩) 1 1) [ex] icell := Arr.lit hs1 hs1.lt rfl (by simp) (by omega) (by simp [cellsOf, List.range_succ])
              refine wpList_appArr (l := [ex]) slT_i rfl (.tmp 113) (.tmp 115) rfl rfl hown2 rfl harr1 (one_ii _) hx.size (by simp; omega) (by omega) ?_
              intro v5 u5 hown3 hb3 hgr3
              rw [flat_i, ← List.map_append] at hown3
              obtain ⟨A5, cap5, rfl⟩ := own_form hown3
              replace hx := hx.trans hb3
              clear hown2 hgr3 hb3 harr1 hs1
              go_wp2
              refine hK' _ _ ⟨.inr ⟨⟨u5, HX.out hx⟩, rfl⟩, ?_⟩
              clear hK' K'
              refine zways_1 19 (by kernel_rfl) ?_
              refine ⟨_, _, (by rfl), (by rfl), ?_⟩
              intro K' hK'
              refine wpList_appArrN slT_i rfl (.tmp 116) (.tmp 122) rfl HDK.out rfl hown3 rfl (hpa2.below hx) (one_ii _) hx.size (by simp; omega) (by omega) ?_
              intro v6 u6 hown4 hb4 hgr4
              rw [flat_i, ← List.map_append] at hown4
              replace hx := hx.trans hb4
              clear hown3 hgr4 hb4
              have hpw : ls0.take ii ++ [ex] ++ ls0.drop ii = putW ls0 ii ex := by unfold putW; simp
              rw [hpw] at hown4
              have hlen : ii + [ex].length + (T - ii) = (putW ls0 ii ex).length := by unfold putW; have := HT0.out; simp; omega
              rw [hlen] at hown4
              obtain ⟨rb, rcap, rfl, hr1, hr2, hRow, hrb⟩ := row_own hown4 rfl (by unfold putW; simp; omega)
              clear hpw hlen hown4
              go_wp2
              refine hK' _ _ ⟨.inr ⟨⟨u6, HX.out hx⟩, rfl⟩, ?_⟩
              clear hK' K'
              refine zways_q 20 (by rfl) (by rfl) (by kernel_rfl) (by kernel_rfl) (by kernel_rfl) (by kernel_rfl) (by rfl) ⟨⟨u6, HX.out hx⟩, rfl⟩ ?_
              intro K hK
              go_big_quiet_op
              go_big_quiet_on
              refine zways_1 21 (by kernel_rfl) ?_
              refine ⟨_, _, (by rfl), (by rfl), ?_⟩
              intro K' hK'
              have hOV := hOVq.call hx
              obtain ⟨o0, o1⟩ := hOV.cell HY0.out
              have hOV3 := hOV.set_ (i := hh) hhl (.slice (some ⟨rb, 0, none⟩) (putW ls0 ii ex).length rcap)
              have hRow3 := hRow.heap (W' := u6.setCell ⟨ob, hh, none⟩ (.slice (some ⟨rb, 0, none⟩) (putW ls0 ii ex).length rcap)) (Below.heap_setCell u6 ⟨ob, hh, none⟩ _ rb (by simp; omega))
              have hz := HBL.out _ hx
              have hx3 := hz.setCell (p := ⟨ob, hh, none⟩) hob (.slice (some ⟨rb, 0, none⟩) (putW ls0 ii ex).length rcap)
              go_wp2
              generalize u6.setCell ⟨ob, hh, none⟩ (.slice (some ⟨rb, 0, none⟩) (putW ls0 ii ex).length rcap) = vz at *
              refine hK' _ _ ⟨(by first | exact .inl rfl | exact .inl trivial), ?_⟩
              clear hK' K' o0 o1
              refine zways_end (by kernel_rfl) ?_
              go_wp2
              go_meet
              case rel => exact ⟨rb, rcap, hOV3, hRow3, hr1, hr2, hx3⟩
          case rest =>
            obtain ⟨rb, rcap, hOV2, hRow, hr3, hr4, hb⟩ := hcut
            have hYY : LLi wc (.slice (some ⟨ob, 0, none⟩) ls.length oc) (putL ls hh ii ex) := by
              have h1 : (ys.set hh ((.slice (some ⟨rb, 0, none⟩) (putW ls0 ii ex).length rcap, putW ls0 ii ex) : VL)).map (·.2) = putL ls hh ii ex := by
                unfold putL
                rw [map_set, HYS.out, HLS0.out]
              rw [← h1]
              refine lli_of (by rw [map_set]; exact hOV2.arr) fun x hx => ?_
              rcases List.mem_or_eq_of_mem_set hx with hx | rfl
              · exact (HY3.out x hx).call hb
              · exact hRow.arr rfl hr3 hr4
            replace hC := hC.call hb
            replace hL := hL.call hb
            replace hB := hB.trans ((hb).mono hB.size)
            obtain ⟨w10, hw10⟩ : ∃ w10 : World, w10 = wc := ⟨_, rfl⟩
            rw [← hw10] at hC hL hB hYY ⊢
            clear hb hw10 hOV2 hRow hr3 hr4 hpa1 hpa2 hr1 hr2 hOV hOVq f0 hbx HX HBL
            have hpl : Hid ((putL ls hh ii ex).length = ls.length) := by unfold putL; rw [Hid, List.length_set]
            obtain ⟨FY, hFY⟩ : ∃ F, F = fineB b (putL ls hh ii ex) := ⟨_, rfl⟩
            have hfx := lfine_ok _ _ b (putL ls hh ii ex) w10 hC.bv hYY
            rw [← hFY] at hfx
            have HFY := Lib.hid hFY
            clear hFY
            have k0 := hC.c0
            go_wp2_with fail
            refine (hfx).mono ?_
            rintro e w11 hp
            clear k0
            obtain ⟨rfl, hb⟩ := hp
            replace hC := hC.call hb
            replace hL := hL.call hb
            replace hB := hB.trans ((hb).mono hB.size)
            replace hYY := hYY.call hb
            clear hb hfx
            go_upto_if 127 with (fail)
            go_cut [] from 128 to 141 (fun wx => Below w11.heap.size w11 wx)
            case first =>
              cases FY
              · go_wp2
                go_meet
                case rel => exact Below.refl _ _
              · obtain ⟨hf2, -⟩ := fineB_iff.1 HFY.out.symm
                have hle := more_word HG.out hhl (i := ii) (e := ex) (by rw [← HLS0.out, ← HT0.out]; exact hil) (good_of hf2)
                have hlo := llong_ok _ _ b (putL ls hh ii ex) w11 hC.bv hYY hf2
                rw [← HM.out] at hle
                obtain ⟨M2, hM2⟩ : ∃ M2, M2 = mostOf b (putL ls hh ii ex) := ⟨_, rfl⟩
                rw [← hM2] at hlo hle
                have d1 : decide ((M2 : Int) < (M : Int)) = false := decide_eq_false (by omega)
                have d1' : decide (M2 < M) = false := decide_eq_false (by omega)
                clear hf2 hle hM2
                have k0 := hC.c0
                go_wp2_with fail
                refine (hlo).mono ?_
                rintro e w12 hp
                clear k0
                obtain ⟨rfl, hb⟩ := hp
                clear hlo
                go_wp2
                go_meet
                case rel => exact hb
            case rest =>
              have hb := hcut
              replace hC := hC.call hb
              replace hL := hL.call hb
              replace hB := hB.trans ((hb).mono hB.size)
              clear hb hcut
              go_wp2_with fail
              refine (works_ok _).mono ?_
              rintro e wz ⟨rfl, hbz⟩
              have hBz := hB.trans (hbz.mono hB.size)
              go_wp2
              try rw [Exit.noGoto_ret]
              go_ret
              exact ⟨rfl, hBz⟩
end Go.Proofs.Ytgngpdnppdbgoaa
