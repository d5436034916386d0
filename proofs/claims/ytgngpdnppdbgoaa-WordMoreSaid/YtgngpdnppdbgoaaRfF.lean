/- Contracts of the reference: All, Many, Matches. -/
import Derived.Test.YtgngpdnppdbgoaaRfC
namespace Go.Proofs.Ytgngpdnppdbgoaa
open Go.RowKit Go.Shelf
set_option linter.unusedVariables false

theorem slT_wmi : SlT 40 3 1 8 (.int .i64 0) := ⟨Try.underlying40, by kernel_rfl, rfl, by omega⟩
theorem own_lit (w : World) (vals : Array Value) (e size : Nat) (hs : vals.size = size) : (w.alloc (.cells vals e)).ownsRow w.heap.size e size (.slice (some ⟨w.heap.size, 0, none⟩) 1 1) 1 vals.toList := by
  subst hs
  exact ⟨by simp, .inr ⟨_, 1, vals, rfl, Nat.le_refl _, Blk.new _ _ _, by omega, by decide, by simp, by rw [Nat.one_mul]; exact List.take_of_length_le (by simp)⟩⟩
theorem Built.grown {w0 W W' : World} {te : TypeId} {v : Value} {xs : List VL} {row : Option Nat} (h : Built w0 W te v xs) (hg : W.grownBy W' row) (hv : ∀ r, row = some r → v.ownBlock ≠ some r ∧ w0.heap.size ≤ r ∧ ∀ x ∈ xs, x.1.ownBlock ≠ some r) : Built w0 W' te v xs := by
  refine ⟨own_grown h.own hg fun r e => (hv r e).1, fun x hx => ?_, h.bl.grown hg h.bl.size fun k hk => (hv k hk).2.1⟩
  obtain ⟨bb, cap, t, g1, g2, g3, g4, g5⟩ := h.el x hx
  exact ⟨bb, cap, t, g1, g2, g3, g4.heap (hg.block bb g4.lt fun e => (hv bb e.symm).2.2 x hx (by rw [g1]; rfl)), g5⟩
theorem flatMap_take_len {α β : Type} (f : α → List β) (l : List α) (k : Nat) : ((l.take k).flatMap f).length ≤ (l.flatMap f).length := by
  conv => rhs; rw [← List.take_append_drop k l, List.flatMap_append, List.length_append]
  omega
theorem getD_in {α : Type} {l : List α} {i : Nat} {d : α} (h : i < l.length) : l.getD i d ∈ l := by
  rw [List.getD_eq_getElem?_getD, List.getElem?_eq_getElem h]
  exact List.getElem_mem h
/-- a word of a line in memory -/
theorem ln_word {w : World} {B n lc : Nat} {la : Option Addr} {b : List (Int × Int)} {ls : List (List Int)} (hln : LLB w B (.slice la n lc) ls) (hG : Good b ls) {h i : Nat} (hh : h < ls.length) (hi : i < (ls.getD h []).length) :
    ∃ lb lo nb no len c xn : Nat, la = some ⟨lb, lo, none⟩ ∧ lb < B ∧ w.cell? ⟨lb, lo + h, none⟩ = some (.slice (some ⟨nb, no, none⟩) len c) ∧ len = (ls.getD h []).length ∧ i < len ∧ nb < B ∧ w.cell? ⟨nb, no + i, none⟩ = some (.int .i64 (xn : Int)) ∧ xn < 101 ∧ wordAt ls h i = (xn : Int) := by
  have hl : ls[h]? = some (ls.getD h []) := by rw [List.getD_eq_getElem?_getD, List.getElem?_eq_getElem hh]; rfl
  obtain ⟨lb, lo, lA, lcc, e1, h1, h2, h3⟩ := hln.at_ hl
  obtain ⟨nb, no, e2, h4, h5⟩ := num_at h3 hi
  subst e2
  have hw : isWordB (wordAt ls h i) = true := by
    refine hG.word _ (List.mem_of_getElem? hl) _ ?_
    exact getD_in hi
  have hw2 := isWordB_iff.1 hw
  refine ⟨lb, lo, nb, no, _, lcc, (wordAt ls h i).toNat, e1, h1, h2, rfl, hi, h4, ?_, by omega, by omega⟩
  rw [h5]
  unfold wordAt at hw2 ⊢
  rw [Int.toNat_of_nonneg (by omega)]

/-- a row is none of those of a list that is built -/
def ApartL (o v : Value) (xs : List VL) : Prop := ∀ r, o.ownBlock = some r → v.ownBlock ≠ some r ∧ ∀ x ∈ xs, x.1.ownBlock ≠ some r
theorem ApartL.nil_ (v : Value) (xs : List VL) : ApartL (.slice none 0 0) v xs := fun r h => by simp [Value.ownBlock] at h
theorem Built.lt {w0 W : World} {te : TypeId} {v : Value} {xs : List VL} (h : Built w0 W te v xs) {r : Nat} (hr : v.ownBlock = some r ∨ ∃ x ∈ xs, x.1.ownBlock = some r) : r < W.heap.size := by
  rcases hr with hr | ⟨x, hx, hr⟩
  · exact (h.own.lt r hr).2
  · obtain ⟨bb, cap, t, g1, g2, g3, g4, g5⟩ := h.el x hx
    rw [g1] at hr
    simp only [Value.ownBlock, Option.some.injEq] at hr
    subst hr
    exact g4.lt
/-- a list that is read while another one grows -/
theorem Built.beside {w0 W W' : World} {te : TypeId} {v o o' : Value} {xs : List VL} {te' n : Nat} {os : List Value} (h : Built w0 W te v xs) (ho : W.ownsRow w0.heap.size te' 1 o n os) (ha : ApartL o v xs) (hg : W.grownBy W' o.ownBlock) (hat : ∀ b, o'.ownBlock = some b → o.ownBlock = some b ∨ W.heap.size ≤ b) :
    Built w0 W' te v xs ∧ ApartL o' v xs := by
  refine ⟨h.grown hg fun r e => ⟨(ha r e).1, (ho.lt r e).1, (ha r e).2⟩, fun r e => ?_⟩
  rcases hat r e with q | q
  · exact ha r q
  · exact ⟨fun e2 => by have := h.lt (.inl e2); omega, fun x hx e2 => by have := h.lt (.inr ⟨x, hx, e2⟩); omega⟩
theorem row_own {W : World} {base n : Nat} {v : Value} {l : List Int} (h : W.ownsRow base 3 1 v n (l.map (Value.int .i64))) (hn : n = l.length) (hpos : 0 < n) : ∃ bb cap, v = .slice (some ⟨bb, 0, none⟩) l.length cap ∧ l.length ≤ cap ∧ cap ≤ 9223372036854775807 ∧ RowI W bb 3 l ∧ base ≤ bb := by
  subst hn
  rcases h.2 with ⟨_, h0⟩ | ⟨g, cap, cur, rfl, h1, h2, h3, h4, h5, h6⟩
  · omega
  · refine ⟨g, cap, rfl, h3, by simpa only [maxLen] using h4, ⟨⟨cur, h2, fun i x hx => ?_⟩⟩, h1⟩
    have hi := (List.getElem?_eq_some_iff.1 hx).1
    rw [Nat.mul_one] at h6
    have : (cur.toList.take l.length)[i]? = some (.int .i64 x) := by rw [h6, List.getElem?_map, hx]; rfl
    rw [List.getElem?_take, if_pos hi] at this
    simpa using this

set_option maxRecDepth 100000 in
set_option maxHeartbeats 3200000 in
theorem rall_ok (v lv : Value) (b : List (Int × Int)) (ls : List (List Int)) (w : World) (hv : BookV w w.heap.size v b) (hl : LLi w lv ls) (h0 : checkLines b ls = 0) :
    Calls Try.prog 54 #[v, lv] w fun r w' => ∃ A c, r = .returned (.slice A (matsOf b ls).length c) ∧ LLi w' (.slice A (matsOf b ls).length c) (iLL (matsOf b ls)) ∧ Below w.heap.size w w' := by
  obtain ⟨pa, pc, rfl, hp⟩ := hv.open_
  obtain ⟨la, lc, rfl, -, -⟩ := hl.form
  have hG := good_of h0
  have HG := Lib.hid hG
  have h2 := hG.two
  have h4 := hG.four
  have hC := BB.new hp
  have hB := (Below.refl w.heap.size w).alloc (Nat.le_refl _) (.cells #[.slice pa b.length pc] 24)
  go_enter Try.func54, Try.ntmps54
  go_upto_region 1 with (fail)
  generalize w.alloc (.cells #[.slice pa b.length pc] 24) = W at *
  clear hp hv h0 hG
  have k0 := hC.c0
  go_wp2_with fail
  refine (rclasses_ok _ b W hC.bv HG.out.book).mono ?_
  rintro e w1 ⟨cb, ccap, rfl, hO, hob, hb1⟩
  have hB1 := hB.trans (hb1.mono hB.size)
  clear hC hB hb1 k0
  go_upto_region 3 with (fail)
  have q1 := (Below.refl w1.heap.size w1).alloc (Nat.le_refl _) (.cells #[] 3)
  have z1 : (w1.alloc (.cells #[] 3)).heap.size = w1.heap.size + 1 := by simp
  have x1 := Blk.new w1 3 #[]
  generalize w1.alloc (.cells #[] 3) = v1 at *
  have hown := own_lit v1 #[.slice (some ⟨w1.heap.size, 0, none⟩) 0 0] 40 1 rfl
  have q2 := (Below.refl v1.heap.size v1).alloc (Nat.le_refl _) (.cells #[.slice (some ⟨w1.heap.size, 0, none⟩) 0 0] 40)
  have x2 := x1.call q2
  generalize v1.alloc (.cells #[.slice (some ⟨w1.heap.size, 0, none⟩) 0 0] 40) = v2 at *
  rw [z1] at hown
  have hb2 : Below w1.heap.size w1 v2 := q1.trans (q2.mono (by omega))
  have hbt : Built w1 v2 40 (.slice (some ⟨w1.heap.size + 1, 0, none⟩) 1 1) [((.slice (some ⟨w1.heap.size, 0, none⟩) 0 0, []) : VL)] := by
    refine ⟨own_mono (by simpa using hown) (Nat.le_succ _), fun x hx => ?_, hb2⟩
    rw [List.mem_singleton] at hx
    subst hx
    refine ⟨w1.heap.size, 0, 3, rfl, Nat.zero_le _, by omega, ⟨⟨#[], x2, fun i y hy => by simp at hy⟩⟩, fun e => ?_⟩
    simp only [Value.ownBlock, Option.some.injEq] at e
    omega
  have hB2 := hB1.trans (hb2.mono hB1.size)
  have hl1 := (hl.below hB1).more hB1.size
  clear x1 x2 q1 q2 hown z1 hb2 hl hob
  generalize w1.heap.size + 1 = ob0 at *
  go_wp2
  go_loopw [6, 7] (fun o i wr => ∃ (h : Nat) (xs : List VL) (oA : Option Addr) (oc : Nat), h ≤ ls.length ∧ i = .int .i64 h ∧ o = .slice oA xs.length oc ∧ Hid (xs.map (·.2) = iLL (allTo b ls h)) ∧ Built w1 wr 40 (.slice oA xs.length oc) xs) (fun _ i _ => ls.length - (intOf i).toNat)
  case atStart => exact ⟨0, [((.slice (some ⟨w1.heap.size, 0, none⟩) 0 0, []) : VL)], some ⟨ob0, 0, none⟩, 1, Nat.zero_le _, rfl, rfl, rfl, hbt⟩
  case round =>
    clear hbt hB2
    obtain ⟨h, xs, oA, oc, hh, rfl, rfl, hxs, hbt⟩ := hrel
    by_cases hlt : h < ls.length
    · have d1 : decide (h < ls.length) = true := decide_eq_true hlt
      have d1' : decide ((h : Int) < (ls.length : Int)) = true := decide_eq_true (by omega)
      have hki : (h : Int) < (ls.length : Int) := by omega
      have HXL : Hid (xs.length = (allTo b ls h).length) := by
        have := congrArg List.length hxs.out
        rw [Hid]
        rwa [List.length_map, iLL_len] at this
      have HZ4 := Lib.hid (allTo_len HG.out (n := h) (by omega))
      have hx4 : xs.length ≤ 4096 := by rw [HXL.out]; exact HZ4.out
      obtain ⟨wo, hwo⟩ : ∃ wo : World, wo = wr := ⟨_, rfl⟩
      rw [← hwo] at hbt ⊢
      clear hwo
      go_wp2
      go_loopw [8, 9] (fun o i wr => ∃ (k : Nat) (ys : List VL), k ≤ xs.length ∧ i = .int .i64 k ∧ Hid (ys.map (·.2) = iLL (((allTo b ls h).take k).flatMap fun m => ((List.range (ls.getD h []).length).filter (stepOk b ls h m)).map fun q => m ++ [q])) ∧ Built w1 wr 40 o ys ∧ Built w1 wr 40 (.slice oA xs.length oc) xs ∧ ApartL o (.slice oA xs.length oc) xs) (fun _ i _ => xs.length - (intOf i).toNat)
      case atStart => exact ⟨0, [], Nat.zero_le _, rfl, rfl, ⟨by simpa using World.ownsRow_nil _ _ _ _, (fun x hx => by cases hx), hbt.bl⟩, hbt, ApartL.nil_ _ _⟩
      case round =>
        clear hbt
        obtain ⟨k, ys, hk, rfl, hys, hby, hbx, hap⟩ := hrel
        by_cases hkl : k < xs.length
        · have d2 : decide (k < xs.length) = true := decide_eq_true hkl
          have d2' : decide ((k : Int) < (xs.length : Int)) = true := decide_eq_true (by omega)
          have hki2 : (k : Int) < (xs.length : Int) := by omega
          obtain ⟨m, hm⟩ : ∃ m, (allTo b ls h)[k]? = some m := ⟨_, List.getElem?_eq_getElem (by rw [← HXL.out]; exact hkl)⟩
          have HM := Lib.hid hm
          obtain ⟨T, hT⟩ : ∃ T, T = (ls.getD h []).length := ⟨_, rfl⟩
          have HTL := Lib.hid hT
          have h8 := HG.out.eight (ls.getD h []) (by rw [List.getD_eq_getElem?_getD, List.getElem?_eq_getElem hlt]; exact List.getElem_mem hlt)
          rw [← hT] at hys h8
          have HT1 : Hid (((allTo b ls h).take (k + 1)).flatMap (fun m => ((List.range T).filter (stepOk b ls h m)).map fun q => m ++ [q]) = ((allTo b ls h).take k).flatMap (fun m => ((List.range T).filter (stepOk b ls h m)).map fun q => m ++ [q]) ++ ((List.range T).filter (stepOk b ls h m)).map fun q => m ++ [q]) := by
            rw [Hid, take_snoc hm, List.flatMap_append, List.flatMap_singleton]
          have HPL : Hid ((((allTo b ls h).take k).flatMap fun m => ((List.range T).filter (stepOk b ls h m)).map fun q => m ++ [q]).length ≤ 4096) := by
            rw [Hid, hT]
            exact Nat.le_trans (flatMap_take_len _ _ k) (allTo_len HG.out (n := h + 1) (by omega))
          clear hm hT
          generalize ((allTo b ls h).take k).flatMap (fun m => ((List.range T).filter (stepOk b ls h m)).map fun q => m ++ [q]) = Pre at *
          go_wp2
          go_loopw [8, 10] (fun o i wr => ∃ (j : Nat) (zs : List VL), j ≤ T ∧ i = .int .i64 j ∧ Hid (zs.map (·.2) = iLL (Pre ++ ((List.range j).filter (stepOk b ls h m)).map fun q => m ++ [q])) ∧ Built w1 wr 40 o zs ∧ Built w1 wr 40 (.slice oA xs.length oc) xs ∧ ApartL o (.slice oA xs.length oc) xs) (fun _ i _ => T - (intOf i).toNat)
          case atStart => exact ⟨0, ys, Nat.zero_le _, rfl, by rw [Hid, hys.out]; simp, hby, hbx, hap⟩
          case round =>
            clear hys hby hbx hap
            obtain ⟨j, zs, hj, rfl, hzs, hbz, hbx, hap⟩ := hrel
            have hlr := (hl1.below hbx.bl)
            obtain ⟨lb, lo, lA, lcc, rfl, hlb, hlc, harr⟩ := hlr.at_ (i := h) (l := ls.getD h []) (by rw [List.getD_eq_getElem?_getD, List.getElem?_eq_getElem hlt]; rfl)
            rw [← HTL.out] at hlc
            by_cases hjT : j < T
            · have d3 : decide (j < T) = true := decide_eq_true hjT
              have d3' : decide ((j : Int) < (T : Int)) = true := decide_eq_true (by omega)
              have hjTi : (j : Int) < (T : Int) := by omega
              have hjl : j < (ls.getD h []).length := by rw [← HTL.out]; exact hjT
              obtain ⟨nb, no, rfl, hnb, hnc⟩ := num_at harr hjl
              have hll := hbx.ll
              rw [hxs.out] at hll
              obtain ⟨eb, eo, eA, ec, hoA, heb, hec, hea⟩ := hll.at_ (i := k) (l := iL m) (by unfold iLL; rw [List.getElem?_map, HM.out]; rfl)
              subst hoA
              have HNX : Hid (iLL (Pre ++ ((List.range (j + 1)).filter (stepOk b ls h m)).map fun q => m ++ [q]) = zs.map (·.2) ++ if stepOk b ls h m j = true then [iL (m ++ [j])] else []) := by
                rw [Hid, List.range_succ, List.filter_append, List.map_append, ← List.append_assoc, hzs.out]
                unfold iLL
                rw [List.map_append (l₁ := Pre ++ _)]
                congr 1
                simp only [List.filter_cons, List.filter_nil]
                split <;> rfl
              have hml := (allTo_mem (b := b) (by omega) (List.mem_of_getElem? HM.out)).1
              obtain ⟨wq, hwq⟩ : ∃ wq : World, wq = wr := ⟨_, rfl⟩
              rw [← hwq] at hbz hbx hec hea heb hlc hnc hlr ⊢
              have HZL : Hid (zs.length ≤ 4104) := by
                have h1 := congrArg List.length hzs.out
                rw [List.length_map, iLL_len, List.length_append, List.length_map] at h1
                have h3 := List.length_filter_le (stepOk b ls h m) (List.range j)
                rw [List.length_range] at h3
                have h5 := HPL.out
                rw [Hid]
                omega
              clear hwq hll hzs harr
              have hOq := hO.call hbx.bl
              go_upto_region 13 with (fail)
              go_cut [64] from 36 to 65 (fun g wx => g = .bool (stepOk b ls h m j) ∧ Below wq.heap.size wq wx)
              case first =>
                rcases Decidable.em (h = 0) with hz | hz
                · have d4 : ((h : Int) == 0) = true := by rw [beq_iff_eq]; omega
                  have HSO : Hid (stepOk b ls h m j = true) := by rw [Hid, hz]; rfl
                  clear hz
                  refine wp_region_ext (by kernel_rfl) (by kernel_rfl) ?_
                  repeat (go_big_quiet_step (fail))
                  refine wpQuiet_nil ?_
                  intro _ hw'
                  obtain ⟨xr, hw''⟩ := hw'
                  subst hw''
                  go_wp2
                  go_meet
                  case rel => exact ⟨by rw [HSO.out], xr.h⟩
                · have d4 : ((h : Int) == 0) = false := beq_false_of_ne (by omega)
                  have hml0 : 0 < m.length := by omega
                  have hm0 := (allTo_mem (b := b) (by omega) (List.mem_of_getElem? HM.out)).2 0 (by omega)
                  obtain ⟨lb1, lo1, nb1, no1, T1, c1, xh, e1, hlb1, hlc1, hT1, hj1, hnb1, hnc1, hx1, hw1⟩ := ln_word hlr HG.out hlt hjl
                  obtain ⟨lb2, lo2, nb0, no0, T0, c0, x0, e2, hlb2, hlc0, hT0, hj0, hnb0, hnc0, hx0, hw0⟩ := ln_word hlr HG.out (show 0 < ls.length by omega) hm0
                  injection e1 with e1
                  injection e1 with e1 e1b
                  injection e2 with e2
                  injection e2 with e2 e2b
                  subst e1 e1b e2 e2b
                  rw [Nat.add_zero] at hlc0
                  obtain ⟨mb, mo, rfl, hmb, hmc⟩ := num_at hea (k := 0) (by rw [iL_len]; omega)
                  rw [getD_iL2, Nat.add_zero] at hmc
                  obtain ⟨p0, -⟩ := hOq.cell (labs_at (b := b) hx1)
                  obtain ⟨p1, -⟩ := hOq.cell (labs_at (b := b) hx0)
                  have HSO : Hid (stepOk b ls h m j = ((labI b (xh : Int) : Int) == (labI b (x0 : Int) : Int))) := by
                    unfold stepOk
                    rw [Hid, hw1, hw0, beq_false_of_ne hz, Bool.false_or, Bool.eq_iff_iff, beq_iff_eq, beq_iff_eq]
                    constructor <;> intro h <;> omega
                  have g0 : (0 : Int) < (ls.length : Int) := by omega
                  have g1 : (j : Int) < (T1 : Int) := by omega
                  have g2 : (at0 m 0 : Int) < (T0 : Int) := by omega
                  have g3 : (xh : Int) < 101 := by omega
                  have g4 : (x0 : Int) < 101 := by omega
                  have g5 : (0 : Int) < ((iL m).length : Int) := by rw [iL_len]; omega
                  have f0 := Ext.of hlc1
                  have f1 := Ext.of hnc1
                  have f2 := Ext.of hlc0
                  have f3 := Ext.of hnc0
                  have f4 := Ext.of hec
                  have f5 := Ext.of hmc
                  obtain ⟨lx, hlx⟩ : ∃ lx, lx = labI b (xh : Int) := ⟨_, rfl⟩
                  obtain ⟨ly, hly⟩ : ∃ ly, ly = labI b (x0 : Int) := ⟨_, rfl⟩
                  rw [← hlx] at p0 HSO
                  rw [← hly] at p1 HSO
                  have f6 := Ext.of p0
                  have f7 := Ext.of p1
                  clear hlx hly p0 p1 hmc hlc0 hnc0 hlc1 hnc1 hT0 hT1 hw0 hw1 hz hec hlc hnc hm0
                  refine wp_region_ext (by kernel_rfl) (by kernel_rfl) ?_
                  repeat (go_big_quiet_step (fail))
                  refine wpQuiet_nil ?_
                  intro _ hw'
                  obtain ⟨xr, hw''⟩ := hw'
                  subst hw''
                  go_wp2
                  go_meet
                  case rel => exact ⟨by rw [HSO.out], xr.h⟩
              case rest =>
                obtain ⟨rfl, hb⟩ := hcut
                replace hbz := hbz.call hb
                replace hbx := hbx.call hb
                replace hec := (hb.cell (p := ⟨eb, eo + k, none⟩) heb).trans hec
                replace hea := hea.call hb
                replace heb := Nat.lt_of_lt_of_le heb hb.size
                obtain ⟨W4, hW4⟩ : ∃ W4 : World, W4 = wc := ⟨_, rfl⟩
                rw [← hW4] at hbz hbx hec hea heb ⊢
                clear hW4 hb hlr hlc hnc hOq wq
                cases hso : stepOk b ls h m j
                · have HN : Hid (zs.map (·.2) = iLL (Pre ++ ((List.range (j + 1)).filter (stepOk b ls h m)).map fun q => m ++ [q])) := by rw [Hid, HNX.out, hso]; simp
                  clear hso
                  go_wp2
                  go_roundw
                  case rel => exact ⟨j + 1, zs, by omega, by go_num, HN, hbz, hbx, hap⟩
                  case measure => (simp [intOf]; try omega)
                · have HN : Hid (zs.map (·.2) ++ [iL (m ++ [j])] = iLL (Pre ++ ((List.range (j + 1)).filter (stepOk b ls h m)).map fun q => m ++ [q])) := by rw [Hid, HNX.out, hso]; simp
                  clear hso
                  go_upto_region 14 with (fail)
                  have hE0 := own_empty W4 W4.heap.size 3 1 (Nat.le_refl _)
                  go_wp2_with (at_builtin; refine wpList_appArr slT_wmi rfl (.tmp 66) (.tmp 70) rfl rfl hE0 rfl (hea.alloc (Nat.le_refl _) _) ?_ ?_ ?_ ?_ ?_)
                  · intro u hu
                    rw [flat_i] at hu
                    obtain ⟨y, -, rfl⟩ := List.mem_map.1 hu
                    rfl
                  · simp
                  · rw [iL_len]; omega
                  · omega
                  intro v5 W5 hown5 hb5 hg5
                  simp only [Nat.zero_add, List.nil_append, flat_int] at hown5
                  have hb6 : Below W4.heap.size W4 W5 := ((Below.refl _ _).alloc (Nat.le_refl _) _).trans hb5
                  have hil : Hid ((iL m).length ≤ 4) := by rw [Hid, iL_len]; omega
                  clear hE0 hg5 hb5
                  go_wp2_with (at_builtin; refine wpList_app2 slT_wmi rfl (.tmp 71) (.tmp 73) rfl (sv := v5) rfl hown5 rfl rfl (one_i _) hb6.size ?_ ?_ ?_)
                  · have := hil.out; omega
                  · omega
                  intro v6 W6 hown6 hg6 hat6
                  have hb7 := hb6.grown hg6 hb6.size fun g hg => (hown5.lt g hg).1
                  have HIJ : Hid (iL (m ++ [j]) = iL m ++ [(j : Int)]) := by unfold iL; rw [Hid, List.map_append]; rfl
                  have hown7 : W6.ownsRow W4.heap.size 3 1 v6 ((iL m).length + 1) ((iL (m ++ [j])).map (Value.int .i64)) := by rw [HIJ.out, List.map_append]; simpa using hown6
                  obtain ⟨bb, cap, rfl, hcap1, hcap2, hrow, hbb⟩ := row_own hown7 (by rw [HIJ.out]; simp) (by omega)
                  have hbz6 := hbz.call hb7
                  have hbx6 := hbx.call hb7
                  have hne : Hid (u8.ownBlock ≠ some bb) := fun e => by have := (hbz.own.lt bb e).2; omega
                  have hzl : Hid (zs.length ≤ 40000) := by rw [Hid]; have := HZL.out; omega
                  have hsz6 := hbz6.bl.size
                  clear hown6 hown7 hg6 hat6 hown5 hb6 hbz hbx hea hec hb7
                  go_wp2_with (at_builtin; refine wpList_app2 slT_wm rfl (.tmp 65) (.tmp 75) rfl (sv := u8) rfl hbz6.own rfl rfl one_sl hsz6 ?_ ?_ ?_)
                  · have := hzl.out; omega
                  · omega
                  intro v8 W8 hown8 hg8 hat8
                  have hbz8 := hbz6.app hrow hcap1 hcap2 hne.out (by simpa using hown8) hg8 hat8
                  obtain ⟨hbx8, hap8⟩ := hbx6.beside hbz6.own hap hg8 hat8
                  clear hown8 hg8 hat8 hbz6 hbx6 hap hrow
                  go_wp2
                  go_roundw
                  case rel => exact ⟨j + 1, zs ++ [(.slice (some ⟨bb, 0, none⟩) (iL (m ++ [j])).length cap, iL (m ++ [j]))], by omega, by go_num, by rw [Hid, ← HN.out]; simp, hbz8, hbx8, hap8⟩
                  case measure => (simp [intOf]; try omega)
            · obtain rfl : T = j := by omega
              have d3 : decide (T < T) = false := by simp
              rw [← HT1.out] at hzs
              have HZS : Hid (zs.map (·.2) = iLL (((allTo b ls h).take (k + 1)).flatMap fun m => ((List.range (ls.getD h []).length).filter (stepOk b ls h m)).map fun q => m ++ [q])) := by rw [← HTL.out]; exact hzs
              clear hzs
              go_wp2
              go_roundw
              case rel => exact ⟨k + 1, zs, by omega, by go_num, HZS, hbz, hbx, hap⟩
              case measure => (simp [intOf]; try omega)
        · obtain rfl : xs.length = k := by omega
          have d2 : decide (xs.length < xs.length) = false := by simp
          have HYS : Hid (ys.map (·.2) = iLL (allTo b ls (h + 1))) := by
            have := hys.out
            rw [HXL.out, List.take_length] at this
            exact this
          obtain ⟨yA, yc, rfl, -, -⟩ := hby.form
          go_wp2
          go_roundw
          case rel => exact ⟨h + 1, ys, yA, yc, by omega, by go_num, rfl, HYS, hby⟩
          case measure => (simp [intOf]; try omega)
    · obtain rfl : ls.length = h := by omega
      have d1 : decide (ls.length < ls.length) = false := by simp
      have hll := hbt.ll
      rw [hxs.out, allTo_mats] at hll
      have hxl : xs.length = (matsOf b ls).length := by
        have := congrArg List.length hxs.out
        rw [List.length_map, allTo_mats, iLL_len] at this
        exact this
      rw [hxl] at hll ⊢
      have hbf := hB1.trans (hbt.bl.mono hB1.size)
      clear hxs hbt
      go_wp2
      go_ret
      exact ⟨oA, oc, by rfl, hll, hbf⟩
end Go.Proofs.Ytgngpdnppdbgoaa
