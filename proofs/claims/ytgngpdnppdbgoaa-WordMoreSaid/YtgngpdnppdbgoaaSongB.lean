/- Contracts: before, told. -/
import Derived.Test.YtgngpdnppdbgoaaSong
namespace Go.Proofs.Ytgngpdnppdbgoaa
open Go.RowKit Go.Shelf
set_option linter.unusedVariables false

set_option maxRecDepth 100000 in
set_option maxHeartbeats 1600000 in
theorem before_ok (B gs d : Nat) (b : List (Int × Int)) (ls : List (List Int)) (la : Option Addr) (lc : Nat) (av : Value) (x y : List Nat) (w : World) (hs : Song w B gs d b ls la lc av) :
    Calls Try.prog 63 #[.pointer (some ⟨gs, 0, none⟩), plV x, plV y] w fun r w' => r = .returned (.bool (befL ls x y)) ∧ Below w.heap.size w w' := by
  have h2 := hs.good.two
  have h4 := hs.good.four
  go_enter Try.func63, Try.ntmps63
  go_upto_region 1 with (fail)
  have hX0 := Blk.new w 88 (plC x)
  have hB0 := (Below.refl w.heap.size w).alloc (Nat.le_refl _) (.cells (plC x) 88)
  have hY := Blk.new (w.alloc (.cells (plC x) 88)) 88 (plC y)
  have hbA := (Below.refl (w.alloc (.cells (plC x) 88)).heap.size (w.alloc (.cells (plC x) 88))).alloc (Nat.le_refl _) (.cells (plC y) 88)
  have hX := hX0.call hbA
  have hB := hB0.trans (hbA.mono hB0.size)
  have hS := hs.call hB
  have e : (w.alloc (.cells #[.int .i64 (at0 x 0 : Int), .int .i64 (at0 x 1 : Int), .int .i64 (at0 x 2 : Int), .int .i64 (at0 x 3 : Int)] 88)).alloc (.cells #[.int .i64 (at0 y 0 : Int), .int .i64 (at0 y 1 : Int), .int .i64 (at0 y 2 : Int), .int .i64 (at0 y 3 : Int)] 88) = (w.alloc (.cells (plC x) 88)).alloc (.cells (plC y) 88) := rfl
  rw [e]
  rw [show (w.alloc (.cells (plC x) 88)).heap.size = w.heap.size + 1 by simp] at hY
  clear e hs hX0 hB0 hbA
  generalize (w.alloc (.cells (plC x) 88)).alloc (.cells (plC y) 88) = W at *
  obtain ⟨q0, q1, q2⟩ := hS.c3
  go_wp2
  go_loopw [13] (fun i wr => ∃ h : Nat, h ≤ ls.length ∧ i = .int .i64 h ∧ Hid (∀ j, j < h → at0 x j < at0 y j) ∧ Below W.heap.size W wr) (fun i _ => ls.length - (intOf i).toNat)
  case atStart => exact ⟨0, Nat.zero_le _, rfl, fun j hj => absurd hj (Nat.not_lt_zero _), Below.refl _ _⟩
  case round =>
    obtain ⟨h, hh, rfl, hok, hbr⟩ := hrel
    by_cases hlt : h < ls.length
    · have d1 : decide (h < ls.length) = true := decide_eq_true hlt
      have d1' : decide ((h : Int) < (ls.length : Int)) = true := decide_eq_true (by omega)
      have ek : IntKind.i64.wrap ((h : Int) + 1) = ((h + 1 : Nat) : Int) := by rw [IntKind.wrap_i64]; omega
      have h4i : (h : Int) < 4 := by omega
      have hXr := hX.call hbr
      have hYr := hY.call hbr
      have f0 := Ext.of (show wr.cell? ⟨w.heap.size, h, none⟩ = some (.int .i64 (at0 x h : Int)) by rw [hXr.cell]; exact plC_at x (by omega))
      have f1 := Ext.of (show wr.cell? ⟨w.heap.size + 1, h, none⟩ = some (.int .i64 (at0 y h : Int)) by rw [hYr.cell]; exact plC_at y (by omega))
      clear hXr hYr
      obtain ⟨xh, hxh⟩ : ∃ xh, xh = at0 x h := ⟨_, rfl⟩
      obtain ⟨yh, hyh⟩ : ∃ yh, yh = at0 y h := ⟨_, rfl⟩
      rw [← hxh] at f0
      rw [← hyh] at f1
      go_upto_region 4 with (fail)
      by_cases hc : xh < yh
      · have d2 : decide ((yh : Int) ≤ (xh : Int)) = false := decide_eq_false (by omega)
        have d2' : decide (yh ≤ xh) = false := decide_eq_false (by omega)
        have HOK : Hid (∀ j, j < h + 1 → at0 x j < at0 y j) := fun j hj => by
          by_cases e : j = h
          · rw [e, ← hxh, ← hyh]; exact hc
          · exact hok.out j (by omega)
        clear hc hok hxh hyh
        refine wp_region_ext (by kernel_rfl) (by kernel_rfl) ?_
        repeat (go_big_quiet_step (fail))
        refine wpQuiet_nil ?_
        intro _ hw'
        obtain ⟨xr, hw''⟩ := hw'
        subst hw''
        have hbz := hbr.trans (xr.h.mono hbr.size)
        go_wp2
        go_roundw
        case rel => exact ⟨h + 1, by omega, by go_num, HOK, hbz⟩
        case measure => (simp [intOf]; try omega)
      · have d2 : decide ((yh : Int) ≤ (xh : Int)) = true := decide_eq_true (by omega)
        have d2' : decide (yh ≤ xh) = true := decide_eq_true (by omega)
        have HF : Hid (befL ls x y = false) := by
          rw [Hid]
          cases hb : befL ls x y with
          | false => rfl
          | true =>
            have := befK_iff.1 hb h hlt
            omega
        clear hc hok hxh hyh
        refine wp_region_ext (by kernel_rfl) (by kernel_rfl) ?_
        repeat (go_big_quiet_step (fail))
        refine wpQuiet_nil ?_
        intro _ hw'
        obtain ⟨xr, hw''⟩ := hw'
        subst hw''
        have hbz := hbr.trans (xr.h.mono hbr.size)
        go_wp2
        go_ret
        exact ⟨by rw [HF.out]; rfl, hB.trans (hbz.mono hB.size)⟩
    · obtain rfl : h = ls.length := by omega
      have d1 : decide (ls.length < ls.length) = false := by simp
      have HT : Hid (befL ls x y = true) := befK_iff.2 hok.out
      go_wp2
      go_ret
      exact ⟨by rw [HT.out]; rfl, hB.trans (hbr.mono hB.size)⟩

/-! ### told -/
theorem slT_wm : SlT 31 40 1 24 (.slice none 0 0) := ⟨Try.underlying31, by kernel_rfl, rfl, by omega⟩
theorem one_sl {A : Option Addr} {n c : Nat} : ∀ u ∈ (#[Value.slice A n c] : Array Value).toList, u.oneCell' = true := by simp [Value.oneCell']
/-- a row of numbers of the call's own -/
structure RowI (W : World) (b : Nat) (t : TypeId) (l : List Int) : Prop where
  blk : ∃ cs : Array Value, Blk W b t cs ∧ ∀ (i : Nat) (x : Int), l[i]? = some x → cs[i]? = some (Value.int .i64 x)
theorem RowI.lt {W : World} {b : Nat} {t : TypeId} {l : List Int} (h : RowI W b t l) : b < W.heap.size := by obtain ⟨⟨cs, h1, -⟩⟩ := h; exact h1.lt
theorem RowI.heap {W W' : World} {b : Nat} {t : TypeId} {l : List Int} (h : RowI W b t l) (hk : W'.heap[b]? = W.heap[b]?) : RowI W' b t l := by
  obtain ⟨⟨cs, h1, h2⟩⟩ := h
  exact ⟨⟨cs, hk.trans h1, h2⟩⟩
theorem RowI.arr {W : World} {b n cap : Nat} {t : TypeId} {l : List Int} (h : RowI W b t l) (hn : n = l.length) (h1 : l.length ≤ cap) (h2 : cap ≤ 9223372036854775807) : Arr W W.heap.size 1 (.slice (some ⟨b, 0, none⟩) n cap) l icell := by
  subst hn
  have g2 := h.lt
  obtain ⟨⟨cs, h3, h4⟩⟩ := h
  refine ⟨_, _, rfl, h1, h2, fun _ => ⟨b, 0, rfl, g2, fun i x hx j hj => ?_⟩⟩
  obtain rfl : j = 0 := by omega
  rw [h3.cell, Nat.zero_add, Nat.mul_one, Nat.add_zero]
  exact h4 i x hx
/-- a list of rows that is being built: the slice owns its row, each element has one of its own -/
structure Built (w0 W : World) (te : TypeId) (v : Value) (xs : List VL) : Prop where
  own : W.ownsRow w0.heap.size te 1 v xs.length (xs.map (·.1))
  el : ∀ x ∈ xs, ∃ bb cap t, x.1 = .slice (some ⟨bb, 0, none⟩) x.2.length cap ∧ x.2.length ≤ cap ∧ cap ≤ 9223372036854775807 ∧ RowI W bb t x.2 ∧ v.ownBlock ≠ some bb
  bl : Below w0.heap.size w0 W
theorem flat_vl (xs : List VL) : xs.flatMap (cellsOf 1 vlcell) = xs.map (·.1) := by
  induction xs with
  | nil => rfl
  | cons x r ih => rw [List.flatMap_cons, ih]; rfl
theorem Built.nil_ (w0 : World) (te : TypeId) : Built w0 w0 te (.slice none 0 0) [] := ⟨by simpa using World.ownsRow_nil _ _ _ _, (fun x hx => by cases hx), Below.refl _ _⟩
section
variable {w0 W W' : World} {te : TypeId} {v : Value} {xs : List VL}
theorem Built.call (h : Built w0 W te v xs) (hb : Below W.heap.size W W') : Built w0 W' te v xs := by
  refine ⟨own_call h.own hb, fun x hx => ?_, h.bl.trans (hb.mono h.bl.size)⟩
  obtain ⟨bb, cap, t, g1, g2, g3, g4, g5⟩ := h.el x hx
  exact ⟨bb, cap, t, g1, g2, g3, g4.heap (hb.block bb g4.lt), g5⟩
theorem Built.ll (h : Built w0 W te v xs) : LLi W v (xs.map (·.2)) := by
  refine ⟨xs, rfl, ?_, fun x hx => ?_⟩
  · refine Arr.of_own (base := w0.heap.size) (e := te) ?_
    rw [flat_vl]
    exact h.own
  · obtain ⟨bb, cap, t, g1, g2, g3, g4, g5⟩ := h.el x hx
    rw [g1]
    exact g4.arr rfl g2 g3
theorem Built.form (h : Built w0 W te v xs) : ∃ A cap, v = .slice A xs.length cap ∧ xs.length ≤ cap ∧ cap ≤ 9223372036854775807 := by
  obtain ⟨A, cap, rfl⟩ := own_form h.own
  have := own_cap h.own
  exact ⟨A, cap, rfl, by omega, by omega⟩
/-- one element more -/
theorem Built.app {Wp w4 : World} {v' : Value} (h : Built w0 Wp te v xs) {bb cap : Nat} {t : TypeId} {l : List Int} (hr : RowI Wp bb t l) (h1 : l.length ≤ cap) (h2 : cap ≤ 9223372036854775807) (hne : v.ownBlock ≠ some bb)
    (hown4 : w4.ownsRow w0.heap.size te 1 v' (xs.length + 1) (xs.map (·.1) ++ [.slice (some ⟨bb, 0, none⟩) l.length cap])) (hg4 : Wp.grownBy w4 v.ownBlock) (hat : ∀ b, v'.ownBlock = some b → v.ownBlock = some b ∨ Wp.heap.size ≤ b) : Built w0 w4 te v' (xs ++ [(.slice (some ⟨bb, 0, none⟩) l.length cap, l)]) := by
  have hkeep : ∀ b' t' l', RowI Wp b' t' l' → v.ownBlock ≠ some b' → RowI w4 b' t' l' ∧ v'.ownBlock ≠ some b' := by
    intro b' t' l' hr' hn'
    refine ⟨hr'.heap (hg4.block b' hr'.lt fun e => hn' e.symm), fun e => ?_⟩
    rcases hat b' e with q | q
    · exact hn' q
    · have := hr'.lt; omega
  refine ⟨by simpa using hown4, fun x hx => ?_, h.bl.grown hg4 h.bl.size fun k hk => (h.own.lt k hk).1⟩
  rcases List.mem_append.1 hx with hx | hx
  · obtain ⟨b', c', t', q1, q2, q3, q4, q5⟩ := h.el x hx
    obtain ⟨q6, q7⟩ := hkeep b' t' _ q4 q5
    exact ⟨b', c', t', q1, q2, q3, q6, q7⟩
  · rw [List.mem_singleton] at hx
    subst hx
    obtain ⟨q6, q7⟩ := hkeep bb t l hr hne
    exact ⟨bb, cap, t, rfl, h1, h2, q6, q7⟩
end
/-- copy into a row that is filled whole, from a longer slice -/
theorem run_copy_min (w : World) (dT sT ty elem : TypeId) (g n dCap sLen sCap : Nat) (ad : Addr) (cur : Array Value) (t : TypeId) (cs : List Value)
    (hu : Try.prog.underlying dT = some (.slice elem)) (hs : (Try.prog.info? elem).map (·.size) = some 1)
    (hg : w.heap[g]? = some (.cells cur t (0, 0))) (hl : cs.length = n) (hcur : cur.size = n) (hn : n ≤ sLen)
    (hsrc : ∀ j v, cs[j]? = some v → w.cell? (ad.add j) = some v) (h1 : ∀ v ∈ cs, v.oneCell' = true) :
    (Builtin.copy_ #[dT, sT] ty #[.slice (some ⟨g, 0, none⟩) n dCap, .slice (some ad) sLen sCap]).run Try.prog w = .ok (goInt n) (w.setRow g cs.toArray) := by
  cases hq : Try.prog.info? elem with
  | none => simp [hq] at hs
  | some i =>
    have hi : i.size = 1 := by simpa [hq] using hs
    have hld := run_loadCells_list (P := Try.prog) w ad cs hsrc
    have hst := run_storeCells_at Try.prog g 0 t cs 0 cur w hg (by simp; omega) h1
    have e : (List.take (0 + 0) cur.toList ++ cs ++ List.drop (0 + 0 + cs.length) cur.toList).toArray = cs.toArray := by
      rw [List.drop_of_length_le (by simp; omega)]; simp
    rw [e] at hst
    have hmin : Nat.min sLen n = n := Nat.min_eq_right hn
    rw [hl] at hld
    simp [Builtin.copy_, run_underlying hu, Builtin.lenOf, Builtin.firstCells, sizeOf, typeInfo, hq, hi, hmin, hld, hst]
theorem below_set {B g : Nat} {w0 w : World} (hb : Below B w0 w) (hBg : B ≤ g) (cs : Array Value) : Below B w0 (w.setRow g cs) :=
  hb.trans ⟨rfl, rfl, rfl, by simp [World.setRow], fun k hk => setRow_other w g k cs (by omega)⟩
theorem getD_iL2 (m : List Nat) (h : Nat) : (iL m).getD h 0 = (at0 m h : Int) := by
  unfold at0 iL
  simp only [List.getD_eq_getElem?_getD, List.getElem?_map]
  cases m[h]? <;> rfl
/-- the numbers of a place, as many as there are hearers -/
theorem iL_pl {m : List Nat} {k : Nat} (hm : m.length = k) : (List.range k).map (fun j => (at0 m j : Int)) = iL m := by
  subst hm
  apply List.ext_getElem
  · simp [iL]
  · intro i h1 h2
    have h3 : i < m.length := by simpa using h1
    simp [iL, at0, List.getD_eq_getElem?_getD, List.getElem?_eq_getElem h3]

set_option maxRecDepth 100000 in
set_option maxHeartbeats 1600000 in
theorem told_ok (B gs d : Nat) (b : List (Int × Int)) (ls : List (List Int)) (la : Option Addr) (lc : Nat) (av mv : Value) (ms : List (List Nat)) (w : World) (hs : Song w B gs d b ls la lc av) (hm : Arr w w.heap.size 4 mv ms plcell) (hl : ∀ m ∈ ms, m.length = ls.length) (hms : ms.length ≤ 4096) :
    Calls Try.prog 53 #[.pointer (some ⟨gs, 0, none⟩), mv] w fun r w' => ∃ A cap, r = .returned (.slice A ms.length cap) ∧ LLi w' (.slice A ms.length cap) (iLL ms) ∧ Below w.heap.size w w' := by
  have h2 := hs.good.two
  have h4 := hs.good.four
  have HL := Lib.hid hl
  have HMS := Lib.hid hms
  obtain ⟨mA, mc, rfl, hm1, hm2, -⟩ := id hm
  have hmk := run_mk (t := 40) (e := 3) (size := 1) (bytes := 8) (z := .int .i64 0) ⟨Try.underlying40, by kernel_rfl, rfl, by omega⟩ ls.length (by omega) (by omega)
  clear hl hms
  go_enter Try.func53, Try.ntmps53
  go_wp2
  go_loopw [5, 11] (fun o i wr => ∃ (k : Nat) (xs : List VL), k ≤ ms.length ∧ i = .int .i64 k ∧ xs.map (·.2) = iLL (ms.take k) ∧ Built w wr 40 o xs) (fun _ i _ => ms.length - (intOf i).toNat)
  case atStart => exact ⟨0, [], Nat.zero_le _, rfl, rfl, Built.nil_ _ _⟩
  case round =>
    obtain ⟨k, xs, hk, rfl, hxs, hbt⟩ := hrel
    have HXS := Lib.hid hxs
    have HXL : Hid (xs.length = (ms.take k).length) := by
      have := congrArg List.length hxs
      rw [Hid]
      simpa [iLL] using this
    clear hxs
    by_cases hlt : k < ms.length
    · have d1 : decide (k < ms.length) = true := decide_eq_true hlt
      have d1' : decide ((k : Int) < (ms.length : Int)) = true := decide_eq_true (by omega)
      have hki : (k : Int) < (ms.length : Int) := by omega
      have ek : IntKind.i64.wrap ((k : Int) + 1) = ((k + 1 : Nat) : Int) := by have := HMS.out; rw [IntKind.wrap_i64]; omega
      have hSr := hs.call hbt.bl
      obtain ⟨xb, xo, m, hA, hxb, hx1, hx2⟩ := hm.at_ hlt
      subst hA
      have hml := HL.out m (List.mem_of_getElem? hx1)
      have c0 := (hbt.bl.cell (p := ⟨xb, xo + k * 4 + 0, none⟩) hxb).trans (hx2 0 (by omega))
      have c1 := (hbt.bl.cell (p := ⟨xb, xo + k * 4 + 1, none⟩) hxb).trans (hx2 1 (by omega))
      have c2 := (hbt.bl.cell (p := ⟨xb, xo + k * 4 + 2, none⟩) hxb).trans (hx2 2 (by omega))
      have c3 := (hbt.bl.cell (p := ⟨xb, xo + k * 4 + 3, none⟩) hxb).trans (hx2 3 (by omega))
      simp only [Nat.add_zero, plcell] at c0 c1 c2 c3
      have HT : Hid (iLL (ms.take (k + 1)) = iLL (ms.take k) ++ [iL m]) := by rw [Hid, take_snoc hx1]; unfold iLL; rw [List.map_append]; rfl
      clear hx1 hx2
      go_upto_region 5 with (fail)
      have hP := Blk.new wr 88 (plC m)
      have hbA := (Below.refl wr.heap.size wr).alloc (Nat.le_refl _) (.cells (plC m) 88)
      have e : wr.alloc (.cells #[.int .i64 (at0 m 0 : Int), .int .i64 (at0 m 1 : Int), .int .i64 (at0 m 2 : Int), .int .i64 (at0 m 3 : Int)] 88) = wr.alloc (.cells (plC m) 88) := rfl
      rw [e]
      replace hSr := hSr.call hbA
      replace hbt := hbt.call hbA
      clear e c0 c1 c2 c3 hbA
      generalize wr.alloc (.cells (plC m) 88) = w1 at *
      generalize wr.heap.size = pg at *
      obtain ⟨q0, q1, q2⟩ := hSr.c3
      go_upto_region 6 with (fail)
      have hM := Blk.new w1 3 (madeCells #[Value.int .i64 0] ls.length)
      have hbA := (Below.refl w1.heap.size w1).alloc (Nat.le_refl _) (.cells (madeCells #[Value.int .i64 0] ls.length) 3)
      have hMs : Hid ((madeCells #[Value.int .i64 0] ls.length).size = ls.length) := by simp [Hid, madeCells]
      have hP2 := hP.call hbA
      have hne : Hid (∀ bb, u5.ownBlock = some bb → bb < w1.heap.size) := fun bb e => (hbt.own.lt bb e).2
      clear q0 q1 q2 hSr hmk hP
      generalize madeCells #[Value.int .i64 0] ls.length = mcs at *
      generalize w1.alloc (.cells mcs 3) = w2 at *
      have hcp : ∀ ty, (Builtin.copy_ #[40, 38] ty #[.slice (some ⟨w1.heap.size, 0, none⟩) ls.length ls.length, .slice (some ⟨pg, 0, none⟩) 4 4]).run Try.prog w2 = .ok (goInt ls.length) (w2.setRow w1.heap.size ((iL m).map (Value.int .i64)).toArray) := fun ty => by
        refine run_copy_min w2 _ _ ty 3 w1.heap.size ls.length _ 4 4 ⟨pg, 0, none⟩ mcs 3 _ Try.underlying40 (by kernel_rfl) hM (by rw [List.length_map, iL_len, hml]) hMs.out (by omega) (fun j v hj => ?_) (fun v hv => ?_)
        · rw [List.getElem?_map, Option.map_eq_some_iff] at hj
          obtain ⟨x, hx, rfl⟩ := hj
          have hjl := (List.getElem?_eq_some_iff.1 hx).1
          rw [iL_len, hml] at hjl
          have ha : (⟨pg, 0, none⟩ : Addr).add j = ⟨pg, j, none⟩ := by unfold Addr.add; split <;> simp_all
          rw [ha, hP2.cell, plC_at m (by omega)]
          congr 2
          have := getD_iL2 m j
          rw [List.getD_eq_getElem?_getD, hx] at this
          exact this.symm
        · obtain ⟨x, -, rfl⟩ := List.mem_map.1 hv
          rfl
      have hb3 := below_set hbA (Nat.le_refl _) ((iL m).map (Value.int .i64)).toArray
      have hM3 : Blk (w2.setRow w1.heap.size ((iL m).map (Value.int .i64)).toArray) w1.heap.size 3 ((iL m).map (Value.int .i64)).toArray := setRow_heap w2 w1.heap.size mcs _ 3 (0, 0) hM
      have hR3 : RowI (w2.setRow w1.heap.size ((iL m).map (Value.int .i64)).toArray) w1.heap.size 3 (iL m) := ⟨⟨_, hM3, fun i x hx => by
        rw [List.getElem?_toArray, List.getElem?_map, hx]
        rfl⟩⟩
      have hbt3 := hbt.call hb3
      have hlm : (iL m).length = ls.length := by rw [iL_len, hml]
      have HLM := Lib.hid hlm
      clear hM hbA hMs hP2 hM3 hlm hml hbt
      go_upto_region 7 with (fail)
      clear hcp
      have hneq : u5.ownBlock ≠ some w1.heap.size := fun e => by have := hne.out _ e; omega
      generalize w2.setRow w1.heap.size ((iL m).map (Value.int .i64)).toArray = w3 at *
      have hbA := (Below.refl w3.heap.size w3)
      have hxl := HXL.out
      rw [List.length_take] at hxl
      have hxl2 : xs.length ≤ 4096 := by have := HMS.out; omega
      have hown := hbt3.own
      have hsz := hbt3.bl.size
      clear hxl
      go_wp2_with (at_builtin; refine wpList_app2 slT_wm rfl (.tmp 24) (.tmp 26) rfl (sv := u5) rfl hown rfl rfl one_sl hsz ?_ ?_ ?_)
      any_goals omega
      intro v4 w4 hown4 hg4 hat4
      have hnew := hbt3.app (l := iL m) (cap := ls.length) hR3 (by rw [HLM.out]; exact Nat.le_refl _) (by omega) hneq (by rw [HLM.out]; simpa using hown4) hg4 hat4
      have HXN : Hid ((xs ++ [((.slice (some ⟨w1.heap.size, 0, none⟩) (iL m).length ls.length, iL m) : VL)]).map (·.2) = iLL (ms.take (k + 1))) := by rw [Hid, List.map_append, HXS.out, HT.out]; rfl
      clear hown4 hg4 hat4 hbt3 hown hR3 hneq hsz hxl2 hbA
      go_wp2
      go_roundw
      case rel => exact ⟨k + 1, _, by omega, by go_num, HXN.out, hnew⟩
      case measure => (simp [intOf]; try omega)
    · obtain rfl : k = ms.length := by omega
      have d1 : decide (ms.length < ms.length) = false := by simp
      have hll := hbt.ll
      rw [HXS.out, List.take_length] at hll
      obtain ⟨A, cap, rfl, -, -⟩ := hbt.form
      have hxl : xs.length = ms.length := by rw [HXL.out, List.take_length]
      rw [hxl] at hll ⊢
      have hbl := hbt.bl
      clear hbt
      go_wp2
      go_ret
      exact ⟨A, cap, rfl, hll, hbl⟩
end Go.Proofs.Ytgngpdnppdbgoaa
