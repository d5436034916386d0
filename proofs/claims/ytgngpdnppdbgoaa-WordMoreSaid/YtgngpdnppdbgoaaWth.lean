/- Contracts: greatest, within. -/
import Derived.Test.YtgngpdnppdbgoaaNew
import Derived.Test.YtgngpdnppdbgoaaMapG
namespace Go.Proofs.Ytgngpdnppdbgoaa
open Go.RowKit Go.Shelf
set_option linter.unusedVariables false

/-! ### places are told apart by their four numbers -/
theorem part_int (xs : Array Value) (i : Nat) (x : Int) (h : xs[i]? = some (.int .i64 x)) (w : World) : (Go.part 3 xs (i * 1)).run Try.prog w = .ok (.int .i64 x) w := by
  have hu : Try.prog.underlying 3 = some (.int .i64) := Try.underlying3
  have hi : (Try.prog.info? 3).map (·.size) = some 1 := by kernel_rfl
  cases hq : Try.prog.info? 3 with
  | none => simp [hq] at hi
  | some ii =>
    have hs : ii.size = 1 := by simpa [hq] using hi
    unfold Go.part
    simp only [Sem.run_bind, sizeOf, typeInfo, run_program, Result.andThen_ok, hq, Nat.mul_one, Sem.run_pure]
    simp [isAgg, run_underlying hu, hs, h]
theorem row_loop (xs ys : Array Value) (f g : Nat → Int) (hx : ∀ i, i < 4 → xs[i]? = some (.int .i64 (f i))) (hy : ∀ i, i < 4 → ys[i]? = some (.int .i64 (g i))) (w : World) : ∀ l : List Nat, (∀ i ∈ l, i < 4) →
    (forIn l (none, ()) fun i (__s : Option Bool × Unit) => do
              let __do_lift ← Go.part 3 xs (i * 1)
              let __do_lift_1 ← Go.part 3 ys (i * 1)
              let __do_lift ← Op.equalIn 9999 3 __do_lift __do_lift_1
              if (!__do_lift) = true then pure (ForInStep.done (some false, ())) else pure (ForInStep.yield (none, ())) : Sem (Option Bool × Unit)).run Try.prog w = .ok (if l.all (fun i => f i == g i) = true then (none, ()) else (some false, ())) w
  | [], _ => by simp
  | i :: r, h => by
    have hi := h i List.mem_cons_self
    have he : (Op.equalIn 9999 3 (.int .i64 (f i)) (.int .i64 (g i))).run Try.prog w = .ok (f i == g i) w := by simp [go_sem]
    rw [List.forIn_cons]
    simp only [Sem.run_bind, part_int xs i _ (hx i hi), part_int ys i _ (hy i hi), he, Result.andThen_ok]
    cases hq : (f i == g i)
    · simp [hq]
    · simp only [Bool.not_true, Bool.false_eq_true, if_false, Sem.run_pure, Result.andThen_ok, List.all_cons, hq, Bool.true_and]
      exact row_loop xs ys f g hx hy w r fun j hj => h j (List.mem_cons_of_mem _ hj)
theorem eq_row (xs ys : Array Value) (f g : Nat → Int) (hx : ∀ i, i < 4 → xs[i]? = some (.int .i64 (f i))) (hy : ∀ i, i < 4 → ys[i]? = some (.int .i64 (g i))) (w : World) : (Op.equalIn 10000 88 (.agg xs) (.agg ys)).run Try.prog w = .ok ((List.range 4).all fun i => f i == g i) w := by
  show (Op.equalIn (9999+1) 88 _ _).run _ _ = _
  unfold Op.equalIn
  have hu := Try.underlying88
  have hi : (Try.prog.info? 3).map (·.size) = some 1 := by kernel_rfl
  cases hq : Try.prog.info? 3 with
  | none => simp [hq] at hi
  | some ii =>
    have hs : ii.size = 1 := by simpa [hq] using hi
    have hsz : (sizeOf 3).run Try.prog w = .ok 1 w := by simp [sizeOf, typeInfo, hq, hs]
    simp only [Sem.run_bind, run_underlying hu, Result.andThen_ok, hsz, Std.Legacy.Range.forIn_eq_forIn_range']
    have hl := row_loop xs ys f g hx hy w (List.range' 0 4) (by simp)
    have h16 : (List.range 4) = List.range' 0 4 := by decide
    rw [h16]
    simp only [Std.Legacy.Range.size, Nat.sub_zero, Nat.add_sub_cancel, Nat.div_one]
    rw [hl]
    cases (List.range' 0 4).all fun i => f i == g i <;> simp
abbrev Q4 := Int × Int × Int × Int
def q4 (m : List Nat) : Q4 := (at0 m 0, at0 m 1, at0 m 2, at0 m 3)
abbrev q4V (q : Q4) : Value := .agg #[.int .i64 q.1, .int .i64 q.2.1, .int .i64 q.2.2.1, .int .i64 q.2.2.2]
def q4f (q : Q4) : Nat → Int
  | 0 => q.1
  | 1 => q.2.1
  | 2 => q.2.2.1
  | _ => q.2.2.2
theorem q4_eq (p q : Q4) (w : World) : (Op.equalIn 10000 88 (q4V p) (q4V q)).run Try.prog w = .ok (decide (p = q)) w := by
  have h := eq_row #[.int .i64 p.1, .int .i64 p.2.1, .int .i64 p.2.2.1, .int .i64 p.2.2.2] #[.int .i64 q.1, .int .i64 q.2.1, .int .i64 q.2.2.1, .int .i64 q.2.2.2] (q4f p) (q4f q)
    (fun i hi => by rcases i with _ | _ | _ | _ | i <;> first | rfl | omega) (fun i hi => by rcases i with _ | _ | _ | _ | i <;> first | rfl | omega) w
  have hb : ((List.range 4).all fun i => q4f p i == q4f q i) = decide (p = q) := by
    obtain ⟨a, b, c, d⟩ := p
    obtain ⟨a', b', c', d'⟩ := q
    rw [Bool.eq_iff_iff]
    simp [q4f, List.range_succ, and_assoc]
  rw [hb] at h
  exact h
theorem keyPl : KeyG 88 q4V where
  find := fun a w es l h => key_ask Try.underlying88 (fun a v => rfl) (fun a b w => q4_eq a b w) a w es l h
  ck := fun e a w => by kernel_rfl
  stays := fun a w => by simp [Instr.keyThatStays, Instr.sameBits]
theorem q4_inj {ds x y : List Nat} (hx : x.length = ds.length) (hy : y.length = ds.length) (h4 : ds.length ≤ 4) (h : q4 x = q4 y) : x = y := by
  simp only [q4, Prod.mk.injEq] at h
  obtain ⟨h0, h1, h2, h3⟩ := h
  apply List.ext_getElem (by omega)
  intro i hi1 hi2
  have e1 : at0 x i = x[i] := by unfold at0; rw [List.getD_eq_getElem?_getD, List.getElem?_eq_getElem hi1]; rfl
  have e2 : at0 y i = y[i] := by unfold at0; rw [List.getD_eq_getElem?_getD, List.getElem?_eq_getElem hi2]; rfl
  rw [← e1, ← e2]
  have key : ∀ i, i < 4 → at0 x i = at0 y i := fun i hi => by
    rcases i with _ | _ | _ | _ | i
    · omega
    · show at0 x 1 = at0 y 1; omega
    · show at0 x 2 = at0 y 2; omega
    · show at0 x 3 = at0 y 3; omega
    · omega
  exact key i (by omega)

theorem greatI_ok (x y : Int) (w : World) : Calls Try.prog 84 #[.int .i64 x, .int .i64 y] w fun r w' => r = .returned (.int .i64 (max x y)) ∧ Below w.heap.size w w' := by
  go_enter Try.func84, Try.ntmps84
  by_cases h : y < x
  · have d : decide (y < x) = true := by simpa using h
    have HE : Hid (max x y = x) := by rw [Hid]; omega
    go_wp2
    go_ret
    exact ⟨by rw [HE.out]; rfl, Below.refl _ _⟩
  · have d : decide (y < x) = false := by simpa using h
    have HE : Hid (max x y = y) := by rw [Hid]; omega
    go_wp2
    go_ret
    exact ⟨by rw [HE.out]; rfl, Below.refl _ _⟩

/-! ### the memo -/
def MemoOk (b : List (Int × Int)) (ls : List (List Int)) (M : Q4 → Option Value) : Prop := ∀ q v, M q = some v → ∃ up, InDs (dsOf ls) up ∧ q4 up = q ∧ v = .int .i64 (wthN (mtB b ls) up : Int)
def MemoW (b : List (Int × Int)) (ls : List (List Int)) (gm : Nat) (W : World) : Prop := ∃ M, MapG q4V W gm M ∧ MemoOk b ls M
section
variable {b : List (Int × Int)} {ls : List (List Int)} {gm : Nat} {W W' : World}
theorem MemoW.lt (h : MemoW b ls gm W) : gm < W.heap.size := by obtain ⟨M, h1, -⟩ := h; exact h1.lt
theorem MemoW.grown {row : Option Nat} (h : MemoW b ls gm W) (hg : W.grownBy W' row) (hr : row ≠ some gm) : MemoW b ls gm W' := by
  obtain ⟨M, h1, h2⟩ := h
  exact ⟨M, h1.grown hg fun e => hr e.symm, h2⟩
theorem MemoW.call (h : MemoW b ls gm W) (hb : Below W.heap.size W W') : MemoW b ls gm W' := h.grown (grown_call hb none) (by simp)
theorem MemoW.new (b : List (Int × Int)) (ls : List (List Int)) (w : World) : MemoW b ls w.heap.size (w.alloc (.map #[] 0)) := ⟨_, MapG.new w, fun q v h => by cases h⟩
theorem MemoOk.put {M : Q4 → Option Value} (h : MemoOk b ls M) {up : List Nat} (hu : InDs (dsOf ls) up) : MemoOk b ls fun q => if q = q4 up then some (.int .i64 (wthN (mtB b ls) up : Int)) else M q := by
  intro q v hv
  simp only at hv
  split at hv
  · rename_i e
    injection hv with hv
    exact ⟨up, hu, e.symm, hv.symm⟩
  · exact h q v hv
end
theorem wthN_le {mt : List Nat → Bool} {ds up : List Nat} (hu : InDs ds up) (h0 : 0 < ds.length) (h8 : ∀ d ∈ ds, d ≤ 8) : wthN mt up ≤ 8 := by
  have h1 := wth_le (mt := mt) up.sum up 0 (by rw [hu.1]; exact h0)
  have h2 := hu.2 0 h0
  have h3 : at0 ds 0 ≤ 8 := h8 _ (by unfold at0; rw [List.getD_eq_getElem?_getD, List.getElem?_eq_getElem h0]; exact List.getElem_mem h0)
  unfold wthN
  omega
/-- what within holds of the world -/
structure WthI (w : World) (B gs d gm : Nat) (b : List (Int × Int)) (ls : List (List Int)) (la : Option Addr) (lc : Nat) (av : Value) (up : List Nat) (W : World) : Prop where
  song : Song W B gs d b ls la lc av
  memo : MemoW b ls gm W
  x4 : Blk W w.heap.size 88 (plC up)
  gr : w.grownBy W (some gm)
  lo : B ≤ gm ∧ gm ≠ gs ∧ gm ≠ d ∧ gm < w.heap.size ∧ gs < w.heap.size ∧ d < w.heap.size ∧ B ≤ w.heap.size
section
variable {w W W' : World} {B gs d gm : Nat} {b : List (Int × Int)} {ls : List (List Int)} {la : Option Addr} {lc : Nat} {av : Value} {up : List Nat}
theorem WthI.step {row : Option Nat} (h : WthI w B gs d gm b ls la lc av up W) (hg : W.grownBy W' row) (hr : ∀ r, row = some r → r = gm ∨ w.heap.size < r) (hm : MemoW b ls gm W') : WthI w B gs d gm b ls la lc av up W' := by
  have h1 := h.lo
  refine ⟨h.song.grown hg fun r e => ?_, hm, h.x4.grown hg fun e => ?_, ?_, h1⟩
  · rcases hr r e with q | q <;> (refine ⟨?_, ?_, ?_⟩ <;> omega)
  · rcases hr _ e.symm with q | q <;> omega
  · exact ⟨hg.os.trans h.gr.os, hg.tape.trans h.gr.tape, hg.output.trans h.gr.output, Nat.le_trans h.gr.size hg.size, fun k hk hne => (hg.block k (Nat.lt_of_lt_of_le hk h.gr.size) (fun e => by
      rcases hr k e.symm with q | q
      · exact hne (by rw [q])
      · omega)).trans (h.gr.block k hk hne)⟩
theorem WthI.call (h : WthI w B gs d gm b ls la lc av up W) (hb : Below W.heap.size W W') : WthI w B gs d gm b ls la lc av up W' := h.step (grown_call hb none) (fun r e => by cases e) (h.memo.call hb)
theorem WthI.put (h : WthI w B gs d gm b ls la lc av up W) {k o : Nat} (hk : w.heap.size < k) (v : Value) : WthI w B gs d gm b ls la lc av up (W.setCell ⟨k, o, none⟩ v) :=
  h.step (row := some k) (grown_setCell v) (fun r e => by injection e; omega) (h.memo.grown (row := some k) (grown_setCell v) (fun e => by injection e; have := h.lo; omega))
end
theorem plC_congr {x y : List Nat} (h : ∀ i, i < 4 → at0 x i = at0 y i) : plC x = plC y := by
  unfold plC
  rw [h 0 (by omega), h 1 (by omega), h 2 (by omega), h 3 (by omega)]
theorem at0_ge {x : List Nat} {i : Nat} (h : x.length ≤ i) : at0 x i = 0 := by
  unfold at0
  rw [List.getD_eq_getElem?_getD, List.getElem?_eq_none h]
  rfl

attribute [local go_sem] Oper.semAt_some
set_option maxRecDepth 100000 in
set_option maxHeartbeats 1600000 in
theorem within_ok (B gs d gm : Nat) (b : List (Int × Int)) (ls : List (List Int)) (la : Option Addr) (lc : Nat) (av : Value) : ∀ (s : Nat) (up : List Nat) (w : World), up.sum = s → InDs (dsOf ls) up → Song w B gs d b ls la lc av → MemoW b ls gm w → B ≤ gm ∧ gm ≠ gs ∧ gm ≠ d →
    Calls Try.prog 81 #[.pointer (some ⟨gs, 0, none⟩), plV up, .map (some gm)] w fun r w' => r = .returned (.int .i64 (wthN (mtB b ls) up : Int)) ∧ MemoW b ls gm w' ∧ w.grownBy w' (some gm) := by
  intro s
  induction s using Nat.strongRecOn with
  | _ s ih =>
    intro up w hsum hup hs hm hlo
    have h2 := hs.good.two
    have h4 := hs.good.four
    have IH := Lib.hid ih
    have HSUM := Lib.hid hsum
    have HUP := Lib.hid hup
    have hw8 : wthN (mtB b ls) up ≤ 8 := wthN_le hup (by rw [dsOf_len]; omega) hs.good.ds8
    have hul : up.length = ls.length := by rw [hup.1, dsOf_len]
    have HU4 : Hid (∀ i, ls.length ≤ i → at0 up i = 0) := fun i hi => at0_ge (by omega)
    clear ih hsum hup
    have hlt := hs.lt
    have hml := hm.lt
    go_enter Try.func81, Try.ntmps81
    go_upto_region 1 with (fail)
    have e : w.alloc (.cells #[.int .i64 (at0 up 0 : Int), .int .i64 (at0 up 1 : Int), .int .i64 (at0 up 2 : Int), .int .i64 (at0 up 3 : Int)] 88) = w.alloc (.cells (plC up) 88) := rfl
    rw [e]
    clear e
    have hi : WthI w B gs d gm b ls la lc av up (w.alloc (.cells (plC up) 88)) := by
      have hb := (Below.refl w.heap.size w).alloc (Nat.le_refl _) (.cells (plC up) 88)
      exact ⟨hs.call hb, hm.call hb, Blk.new _ _ _, World.grownBy_alloc _ _ _, hlo.1, hlo.2.1, hlo.2.2, hml, hlt.1, hlt.2.1, hlt.2.2⟩
    clear hs hm
    generalize w.alloc (.cells (plC up) 88) = W at *
    have p0 := hi.x4.cell 0
    have p1 := hi.x4.cell 1
    have p2 := hi.x4.cell 2
    have p3 := hi.x4.cell 3
    simp [plC] at p0 p1 p2 p3
    have hz : ∀ ws, (Op.equalIn 10000 88 (.agg #[.int .i64 (at0 up 0 : Int), .int .i64 (at0 up 1 : Int), .int .i64 (at0 up 2 : Int), .int .i64 (at0 up 3 : Int)]) (.agg #[.int .i64 0, .int .i64 0, .int .i64 0, .int .i64 0])).run Try.prog ws = .ok (decide (q4 up = (0, 0, 0, 0))) ws := fun ws => q4_eq (q4 up) (0, 0, 0, 0) ws
    by_cases hz0 : q4 up = (0, 0, 0, 0)
    · have d0 : decide (q4 up = (0, 0, 0, 0)) = true := decide_eq_true hz0
      have HE : Hid (wthN (mtB b ls) up = 0) := by
        refine wth_zero (anyZero_iff.2 ⟨0, by omega, ?_⟩)
        simp only [q4, Prod.mk.injEq] at hz0
        omega
      rw [d0] at hz
      clear d0 hz0
      go_wp2
      go_ret
      exact ⟨by rw [HE.out]; rfl, hi.memo, hi.gr⟩
    · have d0 : decide (q4 up = (0, 0, 0, 0)) = false := decide_eq_false hz0
      rw [d0] at hz
      clear d0 hz0
      obtain ⟨M, hM, hMo⟩ := hi.memo
      have hlk : (Instr.lookup 113 (.map (some gm)) (.agg #[.int .i64 (at0 up 0 : Int), .int .i64 (at0 up 1 : Int), .int .i64 (at0 up 2 : Int), .int .i64 (at0 up 3 : Int)]) true).run Try.prog W = .ok (match M (q4 up) with | some v => .tuple #[v, .bool true] | none => .tuple #[.int .i64 0, .bool false]) W :=
        hM.lookup keyPl Try.underlying113 (q4 up) (z := .int .i64 0) (by kernel_rfl)
      cases hMu : M (q4 up) with
      | some v =>
        obtain ⟨up', hu1, hu2, rfl⟩ := hMo _ _ hMu
        have hue := q4_inj hu1.1 HUP.out.1 (by rw [dsOf_len]; exact h4) hu2
        subst hue
        rw [hMu] at hlk
        simp only at hlk
        clear hMu hu1 hu2 hM hMo
        go_wp2
        go_ret
        exact ⟨by rfl, hi.memo, hi.gr⟩
      | none =>
        rw [hMu] at hlk
        simp only at hlk
        clear hMu hM hMo
        go_upto_region 8 with (fail)
        have e : W.alloc (.cells #[.int .i64 (at0 up 0 : Int), .int .i64 (at0 up 1 : Int), .int .i64 (at0 up 2 : Int), .int .i64 (at0 up 3 : Int)] 88) = W.alloc (.cells (plC up) 88) := rfl
        rw [e]
        clear e
        have hX := Blk.new W 88 (plC up)
        have hi1 := hi.call ((Below.refl W.heap.size W).alloc (Nat.le_refl _) (.cells (plC up) 88))
        have hWl := hi.x4.lt
        clear hi p0 p1 p2 p3 hlk hz
        generalize W.alloc (.cells (plC up) 88) = W1 at *
        generalize W.heap.size = xb at *
        obtain ⟨q0, q1, q2⟩ := hi1.song.c3
        go_wp2
        go_loopw [31] (fun i wr => ∃ (j : Nat) (x : List Nat), j ≤ ls.length ∧ i = .int .i64 j ∧ x.length = ls.length ∧ Hid (∀ i, i < 4 → at0 x i = if i < j then at0 up i - 1 else at0 up i) ∧ Hid (∀ i, i < j → at0 up i ≠ 0) ∧ WthI w B gs d gm b ls la lc av up wr ∧ Blk wr xb 88 (plC x)) (fun i _ => ls.length - (intOf i).toNat)
        case atStart => exact ⟨0, up, Nat.zero_le _, rfl, hul, fun i _ => by rw [if_neg (Nat.not_lt_zero _)], fun i hi => absurd hi (Nat.not_lt_zero _), hi1, hX⟩
        case round =>
          obtain ⟨j, x, hj, rfl, hxl, hx, hnz, hir, hXr⟩ := hrel
          clear q0 q1 q2
          by_cases hlt2 : j < ls.length
          · have d1 : decide (j < ls.length) = true := decide_eq_true hlt2
            have d1' : decide ((j : Int) < (ls.length : Int)) = true := decide_eq_true (by omega)
            have hji : (j : Int) < (ls.length : Int) := by omega
            have hji4 : (j : Int) < 4 := by omega
            have c0 : wr.cell? ⟨w.heap.size, j, none⟩ = some (.int .i64 (at0 up j : Int)) := by rw [hir.x4.cell]; exact plC_at up (by omega)
            have hxj : at0 x j = at0 up j := by rw [hx.out j (by omega), if_neg (Nat.lt_irrefl _)]
            have c1 : wr.cell? ⟨xb, j, none⟩ = some (.int .i64 (at0 up j : Int)) := by rw [hXr.cell, plC_at x (by omega), hxj]
            have z1 := hXr.frozen j
            by_cases hz1 : at0 up j = 0
            · have HE : Hid (wthN (mtB b ls) up = 0) := wth_zero (anyZero_iff.2 ⟨j, by omega, hz1⟩)
              rw [hz1] at c0
              have hdm := hir.memo
              have hdg := hir.gr
              clear hz1 c1 hxj
              go_wp2
              go_ret
              exact ⟨by rw [HE.out]; rfl, hdm, hdg⟩
            · obtain ⟨v, hv⟩ : ∃ v, v = at0 up j := ⟨_, rfl⟩
              rw [← hv] at c0 c1 hz1
              have hv8 : v ≤ 8 := by
                have h1 := HUP.out.2 j (by rw [dsOf_len]; exact hlt2)
                rw [at0_ds] at h1
                have h3 := hir.song.good.eight (ls.getD j []) (by rw [List.getD_eq_getElem?_getD, List.getElem?_eq_getElem hlt2]; exact List.getElem_mem hlt2)
                omega
              have HV := Lib.hid hv
              have d2 : ((v : Int) == 0) = false := beq_false_of_ne (by omega)
              have HNZ : Hid (∀ i, i < j + 1 → at0 up i ≠ 0) := fun i hi => by
                by_cases e : i = j
                · rw [e, ← hv]; exact hz1
                · exact hnz.out i (by omega)
              have HX : Hid (∀ i, i < 4 → at0 (lessAt x j) i = if i < j + 1 then at0 up i - 1 else at0 up i) := fun i hi => by
                rw [at0_lessAt x j i (by omega), hx.out i hi]
                by_cases e : i = j
                · have c1 : i < j + 1 := by omega
                  rw [if_pos e, if_pos c1, hxj, e]
                · by_cases e2 : i < j
                  · have c1 : i < j + 1 := by omega
                    rw [if_neg e, if_pos e2, if_pos c1]
                  · have c1 : ¬ i < j + 1 := by omega
                    rw [if_neg e, if_neg e2, if_neg c1]
              have hll : (lessAt x j).length = ls.length := by rw [lessAt, List.length_set]; exact hxl
              have hXn := hXr.set_ j (.int .i64 ((v - 1 : Nat) : Int))
              rw [plC_set (y := lessAt x j) (by omega) (fun i hi => by rw [at0_lessAt x j i (by omega), hxj, ← hv]), show ((v - 1 : Nat) : Int) = (v : Int) - 1 by omega] at hXn
              have hin := hir.put (k := xb) (o := j) hWl (.int .i64 ((v : Int) - 1))
              clear hv hz1 hxj hnz hXr hir hx
              go_wp2
              go_roundw
              case rel => exact ⟨j + 1, lessAt x j, by omega, by go_num, hll, HX, HNZ, hin, hXn⟩
              case measure => (simp [intOf]; try omega)
          · obtain rfl : j = ls.length := by omega
            have d1 : decide (ls.length < ls.length) = false := by simp
            have hlp : plC x = plC (lastP up) := plC_congr fun i hi => by
              rw [hx.out i hi, at0_lastP]
              by_cases h : i < ls.length
              · rw [if_pos h]
              · rw [if_neg h, HU4.out i (by omega)]
            have hz : anyZero up = false := by
              cases hc : anyZero up with
              | false => rfl
              | true =>
                obtain ⟨i, hi1, hi2⟩ := anyZero_iff.1 hc
                exact absurd hi2 (hnz.out i (by omega))
            have HZ := Lib.hid hz
            rw [hlp] at hXr
            obtain ⟨m, hm⟩ : ∃ m, m = lastP up := ⟨_, rfl⟩
            rw [← hm] at hXr
            have HM := Lib.hid hm
            have hmm := matched_ok B gs d b ls la lc av m wr hir.song (fun h hh => by
              rw [hm, at0_lastP]
              have h1 := HUP.out.2 h (by rw [dsOf_len]; exact hh)
              have h3 := hnz.out h hh
              rw [at0_ds] at h1
              omega)
            have hsl : m.sum < s := by
              have h1 := lastP_sum (by omega) hz
              rw [hm, ← HSUM.out]
              exact h1
            have hmu : InDs (dsOf ls) m := by rw [hm]; exact HUP.out.last
            clear hx hnz hlp hz hm
            have p0 := hXr.cell 0
            have p1 := hXr.cell 1
            have p2 := hXr.cell 2
            have p3 := hXr.cell 3
            simp [plC] at p0 p1 p2 p3
            cases hmt : mtB b ls m
            · have HN : Hid (wthN (mtB b ls) up = (List.range ls.length).foldl (fun n h => max n (wthN (mtB b ls) (lessAt up h))) 0) := by
                have := wth_else (mt := mtB b ls) (ds := dsOf ls) (by rw [dsOf_len]; omega) HUP.out HZ.out (by rw [← HM.out]; exact hmt)
                rw [dsOf_len] at this
                exact this
              rw [hmt] at hmm
              clear hmt hlt2 hj
              go_wp2_with fail
              refine hmm.mono ?_
              rintro e w3 ⟨rfl, hb3⟩
              have hi3 := hir.call hb3
              clear hmm hir hXr p0 p1 p2 p3 hb3 hsl hmu
              obtain ⟨q0, q1, q2⟩ := hi3.song.c3
              go_wp2
              go_loopw [9, 57] (fun n i wr => ∃ j : Nat, j ≤ ls.length ∧ i = .int .i64 j ∧ n = .int .i64 (((List.range j).foldl (fun n h => max n (wthN (mtB b ls) (lessAt up h))) 0 : Nat) : Int) ∧ WthI w B gs d gm b ls la lc av up wr) (fun _ i _ => ls.length - (intOf i).toNat)
              case atStart => exact ⟨0, Nat.zero_le _, rfl, rfl, hi3⟩
              case round =>
                obtain ⟨j, hj, rfl, rfl, hir⟩ := hrel
                clear q0 q1 q2
                by_cases hlt3 : j < ls.length
                · have d3 : decide (j < ls.length) = true := decide_eq_true hlt3
                  have d3' : decide ((j : Int) < (ls.length : Int)) = true := decide_eq_true (by omega)
                  have hji : (j : Int) < (ls.length : Int) := by omega
                  have hji4 : (j : Int) < 4 := by omega
                  have p0 := hir.x4.cell 0
                  have p1 := hir.x4.cell 1
                  have p2 := hir.x4.cell 2
                  have p3 := hir.x4.cell 3
                  simp [plC] at p0 p1 p2 p3
                  go_upto_region 21 with (fail)
                  have e : wr.alloc (.cells #[.int .i64 (at0 up 0 : Int), .int .i64 (at0 up 1 : Int), .int .i64 (at0 up 2 : Int), .int .i64 (at0 up 3 : Int)] 88) = wr.alloc (.cells (plC up) 88) := rfl
                  rw [e]
                  clear e
                  have hY := Blk.new wr 88 (plC up)
                  have hi5 := hir.call ((Below.refl wr.heap.size wr).alloc (Nat.le_refl _) (.cells (plC up) 88))
                  have hyl := hir.x4.lt
                  clear hir p0 p1 p2 p3
                  generalize wr.alloc (.cells (plC up) 88) = w5 at *
                  generalize wr.heap.size = yb at *
                  have hnzj : at0 up j ≠ 0 := fun e => by
                    have := anyZero_iff.2 ⟨j, by omega, e⟩
                    rw [HZ.out] at this
                    cases this
                  have hdl : (lessAt up j).sum < s := by
                    have := lessAt_sum (show j < up.length by omega) hnzj
                    rw [← HSUM.out]
                    exact this
                  have hdi : InDs (dsOf ls) (lessAt up j) := HUP.out.less (by rw [dsOf_len]; exact hlt3)
                  have hdw := wthN_le (mt := mtB b ls) hdi (by rw [dsOf_len]; omega) hi5.song.good.ds8
                  have c1 : w5.cell? ⟨yb, j, none⟩ = some (.int .i64 (at0 up j : Int)) := by rw [hY.cell]; exact plC_at up (by omega)
                  have z1 := hY.frozen j
                  obtain ⟨v, hv⟩ : ∃ v, v = at0 up j := ⟨_, rfl⟩
                  rw [← hv] at c1
                  have hv8 : v ≤ 8 := by
                    have h1 := HUP.out.2 j (by rw [dsOf_len]; exact hlt3)
                    rw [at0_ds] at h1
                    have h3 := hi5.song.good.eight (ls.getD j []) (by rw [List.getD_eq_getElem?_getD, List.getElem?_eq_getElem hlt3]; exact List.getElem_mem hlt3)
                    omega
                  have hYn := hY.set_ j (.int .i64 ((v - 1 : Nat) : Int))
                  rw [plC_set (y := lessAt up j) (by omega) (fun i hi => by rw [at0_lessAt up j i (by omega), ← hv]), show ((v - 1 : Nat) : Int) = (v : Int) - 1 by omega] at hYn
                  have hi6 := hi5.put (k := yb) (o := j) hyl (.int .i64 ((v : Int) - 1))
                  have hSN : (List.range (j + 1)).foldl (fun n h => max n (wthN (mtB b ls) (lessAt up h))) 0 = max ((List.range j).foldl (fun n h => max n (wthN (mtB b ls) (lessAt up h))) 0) (wthN (mtB b ls) (lessAt up j)) := by
                    rw [List.range_succ, List.foldl_append]
                    rfl
                  have HSN := Lib.hid hSN
                  clear hv hnzj hY hi5 hSN
                  go_upto_region 22 with (fail)
                  clear c1 z1
                  generalize w5.setCell ⟨yb, j, none⟩ (.int .i64 ((v : Int) - 1)) = w6 at *
                  have p0 := hYn.cell 0
                  have p1 := hYn.cell 1
                  have p2 := hYn.cell 2
                  have p3 := hYn.cell 3
                  simp [plC] at p0 p1 p2 p3
                  have hih := IH.out (lessAt up j).sum hdl (lessAt up j) w6 rfl hdi hi6.song hi6.memo hlo
                  generalize (List.range j).foldl (fun n h => max n (wthN (mtB b ls) (lessAt up h))) 0 = acc at *
                  obtain ⟨L, hL⟩ : ∃ L, L = wthN (mtB b ls) (lessAt up j) := ⟨_, rfl⟩
                  rw [← hL] at hih HSN
                  clear hdl hdi hdw hL hYn
                  go_wp2_with fail
                  refine hih.mono ?_
                  rintro e w7 ⟨rfl, hm7, hg7⟩
                  have hi7 := hi6.step hg7 (fun r e => .inl (by injection e with e; exact e.symm)) hm7
                  clear hih p0 p1 p2 p3 hi6 hg7 hm7
                  go_wp2_with fail
                  refine (greatI_ok (acc : Int) (L : Int) w7).mono ?_
                  rintro e w8 ⟨rfl, hb8⟩
                  have hi8 := hi7.call hb8
                  clear hi7 hb8
                  go_wp2
                  go_roundw
                  case rel => exact ⟨j + 1, by omega, by go_num, by rw [HSN.out]; simp; omega, hi8⟩
                  case measure => (simp [intOf]; try omega)
                · obtain rfl : j = ls.length := by omega
                  have d3 : decide (ls.length < ls.length) = false := by simp
                  rw [← HN.out]
                  obtain ⟨N, hN⟩ : ∃ N, N = wthN (mtB b ls) up := ⟨_, rfl⟩
                  rw [← hN]
                  replace HN : Hid (wthN (mtB b ls) up = N) := hN.symm
                  clear hN
                  obtain ⟨M3, hM3, hMo3⟩ := hir.memo
                  obtain ⟨es, cl, hmu3, hmo3⟩ := hM3.update keyPl Try.underlying113 (q4 up) (.int .i64 (N : Int))
                  replace hmu3 : (Instr.mapUpdate 113 (.map (some gm)) (.agg #[.int .i64 (at0 up 0 : Int), .int .i64 (at0 up 1 : Int), .int .i64 (at0 up 2 : Int), .int .i64 (at0 up 3 : Int)]) (.int .i64 (N : Int))).run Try.prog wr = .ok () (putMap wr gm es cl) := hmu3
                  have HMO := Lib.hid hMo3
                  have u0 := hir.x4.cell 0
                  have u1 := hir.x4.cell 1
                  have u2 := hir.x4.cell 2
                  have u3 := hir.x4.cell 3
                  simp [plC] at u0 u1 u2 u3
                  have hgf := hir.gr
                  clear hM3 hMo3
                  go_wp2
                  go_ret
                  exact ⟨by rw [HN.out]; rfl, ⟨_, hmo3, by have := HMO.out.put HUP.out; rw [HN.out] at this; exact this⟩, grown_trans' hgf (grown_put es cl)⟩
            · have hwm : wthN (mtB b ls) up = 1 + wthN (mtB b ls) m := by
                have := wth_match (mt := mtB b ls) (ds := dsOf ls) (by rw [dsOf_len]; omega) HUP.out HZ.out (by rw [← HM.out]; exact hmt)
                rw [← HM.out] at this
                exact this
              rw [hmt] at hmm
              clear hmt hlt2 hj
              go_wp2_with fail
              refine hmm.mono ?_
              rintro e w3 ⟨rfl, hb3⟩
              have hi3 := hir.call hb3
              have hX3 := hXr.call hb3
              clear hmm hir hXr p0 p1 p2 p3 hb3
              have hih := IH.out m.sum hsl m w3 rfl hmu hi3.song hi3.memo hlo
              obtain ⟨L, hL⟩ : ∃ L, L = wthN (mtB b ls) m := ⟨_, rfl⟩
              rw [← hL] at hih hwm
              have HN : Hid (wthN (mtB b ls) up = 1 + L) := hwm
              have e1 : IntKind.i64.wrap (1 + (L : Int)) = 1 + (L : Int) := wrap_id _ (by omega) (by omega)
              clear hwm hL hsl hmu
              have p0 := hX3.cell 0
              have p1 := hX3.cell 1
              have p2 := hX3.cell 2
              have p3 := hX3.cell 3
              simp [plC] at p0 p1 p2 p3
              go_wp2_with fail
              refine hih.mono ?_
              rintro e w4 ⟨rfl, hm4, hg4⟩
              have hi4 := hi3.step hg4 (fun r e => .inl (by injection e with e; exact e.symm)) hm4
              clear hih p0 p1 p2 p3 hX3 hi3 hg4 hm4
              have HN2 : Hid (((wthN (mtB b ls) up : Nat) : Int) = 1 + (L : Int)) := by have := HN.out; rw [Hid]; omega
              clear HN
              have HN := HN2
              obtain ⟨M3, hM3, hMo3⟩ := hi4.memo
              obtain ⟨es, cl, hmu3, hmo3⟩ := hM3.update keyPl Try.underlying113 (q4 up) (.int .i64 (1 + (L : Int)))
              replace hmu3 : (Instr.mapUpdate 113 (.map (some gm)) (.agg #[.int .i64 (at0 up 0 : Int), .int .i64 (at0 up 1 : Int), .int .i64 (at0 up 2 : Int), .int .i64 (at0 up 3 : Int)]) (.int .i64 (1 + (L : Int)))).run Try.prog w4 = .ok () (putMap w4 gm es cl) := hmu3
              have HMO := Lib.hid hMo3
              have u0 := hi4.x4.cell 0
              have u1 := hi4.x4.cell 1
              have u2 := hi4.x4.cell 2
              have u3 := hi4.x4.cell 3
              simp [plC] at u0 u1 u2 u3
              have hgf := hi4.gr
              clear hM3 hMo3
              go_wp2
              go_ret
              exact ⟨by rw [HN.out]; rfl, ⟨_, hmo3, by have := HMO.out.put HUP.out; rw [HN.out] at this; exact this⟩, grown_trans' hgf (grown_put es cl)⟩
end Go.Proofs.Ytgngpdnppdbgoaa
