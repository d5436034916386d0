/- Contract: CheckFlow. Contract: CheckFlow. -/
import Derived.Test.YtpkccmohlcndgaaPbM
import Derived.BigQuiet
namespace Go.Proofs.Ytpkccmohlcndgaa
open Go.RowKit Go.Shelf
set_option linter.unusedVariables false

theorem amt_part (xs : Array Value) (i : Nat) (v : Value) (h : xs[i]? = some v) (w : World) : (Go.part 2 xs (i * 1)).run Try.prog w = .ok v w := by
  have hi : (Try.prog.info? 2).map (·.size) = some 1 := by kernel_rfl
  have hu := Try.underlying2
  cases hq : Try.prog.info? 2 with
  | none => simp [hq] at hi
  | some ii =>
    have hs : ii.size = 1 := by simpa [hq] using hi
    simp [Go.part, run_underlying hu, sizeOf, typeInfo, hq, hs, h, go_sem]
theorem amt_loop (xs ys : Array Value) (f g : Nat → Int) (hx : ∀ i, i < 40 → xs[i]? = some (.int .i64 (f i))) (hy : ∀ i, i < 40 → ys[i]? = some (.int .i64 (g i))) (w : World) : ∀ l : List Nat, (∀ i ∈ l, i < 40) →
    (forIn l (none, ()) fun i (__s : Option Bool × Unit) => do
              let __do_lift ← Go.part 2 xs (i * 1)
              let __do_lift_1 ← Go.part 2 ys (i * 1)
              let __do_lift ← Op.equalIn 9999 2 __do_lift __do_lift_1
              if (!__do_lift) = true then pure (ForInStep.done (some false, ())) else pure (ForInStep.yield (none, ())) : Sem (Option Bool × Unit)).run Try.prog w = .ok (if l.all (fun i => f i == g i) = true then (none, ()) else (some false, ())) w
  | [], _ => by simp
  | i :: r, h => by
    have hi := h i List.mem_cons_self
    have he : (Op.equalIn 9999 2 (.int .i64 (f i)) (.int .i64 (g i))).run Try.prog w = .ok (f i == g i) w := by simp [go_sem]
    rw [List.forIn_cons]
    simp only [Sem.run_bind, amt_part xs i _ (hx i hi), amt_part ys i _ (hy i hi), he, Result.andThen_ok]
    cases hq : (f i == g i)
    · simp [hq]
    · simp only [Bool.not_true, Bool.false_eq_true, if_false, Sem.run_pure, Result.andThen_ok, List.all_cons, hq, Bool.true_and]
      exact amt_loop xs ys f g hx hy w r fun j hj => h j (List.mem_cons_of_mem _ hj)
theorem eq_amt (xs ys : Array Value) (f g : Nat → Int) (hx : ∀ i, i < 40 → xs[i]? = some (.int .i64 (f i))) (hy : ∀ i, i < 40 → ys[i]? = some (.int .i64 (g i))) (w : World) : (Op.equalIn 10000 94 (.agg xs) (.agg ys)).run Try.prog w = .ok ((List.range 40).all fun i => f i == g i) w := by
  show (Op.equalIn (9999+1) 94 _ _).run _ _ = _
  unfold Op.equalIn
  have hu := Try.underlying94
  have hi : (Try.prog.info? 2).map (·.size) = some 1 := by kernel_rfl
  cases hq : Try.prog.info? 2 with
  | none => simp [hq] at hi
  | some ii =>
    have hs : ii.size = 1 := by simpa [hq] using hi
    have hsz : (sizeOf 2).run Try.prog w = .ok 1 w := by simp [sizeOf, typeInfo, hq, hs]
    simp only [Sem.run_bind, run_underlying hu, Result.andThen_ok, hsz, Std.Legacy.Range.forIn_eq_forIn_range']
    have hl := amt_loop xs ys f g hx hy w (List.range' 0 40) (by simp)
    have h16 : (List.range 40) = List.range' 0 40 := by decide
    rw [h16]
    simp only [Std.Legacy.Range.size, Nat.sub_zero, Nat.add_sub_cancel, Nat.div_one]
    rw [hl]
    cases (List.range' 0 40).all fun i => f i == g i <;> simp

/-- what is kept, with the ends' places emptied -/
def zeroTo (es : List Nat) (K : Nat → Int) (k u : Nat) : Int := if u ∈ es.take k then 0 else K u
theorem zeroTo_zero (es : List Nat) (K : Nat → Int) : zeroTo es K 0 = K := by funext u; simp [zeroTo]
theorem zeroTo_succ {es : List Nat} {K : Nat → Int} {k x : Nat} (h : es[k]? = some x) (j : Nat) : zeroTo es K (k + 1) j = if j = x then 0 else zeroTo es K k j := by
  unfold zeroTo
  rw [take_snoc h]
  by_cases h1 : j = x
  · rw [if_pos h1, if_pos (by simp [h1])]
  · rw [if_neg h1]
    by_cases h2 : j ∈ es.take k
    · rw [if_pos h2, if_pos (by simp [h2])]
    · rw [if_neg h2, if_neg (by simp [h1, h2])]
theorem kept_out {l : NL} (g : Good l) (f : Nat → Int) {u : Nat} (hu : l.N ≤ u) : keptF l.L f u = 0 := by
  unfold keptF
  have : ∀ i ∈ List.range l.L.length, inTo l.L f u i = (fun _ => 0) i := by
    intro i hi
    rw [List.mem_range, NL.len] at hi
    obtain ⟨a, b, t, -, h2, h3, h4, -⟩ := g.lk_at hi
    unfold inTo
    rw [h2, if_neg (by show ¬ b = u; omega), if_neg (by show ¬ a = u; omega)]
    rfl
  rw [isum_congr this]
  generalize List.range l.L.length = r
  induction r with
  | nil => rfl
  | cons x r ih => simp only [isum] at ih ⊢; simpa using ih
theorem zero_all {l : NL} (g : Good l) (f : Nat → Int) {es : List Nat} (he : es = natL l.left ++ natL l.right) : ((List.range 40).all fun u => zeroTo es (keptF l.L f) es.length u == 0) = keptB l f := by
  have hN : l.N ≤ 40 := by have := g.forty; have := g.nN; omega
  have hm : ∀ u, u ∈ es ↔ l.A u = true ∨ l.B u = true := fun u => by rw [he, List.mem_append, NL.mA, NL.mB]
  rw [Bool.eq_iff_iff, keptB_iff, List.all_eq_true]
  unfold zeroTo
  rw [List.take_length]
  constructor
  · intro h u hu ha hb
    have := h u (List.mem_range.2 (by omega))
    rw [if_neg (by rw [hm]; simp [ha, hb])] at this
    simpa using this
  · intro h u hu
    by_cases h1 : u ∈ es
    · rw [if_pos h1]; rfl
    · rw [if_neg h1]
      rw [hm] at h1
      rcases Nat.lt_or_ge u l.N with h2 | h2
      · rw [h u h2 (by simpa using fun e => h1 (.inl e)) (by simpa using fun e => h1 (.inr e))]; rfl
      · rw [kept_out g f h2]; rfl
end Go.Proofs.Ytpkccmohlcndgaa

namespace Go.Proofs.Ytpkccmohlcndgaa
open Go.RowKit Go.Shelf
set_option linter.unusedVariables false

theorem grown_setRow (w : World) (g : Nat) (cs : Array Value) : w.grownBy (w.setRow g cs) (some g) :=
  ⟨rfl, rfl, rfl, by simp [World.setRow], fun k hk hr => setRow_other w g k cs (fun e => hr (by rw [e]))⟩
theorem NetF.copied {W : World} {B G : Nat} {l : NL} {ka aa ba da : Option Addr} {kc ac bc dc : Nat} {drop : List Int} {fb : Nat} {f : Nat → Int} {h : Nat → Nat} (m : NetF W B G l ka kc aa ac ba bc da dc drop fb f h) {cs : Array Value} {g : Nat → Int} (hc : cs = rowA l.links.length fun i => .int .i64 (g i)) : NetF (W.setRow fb cs) B G l ka kc aa ac ba bc da dc drop fb g h := by
  have h1 := m.lo
  refine ⟨m.net.grown (row := some fb) (grown_setRow W fb cs) fun r e => by injection e with e; omega, ?_, m.lo⟩
  have hfl : Blk W fb 2 _ := m.flow
  have := setRow_heap W fb _ cs 2 (0, 0) hfl
  rw [hc] at this
  rw [hc]
  exact this
theorem flow_cells (fl : List Int) : (fl.flatMap (cellsOf 1 icell)).toArray = rowA fl.length fun i => .int .i64 (flF fl i) := by
  rw [flat_int]
  apply Array.ext'
  rw [rowA_list]
  apply List.ext_getElem?
  intro i
  rcases Nat.lt_or_ge i fl.length with h | h
  · simp [h, flF]
  · simp [h]
theorem chkF_err {l : NL} {fl : List Int} (h : checkL l ≠ 0) : chkF l fl = (0, checkL l) := by unfold chkF; rw [if_pos h]
theorem chkF_len {l : NL} {fl : List Int} (h : checkL l = 0) (h1 : fl.length ≠ l.links.length) : chkF l fl = (0, 15) := by unfold chkF; rw [if_neg (by simpa using h), if_pos h1]
theorem chkF_fit {l : NL} {fl : List Int} (h : checkL l = 0) (h1 : fl.length = l.links.length) (h2 : fitsB l (flF fl) = false) : chkF l fl = (0, 14) := by unfold chkF; rw [if_neg (by simpa using h), if_neg (by simpa using h1), if_pos h2]
theorem chkF_kept {l : NL} {fl : List Int} (h : checkL l = 0) (h1 : fl.length = l.links.length) (h2 : fitsB l (flF fl) = true) (h3 : keptB l (flF fl) = false) : chkF l fl = (0, 14) := by unfold chkF; rw [if_neg (by simpa using h), if_neg (by simpa using h1), if_neg (by simp [h2]), if_pos h3]
theorem chkF_go {l : NL} {fl : List Int} (h : checkL l = 0) (h1 : fl.length = l.links.length) (h2 : fitsB l (flF fl) = true) (h3 : keptB l (flF fl) = true) : chkF l fl = (greatF l.N l.L (flF fl) l.A, 0) := chkF_ok h h1 (right_iff.1 ⟨h2, h3⟩)
theorem flF_at {fl : List Int} {i : Nat} {x : Int} (h : fl[i]? = some x) : flF fl i = x := by unfold flF; rw [List.getD_eq_getElem?_getD, h]; rfl

set_option maxRecDepth 100000 in
set_option maxHeartbeats 1600000 in
theorem checkFlow_ok (v fv : Value) (l : NL) (fl : List Int) (w : World) (hv : NLV w w.heap.size v l) (hf : Arr w w.heap.size 1 fv fl icell) :
    Calls Try.prog 26 #[v, fv] w fun r w' => r = .returned (.tuple #[.int .i64 (chkF l fl).1, .int .i64 (chkF l fl).2]) ∧ Below w.heap.size w w' := by
  obtain ⟨ka, kc, aa, ac, ba, bc, rfl, hna⟩ := hv
  obtain ⟨fa, fc, rfl⟩ : ∃ a c, fv = .slice a fl.length c := by
    obtain ⟨a, c, h, -⟩ := hf
    exact ⟨a, c, h⟩
  have hC := NB.new hna
  have hB := (Below.refl w.heap.size w).alloc (Nat.le_refl _) (.cells #[.int .i64 l.n, .slice ka l.links.length kc, .slice aa l.left.length ac, .slice ba l.right.length bc] 25)
  go_enter Try.func26, Try.ntmps26
  go_upto_region 1 with (fail)
  generalize w.alloc (.cells #[.int .i64 l.n, .slice ka l.links.length kc, .slice aa l.left.length ac, .slice ba l.right.length bc] 25) = W at *
  obtain ⟨k0, k1, k2, k3⟩ := hC.blk.c4
  have ho := open_ok _ (.slice none 0 0) l [] W hC.v Arr.nil_
  rw [openE_nil] at ho
  have hsW := hB.size
  go_wp2_with fail
  refine ho.mono ?_
  rintro e w1 ⟨hb, hcase⟩
  replace hB := hB.trans (hb.mono hB.size)
  have hC1 := hC.call hb
  clear ho k0 k1 k2 k3
  rcases hcase with ⟨h0, rfl⟩ | ⟨h0, G, fb, ka', kc', aa', ac', ba', bc', da, dc, rfl, hveq, hdv, hN⟩
  · have d0 : (checkL l != 0) = true := by simpa using h0
    have HN := Lib.hid (chkF_err (fl := fl) h0)
    clear h0
    go_wp2
    go_ret2
    exact ⟨by rw [HN.out]; rfl, hB⟩
  · obtain ⟨rfl, rfl, rfl, rfl, rfl, rfl⟩ : ka = ka' ∧ kc = kc' ∧ aa = aa' ∧ ac = ac' ∧ ba = ba' ∧ bc = bc' := by simpa [and_assoc] using hveq
    have hg := check_good.1 h0
    have H0 := Lib.hid h0
    have h120 := hg.few
    obtain ⟨k0, k1, k2, k3⟩ := hC1.blk.c4
    clear hveq hdv h0
    by_cases hlen : fl.length = l.links.length
    · have d1 : ((fl.length : Int) != (l.links.length : Int)) = false := by simp [hlen]
      have hlo := hN.lo
      rw [hlen]
      rw [hlen] at hf d1
      go_wp2
      go_loopw [30] (fun i wr => ∃ k : Nat, k ≤ l.links.length ∧ i = .int .i64 k ∧ (∀ j, j < k → fitB l (flF fl) j = true) ∧ Below w1.heap.size w1 wr) (fun i _ => l.links.length - (intOf i).toNat)
      case atStart => exact ⟨0, Nat.zero_le _, rfl, fun j hj => absurd hj (Nat.not_lt_zero _), Below.refl _ _⟩
      case round =>
        obtain ⟨k, hk, rfl, hfit, hr⟩ := hrel
        have hNr := hN.call hr
        have hBr := hB.trans (hr.mono hB.size)
        have hfr : Arr wr w.heap.size 1 (.slice fa l.links.length fc) fl icell := hf.below hBr
        by_cases hlt : k < l.links.length
        · have d2 : decide (k < l.links.length) = true := decide_eq_true hlt
          have d2' : decide ((k : Int) < (l.links.length : Int)) = true := decide_eq_true (by omega)
          have hki : (k : Int) < (l.links.length : Int) := by omega
          obtain ⟨kb, ko, a, b, t, rfl, -, hlk, -, -, -, ht1, ht2, c0, c1, c2⟩ := hNr.link hg hlt
          obtain ⟨b2, o2, x, rfl, -, hx, e0⟩ := numx_at hfr (k := k) (by omega)
          have hFx := Lib.hid (show fitB l (flF fl) k = (decide (-t ≤ x) && decide (x ≤ t)) by unfold fitB; rw [hlk, flF_at hx])
          have HF := Lib.hid hfit
          go_upto_region 9 with (fail)
          have hX := Blk.new wr 60 #[.int .i64 (a : Int), .int .i64 (b : Int), .int .i64 t]
          have hb1 := (Below.refl wr.heap.size wr).alloc (Nat.le_refl _) (.cells #[.int .i64 (a : Int), .int .i64 (b : Int), .int .i64 t] 60)
          have hr1 := hr.trans (hb1.mono hr.size)
          have hBr1 := hBr.trans (hb1.mono hBr.size)
          have hfr1 := hfr.below (hb1.mono hBr.size)
          obtain ⟨b3, o3, x3, hq3, -, hx3, e1⟩ := numx_at hfr1 (k := k) (by omega)
          obtain ⟨rfl, rfl⟩ : b2 = b3 ∧ o2 = o3 := by simpa using hq3
          obtain rfl : x3 = x := by rw [hx] at hx3; injection hx3 with h; exact h.symm
          have y2 := hX.cell 2
          have wn : IntKind.i64.wrap (-t) = -t := wrap_id _ (by omega) (by omega)
          have q3 : (0 : Int) ≤ (k : Int) := by omega
          clear hb1 hX hr hBr hfr hNr hx hx3 hq3 hfit hlk c0 c1 c2 e0
          generalize wr.alloc (.cells #[.int .i64 (a : Int), .int .i64 (b : Int), .int .i64 t] 60) = V at *
          simp at y2
          by_cases q1 : x3 < -t
          · have d3 : decide (x3 < -t) = true := decide_eq_true q1
            have HX := Lib.hid (chkF_fit H0.out hlen (show fitsB l (flF fl) = false by
              have hz : fitB l (flF fl) k = false := by rw [hFx.out, decide_eq_false (by omega)]; rfl
              unfold fitsB
              rw [List.all_eq_false]
              exact ⟨k, List.mem_range.2 hlt, by rw [hz]; simp⟩))
            clear q1 hFx
            go_quiet (fail)
            go_wp2
            go_ret2
            exact ⟨by rw [HX.out]; rfl, bdrewN hBr1 _⟩
          · have d3 : decide (x3 < -t) = false := decide_eq_false q1
            by_cases q2 : t < x3
            · have d4 : decide (t < x3) = true := decide_eq_true q2
              have HX := Lib.hid (chkF_fit H0.out hlen (show fitsB l (flF fl) = false by
                have hz : fitB l (flF fl) k = false := by rw [hFx.out, decide_eq_false (show ¬ x3 ≤ t by omega), Bool.and_false]
                unfold fitsB
                rw [List.all_eq_false]
                exact ⟨k, List.mem_range.2 hlt, by rw [hz]; simp⟩))
              clear q1 q2 hFx
              go_quiet (fail)
              go_wp2
              go_ret2
              exact ⟨by rw [HX.out]; rfl, bdrewN hBr1 _⟩
            · have d4 : decide (t < x3) = false := decide_eq_false q2
              have HX := Lib.hid (show ∀ j, j < k + 1 → fitB l (flF fl) j = true by
                intro j hj
                rcases Nat.lt_or_ge j k with h | h
                · exact HF.out j h
                · obtain rfl : j = k := by omega
                  rw [hFx.out, decide_eq_true (by omega), decide_eq_true (by omega)]; rfl)
              clear q1 q2 hFx
              go_quiet (fail)
              go_wp2
              go_roundw
              case rel => exact ⟨k + 1, by omega, by go_num, HX.out, bdrewN hr1 _⟩
              case measure => (simp [intOf]; try omega)
        · obtain rfl : k = l.links.length := by omega
          have d2 : decide (l.links.length < l.links.length) = false := by simp
          have hfit2 : fitsB l (flF fl) = true := by
            unfold fitsB
            rw [List.all_eq_true]
            exact fun i hi => hfit i (List.mem_range.1 hi)
          have hFits := fitsB_iff.1 hfit2
          have HF := Lib.hid hfit2
          obtain ⟨-, -, -, -, -, n5⟩ := hNr.net.c6
          have hwW := hC.blk.lt
          have hcur : Blk wr fb 2 _ := hNr.flow
          have hcp := fun ty => run_copy_full wr 40 41 ty 2 1 fb l.links.length l.links.length fa fc _ 2 (fl.flatMap (cellsOf 1 icell)) Try.underlying40 (by kernel_rfl) hcur (by rw [flat_len, hlen]) (by rw [rowA_size, Nat.mul_one])
            (by
              rcases cells_arr (hfr.more hBr.size) (by omega) with h | h
              · exact .inl ⟨h.1, by first | exact hlen ▸ h.2 | (have := h.2; rw [this] at hlen; simpa using hlen.symm)⟩
              · exact .inr h) (fun v hv => by
              rw [flat_int] at hv
              obtain ⟨x, -, rfl⟩ := List.mem_map.1 hv
              rfl)
          have hN2 := hNr.copied (cs := (fl.flatMap (cellsOf 1 icell)).toArray) (g := flF fl) (by rw [flow_cells, hlen])
          have hB2 := below_setRow hBr (show w.heap.size ≤ fb by omega) (fl.flatMap (cellsOf 1 icell)).toArray
          have hC2 : NB wr w.heap.size l ka kc aa ac ba bc := hC1.call hr
          have hC3 : NB (wr.setRow fb (fl.flatMap (cellsOf 1 icell)).toArray) w.heap.size l ka kc aa ac ba bc := ⟨hC2.blk.grown (grown_setRow _ _ _) (fun e => by injection e; omega), hN2.net.na.more (by have := hN2.net.le; have := hN2.lt; omega)⟩
          clear hfit hfit2 hr hfr hNr hBr hN hB hC1 k0 k1 k2 k3 hf hC hC2
          go_upto_region 13 with (fail)
          generalize wr.setRow fb (fl.flatMap (cellsOf 1 icell)).toArray = w2 at *
          clear n5 hcur hcp
          have hkp := kept_ok hN2 hg fun i hi => hg.flow_bound hFits hi
          obtain ⟨k0, k1, k2, k3⟩ := hC3.blk.c4
          go_wp2_with fail
          refine hkp.mono ?_
          rintro e w3 ⟨rfl, hb3⟩
          have hN3 := hN2.call hb3
          have hC4 := hC3.call hb3
          have hB3 := hB2.trans (hb3.mono hB2.size)
          have hi40 := amt_i40 (keptF l.L (flF fl))
          have h1c := amt_one (keptF l.L (flF fl))
          have hs40 : (40 : Nat) = (amtA (keptF l.L (flF fl))).size := (rowA_size _ _).symm
          have x1 : Blk (w3.alloc (.cells #[.int .i64 0, .int .i64 0, .int .i64 0, .int .i64 0, .int .i64 0, .int .i64 0, .int .i64 0, .int .i64 0, .int .i64 0, .int .i64 0, .int .i64 0, .int .i64 0, .int .i64 0, .int .i64 0, .int .i64 0, .int .i64 0, .int .i64 0, .int .i64 0, .int .i64 0, .int .i64 0, .int .i64 0, .int .i64 0, .int .i64 0, .int .i64 0, .int .i64 0, .int .i64 0, .int .i64 0, .int .i64 0, .int .i64 0, .int .i64 0, .int .i64 0, .int .i64 0, .int .i64 0, .int .i64 0, .int .i64 0, .int .i64 0, .int .i64 0, .int .i64 0, .int .i64 0, .int .i64 0] 94)) w3.heap.size 94 _ := Blk.new w3 94 _
          have hB4 := (Below.refl w3.heap.size w3).alloc (Nat.le_refl _) (.cells #[.int .i64 0, .int .i64 0, .int .i64 0, .int .i64 0, .int .i64 0, .int .i64 0, .int .i64 0, .int .i64 0, .int .i64 0, .int .i64 0, .int .i64 0, .int .i64 0, .int .i64 0, .int .i64 0, .int .i64 0, .int .i64 0, .int .i64 0, .int .i64 0, .int .i64 0, .int .i64 0, .int .i64 0, .int .i64 0, .int .i64 0, .int .i64 0, .int .i64 0, .int .i64 0, .int .i64 0, .int .i64 0, .int .i64 0, .int .i64 0, .int .i64 0, .int .i64 0, .int .i64 0, .int .i64 0, .int .i64 0, .int .i64 0, .int .i64 0, .int .i64 0, .int .i64 0, .int .i64 0] 94)
          clear k0 k1 k2 k3 hkp hN2 hC3 hB2 hb3
          go_upto_region 14 with (refine wpList_store_row rfl 94 (.tmp 10) (.tmp 60) rfl w3.heap.size (amtA (keptF l.L (flF fl))) rfl rfl 94 _ x1 hi40 hs40 h1c ?_)
          have hset : Blk ((w3.alloc (.cells #[.int .i64 0, .int .i64 0, .int .i64 0, .int .i64 0, .int .i64 0, .int .i64 0, .int .i64 0, .int .i64 0, .int .i64 0, .int .i64 0, .int .i64 0, .int .i64 0, .int .i64 0, .int .i64 0, .int .i64 0, .int .i64 0, .int .i64 0, .int .i64 0, .int .i64 0, .int .i64 0, .int .i64 0, .int .i64 0, .int .i64 0, .int .i64 0, .int .i64 0, .int .i64 0, .int .i64 0, .int .i64 0, .int .i64 0, .int .i64 0, .int .i64 0, .int .i64 0, .int .i64 0, .int .i64 0, .int .i64 0, .int .i64 0, .int .i64 0, .int .i64 0, .int .i64 0, .int .i64 0] 94)).setRow w3.heap.size (amtA (keptF l.L (flF fl)))) w3.heap.size 94 (amtA (keptF l.L (flF fl))) := setRow_heap _ w3.heap.size _ _ 94 (0, 0) x1
          have hb4 := below_setRow hB4 (Nat.le_refl _) (amtA (keptF l.L (flF fl)))
          clear x1 hB4 hi40 h1c hs40
          generalize (w3.alloc (.cells #[.int .i64 0, .int .i64 0, .int .i64 0, .int .i64 0, .int .i64 0, .int .i64 0, .int .i64 0, .int .i64 0, .int .i64 0, .int .i64 0, .int .i64 0, .int .i64 0, .int .i64 0, .int .i64 0, .int .i64 0, .int .i64 0, .int .i64 0, .int .i64 0, .int .i64 0, .int .i64 0, .int .i64 0, .int .i64 0, .int .i64 0, .int .i64 0, .int .i64 0, .int .i64 0, .int .i64 0, .int .i64 0, .int .i64 0, .int .i64 0, .int .i64 0, .int .i64 0, .int .i64 0, .int .i64 0, .int .i64 0, .int .i64 0, .int .i64 0, .int .i64 0, .int .i64 0, .int .i64 0] 94)).setRow w3.heap.size (amtA (keptF l.L (flF fl))) = w4 at *
          have hN4 := hN3.call hb4
          have hC5 := hC4.call hb4
          have hB5 := hB3.trans (hb4.mono hB3.size)
          have hx : AmtB w4 w3.heap.size (keptF l.L (flF fl)) := hset
          have hsz3 := hB3.size
          have hGk := hN3.lt
          have hWk := hN3.net.le
          clear hset hN3 hC4 hB3 hb4
          generalize w3.heap.size = kb at *
          simp only [Act.put]
          obtain ⟨k0, k1, k2, k3⟩ := hC5.blk.c4
          have hla := hg.la
          have hla10 := hg.la10
          have hlb10 := hg.lb10
          have hP := Blk.new w4 23 #[.slice aa l.left.length ac, .slice ba l.right.length bc]
          have hb5 := (Below.refl w4.heap.size w4).alloc (Nat.le_refl _) (.cells #[.slice aa l.left.length ac, .slice ba l.right.length bc] 23)
          have hN5 := hN4.call hb5
          have hB6 := hB5.trans (hb5.mono hB5.size)
          have hx5 : AmtB _ kb (keptF l.L (flF fl)) := Blk.call hx hb5
          have hls : LLi (w4.alloc (.cells #[.slice aa l.left.length ac, .slice ba l.right.length bc] 23)) (.slice (some ⟨w4.heap.size, 0, none⟩) 2 2) [l.left, l.right] := by
            have hBs : W.heap.size ≤ (w4.alloc (.cells #[.slice aa l.left.length ac, .slice ba l.right.length bc] 23)).heap.size := by have := hN5.net.le; have := hN5.lt; omega
            exact Arr.pair hP (by simp) (hN5.net.na.as_.more hBs) (hN5.net.na.bs.more hBs)
          have hcc := concat_ok _ [l.left, l.right] _ hls (by simp; omega) (by simp; omega)
          have hfl : [l.left, l.right].flatten = intL (natL l.left ++ natL l.right) := by
            rw [intL_append, ← hg.left_int, ← hg.right_int]
            simp
          rw [hfl] at hcc
          have hfn : (intL (natL l.left ++ natL l.right)).length = (natL l.left ++ natL l.right).length := by simp [intL]
          obtain ⟨es, hes⟩ : ∃ es, es = natL l.left ++ natL l.right := ⟨_, rfl⟩
          rw [← hes] at hcc hfn
          have HES := Lib.hid hes
          have HZ := Lib.hid (zero_all hg (flF fl) hes)
          have hesl : es.length ≤ 20 := by
            rw [hes]
            simp only [List.length_append, natL, List.length_map]
            omega
          have hkb := Blk.lt hx
          clear hfl hes hP hls hN4 hC5 hx hb5 hB5
          go_wp2_with fail
          refine hcc.mono ?_
          rintro e w6 ⟨v6, rfl, hown6, hb6⟩
          obtain ⟨vA, vc, rfl⟩ := own_form hown6
          have hN6 := hN5.call hb6
          have hB7 := hB6.trans (hb6.mono hB6.size)
          have hx6 : AmtB w6 kb (zeroTo es (keptF l.L (flF fl)) 0) := by rw [zeroTo_zero]; exact Blk.call hx5 hb6
          have hsz6 := hB7.size
          have hkb5 : kb < (w4.alloc (.cells #[.slice aa l.left.length ac, .slice ba l.right.length bc] 23)).heap.size := Blk.lt hx5
          clear hcc hx5 hN5 hB6 hb6 k0 k1 k2 k3
          generalize (w4.alloc (.cells #[.slice aa l.left.length ac, .slice ba l.right.length bc] 23)).heap.size = ob at *
          rw [hfn] at hown6
          rw [hfn]
          go_wp2
          go_loopw [68] (fun i wr => ∃ k : Nat, k ≤ es.length ∧ i = .int .i64 k ∧ AmtB wr kb (zeroTo es (keptF l.L (flF fl)) k) ∧ w6.grownBy wr (some kb) ∧ wr.ownsRow ob 3 1 (.slice vA es.length vc) es.length ((intL es).map (Value.int .i64))) (fun i _ => es.length - (intOf i).toNat)
          case atStart => exact ⟨0, Nat.zero_le _, rfl, hx6, World.grownBy.refl _ _, hown6⟩
          case round =>
            clear hx6 hown6
            obtain ⟨k, hk, rfl, hx, hgr, hown⟩ := hrel
            by_cases hlt : k < es.length
            · have d2 : decide (k < es.length) = true := decide_eq_true hlt
              have d2' : decide ((k : Int) < (es.length : Int)) = true := decide_eq_true (by omega)
              have hki : (k : Int) < (es.length : Int) := by omega
              have harr : Arr wr wr.heap.size 1 (.slice vA es.length vc) (intL es) icell := Arr.of_own (by rw [flat_int, hfn]; exact hown)
              obtain ⟨x, hxk⟩ : ∃ x, es[k]? = some x := ⟨_, List.getElem?_eq_getElem hlt⟩
              obtain ⟨b, off, y, rfl, hb, hy, c0⟩ := numx_at harr (k := k) (by rw [hfn]; exact hlt)
              rw [intL_at hxk] at hy
              injection hy with hy
              subst hy
              have hxN : x < l.N := by
                have hm := List.mem_of_getElem? hxk
                rw [HES.out] at hm
                rcases List.mem_append.1 hm with hm | hm
                · exact hg.ltA (NL.mA.2 hm)
                · exact hg.ltB (NL.mB.2 hm)
              have hN40 : l.N ≤ 40 := by have := hg.forty; have := hg.nN; omega
              have hx40 : x < 40 := by omega
              have hxi : (x : Int) < 40 := by omega
              have c1 := hx.at_ hx40
              have c2 := Blk.frozen hx x
              have hx2 := hx.put (i := x) (x := 0) (g := zeroTo es (keptF l.L (flF fl)) (k + 1)) fun j _ => zeroTo_succ hxk j
              have hgr2 : w6.grownBy (wr.setCell ⟨kb, x, none⟩ (.int .i64 0)) (some kb) := grown_trans' hgr (grown_setCell _)
              have hown2 : (wr.setCell ⟨kb, x, none⟩ (.int .i64 0)).ownsRow ob 3 1 (.slice (some ⟨b, off, none⟩) es.length vc) es.length ((intL es).map (Value.int .i64)) := own_low hown (by omega)
              clear hx hown harr hgr hxk
              go_wp2
              go_roundw
              case rel => exact ⟨k + 1, by omega, by go_num, hx2, hgr2, hown2⟩
              case measure => (simp [intOf]; try omega)
            · obtain rfl : k = es.length := by omega
              have d2 : decide (es.length < es.length) = false := by simp
              have hNr := hN6.grown hgr fun r e => by injection e with e; omega
              have hBr : Below w.heap.size w wr := ⟨hgr.os.trans hB7.os, hgr.tape.trans hB7.tape, hgr.output.trans hB7.output, Nat.le_trans hB7.size hgr.size, fun q hq => (hgr.block q (Nat.lt_of_lt_of_le hq hB7.size) fun e => by injection e; omega).trans (hB7.block q hq)⟩
              have hgt := great_ok hNr hg fun i hi => hg.flow_bound hFits hi
              obtain ⟨cs, HCS⟩ : ∃ cs, Hid (cs = amtA (zeroTo es (keptF l.L (flF fl)) es.length)) := ⟨_, rfl⟩
              have heq := fun w' => eq_amt cs #[.int .i64 0, .int .i64 0, .int .i64 0, .int .i64 0, .int .i64 0, .int .i64 0, .int .i64 0, .int .i64 0, .int .i64 0, .int .i64 0, .int .i64 0, .int .i64 0, .int .i64 0, .int .i64 0, .int .i64 0, .int .i64 0, .int .i64 0, .int .i64 0, .int .i64 0, .int .i64 0, .int .i64 0, .int .i64 0, .int .i64 0, .int .i64 0, .int .i64 0, .int .i64 0, .int .i64 0, .int .i64 0, .int .i64 0, .int .i64 0, .int .i64 0, .int .i64 0, .int .i64 0, .int .i64 0, .int .i64 0, .int .i64 0, .int .i64 0, .int .i64 0, .int .i64 0, .int .i64 0] (zeroTo es (keptF l.L (flF fl)) es.length) (fun _ => 0) (fun i hi => by rw [HCS.out]; exact rowA_get hi) (fun i hi => by rw [← amt_zero]; exact rowA_get hi) w'
              rw [HZ.out] at heq
              have hi40 : (Try.prog.info? 94).map (·.size) = some cs.size := by rw [HCS.out]; exact amt_i40 _
              have hrow : Blk wr kb 94 cs := by rw [HCS.out]; exact hx
              cases hkp : keptB l (flF fl)
              · rw [hkp] at heq
                have HX := Lib.hid (chkF_kept H0.out hlen HF.out hkp)
                clear hgt
                go_wp2_with (refine wpList_load_row rfl 94 (.tmp 10) rfl kb rfl 94 cs (0, 0) _ hrow Try.underlying94 rfl hi40 ?_)
                go_ret2
                exact ⟨by rw [HX.out]; rfl, hBr⟩
              · rw [hkp] at heq
                have HX := Lib.hid (chkF_go H0.out hlen HF.out hkp)
                go_wp2_with (refine wpList_load_row rfl 94 (.tmp 10) rfl kb rfl 94 cs (0, 0) _ hrow Try.underlying94 rfl hi40 ?_)
                refine hgt.mono ?_
                rintro e w8 ⟨rfl, hb8⟩
                go_wp2
                go_ret2
                exact ⟨by rw [HX.out]; rfl, hBr.trans (hb8.mono hBr.size)⟩
    · have d1 : ((fl.length : Int) != (l.links.length : Int)) = true := by
        have : ¬ (fl.length : Int) = (l.links.length : Int) := by omega
        simpa using this
      have HN := Lib.hid (chkF_len H0.out hlen)
      clear hlen
      go_wp2
      go_ret2
      exact ⟨by rw [HN.out]; rfl, hB⟩
end Go.Proofs.Ytpkccmohlcndgaa
