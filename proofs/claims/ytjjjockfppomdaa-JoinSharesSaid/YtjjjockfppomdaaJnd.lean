/- Contract of the table: joined. -/
import Derived.Test.YtjjjockfppomdaaSts
namespace Go.Proofs.Ytjjjockfppomdaa
open Go.RowKit Go.Shelf
set_option linter.unusedVariables false

theorem come_any (x : TX) (c : Cyl) (u i : Nat) (w : World) (hT : TB w x c) (hu : u < 2 ^ c.pcs.length) (hi : i < (stepsOf c).length) (hb : u.testBit (pieceN c i) = true) :
    Calls Try.prog 73 #[.pointer (some ⟨x.g, 0, none⟩), stateV u (i : Int)] w fun r w' => r = .returned (.int .i64 (comeN c u i : Int)) ∧ TB w' x c ∧ Chg x.ga x.gu w w' :=
  come_ok x c _ u i w rfl hT hu hi hb
/-- what joined holds of the world -/
structure JnI (w : World) (x : TX) (c : Cyl) (rv : Bool) (W : World) : Prop where
  tb : TB W x c
  bt : Blk W w.heap.size 72 #[.pointer (some ⟨x.g, 0, none⟩)]
  rs : Blk W (w.heap.size + 1) 4 #[.bool rv]
  lf : Blk W (w.heap.size + 2) 98 #[.func (.func 54) #[.pointer (some ⟨x.g, 0, none⟩)] #[]]
  ch : Chg x.ga x.gu w W
  sz : w.heap.size + 5 ≤ W.heap.size
  le : x.N ≤ w.heap.size
section
variable {w W W' : World} {x : TX} {c : Cyl} {rv : Bool}
theorem JnI.grown (h : JnI w x c rv W) {row : Option Nat} (hg : W.grownBy W' row) (hr : ∀ ρ, row = some ρ → w.heap.size + 5 ≤ ρ) : JnI w x c rv W' := by
  have h1 := h.le
  have h2 := h.sz
  exact ⟨h.tb.grown hg (fun ρ e => by have := hr ρ e; omega), h.bt.grown hg (fun e => by have := hr _ e.symm; omega), h.rs.grown hg (fun e => by have := hr _ e.symm; omega), h.lf.grown hg (fun e => by have := hr _ e.symm; omega), h.ch.grown_ge hg (fun ρ e => by have := hr ρ e; omega), Nat.le_trans h2 hg.size, h1⟩
theorem JnI.chg (h : JnI w x c rv W) (ht : TB W' x c) (hc : Chg x.ga x.gu W W') : JnI w x c rv W' := by
  have h1 := h.le
  have h2 := h.sz
  have h3 := h.tb.f.al
  have h4 := h.tb.f.ul
  exact ⟨ht, hc.blk h.bt (by omega) (by omega), hc.blk h.rs (by omega) (by omega), hc.blk h.lf (by omega) (by omega), h.ch.trans hc, Nat.le_trans h2 hc.size, h1⟩
theorem JnI.put (h : JnI w x c rv W) (b : Bool) : JnI w x c b (W.setCell ⟨w.heap.size + 1, 0, none⟩ (.bool b)) := by
  have h1 := h.le
  have hg : W.grownBy (W.setCell ⟨w.heap.size + 1, 0, none⟩ (.bool b)) (some (w.heap.size + 1)) := grown_setCell _
  exact ⟨h.tb.grown hg (fun ρ e => by injection e; omega), h.bt.grown hg (fun e => by injection e; omega), by simpa using h.rs.set_ 0 (.bool b), h.lf.grown hg (fun e => by injection e; omega), h.ch.grown_ge hg (fun ρ e => by injection e; omega), Nat.le_trans h.sz hg.size, h1⟩
end
/-- the frame in which a round over states runs -/
def UsAx (tm : Array Value) (q b base : Nat) (c : Cyl) (i : Nat) (y : VUs c i) (a' : Act) (W : World) : Prop :=
  ∃ Bx, base ≤ Bx ∧ Blk W Bx 94 #[.int .i64 (y.1 : Int), .int .i64 (i : Int)] ∧ a' = { tmps := (tm.setIfInBounds q (stateV y.1 (i : Int))).setIfInBounds b (.pointer (some ⟨Bx, 0, none⟩)), defers := [] }
theorem UsAx.own {tm : Array Value} {q b base B : Nat} {c : Cyl} {i : Nat} : ∀ (y : VUs c i) (a' : Act), OwnFrom B (fun (_ : Unit) W => UsAx tm q b base c i y a' W) := by
  rintro y a' _ W W' row ⟨Bx, h1, h2, h3⟩ hg hr
  refine ⟨Bx, h1, h2.grown hg ?_, h3⟩
  intro e
  obtain ⟨_, o, ho, hc⟩ := hr Bx e.symm
  rw [h2] at ho
  injection ho with ho
  subst ho
  simp [Obj.isCells] at hc
def okU (c : Cyl) (i u : Nat) : Bool := decide (0 < comeN c u i) && decide (0 < leftN c u (some i))
theorem joinedN_used (c : Cyl) (i : Nat) : joinedN c i = (usedN c i).any (okU c i) := by
  unfold joinedN usedN
  rw [List.any_filter]
  rfl

attribute [local go_sem] Oper.semAt_some
set_option maxRecDepth 100000 in
set_option maxHeartbeats 1600000 in
theorem joined_ok (x : TX) (c : Cyl) (i : Nat) (w : World) (hT : TB w x c) (hi : i < (stepsOf c).length) :
    Calls Try.prog 58 #[.pointer (some ⟨x.g, 0, none⟩), .int .i64 (i : Int)] w fun r w' => r = .returned (.bool (joinedN c i)) ∧ TB w' x c ∧ Chg x.ga x.gu w w' := by
  have h8 := hT.f.bounds.2
  have hle := hT.f.le
  refine (callsIn_wide (n := 8)).1 ?_
  refine callsIn_of_wp_marks Try.func58 rfl trivial ?_ rfl
  simp only [Try.ntmps58, List.size_toArray, List.length_cons, List.length_nil, Nat.reduceAdd, Nat.reduceSub, Array.replicate_succ, Array.replicate_zero, List.push_toArray, List.append_toArray, List.nil_append, List.cons_append]
  refine wpIn_wide.2 ?_
  have hx1 := Blk.new w 72 #[.pointer (some ⟨x.g, 0, none⟩)]
  have hb1 := (Below.refl w.heap.size w).alloc (Nat.le_refl _) (.cells #[.pointer (some ⟨x.g, 0, none⟩)] 72)
  have hz1 : (w.alloc (.cells #[.pointer (some ⟨x.g, 0, none⟩)] 72)).heap.size = w.heap.size + 1 := by simp
  have hx2 := Blk.new (w.alloc (.cells #[.pointer (some ⟨x.g, 0, none⟩)] 72)) 4 #[.bool false]
  have b2 := (Below.refl (w.alloc (.cells #[.pointer (some ⟨x.g, 0, none⟩)] 72)).heap.size (w.alloc (.cells #[.pointer (some ⟨x.g, 0, none⟩)] 72))).alloc (Nat.le_refl _) (.cells #[.bool false] 4)
  have hz2 : ((w.alloc (.cells #[.pointer (some ⟨x.g, 0, none⟩)] 72)).alloc (.cells #[.bool false] 4)).heap.size = w.heap.size + 2 := by simp
  go_upto_region 1 with (fail)
  rw [hz1] at hx2
  have hx1' := hx1.call b2
  have hb2 := hb1.trans (b2.mono hb1.size)
  clear hx1 b2 hb1 hz1
  generalize (w.alloc (.cells #[.pointer (some ⟨x.g, 0, none⟩)] 72)).alloc (.cells #[.bool false] 4) = W2 at *
  have t0 := hx1'.cell 0
  simp at t0
  go_upto_region 2 with (fail)
  have hx3 := Blk.new W2 98 #[.func (.func 54) #[.pointer (some ⟨x.g, 0, none⟩)] #[]]
  have b3 := (Below.refl W2.heap.size W2).alloc (Nat.le_refl _) (.cells #[.func (.func 54) #[.pointer (some ⟨x.g, 0, none⟩)] #[]] 98)
  have hz3 : (W2.alloc (.cells #[.func (.func 54) #[.pointer (some ⟨x.g, 0, none⟩)] #[]] 98)).heap.size = w.heap.size + 3 := by simp [hz2]
  rw [hz2] at hx3
  have hx1 := hx1'.call b3
  replace hx2 := hx2.call b3
  have hb3 := hb2.trans (b3.mono hb2.size)
  clear hx1' b3 hb2 hz2 t0
  generalize W2.alloc (.cells #[.func (.func 54) #[.pointer (some ⟨x.g, 0, none⟩)] #[]] 98) = W3 at *
  have t0 := hx1.cell 0
  simp at t0
  go_wp2_with fail
  refine (states_ok x.g i W3).mono ?_
  rintro e W5 ⟨rfl, hBB, hsz, hb5⟩
  rw [hz3] at hBB hsz
  have hinv : JnI w x c false W5 := ⟨hT.call (hb3.trans (hb5.mono hb3.size)), hx1.call hb5, hx2.call hb5, hx3.call hb5, Chg.of_below (hb3.trans (hb5.mono hb3.size)), by omega, hle⟩
  have hTF := hinv.tb.f
  clear t0 hx1 hx2 hx3 hb3 hb5
  go_wp2
  refine (wpIn_wide (n := 8)).1 ?_
  refine wpIn_rangeFunc_ownH (F := Fence.wide) (n := 8) (a := ?aa) rfl (by omega) (gf := 79) (lb := #[.pointer (some ⟨w.heap.size + 3, 0, none⟩), .pointer (some ⟨w.heap.size + 3 + 1, 0, none⟩)]) ?hgg trivial (enters_of Try.func79 (by kernel_rfl) rfl)
    (states1_stops 4 x c i (w.heap.size + 3) W5 hTF hBB hi (by omega)) ?hKt ?hKb (Below.refl _ _) ?hps
    (fun ys W => (∀ y ∈ ys, okU c i y.1 = false) ∧ JnI w x c false W)
    (fun cd ys W => cd = .ret ∧ (∃ u ∈ usedN c i, okU c i u = true) ∧ JnI w x c true W)
    ?hI ?hIx ⟨fun y hy => by (cases hy), hinv⟩ (UsAx (Act.tmps ?aa) 12 6 (w.heap.size + 5) c i) UsAx.own ?assign ?body ?done ?stop
  case hKt => exact fun h1 h2 => h1.trans h2
  case hKb => exact fun W l o o' hl _ _ _ => KeepS.putObj W l o' (by omega) (by omega)
  case hgg => rfl
  case hps => exact fun _ => rfl
  case hI =>
    intro s W W' row hs hg hr
    exact ⟨hs.1, hs.2.grown hg (fun r e => by obtain ⟨h1, h2⟩ := hr r e; omega)⟩
  case hIx =>
    intro cd s W W' row hs hg hr
    exact ⟨hs.1, hs.2.1, hs.2.2.grown hg (fun r e => by obtain ⟨h1, h2⟩ := hr r e; omega)⟩
  case assign =>
    intro l ys y W K hi' hK
    have hsz' := hi'.2.sz
    have hx := Blk.new W 94 #[.int .i64 (y.1 : Int), .int .i64 (i : Int)]
    have hk := hK ({ tmps := (_ : Array Value), defers := [] }) (W.alloc (.cells #[.int .i64 (y.1 : Int), .int .i64 (i : Int)] 94)) ((KeepsOthers.alloc _ _).from _) (KeepS.of_below ((Below.refl W.heap.size W).alloc (Nat.le_refl _) _) (by omega) (by omega)) ⟨hi'.1, hi'.2.grown (World.grownBy_alloc _ _ none) (fun r e => by cases e)⟩ ⟨W.heap.size, by omega, hx, rfl⟩
    simp [encUs]
    gi_wp2
    exact hk
  case body =>
    rintro l ys y a' W hl hr ⟨hall, hi'⟩ ⟨Bx, hBx, bX, rfl⟩ hlt
    simp only [List.setIfInBounds_toArray, List.set_cons_succ, List.set_cons_zero]
    obtain ⟨hy1, hy2⟩ := mem_used.1 y.2
    have hc1 := come_any x c y.1 i W hi'.tb hy1 hi hy2
    have hcs := come_small h8 y.1 i
    have t0 := hi'.bt.cell 0
    have b0 := bX.cell 0
    have b1 := bX.cell 1
    simp at t0 b0 b1
    have hok : okU c i y.1 = (decide (0 < comeN c y.1 i) && decide (0 < leftN c y.1 (some i))) := rfl
    have hga := hi'.tb.f.al
    have hgu := hi'.tb.f.ul
    have hszW := hi'.sz
    by_cases h0 : 0 < comeN c y.1 i
    · have d0 : decide ((0 : Int) < (comeN c y.1 i : Int)) = true := by simp; omega
      have d0' : decide (0 < comeN c y.1 i) = true := by simpa using h0
      rw [d0', Bool.true_and] at hok
      have HOK := Lib.hid hok
      clear hok h0
      gi_wp2_with fail
      refine ⟨trivial, (CallsIn.inRound _ (callsIn_wide.2 hc1)).mono ?_⟩
      rintro e W6 ⟨rfl, hT6, hC6⟩
      have hi6 := hi'.chg hT6 hC6
      have bX6 := hC6.blk bX (by omega) (by omega)
      clear t0 b0 b1 hc1
      have l0 := hi6.lf.cell 0
      have b0 := bX6.cell 0
      have b1 := bX6.cell 1
      simp at l0 b0 b1
      have hL := left_any x c y.1 (some i) W6 hT6 hy1 (fun j hj => by injection hj with hj; omega)
      simp only [lastI] at hL
      obtain ⟨L, hLe⟩ : ∃ L, L = leftN c y.1 (some i) := ⟨_, rfl⟩
      rw [← hLe] at hL HOK
      clear hLe
      gi_wp2_with fail
      refine ⟨trivial, (CallsIn.inRound _ (callsIn_wide.2 hL)).mono ?_⟩
      rintro e W7 ⟨rfl, hT7, hC7⟩
      have hi7 := hi6.chg hT7 hC7
      have hC7' := hC6.trans hC7
      clear l0 b0 b1 hL
      have rz := hi7.rs.frozen 0
      have r0 := hi7.rs.cell 0
      simp at r0
      by_cases h1 : 0 < L
      · have d1 : decide ((0 : Int) < (L : Int)) = true := by simp; omega
        have d1' : decide (0 < L) = true := by simpa using h1
        have HY : Hid (okU c i y.1 = true) := by rw [Hid, HOK.out, d1']
        have hi8 := hi7.put true
        clear h1
        gi_wp2
        generalize hW8 : W7.setCell ⟨w.heap.size + 1, 0, none⟩ (.bool true) = W8 at *
        have hgs : W7.grownBy W8 (some (w.heap.size + 1)) := by rw [← hW8]; exact grown_setCell _
        have hblk : ∀ k, k < W.heap.size → k ≠ x.ga → k ≠ x.gu → k ≠ w.heap.size + 1 → W8.heap[k]? = W.heap[k]? :=
          fun k hk h1 h2 h3 => (hgs.block k (Nat.lt_of_lt_of_le hk hC7'.size) (fun e => h3 (by injection e with e; try exact e.symm))).trans (hC7'.block k hk h1 h2)
        exact ⟨⟨Nat.le_trans hC7'.size hgs.size, fun k o hk ho hc => (hblk k (Array.getElem?_eq_some_iff.1 ho).1 (by omega) (by omega) (by omega)).trans ho⟩, rfl, ⟨y.1, y.2, HY.out⟩, hi8⟩
      · have d1 : decide ((0 : Int) < (L : Int)) = false := by simp; omega
        have d1' : decide (0 < L) = false := by simpa using h1
        have HY : Hid (okU c i y.1 = false) := by rw [Hid, HOK.out, d1']
        clear h1
        gi_wp2
        refine ⟨⟨hC7'.size, fun k o hk ho hc => (hC7'.block k (Array.getElem?_eq_some_iff.1 ho).1 (by omega) (by omega)).trans ho⟩, KeepS.chg hC7' (by omega) (by omega), fun z hz => ?_, hi7⟩
        rcases List.mem_append.1 hz with hz | hz
        · exact hall z hz
        · rw [List.mem_singleton.1 hz]; exact HY.out
    · have d0 : decide ((0 : Int) < (comeN c y.1 i : Int)) = false := by simp; omega
      have d0' : decide (0 < comeN c y.1 i) = false := by simpa using h0
      rw [d0', Bool.false_and] at hok
      have HY := Lib.hid hok
      clear hok h0
      gi_wp2_with fail
      refine ⟨trivial, (CallsIn.inRound _ (callsIn_wide.2 hc1)).mono ?_⟩
      rintro e W6 ⟨rfl, hT6, hC6⟩
      have hi6 := hi'.chg hT6 hC6
      clear t0 b0 b1 hc1
      gi_wp2
      repeat (refine ⟨fun _ h => (by cases h), ?_⟩; gi_wp2)
      refine ⟨⟨hC6.size, fun k o hk ho hc => (hC6.block k (Array.getElem?_eq_some_iff.1 ho).1 (by omega) (by omega)).trans ho⟩, KeepS.chg hC6 (by omega) (by omega), fun z hz => ?_, hi6⟩
      rcases List.mem_append.1 hz with hz | hz
      · exact hall z hz
      · rw [List.mem_singleton.1 hz]; exact HY.out
  case done =>
    rintro D xs W hD hS ⟨hall, hi'⟩ hdf
    have HJ : Hid (joinedN c i = false) := by
      rw [Hid, joinedN_used, ← hS, List.any_map, List.any_eq_false]
      intro y hy
      rw [Function.comp, hall y hy]; simp
    have hszW := hi'.sz
    have rz := hi'.rs.frozen 0
    have r0 := hi'.rs.cell 0
    simp at r0
    have hi8 := hi'.put false
    have hdf2 : (W.setCell ⟨w.heap.size + 1, 0, none⟩ (.bool false)).heap[D]? = some (.deferred (some [])) := ((grown_setCell (w := W) (g := w.heap.size + 1) (o := 0) (.bool false)).block D (Array.getElem?_eq_some_iff.1 hdf).1 (fun e => by injection e; omega)).trans hdf
    clear hS hall hdf
    go_wp2
    generalize W.setCell ⟨w.heap.size + 1, 0, none⟩ (.bool false) = WE at *
    refine ⟨by simp, .inl ⟨_, _, rfl, run_takeDeferred hdf2, ?_⟩⟩
    have hiD := hi8.grown (grownBy_putObj' WE D (.deferred none)) (fun ρ e => by injection e; omega)
    have r1 := hiD.rs.cell 0
    simp at r1
    exact ⟨.bool false, by simp [results, Try.results58, go_sem, r1], by rw [HJ.out], hiD.tb, hiD.ch⟩
  case stop =>
    rintro D cd ys W hD hS ⟨rfl, hex, hi'⟩ hdf
    have HJ : Hid (joinedN c i = true) := by
      rw [Hid, joinedN_used, List.any_eq_true]
      exact hex
    refine wpIn_wide.2 ?_
    dsimp only
    clear hex hS
    go_wp2
    refine ⟨by simp, .inl ⟨_, _, rfl, run_takeDeferred hdf, ?_⟩⟩
    have hiD := hi'.grown (grownBy_putObj' W D (.deferred none)) (fun ρ e => by injection e; omega)
    have r1 := hiD.rs.cell 0
    simp at r1
    exact ⟨.bool true, by simp [results, Try.results58, go_sem, r1], by rw [HJ.out], hiD.tb, hiD.ch⟩
end Go.Proofs.Ytjjjockfppomdaa
