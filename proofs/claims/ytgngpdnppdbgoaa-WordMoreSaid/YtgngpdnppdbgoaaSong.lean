/- The song: lines with a dictionary. Contracts: matched, before. -/
import Derived.Test.YtgngpdnppdbgoaaAlk
import Derived.Test.YtgngpdnppdbgoaaNextP
namespace Go.Proofs.Ytgngpdnppdbgoaa
open Go.RowKit Go.Shelf
set_option linter.unusedVariables false

/-- block gs is a song: its dictionary in block d, its lines, and a slice of places -/
structure Song (W : World) (B gs d : Nat) (b : List (Int × Int)) (ls : List (List Int)) (la : Option Addr) (lc : Nat) (av : Value) : Prop where
  sb : Blk W gs 78 #[.pointer (some ⟨d, 0, none⟩), .slice la ls.length lc, av]
  db : ∃ lv, DictB W d lv (cls (nats b))
  ln : LLB W B (.slice la ls.length lc) ls
  lo : B ≤ gs ∧ B ≤ d ∧ gs ≠ d
  good : Good b ls
section
variable {W W' : World} {B gs d : Nat} {b : List (Int × Int)} {ls : List (List Int)} {la : Option Addr} {lc : Nat} {av : Value}
theorem Song.lt (h : Song W B gs d b ls la lc av) : gs < W.heap.size ∧ d < W.heap.size ∧ B ≤ W.heap.size := by
  obtain ⟨lv, hd⟩ := h.db
  have h1 := h.sb.lt
  have h2 := hd.lt
  have h3 := h.lo
  omega
theorem Song.call (h : Song W B gs d b ls la lc av) (hb : Below W.heap.size W W') : Song W' B gs d b ls la lc av := by
  have h1 := h.lt
  obtain ⟨lv, hd⟩ := h.db
  exact ⟨h.sb.call hb, ⟨lv, hd.call hb⟩, h.ln.below (hb.mono h1.2.2), h.lo, h.good⟩
theorem Song.grown {row : Option Nat} (h : Song W B gs d b ls la lc av) (hg : W.grownBy W' row) (hr : ∀ r, row = some r → B ≤ r ∧ r ≠ gs ∧ r ≠ d) : Song W' B gs d b ls la lc av := by
  have h1 := h.lt
  obtain ⟨lv, hd⟩ := h.db
  exact ⟨h.sb.grown hg (fun e => (hr _ e.symm).2.1 rfl), ⟨lv, hd.grown hg (fun e => (hr _ e.symm).2.2 rfl)⟩, h.ln.keep (fun p hp => World.cell?_of_block (hg.block p.block (by omega) (fun e => by have := (hr _ e.symm).1; omega))), h.lo, h.good⟩
theorem Song.put (h : Song W B gs d b ls la lc av) (av' : Value) : Song (W.setCell ⟨gs, 2, none⟩ av') B gs d b ls la lc av' := by
  obtain ⟨lv, hd⟩ := h.db
  have hg : W.grownBy (W.setCell ⟨gs, 2, none⟩ av') (some gs) := grown_setCell _
  have h1 := h.lt
  have h2 := h.lo
  refine ⟨by simpa using h.sb.set_ 2 av', ⟨lv, hd.grown hg (fun e => h2.2.2 (by injection e with e; exact e.symm))⟩, h.ln.keep fun p hp => World.cell?_of_block (hg.block p.block (by omega) (fun e => by injection e; omega)), h2, h.good⟩
theorem Song.c3 (h : Song W B gs d b ls la lc av) : W.cell? ⟨gs, 0, none⟩ = some (.pointer (some ⟨d, 0, none⟩)) ∧ W.cell? ⟨gs, 1, none⟩ = some (.slice la ls.length lc) ∧ W.cell? ⟨gs, 2, none⟩ = some av := by
  simp [h.sb.cell]
theorem Song.line (h : Song W B gs d b ls la lc av) {j : Nat} (hj : j < ls.length) :
    ∃ l lb lo A c, ls.getD j [] = l ∧ la = some ⟨lb, lo, none⟩ ∧ lb < B ∧ W.cell? ⟨lb, lo + j, none⟩ = some (.slice A l.length c) ∧ Arr W B 1 (.slice A l.length c) l icell := by
  have hl : ls[j]? = some (ls.getD j []) := by rw [List.getD_eq_getElem?_getD, List.getElem?_eq_getElem hj]; rfl
  obtain ⟨lb, lo, A, c, h1, h2, h3, h4⟩ := h.ln.at_ hl
  exact ⟨_, lb, lo, A, c, rfl, h1, h2, h3, h4⟩
/-- a word of a line, at an index -/
theorem Song.word (h : Song W B gs d b ls la lc av) {j i : Nat} (hj : j < ls.length) (hi : i < (ls.getD j []).length) :
    ∃ l x lb lo nb no c, wordAt ls j i = x ∧ ls.getD j [] = l ∧ i < l.length ∧ isWordB x = true ∧ la = some ⟨lb, lo, none⟩ ∧ W.cell? ⟨lb, lo + j, none⟩ = some (.slice (some ⟨nb, no, none⟩) l.length c) ∧ W.cell? ⟨nb, no + i, none⟩ = some (.int .i64 x) := by
  obtain ⟨l, lb, lo, A, c, h1, h2, h3, h4, h5⟩ := h.line hj
  rw [h1] at hi
  obtain ⟨nb, no, h6, h7, h8⟩ := num_at h5 hi
  subst h6
  refine ⟨l, _, lb, lo, nb, no, c, rfl, h1, hi, ?_, h2, h4, ?_⟩
  · have hm : ls.getD j [] ∈ ls := by rw [List.getD_eq_getElem?_getD, List.getElem?_eq_getElem hj]; exact List.getElem_mem hj
    refine h.good.word _ hm _ ?_
    show (ls.getD j []).getD i 0 ∈ ls.getD j []
    rw [h1, List.getD_eq_getElem?_getD, List.getElem?_eq_getElem hi]
    exact List.getElem_mem hi
  · unfold wordAt
    rw [h1]
    exact h8
end
theorem alikeI_ok (d : Nat) (lv : Value) (b : List (Int × Int)) (x y : Int) (w : World) (hd : DictB w d lv (cls (nats b))) (hx : isWordB x = true) (hy : isWordB y = true) :
    Calls Try.prog 49 #[.pointer (some ⟨d, 0, none⟩), .int .i64 x, .int .i64 y] w fun r w' => r = .returned (.bool (likeB b x y)) ∧ Below w.heap.size w w' := by
  rw [isWordB_iff] at hx hy
  obtain ⟨xn, rfl⟩ : ∃ xn : Nat, x = (xn : Int) := ⟨x.toNat, by omega⟩
  obtain ⟨yn, rfl⟩ : ∃ yn : Nat, y = (yn : Int) := ⟨y.toNat, by omega⟩
  have := alike_ok d lv _ xn yn w hd (by omega) (by omega)
  unfold likeB clsI
  rw [Int.toNat_natCast, Int.toNat_natCast]
  exact this
/-- the words at indexes are alike to the first one, as far as looked at -/
def okAt (b : List (Int × Int)) (ls : List (List Int)) (m : List Nat) (h : Nat) : Bool := likeB b (wordAt ls h (at0 m h)) (wordAt ls 0 (at0 m 0))
theorem mtB_false {b : List (Int × Int)} {ls : List (List Int)} {m : List Nat} {h : Nat} (hh : h < ls.length) (hf : okAt b ls m h = false) : mtB b ls m = false := by
  cases hm : mtB b ls m with
  | false => rfl
  | true =>
    unfold mtB at hm
    have := List.all_eq_true.1 hm h (List.mem_range.2 hh)
    unfold okAt at hf
    rw [hf] at this
    cases this
theorem mtB_true {b : List (Int × Int)} {ls : List (List Int)} {m : List Nat} (h : ∀ j, j < ls.length → okAt b ls m j = true) : mtB b ls m = true := by
  unfold mtB
  rw [List.all_eq_true]
  exact fun j hj => h j (List.mem_range.1 hj)

set_option maxRecDepth 100000 in
set_option maxHeartbeats 1600000 in
theorem matched_ok (B gs d : Nat) (b : List (Int × Int)) (ls : List (List Int)) (la : Option Addr) (lc : Nat) (av : Value) (m : List Nat) (w : World) (hs : Song w B gs d b ls la lc av) (hm : ∀ h, h < ls.length → at0 m h < (ls.getD h []).length) :
    Calls Try.prog 69 #[.pointer (some ⟨gs, 0, none⟩), plV m] w fun r w' => r = .returned (.bool (mtB b ls m)) ∧ Below w.heap.size w w' := by
  have h2 := hs.good.two
  have h4 := hs.good.four
  have HM := Lib.hid hm
  clear hm
  go_enter Try.func69, Try.ntmps69
  go_upto_region 1 with (fail)
  have hX := Blk.new w 88 (plC m)
  have hB := (Below.refl w.heap.size w).alloc (Nat.le_refl _) (.cells (plC m) 88)
  have hS := hs.call hB
  have e : w.alloc (.cells #[.int .i64 (at0 m 0 : Int), .int .i64 (at0 m 1 : Int), .int .i64 (at0 m 2 : Int), .int .i64 (at0 m 3 : Int)] 88) = w.alloc (.cells (plC m) 88) := rfl
  rw [e]
  clear e hs
  generalize w.alloc (.cells (plC m) 88) = W at *
  obtain ⟨xb, hxb⟩ : ∃ xb, xb = w.heap.size := ⟨_, rfl⟩
  rw [← hxb] at hX ⊢
  have HXB := Lib.hid hxb
  clear hxb
  obtain ⟨q0, q1, q2⟩ := hS.c3
  go_wp2
  go_loopw [12] (fun i wr => ∃ h : Nat, h ≤ ls.length ∧ i = .int .i64 h ∧ Hid (∀ j, j < h → okAt b ls m j = true) ∧ Below W.heap.size W wr) (fun i _ => ls.length - (intOf i).toNat)
  case atStart => exact ⟨0, Nat.zero_le _, rfl, fun j hj => absurd hj (Nat.not_lt_zero _), Below.refl _ _⟩
  case round =>
    obtain ⟨h, hh, rfl, hok, hbr⟩ := hrel
    have hSr := hS.call hbr
    clear q0 q1 q2
    by_cases hlt : h < ls.length
    · have d1 : decide (h < ls.length) = true := decide_eq_true hlt
      have d1' : decide ((h : Int) < (ls.length : Int)) = true := decide_eq_true (by omega)
      have hki : (h : Int) < (ls.length : Int) := by omega
      have ek : IntKind.i64.wrap ((h : Int) + 1) = ((h + 1 : Nat) : Int) := by rw [IntKind.wrap_i64]; omega
      have h4i : (h : Int) < 4 := by omega
      obtain ⟨l1, x1, lb, lo, nb, no, c, hx1, hl1, hi1, hw1, hla, hc, hn⟩ := hSr.word hlt (HM.out h hlt)
      subst hla
      obtain ⟨l0, x0, lb', lo', nb0, no0, c0, hx0, hl0, hi0, hw0, e1, hc0, hn0⟩ := hSr.word (show 0 < ls.length by omega) (HM.out 0 (by omega))
      injection e1 with e1
      injection e1 with e1 e2
      subst e1 e2
      obtain ⟨lv, hd⟩ := hSr.db
      have HA : Hid (∀ y : Ext wr, Calls Try.prog 49 #[.pointer (some ⟨d, 0, none⟩), .int .i64 x1, .int .i64 x0] y.w fun r w' => r = .returned (.bool (okAt b ls m h)) ∧ ∃ z : Ext wr, w' = z.w) := fun y => by
        have := ext_call y (alikeI_ok d lv b x1 x0 y.w (hd.call y.h) hw1 hw0)
        unfold okAt
        rw [hx1, hx0]
        exact this
      have hXr := hX.call hbr
      obtain ⟨q0, q1, q2⟩ := hSr.c3
      have f0 := Ext.of q0
      have f1 := Ext.of q1
      have f2 := Ext.of (show wr.cell? ⟨xb, h, none⟩ = some (.int .i64 (at0 m h : Int)) by rw [hXr.cell]; exact plC_at m (by omega))
      have f3 := Ext.of (show wr.cell? ⟨xb, 0, none⟩ = some (.int .i64 (at0 m 0 : Int)) by rw [hXr.cell]; exact plC_at m (by omega))
      have f4 := Ext.of hn
      have f5 := Ext.of hn0
      rw [Nat.add_zero] at hc0
      have f6 := Ext.of hc0
      have g1 : (at0 m h : Int) < (l1.length : Int) := by omega
      have g0 : (at0 m 0 : Int) < (l0.length : Int) := by omega
      have gl : (0 : Int) < (ls.length : Int) := by omega
      clear q0 q1 q2 hd hw1 hw0 hn hn0 hc0 hx1 hx0 hl1 hl0 hXr hSr
      go_upto_region 4 with (fail)
      clear hc
      cases hok1 : okAt b ls m h
      · rw [hok1] at HA
        have HF := Lib.hid (mtB_false hlt hok1)
        clear hok1
        refine wp_region_ext (by kernel_rfl) (by kernel_rfl) ?_
        repeat (go_big_quiet_step ((go_at_call 49; with_reducible exact HA.out _)))
        refine wpQuiet_nil ?_
        intro _ hw'
        obtain ⟨xr, hw''⟩ := hw'
        subst hw''
        have hbz := hbr.trans (xr.h.mono hbr.size)
        go_wp2
        go_ret
        exact ⟨by rw [HF.out]; rfl, hB.trans (hbz.mono hB.size)⟩
      · rw [hok1] at HA
        have HOK : Hid (∀ j, j < h + 1 → okAt b ls m j = true) := fun j hj => by
          by_cases e : j = h
          · rw [e]; exact hok1
          · exact hok.out j (by omega)
        clear hok1 hok
        refine wp_region_ext (by kernel_rfl) (by kernel_rfl) ?_
        repeat (go_big_quiet_step ((go_at_call 49; with_reducible exact HA.out _)))
        refine wpQuiet_nil ?_
        intro _ hw'
        obtain ⟨xr, hw''⟩ := hw'
        subst hw''
        have hbz := hbr.trans (xr.h.mono hbr.size)
        go_wp2
        go_roundw
        case rel => exact ⟨h + 1, by omega, by go_num, HOK, hbz⟩
        case measure => (simp [intOf]; try omega)
    · obtain rfl : h = ls.length := by omega
      have d1 : decide (ls.length < ls.length) = false := by simp
      have HT : Hid (mtB b ls m = true) := mtB_true hok.out
      go_wp2
      go_ret
      exact ⟨by rw [HT.out]; rfl, hB.trans (hbr.mono hB.size)⟩
end Go.Proofs.Ytgngpdnppdbgoaa
