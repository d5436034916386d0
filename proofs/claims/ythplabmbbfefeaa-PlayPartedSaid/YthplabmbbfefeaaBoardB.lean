/- Contracts: sum, greatest, fill's function literal, stretches. -/
import Derived.Test.YthplabmbbfefeaaBoard
namespace Go.Proofs.Ythplabmbbfefeaa
open Go.RowKit Go.Shelf
set_option linter.unusedVariables false

/-- a function value that gives number i's worth, in every world in which the board's block alone has turned, and still is a board of this cylinder -/
def Gives (w : World) (B g : Nat) (c : Cyl) (fn : FuncId) (fs cs : Array Value) (n : Nat) (ws : Nat → Int) : Prop :=
  (∀ args w, (callFunc fn args).run Try.prog w = .ok (.enter fn args) w) ∧
  ∀ i, i < n → ∀ w1 V m, w.grownBy w1 (some g) → BoardAt w1 B g c V m → Calls Try.prog fn (fs.push (.int .i64 (i : Int)) ++ cs) w1 fun e w2 => e = .returned (.int .i64 (ws i)) ∧ Below w1.heap.size w1 w2

theorem grown_trans' {a b d : World} {r : Option Nat} (h : a.grownBy b r) (k : b.grownBy d r) : a.grownBy d r :=
  ⟨k.os.trans h.os, k.tape.trans h.tape, k.output.trans h.output, Nat.le_trans h.size k.size, fun i hi hr => (k.block i (Nat.lt_of_lt_of_le hi h.size) hr).trans (h.block i hi hr)⟩
theorem grown_call {w w' : World} (h : Below w.heap.size w w') (r : Option Nat) : w.grownBy w' r := ⟨h.os, h.tape, h.output, h.size, fun k hk _ => h.block k hk⟩
theorem Gives.grown {w w' : World} {B g : Nat} {c : Cyl} {fn : FuncId} {fs cs : Array Value} {n : Nat} {ws : Nat → Int} (h : Gives w B g c fn fs cs n ws) (hb : w.grownBy w' (some g)) : Gives w' B g c fn fs cs n ws :=
  ⟨h.1, fun i hi w1 V m h1 h2 => h.2 i hi w1 V m (grown_trans' hb h1) h2⟩

set_option maxRecDepth 100000 in
set_option maxHeartbeats 800000 in
theorem sum_ok (B g : Nat) (c : Cyl) (s : Str) (V : Nat → Nat → Int) (m : Value) (w : World) (h : BoardAt w B g c V m) (fn : FuncId) (fs cs : Array Value) (ws : Nat → Int) (hg : Gives w B g c fn fs cs c.pas.length ws)
    (hws : ∀ i, -100000 ≤ ws i ∧ ws i ≤ 100000) (hlen : c.pas.length ≤ 12) :
    Calls Try.prog 66 #[.pointer (some ⟨g,0,none⟩), .agg #[.int .i64 s.a, .int .i64 s.b], .func (.func fn) fs cs] w fun r w' => r = .returned (.int .i64 (sumW ws s 0 c.pas)) ∧ Below w.heap.size w w' := by
  obtain ⟨fa, fc, pa, pc, h⟩ := h
  have hx := Blk.new w 55 #[.int .i64 s.a, .int .i64 s.b]
  have hB := (Below.refl w.heap.size w).alloc (Nat.le_refl _) (.cells #[.int .i64 s.a, .int .i64 s.b] 55)
  have hh := h.alloc (.cells #[.int .i64 s.a, .int .i64 s.b] 55)
  have hl := h.ps.len_.2
  obtain ⟨hl1, hl2⟩ := hl
  clear h
  obtain ⟨eg, hgc⟩ := hg
  go_enter Try.func66, Try.ntmps66
  go_upto_region 1 with (fail)
  generalize hW : w.alloc (.cells #[.int .i64 s.a, .int .i64 s.b] 55) = W at *
  clear hW
  obtain ⟨k0, k1, k2, k3, k4⟩ := hh.c5
  go_wp2
  go_loopw [7, 16] (fun a i wr => ∃ (k : Nat) (n : Int), k ≤ c.pas.length ∧ i = .int .i64 k ∧ a = .int .i64 n ∧ sumW ws s 0 c.pas = n + sumW ws s k (c.pas.drop k) ∧ -(100000 * (k : Int)) ≤ n ∧ n ≤ 100000 * (k : Int) ∧ Below W.heap.size W wr) (fun _ i _ => c.pas.length - (intOf i).toNat)
  case atStart => exact ⟨0, 0, Nat.zero_le _, rfl, rfl, by simp, by omega, by omega, Below.refl _ _⟩
  case round =>
    obtain ⟨k, n, hk, rfl, rfl, hs, n1, n2, hb⟩ := hrel
    have hBr := hB.trans (hb.mono hB.size)
    have hr := hh.call hb
    have hxr := hx.call hb
    clear k0 k1 k2 k3 k4
    obtain ⟨k0, k1, k2, k3, k4⟩ := hr.c5
    by_cases hlt : k < c.pas.length
    · obtain ⟨b, off, p, rfl, hBb, hp, hcc⟩ := hr.ps.at_ hlt
      have c0 := hcc 0 (by omega)
      have c1 := hcc 1 (by omega)
      have c2 := hcc 2 (by omega)
      simp only [Nat.add_zero, pcell] at c0 c1 c2
      rw [sumW_drop ws s c.pas k p hp] at hs
      have HS := Lib.hid hs
      clear hs hp hcc
      have hw1 := hws k
      have q1 := hxr.lt
      have q2 := hr.blk.lt
      have q3 : b < wr.heap.size := by have := hr.le; omega
      have s0 := hxr.cell 0
      have s1 := hxr.cell 1
      simp at s0 s1
      have hBa := hb.alloc hb.size (.cells #[.int .i64 p.a, .int .i64 p.b, .int .i64 p.w] 49)
      have HG := Lib.hid (hgc k hlt)
      clear hgc
      go_wp2_with fail
      refine (has_ok s p _).mono ?_
      rintro e w1 ⟨rfl, hb1⟩
      have hB1 := hBa.trans (hb1.mono (by have := hb.size; simp; omega))
      have hBw := hB.trans (hB1.mono hB.size)
      have hbd1 := (hr.alloc (.cells #[.int .i64 p.a, .int .i64 p.b, .int .i64 p.w] 49)).call hb1
      cases hh2 : hasP s p
      · have HQ : Hid (sumW ws s 0 c.pas = n + sumW ws s (k + 1) (c.pas.drop (k + 1))) := by rw [Hid, HS.out, hh2]; simp
        clear hh2
        go_wp2
        go_roundw
        case rel => exact ⟨k + 1, n, by omega, by go_num, rfl, HQ.out, by omega, by omega, hB1⟩
        case measure => simp [intOf]; omega
      · have HQ : Hid (sumW ws s 0 c.pas = (n + ws k) + sumW ws s (k + 1) (c.pas.drop (k + 1))) := by rw [Hid, HS.out, hh2, Int.add_assoc]; simp
        clear hh2
        go_wp2_with fail
        refine (HG.out _ V m (grown_call hBw _) ⟨_, _, _, _, hbd1⟩).mono ?_
        rintro e w2 ⟨rfl, hb2⟩
        have hB2 := hB1.trans (hb2.mono hB1.size)
        go_wp2
        go_roundw
        case rel => exact ⟨k + 1, n + ws k, by omega, by go_num, rfl, HQ.out, by omega, by omega, hB2⟩
        case measure => simp [intOf]; omega
    · obtain rfl : k = c.pas.length := by omega
      have HS := Lib.hid hs
      clear hs
      go_wp2
      go_ret
      exact ⟨ret_i (by rw [HS.out]; simp [sumW]), hBr⟩

def ccell (y : Cho) : Nat → Value
  | 0 => .int .i64 y.s.a
  | 1 => .int .i64 y.s.b
  | _ => .int .i64 y.x

theorem choW_ok (y : Cho) (w : World) :
    Calls Try.prog 73 #[.agg #[.int .i64 y.s.a, .int .i64 y.s.b, .int .i64 y.x]] w fun r w' => r = .returned (.int .i64 y.x) ∧ Below w.heap.size w w' := by
  go_enter Try.func73, Try.ntmps73
  go_wp2
  go_ret
  exact ⟨rfl, (Below.refl _ _).alloc (Nat.le_refl _) _⟩

set_option maxRecDepth 100000 in
set_option maxHeartbeats 1600000 in
theorem greatest_ok (sv : Value) (l : List Cho) (w : World) (hne : l ≠ []) (hs : Arr w w.heap.size 3 sv l ccell) :
    Calls Try.prog 72 #[sv, .func (.func 73) #[] #[]] w fun r w' => r = .returned (.agg #[.int .i64 (pick l).s.a, .int .i64 (pick l).s.b, .int .i64 (pick l).x]) ∧ Below w.heap.size w w' := by
  obtain ⟨sa, sc, rfl, hs'⟩ := id hs
  clear hs'
  have hpos : 0 < l.length := List.length_pos_iff.2 hne
  obtain ⟨b, off, y, rfl, hBb, hy, hcc⟩ := hs.at_ hpos
  obtain ⟨_, hl1, hl2⟩ := hs.len_
  have c0 := hcc 0 (by omega)
  have c1 := hcc 1 (by omega)
  have c2 := hcc 2 (by omega)
  simp only [Nat.add_zero, Nat.zero_mul, ccell] at c0 c1 c2
  clear hcc
  have hel : ∀ k, k + 1 < l.length → ∃ x : Cho, l[k + 1]? = some x ∧ w.cell? ⟨b, off + 3 + k * 3, none⟩ = some (.int .i64 x.s.a) ∧ w.cell? ⟨b, off + 3 + k * 3 + 1, none⟩ = some (.int .i64 x.s.b) ∧ w.cell? ⟨b, off + 3 + k * 3 + 2, none⟩ = some (.int .i64 x.x) := by
    intro k hk
    obtain ⟨b', off', x, hA, _, hx, hc⟩ := hs.at_ hk
    simp only [Option.some.injEq, Addr.mk.injEq, and_true] at hA
    obtain ⟨rfl, rfl⟩ := hA
    refine ⟨x, hx, ?_, ?_, ?_⟩
    · have := hc 0 (by omega); rw [show off + (k + 1) * 3 + 0 = off + 3 + k * 3 by omega] at this; exact this
    · have := hc 1 (by omega); rw [show off + (k + 1) * 3 + 1 = off + 3 + k * 3 + 1 by omega] at this; exact this
    · have := hc 2 (by omega); rw [show off + (k + 1) * 3 + 2 = off + 3 + k * 3 + 2 by omega] at this; exact this
  have HEL := Lib.hid hel
  have hpick : pick l = (l.drop 1).foldl greater y := by
    cases l with
    | nil => simp at hpos
    | cons z r => simp at hy; subst hy; rfl
  have HPK := Lib.hid hpick
  clear hel hpick
  obtain ⟨res, hres⟩ : ∃ res, res = pick l := ⟨_, rfl⟩
  rw [← hres]
  have HRES := Lib.hid hres
  clear hres
  have hxo := Blk.new (w.alloc (.cells #[.int .i64 0, .int .i64 0, .int .i64 0] 111)) 111 #[.int .i64 y.s.a, .int .i64 y.s.b, .int .i64 y.x]
  have hxr := (Blk.new w 111 #[.int .i64 0, .int .i64 0, .int .i64 0]).alloc (.cells #[.int .i64 y.s.a, .int .i64 y.s.b, .int .i64 y.x] 111)
  have hB := ((Below.refl w.heap.size w).alloc (Nat.le_refl _) (.cells #[.int .i64 0, .int .i64 0, .int .i64 0] 111)).alloc (by simp) (.cells #[.int .i64 y.s.a, .int .i64 y.s.b, .int .i64 y.x] 111)
  rw [show (w.alloc (.cells #[.int .i64 0, .int .i64 0, .int .i64 0] 111)).heap.size = w.heap.size + 1 by simp] at hxo
  have hHY := Lib.hid hy
  clear hy
  by_cases hsc : sc = 1
  case pos =>
    have hl0 : l.length = 1 := by omega
    have HL0 := Lib.hid hl0
    have HSC := Lib.hid hsc
    subst hsc
    go_enter Try.func72, Try.ntmps72
    go_wp2
    generalize hW : (w.alloc (.cells #[.int .i64 0, .int .i64 0, .int .i64 0] 111)).alloc (.cells #[.int .i64 y.s.a, .int .i64 y.s.b, .int .i64 y.x] 111) = W at *
    clear hW
    go_loopw [14] (fun i wr => i = .int .i64 0 ∧ Blk wr (w.heap.size + 1) 111 #[.int .i64 y.s.a, .int .i64 y.s.b, .int .i64 y.x] ∧ Blk wr w.heap.size 111 #[.int .i64 0, .int .i64 0, .int .i64 0] ∧ Below w.heap.size w wr) (fun _ _ => 0)
    case atStart => exact ⟨rfl, hxo, hxr, hB⟩
    case round =>
      obtain ⟨rfl, ho, hr, hb⟩ := hrel
      have HE : Hid (res = y) := by rw [Hid, HRES.out, HPK.out, List.drop_eq_nil_of_le (Nat.le_of_eq HL0.out)]; rfl
      clear hl0
      have hl3 : l.length - 1 = 0 := by rw [HL0.out]
      have o0 := ho.cell 0
      have o1 := ho.cell 1
      have o2 := ho.cell 2
      have r0 := hr.cell 0
      have r1 := hr.cell 1
      have r2 := hr.cell 2
      simp at o0 o1 o2 r0 r1 r2
      have z0 := hr.frozen 0
      have z1 := hr.frozen 1
      have z2 := hr.frozen 2
      go_wp2
      have hr2 := ((hr.set_ 0 (.int .i64 y.s.a)).set_ 1 (.int .i64 y.s.b)).set_ 2 (.int .i64 y.x)
      have t0 := hr2.cell 0
      have t1 := hr2.cell 1
      have t2 := hr2.cell 2
      have hb2 := ((hb.setCell (p := ⟨w.heap.size, 0, none⟩) (by simp) (.int .i64 y.s.a)).setCell (p := ⟨w.heap.size, 1, none⟩) (by simp) (.int .i64 y.s.b)).setCell (p := ⟨w.heap.size, 2, none⟩) (by simp) (.int .i64 y.x)
      generalize ((wr.setCell ⟨w.heap.size, 0, none⟩ (.int .i64 y.s.a)).setCell ⟨w.heap.size, 1, none⟩ (.int .i64 y.s.b)).setCell ⟨w.heap.size, 2, none⟩ (.int .i64 y.x) = W3 at *
      simp at t0 t1 t2
      rw [HE.out]
      exact bodyPost_ret (v := .agg #[.int .i64 y.s.a, .int .i64 y.s.b, .int .i64 y.x]) (by simp [results, Try.results72, go_sem, t0, t1, t2]) rfl ⟨rfl, hb2⟩
  case neg =>
    go_enter Try.func72, Try.ntmps72
    go_wp2
    generalize hW : (w.alloc (.cells #[.int .i64 0, .int .i64 0, .int .i64 0] 111)).alloc (.cells #[.int .i64 y.s.a, .int .i64 y.s.b, .int .i64 y.x] 111) = W at *
    clear hW
    go_loopw [14] (fun i wr => ∃ (k : Nat) (o : Cho), k + 1 ≤ l.length ∧ i = .int .i64 k ∧ pick l = (l.drop (k + 1)).foldl greater o ∧ Blk wr (w.heap.size + 1) 111 #[.int .i64 o.s.a, .int .i64 o.s.b, .int .i64 o.x] ∧ Blk wr w.heap.size 111 #[.int .i64 0, .int .i64 0, .int .i64 0] ∧ Below w.heap.size w wr) (fun i _ => l.length - (intOf i).toNat)
    case atStart => exact ⟨0, y, by omega, rfl, HPK.out, hxo, hxr, hB⟩
    case round =>
      obtain ⟨k, o, hk, rfl, hp, ho, hr, hb⟩ := hrel
      by_cases hlt : k + 1 < l.length
      · obtain ⟨x, hx, d0, d1, d2⟩ := HEL.out k hlt
        have e0 := (hb.cell (p := ⟨b, off + 3 + k * 3, none⟩) hBb).trans d0
        have e1 := (hb.cell (p := ⟨b, off + 3 + k * 3 + 1, none⟩) hBb).trans d1
        have e2 := (hb.cell (p := ⟨b, off + 3 + k * 3 + 2, none⟩) hBb).trans d2
        clear d0 d1 d2
        have hstep : (l.drop (k + 1)).foldl greater o = (l.drop (k + 1 + 1)).foldl greater (greater o x) := by
          rw [List.drop_eq_getElem_cons hlt, show l[k + 1] = x by rw [List.getElem?_eq_getElem hlt] at hx; injection hx, List.foldl_cons]
        rw [hstep] at hp
        have HP := Lib.hid hp
        clear hp hstep hx
        have q1 := ho.lt
        have q2 : b < wr.heap.size := by have := hb.size; omega
        have hon := ho.alloc (.cells #[.int .i64 x.s.a, .int .i64 x.s.b, .int .i64 x.x] 111)
        have hrn := hr.alloc (.cells #[.int .i64 x.s.a, .int .i64 x.s.b, .int .i64 x.x] 111)
        have hxn := Blk.new wr 111 #[.int .i64 x.s.a, .int .i64 x.s.b, .int .i64 x.x]
        have hbn := hb.alloc hb.size (.cells #[.int .i64 x.s.a, .int .i64 x.s.b, .int .i64 x.x] 111)
        go_wp2_with fail
        generalize hW2 : wr.alloc (.cells #[.int .i64 x.s.a, .int .i64 x.s.b, .int .i64 x.x] 111) = W2 at *
        clear hW2
        have o0 := hon.cell 0
        have o1 := hon.cell 1
        have o2 := hon.cell 2
        have x0 := hxn.cell 0
        have x1 := hxn.cell 1
        have x2 := hxn.cell 2
        simp at o0 o1 o2 x0 x1 x2
        have f0 := Ext.of o0
        have f1 := Ext.of o1
        have f2 := Ext.of o2
        have g0 := Ext.of x0
        have g1 := Ext.of x1
        have g2 := Ext.of x2
        have hc1 : ∀ z : Ext W2, Calls Try.prog 73 #[.agg #[.int .i64 x.s.a, .int .i64 x.s.b, .int .i64 x.x]] z.w fun e w'' => e = .returned (.int .i64 x.x) ∧ ∃ y : Ext W2, w'' = y.w := fun z => ext_call z (choW_ok x z.w)
        have hc2 : ∀ z : Ext W2, Calls Try.prog 73 #[.agg #[.int .i64 o.s.a, .int .i64 o.s.b, .int .i64 o.x]] z.w fun e w'' => e = .returned (.int .i64 o.x) ∧ ∃ y : Ext W2, w'' = y.w := fun z => ext_call z (choW_ok o z.w)
        have HC1 := Lib.hid hc1
        have HC2 := Lib.hid hc2
        clear hc1 hc2
        refine wp_region_ext (by kernel_rfl) (by kernel_rfl) ?_
        repeat (go_big_quiet_step (first | (go_at_call 73; with_reducible exact HC1.out _) | (go_at_call 73; with_reducible exact HC2.out _)))
        refine wpQuiet_nil ?_
        intro _ hw'
        obtain ⟨xr, hw''⟩ := hw'
        subst hw''
        by_cases hgt : o.x < x.x
        · have HQ : Hid (greater o x = x) := by rw [Hid, greater, if_pos hgt]
          have hon' := hon.call xr.h
          have hrn' := hrn.call xr.h
          have z0 := hon'.frozen 0
          have z1 := hon'.frozen 1
          have z2 := hon'.frozen 2
          have hb1 := hbn.trans (xr.h.mono hbn.size)
          have hb2 := ((hb1.setCell (p := ⟨w.heap.size + 1, 0, none⟩) (by simp) (.int .i64 x.s.a)).setCell (p := ⟨w.heap.size + 1, 1, none⟩) (by simp) (.int .i64 x.s.b)).setCell (p := ⟨w.heap.size + 1, 2, none⟩) (by simp) (.int .i64 x.x)
          have hon2 := ((hon'.set_ 0 (.int .i64 x.s.a)).set_ 1 (.int .i64 x.s.b)).set_ 2 (.int .i64 x.x)
          have hrn2 := ((hrn'.far (p := ⟨w.heap.size + 1, 0, none⟩) (by simp) (.int .i64 x.s.a)).far (p := ⟨w.heap.size + 1, 1, none⟩) (by simp) (.int .i64 x.s.b)).far (p := ⟨w.heap.size + 1, 2, none⟩) (by simp) (.int .i64 x.x)
          go_wp2
          go_roundw
          case rel => exact ⟨k + 1, x, by omega, by go_num, by rw [HP.out, HQ.out], hon2, hrn2, hb2⟩
          case measure => simp [intOf]; omega
        · have HQ : Hid (greater o x = o) := by rw [Hid, greater, if_neg hgt]
          go_wp2
          go_roundw
          case rel => exact ⟨k + 1, o, by omega, by go_num, by rw [HP.out, HQ.out], hon.call xr.h, hrn.call xr.h, hbn.trans (xr.h.mono hbn.size)⟩
          case measure => simp [intOf]; omega
      · have HQ : Hid (pick l = o) := by rw [Hid, hp, List.drop_eq_nil_of_le (by omega)]; rfl
        have HE : Hid (res = o) := by rw [Hid, HRES.out, HQ.out]
        clear hp
        have o0 := ho.cell 0
        have o1 := ho.cell 1
        have o2 := ho.cell 2
        have r0 := hr.cell 0
        have r1 := hr.cell 1
        have r2 := hr.cell 2
        simp at o0 o1 o2 r0 r1 r2
        have z0 := hr.frozen 0
        have z1 := hr.frozen 1
        have z2 := hr.frozen 2
        go_wp2
        have hr2 := ((hr.set_ 0 (.int .i64 o.s.a)).set_ 1 (.int .i64 o.s.b)).set_ 2 (.int .i64 o.x)
        have t0 := hr2.cell 0
        have t1 := hr2.cell 1
        have t2 := hr2.cell 2
        have hb2 := ((hb.setCell (p := ⟨w.heap.size, 0, none⟩) (by simp) (.int .i64 o.s.a)).setCell (p := ⟨w.heap.size, 1, none⟩) (by simp) (.int .i64 o.s.b)).setCell (p := ⟨w.heap.size, 2, none⟩) (by simp) (.int .i64 o.x)
        generalize ((wr.setCell ⟨w.heap.size, 0, none⟩ (.int .i64 o.s.a)).setCell ⟨w.heap.size, 1, none⟩ (.int .i64 o.s.b)).setCell ⟨w.heap.size, 2, none⟩ (.int .i64 o.x) = W3 at *
        simp at t0 t1 t2
        rw [HE.out]
        exact bodyPost_ret (v := .agg #[.int .i64 o.s.a, .int .i64 o.s.b, .int .i64 o.x]) (by simp [results, Try.results72, go_sem, t0, t1, t2]) rfl ⟨rfl, hb2⟩
end Go.Proofs.Ythplabmbbfefeaa
