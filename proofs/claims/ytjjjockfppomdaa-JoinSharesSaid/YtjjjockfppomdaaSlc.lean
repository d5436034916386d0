/- Contracts of package slices at this seat; ranges within bounds. A cylinder as a value, and in a box of the call's own. -/
import Derived.Test.YtjjjockfppomdaaPure
import Derived.Test.YtjjjockfppomdaaGen
import Derived.Test.YtjjjockfppomdaaSched
namespace Go.Proofs.Ytjjjockfppomdaa
open Go.RowKit Go.Shelf
set_option linter.unusedVariables false

/-- a range -/
structure Rg where
  lo : Int
  hi : Int
  deriving Inhabited, DecidableEq
def rcell (r : Rg) : Nat → Value
  | 0 => .int .i64 r.lo
  | _ => .int .i64 r.hi
def stcell (s : St) : Nat → Value
  | 0 => .int .i64 s.p
  | _ => .bool s.t
theorem ret_i {k : IntKind} {a a' : Int} (h1 : a = a') : Ending.returned (.int k a) = Ending.returned (.int k a') := by rw [h1]

set_option maxHeartbeats 400000 in
theorem indexFunc_rg (sv : Value) (l : List Rg) (fn : FuncId) (fs cs : Array Value) (p : Rg → Bool) (w : World)
   (eg : ∀ args w, (callFunc fn args).run Try.prog w = .ok (.enter fn args) w)
   (hs : Arr w w.heap.size 2 sv l rcell)
   (hcall : ∀ x ∈ l, ∀ w1, Below w.heap.size w w1 → Calls Try.prog fn (fs.push (.agg #[.int .i64 x.lo, .int .i64 x.hi]) ++ cs) w1 fun e w2 => e = .returned (.bool (p x)) ∧ Below w1.heap.size w1 w2) :
    Calls Try.prog 77 #[sv, .func (.func fn) fs cs] w fun r w' => r = .returned (.int .i64 (idxOf p 0 l)) ∧ Below w.heap.size w w' := by
  obtain ⟨A, c, rfl, hn, hc, hcell⟩ := hs
  go_enter Try.func77, Try.ntmps77
  go_wp2
  go_loopw [5, 8] (fun x i wr => ∃ k : Nat, k ≤ l.length ∧ i = .int .i64 k ∧ idxOf p 0 l = idxOf p k (l.drop k) ∧ Below w.heap.size w wr) (fun _ i _ => l.length - (intOf i).toNat)
  case atStart => exact ⟨0, Nat.zero_le _, rfl, rfl, Below.refl _ _⟩
  case round =>
    obtain ⟨k, hk, rfl, hf, hb⟩ := hrel
    by_cases hlt : k < l.length
    · obtain ⟨b, off, rfl, hB, hcc⟩ := hcell (by omega)
      obtain ⟨x, hx⟩ : ∃ x, l[k]? = some x := ⟨l[k], List.getElem?_eq_getElem hlt⟩
      have hce := fun j (hj : j < 2) => (hb.cell (p := ⟨b, off + k*2+j, none⟩) hB).trans (hcc k x hx j hj)
      have c0 := hce 0 (by omega)
      have c1 := hce 1 (by omega)
      have c2 := hce (2 - 1) (by omega)
      clear hce
      simp only [Nat.add_zero, rcell, Nat.reduceSub] at c0 c1 c2
      have hcl := hcall x (List.mem_of_getElem? hx) wr hb
      rw [idxOf_drop p l k x hx] at hf
      have H := Lib.hid hf; clear hf
      have HX := Lib.hid hx; clear hx
      clear hcall hcc hcell
      go_wp2_with (refine hcl.mono ?_; rintro e w1 ⟨rfl, hb1⟩)
      · go_ret
        exact ⟨by rw [H.out]; simp [*], bthen hb hb1⟩
      · go_roundw
        case rel => exact ⟨k+1, by omega, by go_num, by rw [H.out]; simp [*], bthen hb hb1⟩
        case measure => simp [intOf]; omega
    · obtain rfl : k = l.length := by omega
      have H := Lib.hid hf; clear hf
      go_wp2
      go_ret
      exact ⟨by rw [H.out]; simp [idxOf], hb⟩

theorem containsFunc_rg (sv : Value) (l : List Rg) (fn : FuncId) (fs cs : Array Value) (p : Rg → Bool) (w : World)
   (eg : ∀ args w, (callFunc fn args).run Try.prog w = .ok (.enter fn args) w)
   (hs : Arr w w.heap.size 2 sv l rcell)
   (hcall : ∀ x ∈ l, ∀ w1, Below w.heap.size w w1 → Calls Try.prog fn (fs.push (.agg #[.int .i64 x.lo, .int .i64 x.hi]) ++ cs) w1 fun e w2 => e = .returned (.bool (p x)) ∧ Below w1.heap.size w1 w2) :
    Calls Try.prog 67 #[sv, .func (.func fn) fs cs] w fun r w' => r = .returned (.bool (l.any p)) ∧ Below w.heap.size w w' := by
  have hi := indexFunc_rg sv l fn fs cs p w eg hs hcall
  have HD := Lib.hid (idxOf_nonneg p l 0)
  clear hcall hs
  go_enter Try.func67, Try.ntmps67
  go_wp2_with (go_at_call 77; refine hi.mono ?_; rintro e w1 ⟨rfl, hb1⟩)
  go_ret
  exact ⟨by rw [← HD.out]; simp, hb1⟩
set_option maxHeartbeats 400000 in
theorem indexFunc_st (sv : Value) (l : List St) (fn : FuncId) (fs cs : Array Value) (p : St → Bool) (w : World)
   (eg : ∀ args w, (callFunc fn args).run Try.prog w = .ok (.enter fn args) w)
   (hs : Arr w w.heap.size 2 sv l stcell)
   (hcall : ∀ x ∈ l, ∀ w1, Below w.heap.size w w1 → Calls Try.prog fn (fs.push (.agg #[.int .i64 x.p, .bool x.t]) ++ cs) w1 fun e w2 => e = .returned (.bool (p x)) ∧ Below w1.heap.size w1 w2) :
    Calls Try.prog 76 #[sv, .func (.func fn) fs cs] w fun r w' => r = .returned (.int .i64 (idxOf p 0 l)) ∧ Below w.heap.size w w' := by
  obtain ⟨A, c, rfl, hn, hc, hcell⟩ := hs
  go_enter Try.func76, Try.ntmps76
  go_wp2
  go_loopw [5, 8] (fun x i wr => ∃ k : Nat, k ≤ l.length ∧ i = .int .i64 k ∧ idxOf p 0 l = idxOf p k (l.drop k) ∧ Below w.heap.size w wr) (fun _ i _ => l.length - (intOf i).toNat)
  case atStart => exact ⟨0, Nat.zero_le _, rfl, rfl, Below.refl _ _⟩
  case round =>
    obtain ⟨k, hk, rfl, hf, hb⟩ := hrel
    by_cases hlt : k < l.length
    · obtain ⟨b, off, rfl, hB, hcc⟩ := hcell (by omega)
      obtain ⟨x, hx⟩ : ∃ x, l[k]? = some x := ⟨l[k], List.getElem?_eq_getElem hlt⟩
      have hce := fun j (hj : j < 2) => (hb.cell (p := ⟨b, off + k*2+j, none⟩) hB).trans (hcc k x hx j hj)
      have c0 := hce 0 (by omega)
      have c1 := hce 1 (by omega)
      have c2 := hce (2 - 1) (by omega)
      clear hce
      simp only [Nat.add_zero, stcell, Nat.reduceSub] at c0 c1 c2
      have hcl := hcall x (List.mem_of_getElem? hx) wr hb
      rw [idxOf_drop p l k x hx] at hf
      have H := Lib.hid hf; clear hf
      have HX := Lib.hid hx; clear hx
      clear hcall hcc hcell
      go_wp2_with (refine hcl.mono ?_; rintro e w1 ⟨rfl, hb1⟩)
      · go_ret
        exact ⟨by rw [H.out]; simp [*], bthen hb hb1⟩
      · go_roundw
        case rel => exact ⟨k+1, by omega, by go_num, by rw [H.out]; simp [*], bthen hb hb1⟩
        case measure => simp [intOf]; omega
    · obtain rfl : k = l.length := by omega
      have H := Lib.hid hf; clear hf
      go_wp2
      go_ret
      exact ⟨by rw [H.out]; simp [idxOf], hb⟩

theorem containsFunc_st (sv : Value) (l : List St) (fn : FuncId) (fs cs : Array Value) (p : St → Bool) (w : World)
   (eg : ∀ args w, (callFunc fn args).run Try.prog w = .ok (.enter fn args) w)
   (hs : Arr w w.heap.size 2 sv l stcell)
   (hcall : ∀ x ∈ l, ∀ w1, Below w.heap.size w w1 → Calls Try.prog fn (fs.push (.agg #[.int .i64 x.p, .bool x.t]) ++ cs) w1 fun e w2 => e = .returned (.bool (p x)) ∧ Below w1.heap.size w1 w2) :
    Calls Try.prog 62 #[sv, .func (.func fn) fs cs] w fun r w' => r = .returned (.bool (l.any p)) ∧ Below w.heap.size w w' := by
  have hi := indexFunc_st sv l fn fs cs p w eg hs hcall
  have HD := Lib.hid (idxOf_nonneg p l 0)
  clear hcall hs
  go_enter Try.func62, Try.ntmps62
  go_wp2_with (go_at_call 76; refine hi.mono ?_; rintro e w1 ⟨rfl, hb1⟩)
  go_ret
  exact ⟨by rw [← HD.out]; simp, hb1⟩

theorem index_int_ok (sv : Value) (l : List Int) (v : Int) (w : World) (hs : Arr w w.heap.size 1 sv l icell) :
    Calls Try.prog 78 #[sv, .int .i64 v] w fun r w' => r = .returned (.int .i64 (idxOf (fun x => v == x) 0 l)) ∧ Below w.heap.size w w' := by
  obtain ⟨A, c, rfl, hn, hc, hcell⟩ := hs
  go_enter Try.func78, Try.ntmps78
  go_wp2
  go_loopw [5, 8] (fun x i wr => ∃ k : Nat, k ≤ l.length ∧ i = .int .i64 k ∧ idxOf (fun x => v == x) 0 l = idxOf (fun x => v == x) k (l.drop k) ∧ Below w.heap.size w wr) (fun _ i _ => l.length - (intOf i).toNat)
  case atStart => exact ⟨0, Nat.zero_le _, rfl, rfl, Below.refl _ _⟩
  case round =>
    obtain ⟨k, hk, rfl, hf, hb⟩ := hrel
    by_cases hlt : k < l.length
    · obtain ⟨b, off, rfl, hB, hcc⟩ := hcell (by omega)
      obtain ⟨x, hx⟩ : ∃ x, l[k]? = some x := ⟨l[k], List.getElem?_eq_getElem hlt⟩
      have hce := (hb.cell (p := ⟨b, off + k*1+0, none⟩) hB).trans (hcc k x hx 0 (by omega))
      simp only [Nat.mul_one, Nat.add_zero] at hce
      rw [idxOf_drop _ l k x hx] at hf
      have H := Lib.hid hf; clear hf
      clear hcc hcell hx
      by_cases hv : v = x
      · have h1 : (v == x) = true := by simpa using hv
        have HV : Hid ((v == x) = true) := h1
        go_wp2
        go_ret
        exact ⟨ret_i (by rw [H.out]; simp [HV.out]), hb⟩
      · have h1 : (v == x) = false := by simpa using hv
        have HV : Hid ((v == x) = false) := h1
        go_wp2
        go_roundw
        case rel => exact ⟨k+1, by omega, by go_num, by rw [H.out]; simp [HV.out], hb⟩
        case measure => (simp [intOf]; try omega)
    · obtain rfl : k = l.length := by omega
      have H := Lib.hid hf; clear hf
      go_wp2
      go_ret
      exact ⟨by rw [H.out]; simp [idxOf], hb⟩

theorem contains_int_ok (sv : Value) (l : List Int) (v : Int) (w : World) (hs : Arr w w.heap.size 1 sv l icell) :
    Calls Try.prog 69 #[sv, .int .i64 v] w fun r w' => r = .returned (.bool (l.any fun x => v == x)) ∧ Below w.heap.size w w' := by
  have hi := index_int_ok sv l v w hs
  have HD := Lib.hid (idxOf_nonneg (fun x => v == x) l 0)
  clear hs
  go_enter Try.func69, Try.ntmps69
  go_wp2_with (go_at_call 78; refine hi.mono ?_; rintro e w1 ⟨rfl, hb1⟩)
  go_ret
  exact ⟨by rw [← HD.out]; simp, hb1⟩


theorem within1_ok (x : Rg) (lo hi : Int) (w : World) (b1 b2 : Nat) (h1 : w.cell? ⟨b1, 0, none⟩ = some (.int .i64 lo)) (h2 : w.cell? ⟨b2, 0, none⟩ = some (.int .i64 hi)) :
    Calls Try.prog 68 #[.agg #[.int .i64 x.lo, .int .i64 x.hi], .pointer (some ⟨b1,0,none⟩), .pointer (some ⟨b2,0,none⟩)] w fun r w' => r = .returned (.bool (!okR lo hi x.lo x.hi)) ∧ Below w.heap.size w w' := by
  have hb1 := cell_lt h1
  have hb2 := cell_lt h2
  go_enter Try.func68, Try.ntmps68
  go_upto_region 1 with (fail)
  have hbA := (Below.refl w.heap.size w).alloc (Nat.le_refl _) (.cells #[.int .i64 x.lo, .int .i64 x.hi] 24)
  have hxs := Blk.new w 24 #[.int .i64 x.lo, .int .i64 x.hi]
  have c1 := (hbA.cell (p := ⟨b1, 0, none⟩) hb1).trans h1
  have c2 := (hbA.cell (p := ⟨b2, 0, none⟩) hb2).trans h2
  clear h1 h2
  generalize w.alloc (.cells #[.int .i64 x.lo, .int .i64 x.hi] 24) = wv at *
  have s0 := hxs.cell 0
  have s1 := hxs.cell 1
  simp at s0 s1
  by_cases g1 : x.lo < lo
  · have d1 : decide (x.lo < lo) = true := by simpa using g1
    have HE : Hid ((!okR lo hi x.lo x.hi) = true) := by simp [Hid, okR]; omega
    go_wp2
    go_ret
    exact ⟨by rw [HE.out]; rfl, hbA⟩
  · have d1 : decide (x.lo < lo) = false := by simpa using g1
    by_cases g2 : x.hi < x.lo
    · have d2 : decide (x.hi < x.lo) = true := by simpa using g2
      have HE : Hid ((!okR lo hi x.lo x.hi) = true) := by simp [Hid, okR]; omega
      go_wp2
      go_ret
      exact ⟨by rw [HE.out]; rfl, hbA⟩
    · have d2 : decide (x.hi < x.lo) = false := by simpa using g2
      have HE : Hid ((!okR lo hi x.lo x.hi) = decide (hi < x.hi)) := by
        rw [Hid, Bool.eq_iff_iff]
        simp [okR]
        omega
      go_wp2
      go_ret
      exact ⟨by rw [HE.out]; rfl, hbA⟩

theorem within_ok (lo hi : Int) (lv : Value) (l : List Rg) (w : World) (hs : Arr w w.heap.size 2 lv l rcell) :
    Calls Try.prog 47 #[.int .i64 lo, .int .i64 hi, lv] w fun r w' => r = .returned (.bool (l.all fun x => okR lo hi x.lo x.hi)) ∧ Below w.heap.size w w' := by
  have HA : Hid ((!(l.any fun x => !okR lo hi x.lo x.hi)) = l.all fun x => okR lo hi x.lo x.hi) := by
    rw [Hid, List.any_eq_not_all_not]
    simp
  go_enter Try.func47, Try.ntmps47
  go_wp2_with fail
  refine (containsFunc_rg _ l 68 _ _ (fun x => !okR lo hi x.lo x.hi) _ (enters_of Try.func68 (by kernel_rfl) rfl) ?h1 ?h2).mono ?_
  case h1 => exact ((hs.alloc (by simp) _).alloc (by simp) _).more (by simp; omega)
  case h2 =>
    intro x _ w1 hb
    exact within1_ok x lo hi w1 _ _ ((hb.cell (p := ⟨w.heap.size, 0, none⟩) (by simp; omega)).trans (by simp)) ((hb.cell (p := ⟨w.heap.size + 1, 0, none⟩) (by simp)).trans (by simp))
  rintro e w1 ⟨rfl, hb⟩
  go_wp2
  go_ret
  exact ⟨by rw [← HA.out]; try simp, ((((Below.refl _ _).alloc (Nat.le_refl _) _).alloc (by simp) _).trans (hb.mono (by simp; omega)))⟩

theorem one_ok (n : Int) (w : World) :
    Calls Try.prog 46 #[.int .i64 n] w fun r w' => r = .returned (.agg #[.int .i64 n, .int .i64 n]) ∧ Below w.heap.size w w' := by
  go_enter Try.func46, Try.ntmps46
  go_wp2
  have hx := Blk.new w 24 #[.int .i64 n, .int .i64 n]
  have t0 := hx.cell 0
  have t1 := hx.cell 1
  simp at t0 t1
  exact bodyPost_ret (v := .agg #[.int .i64 n, .int .i64 n]) (by simp [results, Try.results46, go_sem]) rfl ⟨rfl, (Below.refl _ _).alloc (Nat.le_refl _) _⟩
theorem valid_ok (a b lo hi : Int) (w : World) :
    Calls Try.prog 48 #[.agg #[.int .i64 a, .int .i64 b], .int .i64 lo, .int .i64 hi] w fun r w' => r = .returned (.bool (okR lo hi a b)) ∧ Below w.heap.size w w' := by
  go_enter Try.func48, Try.ntmps48
  go_wp2
  all_goals (go_ret; exact ⟨by simp [okR, *]; try omega, (Below.refl _ _).alloc (Nat.le_refl _) _⟩)
end Go.Proofs.Ytjjjockfppomdaa

namespace Go.Proofs.Ytjjjockfppomdaa
open Go.RowKit Go.Shelf
set_option linter.unusedVariables false

def pccell (p : Pc) : Nat → Value
  | 0 => .int .i64 p.a.lo
  | 1 => .int .i64 p.a.hi
  | 2 => .int .i64 p.a.pl
  | 3 => .int .i64 p.b.lo
  | 4 => .int .i64 p.b.hi
  | 5 => .int .i64 p.b.pl
  | _ => .bool p.loose
def CylV (w : World) (B : Nat) (v : Value) (c : Cyl) : Prop :=
  ∃ pv, v = .agg #[pv, .int .i64 c.off, .int .i64 c.slo, .int .i64 c.shi] ∧ Arr w B 7 pv c.pcs pccell
theorem CylV.open_ {w : World} {B : Nat} {v : Value} {c : Cyl} (h : CylV w B v c) :
    ∃ pa pc, v = .agg #[.slice pa c.pcs.length pc, .int .i64 c.off, .int .i64 c.slo, .int .i64 c.shi] ∧ Arr w B 7 (.slice pa c.pcs.length pc) c.pcs pccell := by
  obtain ⟨pv, rfl, hp⟩ := h
  obtain ⟨pa, pc, rfl, -⟩ := id hp
  exact ⟨pa, pc, rfl, hp⟩
theorem CylV.below {w w' : World} {B : Nat} {v : Value} {c : Cyl} (h : CylV w B v c) (hb : Below B w w') : CylV w' B v c := by
  obtain ⟨pv, h1, h2⟩ := h
  exact ⟨pv, h1, h2.below hb⟩
theorem CylV.more {w : World} {B B' : Nat} {v : Value} {c : Cyl} (h : CylV w B v c) (hB : B ≤ B') : CylV w B' v c := by
  obtain ⟨pv, h1, h2⟩ := h
  exact ⟨pv, h1, h2.more hB⟩
structure CB (W : World) (B g : Nat) (c : Cyl) (pa : Option Addr) (pc : Nat) : Prop where
  blk : Blk W g 26 #[.slice pa c.pcs.length pc, .int .i64 c.off, .int .i64 c.slo, .int .i64 c.shi]
  ps : Arr W B 7 (.slice pa c.pcs.length pc) c.pcs pccell
  le : B ≤ g
section
variable {w W W' : World} {B g : Nat} {c : Cyl} {pa : Option Addr} {pc : Nat}
theorem CB.new (hp : Arr w w.heap.size 7 (.slice pa c.pcs.length pc) c.pcs pccell) :
    CB (w.alloc (.cells #[.slice pa c.pcs.length pc, .int .i64 c.off, .int .i64 c.slo, .int .i64 c.shi] 26)) w.heap.size w.heap.size c pa pc :=
  ⟨Blk.new _ _ _, hp.alloc (Nat.le_refl _) _, Nat.le_refl _⟩
theorem CB.cyl (h : CB W B g c pa pc) : CylV W W.heap.size (.agg #[.slice pa c.pcs.length pc, .int .i64 c.off, .int .i64 c.slo, .int .i64 c.shi]) c :=
  ⟨_, rfl, h.ps.more (by have := h.le; have := h.blk.lt; omega)⟩
theorem CB.call (h : CB W B g c pa pc) (hb : Below W.heap.size W W') : CB W' B g c pa pc := by
  have h1 := h.le
  have h2 := h.blk.lt
  exact ⟨h.blk.call hb, h.ps.below (hb.mono (by omega)), h1⟩
theorem CB.belowB {B0 : Nat} (h : CB W B g c pa pc) (hb : Below B0 W W') (hg : g < B0) : CB W' B g c pa pc := by
  have h1 := h.le
  exact ⟨h.blk.below hb hg, h.ps.below (hb.mono (by omega)), h1⟩
theorem CB.alloc (h : CB W B g c pa pc) (o : Obj) : CB (W.alloc o) B g c pa pc := h.call ((Below.refl _ _).alloc (Nat.le_refl _) _)
theorem CB.drew (h : CB W B g c pa pc) : CB W.drew B g c pa pc := ⟨h.blk, h.ps, h.le⟩
theorem CB.c4 (h : CB W B g c pa pc) :
    W.cell? ⟨g, 0, none⟩ = some (.slice pa c.pcs.length pc) ∧ W.cell? ⟨g, 1, none⟩ = some (.int .i64 c.off) ∧ W.cell? ⟨g, 2, none⟩ = some (.int .i64 c.slo) ∧ W.cell? ⟨g, 3, none⟩ = some (.int .i64 c.shi) := by
  simp [h.blk.cell]
end
/-- the cells of a piece -/
theorem piece_at {w : World} {B n pc : Nat} {pa : Option Addr} {l : List Pc} (h : Arr w B 7 (.slice pa n pc) l pccell) {k : Nat} (hk : k < l.length) :
    ∃ b off p, pa = some ⟨b, off, none⟩ ∧ b < B ∧ l[k]? = some p ∧
      w.cell? ⟨b, off + k * 7, none⟩ = some (.int .i64 p.a.lo) ∧ w.cell? ⟨b, off + k * 7 + 1, none⟩ = some (.int .i64 p.a.hi) ∧ w.cell? ⟨b, off + k * 7 + 2, none⟩ = some (.int .i64 p.a.pl) ∧
      w.cell? ⟨b, off + k * 7 + 3, none⟩ = some (.int .i64 p.b.lo) ∧ w.cell? ⟨b, off + k * 7 + 4, none⟩ = some (.int .i64 p.b.hi) ∧ w.cell? ⟨b, off + k * 7 + 5, none⟩ = some (.int .i64 p.b.pl) ∧
      w.cell? ⟨b, off + k * 7 + 6, none⟩ = some (.bool p.loose) := by
  obtain ⟨b, off, x, h1, h2, h3, h4⟩ := h.at_ hk
  exact ⟨b, off, x, h1, h2, h3, h4 0 (by omega), h4 1 (by omega), h4 2 (by omega), h4 3 (by omega), h4 4 (by omega), h4 5 (by omega), h4 6 (by omega)⟩
/-- what the checks look at, end by end -/
def okE (e : En) : Bool := (okR 0 1000 e.lo e.hi && decide (0 ≤ e.pl)) && decide (e.pl ≤ 100000)
theorem okP_eq (p : Pc) : okP p = (okE p.a && okE p.b) := by
  unfold okP okE okR
  rw [Bool.eq_iff_iff]
  simp only [Bool.and_eq_true, decide_eq_true_eq]
  omega
end Go.Proofs.Ytjjjockfppomdaa
