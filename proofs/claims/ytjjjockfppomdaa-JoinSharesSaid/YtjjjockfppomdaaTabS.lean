/- The table with its lists and its maps, as the methods see it. -/
import Derived.Test.YtjjjockfppomdaaEnd
import Derived.Test.YtjjjockfppomdaaMap
import Derived.Test.YtjjjockfppomdaaGo
import Derived.Test.YtjjjockfppomdaaTail
namespace Go.Proofs.Ytjjjockfppomdaa
open Go.RowKit Go.Shelf
set_option linter.unusedVariables false

def fitV (c : Cyl) (i k : Nat) : Int := if fitN c i k = true then 1 else 0
/-- where a table lies: block g; pieces, steps, both maps; all of them below N -/
structure TX where
  N : Nat
  g : Nat
  pb : Nat
  po : Nat
  pc : Nat
  sb : Nat
  so : Nat
  sc : Nat
  ga : Nat
  gu : Nat
structure TF (W : World) (x : TX) (c : Cyl) : Prop where
  tc : TC W x.g c (some ⟨x.pb, x.po, none⟩) x.pc (.slice (some ⟨x.sb, x.so, none⟩) (stepsOf c).length x.sc) (fitV c) x.ga x.gu
  pcs : ∀ k p, c.pcs[k]? = some p → ∀ j, j < 7 → W.cell? ⟨x.pb, x.po + k * 7 + j, none⟩ = some (pccell p j)
  sts : ∀ k s, (stepsOf c)[k]? = some s → ∀ j, j < 2 → W.cell? ⟨x.sb, x.so + k * 2 + j, none⟩ = some (stcell s j)
  le : x.N ≤ W.heap.size
  gl : x.g < x.N
  pl : x.pb < x.N
  sl : x.sb < x.N
  al : x.ga < x.N
  ul : x.gu < x.N
  ga1 : x.g ≠ x.ga
  gu1 : x.g ≠ x.gu
  pa1 : x.pb ≠ x.ga
  pu1 : x.pb ≠ x.gu
  sa1 : x.sb ≠ x.ga
  su1 : x.sb ≠ x.gu
  au1 : x.ga ≠ x.gu
  ok : checkCyl c = 0
  pcap : c.pcs.length ≤ x.pc ∧ x.pc ≤ 9223372036854775807
  scap : (stepsOf c).length ≤ x.sc ∧ x.sc ≤ 9223372036854775807
/-- all below N but both maps is as it was -/
structure KeepT (N ga gu : Nat) (W W' : World) : Prop where
  size : W.heap.size ≤ W'.heap.size
  block : ∀ k, k < N → k ≠ ga → k ≠ gu → W'.heap[k]? = W.heap[k]?
theorem KeepT.refl {N ga gu : Nat} (A : World) : KeepT N ga gu A A := ⟨Nat.le_refl _, fun _ _ _ _ => rfl⟩
theorem KeepT.trans {N ga gu : Nat} {A B C : World} (h : KeepT N ga gu A B) (k : KeepT N ga gu B C) : KeepT N ga gu A C := ⟨Nat.le_trans h.size k.size, fun j h1 h2 h3 => (k.block j h1 h2 h3).trans (h.block j h1 h2 h3)⟩
theorem KeepT.less {N N' ga gu : Nat} {A B : World} (h : KeepT N ga gu A B) (hN : N' ≤ N) : KeepT N' ga gu A B := ⟨h.size, fun j h1 h2 h3 => h.block j (by omega) h2 h3⟩
theorem KeepT.blk {N ga gu : Nat} {A B : World} (h : KeepT N ga gu A B) {b : Nat} {t : TypeId} {cs : Array Value} (hb : Blk A b t cs) (h1 : b < N) (h2 : b ≠ ga) (h3 : b ≠ gu) : Blk B b t cs := (h.block b h1 h2 h3).trans hb
theorem KeepT.of_below {N ga gu B : Nat} {w w' : World} (h : Below B w w') (hN : N ≤ B) : KeepT N ga gu w w' := ⟨h.size, fun k hk _ _ => h.block k (by omega)⟩
theorem KeepT.putObj {N ga gu : Nat} (W : World) (l : Nat) (o' : Obj) (hl : N ≤ l) : KeepT N ga gu W (W.putObj l o') := ⟨by simp [World.putObj], fun k hk _ _ => World.putObj_heap_other (by omega)⟩
/-- all below N, and what a call of behind laid at bt, but both maps is as it was -/
structure KeepB (N bt ga gu : Nat) (W W' : World) : Prop where
  size : W.heap.size ≤ W'.heap.size
  block : ∀ k, (k < N ∨ bt ≤ k ∧ k < bt + 3) → k ≠ ga → k ≠ gu → W'.heap[k]? = W.heap[k]?
theorem KeepB.tab {N bt ga gu : Nat} {A B : World} (h : KeepB N bt ga gu A B) : KeepT N ga gu A B := ⟨h.size, fun k h1 h2 h3 => h.block k (.inl h1) h2 h3⟩
theorem KeepB.trans {N bt ga gu : Nat} {A B C : World} (h : KeepB N bt ga gu A B) (k : KeepB N bt ga gu B C) : KeepB N bt ga gu A C := ⟨Nat.le_trans h.size k.size, fun j h1 h2 h3 => (k.block j h1 h2 h3).trans (h.block j h1 h2 h3)⟩
theorem KeepB.putObj {N bt ga gu : Nat} (W : World) (l : Nat) (o' : Obj) (hl : bt + 3 ≤ l) (hN : N ≤ l) : KeepB N bt ga gu W (W.putObj l o') := ⟨by simp [World.putObj], fun k hk _ _ => World.putObj_heap_other (by omega)⟩
theorem KeepB.refl {N bt ga gu : Nat} (A : World) : KeepB N bt ga gu A A := ⟨Nat.le_refl _, fun _ _ _ _ => rfl⟩
theorem KeepB.of_below {N bt ga gu B : Nat} {w w' : World} (h : Below B w w') (hN : N ≤ B) (hB : bt + 3 ≤ B) : KeepB N bt ga gu w w' := ⟨h.size, fun k hk _ _ => h.block k (by omega)⟩
/-- only the maps and new blocks change -/
structure Chg (ga gu : Nat) (w w' : World) : Prop where
  os : w'.os = w.os
  tape : w'.tape = w.tape
  output : w'.output = w.output
  size : w.heap.size ≤ w'.heap.size
  block : ∀ k, k < w.heap.size → k ≠ ga → k ≠ gu → w'.heap[k]? = w.heap[k]?
section
variable {ga gu N : Nat} {w w' w'' : World}
theorem Chg.refl (w : World) : Chg ga gu w w := ⟨rfl, rfl, rfl, Nat.le_refl _, fun _ _ _ _ => rfl⟩
theorem Chg.trans (h : Chg ga gu w w') (k : Chg ga gu w' w'') : Chg ga gu w w'' :=
  ⟨k.os.trans h.os, k.tape.trans h.tape, k.output.trans h.output, Nat.le_trans h.size k.size, fun i h1 h2 h3 => (k.block i (Nat.lt_of_lt_of_le h1 h.size) h2 h3).trans (h.block i h1 h2 h3)⟩
theorem Chg.of_below (h : Below w.heap.size w w') : Chg ga gu w w' := ⟨h.os, h.tape, h.output, h.size, fun k hk _ _ => h.block k hk⟩
theorem Chg.of_grown {row : Option Nat} (h : w.grownBy w' row) (hr : row = some ga ∨ row = some gu ∨ row = none) : Chg ga gu w w' :=
  ⟨h.os, h.tape, h.output, h.size, fun k hk h1 h2 => h.block k hk (fun e => by rcases hr with hr | hr | hr <;> rw [hr] at e <;> simp at e <;> omega)⟩
theorem Chg.below {B : Nat} (h : Chg ga gu w w') (hB : B ≤ w.heap.size) (h1 : B ≤ ga) (h2 : B ≤ gu) : Below B w w' :=
  ⟨h.os, h.tape, h.output, h.size, fun k hk => h.block k (by omega) (by omega) (by omega)⟩
theorem Chg.keepB {bt : Nat} (h : Chg ga gu w w') (hN : N ≤ w.heap.size) (hB : bt + 3 ≤ w.heap.size) : KeepB N bt ga gu w w' := ⟨h.size, fun k h1 h2 h3 => h.block k (by omega) h2 h3⟩
theorem Chg.grown_ge {row : Option Nat} (h : Chg ga gu w w') (hg : w'.grownBy w'' row) (hr : ∀ r, row = some r → w.heap.size ≤ r) : Chg ga gu w w'' :=
  ⟨hg.os.trans h.os, hg.tape.trans h.tape, hg.output.trans h.output, Nat.le_trans h.size hg.size, fun k h1 h2 h3 => (hg.block k (Nat.lt_of_lt_of_le h1 h.size) (fun e => by have := hr k e.symm; omega)).trans (h.block k h1 h2 h3)⟩
theorem Chg.keep (h : Chg ga gu w w') (hN : N ≤ w.heap.size) : KeepT N ga gu w w' := ⟨h.size, fun k h1 h2 h3 => h.block k (by omega) h2 h3⟩
theorem Chg.blk (h : Chg ga gu w w') {b : Nat} {t : TypeId} {cs : Array Value} (hb : Blk w b t cs) (h2 : b ≠ ga) (h3 : b ≠ gu) : Blk w' b t cs := (h.block b hb.lt h2 h3).trans hb
end
def AfterOk (c : Cyl) (M : Int → Int → Option Value) : Prop := ∀ a b v, M a b = some v → ∃ (u : Nat) (o : Option Nat), a = (u : Int) ∧ b = lastI o ∧ v = .int .i64 (leftN c u o : Int)
def UntilOk (c : Cyl) (M : Int → Int → Option Value) : Prop := ∀ a b v, M a b = some v → ∃ (u i : Nat), a = (u : Int) ∧ b = (i : Int) ∧ v = .int .i64 (comeN c u i : Int)
structure TB (W : World) (x : TX) (c : Cyl) : Prop where
  f : TF W x c
  af : ∃ M, MapOf W x.ga M ∧ AfterOk c M
  un : ∃ M, MapOf W x.gu M ∧ UntilOk c M
section
variable {W W' : World} {x : TX} {c : Cyl}
theorem TF.keep (h : TF W x c) (hk : KeepT x.N x.ga x.gu W W') : TF W' x c := by
  have hc : ∀ b o, b < x.N → b ≠ x.ga → b ≠ x.gu → W'.cell? ⟨b, o, none⟩ = W.cell? ⟨b, o, none⟩ := fun b o h1 h2 h3 => World.cell?_of_block (a := ⟨b, o, none⟩) (hk.block b h1 h2 h3)
  exact { h with
    tc := hk.blk h.tc h.gl h.ga1 h.gu1
    pcs := fun k p hp j hj => (hc _ _ h.pl h.pa1 h.pu1).trans (h.pcs k p hp j hj)
    sts := fun k s hs j hj => (hc _ _ h.sl h.sa1 h.su1).trans (h.sts k s hs j hj)
    le := Nat.le_trans h.le hk.size }
theorem TF.call (h : TF W x c) (hb : Below W.heap.size W W') : TF W' x c := h.keep ⟨hb.size, fun k hk _ _ => hb.block k (Nat.lt_of_lt_of_le hk h.le)⟩
theorem TF.chg (h : TF W x c) (hb : Chg x.ga x.gu W W') : TF W' x c := h.keep (hb.keep h.le)
theorem TB.same (h : TB W x c) (hk : ∀ k, k < x.N → W'.heap[k]? = W.heap[k]?) (hs : W.heap.size ≤ W'.heap.size) : TB W' x c := by
  obtain ⟨M, hM, hA⟩ := h.af
  obtain ⟨U, hU, hV⟩ := h.un
  exact ⟨h.f.keep ⟨hs, fun k h1 _ _ => hk k h1⟩, ⟨M, hM.heap (hk _ h.f.al), hA⟩, ⟨U, hU.heap (hk _ h.f.ul), hV⟩⟩
theorem TB.call (h : TB W x c) (hb : Below W.heap.size W W') : TB W' x c := h.same (fun k hk => hb.block k (Nat.lt_of_lt_of_le hk h.f.le)) hb.size
theorem TB.belowB {B : Nat} (h : TB W x c) (hb : Below B W W') (hB : x.N ≤ B) : TB W' x c := h.same (fun k hk => hb.block k (by omega)) hb.size
theorem TB.grown {row : Option Nat} (h : TB W x c) (hg : W.grownBy W' row) (hr : ∀ r, row = some r → x.N ≤ r) : TB W' x c :=
  h.same (fun k hk => hg.block k (Nat.lt_of_lt_of_le hk h.f.le) (fun e => by have := hr k e.symm; omega)) hg.size
theorem TF.bounds (h : TF W x c) : 1 ≤ c.pcs.length ∧ c.pcs.length ≤ 8 := (cyl_bounds h.ok).1
theorem TF.small (h : TF W x c) : (stepsOf c).length ≤ 16 := steps_le c h.bounds.2
/-- a step's cells -/
theorem TF.step (h : TF W x c) {k : Nat} (hk : k < (stepsOf c).length) :
    ∃ s, (stepsOf c)[k]? = some s ∧ s.p = (pieceN c k : Int) ∧ W.cell? ⟨x.sb, x.so + k * 2, none⟩ = some (.int .i64 (pieceN c k : Int)) ∧ W.cell? ⟨x.sb, x.so + k * 2 + 1, none⟩ = some (.bool s.t) := by
  have hs : (stepsOf c)[k]? = some (stepsOf c)[k] := List.getElem?_eq_getElem hk
  have h0 := h.sts k _ hs 0 (by omega)
  have h1 := h.sts k _ hs 1 (by omega)
  have hp := pieceN_eq hs
  simp only [Nat.add_zero, stcell, hp] at h0 h1
  exact ⟨_, hs, hp, h0, h1⟩
end
/-- bits of small numbers -/
theorem ofInt_bit (x : Nat) (hx : x < 2 ^ 62) (i : Nat) : (BitVec.ofInt 64 (x : Int)).toNat.testBit i = x.testBit i := by
  rw [BitVec.ofInt_natCast, BitVec.toNat_ofNat, Nat.mod_eq_of_lt (by omega)]
theorem bits_or (x y : Nat) (hx : x < 2 ^ 62) (hy : y < 2 ^ 62) : bits .or .i64 (x : Int) (y : Int) = ((x ||| y : Nat) : Int) := by
  show IntKind.i64.wrap (((BitVec.ofInt 64 (x : Int) ||| BitVec.ofInt 64 (y : Int)).toNat : Nat) : Int) = _
  have h1 : x ||| y < 2 ^ 62 := Nat.or_lt_two_pow hx hy
  have h : (BitVec.ofInt 64 (x : Int) ||| BitVec.ofInt 64 (y : Int)).toNat = x ||| y := by
    refine Nat.eq_of_testBit_eq fun i => ?_
    rw [BitVec.toNat_or, Nat.testBit_or, Nat.testBit_or, ofInt_bit x hx, ofInt_bit y hy]
  rw [h, wrap_id _ (by omega) (by omega)]
theorem bits_and (x y : Nat) (hx : x < 2 ^ 62) (hy : y < 2 ^ 62) : bits .and .i64 (x : Int) (y : Int) = ((x &&& y : Nat) : Int) := by
  show IntKind.i64.wrap (((BitVec.ofInt 64 (x : Int) &&& BitVec.ofInt 64 (y : Int)).toNat : Nat) : Int) = _
  have h1 : x &&& y ≤ x := Nat.and_le_left
  have h : (BitVec.ofInt 64 (x : Int) &&& BitVec.ofInt 64 (y : Int)).toNat = x &&& y := by
    refine Nat.eq_of_testBit_eq fun i => ?_
    rw [BitVec.toNat_and, Nat.testBit_and, Nat.testBit_and, ofInt_bit x hx, ofInt_bit y hy]
  rw [h, wrap_id _ (by omega) (by omega)]
theorem bits_andNot (x y : Nat) (hx : x < 2 ^ 62) (hy : y < 2 ^ 62) : bits .andNot .i64 (x : Int) (y : Int) = (((x ||| y) ^^^ y : Nat) : Int) := by
  show IntKind.i64.wrap (((BitVec.ofInt 64 (x : Int) &&& ~~~ BitVec.ofInt 64 (y : Int)).toNat : Nat) : Int) = _
  have h1 : (x ||| y) ^^^ y < 2 ^ 62 := Nat.xor_lt_two_pow (Nat.or_lt_two_pow hx hy) hy
  have h : (BitVec.ofInt 64 (x : Int) &&& ~~~ BitVec.ofInt 64 (y : Int)).toNat = (x ||| y) ^^^ y := by
    refine Nat.eq_of_testBit_eq fun i => ?_
    rw [BitVec.toNat_and, Nat.testBit_and, ofInt_bit x hx, Nat.testBit_xor, Nat.testBit_or, BitVec.testBit_toNat, BitVec.getLsbD_not, ← BitVec.testBit_toNat, ofInt_bit y hy]
    by_cases hi : i < 64
    · cases x.testBit i <;> cases y.testBit i <;> simp [hi]
    · rw [Nat.testBit_lt_two_pow (Nat.lt_of_lt_of_le hx (Nat.pow_le_pow_right (by omega) (by omega)))]
      cases y.testBit i <;> simp
  rw [h, wrap_id _ (by omega) (by omega)]
theorem shr_bit (u p : Nat) : ((u : Int).fdiv (2 ^ p) : Int) = ((u >>> p : Nat) : Int) := by
  rw [Nat.shiftRight_eq_div_pow, Int.fdiv_eq_ediv_of_nonneg _ (Int.pow_nonneg (by omega))]
  simp
theorem and_one (u p : Nat) : (u >>> p) &&& 1 = if u.testBit p = true then 1 else 0 := by
  rw [Nat.and_one_is_mod]
  have : u.testBit p = decide ((u >>> p) % 2 = 1) := by rw [Nat.testBit, Nat.and_comm, Nat.and_one_is_mod]; cases h : (u >>> p) % 2 with
    | zero => rfl
    | succ k => have : k = 0 := by omega
                subst this; rfl
  rw [this]
  by_cases h : (u >>> p) % 2 = 1
  · simp [h]
  · have : (u >>> p) % 2 = 0 := by omega
    simp [this]
theorem bit_one (u p : Nat) (hu : u < 256) : bits .and .i64 ((u : Int) / 2 ^ p) 1 = if u.testBit p = true then 1 else 0 := by
  have h1 : (u : Int) / 2 ^ p = ((u >>> p : Nat) : Int) := by
    rw [Nat.shiftRight_eq_div_pow]; simp
  have h2 : u >>> p ≤ u := by rw [Nat.shiftRight_eq_div_pow]; exact Nat.div_le_self _ _
  rw [h1, show (1 : Int) = ((1 : Nat) : Int) from rfl, bits_and _ _ (by omega) (by omega), and_one]
  split <;> rfl
theorem shr_le (u p : Nat) : u >>> p ≤ u := by rw [Nat.shiftRight_eq_div_pow]; exact Nat.div_le_self _ _
end Go.Proofs.Ytjjjockfppomdaa
