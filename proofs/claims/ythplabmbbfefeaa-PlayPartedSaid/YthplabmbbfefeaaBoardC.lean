/- The board: a whole row stored or cleared; what a change of the board's block alone keeps. -/
import Derived.Test.YthplabmbbfefeaaIterA
import Derived.Test.YthplabmbbfefeaaMap
import Derived.Laws.IdiomCopy
namespace Go.Proofs.Ythplabmbbfefeaa
open Go.RowKit Go.Shelf
set_option linter.unusedVariables false

theorem Board.setCells_ {B g : Nat} {c : Cyl} {fa pa : Option Addr} {fc pc : Nat} {m : Value} {t : Nat} (ht : t < 31) (r : Nat → Int) : ∀ (n j : Nat) (W : World) (V : Nat → Nat → Int), j + n ≤ 7 → Board W B g c fa fc pa pc V m →
    Board (W.setCells g (5 + t * 7 + j) ((List.range' j n).map fun k => Value.int .i64 (r k))) B g c fa fc pa pc (fun t' k' => if t' = t ∧ j ≤ k' ∧ k' < j + n then r k' else V t' k') m
  | 0, j, W, V, _, h => by
    have e : (fun t' k' => if t' = t ∧ j ≤ k' ∧ k' < j + 0 then r k' else V t' k') = V := by
      funext t' k'
      rw [if_neg (by omega)]
    rw [e]
    exact h
  | n + 1, j, W, V, hj, h => by
    rw [List.range'_succ, List.map_cons, World.setCells]
    have h1 := h.set_ (V' := fun t' k' => if t' = t ∧ k' = j then r j else V t' k') (x := r j) ht (show j < 7 by omega) (fun _ _ _ _ => rfl)
    have h2 := Board.setCells_ ht r n (j + 1) _ _ (by omega) h1
    rw [show 5 + t * 7 + (j + 1) = 5 + t * 7 + j + 1 by omega] at h2
    have e : (fun t' k' => if t' = t ∧ j ≤ k' ∧ k' < j + (n + 1) then r k' else V t' k') = fun t' k' => if t' = t ∧ j + 1 ≤ k' ∧ k' < j + 1 + n then r k' else if t' = t ∧ k' = j then r j else V t' k' := by
      funext t' k'
      by_cases h3 : t' = t ∧ j + 1 ≤ k' ∧ k' < j + 1 + n
      · rw [if_pos h3, if_pos (by omega)]
      · rw [if_neg h3]
        by_cases h4 : t' = t ∧ k' = j
        · rw [if_pos h4, if_pos (by omega), h4.2]
        · rw [if_neg h4, if_neg (by omega)]
    rw [e]
    exact h2

theorem run_clear7 (g o : Nat) (c : Nat) (w : World) (ty : TypeId) (hc : ∀ j, j < 7 → (w.cell? ⟨g, o + j, none⟩).isSome = true) (hf : ∀ j, w.frozen? ⟨g, j, none⟩ = false) :
    (Builtin.clear_ #[36] ty #[.slice (some ⟨g, o, none⟩) 7 c]).run Try.prog w = .ok (.tuple #[]) (w.setCells g o ((List.range' 0 7).map fun _ => Value.int .i64 0)) := by
  have hz : (zeroValue 2).run Try.prog w = .ok (.int .i64 0) w := by kernel_rfl
  have hst := run_storeCells_cells (P := Try.prog) g o ((List.range' 0 7).map fun _ => Value.int .i64 0) 0 w (by simpa using hc) (by intro j _; exact hf _) (by simp [Value.oneCell'])
  rw [Nat.add_zero] at hst
  have hzc : (Builtin.zeroCells (Value.int IntKind.i64 0).cells 7).toList = (List.range' 0 7).map fun _ => Value.int .i64 0 := by kernel_rfl
  simp only [Builtin.clear_]
  simp [run_underlying Try.underlying36, hz, hzc, hst, Result.andThen]

theorem Board.congr {W : World} {B g : Nat} {c : Cyl} {fa pa : Option Addr} {fc pc : Nat} {V V' : Nat → Nat → Int} {m : Value} (h : Board W B g c fa fc pa pc V m) (hV : ∀ t k, t < 31 → k < 7 → V' t k = V t k) : Board W B g c fa fc pa pc V' m := by
  have e : bcells c fa fc pa pc V m = bcells c fa fc pa pc V' m := by
    apply Array.ext_getElem?
    intro i
    rw [bget, bget]
    by_cases h5 : i < 5
    · rw [if_pos h5, if_pos h5]
    · rw [if_neg h5, if_neg h5]
      by_cases h6 : i < 222
      · rw [if_pos h6, if_pos h6, wcell, wcell, hV _ _ (by omega) (by omega)]
      · rw [if_neg h6, if_neg h6]
  exact ⟨e ▸ h.blk, h.fr, h.ps, h.le⟩

theorem grown_setCell {w : World} {g o : Nat} (v : Value) : w.grownBy (w.setCell ⟨g, o, none⟩ v) (some g) :=
  ⟨rfl, rfl, rfl, by simp [World.setCell], fun i hi hr => Below.heap_setCell w ⟨g, o, none⟩ v i (fun e => hr (by rw [e]))⟩
theorem grown_setCells {g : Nat} : ∀ (vs : List Value) (o : Nat) (w : World), w.grownBy (w.setCells g o vs) (some g)
  | [], _, w => World.grownBy.refl _ _
  | v :: r, o, w => by
    rw [World.setCells]
    exact grown_trans' (grown_setCell v) (grown_setCells r (o + 1) _)
theorem Blk.grown {w w' : World} {g : Nat} {t : TypeId} {cs : Array Value} {row : Option Nat} (h : Blk w g t cs) (hb : w.grownBy w' row) (hg : some g ≠ row) : Blk w' g t cs := (hb.block g h.lt hg).trans h
theorem MapOf.grown {w w' : World} {g : Nat} {B : Int → Int → Option Value} {row : Option Nat} (h : MapOf w g B) (hb : w.grownBy w' row) (hg : some g ≠ row) : MapOf w' g B := h.heap (hb.block g h.lt hg)
end Go.Proofs.Ythplabmbbfefeaa
