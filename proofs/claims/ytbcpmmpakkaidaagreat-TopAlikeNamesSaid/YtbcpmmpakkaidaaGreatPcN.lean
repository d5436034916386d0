/- What a side cuts: the model, the marks' cells, the two closures of Cut. Contract: Cut. -/
import Derived.Test.YtbcpmmpakkaidaaGreatPbM
import Derived.BigQuiet
namespace Go.Proofs.YtbcpmmpakkaidaaGreat
open Go.RowKit Go.Shelf
set_option linter.unusedVariables false
section
variable {l : NL} {S : List Int}
end
/-- marks in memory -/
def BoolB (W : World) (b n : Nat) (m : Nat → Bool) : Prop := Blk W b 4 (rowA n fun u => .bool (m u))
section
variable {W : World} {b n : Nat} {m : Nat → Bool}
theorem BoolB.at_ (h : BoolB W b n m) {i : Nat} (hi : i < n) : W.cell? ⟨b, i, none⟩ = some (.bool (m i)) := (Blk.cell h i).trans (rowA_get hi)
theorem BoolB.put (h : BoolB W b n m) {i : Nat} {x : Bool} {g : Nat → Bool} (hg : ∀ j, j < n → g j = if j = i then x else m j) : BoolB (W.setCell ⟨b, i, none⟩ (.bool x)) b n g := by
  have := Blk.set_ h i (.bool x)
  rw [rowA_set (g := fun u => .bool (g u)) fun j hj => by rw [hg j hj]; split <;> rfl] at this
  exact this
end
end Go.Proofs.YtbcpmmpakkaidaaGreat
namespace Go.Proofs.YtbcpmmpakkaidaaGreat
open Go.RowKit Go.Shelf
set_option linter.unusedVariables false
theorem own_block {w : World} {base n size cap : Nat} {e : TypeId} {A : Option Addr} {xs : List Value} (h : w.ownsRow base e size (.slice A n cap) n xs) : ∀ ad, A = some ad → ad.block < w.heap.size := by
  intro ad hA
  rcases h.2 with ⟨h1, -⟩ | ⟨g, c, cur, h1, -, h3, -⟩
  · injection h1 with h1
    rw [h1] at hA
    cases hA
  · injection h1 with h1
    rw [h1] at hA
    injection hA with hA
    rw [← hA]
    exact heap_lt h3
end Go.Proofs.YtbcpmmpakkaidaaGreat
