/- Words for memory: a slice that reads as a list; the contracts of package slices at this seat's numbers. -/
import Derived.Test.YthplabmbbfefeaaProg
import Derived.Test.YthplabmbbfefeaaPure
import Derived.WalkKit
import Derived.Outline
import Derived.Deep.QuietTactic
import Derived.Deep.Draws
import Derived.BigQuiet
import Derived.Lib.Hide
import Derived.RangeFuncCalls
import Derived.Shelf.Abstract
namespace Go.Proofs.Ythplabmbbfefeaa
open Go.RowKit Go.Shelf
set_option linter.unusedVariables false

/-- a slice value that reads as a list: each element in so many cells, below block B -/
def Arr {α : Type} (w : World) (B size : Nat) (v : Value) (l : List α) (cell : α → Nat → Value) : Prop :=
  ∃ A c, v = .slice A l.length c ∧ l.length ≤ c ∧ c ≤ 9223372036854775807 ∧
    (0 < l.length → ∃ b off, A = some ⟨b, off, none⟩ ∧ b < B ∧ ∀ i x, l[i]? = some x → ∀ j, j < size → w.cell? ⟨b, off + i * size + j, none⟩ = some (cell x j))

section
variable {α : Type} {w w' : World} {B B' size : Nat} {v : Value} {l : List α} {cell : α → Nat → Value}
theorem Arr.keep (h : Arr w B size v l cell) (hk : ∀ p : Addr, p.block < B → w'.cell? p = w.cell? p) : Arr w' B size v l cell := by
  obtain ⟨A, c, hv, h1, h2, h3⟩ := h
  refine ⟨A, c, hv, h1, h2, fun hl => ?_⟩
  obtain ⟨b, off, ha, hb, hc⟩ := h3 hl
  exact ⟨b, off, ha, hb, fun i x hx j hj => (hk ⟨b, off + i * size + j, none⟩ hb).trans (hc i x hx j hj)⟩
theorem Arr.below (h : Arr w B size v l cell) (hb : Below B w w') : Arr w' B size v l cell := h.keep fun p hp => hb.cell hp
theorem Arr.more (h : Arr w B size v l cell) (hB : B ≤ B') : Arr w B' size v l cell := by
  obtain ⟨A, c, hv, h1, h2, h3⟩ := h
  refine ⟨A, c, hv, h1, h2, fun hl => ?_⟩
  obtain ⟨b, off, ha, hb, hc⟩ := h3 hl
  exact ⟨b, off, ha, by omega, hc⟩
theorem Arr.alloc (h : Arr w B size v l cell) (hB : B ≤ w.heap.size) (o : Obj) : Arr (w.alloc o) B size v l cell := h.keep fun p hp => World.cell?_alloc_lt w o p (by omega)
theorem Arr.nil_ : Arr w B size (.slice none 0 0) ([] : List α) cell := ⟨none, 0, rfl, Nat.le_refl _, by simp, fun h => by simp at h⟩
end

/-- Below from an earlier world: a call behind it. -/
theorem bthen {a b c : World} (h : Below a.heap.size a b) (k : Below b.heap.size b c) : Below a.heap.size a c := h.trans (k.mono h.size)

theorem bdrewN {B : Nat} {a b : World} (h : Below B a b) (n : Nat) : Below B a (b.drewN n) := ⟨h.os, h.tape, h.output, h.size, h.block⟩
theorem bcell {W w1 : World} (hb : Below W.heap.size W w1) : (∀ b o, b < W.heap.size → w1.cell? ⟨b, o, none⟩ = W.cell? ⟨b, o, none⟩) ∧ (∀ b o, b < W.heap.size → w1.frozen? ⟨b, o, none⟩ = W.frozen? ⟨b, o, none⟩) :=
  ⟨fun b o h => hb.cell (p := ⟨b, o, none⟩) h, fun b o h => hb.frozen (p := ⟨b, o, none⟩) h⟩

/-- block g is known whole -/
def Blk (w : World) (g : Nat) (t : TypeId) (cs : Array Value) : Prop := w.heap[g]? = some (.cells cs t (0, 0))
section
variable {w w' : World} {g : Nat} {t : TypeId} {cs : Array Value}
theorem Blk.lt (h : Blk w g t cs) : g < w.heap.size := by
  rcases Nat.lt_or_ge g w.heap.size with hlt | hge
  · exact hlt
  · unfold Blk at h; rw [Array.getElem?_eq_none hge] at h; cases h
theorem Blk.cell (h : Blk w g t cs) (i : Nat) : w.cell? ⟨g, i, none⟩ = cs[i]? := by
  unfold Blk at h; simp [World.cell?, h]
theorem Blk.frozen (h : Blk w g t cs) (i : Nat) : w.frozen? ⟨g, i, none⟩ = false := by
  unfold Blk at h; simp [World.frozen?, h]
theorem Blk.new (w : World) (t : TypeId) (cs : Array Value) : Blk (w.alloc (.cells cs t)) w.heap.size t cs := by
  unfold Blk World.alloc; simp
theorem Blk.alloc (h : Blk w g t cs) (o : Obj) : Blk (w.alloc o) g t cs := (Below.heap_alloc w o g h.lt).trans h
theorem Blk.drew (h : Blk w g t cs) : Blk w.drew g t cs := h
theorem Blk.drewN (h : Blk w g t cs) (n : Nat) : Blk (w.drewN n) g t cs := h
theorem Blk.set_ (h : Blk w g t cs) (i : Nat) (u : Value) : Blk (w.setCell ⟨g, i, none⟩ u) g t (cs.setIfInBounds i u) := by
  unfold Blk at h ⊢
  simp [World.setCell, Array.getElem?_modify, h]
theorem Blk.far (h : Blk w g t cs) {p : Addr} (hp : g ≠ p.block) (u : Value) : Blk (w.setCell p u) g t cs := (Below.heap_setCell w p u g hp).trans h
theorem Blk.below {B : Nat} (h : Blk w g t cs) (hb : Below B w w') (hg : g < B) : Blk w' g t cs := (hb.block g hg).trans h
theorem Blk.call (h : Blk w g t cs) (hb : Below w.heap.size w w') : Blk w' g t cs := h.below hb h.lt
end

set_option maxHeartbeats 400000 in
theorem indexFunc_int (sv : Value) (l : List Int) (fn : FuncId) (fs cs : Array Value) (p : Int → Bool) (w : World)
   (eg : ∀ args w, (callFunc fn args).run Try.prog w = .ok (.enter fn args) w)
   (hs : Arr w w.heap.size 1 sv l (fun x _ => .int .i64 x))
   (hcall : ∀ x ∈ l, ∀ w1, Below w.heap.size w w1 → Calls Try.prog fn (fs.push (.int .i64 x) ++ cs) w1 fun e w2 => e = .returned (.bool (p x)) ∧ Below w1.heap.size w1 w2) :
    Calls Try.prog 71 #[sv, .func (.func fn) fs cs] w fun r w' => r = .returned (.int .i64 (idxOf p 0 l)) ∧ Below w.heap.size w w' := by
  obtain ⟨A, c, rfl, hn, hc, hcell⟩ := hs
  go_enter Try.func71, Try.ntmps71
  go_wp2
  go_loopw [5, 8] (fun x i wr => ∃ k : Nat, k ≤ l.length ∧ i = .int .i64 k ∧ idxOf p 0 l = idxOf p k (l.drop k) ∧ Below w.heap.size w wr) (fun _ i _ => l.length - (intOf i).toNat)
  case atStart => exact ⟨0, Nat.zero_le _, rfl, rfl, Below.refl _ _⟩
  case round =>
    obtain ⟨k, hk, rfl, hf, hb⟩ := hrel
    by_cases hlt : k < l.length
    · obtain ⟨b, off, rfl, hB, hcc⟩ := hcell (by omega)
      obtain ⟨x, hx⟩ : ∃ x, l[k]? = some x := ⟨l[k], List.getElem?_eq_getElem hlt⟩
      have hce := (hb.cell (p := ⟨b, off + k*1+0, none⟩) hB).trans (hcc k x hx 0 (by omega))
      simp only [Nat.mul_one, Nat.add_zero] at hce
      have hcl := hcall x (List.mem_of_getElem? hx) wr hb
      rw [idxOf_drop p l k x hx] at hf
      have H := Lib.hid hf; clear hf
      have HX := Lib.hid hx; clear hx
      clear hcall hcc hcell
      go_wp2_with (refine hcl.mono ?_; rintro e w1 ⟨rfl, hb1⟩)
      · go_ret
        exact ⟨by rw [H.out]; simp [*], bthen hb hb1⟩
      · go_roundw
        case rel => exact ⟨k+1, by omega, by go_num, by rw [H.out]; simp [*], bthen hb hb1⟩
        case measure => simp [intOf]; omega
    · obtain rfl : k = l.length := by omega
      have H := Lib.hid hf; clear hf
      go_wp2
      go_ret
      exact ⟨by rw [H.out]; simp [idxOf], hb⟩
set_option maxHeartbeats 400000 in
theorem indexFunc_i64 (sv : Value) (l : List Int) (fn : FuncId) (fs cs : Array Value) (p : Int → Bool) (w : World)
   (eg : ∀ args w, (callFunc fn args).run Try.prog w = .ok (.enter fn args) w)
   (hs : Arr w w.heap.size 1 sv l (fun x _ => .int .i64 x))
   (hcall : ∀ x ∈ l, ∀ w1, Below w.heap.size w w1 → Calls Try.prog fn (fs.push (.int .i64 x) ++ cs) w1 fun e w2 => e = .returned (.bool (p x)) ∧ Below w1.heap.size w1 w2) :
    Calls Try.prog 55 #[sv, .func (.func fn) fs cs] w fun r w' => r = .returned (.int .i64 (idxOf p 0 l)) ∧ Below w.heap.size w w' := by
  obtain ⟨A, c, rfl, hn, hc, hcell⟩ := hs
  go_enter Try.func55, Try.ntmps55
  go_wp2
  go_loopw [5, 8] (fun x i wr => ∃ k : Nat, k ≤ l.length ∧ i = .int .i64 k ∧ idxOf p 0 l = idxOf p k (l.drop k) ∧ Below w.heap.size w wr) (fun _ i _ => l.length - (intOf i).toNat)
  case atStart => exact ⟨0, Nat.zero_le _, rfl, rfl, Below.refl _ _⟩
  case round =>
    obtain ⟨k, hk, rfl, hf, hb⟩ := hrel
    by_cases hlt : k < l.length
    · obtain ⟨b, off, rfl, hB, hcc⟩ := hcell (by omega)
      obtain ⟨x, hx⟩ : ∃ x, l[k]? = some x := ⟨l[k], List.getElem?_eq_getElem hlt⟩
      have hce := (hb.cell (p := ⟨b, off + k*1+0, none⟩) hB).trans (hcc k x hx 0 (by omega))
      simp only [Nat.mul_one, Nat.add_zero] at hce
      have hcl := hcall x (List.mem_of_getElem? hx) wr hb
      rw [idxOf_drop p l k x hx] at hf
      have H := Lib.hid hf; clear hf
      have HX := Lib.hid hx; clear hx
      clear hcall hcc hcell
      go_wp2_with (refine hcl.mono ?_; rintro e w1 ⟨rfl, hb1⟩)
      · go_ret
        exact ⟨by rw [H.out]; simp [*], bthen hb hb1⟩
      · go_roundw
        case rel => exact ⟨k+1, by omega, by go_num, by rw [H.out]; simp [*], bthen hb hb1⟩
        case measure => simp [intOf]; omega
    · obtain rfl : k = l.length := by omega
      have H := Lib.hid hf; clear hf
      go_wp2
      go_ret
      exact ⟨by rw [H.out]; simp [idxOf], hb⟩

theorem containsFunc_int (sv : Value) (l : List Int) (fn : FuncId) (fs cs : Array Value) (p : Int → Bool) (w : World)
   (eg : ∀ args w, (callFunc fn args).run Try.prog w = .ok (.enter fn args) w)
   (hs : Arr w w.heap.size 1 sv l (fun x _ => .int .i64 x))
   (hcall : ∀ x ∈ l, ∀ w1, Below w.heap.size w w1 → Calls Try.prog fn (fs.push (.int .i64 x) ++ cs) w1 fun e w2 => e = .returned (.bool (p x)) ∧ Below w1.heap.size w1 w2) :
    Calls Try.prog 48 #[sv, .func (.func fn) fs cs] w fun r w' => r = .returned (.bool (l.any p)) ∧ Below w.heap.size w w' := by
  have hi := indexFunc_int sv l fn fs cs p w eg hs hcall
  have hd := idxOf_nonneg p l 0
  have HD := Lib.hid hd; clear hd
  clear hcall hs
  go_enter Try.func48, Try.ntmps48
  go_wp2_with (go_at_call 71; refine hi.mono ?_; rintro e w1 ⟨rfl, hb1⟩)
  go_ret
  exact ⟨by rw [← HD.out]; simp, hb1⟩

end Go.Proofs.Ythplabmbbfefeaa
