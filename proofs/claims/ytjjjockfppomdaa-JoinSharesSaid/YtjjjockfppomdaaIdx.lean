/- Contracts of the table: first, index, open. -/
import Derived.Test.YtjjjockfppomdaaNew
import Derived.Test.YtjjjockfppomdaaRefB
namespace Go.Proofs.Ytjjjockfppomdaa
open Go.RowKit Go.Shelf
set_option linter.unusedVariables false

set_option maxHeartbeats 800000 in
theorem first_ok (sv : Value) (l : List St) (fn : FuncId) (fs cs : Array Value) (p : St → Bool) (w : World)
   (eg : ∀ args w, (callFunc fn args).run Try.prog w = .ok (.enter fn args) w)
   (hs : Arr w w.heap.size 2 sv l stcell)
   (hcall : ∀ x ∈ l, ∀ w1, Below w.heap.size w w1 → Calls Try.prog fn (fs.push (.agg #[.int .i64 x.p, .bool x.t]) ++ cs) w1 fun e w2 => e = .returned (.bool (p x)) ∧ Below w1.heap.size w1 w2) :
    Calls Try.prog 64 #[sv, .func (.func fn) fs cs] w fun r w' => r = .returned (.int .i64 (idxOf p 0 l)) ∧ Below w.heap.size w w' := by
  obtain ⟨A, c, rfl, hn, hc, hcell⟩ := hs
  go_enter Try.func64, Try.ntmps64
  go_wp2
  go_loopw [9] (fun i wr => ∃ k : Nat, k ≤ l.length ∧ i = .int .i64 k ∧ idxOf p 0 l = idxOf p k (l.drop k) ∧ Below w.heap.size w wr) (fun i _ => l.length - (intOf i).toNat)
  case atStart => exact ⟨0, Nat.zero_le _, rfl, rfl, Below.refl _ _⟩
  case round =>
    obtain ⟨k, hk, rfl, hf, hb⟩ := hrel
    by_cases hlt : k < l.length
    · obtain ⟨b, off, rfl, hB, hcc⟩ := hcell (by omega)
      obtain ⟨x, hx⟩ : ∃ x, l[k]? = some x := ⟨l[k], List.getElem?_eq_getElem hlt⟩
      have hce := fun j (hj : j < 2) => (hb.cell (p := ⟨b, off + k*2+j, none⟩) hB).trans (hcc k x hx j hj)
      have c0 := hce 0 (by omega)
      have c1 := hce 1 (by omega)
      clear hce
      simp only [Nat.add_zero, stcell] at c0 c1
      have hcl := hcall x (List.mem_of_getElem? hx)
      rw [idxOf_drop p l k x hx] at hf
      have H := Lib.hid hf; clear hf
      have HX := Lib.hid hx; clear hx
      clear hcall hcc hcell
      go_upto_region 4 with (fail)
      have hxs := Blk.new wr 28 #[.int .i64 x.p, .bool x.t]
      have hb1 := hb.alloc hb.size (.cells #[.int .i64 x.p, .bool x.t] 28)
      clear c0 c1
      generalize wr.alloc (.cells #[.int .i64 x.p, .bool x.t] 28) = w1 at *
      have c0 := hxs.cell 0
      have c1 := hxs.cell 1
      simp at c0 c1
      have hcl1 := hcl w1 hb1
      clear hcl
      go_wp2_with (refine hcl1.mono ?_; rintro e w2 ⟨rfl, hb2⟩)
      · go_ret
        exact ⟨by rw [H.out]; simp [*], bthen hb1 hb2⟩
      · go_roundw
        case rel => exact ⟨k+1, by omega, by go_num, by rw [H.out]; simp [*], bthen hb1 hb2⟩
        case measure => simp [intOf]; omega
    · obtain rfl : k = l.length := by omega
      have H := Lib.hid hf; clear hf
      go_wp2
      go_ret
      exact ⟨by rw [H.out]; simp [idxOf], hb⟩

theorem numS_eq (c : Cyl) (s : St) : numS c s = idxOf (fun x => x.p == s.p && x.t == s.t) 0 (stepsOf c) := by
  unfold numS
  congr 1
  funext x
  obtain ⟨a, b⟩ := x
  obtain ⟨a', b'⟩ := s
  rw [Bool.eq_iff_iff]
  simp
abbrev stV2 (s : St) : Value := .agg #[.int .i64 s.p, .bool s.t]
theorem index1_ok (x s : St) (g : Nat) (w : World) (h : Blk w g 28 #[.int .i64 s.p, .bool s.t]) :
    Calls Try.prog 65 #[stV2 x, .pointer (some ⟨g, 0, none⟩)] w fun r w' => r = .returned (.bool (x.p == s.p && x.t == s.t)) ∧ Below w.heap.size w w' := by
  have hb := (Below.refl w.heap.size w).alloc (Nat.le_refl _) (.cells #[.int .i64 x.p, .bool x.t] 28)
  have hX := Blk.new w 28 #[.int .i64 x.p, .bool x.t]
  have hS := h.call hb
  go_enter Try.func65, Try.ntmps65
  go_upto_region 1 with (fail)
  generalize w.alloc (.cells #[.int .i64 x.p, .bool x.t] 28) = W at *
  have x0 := hX.cell 0
  have x1 := hX.cell 1
  have s0 := hS.cell 0
  have s1 := hS.cell 1
  simp at x0 x1 s0 s1
  have hq : ∀ w', (Op.equalIn 10000 28 (.agg #[.int .i64 x.p, .bool x.t]) (.agg #[.int .i64 s.p, .bool s.t])).run Try.prog w' = .ok (x.p == s.p && x.t == s.t) w' := fun w' => eq_st _ _ _ _ w'
  go_wp2
  go_ret
  exact ⟨rfl, hb⟩
theorem index_ok (x : TX) (c : Cyl) (s : St) (w : World) (hT : TF w x c) :
    Calls Try.prog 43 #[.pointer (some ⟨x.g, 0, none⟩), stV2 s] w fun r w' => r = .returned (.int .i64 (numS c s)) ∧ Below w.heap.size w w' := by
  rw [numS_eq]
  have hb := (Below.refl w.heap.size w).alloc (Nat.le_refl _) (.cells #[.int .i64 s.p, .bool s.t] 28)
  have hS := Blk.new w 28 #[.int .i64 s.p, .bool s.t]
  have hT1 := hT.call hb
  go_enter Try.func43, Try.ntmps43
  go_upto_region 1 with (fail)
  generalize w.alloc (.cells #[.int .i64 s.p, .bool s.t] 28) = W at *
  obtain ⟨q0, q1, q2, q3, q4⟩ := hT1.tc.c5
  have hA : Arr W W.heap.size 2 (.slice (some ⟨x.sb, x.so, none⟩) (stepsOf c).length x.sc) (stepsOf c) stcell :=
    ⟨_, _, rfl, hT1.scap.1, hT1.scap.2, fun _ => ⟨_, _, rfl, Nat.lt_of_lt_of_le hT1.sl hT1.le, fun k s hs j hj => hT1.sts k s hs j hj⟩⟩
  have hf := first_ok _ (stepsOf c) 65 #[] #[.pointer (some ⟨w.heap.size, 0, none⟩)] (fun x => x.p == s.p && x.t == s.t) W (fun _ _ => rfl) hA (fun y hy w1 hb1 => index1_ok y s w.heap.size w1 (hS.call hb1))
  clear hA hT1
  go_wp2_with (go_at_call 64; refine hf.mono ?_; rintro e w1 ⟨rfl, hb1⟩)
  go_ret
  exact ⟨rfl, hb.trans (hb1.mono hb.size)⟩
theorem open1_ok (x : TX) (c : Cyl) (s : St) (g : Nat) (w : World) (hT : TF w x c) (h : Blk w g 72 #[.pointer (some ⟨x.g, 0, none⟩)]) :
    Calls Try.prog 63 #[stV2 s, .pointer (some ⟨g, 0, none⟩)] w fun r w' => r = .returned (.bool (decide (numS c s < 0))) ∧ Below w.heap.size w w' := by
  have hb := (Below.refl w.heap.size w).alloc (Nat.le_refl _) (.cells #[.int .i64 s.p, .bool s.t] 28)
  have hX := Blk.new w 28 #[.int .i64 s.p, .bool s.t]
  have hS := h.call hb
  have hT1 := hT.call hb
  go_enter Try.func63, Try.ntmps63
  go_upto_region 1 with (fail)
  generalize w.alloc (.cells #[.int .i64 s.p, .bool s.t] 28) = W at *
  have x0 := hX.cell 0
  have x1 := hX.cell 1
  have s0 := hS.cell 0
  simp at x0 x1 s0
  have hi := index_ok x c s W hT1
  go_wp2_with (go_at_call 43; refine hi.mono ?_; rintro e w1 ⟨rfl, hb1⟩)
  go_ret
  exact ⟨rfl, hb.trans (hb1.mono hb.size)⟩
end Go.Proofs.Ytjjjockfppomdaa
