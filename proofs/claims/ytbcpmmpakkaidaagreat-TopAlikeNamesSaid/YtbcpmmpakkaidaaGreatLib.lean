/- Contracts of the library: Contains, ContainsFunc, Min, Max. -/
import Derived.Test.YtbcpmmpakkaidaaGreatMemM
import Derived.WalkLawsBesides
namespace Go.Proofs.YtbcpmmpakkaidaaGreat
open Go.RowKit Go.Shelf
set_option linter.unusedVariables false
def idxOf {α : Type} (p : α → Bool) : Nat → List α → Int
  | _, [] => -1
  | i, x :: l => if p x = true then i else idxOf p (i + 1) l
theorem idxOf_nonneg {α : Type} (p : α → Bool) : ∀ (l : List α) (i : Nat), (decide (0 ≤ idxOf p i l)) = l.any p
  | [], i => rfl
  | x :: l, i => by
    unfold idxOf
    rw [List.any_cons]
    by_cases h : p x = true
    · rw [if_pos h, h]
      simp
    · rw [if_neg h, idxOf_nonneg p l (i + 1)]
      simp [h]
theorem idxOf_drop {α : Type} (p : α → Bool) (l : List α) (k : Nat) (x : α) (h : l[k]? = some x) : idxOf p k (l.drop k) = if p x = true then (k : Int) else idxOf p (k + 1) (l.drop (k + 1)) := by
  rw [drop_cons h]
  rfl
theorem index_int_ok (sv : Value) (l : List Int) (v : Int) (w : World) (hs : Arr w w.heap.size 1 sv l icell) :
    Calls Tryz.prog 203 #[sv, .int .i64 v] w fun r w' => r = .returned (.int .i64 (idxOf (fun x => v == x) 0 l)) ∧ Below w.heap.size w w' := by
  obtain ⟨A, c, rfl, hn, hc, hcell⟩ := hs
  go_enter Tryz.func203, Tryz.ntmps203
  go_wp2
  go_loopw [5, 8] (fun x i wr => ∃ k : Nat, k ≤ l.length ∧ i = .int .i64 k ∧ idxOf (fun x => v == x) 0 l = idxOf (fun x => v == x) k (l.drop k) ∧ Below w.heap.size w wr) (fun _ i _ => l.length - (intOf i).toNat)
  case atStart => exact ⟨0, Nat.zero_le _, rfl, rfl, Below.refl _ _⟩
  case round =>
    obtain ⟨k, hk, rfl, hf, hb⟩ := hrel
    by_cases hlt : k < l.length
    · obtain ⟨b, off, rfl, hB, hcc⟩ := hcell (by omega)
      obtain ⟨x, hx⟩ : ∃ x, l[k]? = some x := ⟨l[k], List.getElem?_eq_getElem hlt⟩
      have hce := (hb.cell (p := ⟨b, off + k*1+0, none⟩) hB).trans (hcc k x hx 0 (by omega))
      simp only [Nat.mul_one, Nat.add_zero] at hce
      rw [idxOf_drop _ l k x hx] at hf
      have H := Lib.hid hf; clear hf
      clear hcc hcell hx
      by_cases hv : v = x
      · have h1 : (v == x) = true := by simpa using hv
        have HV : Hid ((v == x) = true) := h1
        go_wp2
        go_ret
        exact ⟨ret_i (by rw [H.out]; simp [HV.out]), hb⟩
      · have h1 : (v == x) = false := by simpa using hv
        have HV : Hid ((v == x) = false) := h1
        go_wp2
        go_roundw
        case rel => exact ⟨k+1, by omega, by go_num, by rw [H.out]; simp [HV.out], hb⟩
        case measure => (simp [intOf]; try omega)
    · obtain rfl : k = l.length := by omega
      have H := Lib.hid hf; clear hf
      go_wp2
      go_ret
      exact ⟨by rw [H.out]; simp [idxOf], hb⟩
theorem contains_int_ok (sv : Value) (l : List Int) (v : Int) (w : World) (hs : Arr w w.heap.size 1 sv l icell) :
    Calls Tryz.prog 92 #[sv, .int .i64 v] w fun r w' => r = .returned (.bool (l.any fun x => v == x)) ∧ Below w.heap.size w w' := by
  have hi := index_int_ok sv l v w hs
  have HD := Lib.hid (idxOf_nonneg (fun x => v == x) l 0)
  clear hs
  go_enter Tryz.func92, Tryz.ntmps92
  go_wp2_with (go_at_call 203; refine hi.mono ?_; rintro e w1 ⟨rfl, hb1⟩)
  go_ret
  exact ⟨by rw [← HD.out]; simp, hb1⟩
set_option maxHeartbeats 400000 in
theorem indexFunc_int (sv : Value) (l : List Int) (fn : FuncId) (fs cs : Array Value) (p : Int → Bool) (w : World)
   (eg : ∀ args w, (callFunc fn args).run Tryz.prog w = .ok (.enter fn args) w)
   (hs : Arr w w.heap.size 1 sv l icell)
   (hcall : ∀ x ∈ l, ∀ w1, Below w.heap.size w w1 → Calls Tryz.prog fn (fs.push (.int .i64 x) ++ cs) w1 fun e w2 => e = .returned (.bool (p x)) ∧ Below w1.heap.size w1 w2) :
    Calls Tryz.prog 117 #[sv, .func (.func fn) fs cs] w fun r w' => r = .returned (.int .i64 (idxOf p 0 l)) ∧ Below w.heap.size w w' := by
  obtain ⟨A, c, rfl, hn, hc, hcell⟩ := hs
  go_enter Tryz.func117, Tryz.ntmps117
  go_wp2
  go_loopw [5, 8] (fun x i wr => ∃ k : Nat, k ≤ l.length ∧ i = .int .i64 k ∧ idxOf p 0 l = idxOf p k (l.drop k) ∧ Below w.heap.size w wr) (fun _ i _ => l.length - (intOf i).toNat)
  case atStart => exact ⟨0, Nat.zero_le _, rfl, rfl, Below.refl _ _⟩
  case round =>
    obtain ⟨k, hk, rfl, hf, hb⟩ := hrel
    by_cases hlt : k < l.length
    · obtain ⟨b, off, rfl, hB, hcc⟩ := hcell (by omega)
      obtain ⟨x, hx⟩ : ∃ x, l[k]? = some x := ⟨l[k], List.getElem?_eq_getElem hlt⟩
      have c0 := (hb.cell (p := ⟨b, off + k*1+0, none⟩) hB).trans (hcc k x hx 0 (by omega))
      simp only [Nat.mul_one, Nat.add_zero, icell] at c0
      have hcl := hcall x (List.mem_of_getElem? hx) wr hb
      rw [idxOf_drop p l k x hx] at hf
      have H := Lib.hid hf; clear hf
      have HX := Lib.hid hx; clear hx
      clear hcall hcc hcell
      go_wp2_with (refine hcl.mono ?_; rintro e w1 ⟨rfl, hb1⟩)
      · go_ret
        exact ⟨by rw [H.out]; simp [*], bthen hb hb1⟩
      · go_roundw
        case rel => exact ⟨k+1, by omega, by go_num, by rw [H.out]; simp [*], bthen hb hb1⟩
        case measure => simp [intOf]; omega
    · obtain rfl : k = l.length := by omega
      have H := Lib.hid hf; clear hf
      go_wp2
      go_ret
      exact ⟨by rw [H.out]; simp [idxOf], hb⟩
theorem containsFunc_int (sv : Value) (l : List Int) (fn : FuncId) (fs cs : Array Value) (p : Int → Bool) (w : World)
   (eg : ∀ args w, (callFunc fn args).run Tryz.prog w = .ok (.enter fn args) w)
   (hs : Arr w w.heap.size 1 sv l icell)
   (hcall : ∀ x ∈ l, ∀ w1, Below w.heap.size w w1 → Calls Tryz.prog fn (fs.push (.int .i64 x) ++ cs) w1 fun e w2 => e = .returned (.bool (p x)) ∧ Below w1.heap.size w1 w2) :
    Calls Tryz.prog 55 #[sv, .func (.func fn) fs cs] w fun r w' => r = .returned (.bool (l.any p)) ∧ Below w.heap.size w w' := by
  have hi := indexFunc_int sv l fn fs cs p w eg hs hcall
  have HD := Lib.hid (idxOf_nonneg p l 0)
  clear hcall hs
  go_enter Tryz.func55, Tryz.ntmps55
  go_wp2_with (go_at_call 117; refine hi.mono ?_; rintro e w1 ⟨rfl, hb1⟩)
  go_ret
  exact ⟨by rw [← HD.out]; simp, hb1⟩
set_option maxHeartbeats 400000 in
theorem indexFunc_lk (sv : Value) (l : List LkI) (fn : FuncId) (fs cs : Array Value) (p : LkI → Bool) (w : World)
   (eg : ∀ args w, (callFunc fn args).run Tryz.prog w = .ok (.enter fn args) w)
   (hs : Arr w w.heap.size 3 sv l lkcell)
   (hcall : ∀ x ∈ l, ∀ w1, Below w.heap.size w w1 → Calls Tryz.prog fn (fs.push (.agg #[.int .i64 x.one, .int .i64 x.two, .int .i64 x.trust]) ++ cs) w1 fun e w2 => e = .returned (.bool (p x)) ∧ Below w1.heap.size w1 w2) :
    Calls Tryz.prog 215 #[sv, .func (.func fn) fs cs] w fun r w' => r = .returned (.int .i64 (idxOf p 0 l)) ∧ Below w.heap.size w w' := by
  obtain ⟨A, c, rfl, hn, hc, hcell⟩ := hs
  go_enter Tryz.func215, Tryz.ntmps215
  go_wp2
  go_loopw [5, 8] (fun x i wr => ∃ k : Nat, k ≤ l.length ∧ i = .int .i64 k ∧ idxOf p 0 l = idxOf p k (l.drop k) ∧ Below w.heap.size w wr) (fun _ i _ => l.length - (intOf i).toNat)
  case atStart => exact ⟨0, Nat.zero_le _, rfl, rfl, Below.refl _ _⟩
  case round =>
    obtain ⟨k, hk, rfl, hf, hb⟩ := hrel
    by_cases hlt : k < l.length
    · obtain ⟨b, off, rfl, hB, hcc⟩ := hcell (by omega)
      obtain ⟨x, hx⟩ : ∃ x, l[k]? = some x := ⟨l[k], List.getElem?_eq_getElem hlt⟩
      have c0 := (hb.cell (p := ⟨b, off + k*3+0, none⟩) hB).trans (hcc k x hx 0 (by omega))
      have c1 := (hb.cell (p := ⟨b, off + k*3+1, none⟩) hB).trans (hcc k x hx 1 (by omega))
      have c2 := (hb.cell (p := ⟨b, off + k*3+2, none⟩) hB).trans (hcc k x hx 2 (by omega))
      simp only [Nat.add_zero, lkcell] at c0 c1 c2
      have hcl := hcall x (List.mem_of_getElem? hx) wr hb
      rw [idxOf_drop p l k x hx] at hf
      have H := Lib.hid hf; clear hf
      have HX := Lib.hid hx; clear hx
      clear hcall hcc hcell
      go_wp2_with (refine hcl.mono ?_; rintro e w1 ⟨rfl, hb1⟩)
      · go_ret
        exact ⟨by rw [H.out]; simp [*], bthen hb hb1⟩
      · go_roundw
        case rel => exact ⟨k+1, by omega, by go_num, by rw [H.out]; simp [*], bthen hb hb1⟩
        case measure => simp [intOf]; omega
    · obtain rfl : k = l.length := by omega
      have H := Lib.hid hf; clear hf
      go_wp2
      go_ret
      exact ⟨by rw [H.out]; simp [idxOf], hb⟩
theorem containsFunc_lk (sv : Value) (l : List LkI) (fn : FuncId) (fs cs : Array Value) (p : LkI → Bool) (w : World)
   (eg : ∀ args w, (callFunc fn args).run Tryz.prog w = .ok (.enter fn args) w)
   (hs : Arr w w.heap.size 3 sv l lkcell)
   (hcall : ∀ x ∈ l, ∀ w1, Below w.heap.size w w1 → Calls Tryz.prog fn (fs.push (.agg #[.int .i64 x.one, .int .i64 x.two, .int .i64 x.trust]) ++ cs) w1 fun e w2 => e = .returned (.bool (p x)) ∧ Below w1.heap.size w1 w2) :
    Calls Tryz.prog 121 #[sv, .func (.func fn) fs cs] w fun r w' => r = .returned (.bool (l.any p)) ∧ Below w.heap.size w w' := by
  have hi := indexFunc_lk sv l fn fs cs p w eg hs hcall
  have HD := Lib.hid (idxOf_nonneg p l 0)
  clear hcall hs
  go_enter Tryz.func121, Tryz.ntmps121
  go_wp2_with (go_at_call 215; refine hi.mono ?_; rintro e w1 ⟨rfl, hb1⟩)
  go_ret
  exact ⟨by rw [← HD.out]; simp, hb1⟩
end Go.Proofs.YtbcpmmpakkaidaaGreat
