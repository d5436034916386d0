/- Contracts of the small functions of package play: within, has, CheckCylinder, CheckPlan, Saves. -/
import Derived.Test.YthplabmbbfefeaaBase
namespace Go.Proofs.Ythplabmbbfefeaa
open Go.RowKit Go.Shelf
set_option linter.unusedVariables false

abbrev icell (x : Int) (_ : Nat) : Value := .int .i64 x
def scell (s : Str) : Nat → Value
  | 0 => .int .i64 s.a
  | _ => .int .i64 s.b
def pcell (p : Pas) : Nat → Value
  | 0 => .int .i64 p.a
  | 1 => .int .i64 p.b
  | _ => .int .i64 p.w

set_option maxHeartbeats 400000 in
theorem indexFunc_str (sv : Value) (l : List Str) (fn : FuncId) (fs cs : Array Value) (p : Str → Bool) (w : World)
   (eg : ∀ args w, (callFunc fn args).run Try.prog w = .ok (.enter fn args) w)
   (hs : Arr w w.heap.size 2 sv l scell)
   (hcall : ∀ x ∈ l, ∀ w1, Below w.heap.size w w1 → Calls Try.prog fn (fs.push (.agg #[.int .i64 x.a, .int .i64 x.b]) ++ cs) w1 fun e w2 => e = .returned (.bool (p x)) ∧ Below w1.heap.size w1 w2) :
    Calls Try.prog 68 #[sv, .func (.func fn) fs cs] w fun r w' => r = .returned (.int .i64 (idxOf p 0 l)) ∧ Below w.heap.size w w' := by
  obtain ⟨A, c, rfl, hn, hc, hcell⟩ := hs
  go_enter Try.func68, Try.ntmps68
  go_wp2
  go_loopw [5, 8] (fun x i wr => ∃ k : Nat, k ≤ l.length ∧ i = .int .i64 k ∧ idxOf p 0 l = idxOf p k (l.drop k) ∧ Below w.heap.size w wr) (fun _ i _ => l.length - (intOf i).toNat)
  case atStart => exact ⟨0, Nat.zero_le _, rfl, rfl, Below.refl _ _⟩
  case round =>
    obtain ⟨k, hk, rfl, hf, hb⟩ := hrel
    by_cases hlt : k < l.length
    · obtain ⟨b, off, rfl, hB, hcc⟩ := hcell (by omega)
      obtain ⟨x, hx⟩ : ∃ x, l[k]? = some x := ⟨l[k], List.getElem?_eq_getElem hlt⟩
      have hce := fun j (hj : j < 2) => (hb.cell (p := ⟨b, off + k*2+j, none⟩) hB).trans (hcc k x hx j hj)
      have c0 := hce 0 (by omega)
      have c1 := hce 1 (by omega)
      have c2 := hce (2 - 1) (by omega)
      clear hce
      simp only [Nat.add_zero, scell, Nat.reduceSub] at c0 c1 c2
      have hcl := hcall x (List.mem_of_getElem? hx) wr hb
      rw [idxOf_drop p l k x hx] at hf
      have H := Lib.hid hf; clear hf
      have HX := Lib.hid hx; clear hx
      clear hcall hcc hcell
      go_wp2_with (refine hcl.mono ?_; rintro e w1 ⟨rfl, hb1⟩)
      · go_ret
        exact ⟨by rw [H.out]; simp [*], bthen hb hb1⟩
      · go_roundw
        case rel => exact ⟨k+1, by omega, by go_num, by rw [H.out]; simp [*], bthen hb hb1⟩
        case measure => simp [intOf]; omega
    · obtain rfl : k = l.length := by omega
      have H := Lib.hid hf; clear hf
      go_wp2
      go_ret
      exact ⟨by rw [H.out]; simp [idxOf], hb⟩

theorem containsFunc_str (sv : Value) (l : List Str) (fn : FuncId) (fs cs : Array Value) (p : Str → Bool) (w : World)
   (eg : ∀ args w, (callFunc fn args).run Try.prog w = .ok (.enter fn args) w)
   (hs : Arr w w.heap.size 2 sv l scell)
   (hcall : ∀ x ∈ l, ∀ w1, Below w.heap.size w w1 → Calls Try.prog fn (fs.push (.agg #[.int .i64 x.a, .int .i64 x.b]) ++ cs) w1 fun e w2 => e = .returned (.bool (p x)) ∧ Below w1.heap.size w1 w2) :
    Calls Try.prog 42 #[sv, .func (.func fn) fs cs] w fun r w' => r = .returned (.bool (l.any p)) ∧ Below w.heap.size w w' := by
  have hi := indexFunc_str sv l fn fs cs p w eg hs hcall
  have HD := Lib.hid (idxOf_nonneg p l 0)
  clear hcall hs
  go_enter Try.func42, Try.ntmps42
  go_wp2_with (go_at_call 68; refine hi.mono ?_; rintro e w1 ⟨rfl, hb1⟩)
  go_ret
  exact ⟨by rw [← HD.out]; simp, hb1⟩
set_option maxHeartbeats 400000 in
theorem indexFunc_pas (sv : Value) (l : List Pas) (fn : FuncId) (fs cs : Array Value) (p : Pas → Bool) (w : World)
   (eg : ∀ args w, (callFunc fn args).run Try.prog w = .ok (.enter fn args) w)
   (hs : Arr w w.heap.size 3 sv l pcell)
   (hcall : ∀ x ∈ l, ∀ w1, Below w.heap.size w w1 → Calls Try.prog fn (fs.push (.agg #[.int .i64 x.a, .int .i64 x.b, .int .i64 x.w]) ++ cs) w1 fun e w2 => e = .returned (.bool (p x)) ∧ Below w1.heap.size w1 w2) :
    Calls Try.prog 70 #[sv, .func (.func fn) fs cs] w fun r w' => r = .returned (.int .i64 (idxOf p 0 l)) ∧ Below w.heap.size w w' := by
  obtain ⟨A, c, rfl, hn, hc, hcell⟩ := hs
  go_enter Try.func70, Try.ntmps70
  go_wp2
  go_loopw [5, 8] (fun x i wr => ∃ k : Nat, k ≤ l.length ∧ i = .int .i64 k ∧ idxOf p 0 l = idxOf p k (l.drop k) ∧ Below w.heap.size w wr) (fun _ i _ => l.length - (intOf i).toNat)
  case atStart => exact ⟨0, Nat.zero_le _, rfl, rfl, Below.refl _ _⟩
  case round =>
    obtain ⟨k, hk, rfl, hf, hb⟩ := hrel
    by_cases hlt : k < l.length
    · obtain ⟨b, off, rfl, hB, hcc⟩ := hcell (by omega)
      obtain ⟨x, hx⟩ : ∃ x, l[k]? = some x := ⟨l[k], List.getElem?_eq_getElem hlt⟩
      have hce := fun j (hj : j < 3) => (hb.cell (p := ⟨b, off + k*3+j, none⟩) hB).trans (hcc k x hx j hj)
      have c0 := hce 0 (by omega)
      have c1 := hce 1 (by omega)
      have c2 := hce (3 - 1) (by omega)
      clear hce
      simp only [Nat.add_zero, pcell, Nat.reduceSub] at c0 c1 c2
      have hcl := hcall x (List.mem_of_getElem? hx) wr hb
      rw [idxOf_drop p l k x hx] at hf
      have H := Lib.hid hf; clear hf
      have HX := Lib.hid hx; clear hx
      clear hcall hcc hcell
      go_wp2_with (refine hcl.mono ?_; rintro e w1 ⟨rfl, hb1⟩)
      · go_ret
        exact ⟨by rw [H.out]; simp [*], bthen hb hb1⟩
      · go_roundw
        case rel => exact ⟨k+1, by omega, by go_num, by rw [H.out]; simp [*], bthen hb hb1⟩
        case measure => simp [intOf]; omega
    · obtain rfl : k = l.length := by omega
      have H := Lib.hid hf; clear hf
      go_wp2
      go_ret
      exact ⟨by rw [H.out]; simp [idxOf], hb⟩

theorem containsFunc_pas (sv : Value) (l : List Pas) (fn : FuncId) (fs cs : Array Value) (p : Pas → Bool) (w : World)
   (eg : ∀ args w, (callFunc fn args).run Try.prog w = .ok (.enter fn args) w)
   (hs : Arr w w.heap.size 3 sv l pcell)
   (hcall : ∀ x ∈ l, ∀ w1, Below w.heap.size w w1 → Calls Try.prog fn (fs.push (.agg #[.int .i64 x.a, .int .i64 x.b, .int .i64 x.w]) ++ cs) w1 fun e w2 => e = .returned (.bool (p x)) ∧ Below w1.heap.size w1 w2) :
    Calls Try.prog 47 #[sv, .func (.func fn) fs cs] w fun r w' => r = .returned (.bool (l.any p)) ∧ Below w.heap.size w w' := by
  have hi := indexFunc_pas sv l fn fs cs p w eg hs hcall
  have HD := Lib.hid (idxOf_nonneg p l 0)
  clear hcall hs
  go_enter Try.func47, Try.ntmps47
  go_wp2_with (go_at_call 70; refine hi.mono ?_; rintro e w1 ⟨rfl, hb1⟩)
  go_ret
  exact ⟨by rw [← HD.out]; simp, hb1⟩

theorem within1_ok (x lo hi : Int) (w : World) (b1 b2 : Nat) (h1 : w.cell? ⟨b1, 0, none⟩ = some (.int .i64 lo)) (h2 : w.cell? ⟨b2, 0, none⟩ = some (.int .i64 hi)) :
    Calls Try.prog 69 #[.int .i64 x, .pointer (some ⟨b1,0,none⟩), .pointer (some ⟨b2,0,none⟩)] w fun r w' => r = .returned (.bool (decide (x < lo) || decide (hi < x))) ∧ Below w.heap.size w w' := by
  go_enter Try.func69, Try.ntmps69
  go_wp2
  all_goals (go_ret; exact ⟨by simp [*], Below.refl _ _⟩)

theorem all_of_any (lo hi : Int) (l : List Int) : (!(l.any fun x => decide (x < lo) || decide (hi < x))) = l.all (inR lo hi) := by
  induction l with
  | nil => rfl
  | cons x r ih =>
    simp only [List.any_cons, List.all_cons, Bool.not_or, ih, inR]
    congr 1
    rw [Bool.eq_iff_iff]
    simp

theorem within_ok (lo hi : Int) (lv : Value) (l : List Int) (w : World) (hs : Arr w w.heap.size 1 lv l icell) :
    Calls Try.prog 45 #[.int .i64 lo, .int .i64 hi, lv] w fun r w' => r = .returned (.bool (l.all (inR lo hi))) ∧ Below w.heap.size w w' := by
  have HA := Lib.hid (all_of_any lo hi l)
  go_enter Try.func45, Try.ntmps45
  go_wp2_with fail
  refine (containsFunc_int _ l 69 _ _ (fun x => decide (x < lo) || decide (hi < x)) _ (enters_of Try.func69 (by kernel_rfl) rfl) ?h1 ?h2).mono ?_
  case h1 => exact ((hs.alloc (by simp) _).alloc (by simp) _).more (by simp; omega)
  case h2 =>
    intro x _ w1 hb
    exact within1_ok x lo hi w1 _ _ ((hb.cell (p := ⟨w.heap.size, 0, none⟩) (by simp; omega)).trans (by simp)) ((hb.cell (p := ⟨w.heap.size + 1, 0, none⟩) (by simp)).trans (by simp))
  rintro e w1 ⟨rfl, hb⟩
  go_wp2
  go_ret
  exact ⟨by rw [← HA.out]; simp, ((((Below.refl _ _).alloc (Nat.le_refl _) _).alloc (by simp) _).trans (hb.mono (by simp; omega)))⟩

theorem has_ok (s : Str) (p : Pas) (w : World) :
    Calls Try.prog 44 #[.agg #[.int .i64 s.a, .int .i64 s.b], .agg #[.int .i64 p.a, .int .i64 p.b, .int .i64 p.w]] w fun r w' => r = .returned (.bool (hasP s p)) ∧ Below w.heap.size w w' := by
  go_enter Try.func44, Try.ntmps44
  go_wp2
  all_goals (go_ret; exact ⟨by simp [hasP, *]; try omega, ((Below.refl _ _).alloc (Nat.le_refl _) _).alloc (by simp) _⟩)
end Go.Proofs.Ythplabmbbfefeaa
