/- Contracts of the library: Contains, ContainsFunc, Min, Max. -/
import Derived.Test.YtpkccmohlcndgaaMemM
import Derived.WalkLawsBesides
namespace Go.Proofs.Ytpkccmohlcndgaa
open Go.RowKit Go.Shelf
set_option linter.unusedVariables false

def idxOf {α : Type} (p : α → Bool) : Nat → List α → Int
  | _, [] => -1
  | i, x :: l => if p x = true then i else idxOf p (i + 1) l
theorem idxOf_nonneg {α : Type} (p : α → Bool) : ∀ (l : List α) (i : Nat), (decide (0 ≤ idxOf p i l)) = l.any p
  | [], i => rfl
  | x :: l, i => by
    unfold idxOf
    rw [List.any_cons]
    by_cases h : p x = true
    · rw [if_pos h, h]
      simp
    · rw [if_neg h, idxOf_nonneg p l (i + 1)]
      simp [h]
theorem idxOf_drop {α : Type} (p : α → Bool) (l : List α) (k : Nat) (x : α) (h : l[k]? = some x) : idxOf p k (l.drop k) = if p x = true then (k : Int) else idxOf p (k + 1) (l.drop (k + 1)) := by
  rw [drop_cons h]
  rfl
theorem index_int_ok (sv : Value) (l : List Int) (v : Int) (w : World) (hs : Arr w w.heap.size 1 sv l icell) :
    Calls Try.prog 75 #[sv, .int .i64 v] w fun r w' => r = .returned (.int .i64 (idxOf (fun x => v == x) 0 l)) ∧ Below w.heap.size w w' := by
  obtain ⟨A, c, rfl, hn, hc, hcell⟩ := hs
  go_enter Try.func75, Try.ntmps75
  go_wp2
  go_loopw [5, 8] (fun x i wr => ∃ k : Nat, k ≤ l.length ∧ i = .int .i64 k ∧ idxOf (fun x => v == x) 0 l = idxOf (fun x => v == x) k (l.drop k) ∧ Below w.heap.size w wr) (fun _ i _ => l.length - (intOf i).toNat)
  case atStart => exact ⟨0, Nat.zero_le _, rfl, rfl, Below.refl _ _⟩
  case round =>
    obtain ⟨k, hk, rfl, hf, hb⟩ := hrel
    by_cases hlt : k < l.length
    · obtain ⟨b, off, rfl, hB, hcc⟩ := hcell (by omega)
      obtain ⟨x, hx⟩ : ∃ x, l[k]? = some x := ⟨l[k], List.getElem?_eq_getElem hlt⟩
      have hce := (hb.cell (p := ⟨b, off + k*1+0, none⟩) hB).trans (hcc k x hx 0 (by omega))
      simp only [Nat.mul_one, Nat.add_zero] at hce
      rw [idxOf_drop _ l k x hx] at hf
      have H := Lib.hid hf; clear hf
      clear hcc hcell hx
      by_cases hv : v = x
      · have h1 : (v == x) = true := by simpa using hv
        have HV : Hid ((v == x) = true) := h1
        go_wp2
        go_ret
        exact ⟨ret_i (by rw [H.out]; simp [HV.out]), hb⟩
      · have h1 : (v == x) = false := by simpa using hv
        have HV : Hid ((v == x) = false) := h1
        go_wp2
        go_roundw
        case rel => exact ⟨k+1, by omega, by go_num, by rw [H.out]; simp [HV.out], hb⟩
        case measure => (simp [intOf]; try omega)
    · obtain rfl : k = l.length := by omega
      have H := Lib.hid hf; clear hf
      go_wp2
      go_ret
      exact ⟨by rw [H.out]; simp [idxOf], hb⟩

theorem contains_int_ok (sv : Value) (l : List Int) (v : Int) (w : World) (hs : Arr w w.heap.size 1 sv l icell) :
    Calls Try.prog 55 #[sv, .int .i64 v] w fun r w' => r = .returned (.bool (l.any fun x => v == x)) ∧ Below w.heap.size w w' := by
  have hi := index_int_ok sv l v w hs
  have HD := Lib.hid (idxOf_nonneg (fun x => v == x) l 0)
  clear hs
  go_enter Try.func55, Try.ntmps55
  go_wp2_with (go_at_call 75; refine hi.mono ?_; rintro e w1 ⟨rfl, hb1⟩)
  go_ret
  exact ⟨by rw [← HD.out]; simp, hb1⟩

set_option maxHeartbeats 400000 in
theorem indexFunc_int (sv : Value) (l : List Int) (fn : FuncId) (fs cs : Array Value) (p : Int → Bool) (w : World)
   (eg : ∀ args w, (callFunc fn args).run Try.prog w = .ok (.enter fn args) w)
   (hs : Arr w w.heap.size 1 sv l icell)
   (hcall : ∀ x ∈ l, ∀ w1, Below w.heap.size w w1 → Calls Try.prog fn (fs.push (.int .i64 x) ++ cs) w1 fun e w2 => e = .returned (.bool (p x)) ∧ Below w1.heap.size w1 w2) :
    Calls Try.prog 74 #[sv, .func (.func fn) fs cs] w fun r w' => r = .returned (.int .i64 (idxOf p 0 l)) ∧ Below w.heap.size w w' := by
  obtain ⟨A, c, rfl, hn, hc, hcell⟩ := hs
  go_enter Try.func74, Try.ntmps74
  go_wp2
  go_loopw [5, 8] (fun x i wr => ∃ k : Nat, k ≤ l.length ∧ i = .int .i64 k ∧ idxOf p 0 l = idxOf p k (l.drop k) ∧ Below w.heap.size w wr) (fun _ i _ => l.length - (intOf i).toNat)
  case atStart => exact ⟨0, Nat.zero_le _, rfl, rfl, Below.refl _ _⟩
  case round =>
    obtain ⟨k, hk, rfl, hf, hb⟩ := hrel
    by_cases hlt : k < l.length
    · obtain ⟨b, off, rfl, hB, hcc⟩ := hcell (by omega)
      obtain ⟨x, hx⟩ : ∃ x, l[k]? = some x := ⟨l[k], List.getElem?_eq_getElem hlt⟩
      have c0 := (hb.cell (p := ⟨b, off + k*1+0, none⟩) hB).trans (hcc k x hx 0 (by omega))
      simp only [Nat.mul_one, Nat.add_zero, icell] at c0
      have hcl := hcall x (List.mem_of_getElem? hx) wr hb
      rw [idxOf_drop p l k x hx] at hf
      have H := Lib.hid hf; clear hf
      have HX := Lib.hid hx; clear hx
      clear hcall hcc hcell
      go_wp2_with (refine hcl.mono ?_; rintro e w1 ⟨rfl, hb1⟩)
      · go_ret
        exact ⟨by rw [H.out]; simp [*], bthen hb hb1⟩
      · go_roundw
        case rel => exact ⟨k+1, by omega, by go_num, by rw [H.out]; simp [*], bthen hb hb1⟩
        case measure => simp [intOf]; omega
    · obtain rfl : k = l.length := by omega
      have H := Lib.hid hf; clear hf
      go_wp2
      go_ret
      exact ⟨by rw [H.out]; simp [idxOf], hb⟩

theorem containsFunc_int (sv : Value) (l : List Int) (fn : FuncId) (fs cs : Array Value) (p : Int → Bool) (w : World)
   (eg : ∀ args w, (callFunc fn args).run Try.prog w = .ok (.enter fn args) w)
   (hs : Arr w w.heap.size 1 sv l icell)
   (hcall : ∀ x ∈ l, ∀ w1, Below w.heap.size w w1 → Calls Try.prog fn (fs.push (.int .i64 x) ++ cs) w1 fun e w2 => e = .returned (.bool (p x)) ∧ Below w1.heap.size w1 w2) :
    Calls Try.prog 53 #[sv, .func (.func fn) fs cs] w fun r w' => r = .returned (.bool (l.any p)) ∧ Below w.heap.size w w' := by
  have hi := indexFunc_int sv l fn fs cs p w eg hs hcall
  have HD := Lib.hid (idxOf_nonneg p l 0)
  clear hcall hs
  go_enter Try.func53, Try.ntmps53
  go_wp2_with (go_at_call 74; refine hi.mono ?_; rintro e w1 ⟨rfl, hb1⟩)
  go_ret
  exact ⟨by rw [← HD.out]; simp, hb1⟩
set_option maxHeartbeats 400000 in
theorem indexFunc_lk (sv : Value) (l : List LkI) (fn : FuncId) (fs cs : Array Value) (p : LkI → Bool) (w : World)
   (eg : ∀ args w, (callFunc fn args).run Try.prog w = .ok (.enter fn args) w)
   (hs : Arr w w.heap.size 3 sv l lkcell)
   (hcall : ∀ x ∈ l, ∀ w1, Below w.heap.size w w1 → Calls Try.prog fn (fs.push (.agg #[.int .i64 x.one, .int .i64 x.two, .int .i64 x.trust]) ++ cs) w1 fun e w2 => e = .returned (.bool (p x)) ∧ Below w1.heap.size w1 w2) :
    Calls Try.prog 73 #[sv, .func (.func fn) fs cs] w fun r w' => r = .returned (.int .i64 (idxOf p 0 l)) ∧ Below w.heap.size w w' := by
  obtain ⟨A, c, rfl, hn, hc, hcell⟩ := hs
  go_enter Try.func73, Try.ntmps73
  go_wp2
  go_loopw [5, 8] (fun x i wr => ∃ k : Nat, k ≤ l.length ∧ i = .int .i64 k ∧ idxOf p 0 l = idxOf p k (l.drop k) ∧ Below w.heap.size w wr) (fun _ i _ => l.length - (intOf i).toNat)
  case atStart => exact ⟨0, Nat.zero_le _, rfl, rfl, Below.refl _ _⟩
  case round =>
    obtain ⟨k, hk, rfl, hf, hb⟩ := hrel
    by_cases hlt : k < l.length
    · obtain ⟨b, off, rfl, hB, hcc⟩ := hcell (by omega)
      obtain ⟨x, hx⟩ : ∃ x, l[k]? = some x := ⟨l[k], List.getElem?_eq_getElem hlt⟩
      have c0 := (hb.cell (p := ⟨b, off + k*3+0, none⟩) hB).trans (hcc k x hx 0 (by omega))
      have c1 := (hb.cell (p := ⟨b, off + k*3+1, none⟩) hB).trans (hcc k x hx 1 (by omega))
      have c2 := (hb.cell (p := ⟨b, off + k*3+2, none⟩) hB).trans (hcc k x hx 2 (by omega))
      simp only [Nat.add_zero, lkcell] at c0 c1 c2
      have hcl := hcall x (List.mem_of_getElem? hx) wr hb
      rw [idxOf_drop p l k x hx] at hf
      have H := Lib.hid hf; clear hf
      have HX := Lib.hid hx; clear hx
      clear hcall hcc hcell
      go_wp2_with (refine hcl.mono ?_; rintro e w1 ⟨rfl, hb1⟩)
      · go_ret
        exact ⟨by rw [H.out]; simp [*], bthen hb hb1⟩
      · go_roundw
        case rel => exact ⟨k+1, by omega, by go_num, by rw [H.out]; simp [*], bthen hb hb1⟩
        case measure => simp [intOf]; omega
    · obtain rfl : k = l.length := by omega
      have H := Lib.hid hf; clear hf
      go_wp2
      go_ret
      exact ⟨by rw [H.out]; simp [idxOf], hb⟩

theorem containsFunc_lk (sv : Value) (l : List LkI) (fn : FuncId) (fs cs : Array Value) (p : LkI → Bool) (w : World)
   (eg : ∀ args w, (callFunc fn args).run Try.prog w = .ok (.enter fn args) w)
   (hs : Arr w w.heap.size 3 sv l lkcell)
   (hcall : ∀ x ∈ l, ∀ w1, Below w.heap.size w w1 → Calls Try.prog fn (fs.push (.agg #[.int .i64 x.one, .int .i64 x.two, .int .i64 x.trust]) ++ cs) w1 fun e w2 => e = .returned (.bool (p x)) ∧ Below w1.heap.size w1 w2) :
    Calls Try.prog 51 #[sv, .func (.func fn) fs cs] w fun r w' => r = .returned (.bool (l.any p)) ∧ Below w.heap.size w w' := by
  have hi := indexFunc_lk sv l fn fs cs p w eg hs hcall
  have HD := Lib.hid (idxOf_nonneg p l 0)
  clear hcall hs
  go_enter Try.func51, Try.ntmps51
  go_wp2_with (go_at_call 73; refine hi.mono ?_; rintro e w1 ⟨rfl, hb1⟩)
  go_ret
  exact ⟨by rw [← HD.out]; simp, hb1⟩
def minL : List Int → Int
  | [] => 0
  | x :: r => r.foldl min x
def maxL : List Int → Int
  | [] => 0
  | x :: r => r.foldl max x

theorem foldl_min_lt (z : Int) : ∀ (r : List Int) (x : Int), r.foldl min x < z ↔ x < z ∨ ∃ y ∈ r, y < z
  | [], x => by simp
  | y :: r, x => by
    rw [List.foldl_cons, foldl_min_lt z r]
    constructor
    · rintro (h | ⟨q, hq, h⟩)
      · rcases Int.lt_or_le x z with h2 | h2
        · exact .inl h2
        · exact .inr ⟨y, by simp, by omega⟩
      · exact .inr ⟨q, by simp [hq], h⟩
    · rintro (h | ⟨q, hq, h⟩)
      · exact .inl (by omega)
      · rcases List.mem_cons.1 hq with rfl | hq
        · exact .inl (by omega)
        · exact .inr ⟨q, hq, h⟩
theorem foldl_max_gt (z : Int) : ∀ (r : List Int) (x : Int), z < r.foldl max x ↔ z < x ∨ ∃ y ∈ r, z < y
  | [], x => by simp
  | y :: r, x => by
    rw [List.foldl_cons, foldl_max_gt z r]
    constructor
    · rintro (h | ⟨q, hq, h⟩)
      · rcases Int.lt_or_le z x with h2 | h2
        · exact .inl h2
        · exact .inr ⟨y, by simp, by omega⟩
      · exact .inr ⟨q, by simp [hq], h⟩
    · rintro (h | ⟨q, hq, h⟩)
      · exact .inl (by omega)
      · rcases List.mem_cons.1 hq with rfl | hq
        · exact .inl (by omega)
        · exact .inr ⟨q, hq, h⟩
theorem minL_lt (z : Int) (l : List Int) (h : l ≠ []) : decide (minL l < z) = l.any fun y => decide (y < z) := by
  cases l with
  | nil => exact absurd rfl h
  | cons x r =>
    rw [Bool.eq_iff_iff]
    simp [minL, foldl_min_lt]
theorem maxL_gt (z : Int) (l : List Int) (h : l ≠ []) : decide (z < maxL l) = l.any fun y => decide (z < y) := by
  cases l with
  | nil => exact absurd rfl h
  | cons x r =>
    rw [Bool.eq_iff_iff]
    simp [maxL, foldl_max_gt]

set_option maxHeartbeats 800000 in
theorem min_ok (sv : Value) (l : List Int) (w : World) (hne : l ≠ []) (hs : Arr w w.heap.size 1 sv l icell) :
    Calls Try.prog 57 #[sv] w fun r w' => r = .returned (.int .i64 (minL l)) ∧ Below w.heap.size w w' := by
  obtain ⟨A, c, rfl, hn, hc, hcell⟩ := hs
  have hpos : 0 < l.length := List.length_pos_iff.2 hne
  obtain ⟨b, off, rfl, hB, hcc⟩ := hcell hpos
  have hm : minL l = (l.drop 1).foldl min (l[0]'hpos) := by
    cases l with
    | nil => simp at hpos
    | cons x r => rfl
  obtain ⟨x0, hx0⟩ : ∃ x, l[0]'hpos = x := ⟨_, rfl⟩
  have h0 := hcc 0 x0 (by rw [← hx0]; exact List.getElem?_eq_getElem hpos) 0 (by omega)
  simp only [Nat.zero_mul, Nat.add_zero, icell] at h0
  rw [hx0] at hm
  obtain ⟨res, hres⟩ : ∃ res, minL l = res := ⟨_, rfl⟩
  rw [hres] at hm ⊢
  have HM := Lib.hid hm
  have HC := Lib.hid hcc
  clear hm hcc hcell hx0 hres
  go_enter Try.func57, Try.ntmps57
  go_wp2
  go_loop [3, 4] (fun m i => ∃ (k : Nat) (x : Int), 1 ≤ k ∧ k ≤ l.length ∧ i = .int .i64 k ∧ m = .int .i64 x ∧ res = (l.drop k).foldl min x) (fun _ i => l.length - (intOf i).toNat)
  case atStart => exact ⟨1, x0, by omega, by omega, rfl, rfl, HM.out⟩
  case round =>
    obtain ⟨k, x, hk1, hk, rfl, rfl, hf⟩ := hrel
    by_cases hlt : k < l.length
    · obtain ⟨y, hy⟩ : ∃ y, l[k]? = some y := ⟨l[k], List.getElem?_eq_getElem hlt⟩
      have hce := HC.out k y hy 0 (by omega)
      simp only [Nat.mul_one, Nat.add_zero, icell] at hce
      rw [List.drop_eq_getElem_cons hlt, List.foldl_cons, show l[k] = y by rw [List.getElem?_eq_getElem hlt] at hy; injection hy] at hf
      have HF := Lib.hid hf
      clear hf hy
      go_wp2
      all_goals
        go_round
        case rel => exact ⟨k + 1, min x y, by omega, by omega, by go_num, by first | rfl | (congr 1; omega), HF.out⟩
        case measure => simp [intOf]; omega
    · obtain rfl : k = l.length := by omega
      have HF := Lib.hid hf
      clear hf
      go_wp2
      go_ret
      exact ⟨by rw [HF.out]; simp, Below.refl _ _⟩
set_option maxHeartbeats 800000 in
theorem max_ok (sv : Value) (l : List Int) (w : World) (hne : l ≠ []) (hs : Arr w w.heap.size 1 sv l icell) :
    Calls Try.prog 58 #[sv] w fun r w' => r = .returned (.int .i64 (maxL l)) ∧ Below w.heap.size w w' := by
  obtain ⟨A, c, rfl, hn, hc, hcell⟩ := hs
  have hpos : 0 < l.length := List.length_pos_iff.2 hne
  obtain ⟨b, off, rfl, hB, hcc⟩ := hcell hpos
  have hm : maxL l = (l.drop 1).foldl max (l[0]'hpos) := by
    cases l with
    | nil => simp at hpos
    | cons x r => rfl
  obtain ⟨x0, hx0⟩ : ∃ x, l[0]'hpos = x := ⟨_, rfl⟩
  have h0 := hcc 0 x0 (by rw [← hx0]; exact List.getElem?_eq_getElem hpos) 0 (by omega)
  simp only [Nat.zero_mul, Nat.add_zero, icell] at h0
  rw [hx0] at hm
  obtain ⟨res, hres⟩ : ∃ res, maxL l = res := ⟨_, rfl⟩
  rw [hres] at hm ⊢
  have HM := Lib.hid hm
  have HC := Lib.hid hcc
  clear hm hcc hcell hx0 hres
  go_enter Try.func58, Try.ntmps58
  go_wp2
  go_loop [3, 4] (fun m i => ∃ (k : Nat) (x : Int), 1 ≤ k ∧ k ≤ l.length ∧ i = .int .i64 k ∧ m = .int .i64 x ∧ res = (l.drop k).foldl max x) (fun _ i => l.length - (intOf i).toNat)
  case atStart => exact ⟨1, x0, by omega, by omega, rfl, rfl, HM.out⟩
  case round =>
    obtain ⟨k, x, hk1, hk, rfl, rfl, hf⟩ := hrel
    by_cases hlt : k < l.length
    · obtain ⟨y, hy⟩ : ∃ y, l[k]? = some y := ⟨l[k], List.getElem?_eq_getElem hlt⟩
      have hce := HC.out k y hy 0 (by omega)
      simp only [Nat.mul_one, Nat.add_zero, icell] at hce
      rw [List.drop_eq_getElem_cons hlt, List.foldl_cons, show l[k] = y by rw [List.getElem?_eq_getElem hlt] at hy; injection hy] at hf
      have HF := Lib.hid hf
      clear hf hy
      go_wp2
      all_goals
        go_round
        case rel => exact ⟨k + 1, max x y, by omega, by omega, by go_num, by first | rfl | (congr 1; omega), HF.out⟩
        case measure => simp [intOf]; omega
    · obtain rfl : k = l.length := by omega
      have HF := Lib.hid hf
      clear hf
      go_wp2
      go_ret
      exact ⟨by rw [HF.out]; simp, Below.refl _ _⟩
end Go.Proofs.Ytpkccmohlcndgaa
