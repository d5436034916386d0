/- Dictionaries, lines, lists of lists of numbers in memory; slices of package slices. -/
import Derived.Test.YtgngpdnppdbgoaaRefl
import Derived.Test.YtgngpdnppdbgoaaGen
import Derived.Test.YtgngpdnppdbgoaaSched
import Derived.Test.YtgngpdnppdbgoaaMapG
import Derived.Test.YtgngpdnppdbgoaaWays
namespace Go.Proofs.Ytgngpdnppdbgoaa
open Go.RowKit Go.Shelf
set_option linter.unusedVariables false

theorem ret_b {a a' : Bool} (h1 : a = a') : Ending.returned (.bool a) = Ending.returned (.bool a') := by rw [h1]
theorem ret_i {k : IntKind} {a a' : Int} (h1 : a = a') : Ending.returned (.int k a) = Ending.returned (.int k a') := by rw [h1]
theorem take_snoc {α : Type} {l : List α} {k : Nat} {x : α} (h : l[k]? = some x) : l.take (k + 1) = l.take k ++ [x] := by
  rw [List.take_add_one, h]
  rfl
theorem drop_cons {α : Type} {l : List α} {k : Nat} {x : α} (h : l[k]? = some x) : l.drop k = x :: l.drop (k + 1) := by
  obtain ⟨h1, h2⟩ := List.getElem?_eq_some_iff.1 h
  rw [List.drop_eq_getElem_cons h1, h2]
/-- a pair of words -/
def p2cell (p : Int × Int) : Nat → Value
  | 0 => .int .i64 p.1
  | _ => .int .i64 p.2
/-- a dictionary as a value -/
def BookV (w : World) (B : Nat) (v : Value) (b : List (Int × Int)) : Prop := ∃ pv, v = .agg #[pv] ∧ Arr w B 2 pv b p2cell
theorem BookV.open_ {w : World} {B : Nat} {v : Value} {b : List (Int × Int)} (h : BookV w B v b) : ∃ pa pc, v = .agg #[.slice pa b.length pc] ∧ Arr w B 2 (.slice pa b.length pc) b p2cell := by
  obtain ⟨pv, rfl, hp⟩ := h
  obtain ⟨pa, pc, rfl, -⟩ := id hp
  exact ⟨pa, pc, rfl, hp⟩
theorem BookV.call {w w' : World} {v : Value} {b : List (Int × Int)} (h : BookV w w.heap.size v b) (hb : Below w.heap.size w w') : BookV w' w'.heap.size v b := by
  obtain ⟨pv, h1, h2⟩ := h
  exact ⟨pv, h1, (h2.below hb).more hb.size⟩
theorem Arr.call {α : Type} {w w' : World} {size : Nat} {v : Value} {l : List α} {cell : α → Nat → Value} (h : Arr w w.heap.size size v l cell) (hb : Below w.heap.size w w') : Arr w' w'.heap.size size v l cell := (h.below hb).more hb.size
/-- a box of the call's own that holds a dictionary -/
structure BB (W : World) (g : Nat) (b : List (Int × Int)) (pa : Option Addr) (pc : Nat) : Prop where
  blk : Blk W g 24 #[.slice pa b.length pc]
  arr : Arr W W.heap.size 2 (.slice pa b.length pc) b p2cell
section
variable {w W W' : World} {g : Nat} {b : List (Int × Int)} {pa : Option Addr} {pc : Nat}
theorem BB.new (hp : Arr w w.heap.size 2 (.slice pa b.length pc) b p2cell) : BB (w.alloc (.cells #[.slice pa b.length pc] 24)) w.heap.size b pa pc :=
  ⟨Blk.new _ _ _, (hp.alloc (Nat.le_refl _) _).more (by simp)⟩
theorem BB.call (h : BB W g b pa pc) (hb : Below W.heap.size W W') : BB W' g b pa pc := ⟨h.blk.call hb, h.arr.call hb⟩
theorem BB.bv (h : BB W g b pa pc) : BookV W W.heap.size (.agg #[.slice pa b.length pc]) b := ⟨_, rfl, h.arr⟩
theorem BB.c0 (h : BB W g b pa pc) : W.cell? ⟨g, 0, none⟩ = some (.slice pa b.length pc) := by simp [h.blk.cell]
end
theorem cell2_at {w : World} {B n pc : Nat} {pa : Option Addr} {l : List (Int × Int)} (h : Arr w B 2 (.slice pa n pc) l p2cell) {k : Nat} (hk : k < l.length) :
    ∃ b off x y, pa = some ⟨b, off, none⟩ ∧ b < B ∧ l[k]? = some (x, y) ∧ w.cell? ⟨b, off + k * 2, none⟩ = some (.int .i64 x) ∧ w.cell? ⟨b, off + k * 2 + 1, none⟩ = some (.int .i64 y) := by
  obtain ⟨b, off, ⟨x, y⟩, h1, h2, h3, h4⟩ := h.at_ hk
  exact ⟨b, off, x, y, h1, h2, h3, h4 0 (by omega), h4 1 (by omega)⟩

/-! ### lists of lists -/
/-- values with what they read as -/
abbrev VL := Value × List Int
def vlcell (x : VL) (_ : Nat) : Value := x.1
/-- a slice of slices of whole numbers, below block B -/
def LLB (w : World) (B : Nat) (v : Value) (ls : List (List Int)) : Prop :=
  ∃ xs : List VL, xs.map (·.2) = ls ∧ Arr w B 1 v xs vlcell ∧ ∀ x ∈ xs, Arr w B 1 x.1 x.2 icell
abbrev LLi (w : World) (v : Value) (ls : List (List Int)) : Prop := LLB w w.heap.size v ls
theorem LLB.keep {w w' : World} {B : Nat} {v : Value} {ls : List (List Int)} (h : LLB w B v ls) (hk : ∀ p : Addr, p.block < B → w'.cell? p = w.cell? p) : LLB w' B v ls := by
  obtain ⟨xs, h1, h2, h3⟩ := h
  exact ⟨xs, h1, h2.keep hk, fun x hx => (h3 x hx).keep hk⟩
theorem LLB.below {w w' : World} {B : Nat} {v : Value} {ls : List (List Int)} (h : LLB w B v ls) (hb : Below B w w') : LLB w' B v ls := h.keep fun p hp => hb.cell hp
theorem LLB.more {w : World} {B B' : Nat} {v : Value} {ls : List (List Int)} (h : LLB w B v ls) (hB : B ≤ B') : LLB w B' v ls := by
  obtain ⟨xs, h1, h2, h3⟩ := h
  exact ⟨xs, h1, h2.more hB, fun x hx => (h3 x hx).more hB⟩
theorem LLB.call {w w' : World} {v : Value} {ls : List (List Int)} (h : LLi w v ls) (hb : Below w.heap.size w w') : LLi w' v ls := (h.below hb).more hb.size
theorem LLB.form {w : World} {B : Nat} {v : Value} {ls : List (List Int)} (h : LLB w B v ls) : ∃ A cap, v = .slice A ls.length cap ∧ ls.length ≤ cap ∧ cap ≤ 9223372036854775807 := by
  obtain ⟨xs, rfl, ⟨A, cap, h1, h4, h5, -⟩, -⟩ := h
  rw [List.length_map]
  exact ⟨A, cap, h1, h4, h5⟩
theorem LLB.at_ {w : World} {B : Nat} {A : Option Addr} {n cap : Nat} {ls : List (List Int)} (h : LLB w B (.slice A n cap) ls) {i : Nat} {l : List Int} (hi : ls[i]? = some l) :
    ∃ b off lA lc, A = some ⟨b, off, none⟩ ∧ b < B ∧ w.cell? ⟨b, off + i, none⟩ = some (.slice lA l.length lc) ∧ Arr w B 1 (.slice lA l.length lc) l icell := by
  obtain ⟨xs, rfl, h2, h3⟩ := h
  rw [List.getElem?_map, Option.map_eq_some_iff] at hi
  obtain ⟨x, hx, rfl⟩ := hi
  have hlt := (List.getElem?_eq_some_iff.1 hx).1
  obtain ⟨b, off, y, g1, g2, g3, g4⟩ := h2.at_ (k := i) hlt
  rw [hx] at g3
  injection g3 with g3
  subst g3
  have ha := h3 x (List.mem_of_getElem? hx)
  obtain ⟨lA, lc, e, -⟩ := id ha
  have g5 := g4 0 (by omega)
  rw [Nat.mul_one, Nat.add_zero] at g5
  unfold vlcell at g5
  rw [e] at g5 ha
  exact ⟨b, off, lA, lc, g1, g2, g5, ha⟩
theorem LLB.nil_ {w : World} {B : Nat} : LLB w B (.slice none 0 0) [] := ⟨[], rfl, Arr.nil_, fun x hx => by cases hx⟩
/-- a number of a list, at an index -/
theorem num_at {w : World} {B n c : Nat} {A : Option Addr} {l : List Int} (h : Arr w B 1 (.slice A n c) l icell) {k : Nat} (hk : k < l.length) :
    ∃ b off, A = some ⟨b, off, none⟩ ∧ b < B ∧ w.cell? ⟨b, off + k, none⟩ = some (.int .i64 (l.getD k 0)) := by
  obtain ⟨b, off, x, h1, h2, h3, h4⟩ := row_cell2 h hk
  refine ⟨b, off, h1, h2, ?_⟩
  rw [List.getD_eq_getElem?_getD, h3]
  exact h4

/-! ### package slices -/
def idxOf {α : Type} (p : α → Bool) : Nat → List α → Int
  | _, [] => -1
  | i, x :: l => if p x = true then i else idxOf p (i + 1) l
theorem idxOf_nonneg {α : Type} (p : α → Bool) : ∀ (l : List α) (i : Nat), (decide (0 ≤ idxOf p i l)) = l.any p
  | [], i => rfl
  | x :: l, i => by
    unfold idxOf
    rw [List.any_cons]
    by_cases h : p x = true
    · rw [if_pos h, h]
      simp
    · rw [if_neg h, idxOf_nonneg p l (i + 1)]
      simp [h]
theorem idxOf_drop {α : Type} (p : α → Bool) (l : List α) (k : Nat) (x : α) (h : l[k]? = some x) : idxOf p k (l.drop k) = if p x = true then (k : Int) else idxOf p (k + 1) (l.drop (k + 1)) := by
  rw [drop_cons h]
  rfl
/-- an element of a slice of places: the numbers of four hearers -/
def plcell (x : List Nat) : Nat → Value
  | 0 => .int .i64 (at0 x 0 : Int)
  | 1 => .int .i64 (at0 x 1 : Int)
  | 2 => .int .i64 (at0 x 2 : Int)
  | _ => .int .i64 (at0 x 3 : Int)
def plC (x : List Nat) : Array Value := #[.int .i64 (at0 x 0 : Int), .int .i64 (at0 x 1 : Int), .int .i64 (at0 x 2 : Int), .int .i64 (at0 x 3 : Int)]
theorem plC_at (x : List Nat) {h : Nat} (hh : h < 4) : (plC x)[h]? = some (.int .i64 (at0 x h : Int)) := by
  rcases h with _ | _ | _ | _ | h
  · rfl
  · rfl
  · rfl
  · rfl
  · omega
theorem plC_set {x y : List Nat} {h v : Nat} (hh : h < 4) (hy : ∀ i, i < 4 → at0 y i = if i = h then v else at0 x i) : (plC x).setIfInBounds h (.int .i64 (v : Int)) = plC y := by
  have h0 := hy 0 (by omega)
  have h1 := hy 1 (by omega)
  have h2 := hy 2 (by omega)
  have h3 := hy 3 (by omega)
  unfold plC
  rcases h with _ | _ | _ | _ | h
  · simp at h0 h1 h2 h3
    simp [h0, h1, h2, h3]
  · simp at h0 h1 h2 h3
    simp [h0, h1, h2, h3]
  · simp at h0 h1 h2 h3
    simp [h0, h1, h2, h3]
  · simp at h0 h1 h2 h3
    simp [h0, h1, h2, h3]
  · omega
abbrev plV (x : List Nat) : Value := .agg #[.int .i64 (at0 x 0 : Int), .int .i64 (at0 x 1 : Int), .int .i64 (at0 x 2 : Int), .int .i64 (at0 x 3 : Int)]
set_option maxHeartbeats 400000 in
theorem indexFunc_int (sv : Value) (l : List Int) (fn : FuncId) (fs cs : Array Value) (p : Int → Bool) (w : World)
   (eg : ∀ args w, (callFunc fn args).run Try.prog w = .ok (.enter fn args) w)
   (hs : Arr w w.heap.size 1 sv l icell)
   (hcall : ∀ x ∈ l, ∀ w1, Below w.heap.size w w1 → Calls Try.prog fn (fs.push (.int .i64 x) ++ cs) w1 fun e w2 => e = .returned (.bool (p x)) ∧ Below w1.heap.size w1 w2) :
    Calls Try.prog 85 #[sv, .func (.func fn) fs cs] w fun r w' => r = .returned (.int .i64 (idxOf p 0 l)) ∧ Below w.heap.size w w' := by
  obtain ⟨A, c, rfl, hn, hc, hcell⟩ := hs
  go_enter Try.func85, Try.ntmps85
  go_wp2
  go_loopw [5, 8] (fun x i wr => ∃ k : Nat, k ≤ l.length ∧ i = .int .i64 k ∧ idxOf p 0 l = idxOf p k (l.drop k) ∧ Below w.heap.size w wr) (fun _ i _ => l.length - (intOf i).toNat)
  case atStart => exact ⟨0, Nat.zero_le _, rfl, rfl, Below.refl _ _⟩
  case round =>
    obtain ⟨k, hk, rfl, hf, hb⟩ := hrel
    by_cases hlt : k < l.length
    · obtain ⟨b, off, rfl, hB, hcc⟩ := hcell (by omega)
      obtain ⟨x, hx⟩ : ∃ x, l[k]? = some x := ⟨l[k], List.getElem?_eq_getElem hlt⟩
      have c0 := (hb.cell (p := ⟨b, off + k*1+0, none⟩) hB).trans (hcc k x hx 0 (by omega))
      simp only [Nat.mul_one, Nat.add_zero, icell] at c0
      have hcl := hcall x (List.mem_of_getElem? hx) wr hb
      rw [idxOf_drop p l k x hx] at hf
      have H := Lib.hid hf; clear hf
      have HX := Lib.hid hx; clear hx
      clear hcall hcc hcell
      go_wp2_with (refine hcl.mono ?_; rintro e w1 ⟨rfl, hb1⟩)
      · go_ret
        exact ⟨by rw [H.out]; simp [*], bthen hb hb1⟩
      · go_roundw
        case rel => exact ⟨k+1, by omega, by go_num, by rw [H.out]; simp [*], bthen hb hb1⟩
        case measure => simp [intOf]; omega
    · obtain rfl : k = l.length := by omega
      have H := Lib.hid hf; clear hf
      go_wp2
      go_ret
      exact ⟨by rw [H.out]; simp [idxOf], hb⟩

theorem containsFunc_int (sv : Value) (l : List Int) (fn : FuncId) (fs cs : Array Value) (p : Int → Bool) (w : World)
   (eg : ∀ args w, (callFunc fn args).run Try.prog w = .ok (.enter fn args) w)
   (hs : Arr w w.heap.size 1 sv l icell)
   (hcall : ∀ x ∈ l, ∀ w1, Below w.heap.size w w1 → Calls Try.prog fn (fs.push (.int .i64 x) ++ cs) w1 fun e w2 => e = .returned (.bool (p x)) ∧ Below w1.heap.size w1 w2) :
    Calls Try.prog 77 #[sv, .func (.func fn) fs cs] w fun r w' => r = .returned (.bool (l.any p)) ∧ Below w.heap.size w w' := by
  have hi := indexFunc_int sv l fn fs cs p w eg hs hcall
  have HD := Lib.hid (idxOf_nonneg p l 0)
  clear hcall hs
  go_enter Try.func77, Try.ntmps77
  go_wp2_with (go_at_call 85; refine hi.mono ?_; rintro e w1 ⟨rfl, hb1⟩)
  go_ret
  exact ⟨by rw [← HD.out]; simp, hb1⟩
set_option maxHeartbeats 400000 in
theorem indexFunc_ls (sv : Value) (l : List VL) (fn : FuncId) (fs cs : Array Value) (p : VL → Bool) (w : World)
   (eg : ∀ args w, (callFunc fn args).run Try.prog w = .ok (.enter fn args) w)
   (hs : Arr w w.heap.size 1 sv l vlcell)
   (hcall : ∀ x ∈ l, ∀ w1, Below w.heap.size w w1 → Calls Try.prog fn (fs.push (x.1) ++ cs) w1 fun e w2 => e = .returned (.bool (p x)) ∧ Below w1.heap.size w1 w2) :
    Calls Try.prog 80 #[sv, .func (.func fn) fs cs] w fun r w' => r = .returned (.int .i64 (idxOf p 0 l)) ∧ Below w.heap.size w w' := by
  obtain ⟨A, c, rfl, hn, hc, hcell⟩ := hs
  go_enter Try.func80, Try.ntmps80
  go_wp2
  go_loopw [5, 8] (fun x i wr => ∃ k : Nat, k ≤ l.length ∧ i = .int .i64 k ∧ idxOf p 0 l = idxOf p k (l.drop k) ∧ Below w.heap.size w wr) (fun _ i _ => l.length - (intOf i).toNat)
  case atStart => exact ⟨0, Nat.zero_le _, rfl, rfl, Below.refl _ _⟩
  case round =>
    obtain ⟨k, hk, rfl, hf, hb⟩ := hrel
    by_cases hlt : k < l.length
    · obtain ⟨b, off, rfl, hB, hcc⟩ := hcell (by omega)
      obtain ⟨x, hx⟩ : ∃ x, l[k]? = some x := ⟨l[k], List.getElem?_eq_getElem hlt⟩
      have c0 := (hb.cell (p := ⟨b, off + k*1+0, none⟩) hB).trans (hcc k x hx 0 (by omega))
      simp only [Nat.mul_one, Nat.add_zero, vlcell] at c0
      have hcl := hcall x (List.mem_of_getElem? hx) wr hb
      rw [idxOf_drop p l k x hx] at hf
      have H := Lib.hid hf; clear hf
      have HX := Lib.hid hx; clear hx
      clear hcall hcc hcell
      go_wp2_with (refine hcl.mono ?_; rintro e w1 ⟨rfl, hb1⟩)
      · go_ret
        exact ⟨by rw [H.out]; simp [*], bthen hb hb1⟩
      · go_roundw
        case rel => exact ⟨k+1, by omega, by go_num, by rw [H.out]; simp [*], bthen hb hb1⟩
        case measure => simp [intOf]; omega
    · obtain rfl : k = l.length := by omega
      have H := Lib.hid hf; clear hf
      go_wp2
      go_ret
      exact ⟨by rw [H.out]; simp [idxOf], hb⟩

theorem containsFunc_ls (sv : Value) (l : List VL) (fn : FuncId) (fs cs : Array Value) (p : VL → Bool) (w : World)
   (eg : ∀ args w, (callFunc fn args).run Try.prog w = .ok (.enter fn args) w)
   (hs : Arr w w.heap.size 1 sv l vlcell)
   (hcall : ∀ x ∈ l, ∀ w1, Below w.heap.size w w1 → Calls Try.prog fn (fs.push (x.1) ++ cs) w1 fun e w2 => e = .returned (.bool (p x)) ∧ Below w1.heap.size w1 w2) :
    Calls Try.prog 55 #[sv, .func (.func fn) fs cs] w fun r w' => r = .returned (.bool (l.any p)) ∧ Below w.heap.size w w' := by
  have hi := indexFunc_ls sv l fn fs cs p w eg hs hcall
  have HD := Lib.hid (idxOf_nonneg p l 0)
  clear hcall hs
  go_enter Try.func55, Try.ntmps55
  go_wp2_with (go_at_call 80; refine hi.mono ?_; rintro e w1 ⟨rfl, hb1⟩)
  go_ret
  exact ⟨by rw [← HD.out]; simp, hb1⟩
set_option maxHeartbeats 400000 in
theorem indexFunc_wm (sv : Value) (l : List VL) (fn : FuncId) (fs cs : Array Value) (p : VL → Bool) (w : World)
   (eg : ∀ args w, (callFunc fn args).run Try.prog w = .ok (.enter fn args) w)
   (hs : Arr w w.heap.size 1 sv l vlcell)
   (hcall : ∀ x ∈ l, ∀ w1, Below w.heap.size w w1 → Calls Try.prog fn (fs.push (x.1) ++ cs) w1 fun e w2 => e = .returned (.bool (p x)) ∧ Below w1.heap.size w1 w2) :
    Calls Try.prog 82 #[sv, .func (.func fn) fs cs] w fun r w' => r = .returned (.int .i64 (idxOf p 0 l)) ∧ Below w.heap.size w w' := by
  obtain ⟨A, c, rfl, hn, hc, hcell⟩ := hs
  go_enter Try.func82, Try.ntmps82
  go_wp2
  go_loopw [5, 8] (fun x i wr => ∃ k : Nat, k ≤ l.length ∧ i = .int .i64 k ∧ idxOf p 0 l = idxOf p k (l.drop k) ∧ Below w.heap.size w wr) (fun _ i _ => l.length - (intOf i).toNat)
  case atStart => exact ⟨0, Nat.zero_le _, rfl, rfl, Below.refl _ _⟩
  case round =>
    obtain ⟨k, hk, rfl, hf, hb⟩ := hrel
    by_cases hlt : k < l.length
    · obtain ⟨b, off, rfl, hB, hcc⟩ := hcell (by omega)
      obtain ⟨x, hx⟩ : ∃ x, l[k]? = some x := ⟨l[k], List.getElem?_eq_getElem hlt⟩
      have c0 := (hb.cell (p := ⟨b, off + k*1+0, none⟩) hB).trans (hcc k x hx 0 (by omega))
      simp only [Nat.mul_one, Nat.add_zero, vlcell] at c0
      have hcl := hcall x (List.mem_of_getElem? hx) wr hb
      rw [idxOf_drop p l k x hx] at hf
      have H := Lib.hid hf; clear hf
      have HX := Lib.hid hx; clear hx
      clear hcall hcc hcell
      go_wp2_with (refine hcl.mono ?_; rintro e w1 ⟨rfl, hb1⟩)
      · go_ret
        exact ⟨by rw [H.out]; simp [*], bthen hb hb1⟩
      · go_roundw
        case rel => exact ⟨k+1, by omega, by go_num, by rw [H.out]; simp [*], bthen hb hb1⟩
        case measure => simp [intOf]; omega
    · obtain rfl : k = l.length := by omega
      have H := Lib.hid hf; clear hf
      go_wp2
      go_ret
      exact ⟨by rw [H.out]; simp [idxOf], hb⟩

theorem containsFunc_wm (sv : Value) (l : List VL) (fn : FuncId) (fs cs : Array Value) (p : VL → Bool) (w : World)
   (eg : ∀ args w, (callFunc fn args).run Try.prog w = .ok (.enter fn args) w)
   (hs : Arr w w.heap.size 1 sv l vlcell)
   (hcall : ∀ x ∈ l, ∀ w1, Below w.heap.size w w1 → Calls Try.prog fn (fs.push (x.1) ++ cs) w1 fun e w2 => e = .returned (.bool (p x)) ∧ Below w1.heap.size w1 w2) :
    Calls Try.prog 67 #[sv, .func (.func fn) fs cs] w fun r w' => r = .returned (.bool (l.any p)) ∧ Below w.heap.size w w' := by
  have hi := indexFunc_wm sv l fn fs cs p w eg hs hcall
  have HD := Lib.hid (idxOf_nonneg p l 0)
  clear hcall hs
  go_enter Try.func67, Try.ntmps67
  go_wp2_with (go_at_call 82; refine hi.mono ?_; rintro e w1 ⟨rfl, hb1⟩)
  go_ret
  exact ⟨by rw [← HD.out]; simp, hb1⟩
end Go.Proofs.Ytgngpdnppdbgoaa
