/- Rows of values of the call's own; lists of lists out of them. -/
import Derived.Test.YtgngpdnppdbgoaaLawC
namespace Go.Proofs.Ytgngpdnppdbgoaa
open Go.RowKit Go.Shelf
set_option linter.unusedVariables false

theorem slT_ll : SlT 25 38 1 24 (.slice none 0 0) := ⟨Try.underlying25, by kernel_rfl, rfl, by omega⟩
/-- a row of the call's own that holds values: its block -/
def OwnV (w : World) (t : TypeId) (b n cap : Nat) (vs : List Value) : Prop := ∃ cur, Blk w b t cur ∧ cur.toList.take n = vs ∧ n = vs.length ∧ n ≤ cap ∧ cap ≤ 9223372036854775807 ∧ n ≤ cur.size
theorem own_V {w : World} {t base n cap : Nat} {A : Option Addr} {vs : List Value} (h : w.ownsRow base t 1 (.slice A n cap) n vs) (hn : 0 < n) : ∃ b, A = some ⟨b, 0, none⟩ ∧ base ≤ b ∧ OwnV w t b n cap vs := by
  obtain ⟨h1, h2⟩ := h
  rcases h2 with ⟨hv, h0⟩ | ⟨g, cap', cur, hv, hg, hh, hc, hm, hs, ht⟩
  · omega
  · injection hv with hA _ hcc
    subst hcc
    rw [Nat.mul_one] at ht
    have hl : n = vs.length := by have := h1; simp at this; omega
    refine ⟨g, hA, hg, cur, hh, ht, hl, hc, by simpa only [maxLen] using hm, ?_⟩
    have := congrArg List.length ht
    simp at this
    omega
section
variable {w w' : World} {t b n cap : Nat} {vs : List Value}
theorem OwnV.lt (h : OwnV w t b n cap vs) : b < w.heap.size := h.elim fun cur h => h.1.lt
theorem OwnV.call (h : OwnV w t b n cap vs) (hb : Below w.heap.size w w') : OwnV w' t b n cap vs := by
  obtain ⟨cur, h1, h2⟩ := h
  exact ⟨cur, h1.call hb, h2⟩
theorem OwnV.far (h : OwnV w t b n cap vs) {p : Addr} (hp : b ≠ p.block) (u : Value) : OwnV (w.setCell p u) t b n cap vs := by
  obtain ⟨cur, h1, h2⟩ := h
  exact ⟨cur, h1.far hp u, h2⟩
theorem OwnV.cell (h : OwnV w t b n cap vs) {i : Nat} {x : Value} (hx : vs[i]? = some x) : w.cell? ⟨b, i, none⟩ = some x ∧ w.frozen? ⟨b, i, none⟩ = false := by
  obtain ⟨cur, h1, h2, h3, h4, h5, h6⟩ := h
  have hi : i < n := by rw [h3]; exact (List.getElem?_eq_some_iff.1 hx).1
  refine ⟨?_, h1.frozen i⟩
  have h7 : (cur.toList.take n)[i]? = some x := by rw [h2, hx]
  rw [List.getElem?_take, if_pos hi] at h7
  rw [h1.cell]
  simpa using h7
theorem OwnV.set_ (h : OwnV w t b n cap vs) {i : Nat} (hi : i < n) (x : Value) : OwnV (w.setCell ⟨b, i, none⟩ x) t b n cap (vs.set i x) := by
  obtain ⟨cur, h1, h2, h3, h4, h5, h6⟩ := h
  refine ⟨cur.setIfInBounds i x, h1.set_ i _, ?_, by simpa using h3, h4, h5, by simpa using h6⟩
  rw [Array.toList_setIfInBounds, List.take_set, h2]
theorem OwnV.arr (h : OwnV w t b n cap vs) : Arr w w.heap.size 1 (.slice (some ⟨b, 0, none⟩) n cap) vs vcell := by
  have hl := h.lt
  have h' := h
  obtain ⟨cur, h1, h2, h3, h4, h5, h6⟩ := h
  refine ⟨_, cap, by rw [h3], by omega, h5, fun _ => ⟨b, 0, rfl, hl, fun i x hx j hj => ?_⟩⟩
  obtain rfl : j = 0 := by omega
  rw [show 0 + i * 1 + 0 = i by omega]
  exact (h'.cell hx).1
end
/-- lists of lists out of values that read as lists -/
theorem lli_of {w : World} {v : Value} {xs : List VL} (h : Arr w w.heap.size 1 v (xs.map (·.1)) vcell) (hx : ∀ x ∈ xs, Arr w w.heap.size 1 x.1 x.2 icell) : LLi w v (xs.map (·.2)) := by
  refine ⟨xs, rfl, ?_, hx⟩
  obtain ⟨A, c, h1, h2, h3, h4⟩ := h
  refine ⟨A, c, by simpa using h1, by simpa using h2, h3, fun hl => ?_⟩
  obtain ⟨b, off, h5, h6, h7⟩ := h4 (by simpa using hl)
  exact ⟨b, off, h5, h6, fun i x hx j hj => h7 i x.1 (by rw [List.getElem?_map, hx]; rfl) j hj⟩
/-- the values of lists in memory -/
theorem lli_vals {w : World} {v : Value} {ls : List (List Int)} (h : LLi w v ls) : ∃ xs : List VL, xs.map (·.2) = ls ∧ Arr w w.heap.size 1 v (xs.map (·.1)) vcell ∧ (∀ x ∈ xs, Arr w w.heap.size 1 x.1 x.2 icell) := by
  obtain ⟨xs, h1, h2, h3⟩ := h
  refine ⟨xs, h1, ?_, h3⟩
  obtain ⟨A, c, h4, h5, h6, h7⟩ := h2
  refine ⟨A, c, by simpa using h4, by simpa using h5, h6, fun hl => ?_⟩
  obtain ⟨b, off, h8, h9, h10⟩ := h7 (by simpa using hl)
  refine ⟨b, off, h8, h9, fun i x hx j hj => ?_⟩
  rw [List.getElem?_map, Option.map_eq_some_iff] at hx
  obtain ⟨y, hy, rfl⟩ := hx
  exact h10 i y hy j hj
theorem vals_one {w : World} {xs : List VL} (hx : ∀ x ∈ xs, Arr w w.heap.size 1 x.1 x.2 icell) : ∀ u ∈ (xs.map (·.1)).flatMap (cellsOf 1 vcell), u.oneCell' = true := fun u hu => by
  rw [flat_v, List.mem_map] at hu
  obtain ⟨x, hx1, rfl⟩ := hu
  obtain ⟨A, c, e, -⟩ := hx x hx1
  rw [e]
  rfl
/-- a row of whole numbers, as values -/
theorem ownV_ints {w : World} {t b n cap : Nat} {l : List Int} (h : OwnV w t b n cap (l.map (Value.int .i64))) : Arr w w.heap.size 1 (.slice (some ⟨b, 0, none⟩) n cap) l icell := by
  have hl := h.lt
  have h' := h
  obtain ⟨cur, h1, h2, h3, h4, h5, h6⟩ := h
  rw [List.length_map] at h3
  exact Arr.part h3 (by omega) h5 hl fun i x hx => by rw [Nat.zero_add]; exact (h'.cell (by rw [List.getElem?_map, hx]; rfl)).1
theorem map_set {α β : Type} (f : α → β) (l : List α) (i : Nat) (x : α) : (l.set i x).map f = (l.map f).set i (f x) := by rw [List.map_set]
theorem wpList_appArrN {α : Type} {W : World} {ops : Array Oper} {rest : List Oper} {o : Oper} {a : Act} {Q : Exit → Act → World → Prop} {t e size bytes : Nat} {z : Value} (hT : SlT t e size bytes z)
    (hgd : o.guard = none) (s x : Operand) (ho : o.op = .call { callee := .builtin .append, args := #[s, x], argTypes := #[t, t] })
    {base n c B m : Nat} {sv : Value} {xs : List Value} {A : Option Addr} {l : List α} {cell : α → Nat → Value} (hm : m = l.length) (hs : a.eval s = sv) (hown : W.ownsRow base e size sv n xs)
    (hx : a.eval x = .slice A m c) (harr : Arr W B size (.slice A m c) l cell) (h1 : ∀ u ∈ l.flatMap (cellsOf size cell), u.oneCell' = true) (hbase : base ≤ W.heap.size)
    (h63 : n + m ≤ 1048576) (hby : bytes ≤ 1024)
    (h : ∀ v' w', w'.ownsRow base e size v' (n + m) (xs ++ l.flatMap (cellsOf size cell)) → Below base W w' → W.grownBy w' sv.ownBlock → wpList Try.prog ops Q rest (a.put o.dst v') w') :
    wpList Try.prog ops Q (o :: rest) a W := by
  subst hm
  exact wpList_appArr hT hgd s x ho hs hown hx harr h1 hbase h63 hby h
set_option maxRecDepth 100000 in
/-- the two parts of a list that is cut at an index -/
theorem slice_parts {w : World} {B n c : Nat} {A : Option Addr} {l : List Int} (h : Arr w B 1 (.slice A n c) l icell) {i : Nat} (hi : i ≤ l.length) :
    ∃ A1 c1 A2 c2, (∀ w', (Instr.slice 38 (.slice A n c) none (some (.int .i64 (i : Int))) none).run Try.prog w' = .ok (.slice A1 i c1) w') ∧ (∀ w', (Instr.slice 38 (.slice A n c) (some (.int .i64 (i : Int))) none none).run Try.prog w' = .ok (.slice A2 (n - i) c2) w') ∧
      Arr w B 1 (.slice A1 i c1) (l.take i) icell ∧ Arr w B 1 (.slice A2 (n - i) c2) (l.drop i) icell := by
  obtain ⟨hn, hc1, hc2⟩ := h.len_
  have hel : Try.prog.elem 38 = 3 := by kernel_rfl
  have hu : Try.prog.underlying 38 = some (.slice (Try.prog.elem 38)) := by rw [hel]; exact Try.underlying38
  have hs : ∀ w', (sizeOf (Try.prog.elem 38)).run Try.prog w' = .ok 1 w' := fun w' => by kernel_rfl
  refine ⟨if c = 0 then A else A.map (·.add (0 * 1)), c - 0, if c = i then A else A.map (·.add (i * 1)), c - i, fun w' => ?_, fun w' => ?_, ?_, ?_⟩
  · rw [run_slice_h (ht := hu) (h0 := Int.natCast_nonneg i) (h2 := by omega), hs]
    simp [Result.andThen, sliced]
  · rw [run_slice_l (ht := hu) (h0 := Int.natCast_nonneg i) (h1 := by omega), hs]
    simp [Result.andThen, sliced]
  · obtain ⟨A', c', hv, h1, h2, h3⟩ := h
    injection hv with hA _ hcc
    subst hA hcc
    refine ⟨_, c, by rw [List.length_take, Nat.min_eq_left hi]; rfl, by rw [List.length_take]; omega, h2, fun hp => ?_⟩
    rw [List.length_take] at hp
    obtain ⟨b, off, rfl, hb, hcell⟩ := h3 (by omega)
    refine ⟨b, off, ?_, hb, fun j x hx k hk => ?_⟩
    · rw [if_neg (by omega)]
      simp [Addr.add]
    · rw [List.getElem?_take] at hx
      split at hx
      · exact hcell j x hx k hk
      · cases hx
  · obtain ⟨A', c', hv, h1, h2, h3⟩ := h
    injection hv with hA _ hcc
    subst hA hcc
    refine ⟨_, c - i, by rw [List.length_drop, hn], by rw [List.length_drop]; omega, by omega, fun hp => ?_⟩
    rw [List.length_drop] at hp
    obtain ⟨b, off, rfl, hb, hcell⟩ := h3 (by omega)
    refine ⟨b, off + i, ?_, hb, fun j x hx k hk => ?_⟩
    · rw [if_neg (by omega)]
      show some ((⟨b, off, none⟩ : Addr).add (i * 1)) = _
      rw [Nat.mul_one]
      unfold Addr.add
      split <;> simp_all
    · rw [List.getElem?_drop] at hx
      have := hcell (i + j) x hx k hk
      rw [show off + i + j * 1 + k = off + (i + j) * 1 + k by omega]
      exact this
/-- an element of a list that is built: nothing, or a row of its own -/
def ElN (W : World) (v : Value) (x : VL) : Prop := x = (.slice none 0 0, []) ∨ ∃ bb cap t, x.1 = .slice (some ⟨bb, 0, none⟩) x.2.length cap ∧ x.2.length ≤ cap ∧ cap ≤ 9223372036854775807 ∧ RowI W bb t x.2 ∧ v.ownBlock ≠ some bb
/-- a list of rows, some of them nothing, that is being built -/
structure BuiltN (w0 W : World) (te : TypeId) (v : Value) (xs : List VL) : Prop where
  own : W.ownsRow w0.heap.size te 1 v xs.length (xs.map (·.1))
  el : ∀ x ∈ xs, ElN W v x
  bl : Below w0.heap.size w0 W
def ApartN (o v : Value) (xs : List VL) : Prop := ∀ r, o.ownBlock = some r → v.ownBlock ≠ some r ∧ ∀ x ∈ xs, x.1.ownBlock ≠ some r
theorem ApartN.nil_ (v : Value) (xs : List VL) : ApartN (.slice none 0 0) v xs := fun r h => by simp [Value.ownBlock] at h
theorem BuiltN.nil_ (w0 : World) (te : TypeId) : BuiltN w0 w0 te (.slice none 0 0) [] := ⟨by simpa using World.ownsRow_nil _ _ _ _, (fun x hx => by cases hx), Below.refl _ _⟩
section
variable {w0 W W' : World} {te : TypeId} {v : Value} {xs : List VL}
theorem ElN.keep {v' : Value} {x : VL} (h : ElN W v x) (hk : ∀ bb, x.1.ownBlock = some bb → bb < W.heap.size → v.ownBlock ≠ some bb → W'.heap[bb]? = W.heap[bb]? ∧ v'.ownBlock ≠ some bb) : ElN W' v' x := by
  rcases h with h | ⟨bb, cap, t, g1, g2, g3, g4, g5⟩
  · exact .inl h
  · obtain ⟨h1, h2⟩ := hk bb (by rw [g1]; rfl) g4.lt g5
    exact .inr ⟨bb, cap, t, g1, g2, g3, g4.heap h1, h2⟩
theorem BuiltN.call (h : BuiltN w0 W te v xs) (hb : Below W.heap.size W W') : BuiltN w0 W' te v xs :=
  ⟨own_call h.own hb, fun x hx => (h.el x hx).keep fun bb _ hl hn => ⟨hb.block bb hl, hn⟩, h.bl.trans (hb.mono h.bl.size)⟩
theorem BuiltN.ll (h : BuiltN w0 W te v xs) : LLi W v (xs.map (·.2)) := by
  refine ⟨xs, rfl, ?_, fun x hx => ?_⟩
  · refine Arr.of_own (base := w0.heap.size) (e := te) ?_
    rw [flat_vl]
    exact h.own
  · rcases h.el x hx with rfl | ⟨bb, cap, t, g1, g2, g3, g4, g5⟩
    · exact Arr.nil_
    · rw [g1]
      exact g4.arr rfl g2 g3
theorem BuiltN.form (h : BuiltN w0 W te v xs) : ∃ A cap, v = .slice A xs.length cap ∧ xs.length ≤ cap ∧ cap ≤ 9223372036854775807 := by
  obtain ⟨A, cap, rfl⟩ := own_form h.own
  have := own_cap h.own
  exact ⟨A, cap, rfl, by omega, by omega⟩
theorem BuiltN.lt (h : BuiltN w0 W te v xs) {r : Nat} (hr : v.ownBlock = some r ∨ ∃ x ∈ xs, x.1.ownBlock = some r) : r < W.heap.size := by
  rcases hr with hr | ⟨x, hx, hr⟩
  · exact (h.own.lt r hr).2
  · rcases h.el x hx with rfl | ⟨bb, cap, t, g1, g2, g3, g4, g5⟩
    · simp [Value.ownBlock] at hr
    · rw [g1] at hr
      simp only [Value.ownBlock, Option.some.injEq] at hr
      subst hr
      exact g4.lt
theorem BuiltN.grown {row : Option Nat} (h : BuiltN w0 W te v xs) (hg : W.grownBy W' row) (hv : ∀ r, row = some r → v.ownBlock ≠ some r ∧ w0.heap.size ≤ r ∧ ∀ x ∈ xs, x.1.ownBlock ≠ some r) : BuiltN w0 W' te v xs :=
  ⟨own_grown h.own hg fun r e => (hv r e).1, fun x hx => (h.el x hx).keep fun bb hx1 hl hn => ⟨hg.block bb hl fun e => (hv bb e.symm).2.2 x hx hx1, hn⟩, h.bl.grown hg h.bl.size fun k hk => (hv k hk).2.1⟩
theorem BuiltN.beside {o o' : Value} {te' n : Nat} {os : List Value} (h : BuiltN w0 W te v xs) (ho : W.ownsRow w0.heap.size te' 1 o n os) (ha : ApartN o v xs) (hg : W.grownBy W' o.ownBlock) (hat : ∀ b, o'.ownBlock = some b → o.ownBlock = some b ∨ W.heap.size ≤ b) :
    BuiltN w0 W' te v xs ∧ ApartN o' v xs := by
  refine ⟨h.grown hg fun r e => ⟨(ha r e).1, (ho.lt r e).1, (ha r e).2⟩, fun r e => ?_⟩
  rcases hat r e with q | q
  · exact ha r q
  · exact ⟨fun e2 => by have := h.lt (.inl e2); omega, fun x hx e2 => by have := h.lt (.inr ⟨x, hx, e2⟩); omega⟩
/-- one element more -/
theorem BuiltN.app {Wp w4 : World} {v' u : Value} {l : List Int} (h : BuiltN w0 Wp te v xs) (hu : ElN Wp v (u, l))
    (hown4 : w4.ownsRow w0.heap.size te 1 v' (xs.length + 1) (xs.map (·.1) ++ [u])) (hg4 : Wp.grownBy w4 v.ownBlock) (hat : ∀ b, v'.ownBlock = some b → v.ownBlock = some b ∨ Wp.heap.size ≤ b) : BuiltN w0 w4 te v' (xs ++ [(u, l)]) := by
  have hkeep : ∀ x, ElN Wp v x → ElN w4 v' x := fun x hx => hx.keep fun bb _ hl hn => ⟨hg4.block bb hl fun e => hn e.symm, fun e => by
    rcases hat bb e with q | q
    · exact hn q
    · omega⟩
  refine ⟨by simpa using hown4, fun x hx => ?_, h.bl.grown hg4 h.bl.size fun k hk => (h.own.lt k hk).1⟩
  rcases List.mem_append.1 hx with hx | hx
  · exact hkeep x (h.el x hx)
  · rw [List.mem_singleton] at hx
    subst hx
    exact hkeep _ hu
end
/-- a row of whole numbers of the call's own, which may be nothing -/
theorem row_elN {W : World} {base n : Nat} {u v : Value} {l : List Int} (h : W.ownsRow base 3 1 u n (l.map (Value.int .i64))) (hn : n = l.length) (hv : ∀ b, v.ownBlock = some b → b < base) : ElN W v (u, l) := by
  subst hn
  rcases h.2 with ⟨h1, h0⟩ | ⟨g, cap, cur, rfl, h1, h2, h3, h4, h5, h6⟩
  · rw [h1, List.length_eq_zero_iff.1 h0]
    exact .inl rfl
  · refine .inr ⟨g, cap, 3, rfl, h3, by simpa only [maxLen] using h4, ⟨⟨cur, h2, fun i x hx => ?_⟩⟩, fun e => by have := hv g e; omega⟩
    have hi := (List.getElem?_eq_some_iff.1 hx).1
    rw [Nat.mul_one] at h6
    have : (cur.toList.take l.length)[i]? = some (.int .i64 x) := by rw [h6, List.getElem?_map, hx]; rfl
    rw [List.getElem?_take, if_pos hi] at this
    simpa using this
end Go.Proofs.Ytgngpdnppdbgoaa
