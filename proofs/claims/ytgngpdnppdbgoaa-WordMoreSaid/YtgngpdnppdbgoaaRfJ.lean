/- Lists of passages in memory: rows of matches of the call's own. -/
import Derived.Test.YtgngpdnppdbgoaaRfI
namespace Go.Proofs.Ytgngpdnppdbgoaa
open Go.RowKit Go.Shelf
set_option linter.unusedVariables false

def vcell (v : Value) (_ : Nat) : Value := v
theorem flat_v : ∀ vs : List Value, vs.flatMap (cellsOf 1 vcell) = vs
  | [] => rfl
  | v :: r => by
    rw [List.flatMap_cons, flat_v r]
    simp [cellsOf, List.range_succ, vcell]
theorem slT_wms : SlT 95 31 1 24 (.slice none 0 0) := ⟨Try.underlying95, by kernel_rfl, rfl, by omega⟩
/-- a row of values of the call's own -/
structure RowV (W : World) (b : Nat) (t : TypeId) (l : List Value) : Prop where
  blk : ∃ cs : Array Value, Blk W b t cs ∧ ∀ (i : Nat) (x : Value), l[i]? = some x → cs[i]? = some x
theorem RowV.lt {W : World} {b : Nat} {t : TypeId} {l : List Value} (h : RowV W b t l) : b < W.heap.size := by obtain ⟨⟨cs, h1, -⟩⟩ := h; exact h1.lt
theorem RowV.heap {W W' : World} {b : Nat} {t : TypeId} {l : List Value} (h : RowV W b t l) (hk : W'.heap[b]? = W.heap[b]?) : RowV W' b t l := by
  obtain ⟨⟨cs, h1, h2⟩⟩ := h
  exact ⟨⟨cs, hk.trans h1, h2⟩⟩
theorem RowV.arr {W : World} {b n cap : Nat} {t : TypeId} {l : List Value} (h : RowV W b t l) (hn : n = l.length) (h1 : l.length ≤ cap) (h2 : cap ≤ 9223372036854775807) : Arr W W.heap.size 1 (.slice (some ⟨b, 0, none⟩) n cap) l vcell := by
  subst hn
  have g2 := h.lt
  obtain ⟨⟨cs, h3, h4⟩⟩ := h
  refine ⟨_, _, rfl, h1, h2, fun _ => ⟨b, 0, rfl, g2, fun i x hx j hj => ?_⟩⟩
  obtain rfl : j = 0 := by omega
  rw [h3.cell, Nat.zero_add, Nat.mul_one, Nat.add_zero]
  exact h4 i x hx
theorem rowv_own {W : World} {base n : Nat} {te : TypeId} {v : Value} {l : List Value} (h : W.ownsRow base te 1 v n l) (hn : n = l.length) (hpos : 0 < n) : ∃ bb cap, v = .slice (some ⟨bb, 0, none⟩) l.length cap ∧ l.length ≤ cap ∧ cap ≤ 9223372036854775807 ∧ RowV W bb te l ∧ base ≤ bb := by
  subst hn
  rcases h.2 with ⟨_, h0⟩ | ⟨g, cap, cur, rfl, h1, h2, h3, h4, h5, h6⟩
  · omega
  · refine ⟨g, cap, rfl, h3, by simpa only [maxLen] using h4, ⟨⟨cur, h2, fun i x hx => ?_⟩⟩, h1⟩
    have hi := (List.getElem?_eq_some_iff.1 hx).1
    rw [Nat.mul_one] at h6
    have : (cur.toList.take l.length)[i]? = some x := by rw [h6, hx]
    rw [List.getElem?_take, if_pos hi] at this
    simpa using this
/-- rows with the values that they hold -/
abbrev VV := Value × List Value
def vvcell (x : VV) (_ : Nat) : Value := x.1
/-- a list of rows that is being built: the slice owns its row, each element has one of its own -/
structure BuiltV (w0 W : World) (te : TypeId) (v : Value) (xs : List VV) : Prop where
  own : W.ownsRow w0.heap.size te 1 v xs.length (xs.map (·.1))
  el : ∀ x ∈ xs, ∃ bb cap t, x.1 = .slice (some ⟨bb, 0, none⟩) x.2.length cap ∧ x.2.length ≤ cap ∧ cap ≤ 9223372036854775807 ∧ RowV W bb t x.2 ∧ v.ownBlock ≠ some bb
  bl : Below w0.heap.size w0 W
theorem flat_vv (xs : List VV) : xs.flatMap (cellsOf 1 vvcell) = xs.map (·.1) := by
  induction xs with
  | nil => rfl
  | cons x r ih => rw [List.flatMap_cons, ih]; rfl
theorem BuiltV.nil_ (w0 : World) (te : TypeId) : BuiltV w0 w0 te (.slice none 0 0) [] := ⟨by simpa using World.ownsRow_nil _ _ _ _, (fun x hx => by cases hx), Below.refl _ _⟩
def ApartV (o v : Value) (xs : List VV) : Prop := ∀ r, o.ownBlock = some r → v.ownBlock ≠ some r ∧ ∀ x ∈ xs, x.1.ownBlock ≠ some r
theorem ApartV.nil_ (v : Value) (xs : List VV) : ApartV (.slice none 0 0) v xs := fun r h => by simp [Value.ownBlock] at h
section
variable {w0 W W' : World} {te : TypeId} {v : Value} {xs : List VV}
theorem BuiltV.call (h : BuiltV w0 W te v xs) (hb : Below W.heap.size W W') : BuiltV w0 W' te v xs := by
  refine ⟨own_call h.own hb, fun x hx => ?_, h.bl.trans (hb.mono h.bl.size)⟩
  obtain ⟨bb, cap, t, g1, g2, g3, g4, g5⟩ := h.el x hx
  exact ⟨bb, cap, t, g1, g2, g3, g4.heap (hb.block bb g4.lt), g5⟩
theorem BuiltV.arr (h : BuiltV w0 W te v xs) : Arr W W.heap.size 1 v xs vvcell := by
  refine Arr.of_own (base := w0.heap.size) (e := te) ?_
  rw [flat_vv]
  exact h.own
theorem BuiltV.at_ {A : Option Addr} {n c : Nat} (h : BuiltV w0 W te (.slice A n c) xs) {i : Nat} {x : VV} (hi : xs[i]? = some x) :
    ∃ b off bb cap, A = some ⟨b, off, none⟩ ∧ b < W.heap.size ∧ W.cell? ⟨b, off + i, none⟩ = some (.slice (some ⟨bb, 0, none⟩) x.2.length cap) ∧ x.1 = .slice (some ⟨bb, 0, none⟩) x.2.length cap ∧ Arr W W.heap.size 1 (.slice (some ⟨bb, 0, none⟩) x.2.length cap) x.2 vcell := by
  obtain ⟨b, off, y, h1, h2, h3, h4⟩ := h.arr.at_ (k := i) (List.getElem?_eq_some_iff.1 hi).1
  rw [hi] at h3
  injection h3 with h3
  subst h3
  obtain ⟨bb, cap, t, g1, g2, g3, g4, g5⟩ := h.el _ (List.mem_of_getElem? hi)
  have g6 := h4 0 (by omega)
  rw [Nat.mul_one, Nat.add_zero] at g6
  unfold vvcell at g6
  rw [g1] at g6
  exact ⟨b, off, bb, cap, h1, h2, g6, g1, g4.arr rfl g2 g3⟩
theorem BuiltV.form (h : BuiltV w0 W te v xs) : ∃ A cap, v = .slice A xs.length cap ∧ xs.length ≤ cap ∧ cap ≤ 9223372036854775807 := by
  obtain ⟨A, cap, rfl⟩ := own_form h.own
  have := own_cap h.own
  exact ⟨A, cap, rfl, by omega, by omega⟩
theorem BuiltV.app {Wp w4 : World} {v' : Value} (h : BuiltV w0 Wp te v xs) {bb cap : Nat} {t : TypeId} {l : List Value} (hr : RowV Wp bb t l) (h1 : l.length ≤ cap) (h2 : cap ≤ 9223372036854775807) (hne : v.ownBlock ≠ some bb)
    (hown4 : w4.ownsRow w0.heap.size te 1 v' (xs.length + 1) (xs.map (·.1) ++ [.slice (some ⟨bb, 0, none⟩) l.length cap])) (hg4 : Wp.grownBy w4 v.ownBlock) (hat : ∀ b, v'.ownBlock = some b → v.ownBlock = some b ∨ Wp.heap.size ≤ b) : BuiltV w0 w4 te v' (xs ++ [(.slice (some ⟨bb, 0, none⟩) l.length cap, l)]) := by
  have hkeep : ∀ b' t' l', RowV Wp b' t' l' → v.ownBlock ≠ some b' → RowV w4 b' t' l' ∧ v'.ownBlock ≠ some b' := by
    intro b' t' l' hr' hn'
    refine ⟨hr'.heap (hg4.block b' hr'.lt fun e => hn' e.symm), fun e => ?_⟩
    rcases hat b' e with q | q
    · exact hn' q
    · have := hr'.lt; omega
  refine ⟨by simpa using hown4, fun x hx => ?_, h.bl.grown hg4 h.bl.size fun k hk => (h.own.lt k hk).1⟩
  rcases List.mem_append.1 hx with hx | hx
  · obtain ⟨b', c', t', q1, q2, q3, q4, q5⟩ := h.el x hx
    obtain ⟨q6, q7⟩ := hkeep b' t' _ q4 q5
    exact ⟨b', c', t', q1, q2, q3, q6, q7⟩
  · rw [List.mem_singleton] at hx
    subst hx
    obtain ⟨q6, q7⟩ := hkeep bb t l hr hne
    exact ⟨bb, cap, t, rfl, h1, h2, q6, q7⟩
theorem BuiltV.grown {row : Option Nat} (h : BuiltV w0 W te v xs) (hg : W.grownBy W' row) (hv : ∀ r, row = some r → v.ownBlock ≠ some r ∧ w0.heap.size ≤ r ∧ ∀ x ∈ xs, x.1.ownBlock ≠ some r) : BuiltV w0 W' te v xs := by
  refine ⟨own_grown h.own hg fun r e => (hv r e).1, fun x hx => ?_, h.bl.grown hg h.bl.size fun k hk => (hv k hk).2.1⟩
  obtain ⟨bb, cap, t, g1, g2, g3, g4, g5⟩ := h.el x hx
  exact ⟨bb, cap, t, g1, g2, g3, g4.heap (hg.block bb g4.lt fun e => (hv bb e.symm).2.2 x hx (by rw [g1]; rfl)), g5⟩
theorem BuiltV.lt (h : BuiltV w0 W te v xs) {r : Nat} (hr : v.ownBlock = some r ∨ ∃ x ∈ xs, x.1.ownBlock = some r) : r < W.heap.size := by
  rcases hr with hr | ⟨x, hx, hr⟩
  · exact (h.own.lt r hr).2
  · obtain ⟨bb, cap, t, g1, g2, g3, g4, g5⟩ := h.el x hx
    rw [g1] at hr
    simp only [Value.ownBlock, Option.some.injEq] at hr
    subst hr
    exact g4.lt
theorem BuiltV.beside {o o' : Value} {te' n : Nat} {os : List Value} (h : BuiltV w0 W te v xs) (ho : W.ownsRow w0.heap.size te' 1 o n os) (ha : ApartV o v xs) (hg : W.grownBy W' o.ownBlock) (hat : ∀ b, o'.ownBlock = some b → o.ownBlock = some b ∨ W.heap.size ≤ b) :
    BuiltV w0 W' te v xs ∧ ApartV o' v xs := by
  refine ⟨h.grown hg fun r e => ⟨(ha r e).1, (ho.lt r e).1, (ha r e).2⟩, fun r e => ?_⟩
  rcases hat r e with q | q
  · exact ha r q
  · exact ⟨fun e2 => by have := h.lt (.inl e2); omega, fun x hx e2 => by have := h.lt (.inr ⟨x, hx, e2⟩); omega⟩
end

/-! ### the values of matches -/
/-- each match of a list in memory has its value -/
structure HdOf (w : World) (A : Option Addr) (ms : List (List Nat)) (hd : List Nat → Value) : Prop where
  at_ : ∀ k, k < ms.length → ∃ b off, A = some ⟨b, off, none⟩ ∧ b < w.heap.size ∧ w.cell? ⟨b, off + k, none⟩ = some (hd (ms.getD k []))
  arr : ∀ m ∈ ms, Arr w w.heap.size 1 (hd m) (iL m) icell
theorem hd_of {w : World} {A : Option Addr} {n c : Nat} {ms : List (List Nat)} (h : LLi w (.slice A n c) (iLL ms)) (hn : ms.Nodup) : ∃ hd, HdOf w A ms hd := by
  obtain ⟨xs, h1, h2, h3⟩ := h
  have hl : xs.length = ms.length := by
    have := congrArg List.length h1
    rwa [List.length_map, iLL_len] at this
  have hx : ∀ k (hk : k < ms.length), (xs[k]'(by omega)).2 = iL ms[k] := by
    intro k hk
    have : (xs.map (·.2))[k]? = (iLL ms)[k]? := by rw [h1]
    rw [List.getElem?_map, List.getElem?_eq_getElem (by omega)] at this
    unfold iLL at this
    rw [List.getElem?_map, List.getElem?_eq_getElem hk] at this
    simpa using this
  have hi : ∀ k (hk : k < ms.length), xs.getD (ms.idxOf ms[k]) (undef, []) = xs[k]'(by omega) := by
    intro k hk
    rw [hn.idxOf_getElem k hk, List.getD_eq_getElem?_getD, List.getElem?_eq_getElem (by omega)]
    rfl
  refine ⟨fun m => (xs.getD (ms.idxOf m) (undef, [])).1, ⟨fun k hk => ?_, fun m hm => ?_⟩⟩
  · obtain ⟨b, off, y, g1, g2, g3, g4⟩ := h2.at_ (k := k) (by omega)
    have g5 := g4 0 (by omega)
    rw [Nat.mul_one, Nat.add_zero] at g5
    refine ⟨b, off, g1, g2, ?_⟩
    have e : ms.getD k [] = ms[k] := by rw [List.getD_eq_getElem?_getD, List.getElem?_eq_getElem hk]; rfl
    rw [List.getElem?_eq_getElem (by omega)] at g3
    injection g3 with g3
    simp only [e, hi k hk]
    rw [g3]
    exact g5
  · obtain ⟨k, hk, rfl⟩ := List.getElem_of_mem hm
    simp only [hi k hk]
    rw [← hx k hk]
    exact h3 _ (List.getElem_mem _)
theorem HdOf.call {w w' : World} {A : Option Addr} {ms : List (List Nat)} {hd : List Nat → Value} (h : HdOf w A ms hd) (hb : Below w.heap.size w w') : HdOf w' A ms hd := by
  refine ⟨fun k hk => ?_, fun m hm => (h.arr m hm).call hb⟩
  obtain ⟨b, off, h1, h2, h3⟩ := h.at_ k hk
  exact ⟨b, off, h1, Nat.lt_of_lt_of_le h2 hb.size, (hb.cell (p := ⟨b, off + k, none⟩) h2).trans h3⟩
/-- a slice of slices of slices of whole numbers -/
def LLL (w : World) (v : Value) (L : List (List (List Int))) : Prop :=
  ∃ xs : List (Value × List (List Int)), xs.map (·.2) = L ∧ Arr w w.heap.size 1 v xs (fun x _ => x.1) ∧ ∀ x ∈ xs, LLi w x.1 x.2
theorem LLL.call {w w' : World} {v : Value} {L : List (List (List Int))} (h : LLL w v L) (hb : Below w.heap.size w w') : LLL w' v L := by
  obtain ⟨xs, h1, h2, h3⟩ := h
  exact ⟨xs, h1, (h2.below hb).more hb.size, fun x hx => (h3 x hx).call hb⟩
theorem LLL.form {w : World} {v : Value} {L : List (List (List Int))} (h : LLL w v L) : ∃ A cap, v = .slice A L.length cap ∧ L.length ≤ cap ∧ cap ≤ 9223372036854775807 := by
  obtain ⟨xs, rfl, ⟨A, cap, h1, h4, h5, -⟩, -⟩ := h
  rw [List.length_map]
  exact ⟨A, cap, h1, h4, h5⟩
theorem LLL.at_ {w : World} {A : Option Addr} {n cap : Nat} {L : List (List (List Int))} (h : LLL w (.slice A n cap) L) {i : Nat} {l : List (List Int)} (hi : L[i]? = some l) :
    ∃ b off lA lc, A = some ⟨b, off, none⟩ ∧ b < w.heap.size ∧ w.cell? ⟨b, off + i, none⟩ = some (.slice lA l.length lc) ∧ LLi w (.slice lA l.length lc) l := by
  obtain ⟨xs, rfl, h2, h3⟩ := h
  rw [List.getElem?_map, Option.map_eq_some_iff] at hi
  obtain ⟨x, hx, rfl⟩ := hi
  have hlt := (List.getElem?_eq_some_iff.1 hx).1
  obtain ⟨b, off, y, g1, g2, g3, g4⟩ := h2.at_ (k := i) hlt
  rw [hx] at g3
  injection g3 with g3
  subst g3
  have ha := h3 x (List.mem_of_getElem? hx)
  obtain ⟨lA, lc, e, -⟩ := ha.form
  have g5 := g4 0 (by omega)
  rw [Nat.mul_one, Nat.add_zero] at g5
  rw [e] at g5 ha
  exact ⟨b, off, lA, lc, g1, g2, g5, ha⟩
/-- passages whose rows hold the values of their matches -/
theorem BuiltV.lll {w0 W : World} {te : TypeId} {v : Value} {xs : List VV} {A : Option Addr} {ms : List (List Nat)} {hd : List Nat → Value} (h : BuiltV w0 W te v xs) (hh : HdOf W A ms hd) {P : List (List (List Nat))} (hP : ∀ p ∈ P, ∀ m ∈ p, m ∈ ms) (hx : xs.map (·.2) = P.map fun p => p.map hd) : LLL W v (P.map iLL) := by
  have hl : xs.length = P.length := by
    have := congrArg List.length hx
    rwa [List.length_map, List.length_map] at this
  have hat : ∀ k (hk : k < xs.length), xs[k].2 = (P[k]'(by omega)).map hd := by
    intro k hk
    have : (xs.map (·.2))[k]? = (P.map fun p => p.map hd)[k]? := by rw [hx]
    rw [List.getElem?_map, List.getElem?_map, List.getElem?_eq_getElem hk, List.getElem?_eq_getElem (by omega)] at this
    simpa using this
  refine ⟨(xs.zip P).map fun z => (z.1.1, iLL z.2), ?_, ?_, ?_⟩
  · rw [List.map_map]
    apply List.ext_getElem
    · simp [hl]
    · intro i h1 h2
      simp
  · obtain ⟨A', c', e, g1, g2, g3⟩ := h.arr
    refine ⟨A', c', by rw [e]; simp [hl], by simp; omega, g2, fun hp => ?_⟩
    obtain ⟨b, off, k1, k2, k3⟩ := g3 (by simp at hp; omega)
    refine ⟨b, off, k1, k2, fun i x hxi j hj => ?_⟩
    rw [List.getElem?_map, Option.map_eq_some_iff] at hxi
    obtain ⟨z, hz, rfl⟩ := hxi
    rw [List.getElem?_zip_eq_some] at hz
    exact k3 i z.1 hz.1 j hj
  · intro x hx'
    rw [List.mem_map] at hx'
    obtain ⟨z, hz, rfl⟩ := hx'
    obtain ⟨k, hk, hzk⟩ := List.getElem_of_mem hz
    have hk2 : k < xs.length := by simp at hk; omega
    rw [List.getElem_zip] at hzk
    subst hzk
    obtain ⟨bb, cap, t, q1, q2, q3, q4, q5⟩ := h.el _ (List.getElem_mem hk2)
    have hv := q4.arr rfl q2 q3
    rw [← q1] at hv
    refine ⟨(P[k]'(by omega)).map fun m => (hd m, iL m), by unfold iLL; rw [List.map_map]; rfl, ?_, ?_⟩
    · obtain ⟨A', c', e, g1, g2, g3⟩ := hv
      rw [hat k hk2] at e g1 g3
      refine ⟨A', c', by rw [e]; simp, by simpa using g1, g2, fun hp => ?_⟩
      obtain ⟨b, off, k1, k2, k3⟩ := g3 (by simpa using hp)
      refine ⟨b, off, k1, k2, fun i y hy j hj => ?_⟩
      rw [List.getElem?_map, Option.map_eq_some_iff] at hy
      obtain ⟨m, hm, rfl⟩ := hy
      exact k3 i (hd m) (by rw [List.getElem?_map, hm]; rfl) j hj
    · intro y hy
      rw [List.mem_map] at hy
      obtain ⟨m, hm, rfl⟩ := hy
      exact hh.arr m (hP _ (List.getElem_mem _) m hm)
end Go.Proofs.Ytgngpdnppdbgoaa
