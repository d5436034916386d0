/- Opening the arguments of a statement: the values of the arguments as lists and numbers; the last step out of Below. -/
import Derived.Test.YtgngpdnppdbgoaaLawC
import Derived.Deep.Slices
import Derived.Deep.Fields
import Derived.ChangeSame
import Derived.Lib.SmallJoins
import Derived.Below
import Derived.Carry
namespace Go.Proofs.Ytgngpdnppdbgoaa
open Go.RowKit Go.Shelf Go.Joins Go.ChangeShapes Go.WideShapes Go.Deep
set_option linter.unusedVariables false

section
variable {H : Type} {enc : TypeId × Value → H} {P : Program}
theorem last_of_below {f : Func} {s : ChangeSpec} {apart fresh handsOn again : Bool} {W W' : World} {args : Array Value} {v : Value} {ds gs : List (DataW H)} {before pa pv : List MemPlace}
    (hW : DataW.Whole enc P f.params.toList s.vars apart W args.toList ds gs before)
    (hres : ∀ (b : Nat) (sp : Nat → Bool) (hd : Bool), DataW.TrodAll enc P W' b sp hd f.resultTypes.toList (v.resultList f.resultTypes.size) (s.fn H (ds ++ gs)).results [])
    (hargs : ∀ sp : Nat → Bool, (∀ p ∈ before, sp p.block = true) → DataW.TrodAll enc P W' 0 sp true f.params.toList args.toList (s.fn H (ds ++ gs)).args pa)
    (hvars : ∀ sp : Nat → Bool, (∀ p ∈ before, sp p.block = true) → DataW.TrodVars enc P W' sp s.vars (s.fn H (ds ++ gs)).vars pv)
    (hps : before = pa ++ pv) (hb : Below W.heap.size W W')
    (hok : ∀ (j : Nat) (t : TypeId) (r : Value), f.resultTypes[j]? = some t → (v.resultList f.resultTypes.size)[j]? = some r → Value.okWide P W' .any 0 t r) :
    s.post enc P f apart fresh handsOn again W args v W' := by
  have hlt : ∀ p ∈ before, p.block < W.heap.size := fun p hp => hW.lt p hp
  have hold : ∀ p ∈ before, (fun b => decide (b < W.heap.size)) p.block = true := fun p hp => by simpa using hlt p hp
  refine ⟨ds, gs, before, [], pa, pv, hW, hres _ _ _, hargs _ hold, hvars _ hold, World.keptBut_mono (fun p hp => ⟨hp, ?_⟩) (hb.frame (· ∈ before)), fun _ => ?_⟩
  · rw [hps, List.mem_append] at hp
    exact Or.inr hp
  · obtain ⟨_, _, _, _, _, hz, hn⟩ := hW
    refine ⟨hok, _, _, ([] ++ pa) ++ pv, ⟨[] ++ pa, pv, trodAll_append (hargs _ (fun _ _ => rfl)) (hres _ _ _), hvars _ (fun _ _ => rfl), rfl, ?_, ?_⟩, ?_⟩
    · intro b off hp
      have hin : MemPlace.cell b off ∈ before := by rw [hps]; simpa using hp
      rw [hb.frozen (hlt _ hin)]
      exact hz b off hin
    · intro ha
      have := hn ha
      rw [hps] at this
      simpa using this
    · intro p hp _
      rw [hps]
      simpa using hp

variable {w : World} {base : Nat} {spare : Nat → Bool} {held : Bool}
/-- a slice of whatever element, as a list: every element's cells read by a function of its own. -/
theorem arr_of_trod {α : Type} [Inhabited α] {t e : TypeId} {size fuel : Nat} {cs : List Value} {x : DataW H × List MemPlace} {cell : α → Nat → Value} (ht : P.underlying t = some (.slice e)) (hC : P.cellsOf e = size) (hpos : 0 < size)
    (hel : ∀ (n : Nat) (cs' : List Value) (y : DataW H × List MemPlace), DataW.trod enc P w base spare held n e cs' = some y → ∃ x : α, ∀ j, j < size → cs'[j]? = some (cell x j))
    (h : DataW.trod enc P w base spare held fuel t cs = some x) : ∃ v l, cs = [v] ∧ Arr w w.heap.size size v l cell := by
  rcases open_slice ht h with ⟨h0, _⟩ | ⟨a, len, cap, m, n, D, Pl, hcs, hb, hl, hm, hmm, hx, hi⟩
  · exact ⟨_, [], h0, Arr.nil_⟩
  · have hlm : len ≤ m := by rw [hmm]; split <;> omega
    have hc : ∀ i, i < len → ∃ x : α, ∀ j, j < size → w.cell? (a.add (i * size + j)) = some (cell x j) := by
      intro i him
      obtain ⟨cs', h1, h2⟩ := hi i (by omega)
      obtain ⟨x, hx⟩ := hel _ _ _ h2
      rw [hC] at h1
      obtain ⟨_, hcl, hat⟩ := World.cells?_some h1
      refine ⟨x, fun j hj => ?_⟩
      rw [← Go.Deep.add_add, hat j hj]
      exact hx j hj
    have hf : ∀ i, ∃ x : α, i < len → ∀ j, j < size → w.cell? (a.add (i * size + j)) = some (cell x j) := by
      intro i
      by_cases hil : i < len
      · obtain ⟨x, hx⟩ := hc i hil
        exact ⟨x, fun _ => hx⟩
      · exact ⟨default, fun h => absurd h hil⟩
    let f := fun i => Classical.choose (hf i)
    have hf2 := fun i => Classical.choose_spec (hf i)
    refine ⟨_, (List.range len).map f, hcs, some a, cap, by simp, by simpa using hl, by simp only [maxLen] at hm; omega, ?_⟩
    intro hpos0
    have hpos1 : 0 < len := by simpa using hpos0
    have h00 := hf2 0 hpos1 0 hpos
    have hblk := World.block_lt_of_cell? _ _ h00
    obtain ⟨b, off, sel⟩ := a
    cases sel with
    | some s => exact absurd h00 (by simp [Addr.add, World.cell?]; split <;> simp)
    | none =>
      refine ⟨b, off, rfl, by simpa [Addr.add] using hblk, ?_⟩
      intro i x hx j hj
      simp only [List.getElem?_map, Option.map_eq_some_iff] at hx
      obtain ⟨i', hi', rfl⟩ := hx
      rw [List.getElem?_eq_some_iff] at hi'
      obtain ⟨hlt, rfl⟩ := hi'
      have := hf2 i (by simpa using hlt) j hj
      simp only [List.getElem_range]
      rw [← this]
      congr 1
      unfold Addr.add
      split
      · rename_i h0
        rw [Nat.add_assoc, h0]
        rfl
      · simp [Nat.add_assoc]

end

section
variable {H : Type} {enc : TypeId × Value → H} {P : Program} {w : World} {base : Nat} {spare : Nat → Bool} {held : Bool}
/-- a slice argument -/
theorem slice_arg {t e : TypeId} {v : Value} {d : DataW H} {p : List MemPlace} {r : Reach} {b0 : Nat} {Q : Value → Prop} (ht : P.underlying t = some (.slice e)) (hv : Value.okWide P w r b0 t v) (h : DataW.Trod enc P w base spare held t v d p)
    (hq : ∀ fuel x cs, DataW.trod enc P w base spare held fuel t cs = some x → ∃ v', cs = [v'] ∧ Q v') : Q v := by
  obtain ⟨a, l, c, rfl⟩ := okWide_slice ht hv
  obtain ⟨fuel, hf⟩ := h
  obtain ⟨v', hc, hQ⟩ := hq _ _ _ hf
  simp [Value.cells] at hc
  exact hc ▸ hQ
end

section
variable {H : Type} {enc : TypeId × Value → H} {w : World} {spare : Nat → Bool} {held : Bool} {fuel : Nat} {cs : List Value} {x : DataW H × List MemPlace}
theorem ints_arr {t e : TypeId} {k : IntKind} (ht : Try.prog.underlying t = some (.slice e)) (he : Try.prog.underlying e = some (.int k)) (hC : Try.prog.cellsOf e = 1)
    (h : DataW.trod enc Try.prog w 0 spare held fuel t cs = some x) : ∃ v l, cs = [v] ∧ Arr w w.heap.size 1 v l (fun (i : Int) _ => .int k i) := by
  refine arr_of_trod ht hC (by omega) ?_ h
  intro n cs' y hy
  obtain ⟨z, rfl, _⟩ := DataW.trod_int he hy
  refine ⟨z, fun j hj => ?_⟩
  have : j = 0 := by omega
  subst this
  rfl
theorem cells_int : Try.prog.cellsOf 3 = 1 := by kernel_rfl
theorem cells_u8 : Try.prog.cellsOf 5 = 1 := by kernel_rfl
theorem cells_pair : Try.prog.cellsOf 57 = 2 := by kernel_rfl
theorem cells_ints : Try.prog.cellsOf 38 = 1 := by kernel_rfl
theorem cells_wm : Try.prog.cellsOf 40 = 1 := by kernel_rfl
theorem cells_book : Try.prog.cellsOf 24 = 1 := by kernel_rfl
theorem cells_likes : Try.prog.cellsOf 22 = 1 := by kernel_rfl
theorem okWide_array {P : Program} {w : World} {r : Reach} {base : Nat} {t e : TypeId} {n : Nat} {v : Value} (ht : P.underlying t = some (.array n e)) (h : Value.okWide P w r base t v) : ∃ cs, v = .agg cs ∧ cs.size = P.cellsOf t := by
  simp only [Value.okWide, ht] at h
  obtain ⟨cs, h1, h2, _⟩ := h
  exact ⟨cs, h1, h2⟩
theorem byte_of {n : Nat} {cs' : List Value} {y : DataW H × List MemPlace} (hy : DataW.trod enc Try.prog w 0 spare held n 5 cs' = some y) : ∃ x : Fin 256, cs' = [.int .u8 x.val] := by
  obtain ⟨z, rfl, _, hw⟩ := DataW.trod_int (k := .u8) Try.underlying5 hy
  have h2 : 0 ≤ z ∧ z < 256 := by
    have e1 : IntKind.u8.min = 0 := rfl
    have e2 : IntKind.u8.max = 255 := rfl
    simp only [Lit.wf, e1, e2, Bool.and_eq_true, decide_eq_true_eq] at hw
    omega
  exact ⟨⟨z.toNat, by omega⟩, by congr 1; simp; congr 1; omega⟩
theorem pair_of {n : Nat} {cs' : List Value} {y : DataW H × List MemPlace} (hy : DataW.trod enc Try.prog w 0 spare held n 57 cs' = some y) : ∃ x : Int × Int, cs' = [.int .i64 x.1, .int .i64 x.2] := by
  obtain ⟨xs, m, _, _, hl, hxl, hf⟩ := DataW.trod_array (e := 3) (n := 2) Try.underlying57 hy
  rw [cells_pair] at hl
  rw [cells_int] at hf
  match cs', hl with
  | [a, b], _ =>
    match xs, hxl with
    | [y0, y1], _ =>
      obtain ⟨p, hp, -⟩ := DataW.trod_int (k := .i64) Try.underlying3 (hf 0 (by omega))
      obtain ⟨q, hq, -⟩ := DataW.trod_int (k := .i64) Try.underlying3 (hf 1 (by omega))
      simp at hp hq
      exact ⟨(p, q), by rw [hp, hq]⟩
theorem words_of {n : Nat} {cs' : List Value} {y : DataW H × List MemPlace} (hy : DataW.trod enc Try.prog w 0 spare held n 62 cs' = some y) : ∃ a b c : Fin 256, cs' = [.int .u8 a.val, .int .u8 b.val, .int .u8 c.val] := by
  obtain ⟨xs, m, _, _, hl, hxl, hf⟩ := DataW.trod_array (e := 5) (n := 3) Try.underlying62 hy
  rw [show Try.prog.cellsOf 62 = 3 from by kernel_rfl] at hl
  rw [cells_u8] at hf
  match cs', hl with
  | [a, b, c], _ =>
    match xs, hxl with
    | [y0, y1, y2], _ =>
      obtain ⟨p, hp⟩ := byte_of (hf 0 (by omega))
      obtain ⟨q, hq⟩ := byte_of (hf 1 (by omega))
      obtain ⟨r, hr⟩ := byte_of (hf 2 (by omega))
      simp at hp hq hr
      exact ⟨p, q, r, by rw [hp, hq, hr]⟩
/-- a slice of slices -/
theorem lists_arr {t e : TypeId} (ht : Try.prog.underlying t = some (.slice e)) (he : Try.prog.underlying e = some (.slice 3)) (hC : Try.prog.cellsOf e = 1)
    (h : DataW.trod enc Try.prog w 0 spare held fuel t cs = some x) : ∃ v l, cs = [v] ∧ LLi w v l := by
  haveI : Inhabited {x : VL // Arr w w.heap.size 1 x.1 x.2 icell} := ⟨⟨(.slice none 0 0, []), Arr.nil_⟩⟩
  obtain ⟨v, l, e1, ha⟩ := arr_of_trod (α := {x : VL // Arr w w.heap.size 1 x.1 x.2 icell}) (size := 1) (cell := fun x _ => x.1.1) ht hC (by omega) (fun n cs' y hy => by
    obtain ⟨u, m, rfl, hm⟩ := ints_arr (k := .i64) he Try.underlying3 cells_int hy
    refine ⟨⟨(u, m), hm⟩, fun j hj => ?_⟩
    obtain rfl : j = 0 := by omega
    rfl) h
  refine ⟨v, (l.map (·.1)).map (·.2), e1, l.map (·.1), rfl, ?_, fun y hy => ?_⟩
  · obtain ⟨A, c, hv, h1, h2, h3⟩ := ha
    refine ⟨A, c, by simpa using hv, by simpa using h1, h2, fun hl => ?_⟩
    obtain ⟨b, off, h4, h5, h6⟩ := h3 (by simpa using hl)
    refine ⟨b, off, h4, h5, fun i y hy j hj => ?_⟩
    rw [List.getElem?_map, Option.map_eq_some_iff] at hy
    obtain ⟨z, hz, rfl⟩ := hy
    exact h6 i z hz j hj
  · obtain ⟨z, hz, rfl⟩ := List.mem_map.1 hy
    exact z.2
theorem likes_arr (h : DataW.trod enc Try.prog w 0 spare held fuel 22 cs = some x) : ∃ v l, cs = [v] ∧ Arr w w.heap.size 2 v l p2cell :=
  arr_of_trod Try.underlying22 cells_pair (by omega) (fun n cs' y hy => by
    obtain ⟨p, rfl⟩ := pair_of hy
    refine ⟨p, fun j hj => ?_⟩
    have : j = 0 ∨ j = 1 := by omega
    rcases this with rfl | rfl <;> rfl) h

set_option maxRecDepth 100000 in
theorem open_lines {v : Value} {d : DataW H} {p : List MemPlace} {r : Reach} {b0 : Nat} (hv : Value.okWide Try.prog w r b0 25 v) (h : DataW.Trod enc Try.prog w 0 spare held 25 v d p) : ∃ l, LLi w v l :=
  slice_arg (P := Try.prog) (Q := fun v => ∃ l, LLi w v l) Try.underlying25 hv h fun fuel x cs hx => by
    obtain ⟨v, l, e, ha⟩ := lists_arr Try.underlying25 Try.underlying38 cells_ints hx
    exact ⟨v, e, l, ha⟩
set_option maxRecDepth 100000 in
theorem open_mats {v : Value} {d : DataW H} {p : List MemPlace} {r : Reach} {b0 : Nat} (hv : Value.okWide Try.prog w r b0 31 v) (h : DataW.Trod enc Try.prog w 0 spare held 31 v d p) : ∃ l, LLi w v l :=
  slice_arg (P := Try.prog) (Q := fun v => ∃ l, LLi w v l) Try.underlying31 hv h fun fuel x cs hx => by
    obtain ⟨v, l, e, ha⟩ := lists_arr Try.underlying31 Try.underlying40 cells_wm hx
    exact ⟨v, e, l, ha⟩
set_option maxRecDepth 100000 in
theorem open_ints {v : Value} {d : DataW H} {p : List MemPlace} {r : Reach} {b0 : Nat} (hv : Value.okWide Try.prog w r b0 38 v) (h : DataW.Trod enc Try.prog w 0 spare held 38 v d p) : ∃ l, Arr w w.heap.size 1 v l icell :=
  slice_arg (P := Try.prog) (Q := fun v => ∃ l, Arr w w.heap.size 1 v l icell) Try.underlying38 hv h fun fuel x cs hx => by
    obtain ⟨v, l, e, ha⟩ := ints_arr (k := .i64) Try.underlying38 Try.underlying3 cells_int hx
    exact ⟨v, e, l, ha⟩
set_option maxRecDepth 100000 in
theorem open_by {v : Value} {d : DataW H} {p : List MemPlace} {r : Reach} {b0 : Nat} (hv : Value.okWide Try.prog w r b0 51 v) (h : DataW.Trod enc Try.prog w 0 spare held 51 v d p) : ∃ l, Arr w w.heap.size 1 v l u8cell :=
  slice_arg (P := Try.prog) (Q := fun v => ∃ l, Arr w w.heap.size 1 v l u8cell) Try.underlying51 hv h fun fuel x cs hx => by
    obtain ⟨v, l, e, ha⟩ := arr_of_trod (cell := u8cell) Try.underlying51 cells_u8 (by omega) (fun n cs' y hy => by
      obtain ⟨q, rfl⟩ := byte_of hy
      refine ⟨q, fun j hj => ?_⟩
      obtain rfl : j = 0 := by omega
      rfl) hx
    exact ⟨v, e, l, ha⟩
set_option maxRecDepth 100000 in
theorem open_pair {v : Value} {d : DataW H} {p : List MemPlace} {r : Reach} {b0 : Nat} (hv : Value.okWide Try.prog w r b0 57 v) (h : DataW.Trod enc Try.prog w 0 spare held 57 v d p) : ∃ x : Int × Int, v = .agg #[.int .i64 x.1, .int .i64 x.2] := by
  obtain ⟨cs, rfl, hsz⟩ := okWide_array Try.underlying57 hv
  obtain ⟨fuel, hf⟩ := h
  obtain ⟨s, hs⟩ := pair_of hf
  obtain ⟨l⟩ := cs
  have hs' : l = [.int .i64 s.1, .int .i64 s.2] := by simpa [Value.cells] using hs
  subst hs'
  exact ⟨s, rfl⟩
set_option maxRecDepth 100000 in
theorem open_words {v : Value} {d : DataW H} {p : List MemPlace} {r : Reach} {b0 : Nat} (hv : Value.okWide Try.prog w r b0 62 v) (h : DataW.Trod enc Try.prog w 0 spare held 62 v d p) : ∃ x : Fin 256 × Fin 256 × Fin 256, v = .agg #[.int .u8 x.1.val, .int .u8 x.2.1.val, .int .u8 x.2.2.val] := by
  obtain ⟨cs, rfl, hsz⟩ := okWide_array Try.underlying62 hv
  obtain ⟨fuel, hf⟩ := h
  obtain ⟨a, b, c, hs⟩ := words_of hf
  obtain ⟨l⟩ := cs
  have hs' : l = [.int .u8 a.val, .int .u8 b.val, .int .u8 c.val] := by simpa [Value.cells] using hs
  subst hs'
  exact ⟨(a, b, c), rfl⟩
set_option maxRecDepth 100000 in
theorem open_byte {v : Value} {d : DataW H} {p : List MemPlace} {r : Reach} {b0 : Nat} (hv : Value.okWide Try.prog w r b0 5 v) (h : DataW.Trod enc Try.prog w 0 spare held 5 v d p) : ∃ x : Fin 256, v = .int .u8 x.val := by
  obtain ⟨z, rfl⟩ := okWide_int Try.underlying5 hv
  obtain ⟨fuel, hf⟩ := h
  obtain ⟨q, hq⟩ := byte_of hf
  have hq' : (.int .u8 z : Value) = .int .u8 q.val := by simpa [Value.cells] using hq
  exact ⟨q, hq'⟩
set_option maxRecDepth 100000 in
theorem open_num {v : Value} {r : Reach} {b0 : Nat} (hv : Value.okWide Try.prog w r b0 3 v) : ∃ x : Int, v = .int .i64 x := okWide_int Try.underlying3 hv
set_option maxRecDepth 100000 in
theorem open_book {v : Value} {d : DataW H} {p : List MemPlace} {r : Reach} {b0 : Nat} (hv : Value.okWide Try.prog w r b0 24 v) (h : DataW.Trod enc Try.prog w 0 spare held 24 v d p) : ∃ c, BookV w w.heap.size v c := by
  obtain ⟨cs, rfl, hsz⟩ := okWide_struct Try.underlying24 hv
  rw [cells_book] at hsz
  obtain ⟨fuel, hf⟩ := h
  obtain ⟨y0, m, -, hl, h0⟩ := trod_struct1 Try.underlying24 hf
  dsimp only at h0
  rw [cells_likes] at h0
  obtain ⟨l⟩ := cs
  have hl' : l.length = 1 := hsz
  match l, hl' with
  | [c0], _ =>
    obtain ⟨pv, pl, e0, ha⟩ := likes_arr h0
    simp [Value.cells] at e0
    subst e0
    exact ⟨pl, c0, rfl, ha⟩
set_option maxRecDepth 100000 in
/-- an argument reads behind the call as before it -/
theorem arg_stays {t : TypeId} {v : Value} {d : DataW H} {ps before : List MemPlace} {sp : Nat → Bool} {W W' : World} (hr : Try.prog.readableRec t = true) (hrow : t < Try.prog.types.size) (h : DataW.Trod enc Try.prog W 0 (fun _ => true) true t v d ps)
    (hb : Below W.heap.size W W') (hin : ∀ x ∈ ps, x ∈ before) (hlt : ∀ x ∈ before, x.block < W.heap.size) (hsp : ∀ p ∈ before, sp p.block = true) : DataW.Trod enc Try.prog W' 0 sp true t v d ps :=
  WideElems.Trod_stays (by kernel_rfl) hr hrow h (fun x hx => hb.same (hlt x (hin x hx))) (fun x hx => hsp x (hin x hx))
end

section
variable {H : Type} {enc : TypeId × Value → H} {P : Program} {w : World} {base : Nat} {spare : Nat → Bool} {held : Bool}
theorem trodAll_five {t t1 t2 t3 t4 : TypeId} {args : Array Value} {ds : List (DataW H)} {ps : List MemPlace} (h : DataW.TrodAll enc P w base spare held [t, t1, t2, t3, t4] args.toList ds ps) :
    ∃ v v1 v2 v3 v4 d d1 d2 d3 d4 p p1 p2 p3 p4, args = #[v, v1, v2, v3, v4] ∧ ds = [d, d1, d2, d3, d4] ∧ ps = p ++ (p1 ++ (p2 ++ (p3 ++ p4))) ∧ DataW.Trod enc P w base spare held t v d p ∧ DataW.Trod enc P w base spare held t1 v1 d1 p1 ∧
      DataW.Trod enc P w base spare held t2 v2 d2 p2 ∧ DataW.Trod enc P w base spare held t3 v3 d3 p3 ∧ DataW.Trod enc P w base spare held t4 v4 d4 p4 := by
  obtain ⟨v, vs, d, ds', p, q, hargs, rfl, rfl, hd, hr⟩ := trodAll_cons h
  obtain ⟨v1, vs1, d1, ds1, p1, q1, rfl, rfl, rfl, hd1, hr1⟩ := trodAll_cons hr
  obtain ⟨v2, vs2, d2, ds2, p2, q2, rfl, rfl, rfl, hd2, hr2⟩ := trodAll_cons hr1
  obtain ⟨v3, vs3, d3, ds3, p3, q3, rfl, rfl, rfl, hd3, hr3⟩ := trodAll_cons hr2
  obtain ⟨v4, vs4, d4, ds4, p4, q4, rfl, rfl, rfl, hd4, hr4⟩ := trodAll_cons hr3
  obtain ⟨rfl, rfl, rfl⟩ := trodAll_nil hr4
  exact ⟨v, v1, v2, v3, v4, d, d1, d2, d3, d4, p, p1, p2, p3, p4, by cases args; simp_all, rfl, by simp, hd, hd1, hd2, hd3, hd4⟩
theorem trodAll_seven {t t1 t2 t3 t4 t5 t6 : TypeId} {args : Array Value} {ds : List (DataW H)} {ps : List MemPlace} (h : DataW.TrodAll enc P w base spare held [t, t1, t2, t3, t4, t5, t6] args.toList ds ps) :
    ∃ v v1 v2 v3 v4 v5 v6 d d1 d2 d3 d4 d5 d6 p p1 p2 p3 p4 p5 p6, args = #[v, v1, v2, v3, v4, v5, v6] ∧ ds = [d, d1, d2, d3, d4, d5, d6] ∧ ps = p ++ (p1 ++ (p2 ++ (p3 ++ (p4 ++ (p5 ++ p6))))) ∧ DataW.Trod enc P w base spare held t v d p ∧ DataW.Trod enc P w base spare held t1 v1 d1 p1 ∧
      DataW.Trod enc P w base spare held t2 v2 d2 p2 ∧ DataW.Trod enc P w base spare held t3 v3 d3 p3 ∧ DataW.Trod enc P w base spare held t4 v4 d4 p4 ∧ DataW.Trod enc P w base spare held t5 v5 d5 p5 ∧ DataW.Trod enc P w base spare held t6 v6 d6 p6 := by
  obtain ⟨v, vs, d, ds', p, q, hargs, rfl, rfl, hd, hr⟩ := trodAll_cons h
  obtain ⟨v1, vs1, d1, ds1, p1, q1, rfl, rfl, rfl, hd1, hr1⟩ := trodAll_cons hr
  obtain ⟨v2, vs2, d2, ds2, p2, q2, rfl, rfl, rfl, hd2, hr2⟩ := trodAll_cons hr1
  obtain ⟨v3, vs3, d3, ds3, p3, q3, rfl, rfl, rfl, hd3, hr3⟩ := trodAll_cons hr2
  obtain ⟨v4, vs4, d4, ds4, p4, q4, rfl, rfl, rfl, hd4, hr4⟩ := trodAll_cons hr3
  obtain ⟨v5, vs5, d5, ds5, p5, q5, rfl, rfl, rfl, hd5, hr5⟩ := trodAll_cons hr4
  obtain ⟨v6, vs6, d6, ds6, p6, q6, rfl, rfl, rfl, hd6, hr6⟩ := trodAll_cons hr5
  obtain ⟨rfl, rfl, rfl⟩ := trodAll_nil hr6
  exact ⟨v, v1, v2, v3, v4, v5, v6, d, d1, d2, d3, d4, d5, d6, p, p1, p2, p3, p4, p5, p6, by cases args; simp_all, rfl, by simp, hd, hd1, hd2, hd3, hd4, hd5, hd6⟩
end
end Go.Proofs.Ytgngpdnppdbgoaa
