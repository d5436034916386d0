/- Opening the arguments of a statement: the values of the arguments as lists and numbers; the last step out of Below. -/
import Derived.Test.YtjjjockfppomdaaIdx
import Derived.Deep.Slices
import Derived.Deep.Fields
import Derived.ChangeSame
import Derived.Lib.SmallJoins
import Derived.Below
import Derived.Carry
namespace Go.Proofs.Ytjjjockfppomdaa
open Go.RowKit Go.Shelf Go.Joins Go.ChangeShapes Go.WideShapes Go.Deep
set_option linter.unusedVariables false

section
variable {H : Type} {enc : TypeId × Value → H} {P : Program}
theorem last_of_below {f : Func} {s : ChangeSpec} {apart fresh handsOn again : Bool} {W W' : World} {args : Array Value} {v : Value} {ds gs : List (DataW H)} {before pa pv : List MemPlace}
    (hW : DataW.Whole enc P f.params.toList s.vars apart W args.toList ds gs before)
    (hres : ∀ (b : Nat) (sp : Nat → Bool) (hd : Bool), DataW.TrodAll enc P W' b sp hd f.resultTypes.toList (v.resultList f.resultTypes.size) (s.fn H (ds ++ gs)).results [])
    (hargs : ∀ sp : Nat → Bool, (∀ p ∈ before, sp p.block = true) → DataW.TrodAll enc P W' 0 sp true f.params.toList args.toList (s.fn H (ds ++ gs)).args pa)
    (hvars : ∀ sp : Nat → Bool, (∀ p ∈ before, sp p.block = true) → DataW.TrodVars enc P W' sp s.vars (s.fn H (ds ++ gs)).vars pv)
    (hps : before = pa ++ pv) (hb : Below W.heap.size W W')
    (hok : ∀ (j : Nat) (t : TypeId) (r : Value), f.resultTypes[j]? = some t → (v.resultList f.resultTypes.size)[j]? = some r → Value.okWide P W' .any 0 t r) :
    s.post enc P f apart fresh handsOn again W args v W' := by
  have hlt : ∀ p ∈ before, p.block < W.heap.size := fun p hp => hW.lt p hp
  have hold : ∀ p ∈ before, (fun b => decide (b < W.heap.size)) p.block = true := fun p hp => by simpa using hlt p hp
  refine ⟨ds, gs, before, [], pa, pv, hW, hres _ _ _, hargs _ hold, hvars _ hold, World.keptBut_mono (fun p hp => ⟨hp, ?_⟩) (hb.frame (· ∈ before)), fun _ => ?_⟩
  · rw [hps, List.mem_append] at hp
    exact Or.inr hp
  · obtain ⟨_, _, _, _, _, hz, hn⟩ := hW
    refine ⟨hok, _, _, ([] ++ pa) ++ pv, ⟨[] ++ pa, pv, trodAll_append (hargs _ (fun _ _ => rfl)) (hres _ _ _), hvars _ (fun _ _ => rfl), rfl, ?_, ?_⟩, ?_⟩
    · intro b off hp
      have hin : MemPlace.cell b off ∈ before := by rw [hps]; simpa using hp
      rw [hb.frozen (hlt _ hin)]
      exact hz b off hin
    · intro ha
      have := hn ha
      rw [hps] at this
      simpa using this
    · intro p hp _
      rw [hps]
      simpa using hp

variable {w : World} {base : Nat} {spare : Nat → Bool} {held : Bool}
/-- a slice of whatever element, as a list: every element's cells read by a function of its own. -/
theorem arr_of_trod {α : Type} [Inhabited α] {t e : TypeId} {size fuel : Nat} {cs : List Value} {x : DataW H × List MemPlace} {cell : α → Nat → Value} (ht : P.underlying t = some (.slice e)) (hC : P.cellsOf e = size) (hpos : 0 < size)
    (hel : ∀ (n : Nat) (cs' : List Value) (y : DataW H × List MemPlace), DataW.trod enc P w base spare held n e cs' = some y → ∃ x : α, ∀ j, j < size → cs'[j]? = some (cell x j))
    (h : DataW.trod enc P w base spare held fuel t cs = some x) : ∃ v l, cs = [v] ∧ Arr w w.heap.size size v l cell := by
  rcases open_slice ht h with ⟨h0, _⟩ | ⟨a, len, cap, m, n, D, Pl, hcs, hb, hl, hm, hmm, hx, hi⟩
  · exact ⟨_, [], h0, Arr.nil_⟩
  · have hlm : len ≤ m := by rw [hmm]; split <;> omega
    have hc : ∀ i, i < len → ∃ x : α, ∀ j, j < size → w.cell? (a.add (i * size + j)) = some (cell x j) := by
      intro i him
      obtain ⟨cs', h1, h2⟩ := hi i (by omega)
      obtain ⟨x, hx⟩ := hel _ _ _ h2
      rw [hC] at h1
      obtain ⟨_, hcl, hat⟩ := World.cells?_some h1
      refine ⟨x, fun j hj => ?_⟩
      rw [← Go.Deep.add_add, hat j hj]
      exact hx j hj
    have hf : ∀ i, ∃ x : α, i < len → ∀ j, j < size → w.cell? (a.add (i * size + j)) = some (cell x j) := by
      intro i
      by_cases hil : i < len
      · obtain ⟨x, hx⟩ := hc i hil
        exact ⟨x, fun _ => hx⟩
      · exact ⟨default, fun h => absurd h hil⟩
    let f := fun i => Classical.choose (hf i)
    have hf2 := fun i => Classical.choose_spec (hf i)
    refine ⟨_, (List.range len).map f, hcs, some a, cap, by simp, by simpa using hl, by simp only [maxLen] at hm; omega, ?_⟩
    intro hpos0
    have hpos1 : 0 < len := by simpa using hpos0
    have h00 := hf2 0 hpos1 0 hpos
    have hblk := World.block_lt_of_cell? _ _ h00
    obtain ⟨b, off, sel⟩ := a
    cases sel with
    | some s => exact absurd h00 (by simp [Addr.add, World.cell?]; split <;> simp)
    | none =>
      refine ⟨b, off, rfl, by simpa [Addr.add] using hblk, ?_⟩
      intro i x hx j hj
      simp only [List.getElem?_map, Option.map_eq_some_iff] at hx
      obtain ⟨i', hi', rfl⟩ := hx
      rw [List.getElem?_eq_some_iff] at hi'
      obtain ⟨hlt, rfl⟩ := hi'
      have := hf2 i (by simpa using hlt) j hj
      simp only [List.getElem_range]
      rw [← this]
      congr 1
      unfold Addr.add
      split
      · rename_i h0
        rw [Nat.add_assoc, h0]
        rfl
      · simp [Nat.add_assoc]

end

section
variable {H : Type} {enc : TypeId × Value → H} {P : Program} {w : World} {base : Nat} {spare : Nat → Bool} {held : Bool}
/-- a slice argument -/
theorem slice_arg {t e : TypeId} {v : Value} {d : DataW H} {p : List MemPlace} {r : Reach} {b0 : Nat} {Q : Value → Prop} (ht : P.underlying t = some (.slice e)) (hv : Value.okWide P w r b0 t v) (h : DataW.Trod enc P w base spare held t v d p)
    (hq : ∀ fuel x cs, DataW.trod enc P w base spare held fuel t cs = some x → ∃ v', cs = [v'] ∧ Q v') : Q v := by
  obtain ⟨a, l, c, rfl⟩ := okWide_slice ht hv
  obtain ⟨fuel, hf⟩ := h
  obtain ⟨v', hc, hQ⟩ := hq _ _ _ hf
  simp [Value.cells] at hc
  exact hc ▸ hQ
end

section
variable {H : Type} {enc : TypeId × Value → H} {w : World} {spare : Nat → Bool} {held : Bool} {fuel : Nat} {cs : List Value} {x : DataW H × List MemPlace}
theorem ints_arr {t e : TypeId} {k : IntKind} (ht : Try.prog.underlying t = some (.slice e)) (he : Try.prog.underlying e = some (.int k)) (hC : Try.prog.cellsOf e = 1)
    (h : DataW.trod enc Try.prog w 0 spare held fuel t cs = some x) : ∃ v l, cs = [v] ∧ Arr w w.heap.size 1 v l (fun (i : Int) _ => .int k i) := by
  refine arr_of_trod ht hC (by omega) ?_ h
  intro n cs' y hy
  obtain ⟨z, rfl, _⟩ := DataW.trod_int he hy
  refine ⟨z, fun j hj => ?_⟩
  have : j = 0 := by omega
  subst this
  rfl
theorem cells_int64 : Try.prog.cellsOf 2 = 1 := by kernel_rfl
theorem cells_int : Try.prog.cellsOf 3 = 1 := by kernel_rfl
theorem cells_bool : Try.prog.cellsOf 4 = 1 := by kernel_rfl
theorem cells_rng : Try.prog.cellsOf 24 = 2 := by kernel_rfl
theorem cells_end : Try.prog.cellsOf 59 = 3 := by kernel_rfl
theorem cells_ends : Try.prog.cellsOf 60 = 6 := by kernel_rfl
theorem cells_step : Try.prog.cellsOf 28 = 2 := by kernel_rfl
theorem cells_piece : Try.prog.cellsOf 62 = 7 := by kernel_rfl
theorem cells_pcs : Try.prog.cellsOf 22 = 1 := by kernel_rfl
theorem cells_cyl : Try.prog.cellsOf 26 = 4 := by kernel_rfl
theorem rng_of {n : Nat} {cs : List Value} {y : DataW H × List MemPlace} (hy : DataW.trod enc Try.prog w 0 spare held n 24 cs = some y) : ∃ a b : Int, cs = [.int .i64 a, .int .i64 b] := by
  obtain ⟨y0, y1, m, -, hl, h0, h1⟩ := trod_struct2 Try.underlying24 hy
  dsimp only at h0 h1
  rw [cells_int64] at h0 h1
  rw [cells_rng] at hl
  match cs, hl with
  | [c0, c1], _ =>
    obtain ⟨a, e0, -⟩ := DataW.trod_int (k := .i64) Try.underlying2 h0
    obtain ⟨b, e1, -⟩ := DataW.trod_int (k := .i64) Try.underlying2 h1
    simp at e0 e1
    exact ⟨a, b, by rw [e0, e1]⟩
theorem end_of {n : Nat} {cs : List Value} {y : DataW H × List MemPlace} (hy : DataW.trod enc Try.prog w 0 spare held n 59 cs = some y) : ∃ a b p : Int, cs = [.int .i64 a, .int .i64 b, .int .i64 p] := by
  obtain ⟨y0, y1, m, -, hl, h0, h1⟩ := trod_struct2 Try.underlying59 hy
  dsimp only at h0 h1
  rw [cells_rng] at h0
  rw [cells_int64] at h1
  rw [cells_end] at hl
  match cs, hl with
  | [c0, c1, c2], _ =>
    obtain ⟨a, b, e0⟩ := rng_of h0
    obtain ⟨p, e1, -⟩ := DataW.trod_int (k := .i64) Try.underlying2 h1
    simp at e0 e1
    exact ⟨a, b, p, by rw [e0.1, e0.2, e1]⟩
theorem ends_of {n : Nat} {cs : List Value} {y : DataW H × List MemPlace} (hy : DataW.trod enc Try.prog w 0 spare held n 60 cs = some y) :
    ∃ a b p a' b' p' : Int, cs = [.int .i64 a, .int .i64 b, .int .i64 p, .int .i64 a', .int .i64 b', .int .i64 p'] := by
  obtain ⟨xs, m, _, _, hl, hxl, hf⟩ := DataW.trod_array (e := 59) (n := 2) Try.underlying60 hy
  rw [cells_ends] at hl
  rw [cells_end] at hf
  match cs, hl with
  | [c0, c1, c2, c3, c4, c5], _ =>
    match xs, hxl with
    | [y0, y1], _ =>
      obtain ⟨a, b, p, e0⟩ := end_of (hf 0 (by omega))
      obtain ⟨a', b', p', e1⟩ := end_of (hf 1 (by omega))
      simp at e0 e1
      exact ⟨a, b, p, a', b', p', by rw [e0.1, e0.2.1, e0.2.2, e1.1, e1.2.1, e1.2.2]⟩
theorem pc_of {n : Nat} {cs : List Value} {y : DataW H × List MemPlace} (hy : DataW.trod enc Try.prog w 0 spare held n 62 cs = some y) : ∃ p : Pc, ∀ j, j < 7 → cs[j]? = some (pccell p j) := by
  obtain ⟨y0, y1, m, -, hl, h0, h1⟩ := trod_struct2 Try.underlying62 hy
  dsimp only at h0 h1
  rw [cells_ends] at h0
  rw [cells_bool] at h1
  rw [cells_piece] at hl
  match cs, hl with
  | [c0, c1, c2, c3, c4, c5, c6], _ =>
    obtain ⟨a, b, p, a', b', p', e0⟩ := ends_of h0
    obtain ⟨t, e1, -⟩ := DataW.trod_bool Try.underlying4 h1
    simp at e0 e1
    obtain ⟨rfl, rfl, rfl, rfl, rfl, rfl⟩ := e0
    subst e1
    refine ⟨⟨⟨a, b, p⟩, ⟨a', b', p'⟩, t⟩, fun j hj => ?_⟩
    have : j = 0 ∨ j = 1 ∨ j = 2 ∨ j = 3 ∨ j = 4 ∨ j = 5 ∨ j = 6 := by omega
    rcases this with rfl | rfl | rfl | rfl | rfl | rfl | rfl <;> rfl
theorem step_of {n : Nat} {cs : List Value} {y : DataW H × List MemPlace} (hy : DataW.trod enc Try.prog w 0 spare held n 28 cs = some y) : ∃ s : St, cs = [.int .i64 s.p, .bool s.t] := by
  obtain ⟨y0, y1, m, -, hl, h0, h1⟩ := trod_struct2 Try.underlying28 hy
  dsimp only at h0 h1
  rw [cells_int] at h0
  rw [cells_bool] at h1
  rw [cells_step] at hl
  match cs, hl with
  | [c0, c1], _ =>
    obtain ⟨p, e0, -⟩ := DataW.trod_int (k := .i64) Try.underlying3 h0
    obtain ⟨t, e1, -⟩ := DataW.trod_bool Try.underlying4 h1
    simp at e0 e1
    exact ⟨⟨p, t⟩, by rw [e0, e1]⟩
theorem steps_arr (h : DataW.trod enc Try.prog w 0 spare held fuel 29 cs = some x) : ∃ v l, cs = [v] ∧ Arr w w.heap.size 2 v l stcell :=
  arr_of_trod Try.underlying29 cells_step (by omega) (fun n cs' y hy => by
    obtain ⟨s, rfl⟩ := step_of hy
    refine ⟨s, fun j hj => ?_⟩
    have : j = 0 ∨ j = 1 := by omega
    rcases this with rfl | rfl <;> rfl) h
theorem pcs_arr (h : DataW.trod enc Try.prog w 0 spare held fuel 22 cs = some x) : ∃ v l, cs = [v] ∧ Arr w w.heap.size 7 v l pccell :=
  arr_of_trod Try.underlying22 cells_piece (by omega) (fun n cs' y hy => pc_of hy) h

set_option maxRecDepth 100000 in
theorem open_steps {v : Value} {d : DataW H} {p : List MemPlace} {r : Reach} {b0 : Nat} (hv : Value.okWide Try.prog w r b0 29 v) (h : DataW.Trod enc Try.prog w 0 spare held 29 v d p) : ∃ l, Arr w w.heap.size 2 v l stcell :=
  slice_arg (P := Try.prog) (Q := fun v => ∃ l, Arr w w.heap.size 2 v l stcell) Try.underlying29 hv h fun fuel x cs hx => by
    obtain ⟨v, l, e, ha⟩ := steps_arr hx
    exact ⟨v, e, l, ha⟩
set_option maxRecDepth 100000 in
theorem open_step {v : Value} {d : DataW H} {p : List MemPlace} {r : Reach} {b0 : Nat} (hv : Value.okWide Try.prog w r b0 28 v) (h : DataW.Trod enc Try.prog w 0 spare held 28 v d p) : ∃ x : St, v = stV2 x := by
  obtain ⟨cs, rfl, hsz⟩ := okWide_struct Try.underlying28 hv
  obtain ⟨fuel, hf⟩ := h
  obtain ⟨s, hs⟩ := step_of hf
  obtain ⟨l⟩ := cs
  have hs' : l = [.int .i64 s.p, .bool s.t] := by simpa [Value.cells] using hs
  subst hs'
  exact ⟨s, rfl⟩
set_option maxRecDepth 100000 in
theorem open_cyl {v : Value} {d : DataW H} {p : List MemPlace} {r : Reach} {b0 : Nat} (hv : Value.okWide Try.prog w r b0 26 v) (h : DataW.Trod enc Try.prog w 0 spare held 26 v d p) : ∃ c, CylV w w.heap.size v c := by
  obtain ⟨cs, rfl, hsz⟩ := okWide_struct Try.underlying26 hv
  rw [cells_cyl] at hsz
  obtain ⟨fuel, hf⟩ := h
  obtain ⟨y0, y1, y2, m, -, hl, h0, h1, h2⟩ := trod_struct3 Try.underlying26 hf
  dsimp only at h0 h1 h2
  rw [cells_pcs] at h0
  rw [cells_int64] at h1
  rw [cells_rng] at h2
  obtain ⟨l⟩ := cs
  have hl' : l.length = 4 := hsz
  match l, hl' with
  | [c0, c1, c2, c3], _ =>
    obtain ⟨pv, pl, e0, ha⟩ := pcs_arr h0
    obtain ⟨a, e1, -⟩ := DataW.trod_int (k := .i64) Try.underlying2 h1
    obtain ⟨b, b', e2⟩ := rng_of h2
    simp [Value.cells] at e0 e1 e2
    obtain ⟨rfl, rfl⟩ := e2
    subst e0 e1
    exact ⟨⟨pl, a, b, b'⟩, c0, rfl, ha⟩
set_option maxRecDepth 100000 in
/-- an argument reads behind the call as before it -/
theorem arg_stays {t : TypeId} {v : Value} {d : DataW H} {ps before : List MemPlace} {sp : Nat → Bool} {W W' : World} (hr : Try.prog.readableRec t = true) (hrow : t < Try.prog.types.size) (h : DataW.Trod enc Try.prog W 0 (fun _ => true) true t v d ps)
    (hb : Below W.heap.size W W') (hin : ∀ x ∈ ps, x ∈ before) (hlt : ∀ x ∈ before, x.block < W.heap.size) (hsp : ∀ p ∈ before, sp p.block = true) : DataW.Trod enc Try.prog W' 0 sp true t v d ps :=
  WideElems.Trod_stays (by kernel_rfl) hr hrow h (fun x hx => hb.same (hlt x (hin x hx))) (fun x hx => hsp x (hin x hx))
end

section
variable {H : Type} {enc : TypeId × Value → H} {P : Program} {w : World} {base : Nat} {spare : Nat → Bool} {held : Bool}
theorem trodAll_six {t t1 t2 t3 t4 t5 : TypeId} {args : Array Value} {ds : List (DataW H)} {ps : List MemPlace} (h : DataW.TrodAll enc P w base spare held [t, t1, t2, t3, t4, t5] args.toList ds ps) :
    ∃ v v1 v2 v3 v4 v5 d d1 d2 d3 d4 d5 p p1 p2 p3 p4 p5, args = #[v, v1, v2, v3, v4, v5] ∧ ds = [d, d1, d2, d3, d4, d5] ∧ ps = p ++ p1 ++ p2 ++ p3 ++ p4 ++ p5 ∧ DataW.Trod enc P w base spare held t v d p ∧ DataW.Trod enc P w base spare held t1 v1 d1 p1 ∧
      DataW.Trod enc P w base spare held t2 v2 d2 p2 ∧ DataW.Trod enc P w base spare held t3 v3 d3 p3 ∧ DataW.Trod enc P w base spare held t4 v4 d4 p4 ∧ DataW.Trod enc P w base spare held t5 v5 d5 p5 := by
  obtain ⟨v, vs, d, ds', p, q, hargs, rfl, rfl, hd, hr⟩ := trodAll_cons h
  obtain ⟨v1, vs1, d1, ds1, p1, q1, rfl, rfl, rfl, hd1, hr1⟩ := trodAll_cons hr
  obtain ⟨v2, vs2, d2, ds2, p2, q2, rfl, rfl, rfl, hd2, hr2⟩ := trodAll_cons hr1
  obtain ⟨v3, vs3, d3, ds3, p3, q3, rfl, rfl, rfl, hd3, hr3⟩ := trodAll_cons hr2
  obtain ⟨v4, vs4, d4, ds4, p4, q4, rfl, rfl, rfl, hd4, hr4⟩ := trodAll_cons hr3
  obtain ⟨v5, vs5, d5, ds5, p5, q5, rfl, rfl, rfl, hd5, hr5⟩ := trodAll_cons hr4
  obtain ⟨rfl, rfl, rfl⟩ := trodAll_nil hr5
  exact ⟨v, v1, v2, v3, v4, v5, d, d1, d2, d3, d4, d5, p, p1, p2, p3, p4, p5, by cases args; simp_all, rfl, by simp, hd, hd1, hd2, hd3, hd4, hd5⟩
end
end Go.Proofs.Ytjjjockfppomdaa
