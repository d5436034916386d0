/- Opening the arguments of a statement: the values of the arguments as lists and numbers; the last step out of Below. -/
import Derived.Test.YtbcpmmpakkaidaaGreatWoA
import Derived.Deep.Slices
import Derived.Deep.Fields
import Derived.ChangeSame
import Derived.Lib.SmallJoins
import Derived.Below
import Derived.Carry
namespace Go.Proofs.YtbcpmmpakkaidaaGreat
open Go.RowKit Go.Shelf Go.Joins Go.ChangeShapes Go.WideShapes Go.Deep
set_option linter.unusedVariables false
section
variable {H : Type} {enc : TypeId × Value → H} {P : Program}
theorem last_of_below {f : Func} {s : ChangeSpec} {apart fresh handsOn again : Bool} {W W' : World} {args : Array Value} {v : Value} {ds gs : List (DataW H)} {before pa pv : List MemPlace}
    (hW : DataW.Whole enc P f.params.toList s.vars apart W args.toList ds gs before)
    (hres : ∀ (b : Nat) (sp : Nat → Bool) (hd : Bool), DataW.TrodAll enc P W' b sp hd f.resultTypes.toList (v.resultList f.resultTypes.size) (s.fn H (ds ++ gs)).results [])
    (hargs : ∀ sp : Nat → Bool, (∀ p ∈ before, sp p.block = true) → DataW.TrodAll enc P W' 0 sp true f.params.toList args.toList (s.fn H (ds ++ gs)).args pa)
    (hvars : ∀ sp : Nat → Bool, (∀ p ∈ before, sp p.block = true) → DataW.TrodVars enc P W' sp s.vars (s.fn H (ds ++ gs)).vars pv)
    (hps : before = pa ++ pv) (hb : Below W.heap.size W W')
    (hok : ∀ (j : Nat) (t : TypeId) (r : Value), f.resultTypes[j]? = some t → (v.resultList f.resultTypes.size)[j]? = some r → Value.okWide P W' .any 0 t r) :
    s.post enc P f apart fresh handsOn again W args v W' := by
  have hlt : ∀ p ∈ before, p.block < W.heap.size := fun p hp => hW.lt p hp
  have hold : ∀ p ∈ before, (fun b => decide (b < W.heap.size)) p.block = true := fun p hp => by simpa using hlt p hp
  refine ⟨ds, gs, before, [], pa, pv, hW, hres _ _ _, hargs _ hold, hvars _ hold, World.keptBut_mono (fun p hp => ⟨hp, ?_⟩) (hb.frame (· ∈ before)), fun _ => ?_⟩
  · rw [hps, List.mem_append] at hp
    exact Or.inr hp
  · obtain ⟨_, _, _, _, _, hz, hn⟩ := hW
    refine ⟨hok, _, _, ([] ++ pa) ++ pv, ⟨[] ++ pa, pv, trodAll_append (hargs _ (fun _ _ => rfl)) (hres _ _ _), hvars _ (fun _ _ => rfl), rfl, ?_, ?_⟩, ?_⟩
    · intro b off hp
      have hin : MemPlace.cell b off ∈ before := by rw [hps]; simpa using hp
      rw [hb.frozen (hlt _ hin)]
      exact hz b off hin
    · intro ha
      have := hn ha
      rw [hps] at this
      simpa using this
    · intro p hp _
      rw [hps]
      simpa using hp
variable {w : World} {base : Nat} {spare : Nat → Bool} {held : Bool}
/-- a slice of whatever element, as a list: every element's cells read by a function of its own. -/
theorem arr_of_trod {α : Type} [Inhabited α] {t e : TypeId} {size fuel : Nat} {cs : List Value} {x : DataW H × List MemPlace} {cell : α → Nat → Value} (ht : P.underlying t = some (.slice e)) (hC : P.cellsOf e = size) (hpos : 0 < size)
    (hel : ∀ (n : Nat) (cs' : List Value) (y : DataW H × List MemPlace), DataW.trod enc P w base spare held n e cs' = some y → ∃ x : α, ∀ j, j < size → cs'[j]? = some (cell x j))
    (h : DataW.trod enc P w base spare held fuel t cs = some x) : ∃ v l, cs = [v] ∧ Arr w w.heap.size size v l cell := by
  rcases open_slice ht h with ⟨h0, _⟩ | ⟨a, len, cap, m, n, D, Pl, hcs, hb, hl, hm, hmm, hx, hi⟩
  · exact ⟨_, [], h0, Arr.nil_⟩
  · have hlm : len ≤ m := by rw [hmm]; split <;> omega
    have hc : ∀ i, i < len → ∃ x : α, ∀ j, j < size → w.cell? (a.add (i * size + j)) = some (cell x j) := by
      intro i him
      obtain ⟨cs', h1, h2⟩ := hi i (by omega)
      obtain ⟨x, hx⟩ := hel _ _ _ h2
      rw [hC] at h1
      obtain ⟨_, hcl, hat⟩ := World.cells?_some h1
      refine ⟨x, fun j hj => ?_⟩
      rw [← Go.Deep.add_add, hat j hj]
      exact hx j hj
    have hf : ∀ i, ∃ x : α, i < len → ∀ j, j < size → w.cell? (a.add (i * size + j)) = some (cell x j) := by
      intro i
      by_cases hil : i < len
      · obtain ⟨x, hx⟩ := hc i hil
        exact ⟨x, fun _ => hx⟩
      · exact ⟨default, fun h => absurd h hil⟩
    let f := fun i => Classical.choose (hf i)
    have hf2 := fun i => Classical.choose_spec (hf i)
    refine ⟨_, (List.range len).map f, hcs, some a, cap, by simp, by simpa using hl, by simp only [maxLen] at hm; omega, ?_⟩
    intro hpos0
    have hpos1 : 0 < len := by simpa using hpos0
    have h00 := hf2 0 hpos1 0 hpos
    have hblk := World.block_lt_of_cell? _ _ h00
    obtain ⟨b, off, sel⟩ := a
    cases sel with
    | some s => exact absurd h00 (by simp [Addr.add, World.cell?]; split <;> simp)
    | none =>
      refine ⟨b, off, rfl, by simpa [Addr.add] using hblk, ?_⟩
      intro i x hx j hj
      simp only [List.getElem?_map, Option.map_eq_some_iff] at hx
      obtain ⟨i', hi', rfl⟩ := hx
      rw [List.getElem?_eq_some_iff] at hi'
      obtain ⟨hlt, rfl⟩ := hi'
      have := hf2 i (by simpa using hlt) j hj
      simp only [List.getElem_range]
      rw [← this]
      congr 1
      unfold Addr.add
      split
      · rename_i h0
        rw [Nat.add_assoc, h0]
        rfl
      · simp [Nat.add_assoc]
end
section
variable {H : Type} {enc : TypeId × Value → H} {P : Program} {w : World} {base : Nat} {spare : Nat → Bool} {held : Bool}
end
section
variable {H : Type} {enc : TypeId × Value → H} {w : World} {spare : Nat → Bool} {held : Bool} {fuel : Nat} {cs : List Value} {x : DataW H × List MemPlace}
theorem cells_int : Tryz.prog.cellsOf 3 = 1 := by kernel_rfl
theorem cells_u8 : Tryz.prog.cellsOf 5 = 1 := by kernel_rfl
theorem cells_pair : Tryz.prog.cellsOf 33 = 2 := by kernel_rfl
theorem cells_book : Tryz.prog.cellsOf 24 = 1 := by kernel_rfl
theorem cells_likes : Tryz.prog.cellsOf 22 = 1 := by kernel_rfl
theorem okWide_array {P : Program} {w : World} {r : Reach} {base : Nat} {t e : TypeId} {n : Nat} {v : Value} (ht : P.underlying t = some (.array n e)) (h : Value.okWide P w r base t v) : ∃ cs, v = .agg cs ∧ cs.size = P.cellsOf t := by
  simp only [Value.okWide, ht] at h
  obtain ⟨cs, h1, h2, _⟩ := h
  exact ⟨cs, h1, h2⟩
theorem byte_of {n : Nat} {cs' : List Value} {y : DataW H × List MemPlace} (hy : DataW.trod enc Tryz.prog w 0 spare held n 5 cs' = some y) : ∃ x : Fin 256, cs' = [.int .u8 x.val] := by
  obtain ⟨z, rfl, _, hw⟩ := DataW.trod_int (k := .u8) Tryz.underlying5 hy
  have h2 : 0 ≤ z ∧ z < 256 := by
    have e1 : IntKind.u8.min = 0 := rfl
    have e2 : IntKind.u8.max = 255 := rfl
    simp only [Lit.wf, e1, e2, Bool.and_eq_true, decide_eq_true_eq] at hw
    omega
  exact ⟨⟨z.toNat, by omega⟩, by congr 1; simp; congr 1; omega⟩
theorem pair_of {n : Nat} {cs' : List Value} {y : DataW H × List MemPlace} (hy : DataW.trod enc Tryz.prog w 0 spare held n 33 cs' = some y) : ∃ x : Int × Int, cs' = [.int .i64 x.1, .int .i64 x.2] := by
  obtain ⟨xs, m, _, _, hl, hxl, hf⟩ := DataW.trod_array (e := 3) (n := 2) Tryz.underlying33 hy
  rw [cells_pair] at hl
  rw [cells_int] at hf
  match cs', hl with
  | [a, b], _ =>
    match xs, hxl with
    | [y0, y1], _ =>
      obtain ⟨p, hp, -⟩ := DataW.trod_int (k := .i64) Tryz.underlying3 (hf 0 (by omega))
      obtain ⟨q, hq, -⟩ := DataW.trod_int (k := .i64) Tryz.underlying3 (hf 1 (by omega))
      simp at hp hq
      exact ⟨(p, q), by rw [hp, hq]⟩
theorem two8_of {n : Nat} {cs' : List Value} {y : DataW H × List MemPlace} (hy : DataW.trod enc Tryz.prog w 0 spare held n 25 cs' = some y) : ∃ a b : Fin 256, cs' = [.int .u8 a.val, .int .u8 b.val] := by
  obtain ⟨xs, m, _, _, hl, hxl, hf⟩ := DataW.trod_array (e := 5) (n := 2) Tryz.underlying25 hy
  rw [show Tryz.prog.cellsOf 25 = 2 from by kernel_rfl] at hl
  rw [cells_u8] at hf
  match cs', hl with
  | [a, b], _ =>
    match xs, hxl with
    | [y0, y1], _ =>
      obtain ⟨p, hp⟩ := byte_of (hf 0 (by omega))
      obtain ⟨q, hq⟩ := byte_of (hf 1 (by omega))
      simp at hp hq
      exact ⟨p, q, by rw [hp, hq]⟩
set_option maxRecDepth 100000 in
theorem open_two8 {v : Value} {d : DataW H} {p : List MemPlace} {r : Reach} {b0 : Nat} (hv : Value.okWide Tryz.prog w r b0 25 v) (h : DataW.Trod enc Tryz.prog w 0 spare held 25 v d p) : ∃ x : Fin 256 × Fin 256, v = .agg #[.int .u8 x.1.val, .int .u8 x.2.val] := by
  obtain ⟨cs, rfl, hsz⟩ := okWide_array Tryz.underlying25 hv
  obtain ⟨fuel, hf⟩ := h
  obtain ⟨a, b, hs⟩ := two8_of hf
  obtain ⟨l⟩ := cs
  have hs' : l = [.int .u8 a.val, .int .u8 b.val] := by simpa [Value.cells] using hs
  subst hs'
  exact ⟨(a, b), rfl⟩
theorem likes_arr (h : DataW.trod enc Tryz.prog w 0 spare held fuel 22 cs = some x) : ∃ v l, cs = [v] ∧ Arr w w.heap.size 2 v l p2cell :=
  arr_of_trod Tryz.underlying22 cells_pair (by omega) (fun n cs' y hy => by
    obtain ⟨p, rfl⟩ := pair_of hy
    refine ⟨p, fun j hj => ?_⟩
    have : j = 0 ∨ j = 1 := by omega
    rcases this with rfl | rfl <;> rfl) h
set_option maxRecDepth 100000 in
theorem open_book {v : Value} {d : DataW H} {p : List MemPlace} {r : Reach} {b0 : Nat} (hv : Value.okWide Tryz.prog w r b0 24 v) (h : DataW.Trod enc Tryz.prog w 0 spare held 24 v d p) : ∃ c, BookV w w.heap.size v c := by
  obtain ⟨cs, rfl, hsz⟩ := okWide_struct Tryz.underlying24 hv
  rw [cells_book] at hsz
  obtain ⟨fuel, hf⟩ := h
  obtain ⟨y0, m, -, hl, h0⟩ := trod_struct1 Tryz.underlying24 hf
  dsimp only at h0
  rw [cells_likes] at h0
  obtain ⟨l⟩ := cs
  have hl' : l.length = 1 := hsz
  match l, hl' with
  | [c0], _ =>
    obtain ⟨pv, pl, e0, ha⟩ := likes_arr h0
    simp [Value.cells] at e0
    subst e0
    exact ⟨pl, c0, rfl, ha⟩
set_option maxRecDepth 100000 in
/-- an argument reads behind the call as before it -/
theorem arg_stays {t : TypeId} {v : Value} {d : DataW H} {ps before : List MemPlace} {sp : Nat → Bool} {W W' : World} (hr : Tryz.prog.readableRec t = true) (hrow : t < Tryz.prog.types.size) (h : DataW.Trod enc Tryz.prog W 0 (fun _ => true) true t v d ps)
    (hb : Below W.heap.size W W') (hin : ∀ x ∈ ps, x ∈ before) (hlt : ∀ x ∈ before, x.block < W.heap.size) (hsp : ∀ p ∈ before, sp p.block = true) : DataW.Trod enc Tryz.prog W' 0 sp true t v d ps :=
  WideElems.Trod_stays (by kernel_rfl) hr hrow h (fun x hx => hb.same (hlt x (hin x hx))) (fun x hx => hsp x (hin x hx))
end
section
variable {H : Type} {enc : TypeId × Value → H} {P : Program} {w : World} {base : Nat} {spare : Nat → Bool} {held : Bool}
end
end Go.Proofs.YtbcpmmpakkaidaaGreat
