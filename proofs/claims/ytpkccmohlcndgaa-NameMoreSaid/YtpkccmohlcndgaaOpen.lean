/- Opening the arguments of a statement: the values of the arguments as lists and numbers; the last step out of Below. -/
import Derived.Test.YtpkccmohlcndgaaLwFM
import Derived.Deep.Slices
import Derived.Deep.Fields
import Derived.ChangeSame
import Derived.Lib.SmallJoins
import Derived.Below
import Derived.Carry
namespace Go.Proofs.Ytpkccmohlcndgaa
open Go.RowKit Go.Shelf Go.Joins Go.ChangeShapes Go.WideShapes Go.Deep
set_option linter.unusedVariables false

section
variable {H : Type} {enc : TypeId × Value → H} {P : Program}
theorem last_of_below {f : Func} {s : ChangeSpec} {apart fresh handsOn again : Bool} {W W' : World} {args : Array Value} {v : Value} {ds gs : List (DataW H)} {before pa pv : List MemPlace}
    (hW : DataW.Whole enc P f.params.toList s.vars apart W args.toList ds gs before)
    (hres : ∀ (b : Nat) (sp : Nat → Bool) (hd : Bool), DataW.TrodAll enc P W' b sp hd f.resultTypes.toList (v.resultList f.resultTypes.size) (s.fn H (ds ++ gs)).results [])
    (hargs : ∀ sp : Nat → Bool, (∀ p ∈ before, sp p.block = true) → DataW.TrodAll enc P W' 0 sp true f.params.toList args.toList (s.fn H (ds ++ gs)).args pa)
    (hvars : ∀ sp : Nat → Bool, (∀ p ∈ before, sp p.block = true) → DataW.TrodVars enc P W' sp s.vars (s.fn H (ds ++ gs)).vars pv)
    (hps : before = pa ++ pv) (hb : Below W.heap.size W W')
    (hok : ∀ (j : Nat) (t : TypeId) (r : Value), f.resultTypes[j]? = some t → (v.resultList f.resultTypes.size)[j]? = some r → Value.okWide P W' .any 0 t r) :
    s.post enc P f apart fresh handsOn again W args v W' := by
  have hlt : ∀ p ∈ before, p.block < W.heap.size := fun p hp => hW.lt p hp
  have hold : ∀ p ∈ before, (fun b => decide (b < W.heap.size)) p.block = true := fun p hp => by simpa using hlt p hp
  refine ⟨ds, gs, before, [], pa, pv, hW, hres _ _ _, hargs _ hold, hvars _ hold, World.keptBut_mono (fun p hp => ⟨hp, ?_⟩) (hb.frame (· ∈ before)), fun _ => ?_⟩
  · rw [hps, List.mem_append] at hp
    exact Or.inr hp
  · obtain ⟨_, _, _, _, _, hz, hn⟩ := hW
    refine ⟨hok, _, _, ([] ++ pa) ++ pv, ⟨[] ++ pa, pv, trodAll_append (hargs _ (fun _ _ => rfl)) (hres _ _ _), hvars _ (fun _ _ => rfl), rfl, ?_, ?_⟩, ?_⟩
    · intro b off hp
      have hin : MemPlace.cell b off ∈ before := by rw [hps]; simpa using hp
      rw [hb.frozen (hlt _ hin)]
      exact hz b off hin
    · intro ha
      have := hn ha
      rw [hps] at this
      simpa using this
    · intro p hp _
      rw [hps]
      simpa using hp

variable {w : World} {base : Nat} {spare : Nat → Bool} {held : Bool}
/-- a slice of whatever element, as a list: every element's cells read by a function of its own. -/
theorem arr_of_trod {α : Type} [Inhabited α] {t e : TypeId} {size fuel : Nat} {cs : List Value} {x : DataW H × List MemPlace} {cell : α → Nat → Value} (ht : P.underlying t = some (.slice e)) (hC : P.cellsOf e = size) (hpos : 0 < size)
    (hel : ∀ (n : Nat) (cs' : List Value) (y : DataW H × List MemPlace), DataW.trod enc P w base spare held n e cs' = some y → ∃ x : α, ∀ j, j < size → cs'[j]? = some (cell x j))
    (h : DataW.trod enc P w base spare held fuel t cs = some x) : ∃ v l, cs = [v] ∧ Arr w w.heap.size size v l cell := by
  rcases open_slice ht h with ⟨h0, _⟩ | ⟨a, len, cap, m, n, D, Pl, hcs, hb, hl, hm, hmm, hx, hi⟩
  · exact ⟨_, [], h0, Arr.nil_⟩
  · have hlm : len ≤ m := by rw [hmm]; split <;> omega
    have hc : ∀ i, i < len → ∃ x : α, ∀ j, j < size → w.cell? (a.add (i * size + j)) = some (cell x j) := by
      intro i him
      obtain ⟨cs', h1, h2⟩ := hi i (by omega)
      obtain ⟨x, hx⟩ := hel _ _ _ h2
      rw [hC] at h1
      obtain ⟨_, hcl, hat⟩ := World.cells?_some h1
      refine ⟨x, fun j hj => ?_⟩
      rw [← Go.Deep.add_add, hat j hj]
      exact hx j hj
    have hf : ∀ i, ∃ x : α, i < len → ∀ j, j < size → w.cell? (a.add (i * size + j)) = some (cell x j) := by
      intro i
      by_cases hil : i < len
      · obtain ⟨x, hx⟩ := hc i hil
        exact ⟨x, fun _ => hx⟩
      · exact ⟨default, fun h => absurd h hil⟩
    let f := fun i => Classical.choose (hf i)
    have hf2 := fun i => Classical.choose_spec (hf i)
    refine ⟨_, (List.range len).map f, hcs, some a, cap, by simp, by simpa using hl, by simp only [maxLen] at hm; omega, ?_⟩
    intro hpos0
    have hpos1 : 0 < len := by simpa using hpos0
    have h00 := hf2 0 hpos1 0 hpos
    have hblk := World.block_lt_of_cell? _ _ h00
    obtain ⟨b, off, sel⟩ := a
    cases sel with
    | some s => exact absurd h00 (by simp [Addr.add, World.cell?]; split <;> simp)
    | none =>
      refine ⟨b, off, rfl, by simpa [Addr.add] using hblk, ?_⟩
      intro i x hx j hj
      simp only [List.getElem?_map, Option.map_eq_some_iff] at hx
      obtain ⟨i', hi', rfl⟩ := hx
      rw [List.getElem?_eq_some_iff] at hi'
      obtain ⟨hlt, rfl⟩ := hi'
      have := hf2 i (by simpa using hlt) j hj
      simp only [List.getElem_range]
      rw [← this]
      congr 1
      unfold Addr.add
      split
      · rename_i h0
        rw [Nat.add_assoc, h0]
        rfl
      · simp [Nat.add_assoc]

/-- a struct's fields, each one cell -/
theorem ints_of_struct {e : TypeId} {fs : Array Field} {n : Nat} {cs : List Value} {y : DataW H × List MemPlace} {k : IntKind} (he : P.underlying e = some (.struct fs)) (hone : oneCellFields P fs = true)
    (hk : ∀ (j : Nat) (f : Field), fs[j]? = some f → P.underlying f.type = some (.int k)) (hC : P.cellsOf e = fs.size) (h : DataW.trod enc P w base spare held n e cs = some y) : ∀ j, j < fs.size → ∃ z : Int, cs[j]? = some (.int k z) := by
  intro j hj
  obtain ⟨ys, n', hn', hy, hlen, hyl, hf⟩ := DataW.trod_struct he h
  rw [hC] at hlen
  have hjf : fs[j]? = some fs[j] := Array.getElem?_eq_getElem hj
  obtain ⟨ho, hk'⟩ := hone_of hone j _ hjf
  have h1 := hf j _ hjf
  rw [ho, hk'] at h1
  have hys : ys[j]? = some (ys[j]'(by omega)) := List.getElem?_eq_getElem (by omega)
  rw [hys] at h1
  obtain ⟨z, hz, _⟩ := DataW.trod_int (hk j _ hjf) h1
  refine ⟨z, ?_⟩
  have hl : j < cs.length := by omega
  rw [List.drop_eq_getElem_cons hl, List.take_succ_cons, List.take_zero] at hz
  have hz' : cs[j] = .int k z := (List.cons.inj hz).1
  rw [List.getElem?_eq_getElem hl, hz']
end

section
variable {H : Type} {enc : TypeId × Value → H} {P : Program} {w : World} {base : Nat} {spare : Nat → Bool} {held : Bool}
/-- a slice argument -/
theorem slice_arg {t e : TypeId} {v : Value} {d : DataW H} {p : List MemPlace} {r : Reach} {b0 : Nat} {Q : Value → Prop} (ht : P.underlying t = some (.slice e)) (hv : Value.okWide P w r b0 t v) (h : DataW.Trod enc P w base spare held t v d p)
    (hq : ∀ fuel x cs, DataW.trod enc P w base spare held fuel t cs = some x → ∃ v', cs = [v'] ∧ Q v') : Q v := by
  obtain ⟨a, l, c, rfl⟩ := okWide_slice ht hv
  obtain ⟨fuel, hf⟩ := h
  obtain ⟨v', hc, hQ⟩ := hq _ _ _ hf
  simp [Value.cells] at hc
  exact hc ▸ hQ
theorem agg_four {r : Reach} {b0 : Nat} {t : TypeId} {f0 f1 f2 f3 : Field} {v : Value} {d : DataW H} {p : List MemPlace} (hs : P.underlying t = some (.struct #[f0, f1, f2, f3])) (hone : oneCellFields P #[f0, f1, f2, f3] = true) (hC : P.cellsOf t = 4)
    (hv : Value.okWide P w r b0 t v) (h : DataW.Trod enc P w base spare held t v d p) :
    ∃ (v0 v1 v2 v3 : Value) (y0 y1 y2 y3 : DataW H × List MemPlace) (n : Nat), v = .agg #[v0, v1, v2, v3] ∧ d = .agg [y0.1, y1.1, y2.1, y3.1] ∧ p = y0.2 ++ (y1.2 ++ (y2.2 ++ y3.2)) ∧
      DataW.trod enc P w base spare held n f0.type [v0] = some y0 ∧ DataW.trod enc P w base spare held n f1.type [v1] = some y1 ∧ DataW.trod enc P w base spare held n f2.type [v2] = some y2 ∧ DataW.trod enc P w base spare held n f3.type [v3] = some y3 := by
  obtain ⟨cs, rfl, hsz⟩ := okWide_struct hs hv
  obtain ⟨l⟩ := cs
  match l, hsz.trans hC with
  | [c0, c1, c2, c3], _ =>
    obtain ⟨fuel, hf⟩ := h
    obtain ⟨xs, n, _, hx, _, hlen, hg⟩ := DataW.trod_struct hs hf
    obtain ⟨o0, k0⟩ := hone_of hone 0 f0 rfl
    obtain ⟨o1, k1⟩ := hone_of hone 1 f1 rfl
    obtain ⟨o2, k2⟩ := hone_of hone 2 f2 rfl
    obtain ⟨o3, k3⟩ := hone_of hone 3 f3 rfl
    match xs, hlen with
    | [y0, y1, y2, y3], _ =>
      simp only [Prod.mk.injEq] at hx
      exact ⟨c0, c1, c2, c3, y0, y1, y2, y3, n, rfl, by simpa using hx.1, by simpa using hx.2, by simpa [Value.cells, o0, k0] using hg 0 f0 rfl, by simpa [Value.cells, o1, k1] using hg 1 f1 rfl, by simpa [Value.cells, o2, k2] using hg 2 f2 rfl, by simpa [Value.cells, o3, k3] using hg 3 f3 rfl⟩
end

section
variable {H : Type} {enc : TypeId × Value → H} {w : World} {spare : Nat → Bool} {held : Bool} {fuel : Nat} {cs : List Value} {x : DataW H × List MemPlace}
theorem ints_arr {t e : TypeId} {k : IntKind} (ht : Try.prog.underlying t = some (.slice e)) (he : Try.prog.underlying e = some (.int k)) (hC : Try.prog.cellsOf e = 1)
    (h : DataW.trod enc Try.prog w 0 spare held fuel t cs = some x) : ∃ v l, cs = [v] ∧ Arr w w.heap.size 1 v l (fun (i : Int) _ => .int k i) := by
  refine arr_of_trod ht hC (by omega) ?_ h
  intro n cs' y hy
  obtain ⟨z, rfl, _⟩ := DataW.trod_int he hy
  refine ⟨z, fun j hj => ?_⟩
  have : j = 0 := by omega
  subst this
  rfl
theorem fields3 {fs : Array Field} {a b c : Field} (h : fs = #[a, b, c]) {p : Field → Prop} (ha : p a) (hb : p b) (hc : p c) : ∀ (j : Nat) (f : Field), fs[j]? = some f → p f := by
  subst h
  intro j f hj
  match j, hj with
  | 0, hj => simp at hj; exact hj ▸ ha
  | 1, hj => simp at hj; exact hj ▸ hb
  | 2, hj => simp at hj; exact hj ▸ hc
  | _ + 3, hj => simp at hj
theorem link_of {n : Nat} {cs' : List Value} {y : DataW H × List MemPlace} (hy : DataW.trod enc Try.prog w 0 spare held n 60 cs' = some y) : ∃ x : LkI, ∀ j, j < 3 → cs'[j]? = some (lkcell x j) := by
  have hi := ints_of_struct (k := .i64) Try.underlying60 (by kernel_rfl) (fields3 rfl Try.underlying3 Try.underlying3 Try.underlying2) (by kernel_rfl) hy
  obtain ⟨a, ha⟩ := hi 0 (by decide)
  obtain ⟨b, hb⟩ := hi 1 (by decide)
  obtain ⟨c, hc⟩ := hi 2 (by decide)
  refine ⟨⟨a, b, c⟩, fun j hj => ?_⟩
  have : j = 0 ∨ j = 1 ∨ j = 2 := by omega
  rcases this with rfl | rfl | rfl
  · exact ha
  · exact hb
  · exact hc
theorem links_arr (h : DataW.trod enc Try.prog w 0 spare held fuel 22 cs = some x) : ∃ v l, cs = [v] ∧ Arr w w.heap.size 3 v l lkcell :=
  arr_of_trod Try.underlying22 (by kernel_rfl : Try.prog.cellsOf 60 = 3) (by omega) (fun n cs' y hy => link_of hy) h
theorem cells_int : Try.prog.cellsOf 3 = 1 := by kernel_rfl
set_option maxRecDepth 100000 in
theorem open_ints {v : Value} {d : DataW H} {p : List MemPlace} {r : Reach} {b0 : Nat} (hv : Value.okWide Try.prog w r b0 23 v) (h : DataW.Trod enc Try.prog w 0 spare held 23 v d p) : ∃ l, Arr w w.heap.size 1 v l icell :=
  slice_arg (P := Try.prog) (Q := fun v => ∃ l, Arr w w.heap.size 1 v l icell) Try.underlying23 hv h fun fuel x cs hx => by
    obtain ⟨v, l, e, ha⟩ := ints_arr (k := .i64) Try.underlying23 Try.underlying3 cells_int hx
    exact ⟨v, e, l, ha⟩
set_option maxRecDepth 100000 in
theorem open_flow {v : Value} {d : DataW H} {p : List MemPlace} {r : Reach} {b0 : Nat} (hv : Value.okWide Try.prog w r b0 41 v) (h : DataW.Trod enc Try.prog w 0 spare held 41 v d p) : ∃ l, Arr w w.heap.size 1 v l icell :=
  slice_arg (P := Try.prog) (Q := fun v => ∃ l, Arr w w.heap.size 1 v l icell) Try.underlying41 hv h fun fuel x cs hx => by
    obtain ⟨v, l, e, ha⟩ := ints_arr (k := .i64) Try.underlying41 Try.underlying2 (by kernel_rfl) hx
    exact ⟨v, e, l, ha⟩
set_option maxRecDepth 100000 in
theorem open_nlist {v : Value} {d : DataW H} {p : List MemPlace} {r : Reach} {b0 : Nat} (hv : Value.okWide Try.prog w r b0 25 v) (h : DataW.Trod enc Try.prog w 0 spare held 25 v d p) : ∃ l, NLV w w.heap.size v l := by
  obtain ⟨v0, v1, v2, v3, y0, y1, y2, y3, n, rfl, rfl, rfl, h0, h1, h2, h3⟩ := agg_four Try.underlying25 (by kernel_rfl) (by kernel_rfl) hv h
  obtain ⟨z0, e0, _⟩ := DataW.trod_int (k := .i64) Try.underlying3 h0
  obtain ⟨kv, kl, e1, a1⟩ := links_arr h1
  obtain ⟨av, al, e2, a2⟩ := ints_arr (k := .i64) (e := 3) Try.underlying23 Try.underlying3 cells_int h2
  obtain ⟨bv, bl, e3, a3⟩ := ints_arr (k := .i64) (e := 3) Try.underlying23 Try.underlying3 cells_int h3
  simp at e0 e1 e2 e3
  subst e0 e1 e2 e3
  obtain ⟨A1, c1, rfl, -⟩ := id a1
  obtain ⟨A2, c2, rfl, -⟩ := id a2
  obtain ⟨A3, c3, rfl, -⟩ := id a3
  exact ⟨⟨z0, kl, al, bl⟩, A1, c1, A2, c2, A3, c3, rfl, a1, a2, a3⟩
set_option maxRecDepth 100000 in
theorem open_link {v : Value} {d : DataW H} {p : List MemPlace} {r : Reach} {b0 : Nat} (hv : Value.okWide Try.prog w r b0 60 v) (h : DataW.Trod enc Try.prog w 0 spare held 60 v d p) : ∃ x : LkI, v = .agg #[.int .i64 x.one, .int .i64 x.two, .int .i64 x.trust] := by
  obtain ⟨cs, rfl, hsz⟩ := okWide_struct Try.underlying60 hv
  obtain ⟨fuel, hf⟩ := h
  obtain ⟨x, hx⟩ := link_of hf
  have hsz' : cs.size = 3 := hsz.trans (by kernel_rfl)
  obtain ⟨l⟩ := cs
  have hl : l.length = 3 := hsz'
  match l, hl with
  | [a, b, c], _ =>
    have h0 := hx 0 (by omega)
    have h1 := hx 1 (by omega)
    have h2 := hx 2 (by omega)
    simp [Value.cells, lkcell] at h0 h1 h2
    exact ⟨x, by rw [h0, h1, h2]⟩
theorem nat_of_wf {k : IntKind} {n : Int} (M : Int) (hmin : k.min = 0) (hmax : k.max = M) (h : (Lit.int k n).wf = true) : ∃ b : Nat, (b : Int) ≤ M ∧ n = (b : Int) := by
  simp only [Lit.wf, Bool.and_eq_true, decide_eq_true_eq] at h
  rw [hmin, hmax] at h
  exact ⟨n.toNat, by omega, by omega⟩
set_option maxRecDepth 100000 in
theorem open_u64 {v : Value} {d : DataW H} {p : List MemPlace} {r : Reach} {b0 : Nat} (hv : Value.okWide Try.prog w r b0 52 v) (h : DataW.Trod enc Try.prog w 0 spare held 52 v d p) : ∃ b : Nat, b < 18446744073709551616 ∧ v = .int .u64 (b : Int) := by
  obtain ⟨z, rfl, -, -, hw⟩ := open_int (k := .u64) Try.underlying52 hv h
  obtain ⟨b, hb, rfl⟩ := nat_of_wf 18446744073709551615 rfl rfl hw
  exact ⟨b, by omega, rfl⟩
set_option maxRecDepth 100000 in
theorem open_u8 {v : Value} {d : DataW H} {p : List MemPlace} {r : Reach} {b0 : Nat} (hv : Value.okWide Try.prog w r b0 5 v) (h : DataW.Trod enc Try.prog w 0 spare held 5 v d p) : ∃ b : Nat, b < 256 ∧ v = .int .u8 (b : Int) := by
  obtain ⟨z, rfl, -, -, hw⟩ := open_int (k := .u8) Try.underlying5 hv h
  obtain ⟨b, hb, rfl⟩ := nat_of_wf 255 rfl rfl hw
  exact ⟨b, by omega, rfl⟩
set_option maxRecDepth 100000 in
theorem open_u32 {v : Value} {d : DataW H} {p : List MemPlace} {r : Reach} {b0 : Nat} (hv : Value.okWide Try.prog w r b0 61 v) (h : DataW.Trod enc Try.prog w 0 spare held 61 v d p) : ∃ b : Nat, b < 4294967296 ∧ v = .int .u32 (b : Int) := by
  obtain ⟨z, rfl, -, -, hw⟩ := open_int (k := .u32) Try.underlying61 hv h
  obtain ⟨b, hb, rfl⟩ := nat_of_wf 4294967295 rfl rfl hw
  exact ⟨b, by omega, rfl⟩
theorem okWide_array {P : Program} {w : World} {r : Reach} {base : Nat} {t e : TypeId} {n : Nat} {v : Value} (ht : P.underlying t = some (.array n e)) (h : Value.okWide P w r base t v) : ∃ cs, v = .agg cs ∧ cs.size = P.cellsOf t := by
  simp only [Value.okWide, ht] at h
  obtain ⟨cs, h1, h2, _⟩ := h
  exact ⟨cs, h1, h2⟩
set_option maxRecDepth 100000 in
theorem open_two {v : Value} {d : DataW H} {p : List MemPlace} {r : Reach} {b0 : Nat} (hv : Value.okWide Try.prog w r b0 56 v) (h : DataW.Trod enc Try.prog w 0 spare held 56 v d p) : ∃ a b : Nat, a < 18446744073709551616 ∧ b < 18446744073709551616 ∧ v = .agg #[.int .u64 (a : Int), .int .u64 (b : Int)] := by
  obtain ⟨cs, rfl, hsz⟩ := okWide_array Try.underlying56 hv
  obtain ⟨fuel, hf⟩ := h
  obtain ⟨xs, m, _, _, hl, hxl, hf⟩ := DataW.trod_array (e := 52) (n := 2) Try.underlying56 hf
  rw [show Try.prog.cellsOf 56 = 2 from by kernel_rfl] at hl
  rw [show Try.prog.cellsOf 52 = 1 from by kernel_rfl] at hf
  obtain ⟨l⟩ := cs
  have hl' : l.length = 2 := by simpa [Value.cells] using hl
  match l, hl' with
  | [a, b], _ =>
    match xs, hxl with
    | [y0, y1], _ =>
      obtain ⟨z0, hp, -, hw0⟩ := DataW.trod_int (k := .u64) Try.underlying52 (hf 0 (by omega))
      obtain ⟨z1, hq, -, hw1⟩ := DataW.trod_int (k := .u64) Try.underlying52 (hf 1 (by omega))
      simp [Value.cells] at hp hq
      obtain ⟨b0, hb0, rfl⟩ := nat_of_wf 18446744073709551615 rfl rfl hw0
      obtain ⟨b1, hb1, rfl⟩ := nat_of_wf 18446744073709551615 rfl rfl hw1
      exact ⟨b0, b1, by omega, by omega, by rw [hp, hq]⟩
set_option maxRecDepth 100000 in
/-- an argument reads behind the call as before it -/
theorem arg_stays {t : TypeId} {v : Value} {d : DataW H} {ps before : List MemPlace} {sp : Nat → Bool} {W W' : World} (hr : Try.prog.readableRec t = true) (hrow : t < Try.prog.types.size) (h : DataW.Trod enc Try.prog W 0 (fun _ => true) true t v d ps)
    (hb : Below W.heap.size W W') (hin : ∀ x ∈ ps, x ∈ before) (hlt : ∀ x ∈ before, x.block < W.heap.size) (hsp : ∀ p ∈ before, sp p.block = true) : DataW.Trod enc Try.prog W' 0 sp true t v d ps :=
  WideElems.Trod_stays (by kernel_rfl) hr hrow h (fun x hx => hb.same (hlt x (hin x hx))) (fun x hx => hsp x (hin x hx))
end

section
variable {H : Type} {enc : TypeId × Value → H} {P : Program} {w : World} {base : Nat} {spare : Nat → Bool} {held : Bool}
theorem trodAll_five {t t1 t2 t3 t4 : TypeId} {args : Array Value} {ds : List (DataW H)} {ps : List MemPlace} (h : DataW.TrodAll enc P w base spare held [t, t1, t2, t3, t4] args.toList ds ps) :
    ∃ v v1 v2 v3 v4 d d1 d2 d3 d4 p p1 p2 p3 p4, args = #[v, v1, v2, v3, v4] ∧ ds = [d, d1, d2, d3, d4] ∧ ps = p ++ (p1 ++ (p2 ++ (p3 ++ p4))) ∧ DataW.Trod enc P w base spare held t v d p ∧ DataW.Trod enc P w base spare held t1 v1 d1 p1 ∧
      DataW.Trod enc P w base spare held t2 v2 d2 p2 ∧ DataW.Trod enc P w base spare held t3 v3 d3 p3 ∧ DataW.Trod enc P w base spare held t4 v4 d4 p4 := by
  obtain ⟨v, vs, d, ds', p, q, hargs, rfl, rfl, hd, hr⟩ := trodAll_cons h
  obtain ⟨v1, vs1, d1, ds1, p1, q1, rfl, rfl, rfl, hd1, hr1⟩ := trodAll_cons hr
  obtain ⟨v2, vs2, d2, ds2, p2, q2, rfl, rfl, rfl, hd2, hr2⟩ := trodAll_cons hr1
  obtain ⟨v3, vs3, d3, ds3, p3, q3, rfl, rfl, rfl, hd3, hr3⟩ := trodAll_cons hr2
  obtain ⟨v4, vs4, d4, ds4, p4, q4, rfl, rfl, rfl, hd4, hr4⟩ := trodAll_cons hr3
  obtain ⟨rfl, rfl, rfl⟩ := trodAll_nil hr4
  exact ⟨v, v1, v2, v3, v4, d, d1, d2, d3, d4, p, p1, p2, p3, p4, by cases args; simp_all, rfl, by simp, hd, hd1, hd2, hd3, hd4⟩
end
end Go.Proofs.Ytpkccmohlcndgaa
