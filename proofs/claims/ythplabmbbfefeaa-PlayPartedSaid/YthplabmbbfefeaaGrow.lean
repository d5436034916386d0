/- Lists that grow behind fields of structs of the call's own: one second cylinder, or two. -/
import Derived.Test.YthplabmbbfefeaaPlan
import Derived.Test.YthplabmbbfefeaaPlayH
import Derived.Test.YthplabmbbfefeaaWays
import Derived.Test.YthplabmbbfefeaaOut
import Derived.Test.YthplabmbbfefeaaLawB
import Derived.Test.YthplabmbbfefeaaEnds
import Derived.Laws.OwnMore
namespace Go.Proofs.Ythplabmbbfefeaa
open Go.RowKit Go.Shelf
set_option linter.unusedVariables false

/-- the cylinder's own box lies at g0, a second one at g1 > g0; its field 3 holds a row of the call's own -/
structure MInv (wc : World) (g0 g1 : Nat) (c : Cyl) (fa : Option Addr) (fc : Nat) (pa : Option Addr) (pc : Nat) (L : List Int) (A : Option Addr) (cap : Nat) (wr : World) : Prop where
  cb : CB wr g0 g0 c fa fc pa pc
  x : Blk wr g1 25 #[.int .i64 c.turns, .int .i64 c.long, .int .i64 c.plays, .slice A L.length cap, .slice pa c.pas.length pc]
  own : wr.ownsRow wc.heap.size 3 1 (.slice A L.length cap) L.length (L.flatMap (cellsOf 1 icell))
  gr : wc.grownBy wr (some g1)
  lo : g0 < g1
  hi : g1 < wc.heap.size

section
variable {wc wr : World} {g0 g1 : Nat} {c : Cyl} {fa : Option Addr} {fc : Nat} {pa : Option Addr} {pc : Nat} {L : List Int} {A : Option Addr} {cap : Nat}
theorem MInv.drew (h : MInv wc g0 g1 c fa fc pa pc L A cap wr) : MInv wc g0 g1 c fa fc pa pc L A cap wr.drew :=
  ⟨h.cb.drew, h.x.drew, h.own, ⟨h.gr.os, h.gr.tape, h.gr.output, h.gr.size, h.gr.block⟩, h.lo, h.hi⟩
theorem MInv.fx (h : MInv wc g0 g1 c fa fc pa pc L A cap wr) : wr.cell? ⟨g1, 3, none⟩ = some (.slice A L.length cap) := by
  have := h.x.cell 3
  simpa using this
theorem MInv.app (h : MInv wc g0 g1 c fa fc pa pc L A cap wr) {w4 : World} {v' : Value} {y : Int} (hb4 : Below wc.heap.size wr w4)
    (hown : w4.ownsRow wc.heap.size 3 1 v' (L.length + 1) (L.flatMap (cellsOf 1 icell) ++ (#[.int .i64 y] : Array Value).toList)) :
    ∃ A' cap', v' = .slice A' (L.length + 1) cap' ∧ w4.cell? ⟨g1, 3, none⟩ = some (.slice A L.length cap) ∧ (∀ i, w4.frozen? ⟨g1, i, none⟩ = false) ∧
      MInv wc g0 g1 c fa fc pa pc (L ++ [y]) A' cap' (w4.setCell ⟨g1, 3, none⟩ (.slice A' (L.length + 1) cap')) := by
  have hLL : (L ++ [y]).length = L.length + 1 := by simp
  have hown5 := own_snoc (cell := icell) (x := y) rfl (by rfl) hown
  obtain ⟨A', cap', rfl⟩ := own_form hown5
  have hx4 : Blk w4 g1 _ _ := h.x.below hb4 h.hi
  have hs := hx4.set_ 3 (.slice A' (L ++ [y]).length cap')
  have hgr4 : wc.grownBy w4 (some g1) := ⟨hb4.os.trans h.gr.os, hb4.tape.trans h.gr.tape, hb4.output.trans h.gr.output, Nat.le_trans h.gr.size hb4.size, fun k hk hr => (hb4.block k hk).trans (h.gr.block k hk hr)⟩
  have hC4 := h.cb.belowB hb4 (Nat.lt_trans h.lo h.hi)
  rw [← hLL]
  refine ⟨A', cap', rfl, by have := hx4.cell 3; simpa using this, fun i => hx4.frozen i, ?_, by simpa using hs, hown5.kept (grown_setCell _) (.inr fun e => own_blk_ne hown5 hx4 (by decide) e.symm), grown_trans' hgr4 (grown_setCell _), h.lo, h.hi⟩
  exact hC4.belowB ((Below.refl (g0 + 1) w4).setCell (p := ⟨g1, 3, none⟩) h.lo _) (Nat.lt_succ_self _)
end
/-- a list of numbers in memory, cell by cell -/
theorem row_cell2 {w : World} {B n c : Nat} {A : Option Addr} {l : List Int} (h : Arr w B 1 (.slice A n c) l icell) {k : Nat} (hk : k < l.length) :
    ∃ b off x, A = some ⟨b, off, none⟩ ∧ b < B ∧ l[k]? = some x ∧ w.cell? ⟨b, off + k, none⟩ = some (.int .i64 x) := by
  obtain ⟨b, off, x, h1, h2, h3, h4⟩ := h.at_ hk
  have := h4 0 (by omega)
  rw [Nat.mul_one] at this
  exact ⟨b, off, x, h1, h2, h3, this⟩
theorem MInv.frc {wc wr : World} {g0 g1 : Nat} {c : Cyl} {fb fo : Nat} {fc : Nat} {pa : Option Addr} {pc : Nat} {L : List Int} {A : Option Addr} {cap : Nat} (h : MInv wc g0 g1 c (some ⟨fb, fo, none⟩) fc pa pc L A cap wr) {k : Nat} {x : Int} (hx : c.frag[k]? = some x) :
    wr.cell? ⟨fb, fo + k, none⟩ = some (.int .i64 x) := by
  obtain ⟨b, off, y, h1, h2, h3, h4⟩ := row_cell2 h.cb.fr (List.getElem?_eq_some_iff.1 hx).1
  injection h1 with h1
  injection h1 with h1 h5
  subst h1 h5
  rw [hx] at h3
  injection h3 with h3
  subst h3
  exact h4
theorem insF_ge {t x : Int} {r : List Int} (h : t < x) : insF t (x :: r) = t :: x :: r := by
  rw [insF, if_pos (by omega), if_pos h]
theorem insF_at {t x : Int} {r : List Int} (h : t ≤ x) (h2 : ¬ t < x) : insF t (x :: r) = x :: r := by
  rw [insF, if_pos h, if_neg h2]
theorem insF_lt {t x : Int} {r : List Int} (h : ¬ t ≤ x) : insF t (x :: r) = x :: insF t r := by
  rw [insF, if_neg h]

theorem slT_pas : SlT 23 49 3 24 (.agg #[.int .i64 0, .int .i64 0, .int .i64 0]) := ⟨Try.underlying23, by kernel_rfl, rfl, by omega⟩

theorem append_none {w : World} (base : Nat) (t ty e : TypeId) (i : TypeInfo) (size c : Nat) (ht : Try.prog.underlying t = some (.slice e)) (hi : Try.prog.info? e = some i)
    (v : Value) (n : Nat) (xs : List Value) (hown : w.ownsRow base e size v n xs) :
    (Builtin.append_ #[t, t] ty #[v, .slice none 0 c]).run Try.prog w = .ok v w := by
  rcases hown.2 with ⟨rfl, rfl⟩ | ⟨g, cap, cur, rfl, _, _, hnc, _⟩
  · simp [Builtin.append_, run_underlying ht, sizeOf, typeInfo, hi, Builtin.lenOf, Builtin.firstCells]
  · simp [Builtin.append_, run_underlying ht, sizeOf, typeInfo, hi, Builtin.lenOf, Builtin.firstCells, hnc, storeCells]

theorem wpList_appArr {α : Type} {W : World} {ops : Array Oper} {rest : List Oper} {o : Oper} {a : Act} {Q : Exit → Act → World → Prop} {t e size bytes : Nat} {z : Value} (hT : SlT t e size bytes z)
    (hgd : o.guard = none) (s x : Operand) (ho : o.op = .call { callee := .builtin .append, args := #[s, x], argTypes := #[t, t] })
    {base n c B : Nat} {sv : Value} {xs : List Value} {A : Option Addr} {l : List α} {cell : α → Nat → Value} (hs : a.eval s = sv) (hown : W.ownsRow base e size sv n xs)
    (hx : a.eval x = .slice A l.length c) (harr : Arr W B size (.slice A l.length c) l cell) (h1 : ∀ u ∈ l.flatMap (cellsOf size cell), u.oneCell' = true) (hbase : base ≤ W.heap.size)
    (h63 : n + l.length ≤ 1048576) (hby : bytes ≤ 1024)
    (h : ∀ v' w', w'.ownsRow base e size v' (n + l.length) (xs ++ l.flatMap (cellsOf size cell)) → Below base W w' → W.grownBy w' sv.ownBlock → wpList Try.prog ops Q rest (a.put o.dst v') w') :
    wpList Try.prog ops Q (o :: rest) a W := by
  obtain ⟨A', c', hv, hb1, hb2, hb3⟩ := harr
  injection hv with hA _ hc
  subst hA hc
  cases A with
  | none =>
    have hl : l.length = 0 := by
      rcases Nat.eq_zero_or_pos l.length with h0 | h0
      · exact h0
      · obtain ⟨b, off, hh, _⟩ := hb3 h0
        cases hh
    have hnil : l = [] := List.length_eq_zero_iff.1 hl
    subst hnil
    obtain ⟨hT1, hT2, hT3, hT4⟩ := hT
    obtain ⟨i0, hi, hz0, hz1, hz2⟩ := info_parts hT2
    refine wpList_plain hgd fun _ hK => ?_
    have hr := append_none (w := W) base t o.type e i0 size c hT1 hi sv n xs hown
    unfold Oper.wp execOp
    simp only [List.length_nil] at hx
    simp only [ho, resolve, invoke, builtin, Sem.run_bind, Sem.run_pure, Result.andThen_ok, List.map_toArray, List.map_cons, List.map_nil, hs, hx, hr]
    exact hK _ _ (h sv W (by simpa using hown) (Below.refl _ _) (World.grownBy.refl _ _))
  | some ad =>
    refine wpList_appM hT hgd s x ho hs hown ad hx (l.flatMap (cellsOf size cell)) (flat_len size cell l) ?_ h1 hbase h63 hby fun v' w' k1 k2 k3 => h v' w' k1 k2 k3
    intro j u hu
    have hj := (List.getElem?_eq_some_iff.1 hu).1
    rw [flat_len] at hj
    have hpos : 0 < l.length := by
      rcases Nat.eq_zero_or_pos l.length with h0 | h0
      · rw [h0] at hj; simp at hj
      · exact h0
    have hsz : 0 < size := by
      rcases Nat.eq_zero_or_pos size with h0 | h0
      · rw [h0] at hj; simp at hj
      · exact h0
    obtain ⟨b, off, hh, hb, hcell⟩ := hb3 hpos
    injection hh with hh
    subst hh
    have hi : j / size < l.length := Nat.div_lt_of_lt_mul (by rw [Nat.mul_comm]; exact hj)
    have hm : j % size < size := Nat.mod_lt _ hsz
    have hdm : j / size * size + j % size = j := by rw [Nat.mul_comm]; exact Nat.div_add_mod j size
    have h2 := flat_get size cell l (j / size) _ (List.getElem?_eq_getElem hi) (j % size) hm
    rw [hdm, hu] at h2
    injection h2 with h2
    have h3 := hcell (j / size) _ (List.getElem?_eq_getElem hi) (j % size) hm
    rw [h2]
    have ha : (⟨b, off, none⟩ : Addr).add j = ⟨b, off + j / size * size + j % size, none⟩ := by
      unfold Addr.add
      split
      · rename_i h0
        simp only [Addr.mk.injEq, and_true, true_and]
        omega
      · simp only [Addr.mk.injEq, and_true, true_and]
        omega
    rw [ha]
    exact h3

theorem own_empty (w : World) (base : Nat) (e : TypeId) (size : Nat) (hb : base ≤ w.heap.size) : (w.alloc (.cells #[] e)).ownsRow base e size (.slice (some ⟨w.heap.size, 0, none⟩) 0 0) 0 [] := by
  have := World.ownsRow_lit (base := base) (e := e) (size := size) w #[] 0 hb (by simp) (by simp)
  simpa using this
theorem one_pas (l : List Pas) : ∀ u ∈ l.flatMap (cellsOf 3 pcell), u.oneCell' = true := by
  intro u hu
  simp only [List.mem_flatMap, cellsOf, List.mem_map, List.mem_range] at hu
  obtain ⟨p, _, j, hj, rfl⟩ := hu
  have : j = 0 ∨ j = 1 ∨ j = 2 := by omega
  rcases this with rfl | rfl | rfl <;> rfl
theorem Arr.one3 {w : World} {g : Nat} {p : Pas} (h : Blk w g 49 #[.int .i64 p.a, .int .i64 p.b, .int .i64 p.w]) : Arr w w.heap.size 3 (.slice (some ⟨g, 0, none⟩) [p].length 1) [p] pcell :=
  Arr.lit h h.lt rfl (by simp) (by omega) rfl
theorem ne_own {b g n cap : Nat} (h : b ≠ g) : some b ≠ (Value.slice (some ⟨g, 0, none⟩) n cap).ownBlock := fun e => h (by simpa [Value.ownBlock] using e)
section
variable {w : World} {c : Cyl} {fa pa A : Option Addr} {fc pc cap : Nat}
theorem cyl_moreF {t : Int} (hf : Arr w w.heap.size 1 (.slice A (insF t c.frag).length cap) (insF t c.frag) icell) (hp : Arr w w.heap.size 3 (.slice pa c.pas.length pc) c.pas pcell) :
    CylV w w.heap.size (.agg #[.int .i64 c.turns, .int .i64 c.long, .int .i64 c.plays, .slice A (insF t c.frag).length cap, .slice pa c.pas.length pc]) (moreF c t) := ⟨_, _, rfl, hf, hp⟩
theorem cyl_lessL {m : Int} (hf : Arr w w.heap.size 1 (.slice fa c.frag.length fc) c.frag icell) (hp : Arr w w.heap.size 3 (.slice pa c.pas.length pc) c.pas pcell) :
    CylV w w.heap.size (.agg #[.int .i64 c.turns, .int .i64 (max 1 (c.long - m)), .int .i64 c.plays, .slice fa c.frag.length fc, .slice pa c.pas.length pc]) (lessL c m) := ⟨_, _, rfl, hf, hp⟩
theorem cyl_moreP {p : Pas} {base : Nat} (hf : Arr w w.heap.size 1 (.slice fa c.frag.length fc) c.frag icell) (hp : w.ownsRow base 49 3 (.slice A (c.pas.length + 1) cap) (c.pas.length + 1) ((c.pas ++ [p]).flatMap (cellsOf 3 pcell))) :
    CylV w w.heap.size (.agg #[.int .i64 c.turns, .int .i64 c.long, .int .i64 c.plays, .slice fa c.frag.length fc, .slice A (c.pas.length + 1) cap]) (moreP c p) := by
  have hl : (c.pas ++ [p]).length = c.pas.length + 1 := by simp
  rw [← hl] at hp ⊢
  exact ⟨_, _, rfl, hf, Arr.of_own hp⟩
end

/-- the cylinder's own box lies at g0, a second one at g1 > g0, whose first three fields are t, l, p and its lists x3, x4 -/
structure TInv (wc : World) (g0 g1 : Nat) (c : Cyl) (fa : Option Addr) (fc : Nat) (pa : Option Addr) (pc : Nat) (t l p : Int) (x3 x4 : Value) (wr : World) : Prop where
  cb : CB wr g0 g0 c fa fc pa pc
  x : Blk wr g1 25 #[.int .i64 t, .int .i64 l, .int .i64 p, x3, x4]
  gr : wc.grownBy wr (some g1)
  lo : g0 < g1
  hi : g1 < wc.heap.size

section
variable {wc wr w4 : World} {g0 g1 : Nat} {c : Cyl} {fa : Option Addr} {fc : Nat} {pa : Option Addr} {pc : Nat} {t l p : Int} {x3 x4 : Value}
theorem TInv.below (h : TInv wc g0 g1 c fa fc pa pc t l p x3 x4 wr) (hb4 : Below wc.heap.size wr w4) : TInv wc g0 g1 c fa fc pa pc t l p x3 x4 w4 :=
  ⟨h.cb.belowB hb4 (Nat.lt_trans h.lo h.hi), h.x.below hb4 h.hi,
   ⟨hb4.os.trans h.gr.os, hb4.tape.trans h.gr.tape, hb4.output.trans h.gr.output, Nat.le_trans h.gr.size hb4.size, fun k hk hr => (hb4.block k hk).trans (h.gr.block k hk hr)⟩, h.lo, h.hi⟩
theorem TInv.call (h : TInv wc g0 g1 c fa fc pa pc t l p x3 x4 wr) (hb : Below wr.heap.size wr w4) : TInv wc g0 g1 c fa fc pa pc t l p x3 x4 w4 := h.below (hb.mono h.gr.size)
theorem TInv.f3 (h : TInv wc g0 g1 c fa fc pa pc t l p x3 x4 wr) : wr.cell? ⟨g1, 3, none⟩ = some x3 := by
  have := h.x.cell 3
  simpa using this
theorem TInv.f4 (h : TInv wc g0 g1 c fa fc pa pc t l p x3 x4 wr) : wr.cell? ⟨g1, 4, none⟩ = some x4 := by
  have := h.x.cell 4
  simpa using this
theorem TInv.set3 (h : TInv wc g0 g1 c fa fc pa pc t l p x3 x4 wr) (v : Value) : TInv wc g0 g1 c fa fc pa pc t l p v x4 (wr.setCell ⟨g1, 3, none⟩ v) := by
  have hs := h.x.set_ 3 v
  exact ⟨h.cb.belowB ((Below.refl (g0 + 1) wr).setCell (p := ⟨g1, 3, none⟩) h.lo _) (Nat.lt_succ_self _), by simpa using hs, grown_trans' h.gr (grown_setCell _), h.lo, h.hi⟩
theorem TInv.set4 (h : TInv wc g0 g1 c fa fc pa pc t l p x3 x4 wr) (v : Value) : TInv wc g0 g1 c fa fc pa pc t l p x3 v (wr.setCell ⟨g1, 4, none⟩ v) := by
  have hs := h.x.set_ 4 v
  exact ⟨h.cb.belowB ((Below.refl (g0 + 1) wr).setCell (p := ⟨g1, 4, none⟩) h.lo _) (Nat.lt_succ_self _), by simpa using hs, grown_trans' h.gr (grown_setCell _), h.lo, h.hi⟩
theorem TInv.row (h : TInv wc g0 g1 c fa fc pa pc t l p x3 x4 wr) {base : Nat} {e size n : Nat} {v u : Value} {xs : List Value} {o : Nat} (hown : wr.ownsRow base e size v n xs) (he : e ≠ 25) :
    (wr.setCell ⟨g1, o, none⟩ u).ownsRow base e size v n xs := hown.kept (grown_setCell _) (.inr fun e => own_blk_ne hown h.x he e.symm)
end
theorem cb_frc {wr : World} {g0 : Nat} {c : Cyl} {fb fo : Nat} {fc : Nat} {pa : Option Addr} {pc : Nat} (h : CB wr g0 g0 c (some ⟨fb, fo, none⟩) fc pa pc) {k : Nat} {x : Int} (hx : c.frag[k]? = some x) :
    wr.cell? ⟨fb, fo + k, none⟩ = some (.int .i64 x) := by
  obtain ⟨b, off, y, h1, h2, h3, h4⟩ := row_cell2 h.fr (List.getElem?_eq_some_iff.1 hx).1
  injection h1 with h1
  injection h1 with h1 h5
  subst h1 h5
  rw [hx] at h3
  injection h3 with h3
  subst h3
  exact h4
/-- a list turned round, so far -/
def backTo {α β : Type} (f : α → β) (l : List α) (k : Nat) : List β := ((l.drop k).map f).reverse
theorem backTo_len {α β : Type} (f : α → β) (l : List α) (k : Nat) : (backTo f l k).length = l.length - k := by simp [backTo]
theorem backTo_step {α β : Type} (f : α → β) {l : List α} {k : Nat} {x : α} (h : l[k]? = some x) : backTo f l k = backTo f l (k + 1) ++ [f x] := by
  obtain ⟨h1, h2⟩ := List.getElem?_eq_some_iff.1 h
  unfold backTo
  rw [List.drop_eq_getElem_cons h1, h2]
  simp
theorem backTo_end {α β : Type} (f : α → β) (l : List α) : backTo f l l.length = [] := by simp [backTo]
theorem backTo_all {α β : Type} (f : α → β) (l : List α) : backTo f l 0 = (l.map f).reverse := by simp [backTo]
theorem take_step {α β : Type} (f : α → β) {l : List α} {k : Nat} {x : α} (h : l[k]? = some x) : (l.take (k + 1)).map f = (l.take k).map f ++ [f x] := by
  rw [List.take_add_one, h]
  simp
theorem cyl_mirC {w : World} {c : Cyl} {A A2 : Option Addr} {cap cap2 b1 b2 : Nat} (h1 : w.ownsRow b1 3 1 (.slice A c.frag.length cap) c.frag.length ((mirC c).frag.flatMap (cellsOf 1 icell)))
    (h2 : w.ownsRow b2 49 3 (.slice A2 c.pas.length cap2) c.pas.length ((mirC c).pas.flatMap (cellsOf 3 pcell))) :
    CylV w w.heap.size (.agg #[.int .i64 c.turns, .int .i64 c.long, .int .i64 c.plays, .slice A c.frag.length cap, .slice A2 c.pas.length cap2]) (mirC c) := by
  have e1 : (mirC c).frag.length = c.frag.length := by simp [mirC]
  have e2 : (mirC c).pas.length = c.pas.length := by simp [mirC]
  rw [← e1] at h1 ⊢
  rw [← e2] at h2 ⊢
  exact ⟨_, _, rfl, Arr.of_own h1, Arr.of_own h2⟩
theorem mirQ_eq (L : Int) (q : List Str) : backTo (mirS L) q 0 = mirQ L q := by rw [backTo_all]; rfl
theorem mirC_frag (c : Cyl) {lt : Int} (h : lt = c.turns - 1) : backTo (fun x => lt - x) c.frag 0 = (mirC c).frag := by rw [backTo_all, h]; rfl
theorem mirC_pas (c : Cyl) {lt : Int} (h : lt = c.turns - 1) : (c.pas.take c.pas.length).map (mirP lt) = (mirC c).pas := by rw [List.take_length, h]; rfl

/-- those of a list that are taken, and what they become -/
def part {α β : Type} (p : α → Bool) (g : α → β) (l : List α) : List β := (l.filter p).map g
theorem part_yes {α β : Type} {p : α → Bool} (g : α → β) {l : List α} {k : Nat} {x : α} (h : l[k]? = some x) (hp : p x = true) : part p g (l.take (k + 1)) = part p g (l.take k) ++ [g x] := by
  unfold part
  rw [List.take_add_one, h]
  simp [List.filter_append, hp]
theorem part_no {α β : Type} {p : α → Bool} (g : α → β) {l : List α} {k : Nat} {x : α} (h : l[k]? = some x) (hp : p x = false) : part p g (l.take (k + 1)) = part p g (l.take k) := by
  unfold part
  rw [List.take_add_one, h]
  simp [List.filter_append, hp]
theorem part_len {α β : Type} (p : α → Bool) (g : α → β) (l : List α) (k : Nat) : (part p g (l.take k)).length ≤ k := by
  unfold part
  rw [List.length_map]
  exact Nat.le_trans (List.length_filter_le _ _) (by rw [List.length_take]; exact Nat.min_le_left _ _)

/-- all blocks of before stay, but for two -/
structure But2 (w w' : World) (a b : Nat) : Prop where
  os : w'.os = w.os
  tape : w'.tape = w.tape
  output : w'.output = w.output
  size : w.heap.size ≤ w'.heap.size
  block : ∀ k, k < w.heap.size → k ≠ a → k ≠ b → w'.heap[k]? = w.heap[k]?
section
variable {wc wr w4 : World} {a b : Nat}
theorem But2.refl (w : World) (a b : Nat) : But2 w w a b := ⟨rfl, rfl, rfl, Nat.le_refl _, fun _ _ _ _ => rfl⟩
theorem But2.below (h : But2 wc wr a b) (hb : Below wc.heap.size wr w4) : But2 wc w4 a b :=
  ⟨hb.os.trans h.os, hb.tape.trans h.tape, hb.output.trans h.output, Nat.le_trans h.size hb.size, fun k hk h1 h2 => (hb.block k hk).trans (h.block k hk h1 h2)⟩
theorem But2.one (h : But2 wc wr a b) (hg : wr.grownBy w4 (some a)) : But2 wc w4 a b :=
  ⟨hg.os.trans h.os, hg.tape.trans h.tape, hg.output.trans h.output, Nat.le_trans h.size hg.size, fun k hk h1 h2 => (hg.block k (Nat.lt_of_lt_of_le hk h.size) (by simpa using h1)).trans (h.block k hk h1 h2)⟩
theorem But2.two (h : But2 wc wr a b) (hg : wr.grownBy w4 (some b)) : But2 wc w4 a b :=
  ⟨hg.os.trans h.os, hg.tape.trans h.tape, hg.output.trans h.output, Nat.le_trans h.size hg.size, fun k hk h1 h2 => (hg.block k (Nat.lt_of_lt_of_le hk h.size) (by simpa using h2)).trans (h.block k hk h1 h2)⟩
theorem But2.to_below (h : But2 wc wr a b) {B : Nat} (ha : B ≤ a) (hb : B ≤ b) (hB : B ≤ wc.heap.size) : Below B wc wr :=
  ⟨h.os, h.tape, h.output, h.size, fun k hk => h.block k (by omega) (by omega) (by omega)⟩
end

/-- the cylinder's own box lies at g0, two further ones at gx and gy, with the numbers t, l, p and u, m, q and the lists x3, x4 and y3, y4 -/
structure PInv (wc : World) (g0 gx gy : Nat) (c : Cyl) (fa : Option Addr) (fc : Nat) (pa : Option Addr) (pc : Nat) (t l p u m q : Int) (x3 x4 y3 y4 : Value) (wr : World) : Prop where
  cb : CB wr g0 g0 c fa fc pa pc
  x : Blk wr gx 25 #[.int .i64 t, .int .i64 l, .int .i64 p, x3, x4]
  y : Blk wr gy 25 #[.int .i64 u, .int .i64 m, .int .i64 q, y3, y4]
  gr : But2 wc wr gx gy
  lo : g0 < gx
  md : gx < gy
  hi : gy < wc.heap.size

section
variable {wc wr w4 : World} {g0 gx gy : Nat} {c : Cyl} {fa : Option Addr} {fc : Nat} {pa : Option Addr} {pc : Nat} {t l p u m q : Int} {x3 x4 y3 y4 : Value}
theorem PInv.below (h : PInv wc g0 gx gy c fa fc pa pc t l p u m q x3 x4 y3 y4 wr) (hb4 : Below wc.heap.size wr w4) : PInv wc g0 gx gy c fa fc pa pc t l p u m q x3 x4 y3 y4 w4 := by
  have h1 := h.lo
  have h2 := h.md
  have h3 := h.hi
  exact ⟨h.cb.belowB hb4 (by omega), h.x.below hb4 (by omega), h.y.below hb4 h3, h.gr.below hb4, h1, h2, h3⟩
theorem PInv.call (h : PInv wc g0 gx gy c fa fc pa pc t l p u m q x3 x4 y3 y4 wr) (hb : Below wr.heap.size wr w4) : PInv wc g0 gx gy c fa fc pa pc t l p u m q x3 x4 y3 y4 w4 := h.below (hb.mono h.gr.size)
theorem PInv.start (h : PInv wc g0 gx gy c fa fc pa pc t l p u m q x3 x4 y3 y4 wr) : PInv wr g0 gx gy c fa fc pa pc t l p u m q x3 x4 y3 y4 wr := ⟨h.cb, h.x, h.y, But2.refl _ _ _, h.lo, h.md, h.y.lt⟩
theorem PInv.fx3 (h : PInv wc g0 gx gy c fa fc pa pc t l p u m q x3 x4 y3 y4 wr) : wr.cell? ⟨gx, 3, none⟩ = some x3 := by
  have := h.x.cell 3
  simpa using this
theorem PInv.fx4 (h : PInv wc g0 gx gy c fa fc pa pc t l p u m q x3 x4 y3 y4 wr) : wr.cell? ⟨gx, 4, none⟩ = some x4 := by
  have := h.x.cell 4
  simpa using this
theorem PInv.fy3 (h : PInv wc g0 gx gy c fa fc pa pc t l p u m q x3 x4 y3 y4 wr) : wr.cell? ⟨gy, 3, none⟩ = some y3 := by
  have := h.y.cell 3
  simpa using this
theorem PInv.fy4 (h : PInv wc g0 gx gy c fa fc pa pc t l p u m q x3 x4 y3 y4 wr) : wr.cell? ⟨gy, 4, none⟩ = some y4 := by
  have := h.y.cell 4
  simpa using this
theorem PInv.sx3 (h : PInv wc g0 gx gy c fa fc pa pc t l p u m q x3 x4 y3 y4 wr) (v : Value) : PInv wc g0 gx gy c fa fc pa pc t l p u m q v x4 y3 y4 (wr.setCell ⟨gx, 3, none⟩ v) := by
  have hs := h.x.set_ 3 v
  have h1 := h.md
  exact ⟨h.cb.belowB ((Below.refl (g0 + 1) wr).setCell (p := ⟨gx, 3, none⟩) h.lo _) (Nat.lt_succ_self _), by simpa using hs, h.y.far (by show gy ≠ gx; omega) v, h.gr.one (grown_setCell _), h.lo, h.md, h.hi⟩
theorem PInv.sx4 (h : PInv wc g0 gx gy c fa fc pa pc t l p u m q x3 x4 y3 y4 wr) (v : Value) : PInv wc g0 gx gy c fa fc pa pc t l p u m q x3 v y3 y4 (wr.setCell ⟨gx, 4, none⟩ v) := by
  have hs := h.x.set_ 4 v
  have h1 := h.md
  exact ⟨h.cb.belowB ((Below.refl (g0 + 1) wr).setCell (p := ⟨gx, 4, none⟩) h.lo _) (Nat.lt_succ_self _), by simpa using hs, h.y.far (by show gy ≠ gx; omega) v, h.gr.one (grown_setCell _), h.lo, h.md, h.hi⟩
theorem PInv.sy3 (h : PInv wc g0 gx gy c fa fc pa pc t l p u m q x3 x4 y3 y4 wr) (v : Value) : PInv wc g0 gx gy c fa fc pa pc t l p u m q x3 x4 v y4 (wr.setCell ⟨gy, 3, none⟩ v) := by
  have hs := h.y.set_ 3 v
  have h1 := h.md
  have h2 := h.lo
  exact ⟨h.cb.belowB ((Below.refl (g0 + 1) wr).setCell (p := ⟨gy, 3, none⟩) (by show g0 + 1 ≤ gy; omega) _) (Nat.lt_succ_self _), h.x.far (by show gx ≠ gy; omega) v, by simpa using hs, h.gr.two (grown_setCell _), h.lo, h.md, h.hi⟩
theorem PInv.sy4 (h : PInv wc g0 gx gy c fa fc pa pc t l p u m q x3 x4 y3 y4 wr) (v : Value) : PInv wc g0 gx gy c fa fc pa pc t l p u m q x3 x4 y3 v (wr.setCell ⟨gy, 4, none⟩ v) := by
  have hs := h.y.set_ 4 v
  have h1 := h.md
  have h2 := h.lo
  exact ⟨h.cb.belowB ((Below.refl (g0 + 1) wr).setCell (p := ⟨gy, 4, none⟩) (by show g0 + 1 ≤ gy; omega) _) (Nat.lt_succ_self _), h.x.far (by show gx ≠ gy; omega) v, by simpa using hs, h.gr.two (grown_setCell _), h.lo, h.md, h.hi⟩
theorem PInv.rx (h : PInv wc g0 gx gy c fa fc pa pc t l p u m q x3 x4 y3 y4 wr) {base : Nat} {e size n : Nat} {v z : Value} {xs : List Value} {o : Nat} (hown : wr.ownsRow base e size v n xs) (he : e ≠ 25) :
    (wr.setCell ⟨gx, o, none⟩ z).ownsRow base e size v n xs := hown.kept (grown_setCell _) (.inr fun e => own_blk_ne hown h.x he e.symm)
theorem PInv.ry (h : PInv wc g0 gx gy c fa fc pa pc t l p u m q x3 x4 y3 y4 wr) {base : Nat} {e size n : Nat} {v z : Value} {xs : List Value} {o : Nat} (hown : wr.ownsRow base e size v n xs) (he : e ≠ 25) :
    (wr.setCell ⟨gy, o, none⟩ z).ownsRow base e size v n xs := hown.kept (grown_setCell _) (.inr fun e => own_blk_ne hown h.y he e.symm)
/-- rows of before stay -/
theorem PInv.keep (h : PInv wc g0 gx gy c fa fc pa pc t l p u m q x3 x4 y3 y4 wr) {base : Nat} {e size n : Nat} {v : Value} {xs : List Value} {cs' cs : Array Value} (hx : Blk wc gx 25 cs') (hy : Blk wc gy 25 cs)
    (hown : wc.ownsRow base e size v n xs) (he : e ≠ 25) : wr.ownsRow base e size v n xs := by
  obtain ⟨h1, h2⟩ := hown
  refine ⟨h1, ?_⟩
  rcases h2 with h2 | ⟨g, cap, cur, h3, h4, h5, h6⟩
  · exact .inl h2
  · right
    refine ⟨g, cap, cur, h3, h4, ?_, h6⟩
    have hlt : g < wc.heap.size := Blk.lt (t := e) (cs := cur) h5
    rw [h.gr.block g hlt (fun e' => ?_) (fun e' => ?_)]
    · exact h5
    · subst e'
      unfold Blk at hx
      rw [h5] at hx
      injection hx with hx
      injection hx with _ hx
      exact he hx
    · subst e'
      unfold Blk at hy
      rw [h5] at hy
      injection hy with hy
      injection hy with _ hy
      exact he hy
end

/-- two rows of the call's own in different blocks -/
def Apart (v v' : Value) : Prop := ∀ b, v.ownBlock = some b → v'.ownBlock ≠ some b
theorem Apart.symm {v v' : Value} (h : Apart v v') : Apart v' v := fun b h1 h2 => h b h2 h1
theorem apart_nil (v : Value) : Apart (.slice none 0 0) v := fun b h => by simp [Value.ownBlock] at h
/-- one row grows: the other one stays, and stays apart -/
theorem own_apart {W w' : World} {base e size n : Nat} {sv ov v' : Value} {xs : List Value} (ho : W.ownsRow base e size ov n xs) (hg : W.grownBy w' sv.ownBlock) (hn : ∀ b, v'.ownBlock = some b → sv.ownBlock = some b ∨ W.heap.size ≤ b) (ha : Apart sv ov) :
    w'.ownsRow base e size ov n xs ∧ Apart v' ov := by
  refine ⟨ho.kept hg ?_, fun b h1 h2 => ?_⟩
  · cases h : ov.ownBlock with
    | none => exact .inl rfl
    | some b => exact .inr fun e => ha b e.symm h
  · rcases hn b h1 with h3 | h3
    · exact ha b h3 h2
    · have := (ho.lt b h2).2
      omega
theorem own_drew {w : World} {base e size n : Nat} {v : Value} {xs : List Value} (h : w.ownsRow base e size v n xs) : w.drew.ownsRow base e size v n xs := h
theorem below_own {W w' : World} {base e size n : Nat} {sv : Value} {xs : List Value} (hown : W.ownsRow base e size sv n xs) (hg : W.grownBy w' sv.ownBlock) (hb : base ≤ W.heap.size) : Below base W w' :=
  (Below.refl _ _).grown hg hb fun k hk => (hown.lt k hk).1

theorem lowC_frag (c : Cyl) (f : Int) : (lowC c f).frag = part (fun x => decide (x < f)) id (c.frag.take c.frag.length) := by
  rw [List.take_length]; simp [part, lowC]
theorem higC_frag (c : Cyl) (f : Int) : (higC c f).frag = part (fun x => decide (f < x)) (fun x => x - f - 1) (c.frag.take c.frag.length) := by
  rw [List.take_length]; rfl
theorem lowC_pas (c : Cyl) (f : Int) : (lowC c f).pas = part (fun p => decide (p.b < f)) id (c.pas.take c.pas.length) := by
  rw [List.take_length]; simp [part, lowC]
theorem higC_pas (c : Cyl) (f : Int) : (higC c f).pas = part (fun p => decide (f < p.a)) (shP (-f - 1)) (c.pas.take c.pas.length) := by
  rw [List.take_length]; rfl
theorem cyl_lowC {w : World} {c : Cyl} {f : Int} {A A2 : Option Addr} {n n2 cap cap2 b1 b2 : Nat} (hn : n = (lowC c f).frag.length) (hn2 : n2 = (lowC c f).pas.length) (h1 : w.ownsRow b1 3 1 (.slice A n cap) n ((lowC c f).frag.flatMap (cellsOf 1 icell)))
    (h2 : w.ownsRow b2 49 3 (.slice A2 n2 cap2) n2 ((lowC c f).pas.flatMap (cellsOf 3 pcell))) :
    CylV w w.heap.size (.agg #[.int .i64 f, .int .i64 (min f c.long), .int .i64 c.plays, .slice A n cap, .slice A2 n2 cap2]) (lowC c f) := by
  subst hn hn2
  exact ⟨_, _, rfl, Arr.of_own h1, Arr.of_own h2⟩
theorem cyl_higC {w : World} {c : Cyl} {f : Int} {A A2 : Option Addr} {n n2 cap cap2 b1 b2 : Nat} (hn : n = (higC c f).frag.length) (hn2 : n2 = (higC c f).pas.length) (h1 : w.ownsRow b1 3 1 (.slice A n cap) n ((higC c f).frag.flatMap (cellsOf 1 icell)))
    (h2 : w.ownsRow b2 49 3 (.slice A2 n2 cap2) n2 ((higC c f).pas.flatMap (cellsOf 3 pcell))) :
    CylV w w.heap.size (.agg #[.int .i64 (c.turns - f - 1), .int .i64 (min (c.turns - f - 1) c.long), .int .i64 c.plays, .slice A n cap, .slice A2 n2 cap2]) (higC c f) := by
  subst hn hn2
  exact ⟨_, _, rfl, Arr.of_own h1, Arr.of_own h2⟩
theorem ne_of_ads {A : Option Addr} {n cap g : Nat} (h : ∀ ad, A = some ad → ad.block ≠ g) : some g ≠ (Value.slice A n cap).ownBlock := by
  cases A with
  | none => simp [Value.ownBlock]
  | some ad => exact fun e => h ad rfl (by simpa [Value.ownBlock] using e.symm)
end Go.Proofs.Ythplabmbbfefeaa
