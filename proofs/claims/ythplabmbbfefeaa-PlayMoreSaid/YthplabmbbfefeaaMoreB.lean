/- append of all elements of a list that lies somewhere, or of a nil slice. -/
import Derived.Test.YthplabmbbfefeaaMoreA
import Derived.Laws.OwnMore
import Derived.Test.YthplabmbbfefeaaLawB
namespace Go.Proofs.Ythplabmbbfefeaa
open Go.RowKit Go.Shelf
set_option linter.unusedVariables false

theorem slT_pas : SlT 23 49 3 24 (.agg #[.int .i64 0, .int .i64 0, .int .i64 0]) := ⟨Try.underlying23, by kernel_rfl, rfl, by omega⟩

theorem append_none {w : World} (base : Nat) (t ty e : TypeId) (i : TypeInfo) (size c : Nat) (ht : Try.prog.underlying t = some (.slice e)) (hi : Try.prog.info? e = some i)
    (v : Value) (n : Nat) (xs : List Value) (hown : w.ownsRow base e size v n xs) :
    (Builtin.append_ #[t, t] ty #[v, .slice none 0 c]).run Try.prog w = .ok v w := by
  rcases hown.2 with ⟨rfl, rfl⟩ | ⟨g, cap, cur, rfl, _, _, hnc, _⟩
  · simp [Builtin.append_, run_underlying ht, sizeOf, typeInfo, hi, Builtin.lenOf, Builtin.firstCells]
  · simp [Builtin.append_, run_underlying ht, sizeOf, typeInfo, hi, Builtin.lenOf, Builtin.firstCells, hnc, storeCells]

theorem wpList_appArr {α : Type} {W : World} {ops : Array Oper} {rest : List Oper} {o : Oper} {a : Act} {Q : Exit → Act → World → Prop} {t e size bytes : Nat} {z : Value} (hT : SlT t e size bytes z)
    (hgd : o.guard = none) (s x : Operand) (ho : o.op = .call { callee := .builtin .append, args := #[s, x], argTypes := #[t, t] })
    {base n c B : Nat} {sv : Value} {xs : List Value} {A : Option Addr} {l : List α} {cell : α → Nat → Value} (hs : a.eval s = sv) (hown : W.ownsRow base e size sv n xs)
    (hx : a.eval x = .slice A l.length c) (harr : Arr W B size (.slice A l.length c) l cell) (h1 : ∀ u ∈ l.flatMap (cellsOf size cell), u.oneCell' = true) (hbase : base ≤ W.heap.size)
    (h63 : n + l.length ≤ 1048576) (hby : bytes ≤ 1024)
    (h : ∀ v' w', w'.ownsRow base e size v' (n + l.length) (xs ++ l.flatMap (cellsOf size cell)) → Below base W w' → W.grownBy w' sv.ownBlock → wpList Try.prog ops Q rest (a.put o.dst v') w') :
    wpList Try.prog ops Q (o :: rest) a W := by
  obtain ⟨A', c', hv, hb1, hb2, hb3⟩ := harr
  injection hv with hA _ hc
  subst hA hc
  cases A with
  | none =>
    have hl : l.length = 0 := by
      rcases Nat.eq_zero_or_pos l.length with h0 | h0
      · exact h0
      · obtain ⟨b, off, hh, _⟩ := hb3 h0
        cases hh
    have hnil : l = [] := List.length_eq_zero_iff.1 hl
    subst hnil
    obtain ⟨hT1, hT2, hT3, hT4⟩ := hT
    obtain ⟨i0, hi, hz0, hz1, hz2⟩ := info_parts hT2
    refine wpList_plain hgd fun _ hK => ?_
    have hr := append_none (w := W) base t o.type e i0 size c hT1 hi sv n xs hown
    unfold Oper.wp execOp
    simp only [List.length_nil] at hx
    simp only [ho, resolve, invoke, builtin, Sem.run_bind, Sem.run_pure, Result.andThen_ok, List.map_toArray, List.map_cons, List.map_nil, hs, hx, hr]
    exact hK _ _ (h sv W (by simpa using hown) (Below.refl _ _) (World.grownBy.refl _ _))
  | some ad =>
    refine wpList_appM hT hgd s x ho hs hown ad hx (l.flatMap (cellsOf size cell)) (flat_len size cell l) ?_ h1 hbase h63 hby fun v' w' k1 k2 k3 => h v' w' k1 k2 k3
    intro j u hu
    have hj := (List.getElem?_eq_some_iff.1 hu).1
    rw [flat_len] at hj
    have hpos : 0 < l.length := by
      rcases Nat.eq_zero_or_pos l.length with h0 | h0
      · rw [h0] at hj; simp at hj
      · exact h0
    have hsz : 0 < size := by
      rcases Nat.eq_zero_or_pos size with h0 | h0
      · rw [h0] at hj; simp at hj
      · exact h0
    obtain ⟨b, off, hh, hb, hcell⟩ := hb3 hpos
    injection hh with hh
    subst hh
    have hi : j / size < l.length := Nat.div_lt_of_lt_mul (by rw [Nat.mul_comm]; exact hj)
    have hm : j % size < size := Nat.mod_lt _ hsz
    have hdm : j / size * size + j % size = j := by rw [Nat.mul_comm]; exact Nat.div_add_mod j size
    have h2 := flat_get size cell l (j / size) _ (List.getElem?_eq_getElem hi) (j % size) hm
    rw [hdm, hu] at h2
    injection h2 with h2
    have h3 := hcell (j / size) _ (List.getElem?_eq_getElem hi) (j % size) hm
    rw [h2]
    have ha : (⟨b, off, none⟩ : Addr).add j = ⟨b, off + j / size * size + j % size, none⟩ := by
      unfold Addr.add
      split
      · rename_i h0
        simp only [Addr.mk.injEq, and_true, true_and]
        omega
      · simp only [Addr.mk.injEq, and_true, true_and]
        omega
    rw [ha]
    exact h3

theorem own_empty (w : World) (base : Nat) (e : TypeId) (size : Nat) (hb : base ≤ w.heap.size) : (w.alloc (.cells #[] e)).ownsRow base e size (.slice (some ⟨w.heap.size, 0, none⟩) 0 0) 0 [] := by
  have := World.ownsRow_lit (base := base) (e := e) (size := size) w #[] 0 hb (by simp) (by simp)
  simpa using this
theorem one_pas (l : List Pas) : ∀ u ∈ l.flatMap (cellsOf 3 pcell), u.oneCell' = true := by
  intro u hu
  simp only [List.mem_flatMap, cellsOf, List.mem_map, List.mem_range] at hu
  obtain ⟨p, _, j, hj, rfl⟩ := hu
  have : j = 0 ∨ j = 1 ∨ j = 2 := by omega
  rcases this with rfl | rfl | rfl <;> rfl
theorem Arr.one3 {w : World} {g : Nat} {p : Pas} (h : Blk w g 49 #[.int .i64 p.a, .int .i64 p.b, .int .i64 p.w]) : Arr w w.heap.size 3 (.slice (some ⟨g, 0, none⟩) [p].length 1) [p] pcell :=
  Arr.lit h h.lt rfl (by simp) (by omega) rfl
theorem ne_own {b g n cap : Nat} (h : b ≠ g) : some b ≠ (Value.slice (some ⟨g, 0, none⟩) n cap).ownBlock := fun e => h (by simpa [Value.ownBlock] using e)
section
variable {w : World} {c : Cyl} {fa pa A : Option Addr} {fc pc cap : Nat}
theorem cyl_moreF {t : Int} (hf : Arr w w.heap.size 1 (.slice A (insF t c.frag).length cap) (insF t c.frag) icell) (hp : Arr w w.heap.size 3 (.slice pa c.pas.length pc) c.pas pcell) :
    CylV w w.heap.size (.agg #[.int .i64 c.turns, .int .i64 c.long, .int .i64 c.plays, .slice A (insF t c.frag).length cap, .slice pa c.pas.length pc]) (moreF c t) := ⟨_, _, rfl, hf, hp⟩
theorem cyl_lessL {m : Int} (hf : Arr w w.heap.size 1 (.slice fa c.frag.length fc) c.frag icell) (hp : Arr w w.heap.size 3 (.slice pa c.pas.length pc) c.pas pcell) :
    CylV w w.heap.size (.agg #[.int .i64 c.turns, .int .i64 (max 1 (c.long - m)), .int .i64 c.plays, .slice fa c.frag.length fc, .slice pa c.pas.length pc]) (lessL c m) := ⟨_, _, rfl, hf, hp⟩
theorem cyl_moreP {p : Pas} {base : Nat} (hf : Arr w w.heap.size 1 (.slice fa c.frag.length fc) c.frag icell) (hp : w.ownsRow base 49 3 (.slice A (c.pas.length + 1) cap) (c.pas.length + 1) ((c.pas ++ [p]).flatMap (cellsOf 3 pcell))) :
    CylV w w.heap.size (.agg #[.int .i64 c.turns, .int .i64 c.long, .int .i64 c.plays, .slice fa c.frag.length fc, .slice A (c.pas.length + 1) cap]) (moreP c p) := by
  have hl : (c.pas ++ [p]).length = c.pas.length + 1 := by simp
  rw [← hl] at hp ⊢
  exact ⟨_, _, rfl, hf, Arr.of_own hp⟩
end
end Go.Proofs.Ythplabmbbfefeaa
