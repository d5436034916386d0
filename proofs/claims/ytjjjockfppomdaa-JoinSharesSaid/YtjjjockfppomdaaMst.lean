/- Maps whose keys are structs of two ints, with the stamps of their entries: m[k] += v, delete, a range. -/
import Derived.Test.YtjjjockfppomdaaMap
import Derived.Maps.RangeRun
namespace Go.Proofs.Ytjjjockfppomdaa
open Go.RowKit Go.Shelf
open Go.ChangeMaps (setBlock)
set_option linter.unusedVariables false

structure Ent where
  a : Int
  b : Int
  v : Value
  s : Nat
def entOf (x : Ent) : MapEntry := { key := kv x.a x.b, val := x.v, born := x.s }
def tri (l : List Ent) : List (Int × Int × Value) := l.map fun x => (x.a, x.b, x.v)
def readL (l : List Ent) (a b : Int) : Option Value := (findII a b (tri l) 0).map (·.2)
def MapL (w : World) (g : Nat) (l : List Ent) (cl : Nat) : Prop :=
  w.heap[g]? = some (.map (l.map entOf).toArray cl) ∧ (∀ x ∈ l, x.s < cl) ∧ (l.map (·.s)).Nodup ∧ (l.map fun x => (x.a, x.b)).Nodup
theorem ents_tri (l : List Ent) : entriesOf (l.map entOf).toArray.toList (tri l) := by
  simp [entriesOf, tri, entOf]
theorem MapL.of {w : World} {g cl : Nat} {l : List Ent} (h : MapL w g l cl) : MapOf w g (readL l) := ⟨_, cl, tri l, h.1, ents_tri l, fun _ _ => rfl⟩
theorem MapL.heap {w w' : World} {g cl : Nat} {l : List Ent} (h : MapL w g l cl) (hh : w'.heap[g]? = w.heap[g]?) : MapL w' g l cl := ⟨hh.trans h.1, h.2⟩
theorem MapL.lt {w : World} {g cl : Nat} {l : List Ent} (h : MapL w g l cl) : g < w.heap.size := (Array.getElem?_eq_some_iff.1 h.1).1
theorem MapL.new (w : World) : MapL (w.alloc (.map #[] 0)) w.heap.size [] 0 := ⟨by unfold World.alloc; simp, by simp, List.nodup_nil, List.nodup_nil⟩
theorem find_at {l : List Ent} {a b : Int} {n : Nat} {u : Value} (h : findII a b (tri l) 0 = some (n, u)) : ∃ x, l[n]? = some x ∧ x.a = a ∧ x.b = b ∧ x.v = u := by
  obtain ⟨_, h5, h6⟩ := findII_some a b (tri l) 0 n u h
  simp only [Nat.sub_zero] at h5 h6
  unfold tri at h6
  rw [List.getElem?_map] at h6
  cases hx : l[n]? with
  | none => rw [hx] at h6; cases h6
  | some x =>
    rw [hx] at h6
    simp only [Option.map_some, Option.some.injEq, Prod.mk.injEq] at h6
    exact ⟨x, rfl, h6.1, h6.2.1, h6.2.2⟩
theorem find_none {l : List Ent} {a b : Int} (h : findII a b (tri l) 0 = none) : ∀ x ∈ l, ¬ (x.a = a ∧ x.b = b) := by
  have key : ∀ (l : List Ent) (i : Nat), findII a b (tri l) i = none → ∀ x ∈ l, ¬ (x.a = a ∧ x.b = b) := by
    intro l
    induction l with
    | nil => intro i _ x hx; cases hx
    | cons y r ih =>
      intro i h x hx
      rw [show tri (y :: r) = (y.a, y.b, y.v) :: tri r from rfl, findII] at h
      split at h
      · cases h
      · rename_i hy
        rcases List.mem_cons.1 hx with rfl | hx
        · rintro ⟨h1, h2⟩
          exact hy (by simp [h1, h2])
        · exact ih _ h x hx
  exact key l 0 h
theorem nodup_idx {α : Type} {l : List α} (h : l.Nodup) {i j : Nat} {x : α} (hi : l[i]? = some x) (hj : l[j]? = some x) : i = j := by
  obtain ⟨h1, e1⟩ := List.getElem?_eq_some_iff.1 hi
  obtain ⟨h2, e2⟩ := List.getElem?_eq_some_iff.1 hj
  have hp := List.pairwise_iff_getElem.1 h
  rcases Nat.lt_trichotomy i j with hh | hh | hh
  · exact absurd (e1.trans e2.symm) (hp i j h1 h2 hh)
  · exact hh
  · exact absurd (e2.trans e1.symm) (hp j i h2 h1 hh)
theorem findIdx_ent {l : List Ent} (hn : (l.map (·.s)).Nodup) {n : Nat} {x : Ent} (hx : l[n]? = some x) : (l.map entOf).toArray.findIdx? (fun e => ((e.born : Nat) : Int) == (x.s : Int)) = some n := by
  rw [List.findIdx?_toArray, List.findIdx?_eq_some_iff_getElem]
  obtain ⟨h1, e1⟩ := List.getElem?_eq_some_iff.1 hx
  refine ⟨by simpa using h1, by simp [entOf, e1], fun j hj => ?_⟩
  have hjl : j < l.length := by omega
  simp only [List.getElem_map, entOf, beq_iff_eq]
  intro he
  have he : l[j].s = x.s := by omega
  have h2 : (l.map (·.s))[j]? = some x.s := by rw [List.getElem?_map, List.getElem?_eq_getElem hjl]; simp [he]
  have h3 : (l.map (·.s))[n]? = some x.s := by rw [List.getElem?_map, hx]; rfl
  have := nodup_idx hn h2 h3
  omega
theorem put_heap {w : World} {g : Nat} (hg : g < w.heap.size) (es : Array MapEntry) (cl : Nat) : (putMap w g es cl).heap[g]? = some (.map es cl) := by
  simp [putMap, hg]

theorem store_run {w2 : World} {g cl n : Nat} {es : Array MapEntry} {st : Int} (hw2 : w2.heap[g]? = some (.map es cl)) (hi : es.findIdx? (fun e => ((e.born : Nat) : Int) == st) = some n) (t' : TypeId) (v : Value) :
    (Instr.entryStore t' (.map (some g)) (goInt st) v).run Try.prog w2 = .ok () (putMap w2 g (es.modify n fun e => { e with val := v }) cl) := by
  simp [Instr.entryStore, MapKept.run_getObj_map hw2, goInt, asInt, asIntOf, hi, MapKept.run_setObj_map _ hw2, Result.andThen, putMap]
theorem MapL.entry {t k e : TypeId} (K : KeyII k) (ht : Try.prog.underlying t = some (.map k e)) {w : World} {g cl : Nat} {l : List Ent} (h : MapL w g l cl) (a b : Int) {z : Value} (hz : (zeroValue e).run Try.prog w = .ok z w) :
    ∃ es1 cl1 st, (Instr.mapEntry t (.map (some g)) (kv a b)).run Try.prog w = .ok (.tuple #[(readL l a b).getD z, goInt ((st : Nat) : Int)]) (putMap w g es1 cl1) ∧ MapOf (putMap w g es1 cl1) g (fun x y => if (x == a && y == b) = true then some ((readL l a b).getD z) else readL l x y) ∧
      ∀ w2 : World, w2.heap[g]? = some (.map es1 cl1) → ∀ (t' : TypeId) (v : Value), ∃ es2 l2, (Instr.entryStore t' (.map (some g)) (goInt ((st : Nat) : Int)) v).run Try.prog w2 = .ok () (putMap w2 g es2 cl1) ∧ MapL (putMap w2 g es2 cl1) g l2 cl1 ∧
        ∀ x y, readL l2 x y = if (x == a && y == b) = true then some v else readL l x y := by
  have hlt := h.lt
  obtain ⟨h1, h2, h3, h4⟩ := h
  have hf := run_findKey K a b w (l.map entOf).toArray.toList (tri l) (ents_tri l)
  cases hh : findII a b (tri l) 0 with
  | none =>
    have hno := find_none hh
    refine ⟨(l.map entOf).toArray.push { key := kv a b, val := z, born := cl }, cl + 1, cl, ?_, ⟨(l.map entOf).toArray.push { key := kv a b, val := z, born := cl }, cl + 1, tri l ++ [(a, b, z)], put_heap hlt _ _, ?_, fun x y => ?_⟩, ?_⟩
    · have hr : readL l a b = none := by unfold readL; rw [hh]; rfl
      rw [hr]
      simp only [Instr.mapEntry, Sem.run_bind, run_underlying ht, Result.andThen_ok, MapKept.run_getObj_map h1, K.ck, hf, hh, hz, MapKept.run_setObj_map _ h1, Result.andThen, putMap]
      rfl
    · simp [entriesOf, tri, entOf]
    · have hr : readL l a b = none := by unfold readL; rw [hh]; rfl
      show _ = if (x == a && y == b) = true then some ((readL l a b).getD z) else readL l x y
      rw [hr]
      by_cases hxy : (x == a && y == b) = true
      · rw [if_pos hxy]
        simp only [Bool.and_eq_true, beq_iff_eq] at hxy
        rw [hxy.1, hxy.2, findII_append a b _ (tri l) 0 hh]
        simp
      · rw [if_neg hxy, findII_append_other x y _ (by simpa using hxy)]
        rfl
    · intro w2 hw2 t' v
      have he1 : (l.map entOf).toArray.push { key := kv a b, val := z, born := cl } = ((l ++ [(⟨a, b, z, cl⟩ : Ent)]).map entOf).toArray := by simp [entOf]
      have hs : ((l ++ [(⟨a, b, z, cl⟩ : Ent)]).map (·.s)).Nodup := by
        rw [List.map_append, List.nodup_append]
        refine ⟨h3, by simp, ?_⟩
        intro x hx y hy
        obtain ⟨q, hq, rfl⟩ := List.mem_map.1 hx
        simp only [List.map_cons, List.map_nil, List.mem_singleton] at hy
        subst hy
        exact Nat.ne_of_lt (h2 q hq)
      have hi := findIdx_ent (l := l ++ [⟨a, b, z, cl⟩]) hs (n := l.length) (x := ⟨a, b, z, cl⟩) (by simp)
      rw [he1] at hw2
      have hlt2 : g < w2.heap.size := (Array.getElem?_eq_some_iff.1 hw2).1
      refine ⟨((l ++ [(⟨a, b, v, cl⟩ : Ent)]).map entOf).toArray, l ++ [(⟨a, b, v, cl⟩ : Ent)], ?_, ⟨put_heap hlt2 _ _, ?_, ?_, ?_⟩, ?_⟩
      · rw [store_run hw2 hi]
        refine congrArg (fun q => Result.ok () (putMap w2 g q (cl + 1))) ?_
        apply Array.ext_getElem?
        intro j
        rw [Array.getElem?_modify]
        simp only [List.getElem?_toArray, List.getElem?_map]
        by_cases hj : l.length = j
        · subst hj; simp [entOf]
        · rw [if_neg hj]
          rcases Nat.lt_or_ge j l.length with hl | hl
          · rw [List.getElem?_append_left hl, List.getElem?_append_left hl]
          · rw [List.getElem?_eq_none (by simp; omega), List.getElem?_eq_none (by simp; omega)]
      · intro x hx
        rcases List.mem_append.1 hx with hx | hx
        · exact Nat.lt_succ_of_lt (h2 x hx)
        · rw [List.mem_singleton.1 hx]; exact Nat.lt_succ_self _
      · have : (l ++ [(⟨a, b, v, cl⟩ : Ent)]).map (·.s) = (l ++ [(⟨a, b, z, cl⟩ : Ent)]).map (·.s) := by simp
        rw [this]; exact hs
      · rw [List.map_append, List.nodup_append]
        refine ⟨h4, by simp, ?_⟩
        intro x hx y hy
        obtain ⟨q, hq, rfl⟩ := List.mem_map.1 hx
        simp only [List.map_cons, List.map_nil, List.mem_singleton] at hy
        subst hy
        intro he
        simp only [Prod.mk.injEq] at he
        exact hno q hq he
      · intro x y
        have e2 : tri (l ++ [⟨a, b, v, cl⟩]) = tri l ++ [(a, b, v)] := by simp [tri]
        unfold readL
        rw [e2]
        by_cases hxy : (x == a && y == b) = true
        · rw [if_pos hxy]
          simp only [Bool.and_eq_true, beq_iff_eq] at hxy
          rw [hxy.1, hxy.2, findII_append a b _ (tri l) 0 hh]
          simp
        · rw [if_neg hxy, findII_append_other x y _ (by simpa using hxy)]
  | some r =>
    obtain ⟨n, u⟩ := r
    obtain ⟨x, hx, rfl, rfl, rfl⟩ := find_at hh
    obtain ⟨hnl, hxe⟩ := List.getElem?_eq_some_iff.1 hx
    have hesn : (l.map entOf).toArray[n]? = some (entOf x) := by simp [hx]
    have hmod : ((l.map entOf).toArray.modify n fun e => { e with key := kv x.a x.b }) = (l.map entOf).toArray := by
      apply Array.ext_getElem?
      intro j
      rw [Array.getElem?_modify]
      by_cases hj : n = j
      · subst hj; rw [if_pos rfl, hesn]; rfl
      · rw [if_neg hj]
    refine ⟨(l.map entOf).toArray, cl, x.s, ?_, ⟨(l.map entOf).toArray, cl, tri l, put_heap hlt _ _, ents_tri l, fun p q => ?_⟩, ?_⟩
    · have hr : readL l x.a x.b = some x.v := by unfold readL; rw [hh]; rfl
      rw [hr]
      simp only [Instr.mapEntry, Sem.run_bind, run_underlying ht, Result.andThen_ok, MapKept.run_getObj_map h1, K.ck, hf, hh, hesn, Option.map_some, Option.getD_some, show (entOf x).key = kv x.a x.b from rfl, keyStays, hmod, MapKept.run_setObj_map _ h1, Sem.run_pure]
      rfl
    · have hr : readL l x.a x.b = some x.v := by unfold readL; rw [hh]; rfl
      show _ = if (p == x.a && q == x.b) = true then some ((readL l x.a x.b).getD z) else readL l p q
      by_cases hpq : (p == x.a && q == x.b) = true
      · rw [if_pos hpq]
        simp only [Bool.and_eq_true, beq_iff_eq] at hpq
        rw [hpq.1, hpq.2, hr, hh]; rfl
      · rw [if_neg hpq]; rfl
    · intro w2 hw2 t' v
      have hi := findIdx_ent h3 hx
      have hlt2 : g < w2.heap.size := (Array.getElem?_eq_some_iff.1 hw2).1
      refine ⟨((l.set n { x with v := v }).map entOf).toArray, l.set n { x with v := v }, ?_, ⟨put_heap hlt2 _ _, ?_, ?_, ?_⟩, ?_⟩
      · rw [store_run hw2 hi]
        refine congrArg (fun q => Result.ok () (putMap w2 g q cl)) ?_
        apply Array.ext_getElem?
        intro j
        rw [Array.getElem?_modify]
        simp only [List.getElem?_toArray, List.getElem?_map]
        rw [List.getElem?_set]
        by_cases hj : n = j
        · subst hj; simp [hx, entOf]; exact hnl
        · rw [if_neg hj, if_neg hj]
      · intro y hy
        rcases List.mem_or_eq_of_mem_set hy with hy | rfl
        · exact h2 y hy
        · exact h2 x (List.mem_of_getElem? hx)
      · have : (l.set n { x with v := v }).map (·.s) = l.map (·.s) := by
          apply List.ext_getElem?
          intro j
          rw [List.getElem?_map, List.getElem?_map, List.getElem?_set]
          by_cases hj : n = j
          · subst hj; simp [hx]; exact hnl
          · rw [if_neg hj]
        rw [this]; exact h3
      · have : (l.set n { x with v := v }).map (fun x => (x.a, x.b)) = l.map fun x => (x.a, x.b) := by
          apply List.ext_getElem?
          intro j
          rw [List.getElem?_map, List.getElem?_map, List.getElem?_set]
          by_cases hj : n = j
          · subst hj; simp [hx]; exact hnl
          · rw [if_neg hj]
        rw [this]; exact h4
      · intro p q
        have e2 : tri (l.set n { x with v := v }) = (tri l).set n (x.a, x.b, v) := by
          unfold tri
          rw [List.map_set]
        have := findII_set x.a x.b p q x.v v (tri l) 0 n hh
        simp only [Nat.sub_zero] at this
        unfold readL
        rw [e2, this]

theorem erase_filter {α : Type} {p : α → Bool} : ∀ {l : List α} {n : Nat} {x : α}, l[n]? = some x → p x = false → (∀ j y, j ≠ n → l[j]? = some y → p y = true) → l.eraseIdx n = l.filter p
  | [], n, x, h, _, _ => by simp at h
  | y :: l, 0, x, h, hp, hall => by
    simp only [List.getElem?_cons_zero, Option.some.injEq] at h
    subst h
    rw [List.eraseIdx_zero, List.tail_cons, List.filter_cons, if_neg (by rw [hp]; simp)]
    refine (List.filter_eq_self.2 fun z hz => ?_).symm
    obtain ⟨i, hi⟩ := List.mem_iff_getElem?.1 hz
    exact hall (i + 1) z (by omega) (by simpa using hi)
  | y :: l, n + 1, x, h, hp, hall => by
    rw [List.eraseIdx_cons_succ, List.filter_cons, if_pos (hall 0 y (by omega) rfl)]
    congr 1
    exact erase_filter (by simpa using h) hp fun j z hj hz => hall (j + 1) z (by omega) (by simpa using hz)
theorem MapL.del {t k e : TypeId} (K : KeyII k) (ht : Try.prog.underlying t = some (.map k e)) {w : World} {g cl : Nat} {l : List Ent} (h : MapL w g l cl) {x : Ent} (hx : x ∈ l) (ty : TypeId) (ats : Array TypeId) (hat : ats[0]? = some t) :
    ∃ es, (Builtin.delete_ ats ty #[.map (some g), kv x.a x.b]).run Try.prog w = .ok (.tuple #[]) (putMap w g es cl) ∧ MapL (putMap w g es cl) g (l.filter fun y => !(y.s == x.s)) cl := by
  have hlt := h.lt
  obtain ⟨h1, h2, h3, h4⟩ := h
  have hf := run_findKey K x.a x.b w (l.map entOf).toArray.toList (tri l) (ents_tri l)
  cases hh : findII x.a x.b (tri l) 0 with
  | none => exact absurd ⟨rfl, rfl⟩ (find_none hh x hx)
  | some r =>
    obtain ⟨n, u⟩ := r
    obtain ⟨y, hy, ha, hb, -⟩ := find_at hh
    obtain ⟨i, hi⟩ := List.mem_iff_getElem?.1 hx
    have hin : i = n := nodup_idx h4 (x := (x.a, x.b)) (by rw [List.getElem?_map, hi]; rfl) (by rw [List.getElem?_map, hy, ← ha, ← hb]; rfl)
    subst hin
    have hxn := hi
    have hlen := (List.getElem?_eq_some_iff.1 hi).1
    have hfil : l.eraseIdx i = l.filter fun y => !(y.s == x.s) := by
      refine erase_filter hxn (by simp) fun j z hj hz => ?_
      simp only [Bool.not_eq_true', beq_eq_false_iff_ne]
      intro he
      exact hj (nodup_idx h3 (x := x.s) (by rw [List.getElem?_map, hz, ← he]; rfl) (by rw [List.getElem?_map, hxn]; rfl))
    refine ⟨((l.filter fun y => !(y.s == x.s)).map entOf).toArray, ?_, put_heap hlt _ _, fun y hy => h2 y (List.mem_filter.1 hy).1, List.Nodup.sublist ((List.filter_sublist).map _) h3, List.Nodup.sublist ((List.filter_sublist).map _) h4⟩
    have he' : (l.map entOf).eraseIdx i = (l.filter fun y => !(y.s == x.s)).map entOf := by rw [← hfil, erase_map]
    have he : ((l.map entOf).toArray).eraseIdxIfInBounds i = ((l.filter fun y => !(y.s == x.s)).map entOf).toArray := by
      rw [← hfil, erase_map]
      apply Array.toList_inj.1
      simp [Array.eraseIdxIfInBounds, hlen]
    simp [Builtin.delete_, hat, run_underlying ht, MapKept.run_getObj_map h1, K.ck, hf, hh, MapKept.run_setObj_map _ h1, Result.andThen, putMap, he']
end Go.Proofs.Ytjjjockfppomdaa
