/- Maps whose keys are numbers, or anything whose sameness can be told: lookup, update, delete. The same for every seat. -/
import Derived.Test.YtgngpdnppdbgoaaGen
import Derived.Laws.StructEq
namespace Go.Proofs.Ytgngpdnppdbgoaa
open Go.RowKit Go.Shelf
set_option linter.unusedVariables false
set_option linter.unusedSectionVars false

section
variable {α : Type} [DecidableEq α]
def findG (a : α) : List (α × Value) → Nat → Option (Nat × Value)
  | [], _ => none
  | x :: l, i => if a = x.1 then some (i, x.2) else findG a l (i + 1)
def entsG (kf : α → Value) (es : List MapEntry) (l : List (α × Value)) : Prop := es.map (fun e => (e.key, e.val)) = l.map fun x => (kf x.1, x.2)
/-- keys that can be told apart -/
structure KeyG (k : TypeId) (kf : α → Value) : Prop where
  find : ∀ (a : α) (w : World) (es : List MapEntry) (l : List (α × Value)), entsG kf es l → (Instr.findKey k (kf a) es).run Try.prog w = .ok (findG a l 0) w
  ck : ∀ e a w, (Instr.checkKey e 10000 k (kf a)).run Try.prog w = .ok () w
  stays : ∀ a w, (Instr.keyThatStays (kf a) (kf a)).run Try.prog w = .ok (kf a) w
/-- block g is a map that reads so -/
def MapG (kf : α → Value) (w : World) (g : Nat) (B : α → Option Value) : Prop :=
  ∃ es clock l, w.heap[g]? = some (.map es clock) ∧ entsG kf es.toList l ∧ ∀ a, (findG a l 0).map (·.2) = B a
def putMap (w : World) (g : Nat) (es : Array MapEntry) (clock : Nat) : World := { w with heap := w.heap.setIfInBounds g (.map es clock) }
theorem grown_put {w : World} {g : Nat} (es : Array MapEntry) (cl : Nat) : w.grownBy (putMap w g es cl) (some g) := by
  refine ⟨rfl, rfl, rfl, by simp [putMap], fun k hk hne => ?_⟩
  simp only [putMap]
  rw [Array.getElem?_setIfInBounds_ne (fun e => hne (by rw [e]))]
variable {kf : α → Value}
theorem MapG.lt {w : World} {g : Nat} {B : α → Option Value} (h : MapG kf w g B) : g < w.heap.size := by
  obtain ⟨es, clock, l, h1, _⟩ := h
  rcases Nat.lt_or_ge g w.heap.size with hl | hl
  · exact hl
  · rw [Array.getElem?_eq_none hl] at h1; cases h1
theorem MapG.heap {w w' : World} {g : Nat} {B : α → Option Value} (h : MapG kf w g B) (hh : w'.heap[g]? = w.heap[g]?) : MapG kf w' g B := by
  obtain ⟨es, clock, l, h1, h2⟩ := h
  exact ⟨es, clock, l, hh.trans h1, h2⟩
theorem MapG.call {w w' : World} {g : Nat} {B : α → Option Value} (h : MapG kf w g B) (hb : Below w.heap.size w w') : MapG kf w' g B := h.heap (hb.block g h.lt)
theorem MapG.grown {w w' : World} {g : Nat} {B : α → Option Value} {row : Option Nat} (h : MapG kf w g B) (hb : w.grownBy w' row) (hg : some g ≠ row) : MapG kf w' g B := h.heap (hb.block g h.lt hg)
theorem MapG.new (w : World) : MapG kf (w.alloc (.map #[] 0)) w.heap.size fun _ => none :=
  ⟨#[], 0, [], by unfold World.alloc; simp, rfl, fun _ => rfl⟩
theorem MapG.same {w : World} {g : Nat} {B B' : α → Option Value} (h : MapG kf w g B) (e : ∀ a, B' a = B a) : MapG kf w g B' := by
  obtain ⟨es, cl, l, h1, h2, h3⟩ := h
  exact ⟨es, cl, l, h1, h2, fun a => (h3 a).trans (e a).symm⟩
theorem MapG.cells {w : World} {g : Nat} {B : α → Option Value} (h : MapG kf w g B) : ∃ o, w.heap[g]? = some o ∧ o.isCells = false := by
  obtain ⟨es, cl, l, h1, -⟩ := h
  exact ⟨_, h1, rfl⟩
theorem findG_shift (a : α) : ∀ (l : List (α × Value)) (i j : Nat), (findG a l i).map (·.2) = (findG a l j).map (·.2)
  | [], _, _ => rfl
  | x :: l, i, j => by
    unfold findG
    split
    · rfl
    · exact findG_shift a l _ _
theorem findG_snoc (a : α) (y : α × Value) : ∀ (l : List (α × Value)) (i : Nat), findG a l i = none → (findG a (l ++ [y]) i).map (·.2) = if a = y.1 then some y.2 else none
  | [], i, _ => by simp only [List.nil_append, findG]; split <;> rfl
  | x :: l, i, h => by
    simp only [List.cons_append, findG] at h ⊢
    split at h
    · cases h
    · rename_i hx
      rw [if_neg hx]
      exact findG_snoc a y l _ h
theorem findG_other (a : α) (y : α × Value) (hy : a ≠ y.1) : ∀ (l : List (α × Value)) (i : Nat), findG a (l ++ [y]) i = findG a l i
  | [], i => by simp [findG, hy]
  | x :: l, i => by simp only [List.cons_append, findG, findG_other a y hy l]
theorem findG_some (a : α) : ∀ (l : List (α × Value)) (i n : Nat) (v : Value), findG a l i = some (n, v) → i ≤ n ∧ n - i < l.length ∧ l[n - i]? = some (a, v)
  | [], i, n, v, h => by simp [findG] at h
  | x :: l, i, n, v, h => by
    unfold findG at h
    split at h
    · rename_i hx
      simp only [Option.some.injEq, Prod.mk.injEq] at h
      obtain ⟨rfl, rfl⟩ := h
      refine ⟨Nat.le_refl _, by simp, ?_⟩
      simp [hx]
    · obtain ⟨h1, h2, h3⟩ := findG_some a l (i + 1) n v h
      refine ⟨by omega, by simp; omega, ?_⟩
      rw [show n - i = (n - (i + 1)) + 1 by omega, List.getElem?_cons_succ]
      exact h3
theorem findG_set (a a' : α) (v v' : Value) : ∀ (l : List (α × Value)) (i n : Nat), findG a l i = some (n, v) →
    (findG a' (l.set (n - i) (a, v')) i).map (·.2) = if a' = a then some v' else (findG a' l i).map (·.2)
  | [], i, n, h => by simp [findG] at h
  | x :: l, i, n, h => by
    unfold findG at h
    split at h
    · rename_i hx
      simp only [Option.some.injEq, Prod.mk.injEq] at h
      obtain ⟨rfl, rfl⟩ := h
      simp only [Nat.sub_self, List.set_cons_zero, findG, ← hx]
      split <;> rfl
    · rename_i hx
      have h1 := (findG_some a l (i + 1) n v h).1
      rw [show n - i = (n - (i + 1)) + 1 by omega, List.set_cons_succ]
      have ih := findG_set a a' v v' l (i + 1) n h
      by_cases hx' : a' = x.1
      · have : a' ≠ a := fun e => hx (e ▸ hx')
        simp only [findG, if_pos hx', if_neg this]
      · simp only [findG, if_neg hx']
        exact ih
theorem findG_erase (a a' : α) (v : Value) (hne : a' ≠ a) : ∀ (l : List (α × Value)) (i n : Nat), findG a l i = some (n, v) →
    (findG a' (l.eraseIdx (n - i)) i).map (·.2) = (findG a' l i).map (·.2)
  | [], i, n, h => by simp [findG] at h
  | x :: l, i, n, h => by
    unfold findG at h
    split at h
    · rename_i hx
      simp only [Option.some.injEq, Prod.mk.injEq] at h
      obtain ⟨rfl, rfl⟩ := h
      simp only [Nat.sub_self, List.eraseIdx_zero, List.tail_cons, findG, ← hx, if_neg hne]
      exact findG_shift _ _ _ _
    · have h1 := (findG_some a l (i + 1) n v h).1
      rw [show n - i = (n - (i + 1)) + 1 by omega, List.eraseIdx_cons_succ]
      have ih := findG_erase a a' v hne l (i + 1) n h
      unfold findG
      split
      · rfl
      · exact ih
theorem MapG.lookup {t k e : TypeId} (K : KeyG k kf) (ht : Try.prog.underlying t = some (.map k e)) {w : World} {g : Nat} {B : α → Option Value} (h : MapG kf w g B) (a : α) {z : Value} (hz : (zeroValue e).run Try.prog w = .ok z w) :
    (Instr.lookup t (.map (some g)) (kf a) true).run Try.prog w = .ok (match B a with | some v => .tuple #[v, .bool true] | none => .tuple #[z, .bool false]) w := by
  obtain ⟨es, clock, l, h1, h2, h3⟩ := h
  have hf := K.find a w es.toList l h2
  have hb := h3 a
  simp only [Instr.lookup, Sem.run_bind, run_underlying ht, Result.andThen_ok, MapKept.run_getObj_map h1, Sem.run_pure, K.ck, hf]
  cases hh : findG a l 0 with
  | none =>
    rw [hh] at hb
    simp only [Option.map_none] at hb
    simp [← hb, hz]
  | some r =>
    rw [hh] at hb
    simp only [Option.map_some] at hb
    simp [← hb]
theorem MapG.lookup1 {t k e : TypeId} (K : KeyG k kf) (ht : Try.prog.underlying t = some (.map k e)) {w : World} {g : Nat} {B : α → Option Value} (h : MapG kf w g B) (a : α) {z : Value} (hz : (zeroValue e).run Try.prog w = .ok z w) :
    (Instr.lookup t (.map (some g)) (kf a) false).run Try.prog w = .ok ((B a).getD z) w := by
  obtain ⟨es, clock, l, h1, h2, h3⟩ := h
  have hf := K.find a w es.toList l h2
  have hb := h3 a
  simp only [Instr.lookup, Sem.run_bind, run_underlying ht, Result.andThen_ok, MapKept.run_getObj_map h1, Sem.run_pure, K.ck, hf]
  cases hh : findG a l 0 with
  | none =>
    rw [hh] at hb
    simp only [Option.map_none] at hb
    simp [← hb, hz]
  | some r =>
    rw [hh] at hb
    simp only [Option.map_some] at hb
    simp [← hb]
theorem erase_map {α β : Type} (f : α → β) : ∀ (l : List α) (n : Nat), (l.eraseIdx n).map f = (l.map f).eraseIdx n
  | [], n => by simp
  | x :: l, 0 => by simp
  | x :: l, n + 1 => by simp [erase_map f l n]
theorem MapG.update {t k e : TypeId} (K : KeyG k kf) (ht : Try.prog.underlying t = some (.map k e)) {w : World} {g : Nat} {B : α → Option Value} (h : MapG kf w g B) (a : α) (v : Value) :
    ∃ es clock, (Instr.mapUpdate t (.map (some g)) (kf a) v).run Try.prog w = .ok () (putMap w g es clock) ∧ MapG kf (putMap w g es clock) g fun x => if x = a then some v else B x := by
  have hlt := h.lt
  obtain ⟨es, clock, l, h1, h2, h3⟩ := h
  have hf := K.find a w es.toList l h2
  cases hh : findG a l 0 with
  | none =>
    refine ⟨es.push { key := kf a, val := v, born := clock }, clock + 1, ?_, es.push { key := kf a, val := v, born := clock }, clock + 1, l ++ [(a, v)], ?_, ?_, fun x => ?_⟩
    · simp [Instr.mapUpdate, run_underlying ht, MapKept.run_getObj_map h1, K.ck, hf, hh, MapKept.run_setObj_map _ h1, Result.andThen, putMap]
    · simp [putMap, hlt]
    · unfold entsG at h2 ⊢
      simp [h2]
    · show _ = if x = a then some v else B x
      by_cases hx : x = a
      · rw [if_pos hx, hx, findG_snoc a _ l 0 hh]
        simp
      · rw [if_neg hx, findG_other x _ hx]
        exact h3 x
  | some r =>
    obtain ⟨n, u⟩ := r
    obtain ⟨_, h5, h6⟩ := findG_some a l 0 n u hh
    simp only [Nat.sub_zero] at h5 h6
    have hlen : es.toList.length = l.length := by
      have := congrArg List.length h2
      simpa using this
    have hen : n < es.size := by simpa using (by omega : n < es.toList.length)
    have hkey : es[n].key = kf a := by
      have := congrArg (fun q => q[n]?) h2
      simp [h6, hen] at this
      exact this.1
    refine ⟨es.modify n fun e => { e with key := kf a, val := v }, clock, ?_, es.modify n (fun e => { e with key := kf a, val := v }), clock, l.set n (a, v), ?_, ?_, fun x => ?_⟩
    · simp [Instr.mapUpdate, run_underlying ht, MapKept.run_getObj_map h1, K.ck, hf, hh, hen, hkey, K.stays, MapKept.run_setObj_map _ h1, Result.andThen, putMap]
    · simp [putMap, hlt]
    · unfold entsG at h2 ⊢
      apply List.ext_getElem?
      intro i
      have := congrArg (fun q => q[i]?) h2
      simp only [List.getElem?_map, Array.getElem?_toList] at this ⊢
      rw [Array.getElem?_modify, List.getElem?_set]
      by_cases hi : n = i
      · subst hi
        simp [hen, h5]
      · simpa [hi] using this
    · have := findG_set a x u v l 0 n hh
      simp only [Nat.sub_zero] at this
      show _ = if x = a then some v else B x
      rw [this]
      split
      · rfl
      · exact h3 x
theorem MapG.delete {t k e : TypeId} (K : KeyG k kf) (ht : Try.prog.underlying t = some (.map k e)) {w : World} {g : Nat} {B : α → Option Value} (h : MapG kf w g B) (a : α) (ty : TypeId) (ats : Array TypeId) (hat : ats[0]? = some t) :
    ∃ es clock B', (Builtin.delete_ ats ty #[.map (some g), kf a]).run Try.prog w = .ok (.tuple #[]) (putMap w g es clock) ∧ MapG kf (putMap w g es clock) g B' ∧ ∀ x, x ≠ a → B' x = B x := by
  have hlt := h.lt
  obtain ⟨es, clock, l, h1, h2, h3⟩ := h
  have hf := K.find a w es.toList l h2
  cases hh : findG a l 0 with
  | none =>
    refine ⟨es, clock, B, ?_, ⟨es, clock, l, by simp [putMap, hlt], h2, h3⟩, fun _ _ => rfl⟩
    simp [Builtin.delete_, hat, run_underlying ht, MapKept.run_getObj_map h1, K.ck, hf, hh, MapKept.run_setObj_map _ h1, Result.andThen, putMap]
  | some r =>
    obtain ⟨n, u⟩ := r
    obtain ⟨_, h5, h6⟩ := findG_some a l 0 n u hh
    simp only [Nat.sub_zero] at h5 h6
    refine ⟨es.eraseIdxIfInBounds n, clock, fun x => (findG x (l.eraseIdx n) 0).map (·.2), ?_, ⟨es.eraseIdxIfInBounds n, clock, l.eraseIdx n, by simp [putMap, hlt], ?_, fun _ => rfl⟩, fun x hx => ?_⟩
    · simp [Builtin.delete_, hat, run_underlying ht, MapKept.run_getObj_map h1, K.ck, hf, hh, MapKept.run_setObj_map _ h1, Result.andThen, putMap]
    · unfold entsG at h2 ⊢
      have hen : n < es.size := by
        have := congrArg List.length h2
        simp at this; omega
      simp only [Array.eraseIdxIfInBounds, hen, dif_pos, Array.toList_eraseIdx]
      rw [erase_map, erase_map, h2]
    · have := findG_erase a x u hx l 0 n hh
      simp only [Nat.sub_zero] at this
      exact this.trans (h3 x)
end

/-! ### keys that are whole numbers -/
abbrev kI (n : Int) : Value := .int .i64 n
theorem keyI_find {k : TypeId} (hk : Try.prog.underlying k = some (.int .i64)) (a : Int) (w : World) (es : List MapEntry) (l : List (Int × Value)) (h : entsG kI es l) : (Instr.findKey k (kI a) es).run Try.prog w = .ok (findG a l 0) w := by
  have key : ∀ (es : List MapEntry) (l : List (Int × Value)) (i : Nat), entsG kI es l → Instr.findNow (.int .i64) (kI a) es i = some (findG a l i) := by
    intro es
    induction es with
    | nil =>
      intro l i h
      cases l with
      | nil => rfl
      | cons x l => simp [entsG] at h
    | cons e es ih =>
      intro l i h
      cases l with
      | nil => simp [entsG] at h
      | cons x l =>
        simp only [entsG, List.map_cons, List.cons.injEq, Prod.mk.injEq] at h
        obtain ⟨⟨h1, h2⟩, h3⟩ := h
        unfold Instr.findNow findG
        rw [h1]
        unfold kI Instr.sameNow
        simp only [if_true]
        by_cases hx : a = x.1
        · rw [if_pos hx]
          simp [hx, h2]
        · rw [if_neg hx]
          have : (a == x.1) = false := by simpa using hx
          rw [this]
          exact ih l (i + 1) h3
  simp only [Instr.findKey, Sem.run_bind, run_underlying hk, Result.andThen_ok, key es l 0 h, Sem.run_pure]
theorem keyI_stays (a : Int) (w : World) : (Instr.keyThatStays (kI a) (kI a)).run Try.prog w = .ok (kI a) w := by
  simp [Instr.keyThatStays, Instr.sameBits, kI]
/-! ### keys that are told apart by asking -/
section
variable {α : Type} [DecidableEq α]
theorem key_ask {k : TypeId} {kf : α → Value} {d : TypeDesc} (hu : Try.prog.underlying k = some d) (hs : ∀ a v, Instr.sameNow d (kf a) v = none) (he : ∀ a b w, (Op.equal k (kf a) (kf b)).run Try.prog w = .ok (decide (a = b)) w) (a : α) (w : World) (es : List MapEntry) (l : List (α × Value)) (h : entsG kf es l) :
    (Instr.findKey k (kf a) es).run Try.prog w = .ok (findG a l 0) w := by
  have key : ∀ (es : List MapEntry) (l : List (α × Value)) (i : Nat), entsG kf es l → (Instr.findAsking k (kf a) es i).run Try.prog w = .ok (findG a l i) w := by
    intro es
    induction es with
    | nil =>
      intro l i h
      cases l with
      | nil => simp [Instr.findAsking, findG]
      | cons x l => simp [entsG] at h
    | cons e es ih =>
      intro l i h
      cases l with
      | nil => simp [entsG] at h
      | cons x l =>
        simp only [entsG, List.map_cons, List.cons.injEq, Prod.mk.injEq] at h
        obtain ⟨⟨h1, h2⟩, h3⟩ := h
        have ih' := ih l (i + 1) h3
        simp only [Instr.findAsking, Sem.run_bind, h1, he, Result.andThen_ok, findG]
        by_cases hx : a = x.1
        · simp [hx, h2]
        · simpa [hx] using ih'
  simp only [Instr.findKey, Sem.run_bind, run_underlying hu, Result.andThen_ok]
  cases es with
  | nil =>
    cases l with
    | nil => simp [Instr.findNow, findG]
    | cons x l => simp [entsG] at h
  | cons e es =>
    have : Instr.findNow d (kf a) (e :: es) 0 = none := by simp [Instr.findNow, hs]
    rw [this]
    exact key (e :: es) l 0 h
end
end Go.Proofs.Ytgngpdnppdbgoaa
