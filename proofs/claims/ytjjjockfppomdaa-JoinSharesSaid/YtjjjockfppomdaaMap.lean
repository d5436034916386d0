/- Maps whose keys are structs of two ints. -/
import Derived.Test.YtjjjockfppomdaaGen
import Derived.Laws.StructEq
namespace Go.Proofs.Ytjjjockfppomdaa
open Go.RowKit Go.Shelf
set_option linter.unusedVariables false

abbrev kv (a b : Int) : Value := .agg #[.int .i64 a, .int .i64 b]

structure KeyII (k : TypeId) : Prop where
  und : ∃ fs, Try.prog.underlying k = some (.struct fs)
  eq : ∀ a b c d w, (Op.equal k (kv a b) (kv c d)).run Try.prog w = .ok (a == c && b == d) w
  ck : ∀ e a b w, (Instr.checkKey e 10000 k (kv a b)).run Try.prog w = .ok () w

def findII (a b : Int) : List (Int × Int × Value) → Nat → Option (Nat × Value)
  | [], _ => none
  | x :: l, i => if (a == x.1 && b == x.2.1) = true then some (i, x.2.2) else findII a b l (i + 1)

def entriesOf (es : List MapEntry) (l : List (Int × Int × Value)) : Prop := es.map (fun e => (e.key, e.val)) = l.map fun x => (kv x.1 x.2.1, x.2.2)

theorem run_findAsking {k : TypeId} (K : KeyII k) (a b : Int) (w : World) : ∀ (es : List MapEntry) (l : List (Int × Int × Value)) (i : Nat), entriesOf es l →
    (Instr.findAsking k (kv a b) es i).run Try.prog w = .ok (findII a b l i) w
  | [], [], i, _ => by simp [Instr.findAsking, findII]
  | [], x :: l, i, h => by simp [entriesOf] at h
  | e :: es, [], i, h => by simp [entriesOf] at h
  | e :: es, x :: l, i, h => by
    simp only [entriesOf, List.map_cons, List.cons.injEq, Prod.mk.injEq] at h
    obtain ⟨⟨h1, h2⟩, h3⟩ := h
    have ih := run_findAsking K a b w es l (i + 1) h3
    simp only [Instr.findAsking, Sem.run_bind, h1, K.eq, Result.andThen_ok, findII]
    cases hh : (a == x.1 && b == x.2.1)
    · simpa [hh] using ih
    · simp [h2]

theorem run_findKey {k : TypeId} (K : KeyII k) (a b : Int) (w : World) (es : List MapEntry) (l : List (Int × Int × Value)) (h : entriesOf es l) :
    (Instr.findKey k (kv a b) es).run Try.prog w = .ok (findII a b l 0) w := by
  obtain ⟨fs, hu⟩ := K.und
  simp only [Instr.findKey, Sem.run_bind, run_underlying hu, Result.andThen_ok]
  cases es with
  | nil =>
    cases l with
    | nil => simp [Instr.findNow, findII]
    | cons x l => simp [entriesOf] at h
  | cons e es =>
    have : Instr.findNow (.struct fs) (kv a b) (e :: es) 0 = none := by simp [Instr.findNow, Instr.sameNow]
    rw [this]
    exact run_findAsking K a b w (e :: es) l 0 h

/-- block g is a map that reads so -/
def MapOf (w : World) (g : Nat) (B : Int → Int → Option Value) : Prop :=
  ∃ es clock l, w.heap[g]? = some (.map es clock) ∧ entriesOf es.toList l ∧ ∀ a b, (findII a b l 0).map (·.2) = B a b

def putMap (w : World) (g : Nat) (es : Array MapEntry) (clock : Nat) : World := { w with heap := w.heap.setIfInBounds g (.map es clock) }

theorem MapOf.lt {w : World} {g : Nat} {B : Int → Int → Option Value} (h : MapOf w g B) : g < w.heap.size := by
  obtain ⟨es, clock, l, h1, _⟩ := h
  rcases Nat.lt_or_ge g w.heap.size with hl | hl
  · exact hl
  · rw [Array.getElem?_eq_none hl] at h1; cases h1
theorem MapOf.heap {w w' : World} {g : Nat} {B : Int → Int → Option Value} (h : MapOf w g B) (hh : w'.heap[g]? = w.heap[g]?) : MapOf w' g B := by
  obtain ⟨es, clock, l, h1, h2⟩ := h
  exact ⟨es, clock, l, hh.trans h1, h2⟩
theorem MapOf.new (w : World) : MapOf (w.alloc (.map #[] 0)) w.heap.size fun _ _ => none :=
  ⟨#[], 0, [], by unfold World.alloc; simp, rfl, fun _ _ => rfl⟩

theorem findII_none_shift (a b : Int) : ∀ (l : List (Int × Int × Value)) (i j : Nat), (findII a b l i).map (·.2) = (findII a b l j).map (·.2)
  | [], _, _ => rfl
  | x :: l, i, j => by
    unfold findII
    split
    · rfl
    · exact findII_none_shift a b l _ _
theorem findII_append (a b : Int) (y : Int × Int × Value) : ∀ (l : List (Int × Int × Value)) (i : Nat), findII a b l i = none → (findII a b (l ++ [y]) i).map (·.2) = if (a == y.1 && b == y.2.1) = true then some y.2.2 else none
  | [], i, _ => by simp only [List.nil_append, findII]; split <;> rfl
  | x :: l, i, h => by
    simp only [List.cons_append, findII] at h ⊢
    split at h
    · cases h
    · rename_i hx
      rw [if_neg hx]
      exact findII_append a b y l _ h
theorem findII_append_other (a b : Int) (y : Int × Int × Value) (hy : (a == y.1 && b == y.2.1) = false) : ∀ (l : List (Int × Int × Value)) (i : Nat), findII a b (l ++ [y]) i = findII a b l i
  | [], i => by simp [findII, hy]
  | x :: l, i => by simp only [List.cons_append, findII, findII_append_other a b y hy l]
theorem findII_some (a b : Int) : ∀ (l : List (Int × Int × Value)) (i n : Nat) (v : Value), findII a b l i = some (n, v) → i ≤ n ∧ n - i < l.length ∧ l[n - i]? = some (a, b, v)
  | [], i, n, v, h => by simp [findII] at h
  | x :: l, i, n, v, h => by
    unfold findII at h
    split at h
    · rename_i hx
      simp only [Option.some.injEq, Prod.mk.injEq] at h
      simp only [Bool.and_eq_true, beq_iff_eq] at hx
      obtain ⟨rfl, rfl⟩ := h
      refine ⟨Nat.le_refl _, by simp, ?_⟩
      simp [hx.1, hx.2]
    · obtain ⟨h1, h2, h3⟩ := findII_some a b l (i + 1) n v h
      refine ⟨by omega, by simp; omega, ?_⟩
      rw [show n - i = (n - (i + 1)) + 1 by omega, List.getElem?_cons_succ]
      exact h3
theorem findII_set (a b a' b' : Int) (v v' : Value) : ∀ (l : List (Int × Int × Value)) (i n : Nat), findII a b l i = some (n, v) →
    (findII a' b' (l.set (n - i) (a, b, v')) i).map (·.2) = if (a' == a && b' == b) = true then some v' else (findII a' b' l i).map (·.2)
  | [], i, n, h => by simp [findII] at h
  | x :: l, i, n, h => by
    unfold findII at h
    split at h
    · rename_i hx
      simp only [Option.some.injEq, Prod.mk.injEq] at h
      obtain ⟨rfl, rfl⟩ := h
      simp only [Bool.and_eq_true, beq_iff_eq] at hx
      simp only [Nat.sub_self, List.set_cons_zero, findII, ← hx.1, ← hx.2]
      split <;> rfl
    · rename_i hx
      have h1 := (findII_some a b l (i + 1) n v h).1
      rw [show n - i = (n - (i + 1)) + 1 by omega, List.set_cons_succ]
      have ih := findII_set a b a' b' v v' l (i + 1) n h
      by_cases hx' : (a' == x.1 && b' == x.2.1) = true
      · simp only [findII, hx', if_true]
        have : (a' == a && b' == b) = false := by
          simp only [Bool.and_eq_true, beq_iff_eq] at hx' hx
          simp only [Bool.and_eq_false_iff, beq_eq_false_iff_ne]
          rw [hx'.1, hx'.2]
          by_cases e : a = x.1
          · right; intro e2; exact hx ⟨e, e2.symm⟩
          · left; exact fun e2 => e e2.symm
        simp [this]
      · simp only [findII, hx', if_false, Bool.false_eq_true]
        exact ih
theorem findII_erase (a b a' b' : Int) (v : Value) (hne : (a' == a && b' == b) = false) : ∀ (l : List (Int × Int × Value)) (i n : Nat), findII a b l i = some (n, v) →
    (findII a' b' (l.eraseIdx (n - i)) i).map (·.2) = (findII a' b' l i).map (·.2)
  | [], i, n, h => by simp [findII] at h
  | x :: l, i, n, h => by
    unfold findII at h
    split at h
    · rename_i hx
      simp only [Option.some.injEq, Prod.mk.injEq] at h
      obtain ⟨rfl, rfl⟩ := h
      simp only [Bool.and_eq_true, beq_iff_eq] at hx
      simp only [Nat.sub_self, List.eraseIdx_zero, List.tail_cons, findII, ← hx.1, ← hx.2, hne]
      exact findII_none_shift _ _ _ _ _
    · have h1 := (findII_some a b l (i + 1) n v h).1
      rw [show n - i = (n - (i + 1)) + 1 by omega, List.eraseIdx_cons_succ]
      have ih := findII_erase a b a' b' v hne l (i + 1) n h
      unfold findII
      split
      · rfl
      · exact ih

theorem MapOf.lookup {t k e : TypeId} (K : KeyII k) (ht : Try.prog.underlying t = some (.map k e)) {w : World} {g : Nat} {B : Int → Int → Option Value} (h : MapOf w g B) (a b : Int) {z : Value} (hz : (zeroValue e).run Try.prog w = .ok z w) :
    (Instr.lookup t (.map (some g)) (kv a b) true).run Try.prog w = .ok (match B a b with | some v => .tuple #[v, .bool true] | none => .tuple #[z, .bool false]) w := by
  obtain ⟨es, clock, l, h1, h2, h3⟩ := h
  have hf := run_findKey K a b w es.toList l h2
  have hb := h3 a b
  simp only [Instr.lookup, Sem.run_bind, run_underlying ht, Result.andThen_ok, MapKept.run_getObj_map h1, Sem.run_pure, K.ck, hf]
  cases hh : findII a b l 0 with
  | none =>
    rw [hh] at hb
    simp only [Option.map_none] at hb
    simp [← hb, hz]
  | some r =>
    rw [hh] at hb
    simp only [Option.map_some] at hb
    simp [← hb]
theorem MapOf.lookup1 {t k e : TypeId} (K : KeyII k) (ht : Try.prog.underlying t = some (.map k e)) {w : World} {g : Nat} {B : Int → Int → Option Value} (h : MapOf w g B) (a b : Int) {z : Value} (hz : (zeroValue e).run Try.prog w = .ok z w) :
    (Instr.lookup t (.map (some g)) (kv a b) false).run Try.prog w = .ok ((B a b).getD z) w := by
  obtain ⟨es, clock, l, h1, h2, h3⟩ := h
  have hf := run_findKey K a b w es.toList l h2
  have hb := h3 a b
  simp only [Instr.lookup, Sem.run_bind, run_underlying ht, Result.andThen_ok, MapKept.run_getObj_map h1, Sem.run_pure, K.ck, hf]
  cases hh : findII a b l 0 with
  | none =>
    rw [hh] at hb
    simp only [Option.map_none] at hb
    simp [← hb, hz]
  | some r =>
    rw [hh] at hb
    simp only [Option.map_some] at hb
    simp [← hb]

theorem erase_map {α β : Type} (f : α → β) : ∀ (l : List α) (n : Nat), (l.eraseIdx n).map f = (l.map f).eraseIdx n
  | [], n => by simp
  | x :: l, 0 => by simp
  | x :: l, n + 1 => by simp [erase_map f l n]
theorem keyStays (a b : Int) (w : World) : (Instr.keyThatStays (kv a b) (kv a b)).run Try.prog w = .ok (kv a b) w := by
  simp [Instr.keyThatStays, Instr.sameBits]

theorem MapOf.update {t k e : TypeId} (K : KeyII k) (ht : Try.prog.underlying t = some (.map k e)) {w : World} {g : Nat} {B : Int → Int → Option Value} (h : MapOf w g B) (a b : Int) (v : Value) :
    ∃ es clock, (Instr.mapUpdate t (.map (some g)) (kv a b) v).run Try.prog w = .ok () (putMap w g es clock) ∧ MapOf (putMap w g es clock) g fun x y => if (x == a && y == b) = true then some v else B x y := by
  have hlt := h.lt
  obtain ⟨es, clock, l, h1, h2, h3⟩ := h
  have hf := run_findKey K a b w es.toList l h2
  cases hh : findII a b l 0 with
  | none =>
    refine ⟨es.push { key := kv a b, val := v, born := clock }, clock + 1, ?_, es.push { key := kv a b, val := v, born := clock }, clock + 1, l ++ [(a, b, v)], ?_, ?_, fun x y => ?_⟩
    · simp [Instr.mapUpdate, run_underlying ht, MapKept.run_getObj_map h1, K.ck, hf, hh, MapKept.run_setObj_map _ h1, Result.andThen, putMap]
    · simp [putMap, hlt]
    · unfold entriesOf at h2 ⊢
      simp [h2]
    · show _ = if (x == a && y == b) = true then some v else B x y
      by_cases hxy : (x == a && y == b) = true
      · rw [if_pos hxy]
        simp only [Bool.and_eq_true, beq_iff_eq] at hxy
        rw [hxy.1, hxy.2, findII_append a b _ l 0 hh]
        simp
      · rw [if_neg hxy, findII_append_other x y _ (by simpa using hxy)]
        exact h3 x y
  | some r =>
    obtain ⟨n, u⟩ := r
    obtain ⟨_, h5, h6⟩ := findII_some a b l 0 n u hh
    simp only [Nat.sub_zero] at h5 h6
    have hlen : es.toList.length = l.length := by
      have := congrArg List.length h2
      simpa using this
    have hen : n < es.size := by simpa using (by omega : n < es.toList.length)
    have hkey : es[n].key = kv a b := by
      have := congrArg (fun q => q[n]?) h2
      simp [h6, hen] at this
      exact this.1
    refine ⟨es.modify n fun e => { e with key := kv a b, val := v }, clock, ?_, es.modify n (fun e => { e with key := kv a b, val := v }), clock, l.set n (a, b, v), ?_, ?_, fun x y => ?_⟩
    · simp [Instr.mapUpdate, run_underlying ht, MapKept.run_getObj_map h1, K.ck, hf, hh, hen, hkey, keyStays, MapKept.run_setObj_map _ h1, Result.andThen, putMap]
    · simp [putMap, hlt]
    · unfold entriesOf at h2 ⊢
      apply List.ext_getElem?
      intro i
      have := congrArg (fun q => q[i]?) h2
      simp only [List.getElem?_map, Array.getElem?_toList] at this ⊢
      rw [Array.getElem?_modify, List.getElem?_set]
      by_cases hi : n = i
      · subst hi
        simp [hen, h5]
      · simpa [hi] using this
    · have := findII_set a b x y u v l 0 n hh
      simp only [Nat.sub_zero] at this
      show _ = if (x == a && y == b) = true then some v else B x y
      rw [this]
      split
      · rfl
      · exact h3 x y

theorem MapOf.delete {t k e : TypeId} (K : KeyII k) (ht : Try.prog.underlying t = some (.map k e)) {w : World} {g : Nat} {B : Int → Int → Option Value} (h : MapOf w g B) (a b : Int) (ty : TypeId) (ats : Array TypeId) (hat : ats[0]? = some t) :
    ∃ es clock B', (Builtin.delete_ ats ty #[.map (some g), kv a b]).run Try.prog w = .ok (.tuple #[]) (putMap w g es clock) ∧ MapOf (putMap w g es clock) g B' ∧ ∀ x y, (x == a && y == b) = false → B' x y = B x y := by
  have hlt := h.lt
  obtain ⟨es, clock, l, h1, h2, h3⟩ := h
  have hf := run_findKey K a b w es.toList l h2
  cases hh : findII a b l 0 with
  | none =>
    refine ⟨es, clock, B, ?_, ⟨es, clock, l, by simp [putMap, hlt], h2, h3⟩, fun _ _ _ => rfl⟩
    simp [Builtin.delete_, hat, run_underlying ht, MapKept.run_getObj_map h1, K.ck, hf, hh, MapKept.run_setObj_map _ h1, Result.andThen, putMap]
  | some r =>
    obtain ⟨n, u⟩ := r
    obtain ⟨_, h5, h6⟩ := findII_some a b l 0 n u hh
    simp only [Nat.sub_zero] at h5 h6
    refine ⟨es.eraseIdxIfInBounds n, clock, fun x y => (findII x y (l.eraseIdx n) 0).map (·.2), ?_, ⟨es.eraseIdxIfInBounds n, clock, l.eraseIdx n, by simp [putMap, hlt], ?_, fun _ _ => rfl⟩, fun x y hxy => ?_⟩
    · simp [Builtin.delete_, hat, run_underlying ht, MapKept.run_getObj_map h1, K.ck, hf, hh, MapKept.run_setObj_map _ h1, Result.andThen, putMap]
    · unfold entriesOf at h2 ⊢
      have hen : n < es.size := by
        have := congrArg List.length h2
        simp at this; omega
      simp only [Array.eraseIdxIfInBounds, hen, dif_pos, Array.toList_eraseIdx]
      rw [erase_map, erase_map, h2]
    · have := findII_erase a b x y u hxy l 0 n hh
      simp only [Nat.sub_zero] at this
      exact this.trans (h3 x y)
end Go.Proofs.Ytjjjockfppomdaa
