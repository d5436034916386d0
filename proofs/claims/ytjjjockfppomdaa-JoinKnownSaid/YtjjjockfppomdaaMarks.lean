/- Loops whose rounds hold a range over a function: each one leaves a mark among the deferred calls. -/
import Derived.Test.YtjjjockfppomdaaSts
import Derived.Deep.LoopGhost
namespace Go.Proofs.Ytjjjockfppomdaa
open Go.RowKit Go.Shelf
set_option linter.unusedVariables false

def Marks (B T : Nat) (W : World) : List Deferred → Prop
  | [] => True
  | d :: r => (∃ D, d = { target := .collected D, args := #[] } ∧ B ≤ D ∧ D < T ∧ W.heap[D]? = some (.deferred (some [])) ∧ ∀ D', { target := .collected D', args := #[] } ∈ r → D' ≠ D) ∧ Marks B T W r
theorem Marks.keep {B T T' : Nat} {W W' : World} (hT : T ≤ T') (hk : ∀ D, B ≤ D → D < T → W.heap[D]? = some (.deferred (some [])) → W'.heap[D]? = some (.deferred (some []))) : ∀ {ds : List Deferred}, Marks B T W ds → Marks B T' W' ds
  | [], _ => trivial
  | d :: r, ⟨⟨D, h1, h2, h6, h3, h4⟩, h5⟩ => ⟨⟨D, h1, h2, by omega, hk D h2 h6 h3, h4⟩, h5.keep hT hk⟩
theorem Marks.lt {B T : Nat} {W : World} : ∀ {ds : List Deferred}, Marks B T W ds → ∀ D, { target := .collected D, args := #[] } ∈ ds → D < T
  | [], _, D, h => by cases h
  | d :: r, ⟨⟨D, h1, h2, h6, h3, h4⟩, h5⟩, D', h => by
    rcases List.mem_cons.1 h with h | h
    · subst h1
      injection h with h
      injection h with h
      rw [h]; exact h6
    · exact h5.lt D' h
theorem Marks.cons {B T T' D : Nat} {W W' : World} {ds : List Deferred} (h : Marks B T W ds) (hB : B ≤ D) (hT : T ≤ D) (hT' : D < T') (hD : W.heap[D]? = some (.deferred (some []))) : Marks B T' W ({ target := .collected D, args := #[] } :: ds) :=
  ⟨⟨D, rfl, hB, hT', hD, fun D' hD' => by have := h.lt D' hD'; omega⟩, h.keep (by omega) fun _ _ _ h => h⟩
theorem Marks.other {B T D : Nat} {W : World} (o : Obj) : ∀ {ds : List Deferred}, Marks B T W ds → (∀ D', { target := .collected D', args := #[] } ∈ ds → D' ≠ D) → Marks B T (W.putObj D o) ds
  | [], _, _ => trivial
  | d :: r, ⟨⟨D1, h1, h2, h6, h3, h4⟩, h5⟩, hn => ⟨⟨D1, h1, h2, h6, (World.putObj_heap_other (by have := hn D1 (by rw [h1]; exact List.mem_cons_self); omega)).trans h3, h4⟩, h5.other o fun D' hD' => hn D' (List.mem_cons_of_mem _ hD')⟩
theorem Marks.grown {B T : Nat} {W W' : World} {ds : List Deferred} {row : Option Nat} (h : Marks B T W ds) (hs : T ≤ W.heap.size) (hg : W.grownBy W' row) (hr : ∀ r, row = some r → T ≤ r ∨ r < B) : Marks B T W' ds :=
  h.keep (Nat.le_refl _) fun D h1 h2 h3 => (hg.block D (by omega) (fun e => by rcases hr D e.symm with h | h <;> omega)).trans h3
theorem Marks.chg {B T ga gu : Nat} {W W' : World} {ds : List Deferred} (h : Marks B T W ds) (hs : T ≤ W.heap.size) (hc : Chg ga gu W W') (h1 : ga < B) (h2 : gu < B) : Marks B T W' ds :=
  h.keep (Nat.le_refl _) fun D h3 h4 h5 => (hc.block D (by omega) (by omega) (by omega)).trans h5
theorem Marks.leave {B T n : Nat} {P : Program} {fn : Func} {tmps : Array Value} {R : Ending → World → Prop} (I : World → Prop) (hI : ∀ W D, B ≤ D → W.heap[D]? = some (.deferred (some [])) → I W → I (W.putObj D (.deferred none)))
    (hR : ∀ W, I W → LeavesInM Fence.wide n P fn tmps R [] .returning W) : ∀ (ds : List Deferred) (W : World), Marks B T W ds → I W → LeavesInM Fence.wide n P fn tmps R ds .returning W
  | [], W, _, h => hR W h
  | d :: r, W, ⟨⟨D, h1, h2, h6, h3, h4⟩, h5⟩, h => by
    subst h1
    exact ⟨by simp, .inl ⟨D, _, rfl, run_takeDeferred h3, Marks.leave I hI hR r _ (h5.other _ h4) (hI W D h2 h3 h)⟩⟩
theorem own_low {W : World} {base e size n b o : Nat} {v y : Value} {xs : List Value} (h : W.ownsRow base e size v n xs) (hb : b < base) : (W.setCell ⟨b, o, none⟩ y).ownsRow base e size v n xs := by
  refine h.kept (grown_setCell y) ?_
  cases hq : v.ownBlock with
  | none => exact .inl rfl
  | some q => exact .inr fun e => by have := (h.lt q hq).1; injection e with e; omega
end Go.Proofs.Ytjjjockfppomdaa
