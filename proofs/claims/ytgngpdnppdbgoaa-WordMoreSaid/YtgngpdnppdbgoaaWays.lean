/- Regions that draw their order, walked in every order that is left: reads are taken first, what comes up beside others parts the walk. -/
import Derived.Test.YtgngpdnppdbgoaaSched
import Derived.Test.YtgngpdnppdbgoaaGen
import Derived.Below
import Derived.Deep.Cut
import Derived.Deep.CutBlock
import Derived.Deep.DeepCutAuto
namespace Go.Proofs.Ytgngpdnppdbgoaa
open Go.RowKit
set_option linter.unusedVariables false

section
variable {P : Program} {Q : Exit → Act → World → Prop} {C : World → Prop} {l : List Oper}

theorem ways_start {id : Nat} {a : Act} {W : World} (n : Nat) (C : World → Prop) (hn : l.toArray.size = n) (hm : P.follows .mixedOrders = true) (h : wpAnyH P .any l.toArray (NoP Q) C n (Array.replicate n false) a W.drew) : (Code.region id l.toArray true).wp P Q a W := by
  subst hn
  exact wp_mono (wp_region_held hm h) NoP_imp

theorem ways_q {rest : List Oper} {fuel : Nat} {listed : Array Bool} {a : Act} {w : World} {o : Oper} (i : Nat) (hi : l.drop i = o :: rest) (hv : valOnly o = true) (hs : Region.noSelect l.toArray = true) (hf : Region.free .any l.toArray listed i = true) (hr : (Region.ready .any l.toArray listed).contains i = true)
    (hw : Region.wanted o (yielded l.toArray a.tmps) = true) (hC : C w) (h : ∀ K : Act → Prop, (∀ a', wpAnyH P .any l.toArray (NoP Q) C fuel (listed.setIfInBounds i true) a' w → K a') → o.quiet P a C K) :
    wpAnyH P .any l.toArray (NoP Q) C (fuel + 1) listed a w := by
  have hi := getElem?_of_drop hi
  obtain ⟨v, hv', hn⟩ := h _ fun _ h => h
  exact wpAnyH_take hi hs hf hr (fun c a w hh => hh.elim) (yieldsIf_of_quiet hv hw hv') hC hn

/-- one of those that may come up -/
def Way (P : Program) (l : List Oper) (Q : Exit → Act → World → Prop) (C : World → Prop) (fuel : Nat) (listed : Array Bool) (a : Act) (w : World) (i : Nat) : Prop :=
  ∃ o rest, l.drop i = o :: rest ∧ Region.wanted o (yielded l.toArray a.tmps) = true ∧
    ∀ K : Act → World → Prop, (∀ a' w', C w' ∧ wpAnyH P .any l.toArray (NoP Q) C fuel (listed.setIfInBounds i true) a' w' → K a' w') → wpList P l.toArray (NoP (Exit.then K Q)) [o] a w
theorem Way.op {fuel : Nat} {listed : Array Bool} {a : Act} {w : World} {i : Nat} (h : Way P l Q C fuel listed a w i) : wpOp P l.toArray (NoP Q) i (fun a' w' => C w' ∧ wpAnyH P .any l.toArray (NoP Q) C fuel (listed.setIfInBounds i true) a' w') a w := by
  obtain ⟨o, rest, hi, hw, h⟩ := h
  have hi := getElem?_of_drop hi
  have h1 := h _ fun _ _ h => h
  simp only [wpList, hw, if_true] at h1
  unfold wpOp
  simp only [hi]
  show if _ then _ else _
  rw [if_pos hw]
  left
  rcases h1 with h1 | ⟨_, a', w', h2⟩
  · unfold Oper.wp at h1 ⊢
    generalize (execOp a.eval o).run P w = q at *
    cases q with
    | ok x w' =>
      cases x <;> simp only [Oper.upon] at h1 ⊢
      case value v => exact h1
      case skip => exact h1
      case defer d => exact h1
      case enter f args =>
        refine h1.mono fun e w'' hh => ?_
        cases e with
        | returned v => exact hh
        | panicked ch => exact hh.elim
        | outgrown => obtain ⟨a, w, hh⟩ := hh; exact hh.elim
      case row row args => exact h1
    | halt x w' => cases x <;> simp only [Oper.upon] at h1 ⊢ <;> first | exact h1 | exact h1.elim
  · exact h2.elim
theorem ways_1 {fuel : Nat} {listed : Array Bool} {a : Act} {w : World} (i : Nat) (hr : (Region.ready .any l.toArray listed == [i]) = true) (h : Way P l Q C fuel listed a w i) : wpAnyH P .any l.toArray (NoP Q) C (fuel + 1) listed a w := by
  refine wpAnyH_all (by simpa using hr) (by simp) fun j hj => ?_
  obtain rfl : j = i := by simpa using hj
  exact h.op
theorem ways_2 {fuel : Nat} {listed : Array Bool} {a : Act} {w : World} (i j : Nat) (hr : (Region.ready .any l.toArray listed == [i, j]) = true) (h1 : Way P l Q C fuel listed a w i) (h2 : Way P l Q C fuel listed a w j) : wpAnyH P .any l.toArray (NoP Q) C (fuel + 1) listed a w := by
  refine wpAnyH_all (by simpa using hr) (by simp) fun k hk => ?_
  have : k = i ∨ k = j := by simpa using hk
  rcases this with rfl | rfl
  · exact h1.op
  · exact h2.op
theorem ways_3 {fuel : Nat} {listed : Array Bool} {a : Act} {w : World} (i j m : Nat) (hr : (Region.ready .any l.toArray listed == [i, j, m]) = true) (h1 : Way P l Q C fuel listed a w i) (h2 : Way P l Q C fuel listed a w j) (h3 : Way P l Q C fuel listed a w m) : wpAnyH P .any l.toArray (NoP Q) C (fuel + 1) listed a w := by
  refine wpAnyH_all (by simpa using hr) (by simp) fun k hk => ?_
  have : k = i ∨ k = j ∨ k = m := by simpa using hk
  rcases this with rfl | rfl | rfl
  · exact h1.op
  · exact h2.op
  · exact h3.op
theorem ways_end {fuel : Nat} {listed : Array Bool} {a : Act} {w : World} (hr : (Region.ready .any l.toArray listed).isEmpty = true) (h : Q .normal a w) : wpAnyH P .any l.toArray (NoP Q) C fuel listed a w :=
  wpAnyH_done (by simpa using hr) (show NoP Q .normal a w from h) fuel
end

/-- an operation that is passed over, as one that moves nothing: the frame stays written out (go_big_quiet_op) -/
theorem schedH_s2 {P : Program} {Q : Exit → Act → World → Prop} {C : World → Prop} {l rest : List Oper} {i : Nat} {b : Bool} {r : List (Nat × Bool)} {a : Act} {w : World} {d : Option Tmp} {op : Op} {ty : TypeId} {pos : String} {af : Array Edge} {gd : Option (Nat × Bool)}
    (hi : l.drop i = Oper.mk d op ty pos af gd :: rest) (hw : Region.wanted (Oper.mk d op ty pos af gd) (yielded l.toArray a.tmps) = false) (hC : C w)
    (h : ∀ K : Act → Prop, (∀ a', wpSchedH P l.toArray C Q r a' w → K a') → (Oper.mk d (.move (.const undef)) ty pos af none).quiet P a C K) : wpSchedH P l.toArray C Q ((i, b) :: r) a w := by
  obtain ⟨v, h1, h2⟩ := h _ fun _ h => h
  have h3 := h1 w hC
  have hr : (execOp a.eval (Oper.mk d (.move (.const undef)) ty pos af none)).run P w = .ok (.value undef) w := rfl
  unfold Oper.quietAt at h3
  rw [hr] at h3
  simp only [Oper.quietUpon] at h3
  refine schedH_s hi hw ?_
  have hv : v = undef := by
    first
    | exact h3.1.symm
    | exact h3.1
    | exact h3.2.symm
    | exact h3.2
  rw [hv] at h2
  exact h2

/-- a struct of five cells, stored whole -/
theorem Blk.put5 {w : World} {g : Nat} {t : TypeId} {x0 x1 x2 x3 x4 : Value} (h : Blk w g t #[x0, x1, x2, x3, x4]) (a b c d e : Value) :
    Blk (((((w.setCell ⟨g, 0, none⟩ a).setCell ⟨g, 1, none⟩ b).setCell ⟨g, 2, none⟩ c).setCell ⟨g, 3, none⟩ d).setCell ⟨g, 4, none⟩ e) g t #[a, b, c, d, e] := by
  have := ((((h.set_ 0 a).set_ 1 b).set_ 2 c).set_ 3 d).set_ 4 e
  simpa using this
theorem Blk.far5 {w : World} {g g' : Nat} {t : TypeId} {cs : Array Value} (h : Blk w g' t cs) (hne : g' ≠ g) (a b c d e : Value) :
    Blk (((((w.setCell ⟨g, 0, none⟩ a).setCell ⟨g, 1, none⟩ b).setCell ⟨g, 2, none⟩ c).setCell ⟨g, 3, none⟩ d).setCell ⟨g, 4, none⟩ e) g' t cs :=
  ((((h.far hne a).far hne b).far hne c).far hne d).far hne e
theorem below_put5 {B : Nat} {v w : World} {g : Nat} (h : Below B v w) (hB : B ≤ g) (a b c d e : Value) :
    Below B v (((((w.setCell ⟨g, 0, none⟩ a).setCell ⟨g, 1, none⟩ b).setCell ⟨g, 2, none⟩ c).setCell ⟨g, 3, none⟩ d).setCell ⟨g, 4, none⟩ e) :=
  ((((h.setCell (p := ⟨g, 0, none⟩) hB a).setCell (p := ⟨g, 1, none⟩) hB b).setCell (p := ⟨g, 2, none⟩) hB c).setCell (p := ⟨g, 3, none⟩) hB d).setCell (p := ⟨g, 4, none⟩) hB e
end Go.Proofs.Ytgngpdnppdbgoaa
