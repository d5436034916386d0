/- Regions that draw their order, inside the wide fence: a head of operations that read or call what reads and makes memory, and behind all of them a tail in which the body of a range may be called. -/
import Derived.Test.YtjjjockfppomdaaTail
namespace Go.Proofs.Ytjjjockfppomdaa
open Go.RowKit
set_option linter.unusedVariables false

section
variable {m : Nat} {P : Program} {ops : Array Oper} {Q : Exit → Act → World → Prop} {C : World → Prop} {md : Region.Mode}

theorem wideOp_of_qOp {i : Nat} {a : Act} {K : Act → Prop} {K' : Act → World → Prop} {Q' : Exit → Act → World → Prop} {w : World} (hC : C w) (h : ∀ a w', C w' → K a → K' a w') (hh : qOp P ops C i K a) : wpOpIn Fence.wide m P ops Q' i K' a w := by
  unfold qOp at hh
  unfold wpOpIn
  split
  · rename_i ho; simp only [ho] at hh; exact h _ _ hC hh
  · rename_i o ho
    simp only [ho] at hh
    split
    · rename_i hw
      simp only [hw, if_true] at hh
      obtain ⟨v, h1, h2⟩ := hh
      have h3 := h1 w hC
      unfold Oper.quietAt at h3
      unfold Oper.wpIn
      refine ⟨fun _ _ => trivial, ?_⟩
      rw [show Fence.wide.round = none from rfl, Oper.semAt_none]
      generalize (execOp a.eval o).run P w = r at *
      cases r with
      | ok n w' =>
        cases n <;> simp only [Oper.quietUpon] at h3 <;> simp only [Oper.uponIn]
        case value u =>
          obtain ⟨e1, e2⟩ := h3
          rw [e1, e2]
          exact h _ _ hC h2
        case skip =>
          obtain ⟨e1, e2⟩ := h3
          rw [e1, ← e2]
          exact h _ _ hC h2
        case enter f args =>
          obtain ⟨e1, hc⟩ := h3
          rw [e1]
          exact ⟨fun hh => by simp [Fence.wide] at hh, callsIn_wide.2 (hc.mono fun e w'' ⟨he, hw''⟩ => by subst he; exact h _ _ hw'' h2)⟩
      | halt x w' => simp only [Oper.quietUpon] at h3
    · rename_i hw; simp only [hw] at hh; exact ⟨fun _ _ => trivial, h _ _ hC hh⟩
theorem wideAny_more {Q' : Exit → Act → World → Prop} : ∀ (f : Nat) (listed : Array Bool) (a : Act) (w : World), wpAnyIn Fence.wide m P md ops Q' f listed a w → wpAnyIn Fence.wide m P md ops Q' (f + 1) listed a w
  | 0, listed, a, w, h => ⟨fun _ => h.2, by rw [h.1]; simp⟩
  | f + 1, listed, a, w, h => ⟨h.1, fun i hi => wpOpIn_mono (fun a' w' h' => wideAny_more f _ a' w' h') (h.2 i hi)⟩
theorem wideAny_plus {Q' : Exit → Act → World → Prop} {g : Nat} {listed : Array Bool} {a : Act} {w : World} (h : wpAnyIn Fence.wide m P md ops Q' g listed a w) : ∀ f, wpAnyIn Fence.wide m P md ops Q' (f + g) listed a w
  | 0 => by rw [Nat.zero_add]; exact h
  | f + 1 => by rw [show f + 1 + g = (f + g) + 1 by omega]; exact wideAny_more _ _ _ _ (wideAny_plus h f)
theorem wideAny_of_seq {Q' : Exit → Act → World → Prop} : ∀ (l : List Oper) (k : Nat) (listed : Array Bool) (a : Act) (w : World), (∀ j, l[j]? = ops[k + j]?) →
    Region.seqB md ops l.length k listed = true → wpListIn Fence.wide m P ops Q' l a w → wpAnyIn Fence.wide m P md ops Q' l.length listed a w
  | [], _, _, _, _, _, hB, h => ⟨by simpa [Region.seqB] using hB, h⟩
  | o :: l, k, listed, a, w, hl, hB, h => by
    have h0 : ops[k]? = some o := by simpa using (hl 0).symm
    simp only [List.length_cons, Region.seqB, Bool.and_eq_true, decide_eq_true_eq] at hB
    refine ⟨fun h1 => (by rw [hB.1] at h1; cases h1), fun i hi => ?_⟩
    rw [hB.1] at hi
    have hik : i = k := by simpa using hi
    subst hik
    have hw : wpOpIn Fence.wide m P ops Q' i (wpListIn Fence.wide m P ops Q' l) a w := by unfold wpOpIn; simp only [h0]; exact h
    exact wpOpIn_mono (fun a' w' h' => wideAny_of_seq l (i + 1) _ a' w' (fun j => by have := hl (j + 1); simpa [Nat.add_assoc, Nat.add_comm 1 j] using this) hB.2 h') hw

theorem wide_tail {n : Nat} {Q' : Exit → Act → World → Prop} {Lq : Act → World → Prop} (hs : Region.sinkB md ops n = true) (hc : Region.chainB md ops n = true) (hb : backB md ops n = true) (hn : n < ops.size) {g : Nat}
    (hL : ∀ a w, C w → Lq a w → wpAnyIn Fence.wide m P md ops Q' g (headL ops.size n) a w) : ∀ (f : Nat) (listed : Array Bool) (a : Act) (w : World), HeadInv md ops n listed → C w →
    wpAnyQ P md (ops.take n) C (fun a' => ∀ w', C w' → Lq a' w') f listed a → wpAnyIn Fence.wide m P md ops Q' (f + g) listed a w := by
  have hfin : ∀ (f : Nat) (listed : Array Bool) (a : Act) (w : World), HeadInv md ops n listed → C w → Region.ready md (ops.take n) listed = [] → (∀ w', C w' → Lq a w') → wpAnyIn Fence.wide m P md ops Q' (f + g) listed a w := by
    intro f listed a w inv hC hr hq
    rw [listed_eq hn inv (head_done hb hn inv hr)]
    exact wideAny_plus (hL a w hC (hq w hC)) f
  intro f
  induction f with
  | zero =>
    intro listed a w inv hC h
    exact hfin 0 listed a w inv hC h.1 h.2
  | succ f ih =>
    intro listed a w inv hC h
    by_cases hr : Region.ready md (ops.take n) listed = []
    · exact hfin (f + 1) listed a w inv hC hr (h.1 hr)
    · obtain ⟨i0, hi0⟩ := List.exists_mem_of_ne_nil _ hr
      obtain ⟨hi0n, hi0r⟩ := ready_take.1 hi0
      have hun := (mem_ready.1 hi0r).1
      rw [show f + 1 + g = (f + g) + 1 by omega]
      refine ⟨fun h0 => (by rw [h0] at hi0r; cases hi0r), fun j hj => ?_⟩
      have hjn : j < n := by
        rcases Nat.lt_or_ge j n with h' | h'
        · exact h'
        · exact absurd hj (tail_waits hs hc hn inv _ i0 rfl hi0n hun j h')
      have hq := h.2 j (ready_take.2 ⟨hjn, hj⟩)
      exact wideOp_of_qOp hC (fun a' w' hw' hh => ih _ a' w' (inv.set hj hjn) hw' hh) (qOp_take hb hjn hq)

theorem wide_of_tailOk {Q' : Exit → Act → World → Prop} {l : List Oper} {n : Nat} {a : Act} {W : World} (hB : tailOk l.toArray n = true) (hC : C W.drew)
    (h : wpQuiet P (l.take n).toArray C (fun a' => ∀ w', C w' → wpListIn Fence.wide m P l.toArray Q' (l.drop n) a' w') (l.take n) a) : wpAnyIn Fence.wide m P .any l.toArray Q' l.toArray.size (Array.replicate l.toArray.size false) a W.drew := by
  simp only [tailOk, Bool.and_eq_true, decide_eq_true_eq] at hB
  obtain ⟨⟨⟨⟨⟨⟨hn, hs⟩, hc⟩, hb⟩, hsel⟩, hlex⟩, hseq⟩ := hB
  have hn' : n < l.length := by simpa using hn
  have htk : l.toArray.take n = (l.take n).toArray := by simp
  have htl : (l.take n).length = n := by simp; omega
  have inv0 : HeadInv .any l.toArray n (Array.replicate l.toArray.size false) :=
    ⟨by simp, fun j oj _ hl => (by rw [getD_replicate_false] at hl; cases hl), fun t _ ht => getD_in (by simpa using ht) (getD_replicate_false _ _)⟩
  rw [htk] at hsel hlex
  have hq := wpAnyQ_lex (C := C) (md := .any) hsel (l.take n) 0 (Array.replicate l.toArray.size false) a (by simp) (by rw [htl]; exact hlex) h
  rw [htl] at hq
  have := wide_tail (m := m) (P := P) (Q' := Q') (Lq := fun a' w' => wpListIn Fence.wide m P l.toArray Q' (l.drop n) a' w') hs hc hb hn (g := l.toArray.size - n) (fun a w _ hl => by
    have := wideAny_of_seq (m := m) (md := .any) (ops := l.toArray) (Q' := Q') (l.drop n) n (headL l.toArray.size n) a w (fun j => by simp [List.getElem?_drop]) (by rw [show (l.drop n).length = l.toArray.size - n by simp]; exact hseq) hl
    rwa [show (l.drop n).length = l.toArray.size - n by simp] at this) n _ a W.drew inv0 hC (by rw [htk]; exact hq)
  rwa [show n + (l.toArray.size - n) = l.toArray.size by omega] at this

theorem wide_region_tail {id : Nat} {a : Act} {W : World} {l : List Oper} (n : Nat) (hm : P.follows .mixedOrders = true) (hB : tailOk l.toArray n = true) (hC : C W.drew)
    (h : wpQuiet P (l.take n).toArray C (fun a' => ∀ w', C w' → wpListIn Fence.wide m P l.toArray Q (l.drop n) a' w') (l.take n) a) : (Code.region id l.toArray true).wpIn Fence.wide m P Q a W :=
  wpIn_region_any hm (wide_of_tailOk hB hC h)
theorem wide_skip {o : Oper} {rest : List Oper} {a : Act} {w : World} (hw : Region.wanted o (yielded ops a.tmps) = false) (h : wpListIn Fence.wide m P ops Q rest (a.put o.dst undef) w) : wpListIn Fence.wide m P ops Q (o :: rest) a w := by
  simp only [wpListIn, hw]
  exact ⟨fun _ _ => trivial, h⟩
end
end Go.Proofs.Ytjjjockfppomdaa
