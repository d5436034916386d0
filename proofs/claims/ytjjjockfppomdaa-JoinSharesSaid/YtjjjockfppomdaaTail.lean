/- Regions that draw their order: a head of operations that read or call what reads and makes memory, and behind all of them a tail that may write, which runs in the order of the text. Regions that draw their order, inside the wide fence: a head of operations that read or call what reads and makes memory, and behind all of them a tail in which the body of a range may be called. -/
import Derived.Test.YtjjjockfppomdaaSched
import Derived.StillTail
import Derived.Deep.Quiet
namespace Go.Proofs.Ytjjjockfppomdaa
open Go.RowKit
set_option linter.unusedVariables false

section
variable {P : Program} {ops : Array Oper} {Q : Exit → Act → World → Prop} {C : World → Prop} {md : Region.Mode}

def backB (md : Region.Mode) (ops : Array Oper) (n : Nat) : Bool :=
  (List.range n).all fun i => match ops[i]? with
    | none => false
    | some o => (o.after.all fun e => !Region.binds md e || decide (e.on < i)) && match o.guard with
      | none => true
      | some (j, _) => decide (j < n)

def headL (m n : Nat) : Array Bool := (Array.range m).map fun i => decide (i < n)

/-- the check of a region with a head of n operations -/
def tailOk (ops : Array Oper) (n : Nat) : Bool :=
  decide (n < ops.size) && Region.sinkB .any ops n && Region.chainB .any ops n && backB .any ops n && Region.noSelect (ops.take n) && Region.lexFrom .any (ops.take n) n 0 (Array.replicate ops.size false) && Region.seqB .any ops (ops.size - n) n (headL ops.size n)

theorem wpAny_more {Q' : Exit → Act → World → Prop} : ∀ (f : Nat) (listed : Array Bool) (a : Act) (w : World), wpAny P md ops Q' f listed a w → wpAny P md ops Q' (f + 1) listed a w
  | 0, listed, a, w, h => ⟨fun _ => h.2, by rw [h.1]; simp⟩
  | f + 1, listed, a, w, h => ⟨h.1, fun i hi => wpOp_mono (fun a' w' h' => wpAny_more f _ a' w' h') (h.2 i hi)⟩
theorem wpAny_plus {Q' : Exit → Act → World → Prop} {g : Nat} {listed : Array Bool} {a : Act} {w : World} (h : wpAny P md ops Q' g listed a w) : ∀ f, wpAny P md ops Q' (f + g) listed a w
  | 0 => by rw [Nat.zero_add]; exact h
  | f + 1 => by rw [show f + 1 + g = (f + g) + 1 by omega]; exact wpAny_more _ _ _ _ (wpAny_plus h f)

theorem take_get {n i : Nat} (h : i < n) : (ops.take n)[i]? = ops[i]? := by
  simp only [Array.take_eq_extract, Array.getElem?_extract]
  split
  · simp
  · symm; apply Array.getElem?_eq_none; omega
theorem take_none {n i : Nat} (h : n ≤ i) : (ops.take n)[i]? = none := by
  simp only [Array.take_eq_extract, Array.getElem?_extract]
  rw [if_neg (by omega)]

theorem ready_take {n i : Nat} {listed : Array Bool} : i ∈ Region.ready md (ops.take n) listed ↔ i < n ∧ i ∈ Region.ready md ops listed := by
  rw [mem_ready, mem_ready]
  constructor
  · rintro ⟨h1, o, h2, h3⟩
    have hi : i < n := by
      rcases Nat.lt_or_ge i n with h | h
      · exact h
      · rw [take_none h] at h2; cases h2
    rw [take_get hi] at h2
    exact ⟨hi, h1, o, h2, h3⟩
  · rintro ⟨hi, h1, o, h2, h3⟩
    exact ⟨h1, o, by rw [take_get hi]; exact h2, h3⟩

theorem backB_spec {n i : Nat} {o : Oper} (h : backB md ops n = true) (hi : i < n) (ho : ops[i]? = some o) : (∀ e ∈ o.after, Region.binds md e = true → e.on < i) ∧ ∀ j b, o.guard = some (j, b) → j < n := by
  have h1 := List.all_eq_true.1 h i (List.mem_range.2 hi)
  simp only [ho, Bool.and_eq_true] at h1
  refine ⟨fun e he hb => ?_, fun j b hg => ?_⟩
  · have := Array.all_eq_true_iff_forall_mem.1 h1.1 e he
    simpa [hb] using this
  · have := h1.2
    rw [hg] at this
    simpa using this

theorem qOp_take {n i : Nat} {K : Act → Prop} {a : Act} (hb : backB md ops n = true) (hi : i < n) (h : qOp P (ops.take n) C i K a) : qOp P ops C i K a := by
  unfold qOp at h ⊢
  rw [take_get hi] at h
  cases ho : ops[i]? with
  | none => simpa [ho] using h
  | some o =>
    simp only [ho] at h ⊢
    have hw : Region.wanted o (yielded (ops.take n) a.tmps) = Region.wanted o (yielded ops a.tmps) := by
      unfold Region.wanted
      cases hg : o.guard with
      | none => rfl
      | some p =>
        obtain ⟨j, b⟩ := p
        have hj := (backB_spec hb hi ho).2 j b hg
        simp only [yielded, take_get hj]
    rw [hw] at h
    exact h

/-- all of the head is listed if none of it is ready -/
theorem head_done {n : Nat} {listed : Array Bool} (hb : backB md ops n = true) (hn : n < ops.size) (inv : HeadInv md ops n listed) (h : Region.ready md (ops.take n) listed = []) : ∀ i, i < n → listed.getD i true = true := by
  intro i
  induction i using Nat.strongRecOn with
  | _ i ih =>
    intro hi
    cases hl : listed.getD i true with
    | true => rfl
    | false =>
      exfalso
      obtain ⟨o, ho⟩ : ∃ o, ops[i]? = some o := ⟨ops[i]'(by omega), Array.getElem?_eq_getElem (by omega)⟩
      have hr : i ∈ Region.ready md (ops.take n) listed := by
        rw [ready_take, mem_ready]
        refine ⟨hi, hl, o, ho, fun e he hbe => ?_⟩
        have h1 := (backB_spec hb hi ho).1 e he hbe
        have h2 := ih e.on h1 (by omega)
        have hs : e.on < listed.size := by rw [inv.size]; omega
        simp [hs] at h2 ⊢
        exact h2
      rw [h] at hr
      cases hr

theorem listed_eq {n : Nat} {listed : Array Bool} (hn : n < ops.size) (inv : HeadInv md ops n listed) (h : ∀ i, i < n → listed.getD i true = true) : listed = headL ops.size n := by
  apply Array.ext
  · simp [headL, inv.size]
  · intro i h1 h2
    have hs : i < ops.size := by rw [← inv.size]; exact h1
    have e : (headL ops.size n)[i] = decide (i < n) := by simp [headL]
    rw [e]
    by_cases hi : i < n
    · have := h i hi
      simp [h1] at this
      simp [this, hi]
    · have := inv.tail i (by omega) hs
      simp [h1] at this
      simp [this, hi]

theorem any_tail {n : Nat} {Q' : Exit → Act → World → Prop} {Lq : Act → World → Prop} (hs : Region.sinkB md ops n = true) (hc : Region.chainB md ops n = true) (hb : backB md ops n = true) (hn : n < ops.size) {g : Nat}
    (hL : ∀ a w, C w → Lq a w → wpAny P md ops Q' g (headL ops.size n) a w) : ∀ (f : Nat) (listed : Array Bool) (a : Act) (w : World), HeadInv md ops n listed → C w →
    wpAnyQ P md (ops.take n) C (fun a' => ∀ w', C w' → Lq a' w') f listed a → wpAny P md ops Q' (f + g) listed a w := by
  have hfin : ∀ (f : Nat) (listed : Array Bool) (a : Act) (w : World), HeadInv md ops n listed → C w → Region.ready md (ops.take n) listed = [] → (∀ w', C w' → Lq a w') → wpAny P md ops Q' (f + g) listed a w := by
    intro f listed a w inv hC hr hq
    rw [listed_eq hn inv (head_done hb hn inv hr)]
    exact wpAny_plus (hL a w hC (hq w hC)) f
  intro f
  induction f with
  | zero =>
    intro listed a w inv hC h
    exact hfin 0 listed a w inv hC h.1 h.2
  | succ f ih =>
    intro listed a w inv hC h
    by_cases hr : Region.ready md (ops.take n) listed = []
    · exact hfin (f + 1) listed a w inv hC hr (h.1 hr)
    · obtain ⟨i0, hi0⟩ := List.exists_mem_of_ne_nil _ hr
      obtain ⟨hi0n, hi0r⟩ := ready_take.1 hi0
      have hun := (mem_ready.1 hi0r).1
      rw [show f + 1 + g = (f + g) + 1 by omega]
      refine ⟨fun h0 => (by rw [h0] at hi0r; cases hi0r), fun j hj => ?_⟩
      have hjn : j < n := by
        rcases Nat.lt_or_ge j n with h' | h'
        · exact h'
        · exact absurd hj (tail_waits hs hc hn inv _ i0 rfl hi0n hun j h')
      have hq := h.2 j (ready_take.2 ⟨hjn, hj⟩)
      exact wpOp_of_qOp hC (fun a' w' hw' hh => ih _ a' w' (inv.set hj hjn) hw' hh) (qOp_take hb hjn hq)

theorem any_of_tailOk {Q' : Exit → Act → World → Prop} {l : List Oper} {n : Nat} {a : Act} {W : World} (hB : tailOk l.toArray n = true) (hC : C W.drew)
    (h : wpQuiet P (l.take n).toArray C (fun a' => ∀ w', C w' → wpList P l.toArray Q' (l.drop n) a' w') (l.take n) a) : wpAny P .any l.toArray Q' l.toArray.size (Array.replicate l.toArray.size false) a W.drew := by
  simp only [tailOk, Bool.and_eq_true, decide_eq_true_eq] at hB
  obtain ⟨⟨⟨⟨⟨⟨hn, hs⟩, hc⟩, hb⟩, hsel⟩, hlex⟩, hseq⟩ := hB
  have hn' : n < l.length := by simpa using hn
  have htk : l.toArray.take n = (l.take n).toArray := by simp
  have htl : (l.take n).length = n := by simp; omega
  have inv0 : HeadInv .any l.toArray n (Array.replicate l.toArray.size false) :=
    ⟨by simp, fun j oj _ hl => (by rw [getD_replicate_false] at hl; cases hl), fun t _ ht => getD_in (by simpa using ht) (getD_replicate_false _ _)⟩
  rw [htk] at hsel hlex
  have hq := wpAnyQ_lex (C := C) (md := .any) hsel (l.take n) 0 (Array.replicate l.toArray.size false) a (by simp) (by rw [htl]; exact hlex) h
  rw [htl] at hq
  have := any_tail (P := P) (Q' := Q') (Lq := fun a' w' => wpList P l.toArray Q' (l.drop n) a' w') hs hc hb hn (g := l.toArray.size - n) (fun a w _ hl => by
    have := wpAny_of_seq (md := .any) (ops := l.toArray) (Q' := Q') (l.drop n) n (headL l.toArray.size n) a w (fun j => by simp [List.getElem?_drop]) (by rw [show (l.drop n).length = l.toArray.size - n by simp]; exact hseq) hl
    rwa [show (l.drop n).length = l.toArray.size - n by simp] at this) n _ a W.drew inv0 hC (by rw [htk]; exact hq)
  rwa [show n + (l.toArray.size - n) = l.toArray.size by omega] at this

/-- such a region, in a plain frame -/
theorem wp_region_tail {id : Nat} {a : Act} {W : World} {l : List Oper} (n : Nat) (hm : P.follows .mixedOrders = true) (hB : tailOk l.toArray n = true) (hC : C W.drew)
    (h : wpQuiet P (l.take n).toArray C (fun a' => ∀ w', C w' → wpList P l.toArray Q (l.drop n) a' w') (l.take n) a) : (Code.region id l.toArray true).wp P Q a W :=
  wp_region_any hm (any_of_tailOk hB hC h)

theorem NoP_then (Q : Exit → Act → World → Prop) : NoP (Exit.then (Q .normal) Q) = NoP Q := by
  funext e a w
  cases e <;> rfl

theorem wpQuiet_weak {R R' : Act → Prop} (h : ∀ a, R a → R' a) : ∀ (l : List Oper) (a : Act), wpQuiet P ops C R l a → wpQuiet P ops C R' l a
  | [], a, hh => h a hh
  | o :: l, a, hh => by
    simp only [wpQuiet] at hh ⊢
    split
    · rename_i hw
      rw [if_pos hw] at hh
      exact Oper.quiet_mono (fun a' => wpQuiet_weak h l a') hh
    · rename_i hw
      rw [if_neg hw] at hh
      exact wpQuiet_weak h l _ hh

/-- such a region, within a round -/
theorem wpIn_region_tail {id r m : Nat} {a : Act} {W : World} {l : List Oper} (n : Nat) (hm : P.follows .mixedOrders = true) (hB : tailOk l.toArray n = true) (hnd : noDefer l.toArray = true) (hC : C W.drew)
    (h : wpQuiet P (l.take n).toArray C (fun a' => ∀ w', C w' → ∀ K : Act → World → Prop, (∀ a w, Q .normal a w → K a w) → wpList P l.toArray (NoP (Exit.then K Q)) (l.drop n) a' w') (l.take n) a) : (Code.region id l.toArray true).wpIn (Fence.wide.inRound r) m P Q a W := by
  refine wpIn_mono (wpIn_region_any hm (wpAnyIn_of_wpAny hnd _ _ _ _ (any_of_tailOk (Q' := NoP Q) hB hC ?_))) NoP_imp
  refine wpQuiet_weak (fun a' hh w' hw' => ?_) _ _ h
  have := hh w' hw' (Q .normal) fun _ _ h => h
  rwa [NoP_then] at this
end
end Go.Proofs.Ytjjjockfppomdaa

namespace Go.Proofs.Ytjjjockfppomdaa
open Go.RowKit
set_option linter.unusedVariables false

section
variable {m : Nat} {P : Program} {ops : Array Oper} {Q : Exit → Act → World → Prop} {C : World → Prop} {md : Region.Mode}

theorem wideOp_of_qOp {i : Nat} {a : Act} {K : Act → Prop} {K' : Act → World → Prop} {Q' : Exit → Act → World → Prop} {w : World} (hC : C w) (h : ∀ a w', C w' → K a → K' a w') (hh : qOp P ops C i K a) : wpOpIn Fence.wide m P ops Q' i K' a w := by
  unfold qOp at hh
  unfold wpOpIn
  split
  · rename_i ho; simp only [ho] at hh; exact h _ _ hC hh
  · rename_i o ho
    simp only [ho] at hh
    split
    · rename_i hw
      simp only [hw, if_true] at hh
      obtain ⟨v, h1, h2⟩ := hh
      have h3 := h1 w hC
      unfold Oper.quietAt at h3
      unfold Oper.wpIn
      refine ⟨fun _ _ => trivial, ?_⟩
      rw [show Fence.wide.round = none from rfl, Oper.semAt_none]
      generalize (execOp a.eval o).run P w = r at *
      cases r with
      | ok n w' =>
        cases n <;> simp only [Oper.quietUpon] at h3 <;> simp only [Oper.uponIn]
        case value u =>
          obtain ⟨e1, e2⟩ := h3
          rw [e1, e2]
          exact h _ _ hC h2
        case skip =>
          obtain ⟨e1, e2⟩ := h3
          rw [e1, ← e2]
          exact h _ _ hC h2
        case enter f args =>
          obtain ⟨e1, hc⟩ := h3
          rw [e1]
          exact ⟨fun hh => by simp [Fence.wide] at hh, callsIn_wide.2 (hc.mono fun e w'' ⟨he, hw''⟩ => by subst he; exact h _ _ hw'' h2)⟩
      | halt x w' => simp only [Oper.quietUpon] at h3
    · rename_i hw; simp only [hw] at hh; exact ⟨fun _ _ => trivial, h _ _ hC hh⟩
theorem wideAny_more {Q' : Exit → Act → World → Prop} : ∀ (f : Nat) (listed : Array Bool) (a : Act) (w : World), wpAnyIn Fence.wide m P md ops Q' f listed a w → wpAnyIn Fence.wide m P md ops Q' (f + 1) listed a w
  | 0, listed, a, w, h => ⟨fun _ => h.2, by rw [h.1]; simp⟩
  | f + 1, listed, a, w, h => ⟨h.1, fun i hi => wpOpIn_mono (fun a' w' h' => wideAny_more f _ a' w' h') (h.2 i hi)⟩
theorem wideAny_plus {Q' : Exit → Act → World → Prop} {g : Nat} {listed : Array Bool} {a : Act} {w : World} (h : wpAnyIn Fence.wide m P md ops Q' g listed a w) : ∀ f, wpAnyIn Fence.wide m P md ops Q' (f + g) listed a w
  | 0 => by rw [Nat.zero_add]; exact h
  | f + 1 => by rw [show f + 1 + g = (f + g) + 1 by omega]; exact wideAny_more _ _ _ _ (wideAny_plus h f)
theorem wideAny_of_seq {Q' : Exit → Act → World → Prop} : ∀ (l : List Oper) (k : Nat) (listed : Array Bool) (a : Act) (w : World), (∀ j, l[j]? = ops[k + j]?) →
    Region.seqB md ops l.length k listed = true → wpListIn Fence.wide m P ops Q' l a w → wpAnyIn Fence.wide m P md ops Q' l.length listed a w
  | [], _, _, _, _, _, hB, h => ⟨by simpa [Region.seqB] using hB, h⟩
  | o :: l, k, listed, a, w, hl, hB, h => by
    have h0 : ops[k]? = some o := by simpa using (hl 0).symm
    simp only [List.length_cons, Region.seqB, Bool.and_eq_true, decide_eq_true_eq] at hB
    refine ⟨fun h1 => (by rw [hB.1] at h1; cases h1), fun i hi => ?_⟩
    rw [hB.1] at hi
    have hik : i = k := by simpa using hi
    subst hik
    have hw : wpOpIn Fence.wide m P ops Q' i (wpListIn Fence.wide m P ops Q' l) a w := by unfold wpOpIn; simp only [h0]; exact h
    exact wpOpIn_mono (fun a' w' h' => wideAny_of_seq l (i + 1) _ a' w' (fun j => by have := hl (j + 1); simpa [Nat.add_assoc, Nat.add_comm 1 j] using this) hB.2 h') hw

theorem wide_tail {n : Nat} {Q' : Exit → Act → World → Prop} {Lq : Act → World → Prop} (hs : Region.sinkB md ops n = true) (hc : Region.chainB md ops n = true) (hb : backB md ops n = true) (hn : n < ops.size) {g : Nat}
    (hL : ∀ a w, C w → Lq a w → wpAnyIn Fence.wide m P md ops Q' g (headL ops.size n) a w) : ∀ (f : Nat) (listed : Array Bool) (a : Act) (w : World), HeadInv md ops n listed → C w →
    wpAnyQ P md (ops.take n) C (fun a' => ∀ w', C w' → Lq a' w') f listed a → wpAnyIn Fence.wide m P md ops Q' (f + g) listed a w := by
  have hfin : ∀ (f : Nat) (listed : Array Bool) (a : Act) (w : World), HeadInv md ops n listed → C w → Region.ready md (ops.take n) listed = [] → (∀ w', C w' → Lq a w') → wpAnyIn Fence.wide m P md ops Q' (f + g) listed a w := by
    intro f listed a w inv hC hr hq
    rw [listed_eq hn inv (head_done hb hn inv hr)]
    exact wideAny_plus (hL a w hC (hq w hC)) f
  intro f
  induction f with
  | zero =>
    intro listed a w inv hC h
    exact hfin 0 listed a w inv hC h.1 h.2
  | succ f ih =>
    intro listed a w inv hC h
    by_cases hr : Region.ready md (ops.take n) listed = []
    · exact hfin (f + 1) listed a w inv hC hr (h.1 hr)
    · obtain ⟨i0, hi0⟩ := List.exists_mem_of_ne_nil _ hr
      obtain ⟨hi0n, hi0r⟩ := ready_take.1 hi0
      have hun := (mem_ready.1 hi0r).1
      rw [show f + 1 + g = (f + g) + 1 by omega]
      refine ⟨fun h0 => (by rw [h0] at hi0r; cases hi0r), fun j hj => ?_⟩
      have hjn : j < n := by
        rcases Nat.lt_or_ge j n with h' | h'
        · exact h'
        · exact absurd hj (tail_waits hs hc hn inv _ i0 rfl hi0n hun j h')
      have hq := h.2 j (ready_take.2 ⟨hjn, hj⟩)
      exact wideOp_of_qOp hC (fun a' w' hw' hh => ih _ a' w' (inv.set hj hjn) hw' hh) (qOp_take hb hjn hq)

theorem wide_of_tailOk {Q' : Exit → Act → World → Prop} {l : List Oper} {n : Nat} {a : Act} {W : World} (hB : tailOk l.toArray n = true) (hC : C W.drew)
    (h : wpQuiet P (l.take n).toArray C (fun a' => ∀ w', C w' → wpListIn Fence.wide m P l.toArray Q' (l.drop n) a' w') (l.take n) a) : wpAnyIn Fence.wide m P .any l.toArray Q' l.toArray.size (Array.replicate l.toArray.size false) a W.drew := by
  simp only [tailOk, Bool.and_eq_true, decide_eq_true_eq] at hB
  obtain ⟨⟨⟨⟨⟨⟨hn, hs⟩, hc⟩, hb⟩, hsel⟩, hlex⟩, hseq⟩ := hB
  have hn' : n < l.length := by simpa using hn
  have htk : l.toArray.take n = (l.take n).toArray := by simp
  have htl : (l.take n).length = n := by simp; omega
  have inv0 : HeadInv .any l.toArray n (Array.replicate l.toArray.size false) :=
    ⟨by simp, fun j oj _ hl => (by rw [getD_replicate_false] at hl; cases hl), fun t _ ht => getD_in (by simpa using ht) (getD_replicate_false _ _)⟩
  rw [htk] at hsel hlex
  have hq := wpAnyQ_lex (C := C) (md := .any) hsel (l.take n) 0 (Array.replicate l.toArray.size false) a (by simp) (by rw [htl]; exact hlex) h
  rw [htl] at hq
  have := wide_tail (m := m) (P := P) (Q' := Q') (Lq := fun a' w' => wpListIn Fence.wide m P l.toArray Q' (l.drop n) a' w') hs hc hb hn (g := l.toArray.size - n) (fun a w _ hl => by
    have := wideAny_of_seq (m := m) (md := .any) (ops := l.toArray) (Q' := Q') (l.drop n) n (headL l.toArray.size n) a w (fun j => by simp [List.getElem?_drop]) (by rw [show (l.drop n).length = l.toArray.size - n by simp]; exact hseq) hl
    rwa [show (l.drop n).length = l.toArray.size - n by simp] at this) n _ a W.drew inv0 hC (by rw [htk]; exact hq)
  rwa [show n + (l.toArray.size - n) = l.toArray.size by omega] at this

theorem wide_region_tail {id : Nat} {a : Act} {W : World} {l : List Oper} (n : Nat) (hm : P.follows .mixedOrders = true) (hB : tailOk l.toArray n = true) (hC : C W.drew)
    (h : wpQuiet P (l.take n).toArray C (fun a' => ∀ w', C w' → wpListIn Fence.wide m P l.toArray Q (l.drop n) a' w') (l.take n) a) : (Code.region id l.toArray true).wpIn Fence.wide m P Q a W :=
  wpIn_region_any hm (wide_of_tailOk hB hC h)
theorem wide_skip {o : Oper} {rest : List Oper} {a : Act} {w : World} (hw : Region.wanted o (yielded ops a.tmps) = false) (h : wpListIn Fence.wide m P ops Q rest (a.put o.dst undef) w) : wpListIn Fence.wide m P ops Q (o :: rest) a w := by
  simp only [wpListIn, hw]
  exact ⟨fun _ _ => trivial, h⟩
end
end Go.Proofs.Ytjjjockfppomdaa
