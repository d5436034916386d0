/- Contracts of the table: states, and the iterator that it returns. Loops whose rounds hold a range over a function: each one leaves a mark among the deferred calls. -/
import Derived.Test.YtjjjockfppomdaaCome
import Derived.Deep.LoopGhost
namespace Go.Proofs.Ytjjjockfppomdaa
open Go.RowKit Go.Shelf
set_option linter.unusedVariables false

abbrev stsV (bt : Nat) : Value := .func (.func 79) #[] #[.pointer (some ⟨bt, 0, none⟩), .pointer (some ⟨bt + 1, 0, none⟩)]
structure StsB (W : World) (g bt i : Nat) : Prop where
  t : Blk W bt 72 #[.pointer (some ⟨g, 0, none⟩)]
  s : Blk W (bt + 1) 3 #[.int .i64 (i : Int)]
structure KeepS (N bt ga gu : Nat) (W W' : World) : Prop where
  size : W.heap.size ≤ W'.heap.size
  block : ∀ k, (k < N ∨ bt ≤ k ∧ k < bt + 2) → k ≠ ga → k ≠ gu → W'.heap[k]? = W.heap[k]?
theorem KeepS.tab {N bt ga gu : Nat} {A B : World} (h : KeepS N bt ga gu A B) : KeepT N ga gu A B := ⟨h.size, fun k h1 h2 h3 => h.block k (.inl h1) h2 h3⟩
theorem KeepS.trans {N bt ga gu : Nat} {A B C : World} (h : KeepS N bt ga gu A B) (k : KeepS N bt ga gu B C) : KeepS N bt ga gu A C := ⟨Nat.le_trans h.size k.size, fun j h1 h2 h3 => (k.block j h1 h2 h3).trans (h.block j h1 h2 h3)⟩
theorem KeepS.putObj {N bt ga gu : Nat} (W : World) (l : Nat) (o' : Obj) (hl : bt + 2 ≤ l) (hN : N ≤ l) : KeepS N bt ga gu W (W.putObj l o') := ⟨by simp [World.putObj], fun k hk _ _ => World.putObj_heap_other (by omega)⟩
theorem KeepS.refl {N bt ga gu : Nat} (A : World) : KeepS N bt ga gu A A := ⟨Nat.le_refl _, fun _ _ _ _ => rfl⟩
theorem KeepS.of_below {N bt ga gu B : Nat} {w w' : World} (h : Below B w w') (hN : N ≤ B) (hB : bt + 2 ≤ B) : KeepS N bt ga gu w w' := ⟨h.size, fun k hk _ _ => h.block k (by omega)⟩
theorem KeepS.chg {N bt ga gu : Nat} {w w' : World} (h : Chg ga gu w w') (hN : N ≤ w.heap.size) (hB : bt + 2 ≤ w.heap.size) : KeepS N bt ga gu w w' := ⟨h.size, fun k h1 h2 h3 => h.block k (by omega) h2 h3⟩
theorem StsB.keep {W W' : World} {g bt i N ga gu : Nat} (h : StsB W g bt i) (hk : KeepS N bt ga gu W W') (h1 : ga < bt) (h2 : gu < bt) : StsB W' g bt i :=
  ⟨(hk.block _ (by omega) (by omega) (by omega)).trans h.t, (hk.block _ (by omega) (by omega) (by omega)).trans h.s⟩
theorem StsB.call {W W' : World} {g bt i : Nat} (h : StsB W g bt i) (hb : Below W.heap.size W W') : StsB W' g bt i := ⟨h.t.call hb, h.s.call hb⟩

set_option maxRecDepth 100000 in
set_option maxHeartbeats 1600000 in
theorem states_ok (g i : Nat) (w : World) :
    Calls Try.prog 72 #[.pointer (some ⟨g, 0, none⟩), .int .i64 (i : Int)] w fun r w' => r = .returned (stsV w.heap.size) ∧ StsB w' g w.heap.size i ∧ w'.heap.size = w.heap.size + 2 ∧ Below w.heap.size w w' := by
  have hx1 := Blk.new w 72 #[.pointer (some ⟨g, 0, none⟩)]
  have hb1 := (Below.refl w.heap.size w).alloc (Nat.le_refl _) (.cells #[.pointer (some ⟨g, 0, none⟩)] 72)
  have hz1 : (w.alloc (.cells #[.pointer (some ⟨g, 0, none⟩)] 72)).heap.size = w.heap.size + 1 := by simp
  go_enter Try.func72, Try.ntmps72
  go_upto_region 1 with (fail)
  generalize w.alloc (.cells #[.pointer (some ⟨g, 0, none⟩)] 72) = w1 at *
  have hx2 := Blk.new w1 3 #[.int .i64 (i : Int)]
  have hbA := (Below.refl w1.heap.size w1).alloc (Nat.le_refl _) (.cells #[.int .i64 (i : Int)] 3)
  have hz2 : (w1.alloc (.cells #[.int .i64 (i : Int)] 3)).heap.size = w.heap.size + 2 := by simp [hz1]
  rw [hz1] at hx2
  replace hx1 := hx1.call hbA
  have hb2 := hb1.trans (hbA.mono hb1.size)
  clear hbA hb1 hz1
  generalize w1.alloc (.cells #[.int .i64 (i : Int)] 3) = w2 at *
  go_wp2
  go_ret
  exact ⟨rfl, ⟨hx1, hx2⟩, hz2, hb2⟩

/-- the sets of used pieces with a step's own one -/
def usedN (c : Cyl) (i : Nat) : List Nat := (List.range (2 ^ c.pcs.length)).filter fun u => u.testBit (pieceN c i)
abbrev VUs (c : Cyl) (i : Nat) := {u : Nat // u ∈ usedN c i}
theorem mem_used {c : Cyl} {i u : Nat} : u ∈ usedN c i ↔ u < 2 ^ c.pcs.length ∧ u.testBit (pieceN c i) = true := by
  unfold usedN
  rw [List.mem_filter, List.mem_range]
def encUs (c : Cyl) (i : Nat) (s : VUs c i) : Array Value := #[stateV s.1 (i : Int)]
theorem and_bit (u p : Nat) : u &&& 2 ^ p = if u.testBit p = true then 2 ^ p else 0 := by
  refine Nat.eq_of_testBit_eq fun i => ?_
  rw [Nat.testBit_and, Nat.testBit_two_pow]
  by_cases h : p = i
  · subst h
    cases hb : u.testBit p <;> simp [Nat.testBit_two_pow]
  · cases hb : u.testBit p <;> simp [Nat.testBit_two_pow, h]

attribute [local go_sem] Oper.semAt_some
set_option maxRecDepth 100000 in
set_option maxHeartbeats 1600000 in
theorem states1_stops (n : Nat) (x : TX) (c : Cyl) (i bt : Nat) (w : World) (hT : TF w x c) (hB : StsB w x.g bt i) (hi : i < (stepsOf c).length) (hxN : x.N ≤ bt) :
    SeqStopsK Fence.wide (n + 3) Try.prog 79 #[.pointer (some ⟨bt, 0, none⟩), .pointer (some ⟨bt + 1, 0, none⟩)] (encUs c i) (KeepS x.N bt x.ga x.gu) (fun xs => xs.map (·.1) = usedN c i) (fun pre => pre.map (·.1) <+: usedN c i) (usedN c i).length w := by
  intro l J Jx W hW hJ hJx hY h0
  have hT1 := hT.call hW
  have hB1 := hB.call hW
  have h8 := hT.bounds.2
  have h16 := hT.small
  have hga := hT.al
  have hgu := hT.ul
  have hp8 := pieceN_lt hi
  clear hT hB
  refine callsIn_of_wp Try.func79 rfl trivial ?_ rfl
  simp only [Try.ntmps79, List.size_toArray, List.length_cons, List.length_nil, Nat.reduceAdd, Nat.reduceSub, Array.replicate_succ, Array.replicate_zero, List.push_toArray, List.append_toArray, List.nil_append, List.cons_append]
  refine wpIn_wide.2 ?_
  have t0 := hB1.t.cell 0
  have a0 := hB1.s.cell 0
  simp at t0 a0
  obtain ⟨st, hs1, hs2, s0, s1⟩ := hT1.step hi
  obtain ⟨q0, q1, q2, q3, q4⟩ := hT1.tc.c5
  obtain ⟨pw, e3, e4, e5⟩ := pow_bit c i h8 hi
  obtain ⟨pn, g3, g4, g5, g6⟩ := full_eq (c := c) (u := 0) h8
  have f0 := Ext.of t0
  have f1 := Ext.of a0
  have f2 := Ext.of s0
  have f3 := Ext.of q4
  have k1 : (i : Int) < ((stepsOf c).length : Int) := by omega
  have k2 : (pieceN c i : Int) ≤ 64 := by omega
  have k3 : (c.pcs.length : Int) ≤ 64 := by omega
  have e1 : IntKind.i64.wrap (i : Int) = i := wrap_id _ (by omega) (by omega)
  have HE4 := Lib.hid e4
  have HG4 := Lib.hid g4
  have hpw : 1 ≤ pw := by rw [← e4]; exact Nat.one_le_two_pow
  clear e4 g4 t0 a0 s0 s1 hs1 hs2 q0 q1 q2 q3 q4
  go_upto_region 0 with (fail)
  refine wp_region_ext (by kernel_rfl) (by kernel_rfl) ?_
  repeat (go_big_quiet_step (fail))
  refine wpQuiet_nil ?_
  intro _ hw'
  obtain ⟨xr, hw''⟩ := hw'
  subst hw''
  replace hT1 := hT1.call xr.h
  replace hB1 := hB1.call xr.h
  replace h0 := hJ [] _ _ none h0 (grown_call xr.h _) (by simp)
  clear f0 f1 f2 f3
  obtain ⟨W2, hW2⟩ : ∃ W2 : World, W2 = xr.w := ⟨_, rfl⟩
  rw [← hW2] at hT1 hB1 h0 ⊢
  clear hW2 xr
  have t0 := hB1.t.cell 0
  simp at t0
  obtain ⟨q0, q1, q2, q3, q4⟩ := hT1.tc.c5
  go_wp2
  go_loopw [5, 22] (fun s k wr => ∃ (u : Nat) (pre : List (VUs c i)), u ≤ pn ∧ k = .int .i64 u ∧ pre.map (·.1) = (List.range u).filter (fun u => u.testBit (pieceN c i)) ∧ J pre wr ∧ TF wr x c ∧ StsB wr x.g bt i) (fun _ k _ => pn - (intOf k).toNat)
  case atStart => exact ⟨0, [], by omega, rfl, rfl, h0, hT1, hB1⟩
  case round =>
    obtain ⟨u, pre, hu, rfl, hpre, hJ0, hTr, hBr⟩ := hrel
    have HPRE := Lib.hid hpre
    clear hpre t0 q0 q1 q2 q3 q4
    by_cases hlt : u < pn
    · have d3 : decide (u < pn) = true := by simpa using hlt
      have d3' : decide ((u : Int) < (pn : Int)) = true := by simp; omega
      have HN : Hid ((List.range (u + 1)).filter (fun u => u.testBit (pieceN c i)) = (List.range u).filter (fun u => u.testBit (pieceN c i)) ++ if u.testBit (pieceN c i) = true then [u] else []) := by
        rw [Hid, List.range_succ, List.filter_append]
        simp only [List.filter_cons, List.filter_nil]
      have hand := bits_and u pw (by omega) (by omega)
      rw [← HE4.out, and_bit, HE4.out] at hand
      have a0 := hBr.s.cell 0
      simp at a0
      cases htb : u.testBit (pieceN c i)
      · rw [htb] at hand HN
        simp only [Bool.false_eq_true, if_false] at hand HN
        have hand' : bits .and .i64 (u : Int) (pw : Int) = 0 := hand
        clear hand htb
        go_wp2
        go_roundw
        case rel => exact ⟨u + 1, pre, by omega, by go_num, by rw [HPRE.out, HN.out]; simp, hJ0, hTr, hBr⟩
        case measure => (simp [intOf]; try omega)
      · rw [htb] at hand HN
        simp only [if_true] at hand HN
        have d4 : ((pw : Int) != 0) = true := by simp; omega
        have HM : Hid (u ∈ usedN c i) := mem_used.2 ⟨by rw [HG4.out]; exact hlt, htb⟩
        have hpf : (pre.map (·.1)) ++ [u] <+: usedN c i := by
          rw [HPRE.out, ← HN.out]
          unfold usedN
          exact List.IsPrefix.filter _ (range_pre (by rw [HG4.out]; omega))
        have HP : Hid ((pre ++ [(⟨u, HM.out⟩ : VUs c i)]).map (·.1) <+: usedN c i) := by rw [Hid, List.map_append]; exact hpf
        have HL : Hid (pre.length < (usedN c i).length) := by
          have := hpf.length_le
          simp at this
          exact this
        have hgab : x.ga < bt := by omega
        have hgub : x.gu < bt := by omega
        clear htb hpf
        obtain ⟨fn, tmps, assign, body, hy, hR⟩ := hY pre ⟨u, HM.out⟩ wr hJ0 HL.out
        dsimp only [encUs] at hy
        refine (wpIn_wide (n := n + 3)).1 ?_
        gi_wp2
        refine hR.mono ?_
        rintro e W3 (⟨rfl, hJ3, hk3⟩ | ⟨rfl, hJx3⟩)
        · have hT3 := hTr.keep hk3.tab
          have hB3 := hBr.keep hk3 hgab hgub
          gi_wp2
          go_wp2
          go_roundw
          case rel => exact ⟨u + 1, pre ++ [⟨u, HM.out⟩], by omega, by go_num, by rw [List.map_append, HPRE.out, HN.out]; simp, hJ3, hT3, hB3⟩
          case measure => (simp [intOf]; try omega)
        · gi_wp2
          go_wp2
          refine bodyPost_ret (results_none rfl _ _ _) rfl ?_
          exact ⟨⟨_, rfl⟩, .inr ⟨pre ++ [⟨u, HM.out⟩], HP.out, hJx3⟩⟩
    · obtain rfl : u = pn := by omega
      have d3 : decide (u < u) = false := by simp
      have HE : Hid (pre.map (·.1) = usedN c i) := by rw [Hid, HPRE.out, ← HG4.out]; rfl
      go_wp2
      go_end0
      exact ⟨⟨_, rfl⟩, .inl ⟨pre, HE.out, hJ0⟩⟩
end Go.Proofs.Ytjjjockfppomdaa

namespace Go.Proofs.Ytjjjockfppomdaa
open Go.RowKit Go.Shelf
set_option linter.unusedVariables false

def Marks (B T : Nat) (W : World) : List Deferred → Prop
  | [] => True
  | d :: r => (∃ D, d = { target := .collected D, args := #[] } ∧ B ≤ D ∧ D < T ∧ W.heap[D]? = some (.deferred (some [])) ∧ ∀ D', { target := .collected D', args := #[] } ∈ r → D' ≠ D) ∧ Marks B T W r
theorem Marks.keep {B T T' : Nat} {W W' : World} (hT : T ≤ T') (hk : ∀ D, B ≤ D → D < T → W.heap[D]? = some (.deferred (some [])) → W'.heap[D]? = some (.deferred (some []))) : ∀ {ds : List Deferred}, Marks B T W ds → Marks B T' W' ds
  | [], _ => trivial
  | d :: r, ⟨⟨D, h1, h2, h6, h3, h4⟩, h5⟩ => ⟨⟨D, h1, h2, by omega, hk D h2 h6 h3, h4⟩, h5.keep hT hk⟩
theorem Marks.lt {B T : Nat} {W : World} : ∀ {ds : List Deferred}, Marks B T W ds → ∀ D, { target := .collected D, args := #[] } ∈ ds → D < T
  | [], _, D, h => by cases h
  | d :: r, ⟨⟨D, h1, h2, h6, h3, h4⟩, h5⟩, D', h => by
    rcases List.mem_cons.1 h with h | h
    · subst h1
      injection h with h
      injection h with h
      rw [h]; exact h6
    · exact h5.lt D' h
theorem Marks.cons {B T T' D : Nat} {W W' : World} {ds : List Deferred} (h : Marks B T W ds) (hB : B ≤ D) (hT : T ≤ D) (hT' : D < T') (hD : W.heap[D]? = some (.deferred (some []))) : Marks B T' W ({ target := .collected D, args := #[] } :: ds) :=
  ⟨⟨D, rfl, hB, hT', hD, fun D' hD' => by have := h.lt D' hD'; omega⟩, h.keep (by omega) fun _ _ _ h => h⟩
theorem Marks.other {B T D : Nat} {W : World} (o : Obj) : ∀ {ds : List Deferred}, Marks B T W ds → (∀ D', { target := .collected D', args := #[] } ∈ ds → D' ≠ D) → Marks B T (W.putObj D o) ds
  | [], _, _ => trivial
  | d :: r, ⟨⟨D1, h1, h2, h6, h3, h4⟩, h5⟩, hn => ⟨⟨D1, h1, h2, h6, (World.putObj_heap_other (by have := hn D1 (by rw [h1]; exact List.mem_cons_self); omega)).trans h3, h4⟩, h5.other o fun D' hD' => hn D' (List.mem_cons_of_mem _ hD')⟩
theorem Marks.grown {B T : Nat} {W W' : World} {ds : List Deferred} {row : Option Nat} (h : Marks B T W ds) (hs : T ≤ W.heap.size) (hg : W.grownBy W' row) (hr : ∀ r, row = some r → T ≤ r ∨ r < B) : Marks B T W' ds :=
  h.keep (Nat.le_refl _) fun D h1 h2 h3 => (hg.block D (by omega) (fun e => by rcases hr D e.symm with h | h <;> omega)).trans h3
theorem Marks.chg {B T ga gu : Nat} {W W' : World} {ds : List Deferred} (h : Marks B T W ds) (hs : T ≤ W.heap.size) (hc : Chg ga gu W W') (h1 : ga < B) (h2 : gu < B) : Marks B T W' ds :=
  h.keep (Nat.le_refl _) fun D h3 h4 h5 => (hc.block D (by omega) (by omega) (by omega)).trans h5
theorem Marks.leave {B T n : Nat} {P : Program} {fn : Func} {tmps : Array Value} {R : Ending → World → Prop} (I : World → Prop) (hI : ∀ W D, B ≤ D → W.heap[D]? = some (.deferred (some [])) → I W → I (W.putObj D (.deferred none)))
    (hR : ∀ W, I W → LeavesInM Fence.wide n P fn tmps R [] .returning W) : ∀ (ds : List Deferred) (W : World), Marks B T W ds → I W → LeavesInM Fence.wide n P fn tmps R ds .returning W
  | [], W, _, h => hR W h
  | d :: r, W, ⟨⟨D, h1, h2, h6, h3, h4⟩, h5⟩, h => by
    subst h1
    exact ⟨by simp, .inl ⟨D, _, rfl, run_takeDeferred h3, Marks.leave I hI hR r _ (h5.other _ h4) (hI W D h2 h3 h)⟩⟩
theorem own_low {W : World} {base e size n b o : Nat} {v y : Value} {xs : List Value} (h : W.ownsRow base e size v n xs) (hb : b < base) : (W.setCell ⟨b, o, none⟩ y).ownsRow base e size v n xs := by
  refine h.kept (grown_setCell y) ?_
  cases hq : v.ownBlock with
  | none => exact .inl rfl
  | some q => exact .inr fun e => by have := (h.lt q hq).1; injection e with e; omega
end Go.Proofs.Ytjjjockfppomdaa
