/- Contracts of the reference: linked. A row of the call's own that reads as a list of numbers; labels of names as such a row. Contract of the reference: groups. -/
import Derived.Test.YtpkccmohlcndgaaRfCM
import Derived.Test.YtpkccmohlcndgaaPlB
import Derived.Test.YtpkccmohlcndgaaPcN
namespace Go.Proofs.Ytpkccmohlcndgaa
open Go.RowKit Go.Shelf
set_option linter.unusedVariables false

/-- a link that is not dropped has two names, as the reference asks -/
def linkR (l : NL) (drop : List Int) (x y : Int) (i : Nat) : Bool :=
  !drop.contains (i : Int) && (((l.links.getD i default).one == x && (l.links.getD i default).two == y) || ((l.links.getD i default).one == y && (l.links.getD i default).two == x))
theorem linkR_eq {l : NL} {drop : List Int} (hd : ∀ x ∈ drop, 0 ≤ x) (x y : Int) (i : Nat) : linkR l drop x y i = linkI l (natL drop) x y i := by
  unfold linkR linkI
  have : drop.contains (i : Int) = (natL drop).contains i := by
    rw [Bool.eq_iff_iff, List.contains_iff_mem, List.contains_iff_mem]
    constructor
    · intro h; exact List.mem_map.2 ⟨_, h, by simp⟩
    · intro h
      obtain ⟨z, hz, he⟩ := List.mem_map.1 h
      have := hd z hz
      have e : z = (i : Int) := by omega
      exact e ▸ hz
  rw [this]
theorem any_from (p : Nat → Bool) {k n : Nat} (h : k < n) : ((List.range' k (n - k)).any p) = (p k || (List.range' (k + 1) (n - (k + 1))).any p) := by
  rw [show n - k = (n - (k + 1)) + 1 by omega, List.range'_succ, List.any_cons]
set_option maxHeartbeats 1600000 in
theorem rlinked_ok (v dv : Value) (l : NL) (drop : List Int) (x y : Int) (w : World) (hv : NLV w w.heap.size v l) (hd : Arr w w.heap.size 1 dv drop icell) :
    Calls Try.prog 60 #[v, dv, .int .i64 x, .int .i64 y] w fun r w' => r = .returned (.bool ((List.range l.links.length).any (linkR l drop x y))) ∧ Below w.heap.size w w' := by
  obtain ⟨ka, kc, aa, ac, ba, bc, rfl, hna⟩ := hv
  have hC := NB.new hna
  have hB := (Below.refl w.heap.size w).alloc (Nat.le_refl _) (.cells #[.int .i64 l.n, .slice ka l.links.length kc, .slice aa l.left.length ac, .slice ba l.right.length bc] 25)
  go_enter Try.func60, Try.ntmps60
  go_upto_region 1 with (fail)
  generalize w.alloc (.cells #[.int .i64 l.n, .slice ka l.links.length kc, .slice aa l.left.length ac, .slice ba l.right.length bc] 25) = W at *
  have hll : l.links.length ≤ 9223372036854775807 := by
    obtain ⟨a, c, h, h1, h2, -⟩ := hna.ks
    omega
  have hdW := (hd.below hB).more hB.size
  have HR := Lib.hid (show (List.range l.links.length).any (linkR l drop x y) = (List.range' 0 (l.links.length - 0)).any (linkR l drop x y) by rw [List.range_eq_range']; rfl)
  go_wp2
  go_loopw [9] (fun i wr => ∃ k : Nat, k ≤ l.links.length ∧ i = .int .i64 k ∧ Hid ((List.range l.links.length).any (linkR l drop x y) = (List.range' k (l.links.length - k)).any (linkR l drop x y)) ∧ Below W.heap.size W wr) (fun i _ => l.links.length - (intOf i).toNat)
  case atStart => exact ⟨0, Nat.zero_le _, rfl, HR, Below.refl _ _⟩
  case round =>
    obtain ⟨k, hk, rfl, hq, hr⟩ := hrel
    have hCr := hC.call hr
    have hBr := hB.trans (hr.mono hB.size)
    obtain ⟨k0, k1, k2, k3⟩ := hCr.blk.c4
    by_cases hlt : k < l.links.length
    · have e1 : decide (k < l.links.length) = true := decide_eq_true hlt
      have e1' : decide ((k : Int) < (l.links.length : Int)) = true := decide_eq_true (by omega)
      have hki : (k : Int) < (l.links.length : Int) := by omega
      obtain ⟨b, off, z, rfl, hbl, hx, c0, c1, c2⟩ := link_at hCr.na.ks hlt
      have hst := any_from (linkR l drop x y) hlt
      have hlk : linkR l drop x y k = (!drop.contains (k : Int) && ((z.one == x && z.two == y) || (z.one == y && z.two == x))) := by
        unfold linkR
        rw [List.getD_eq_getElem?_getD, hx]
        rfl
      go_upto_region 5 with (fail)
      have hX := Blk.new wr 60 #[.int .i64 z.one, .int .i64 z.two, .int .i64 z.trust]
      have hb1 := (Below.refl wr.heap.size wr).alloc (Nat.le_refl _) (.cells #[.int .i64 z.one, .int .i64 z.two, .int .i64 z.trust] 60)
      have hr1 := hr.trans (hb1.mono hr.size)
      have hB1 := hBr.trans (hb1.mono hBr.size)
      have hin := rin_ok dv drop (k : Int) _ (hdW.call hr1)
      clear c0 c1 c2 hx hbl hr hBr hCr hb1 k0 k1 k2 k3
      generalize wr.alloc (.cells #[.int .i64 z.one, .int .i64 z.two, .int .i64 z.trust] 60) = V at *
      have x0 := hX.cell 0
      have x1 := hX.cell 1
      simp at x0 x1
      clear hX
      generalize hg1 : z.one = p at *
      generalize hg2 : z.two = q at *
      clear hg1 hg2
      have hfin : ∀ bb, linkR l drop x y k = bb → (bb = true → Hid ((List.range l.links.length).any (linkR l drop x y) = true)) ∧ (bb = false → Hid ((List.range l.links.length).any (linkR l drop x y) = (List.range' (k + 1) (l.links.length - (k + 1))).any (linkR l drop x y))) := fun bb hbb =>
        ⟨fun h => by rw [Hid, hq.out, hst, hbb, h]; rfl, fun h => by rw [Hid, hq.out, hst, hbb, h]; rfl⟩
      have HF := Lib.hid hfin
      clear hst hq hfin
      cases hc : drop.contains (k : Int) <;> cases hpx : (p == x) <;> cases hqy : (q == y) <;> cases hpy : (p == y) <;> cases hqx : (q == x) <;> rw [hc, hpx, hqy, hpy, hqx] at hlk <;> rw [hc] at hin <;> (
        have HN := Lib.hid (HF.out _ hlk)
        clear hlk hc HF
        go_wp2_with fail
        refine hin.mono ?_
        rintro e w2 ⟨rfl, rfl⟩
        clear hin
        go_wp2
        first
        | (go_ret; exact ⟨ret_b (HN.out.1 rfl).out.symm, hB1⟩)
        | (go_roundw
           case rel => exact ⟨k + 1, by omega, by go_num, HN.out.2 rfl, hr1⟩
           case measure => (simp [intOf]; try omega)))
    · obtain rfl : k = l.links.length := by omega
      have e1 : decide (l.links.length < l.links.length) = false := by simp
      have HX : Hid ((List.range l.links.length).any (linkR l drop x y) = false) := by rw [Hid, hq.out, Nat.sub_self]; rfl
      clear hq
      go_wp2
      go_ret
      exact ⟨ret_b HX.out.symm, hBr⟩
end Go.Proofs.Ytpkccmohlcndgaa

namespace Go.Proofs.Ytpkccmohlcndgaa
open Go.RowKit Go.Shelf
set_option linter.unusedVariables false

theorem Arr.part {w : World} {B g off n cap : Nat} {l : List Int} (hn : n = l.length) (h1 : l.length ≤ cap) (h2 : cap ≤ 9223372036854775807) (hg : g < B)
    (hc : ∀ i x, l[i]? = some x → w.cell? ⟨g, off + i, none⟩ = some (.int .i64 x)) : Arr w B 1 (.slice (some ⟨g, off, none⟩) n cap) l icell := by
  subst hn
  refine ⟨_, cap, rfl, h1, h2, fun _ => ⟨g, off, rfl, hg, fun i x hx j hj => ?_⟩⟩
  obtain rfl : j = 0 := by omega
  rw [Nat.mul_one, Nat.add_zero]
  exact hc i x hx
/-- a row of the call's own that reads as a list of numbers: its block -/
def OwnB (w : World) (b n cap : Nat) (l : List Int) : Prop := ∃ cur, Blk w b 3 cur ∧ cur.toList.take n = l.map (Value.int .i64) ∧ n = l.length ∧ n ≤ cap ∧ cap ≤ 9223372036854775807 ∧ n ≤ cur.size
theorem own_B {w : World} {base n cap : Nat} {A : Option Addr} {l : List Int} (h : w.ownsRow base 3 1 (.slice A n cap) n (l.map (Value.int .i64))) (hn : 0 < n) : ∃ b, A = some ⟨b, 0, none⟩ ∧ base ≤ b ∧ OwnB w b n cap l := by
  obtain ⟨h1, h2⟩ := h
  rcases h2 with ⟨hv, h0⟩ | ⟨g, cap', cur, hv, hg, hh, hc, hm, hs, ht⟩
  · omega
  · injection hv with hA _ hcc
    subst hcc
    rw [Nat.mul_one] at ht
    have hl : n = l.length := by have := h1; simp at this; omega
    refine ⟨g, hA, hg, cur, hh, ht, hl, hc, by simpa only [maxLen] using hm, ?_⟩
    have := congrArg List.length ht
    simp at this
    omega
theorem OwnB.lt {w : World} {b n cap : Nat} {l : List Int} (h : OwnB w b n cap l) : b < w.heap.size := h.elim fun cur h => h.1.lt
theorem OwnB.call {w w' : World} {b n cap : Nat} {l : List Int} (h : OwnB w b n cap l) (hb : Below w.heap.size w w') : OwnB w' b n cap l := by
  obtain ⟨cur, h1, h2⟩ := h
  exact ⟨cur, h1.call hb, h2⟩
theorem OwnB.far {w : World} {b n cap : Nat} {l : List Int} (h : OwnB w b n cap l) {p : Addr} (hp : b ≠ p.block) (u : Value) : OwnB (w.setCell p u) b n cap l := by
  obtain ⟨cur, h1, h2⟩ := h
  exact ⟨cur, h1.far hp u, h2⟩
theorem OwnB.cell {w : World} {b n cap : Nat} {l : List Int} (h : OwnB w b n cap l) {i : Nat} {x : Int} (hx : l[i]? = some x) : w.cell? ⟨b, i, none⟩ = some (.int .i64 x) ∧ w.frozen? ⟨b, i, none⟩ = false := by
  obtain ⟨cur, h1, h2, h3, h4, h5, h6⟩ := h
  have hi : i < n := by rw [h3]; exact (List.getElem?_eq_some_iff.1 hx).1
  refine ⟨?_, h1.frozen i⟩
  have h7 : (cur.toList.take n)[i]? = some (.int .i64 x) := by rw [h2, List.getElem?_map, hx]; rfl
  rw [List.getElem?_take, if_pos hi] at h7
  rw [h1.cell]
  simpa using h7
theorem OwnB.set_ {w : World} {b n cap : Nat} {l : List Int} (h : OwnB w b n cap l) {i : Nat} (hi : i < n) (x : Int) : OwnB (w.setCell ⟨b, i, none⟩ (.int .i64 x)) b n cap (l.set i x) := by
  obtain ⟨cur, h1, h2, h3, h4, h5, h6⟩ := h
  refine ⟨cur.setIfInBounds i (.int .i64 x), h1.set_ i _, ?_, by simpa using h3, h4, h5, by simpa using h6⟩
  rw [Array.toList_setIfInBounds, List.take_set, h2, List.map_set]
theorem OwnB.arr {w : World} {b n cap : Nat} {l : List Int} (h : OwnB w b n cap l) : Arr w w.heap.size 1 (.slice (some ⟨b, 0, none⟩) n cap) l icell := by
  have hl := h.lt
  have h' := h
  obtain ⟨cur, h1, h2, h3, h4, h5, h6⟩ := h
  exact Arr.part h3 (by omega) h5 hl fun i x hx => by rw [Nat.zero_add]; exact (h'.cell hx).1

def labR (N : Nat) (L : Nat → Nat) : List Int := (List.range N).map fun n => (L n : Int)
theorem labR_len (N : Nat) (L : Nat → Nat) : (labR N L).length = N := by simp [labR]
theorem labR_at {N : Nat} (L : Nat → Nat) {n : Nat} (hn : n < N) : (labR N L)[n]? = some (L n : Int) := by
  unfold labR
  rw [List.getElem?_map, List.getElem?_range hn]
  rfl
theorem labR_relax {N : Nat} (L : Nat → Nat) {x y : Nat} (hx : x < N) (hy : y < N) : ((labR N L).set x ((min (L x) (L y) : Nat) : Int)).set y ((min (L x) (L y) : Nat) : Int) = labR N (relax L (x, y)) := by
  apply List.ext_getElem?
  intro i
  rw [List.getElem?_set, List.getElem?_set]
  by_cases hi : i < N
  · rw [labR_at L hi, labR_at _ hi]
    unfold relax
    by_cases e1 : y = i
    · rw [if_pos e1, if_pos (by simp [labR_len]; omega), if_pos (.inr e1.symm)]
    · rw [if_neg e1]
      by_cases e2 : x = i
      · rw [if_pos e2, if_pos (by simp [labR_len]; omega), if_pos (.inl e2.symm)]
      · rw [if_neg e2, if_neg (by rintro (h | h) <;> omega)]
  · rw [if_neg (by omega), if_neg (by omega), List.getElem?_eq_none (by rw [labR_len]; omega), List.getElem?_eq_none (by rw [labR_len]; omega)]
/-- the first links that are not dropped, as pairs -/
def pairsTo (l : NL) (drop : List Nat) (j : Nat) : List (Nat × Nat) := ((List.range j).filter fun i => !drop.contains i).map fun i => ((lkAt l.L i).a, (lkAt l.L i).b)
theorem pairsTo_all (l : NL) (drop : List Nat) : pairsTo l drop l.links.length = pairsOf l.L drop := by unfold pairsTo pairsOf; rw [NL.len]
theorem pairsTo_in {l : NL} {drop : List Nat} {j : Nat} (h : drop.contains j = true) : pairsTo l drop (j + 1) = pairsTo l drop j := by
  unfold pairsTo
  rw [List.range_succ, List.filter_append, List.map_append]
  simp only [List.filter_cons, List.filter_nil, h, Bool.not_true, Bool.false_eq_true, if_false, List.map_nil, List.append_nil]
theorem pairsTo_out {l : NL} {drop : List Nat} {j a b : Nat} {t : Int} (h : drop.contains j = false) (e : lkAt l.L j = ⟨a, b, t⟩) : pairsTo l drop (j + 1) = pairsTo l drop j ++ [(a, b)] := by
  unfold pairsTo
  rw [List.range_succ, List.filter_append, List.map_append]
  simp only [List.filter_cons, List.filter_nil, h, Bool.not_false, if_true, List.map_cons, List.map_nil, e]
theorem contains_nat {drop : List Int} (hd : ∀ x ∈ drop, 0 ≤ x) (i : Nat) : drop.contains (i : Int) = (natL drop).contains i := by
  rw [Bool.eq_iff_iff, List.contains_iff_mem, List.contains_iff_mem]
  constructor
  · intro h; exact List.mem_map.2 ⟨_, h, by simp⟩
  · intro h
    obtain ⟨z, hz, he⟩ := List.mem_map.1 h
    have := hd z hz
    have e : z = (i : Int) := by omega
    exact e ▸ hz
end Go.Proofs.Ytpkccmohlcndgaa

namespace Go.Proofs.Ytpkccmohlcndgaa
open Go.RowKit Go.Shelf
set_option linter.unusedVariables false

/-- a world in which a link reads as it does -/
structure KeepX (X a b : Nat) where
  w : World
  c0 : w.cell? ⟨X, 0, none⟩ = some (.int .i64 (a : Int))
  c1 : w.cell? ⟨X, 1, none⟩ = some (.int .i64 (b : Int))
set_option maxRecDepth 100000 in
set_option maxHeartbeats 3200000 in
theorem rgroups_ok (v dv : Value) (l : NL) (drop : List Int) (w : World) (hg : Good l) (hd0 : ∀ x ∈ drop, 0 ≤ x) (hv : NLV w w.heap.size v l) (hd : Arr w w.heap.size 1 dv drop icell) :
    Calls Try.prog 47 #[v, dv] w fun r w' => ∃ ob cap, r = .returned (.slice (some ⟨ob, 0, none⟩) l.N cap) ∧ OwnB w' ob l.N cap (labR l.N (labN (pairsOf l.L (natL drop)) l.N)) ∧ w.heap.size ≤ ob ∧ Below w.heap.size w w' := by
  obtain ⟨ka, kc, aa, ac, ba, bc, rfl, hna⟩ := hv
  have hC := NB.new hna
  have hB := (Below.refl w.heap.size w).alloc (Nat.le_refl _) (.cells #[.int .i64 l.n, .slice ka l.links.length kc, .slice aa l.left.length ac, .slice ba l.right.length bc] 25)
  have hN40 : l.N ≤ 40 := by have := hg.forty; have := hg.nN; omega
  have hN2 : 2 ≤ l.N := by have := hg.two; have := hg.nN; omega
  have h120 := hg.few
  have HIN := Lib.hid (fun (W' : World) (hb : Below w.heap.size w W') (u : Nat) => rin_ok dv drop (u : Int) W' ((hd.below hb).more hb.size))
  have HNA := Lib.hid (fun (W' : World) (hb : Below w.heap.size w W') => (hna.below hb).more hb.size)
  have HD := Lib.hid (fun i => contains_nat hd0 i)
  obtain ⟨D, hDD⟩ : ∃ D, D = natL drop := ⟨_, rfl⟩
  rw [← hDD] at HD ⊢
  have HP := Lib.hid (pairsTo_all l D)
  go_enter Try.func47, Try.ntmps47
  go_upto_region 1 with (fail)
  generalize hW : w.alloc (.cells #[.int .i64 l.n, .slice ka l.links.length kc, .slice aa l.left.length ac, .slice ba l.right.length bc] 25) = W at *
  clear hW hd hna hd0 hDD
  have hnN := hg.nN
  have hblk := hC.blk
  rw [← hnN] at hblk
  clear hC hnN
  go_wp2
  go_loopw [5, 6] (fun o i wr => ∃ (k : Nat) (A : Option Addr) (cap : Nat), k ≤ l.N ∧ i = .int .i64 k ∧ o = .slice A k cap ∧ Below W.heap.size W wr ∧ wr.ownsRow W.heap.size 3 1 (.slice A k cap) k (((List.range k).map fun n => ((n : Nat) : Int)).map (Value.int .i64))) (fun _ i _ => l.N - (intOf i).toNat)
  case atStart => exact ⟨0, none, 0, by omega, rfl, rfl, Below.refl _ _, by simpa using World.ownsRow_nil _ _ _ _⟩
  case round =>
    obtain ⟨k, A, cap, hk, rfl, rfl, hbr, hown⟩ := hrel
    obtain ⟨k0, k1, k2, k3⟩ := (hblk.call hbr).c4
    by_cases hlt : k < l.N
    · have d1 : decide (k < l.N) = true := decide_eq_true hlt
      have d1' : decide ((k : Int) < (l.N : Int)) = true := decide_eq_true (by omega)
      have hsz := hbr.size
      obtain ⟨-, hnc, hncm⟩ := own_cap hown
      go_wp2_with (at_builtin; refine wpList_app1 slT_int rfl (.tmp 17) (.tmp 19) rfl (A := A) (cc := cap) rfl ⟨cap, hown, .inl rfl⟩ rfl rfl one_1 hsz ?_ ?_ ?_)
      any_goals omega
      intro v4 w4 hown4 hb4 hkeep4
      have hown5 : w4.ownsRow W.heap.size 3 1 v4 (k + 1) (((List.range (k + 1)).map fun n => ((n : Nat) : Int)).map (Value.int .i64)) := by
        rw [List.range_succ, List.map_append, List.map_append]
        simpa using hown4
      have hb5 := hbr.trans hb4
      obtain ⟨A4, c4, rfl⟩ := own_form hown5
      clear hown4 hb4 hkeep4 hown hbr hsz
      go_wp2
      go_roundw
      case rel => exact ⟨k + 1, _, _, by omega, by go_num, rfl, hb5, hown5⟩
      case measure => (simp [intOf]; try omega)
    · obtain rfl : k = l.N := by omega
      have d1 : decide (l.N < l.N) = false := by simp
      obtain ⟨ob, rfl, hob, hO⟩ := own_B hown (by omega)
      have hob2 : w.heap.size ≤ ob := Nat.le_trans hB.size hob
      have hCr := hblk.call hbr
      have hgo : w.heap.size < ob := by have := hblk.lt; omega
      have hBr := hB.trans (hbr.mono hB.size)
      have hO0 : OwnB wr ob l.N cap (labR l.N (rounds (pairsOf l.L D) 0)) := hO
      clear hk hlt hown hO hbr hB hblk hob
      obtain ⟨k0, k1, k2, k3⟩ := hCr.c4
      obtain ⟨wo, hwo⟩ : ∃ wo : World, wo = wr := ⟨_, rfl⟩
      rw [← hwo] at hO0 hCr hBr k0 k1 k2 k3 ⊢
      clear hwo
      go_wp2
      go_loopw [7] (fun i wr => ∃ r : Nat, r ≤ l.N ∧ i = .int .i64 r ∧ Below w.heap.size w wr ∧ OwnB wr ob l.N cap (labR l.N (rounds (pairsOf l.L D) r)) ∧ Blk wr w.heap.size 25 #[.int .i64 (l.N : Int), .slice ka l.links.length kc, .slice aa l.left.length ac, .slice ba l.right.length bc]) (fun i _ => l.N - (intOf i).toNat)
      case atStart => exact ⟨0, Nat.zero_le _, rfl, hBr, hO0, hCr⟩
      case round =>
        clear k0 k1 k2 k3 hBr hO0 hCr d1
        obtain ⟨r, hr, rfl, hBr, hO, hC⟩ := hrel
        obtain ⟨k0, k1, k2, k3⟩ := hC.c4
        by_cases hrl : r < l.N
        · have d2 : decide (r < l.N) = true := by simpa using hrl
          have d2' : decide ((r : Int) < (l.N : Int)) = true := by simp; omega
          have HR1 : Hid (rounds (pairsOf l.L D) (r + 1) = (pairsOf l.L D).foldl relax (rounds (pairsOf l.L D) r)) := rfl
          generalize rounds (pairsOf l.L D) r = L at *
          go_wp2
          go_loopw [8] (fun i wr => ∃ j : Nat, j ≤ l.links.length ∧ i = .int .i64 j ∧ Below w.heap.size w wr ∧ OwnB wr ob l.N cap (labR l.N ((pairsTo l D j).foldl relax L)) ∧ Blk wr w.heap.size 25 #[.int .i64 (l.N : Int), .slice ka l.links.length kc, .slice aa l.left.length ac, .slice ba l.right.length bc]) (fun i _ => l.links.length - (intOf i).toNat)
          case atStart => exact ⟨0, Nat.zero_le _, rfl, hBr, hO, hC⟩
          case round =>
            clear k0 k1 k2 k3 hBr hO hC
            obtain ⟨j, hj, rfl, hBr, hO, hC⟩ := hrel
            obtain ⟨k0, k1, k2, k3⟩ := hC.c4
            by_cases hjl : j < l.links.length
            · have d3 : decide (j < l.links.length) = true := by simpa using hjl
              have d3' : decide ((j : Int) < (l.links.length : Int)) = true := by simp; omega
              have hji : (j : Int) < (l.links.length : Int) := by omega
              have hin := HIN.out wr hBr j
              cases hc : drop.contains (j : Int)
              · rw [hc] at hin
                obtain ⟨a, b, t, h1, h2, han, hbn, -, -, -⟩ := hg.lk_at hjl
                have HT : Hid ((pairsTo l D (j + 1)).foldl relax L = relax ((pairsTo l D j).foldl relax L) (a, b)) := by rw [Hid, pairsTo_out (by rw [← HD.out, hc]) h2, List.foldl_append]; rfl
                obtain ⟨kb, ko, x, rfl, kl, kx, c0, c1, c2⟩ := link_at (HNA.out wr hBr).ks hjl
                rw [h1] at kx
                injection kx with kx
                subst kx
                clear h1 h2 hc
                go_wp2_with fail
                refine hin.mono ?_
                rintro e w2 ⟨rfl, rfl⟩
                clear hin
                generalize (pairsTo l D j).foldl relax L = M at *
                have hai : (a : Int) < (l.N : Int) := by omega
                have hbi : (b : Int) < (l.N : Int) := by omega
                go_upto_region 14 with (fail)
                have hX := Blk.new w2 60 #[.int .i64 (a : Int), .int .i64 (b : Int), .int .i64 t]
                have hb1 := (Below.refl w2.heap.size w2).alloc (Nat.le_refl _) (.cells #[.int .i64 (a : Int), .int .i64 (b : Int), .int .i64 t] 60)
                have hB1 := hBr.trans (hb1.mono hBr.size)
                have hO1 := hO.call hb1
                have hC1 := hC.call hb1
                have hox : ob ≠ w2.heap.size := by have := hO.lt; omega
                clear c0 c1 c2 hb1 hBr hO hC k0 k1 k2 k3
                generalize w2.alloc (.cells #[.int .i64 (a : Int), .int .i64 (b : Int), .int .i64 t] 60) = V at *
                generalize w2.heap.size = X at *
                have x0 := hX.cell 0
                have x1 := hX.cell 1
                simp at x0 x1
                obtain ⟨c0, -⟩ := hO1.cell (labR_at M han)
                obtain ⟨c1, -⟩ := hO1.cell (labR_at M hbn)
                obtain ⟨p, hp⟩ : ∃ p, p = M a := ⟨_, rfl⟩
                obtain ⟨q, hq⟩ : ∃ q, q = M b := ⟨_, rfl⟩
                rw [← hp] at c0
                rw [← hq] at c1
                have HRX : Hid (((labR l.N M).set a ((min p q : Nat) : Int)).set b ((min p q : Nat) : Int) = labR l.N (relax M (a, b))) := by rw [hp, hq]; exact labR_relax M han hbn
                clear hp hq
                have f0 := Ext.of x0
                have f1 := Ext.of x1
                have f2 := Ext.of c0
                have f3 := Ext.of c1
                clear x0 x1 c0 c1
                refine wp_region_ext (by kernel_rfl) (by kernel_rfl) ?_
                repeat (go_big_quiet_step (fail))
                refine wpQuiet_nil ?_
                intro _ hw'
                obtain ⟨xr, hw''⟩ := hw'
                subst hw''
                have emin : (if q < p then (q : Int) else (p : Int)) = ((min p q : Nat) : Int) := by split <;> omega
                rw [emin]
                have hB2 := hB1.trans (xr.h.mono hB1.size)
                have hO2 := hO1.call xr.h
                have hC2 := hC1.call xr.h
                have hX2 := hX.call xr.h
                obtain ⟨W3, hW3⟩ : ∃ W3 : World, W3 = xr.w := ⟨_, rfl⟩
                rw [← hW3] at hB2 hO2 hC2 hX2 ⊢
                clear hW3 xr f0 f1 f2 f3 hO1 hC1 hB1 hX emin
                obtain ⟨N, hN⟩ : ∃ N, N = min p q := ⟨_, rfl⟩
                rw [← hN] at HRX ⊢
                clear hN
                haveI : Nonempty (KeepX X a b) := ⟨⟨W3.drew, by have := hX2.cell 0; simpa using this, by have := hX2.cell 1; simpa using this⟩⟩
                have f0 : ∀ x : KeepX X a b, x.w.cell? ⟨X, 0, none⟩ = some (.int .i64 (a : Int)) := fun x => x.c0
                have f1 : ∀ x : KeepX X a b, x.w.cell? ⟨X, 1, none⟩ = some (.int .i64 (b : Int)) := fun x => x.c1
                go_upto_region 15 with (fail)
                refine wp_region_sched (C := fun w' => ∃ x : KeepX X a b, w' = x.w) [(0, true), (1, true), (2, true), (3, true), (4, true), (5, true), (6, true), (7, true), (8, true), (9, false), (10, false), (11, false)] (by kernel_rfl) (by kernel_rfl) ⟨⟨W3.drew, by have := hX2.cell 0; simpa using this, by have := hX2.cell 1; simpa using this⟩, rfl⟩ ?_
                have hdr := (Below.refl W3.heap.size W3).drew
                replace hO2 := hO2.call hdr
                replace hX2 := hX2.call hdr
                replace hC2 : Blk W3.drew w.heap.size 25 _ := hC2.call hdr
                replace hB2 := hB2.trans (hdr.mono hB2.size)
                clear hdr this
                generalize W3.drew = W4 at *
                obtain ⟨c0, z0⟩ := hO2.cell (labR_at M han)
                have hO3 := hO2.set_ han (N : Int)
                have hX3 := hX2.far (p := ⟨ob, a, none⟩) (fun e => hox e.symm) (.int .i64 (N : Int))
                have hC3 : Blk _ w.heap.size 25 _ := hC2.far (p := ⟨ob, a, none⟩) (by show w.heap.size ≠ ob; omega) (.int .i64 (N : Int))
                have hB3 := hB2.setCell (p := ⟨ob, a, none⟩) hob2 (.int .i64 (N : Int))
                haveI : Nonempty (KeepX X a b) := ⟨⟨W4, by have := hX2.cell 0; simpa using this, by have := hX2.cell 1; simpa using this⟩⟩
                have y0 := hX3.cell 0
                have y1 := hX3.cell 1
                simp only [List.getElem?_toArray, List.getElem?_cons_zero, List.getElem?_cons_succ] at y0 y1
                obtain ⟨y5, hy5⟩ : ∃ y5, ((labR l.N M).set a (N : Int))[b]? = some y5 := ⟨_, List.getElem?_eq_getElem (by rw [List.length_set, labR_len]; exact hbn)⟩
                obtain ⟨c4, z4⟩ := hO3.cell hy5
                refine sched_q (by rfl) (by rfl) ?_
                intro K hK
                go_big_quiet_op
                go_big_quiet_on
                refine sched_q (by rfl) (by rfl) ?_
                intro K hK
                go_big_quiet_op
                go_big_quiet_on
                refine sched_q (by rfl) (by rfl) ?_
                intro K hK
                go_big_quiet_op
                go_big_quiet_on
                refine sched_q (by rfl) (by rfl) ?_
                intro K hK
                go_big_quiet_op
                go_big_quiet_on
                refine sched_q (by rfl) (by rfl) ?_
                intro K hK
                go_big_quiet_op
                go_big_quiet_on
                refine sched_q (by rfl) (by rfl) ?_
                intro K hK
                go_big_quiet_op
                go_big_quiet_on
                refine sched_q (by rfl) (by rfl) ?_
                intro K hK
                go_big_quiet_op
                go_big_quiet_on
                refine sched_q (by rfl) (by rfl) ?_
                intro K hK
                go_big_quiet_op
                go_big_quiet_on
                refine sched_q (by rfl) (by rfl) ?_
                intro K hK
                go_big_quiet_op
                go_big_quiet_on
                refine sched_c (by rfl) (by rfl) ?_
                intro K' hK'
                go_wp2
                generalize W4.setCell ⟨ob, a, none⟩ (.int .i64 (N : Int)) = W5 at *
                refine hK' _ _ ⟨.inr ⟨⟨W5, y0, y1⟩, rfl⟩, ?_⟩
                clear hK' K' c0 z0
                refine sched_c (by rfl) (by rfl) ?_
                intro K' hK'
                go_wp2
                refine hK' _ _ ⟨.inr ⟨⟨W5, y0, y1⟩, rfl⟩, ?_⟩
                clear hK' K'
                have hO4 := hO3.set_ hbn (N : Int)
                rw [HRX.out, ← HT.out] at hO4
                have hC4 : Blk _ w.heap.size 25 _ := hC3.far (p := ⟨ob, b, none⟩) (by show w.heap.size ≠ ob; omega) (.int .i64 (N : Int))
                have hB4 := hB3.setCell (p := ⟨ob, b, none⟩) hob2 (.int .i64 (N : Int))
                refine sched_c (by rfl) (by rfl) ?_
                intro K' hK'
                go_wp2
                refine hK' _ _ ⟨(by first | exact .inl rfl | exact .inl trivial), ?_⟩
                clear hK' K'
                refine sched_nil ?_
                clear f0 f1 this y0 y1 c4 z4
                go_wp2
                go_roundw
                case rel => exact ⟨j + 1, by omega, by go_num, hB4, hO4, hC4⟩
                case measure => (simp [intOf]; try omega)
              · rw [hc] at hin
                have HT : Hid ((pairsTo l D (j + 1)).foldl relax L = (pairsTo l D j).foldl relax L) := by rw [Hid, pairsTo_in (by rw [← HD.out, hc])]
                rw [← HT.out] at hO
                clear hc
                go_wp2_with fail
                refine hin.mono ?_
                rintro e w2 ⟨rfl, rfl⟩
                clear hin
                go_wp2
                go_roundw
                case rel => exact ⟨j + 1, by omega, by go_num, hBr, hO, hC⟩
                case measure => (simp [intOf]; try omega)
            · obtain rfl : l.links.length = j := by omega
              have d3 : decide (l.links.length < l.links.length) = false := by simp
              rw [HP.out, ← HR1.out] at hO
              go_wp2
              go_roundw
              case rel => exact ⟨r + 1, by omega, by go_num, hBr, hO, hC⟩
              case measure => (simp [intOf]; try omega)
        · obtain rfl : l.N = r := by omega
          have d2 : decide (l.N < l.N) = false := by simp
          go_wp2
          go_ret
          exact ⟨ob, cap, by rfl, hO, hob2, hBr⟩
end Go.Proofs.Ytpkccmohlcndgaa
