/- Contract of the reference: Table. -/
import Derived.Test.YthplabmbbfefeaaRefT
import Derived.Test.YthplabmbbfefeaaMod
import Derived.Test.YthplabmbbfefeaaTail
import Derived.WalkLawsBesides
namespace Go.Proofs.Ythplabmbbfefeaa
open Go.RowKit Go.Shelf
set_option linter.unusedVariables false

/-- the cells of a row -/
def rowB (K : Nat) (r : Nat → Int) : Array Value := ((List.range (K + 1)).map fun j => Value.int .i64 (r j)).toArray
theorem rowB_get {K j : Nat} {r : Nat → Int} (h : j ≤ K) : (rowB K r)[j]? = some (.int .i64 (r j)) := by
  unfold rowB
  rw [List.getElem?_toArray, List.getElem?_map, List.getElem?_range (by omega)]
  rfl
theorem rowB_size {K : Nat} {r : Nat → Int} : (rowB K r).size = K + 1 := by simp [rowB]
theorem rowB_congr {K : Nat} {r r' : Nat → Int} (h : ∀ j, j ≤ K → r j = r' j) : rowB K r = rowB K r' := by
  unfold rowB
  congr 1
  apply List.map_congr_left
  intro j hj
  rw [h j (by have := List.mem_range.1 hj; omega)]
theorem rowB_set {K j : Nat} {r r' : Nat → Int} {x : Int} (h : j ≤ K) (hr : ∀ i, i ≤ K → r' i = if i = j then x else r i) : (rowB K r).setIfInBounds j (.int .i64 x) = rowB K r' := by
  apply Array.ext_getElem?
  intro i
  rw [Array.getElem?_setIfInBounds, rowB_size]
  by_cases hij : j = i
  · subst hij
    rw [if_pos rfl, if_pos (by omega), rowB_get h, hr j h, if_pos rfl]
  · rw [if_neg hij]
    by_cases hi : i ≤ K
    · rw [rowB_get hi, rowB_get hi, hr i hi, if_neg (Ne.symm hij)]
    · rw [Array.getElem?_eq_none (by rw [rowB_size]; omega), Array.getElem?_eq_none (by rw [rowB_size]; omega)]
theorem rowB_made (K : Nat) : madeCells #[Value.int .i64 0] (K + 1) = rowB K fun _ => 0 := by
  apply Array.ext_getElem?
  intro i
  have h2 : (madeCells #[Value.int .i64 0] (K + 1))[i]? = (madeCells #[Value.int .i64 0] (K + 1)).toList[i]? := by simp
  rw [h2, toList_madeCells_one, List.getElem?_replicate]
  by_cases hi : i ≤ K
  · rw [if_pos (by omega), rowB_get hi]
  · rw [if_neg (by omega), Array.getElem?_eq_none (by rw [rowB_size]; omega)]

/-- rows of a table, each in a block of its own from base on -/
def TabAt (W : World) (base n K : Nat) (V : Nat → Nat → Int) (hs : List Value) : Prop :=
  hs.length = n ∧ ∀ i, i < n → ∃ b, hs[i]? = some (.slice (some ⟨b, 0, none⟩) (K + 1) (K + 1)) ∧ base ≤ b ∧ Blk W b 2 (rowB K (V i))
theorem TabAt.keep {W W' : World} {base n K : Nat} {V : Nat → Nat → Int} {hs : List Value} (h : TabAt W base n K V hs) (hk : ∀ b cs, Blk W b 2 cs → W'.heap[b]? = W.heap[b]?) : TabAt W' base n K V hs :=
  ⟨h.1, fun i hi => by obtain ⟨b, h1, h2, h3⟩ := h.2 i hi; exact ⟨b, h1, h2, (hk b _ h3).trans h3⟩⟩
theorem TabAt.call {W W' : World} {base n K : Nat} {V : Nat → Nat → Int} {hs : List Value} (h : TabAt W base n K V hs) (hb : Below W.heap.size W W') : TabAt W' base n K V hs :=
  h.keep fun b _ hB => hb.block b hB.lt
theorem TabAt.snoc {W : World} {base n K b : Nat} {V : Nat → Nat → Int} {hs : List Value} (h : TabAt W base n K V hs) (hb : base ≤ b) (hB : Blk W b 2 (rowB K (V n))) : TabAt W base (n + 1) K V (hs ++ [.slice (some ⟨b, 0, none⟩) (K + 1) (K + 1)]) := by
  refine ⟨by simp [h.1], fun i hi => ?_⟩
  by_cases hin : i < n
  · obtain ⟨b', h1, h2, h3⟩ := h.2 i hin
    exact ⟨b', by rw [List.getElem?_append_left (by rw [h.1]; exact hin)]; exact h1, h2, h3⟩
  · obtain rfl : i = n := by omega
    exact ⟨b, by rw [List.getElem?_append_right (by rw [h.1]; omega), h.1]; simp, hb, hB⟩

/-- a row of the call's own, one cell an element: where it lies -/
theorem own_cells {w : World} {base : Nat} {e : TypeId} {n cap : Nat} {A : Option Addr} {xs : List Value} (h : w.ownsRow base e 1 (.slice A n cap) n xs) (hn : 0 < n) : ∃ b, A = some ⟨b, 0, none⟩ ∧ base ≤ b ∧ b < w.heap.size ∧ ∀ j x, xs[j]? = some x → w.cell? ⟨b, j, none⟩ = some x := by
  obtain ⟨h1, h2⟩ := h
  rcases h2 with ⟨hv, h0⟩ | ⟨g, cap', cur, hv, hg, hh, hc, hm, hs, ht⟩
  · omega
  · injection hv with hA _ _
    refine ⟨g, hA, hg, (Array.getElem?_eq_some_iff.1 hh).1, fun j x hx => ?_⟩
    have hB : Blk w g e cur := hh
    rw [hB.cell, ← hx, ← ht, List.getElem?_take, if_pos]
    · simp
    · have := (List.getElem?_eq_some_iff.1 hx).1
      omega

theorem slT_rows : SlT 88 36 1 24 (.slice none 0 0) := ⟨Try.underlying88, by kernel_rfl, rfl, by omega⟩
theorem one_s {A : Option Addr} {n m : Nat} : ∀ u ∈ (#[Value.slice A n m] : Array Value).toList, u.oneCell' = true := by simp [Value.oneCell']

theorem endC_fit (c : Cyl) (ws : Nat → Int) (M : Int) (hM : 0 ≤ M) (h : c.turns = (tT c : Int)) (hws : ∀ i, -M ≤ ws i ∧ ws i ≤ M) : Fit (endC c ws) (M * c.pas.length) := by
  intro i y hy
  obtain ⟨h1, h2, h3⟩ := (endsOf_mem ws c (tT c) h i y).1 hy
  have h4 := sumW_bound ws M hM hws y.s c.pas 0
  have h5 := h1.1
  have h6 := h1.2.1
  rw [h3]
  exact ⟨h5, by omega, h4.1, h4.2⟩
theorem tabC_bound (c : Cyl) (ws : Nat → Int) (h : checkCyl c = 0) (hlen : c.pas.length ≤ 12) (hws : ∀ i, -2000000 ≤ ws i ∧ ws i ≤ 2000000) (t k : Nat) : -720000000 ≤ tabC c ws t k ∧ tabC c ws t k ≤ 720000000 := by
  have hT := (cyl_nat h).1
  have hn := (cyl_nat h).2.2.2.1
  have hl : (0 : Int) ≤ 2000000 * (c.pas.length : Int) := by omega
  have hb := tabN_bound (endC c ws) (2000000 * c.pas.length) hl (endC_fit c ws 2000000 (by omega) hT hws) (tK c) (tT c) t k
  have h1 : (2000000 * (c.pas.length : Int)) * (tT c : Int) ≤ 24000000 * 30 := Int.mul_le_mul (by omega) (by omega) (by omega) (by omega)
  have hb' : -(2000000 * (c.pas.length : Int) * (tT c : Int)) ≤ tabC c ws t k ∧ tabC c ws t k ≤ 2000000 * (c.pas.length : Int) * (tT c : Int) := hb
  omega
theorem listW_bound {l : List Int} (h : ∀ x ∈ l, -2000000 ≤ x ∧ x ≤ 2000000) (i : Nat) : -2000000 ≤ listW l i ∧ listW l i ≤ 2000000 := by
  unfold listW
  cases hx : l[i]? with
  | none => simp
  | some x => have := h x (List.mem_of_getElem? hx); simpa using this

def rowF (V : Nat → Nat → Int) (t k : Nat) (x : Int) (j : Nat) : Int := if j < k then V t j else if j = k then x else 0

theorem tab_close {c : Cyl} {ws : Nat → Int} {T K : Nat} {V : Nat → Nat → Int} (H : IsTab c ws T K V) {t k q : Nat} {x : Int} (ht0 : 0 < t) (ht : t ≤ T) (hk : k ≤ K) (h1 : V (t - 1) k ≤ x) (h2 : x ≤ V t k)
    (h3 : 0 < k → ∀ a : Nat, q ≤ a → a < t → OkS c ⟨a, ((t - 1 : Nat) : Int)⟩ → V a (k - 1) + sumW ws ⟨a, ((t - 1 : Nat) : Int)⟩ 0 c.pas ≤ x) (hend : q = 0 ∨ k = 0 ∨ c.long < (t : Int) - ((q : Int) - 1)) : x = V t k := by
  rcases Nat.eq_zero_or_pos k with rfl | hk0
  · rw [H.none_ t ht] at h2 ⊢
    rw [H.none_ (t - 1) (by omega)] at h1
    omega
  · obtain ⟨k', rfl⟩ : ∃ k', k = k' + 1 := ⟨k - 1, by omega⟩
    obtain ⟨t', rfl⟩ : ∃ t', t = t' + 1 := ⟨t - 1, by omega⟩
    rw [Nat.add_sub_cancel] at h1 h3
    rcases H.att t' k' (by omega) (by omega) with e | ⟨s, hs, hb, e⟩
    · omega
    · have hs' := hs
      unfold OkS at hs'
      have hse : s = ⟨(s.a.toNat : Int), (t' : Int)⟩ := by
        obtain ⟨a, b⟩ := s
        simp at hb hs'
        simp only [Str.mk.injEq]
        omega
      have hq : q ≤ s.a.toNat := by omega
      have := h3 (by omega) s.a.toNat hq (by omega) (by rw [← hse]; exact hs)
      rw [← hse, Nat.add_sub_cancel] at this
      omega
theorem tab_step {c : Cyl} {ws : Nat → Int} {T K : Nat} {V : Nat → Nat → Int} (H : IsTab c ws T K V) {t k a : Nat} (ht0 : 0 < t) (ht : t ≤ T) (hk0 : 0 < k) (hk : k ≤ K) (hs : OkS c ⟨a, ((t - 1 : Nat) : Int)⟩) : V a (k - 1) + sumW ws ⟨a, ((t - 1 : Nat) : Int)⟩ 0 c.pas ≤ V t k := by
  obtain ⟨k', rfl⟩ : ∃ k', k = k' + 1 := ⟨k - 1, by omega⟩
  obtain ⟨t', rfl⟩ : ∃ t', t = t' + 1 := ⟨t - 1, by omega⟩
  have := H.ext t' k' _ (by omega) (by omega) hs rfl
  simpa using this

set_option maxRecDepth 100000 in
set_option maxHeartbeats 3200000 in
theorem rtable_ok (v lv : Value) (c : Cyl) (l : List Int) (w : World) (hv : CylV w w.heap.size v c) (hs : Arr w w.heap.size 1 lv l icell) (h0 : checkCyl c = 0) (hll : l.length = c.pas.length) (hbd : ∀ x ∈ l, -2000000 ≤ x ∧ x ≤ 2000000) :
    Calls Try.prog 53 #[v, lv] w fun r w' => ∃ A cap hs, r = .returned (.slice A (tT c + 1) cap) ∧ w'.ownsRow w.heap.size 36 1 (.slice A (tT c + 1) cap) (tT c + 1) hs ∧ TabAt w' w.heap.size (tT c + 1) (tK c) (tabC c (listW l)) hs ∧ Below w.heap.size w w' := by
  obtain ⟨la, lc, rfl, hs'⟩ := id hs
  clear hs'
  obtain ⟨_, _, hlen, hall⟩ := cyl_valid h0
  obtain ⟨n1, n2, n3, n4, n5, n6, n7⟩ := cyl_nat h0
  have htab := tabC_isTab c (listW l) h0
  have hvb := tabC_bound c (listW l) h0 hlen (listW_bound hbd)
  obtain ⟨V, hV⟩ : ∃ V, V = tabC c (listW l) := ⟨_, rfl⟩
  rw [← hV] at htab hvb ⊢
  obtain ⟨T, hTT⟩ : ∃ T, T = tT c := ⟨_, rfl⟩
  obtain ⟨K, hKK⟩ : ∃ K, K = tK c := ⟨_, rfl⟩
  rw [← hTT] at n1 n3 n4 htab ⊢
  rw [← hKK] at n2 n5 htab ⊢
  have HTAB := Lib.hid htab
  have HVB := Lib.hid hvb
  have HBD := Lib.hid hbd
  have HLL := Lib.hid hll
  have N1 := Lib.hid n1
  have N2 := Lib.hid n2
  clear hV hTT hKK htab hvb hbd hll n1 n2 hall h0
  obtain ⟨fa, fc, pa, pc, rfl, hf, hp⟩ := hv.open_
  have hC := CB.new hf hp
  have hB := (Below.refl w.heap.size w).alloc (Nat.le_refl _) (.cells #[.int .i64 c.turns, .int .i64 c.long, .int .i64 c.plays, .slice fa c.frag.length fc, .slice pa c.pas.length pc] 25)
  go_enter Try.func53, Try.ntmps53
  go_upto_region 1 with (fail)
  generalize hW : w.alloc (.cells #[.int .i64 c.turns, .int .i64 c.long, .int .i64 c.plays, .slice fa c.frag.length fc, .slice pa c.pas.length pc] 25) = W at *
  clear hW hf hp
  obtain ⟨k0, k1, k2, k3, k4⟩ := hC.c5
  rw [N1.out] at k0
  rw [N2.out] at k2
  go_wp2
  go_loopw [5, 6] (fun o i wr => ∃ (t : Nat) (A : Option Addr) (cap : Nat) (hs : List Value), t ≤ T + 1 ∧ i = .int .i64 t ∧ o = .slice A t cap ∧ wr.ownsRow W.heap.size 36 1 (.slice A t cap) t hs ∧ TabAt wr W.heap.size t K V hs ∧ Below W.heap.size W wr) (fun _ i _ => T + 1 - (intOf i).toNat)
  case atStart => exact ⟨0, none, 0, [], Nat.zero_le _, rfl, rfl, World.ownsRow_nil _ _ _ _, ⟨rfl, fun i hi => by omega⟩, Below.refl _ _⟩
  case round =>
    obtain ⟨t, A, cap, hd, ht, rfl, rfl, hown, htb, hb⟩ := hrel
    have hCr := hC.call hb
    clear k0 k1 k2 k3 k4
    obtain ⟨k0, k1, k2, k3, k4⟩ := hCr.c5
    rw [N1.out] at k0
    rw [N2.out] at k2
    by_cases hlt : t < T + 1
    · have dlt : decide (t ≤ T) = true := by simp; omega
      have e1 : IntKind.i64.wrap ((K : Int) + 1) = (K : Int) + 1 := wrap_id _ (by omega) (by omega)
      have hmk := run_mk slT_i64 (K + 1) (by omega) (by omega)
      rw [show ((K + 1 : Nat) : Int) = (K : Int) + 1 by omega] at hmk
      obtain ⟨wo, rfl⟩ : ∃ wo : World, wo = wr := ⟨_, rfl⟩
      go_upto_region 6 with (fail)
      have hx := Blk.new wo 2 (madeCells #[.int .i64 0] (K + 1))
      have hbm := (Below.refl wo.heap.size wo).alloc (Nat.le_refl _) (.cells (madeCells #[.int .i64 0] (K + 1)) 2)
      generalize wo.alloc (.cells (madeCells #[.int .i64 0] (K + 1)) 2) = wm at *
      rw [rowB_made] at hx
      clear hmk k0 k1 k2 k3 k4
      have hbo : W.heap.size ≤ wo.heap.size := hb.size
      have hrow0 : Hid (rowB K (fun _ => (0 : Int)) = rowB K (fun j => if j < 0 then V t j else 0)) := rowB_congr fun j _ => by simp
      rw [hrow0.out] at hx
      go_wp2
      go_loopw [8] (fun i wr => ∃ k : Nat, k ≤ K + 1 ∧ (0 < k → 0 < t) ∧ i = .int .i64 k ∧ Blk wr wo.heap.size 2 (rowB K (fun j => if j < k then V t j else 0)) ∧ Below wo.heap.size wo wr) (fun i _ => K + 1 - (intOf i).toNat)
      case atStart => exact ⟨0, by omega, by omega, rfl, hx, hbm⟩
      case round =>
        obtain ⟨k, hk, hkt, rfl, hxr, hbr⟩ := hrel
        have hCk := hCr.call hbr
        obtain ⟨k0, k1, k2, k3, k4⟩ := hCk.c5
        rw [N1.out] at k0
        rw [N2.out] at k2
        by_cases hin : k ≤ K ∧ 0 < t
        · obtain ⟨hkK, ht0⟩ := hin
          have dk : decide (k ≤ K) = true := by simpa using hkK
          have dt : decide (0 < t) = true := by simpa using ht0
          have hownr := own_call hown hbr
          have htbr := htb.call hbr
          obtain ⟨ob, rfl, hob1, hob2, hoc⟩ := own_cells hownr ht0
          obtain ⟨rb, hrb1, hrb2, hrb3⟩ := htbr.2 (t - 1) (by omega)
          have o1 := hoc _ _ hrb1
          have r1 := hrb3.cell k
          rw [rowB_get hkK] at r1
          have x1 := hxr.cell k
          rw [rowB_get hkK] at x1
          have z1 := hxr.frozen k
          have e2 : IntKind.i64.wrap ((t : Int) - 1) = ((t - 1 : Nat) : Int) := by rw [wrap_id _ (by omega) (by omega)]; omega
          have i1 : ((t - 1 : Nat) : Int) < (t : Int) := by omega
          have i2 : (k : Int) < (K : Int) + 1 := by omega
          have i3 : t - 1 < t := by omega
          have i4 : k < K + 1 := by omega
          clear hoc hrb1
          go_upto_region 10 with (fail)
          have hx2 := hxr.set_ k (.int .i64 (V (t - 1) k))
          have hb2 := hbr.setCell (p := ⟨wo.heap.size, k, none⟩) (Nat.le_refl _) (.int .i64 (V (t - 1) k))
          generalize wr.setCell ⟨wo.heap.size, k, none⟩ (.int .i64 (V (t - 1) k)) = w2 at *
          rw [rowB_set (r' := rowF V t k (V (t - 1) k)) hkK (fun i _ => by
            unfold rowF
            by_cases h1 : i = k
            · subst h1; simp
            · rw [if_neg h1, if_neg h1])] at hx2
          clear x1 r1 o1 z1 k0 k1 k2 k3 k4 hCk hownr htbr hrb3 hxr hbr
          obtain ⟨wk, rfl⟩ : ∃ wk : World, wk = wr := ⟨_, rfl⟩
          go_wp2
          go_loopw [9] (fun f wr => ∃ (q : Nat) (x : Int), q ≤ t ∧ f = .int .i64 ((q : Int) - 1) ∧ Blk wr wo.heap.size 2 (rowB K (rowF V t k x)) ∧ Below wo.heap.size wo wr ∧ V (t - 1) k ≤ x ∧ x ≤ V t k ∧
            (0 < k → ∀ a : Nat, q ≤ a → a < t → OkS c ⟨a, ((t - 1 : Nat) : Int)⟩ → V a (k - 1) + sumW (listW l) ⟨a, ((t - 1 : Nat) : Int)⟩ 0 c.pas ≤ x)) (fun f _ => (intOf f + 1).toNat)
          case atStart =>
            refine ⟨t, V (t - 1) k, Nat.le_refl _, by congr 1; omega, hx2, hb2, Int.le_refl _, ?_, fun _ a ha hat => by omega⟩
            have := HTAB.out.up.keep (t - 1) k (by omega) hkK
            rwa [Nat.sub_add_cancel ht0] at this
          case round =>
            obtain ⟨q, x, hq, rfl, hxq, hbq, hx1, hx2', hall⟩ := hrel
            have HALL := Lib.hid hall
            clear hall hx2 hb2
            have hCq := hCr.call hbq
            obtain ⟨k0, k1, k2, k3, k4⟩ := hCq.c5
            rw [N2.out] at k2
            have hrow : ∀ y, y = V t k → rowB K (rowF V t k y) = rowB K (fun j => if j < k + 1 then V t j else 0) := by
              rintro y rfl
              refine rowB_congr fun j _ => ?_
              unfold rowF
              by_cases h1 : j < k
              · rw [if_pos h1, if_pos (by omega)]
              · rw [if_neg h1]
                by_cases h2 : j = k
                · subst h2; rw [if_pos rfl, if_pos (by omega)]
                · rw [if_neg h2, if_neg (by omega)]
            have HROW := Lib.hid hrow
            clear hrow
            by_cases hend : q = 0 ∨ k = 0 ∨ c.long < (t : Int) - ((q : Int) - 1)
            · have hxe := tab_close HTAB.out ht0 (by omega) hkK hx1 hx2' HALL.out hend
              rw [HROW.out x hxe] at hxq
              clear hxe
              rcases q with _ | q
              · clear hend
                go_wp2
                go_roundw
                case rel => exact ⟨k + 1, by omega, fun _ => ht0, by go_num, hxq, hbq⟩
                case measure => simp [intOf]; omega
              · rw [show ((q + 1 : Nat) : Int) - 1 = (q : Int) by omega]
                have e3 : IntKind.i64.wrap ((t : Int) - (q : Int)) = (t : Int) - (q : Int) := wrap_id _ (by omega) (by omega)
                by_cases hlg : (t : Int) - (q : Int) ≤ c.long
                · have dl : decide ((t : Int) - (q : Int) ≤ c.long) = true := by simpa using hlg
                  have dk0 : decide (0 < k) = false := by simp; omega
                  clear hend
                  go_wp2
                  go_roundw
                  case rel => exact ⟨k + 1, by omega, fun _ => ht0, by go_num, hxq, hbq⟩
                  case measure => simp [intOf]; omega
                · have dl : decide ((t : Int) - (q : Int) ≤ c.long) = false := by simpa using hlg
                  clear hend
                  go_wp2
                  go_roundw
                  case rel => exact ⟨k + 1, by omega, fun _ => ht0, by go_num, hxq, hbq⟩
                  case measure => simp [intOf]; omega
            · obtain ⟨q, rfl⟩ : ∃ q', q = q' + 1 := ⟨q - 1, by omega⟩
              rw [show ((q + 1 : Nat) : Int) - 1 = (q : Int) by omega]
              have hlg : (t : Int) - (q : Int) ≤ c.long := by omega
              have hk0 : 0 < k := by omega
              clear hend
              have e3 : IntKind.i64.wrap ((t : Int) - (q : Int)) = (t : Int) - (q : Int) := wrap_id _ (by omega) (by omega)
              have dl : decide ((t : Int) - (q : Int) ≤ c.long) = true := by simpa using hlg
              have dk0 : decide (0 < k) = true := by simpa using hk0
              go_wp2_with fail
              have hcy := hCq.cyl
              rw [N2.out] at hcy
              refine (worn_ok _ c (q : Int) ((t - 1 : Nat) : Int) wr hcy).mono ?_
              rintro e w5 ⟨rfl, hb5⟩
              have hbq5 := hbq.trans (hb5.mono hbq.size)
              have hxq5 := hxq.call hb5
              clear k0 k1 k2 k3 k4
              cases hwn : worn c (q : Int) ((t - 1 : Nat) : Int)
              · have hCs := hCq.call hb5
                obtain ⟨k0, k1, k2, k3, k4⟩ := hCs.c5
                rw [N2.out] at k2
                have hownr := own_call hown hbq5
                have htbr := htb.call hbq5
                obtain ⟨ob', hoe, hob1', hob2', hoc⟩ := own_cells hownr ht0
                simp only [Option.some.injEq, Addr.mk.injEq, and_true] at hoe
                subst hoe
                obtain ⟨rb', hrb1', hrb2', hrb3'⟩ := htbr.2 q (by omega)
                have o1 := hoc _ _ hrb1'
                have r1 := hrb3'.cell (k - 1)
                rw [rowB_get (by omega)] at r1
                have x1 := hxq5.cell k
                rw [rowB_get hkK] at x1
                have xk : rowF V t k x k = x := by simp [rowF]
                rw [xk] at x1
                have hok : OkS c ⟨q, ((t - 1 : Nat) : Int)⟩ := ⟨by simp, by simp; omega, by simp; have := N1.out; omega, by simp; omega, hwn⟩
                have hst := tab_step HTAB.out ht0 (by omega) hk0 hkK hok
                obtain ⟨sm, hsm⟩ : ∃ sm, sumW (listW l) ⟨(q : Int), ((t - 1 : Nat) : Int)⟩ 0 c.pas = sm := ⟨_, rfl⟩
                have hsb := sumW_bound (listW l) 2000000 (by omega) (listW_bound HBD.out) ⟨(q : Int), ((t - 1 : Nat) : Int)⟩ c.pas 0
                rw [hsm] at hst hsb
                have hvq := HVB.out q (k - 1)
                have e4 : IntKind.i64.wrap (V q (k - 1) + sm) = V q (k - 1) + sm := wrap_id _ (by omega) (by omega)
                have e5 : IntKind.i64.wrap ((k : Int) - 1) = ((k - 1 : Nat) : Int) := by rw [wrap_id _ (by omega) (by omega)]; omega
                have hBw5 := hB.trans ((hb.trans (hbq5.mono hb.size)).mono hB.size)
                have hsm1 : ∀ x : Ext w5, Calls Try.prog 67 #[.agg #[.int .i64 c.turns, .int .i64 c.long, .int .i64 K, .slice fa c.frag.length fc, .slice pa c.pas.length pc], .slice la l.length lc, .int .i64 (q : Int), .int .i64 ((t - 1 : Nat) : Int)] x.w fun e w'' => e = .returned (.int .i64 (sumW (listW l) ⟨(q : Int), ((t - 1 : Nat) : Int)⟩ 0 c.pas)) ∧ ∃ y : Ext w5, w'' = y.w :=
                  fun x => ext_call x (rsum_ok _ _ c l (q : Int) ((t - 1 : Nat) : Int) x.w (N2.out ▸ (hCs.call x.h).cyl) ((hs.below (hBw5.trans (x.h.mono hBw5.size))).more (Nat.le_trans hBw5.size x.h.size)) hlen HLL.out HBD.out)
                rw [hsm] at hsm1
                have HSM := Lib.hid hsm1
                have f0 := Ext.of k0
                have f1 := Ext.of k1
                have f2 := Ext.of k2
                have f3 := Ext.of k3
                have f4 := Ext.of k4
                have g0 := Ext.of o1
                have g1 := Ext.of r1
                have g2 := Ext.of x1
                have j1 : (q : Int) < (t : Int) := by omega
                have j2 : q < t := by omega
                have j3 : ((k - 1 : Nat) : Int) < (K : Int) + 1 := by omega
                have j4 : k - 1 < K + 1 := by omega
                have HST := Lib.hid hst
                have HHS := Lib.hid hsm
                have HHW := Lib.hid hwn
                clear hsm hsm1 hst hsb hvq hoc hrb1' xk hwn hok k0 k1 k2 k3 k4 o1 r1 x1
                go_wp2_with fail
                refine wp_region_tail (C := fun w' => ∃ x : Ext w5, w' = x.w) 23 (by kernel_rfl) (by kernel_rfl) ⟨⟨(w5).drew, ⟨rfl, rfl, rfl, Nat.le_refl _, fun _ _ => rfl⟩⟩, rfl⟩ ?_
                simp only [List.take_succ_cons, List.take_zero, List.drop_succ_cons, List.drop_zero]
                repeat (go_big_quiet_step ((go_at_call 67; exact HSM.out _)))
                refine wpQuiet_nil ?_
                intro _ hw'
                obtain ⟨xr, hw''⟩ := hw'
                subst hw''
                have hx7 := hxq5.call xr.h
                have g3 := hx7.cell k
                rw [rowB_get hkK] at g3
                have g4 := hx7.frozen k
                clear f0 f1 f2 f3 f4 g0 g1 g2
                go_wp2
                go_roundw
                case rel =>
                  refine ⟨q, max x (V q (k - 1) + sm), by omega, rfl, ?_, (hbq5.trans (xr.h.mono hbq5.size)).setCell (p := ⟨wo.heap.size, k, none⟩) (Nat.le_refl _) _, by omega, by have := HST.out; omega, fun h a ha hat hok => ?_⟩
                  · have := hx7.set_ k (.int .i64 (max x (V q (k - 1) + sm)))
                    rwa [rowB_set (r' := rowF V t k (max x (V q (k - 1) + sm))) hkK (fun i _ => by
                      unfold rowF
                      by_cases h1 : i = k
                      · subst h1; simp
                      · rw [if_neg h1]; simp [h1])] at this
                  · by_cases haq : a = q
                    · subst haq
                      rw [HHS.out]
                      omega
                    · have := HALL.out h a (by omega) hat hok
                      omega
                case measure => (simp [intOf]; try omega)
              · have hnew : Hid (0 < k → ∀ a : Nat, q ≤ a → a < t → OkS c ⟨a, ((t - 1 : Nat) : Int)⟩ → V a (k - 1) + sumW (listW l) ⟨a, ((t - 1 : Nat) : Int)⟩ 0 c.pas ≤ x) := by
                  intro h a ha hat hok
                  by_cases haq : a = q
                  · subst haq
                    have := hok.2.2.2.2
                    simp only at this
                    rw [hwn] at this
                    cases this
                  · exact HALL.out h a (by omega) hat hok
                clear hwn
                go_wp2
                go_roundw
                case rel => exact ⟨q, x, by omega, rfl, hxq5, hbq5, hx1, hx2', hnew.out⟩
                case measure => (simp [intOf]; try omega)
        · have hrow2 : rowB K (fun j => if j < k then V t j else 0) = rowB K (V t) := by
            refine rowB_congr fun j hj => ?_
            by_cases ht0 : 0 < t
            · rw [if_pos (by omega)]
            · obtain rfl : t = 0 := by omega
              rw [HTAB.out.zero j hj]
              split <;> rfl
          rw [hrow2] at hxr
          clear hrow2
          have hownr := own_call hown hbr
          have htbr := htb.call hbr
          have hbr2 := hb.trans (hbr.mono hb.size)
          have hcap := own_cap hownr
          have hexit : Hid (k ≤ K → 0 < t → False) := fun h1 h2 => hin ⟨h1, h2⟩
          by_cases hkK : k ≤ K
          · have dk : decide (k ≤ K) = true := by simpa using hkK
            have ht0 : ¬ 0 < t := fun h => hin ⟨hkK, h⟩
            have dt : decide (0 < t) = false := by simpa using ht0
            clear hin
            go_wp2_with (at_builtin; refine wpList_app1 slT_rows rfl (.tmp 88) (.tmp 90) rfl (A := A) (cc := cap) rfl ⟨cap, hownr, .inl rfl⟩ rfl rfl one_s hbr2.size ?_ ?_ ?_)
            any_goals omega
            intro v' w4 hown4 hb4 hkeep
            have htb4 : TabAt w4 W.heap.size t K V hd := htbr.keep fun b cs hB => hkeep b hB.lt (own_ad_ne (own_blk_ne hownr hB (by decide)))
            have hx4 : Blk w4 wo.heap.size 2 (rowB K (V t)) := (hkeep _ hxr.lt (own_ad_ne (own_blk_ne hownr hxr (by decide)))).trans hxr
            have htb5 := htb4.snoc hbo hx4
            have hb5 := hbr2.trans hb4
            obtain ⟨A', cap', rfl⟩ := own_form hown4
            clear hkeep hownr htbr hcap hxr hbr
            go_wp2
            go_roundw
            case rel => exact ⟨t + 1, A', cap', hd ++ [.slice (some ⟨wo.heap.size, 0, none⟩) (K + 1) (K + 1)], by omega, by go_num, rfl, hown4, htb5, hb5⟩
            case measure => (simp [intOf]; try omega)
          · have dk : decide (k ≤ K) = false := by simpa using hkK
            clear hin
            go_wp2_with (at_builtin; refine wpList_app1 slT_rows rfl (.tmp 88) (.tmp 90) rfl (A := A) (cc := cap) rfl ⟨cap, hownr, .inl rfl⟩ rfl rfl one_s hbr2.size ?_ ?_ ?_)
            any_goals omega
            intro v' w4 hown4 hb4 hkeep
            have htb4 : TabAt w4 W.heap.size t K V hd := htbr.keep fun b cs hB => hkeep b hB.lt (own_ad_ne (own_blk_ne hownr hB (by decide)))
            have hx4 : Blk w4 wo.heap.size 2 (rowB K (V t)) := (hkeep _ hxr.lt (own_ad_ne (own_blk_ne hownr hxr (by decide)))).trans hxr
            have htb5 := htb4.snoc hbo hx4
            have hb5 := hbr2.trans hb4
            obtain ⟨A', cap', rfl⟩ := own_form hown4
            clear hkeep hownr htbr hcap hxr hbr
            go_wp2
            go_roundw
            case rel => exact ⟨t + 1, A', cap', hd ++ [.slice (some ⟨wo.heap.size, 0, none⟩) (K + 1) (K + 1)], by omega, by go_num, rfl, hown4, htb5, hb5⟩
            case measure => (simp [intOf]; try omega)
    · obtain rfl : t = T + 1 := by omega
      go_wp2
      go_ret
      exact ⟨A, cap, hd, rfl, own_mono hown hB.size, ⟨htb.1, fun i hi => by obtain ⟨b, h1, h2, h3⟩ := htb.2 i hi; exact ⟨b, h1, by have := hB.size; omega, h3⟩⟩, hB.trans (hb.mono hB.size)⟩
end Go.Proofs.Ythplabmbbfefeaa
