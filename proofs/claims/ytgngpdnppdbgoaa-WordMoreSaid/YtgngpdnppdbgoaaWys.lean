/- Contract: ways. -/
import Derived.Test.YtgngpdnppdbgoaaLev
import Derived.Test.YtgngpdnppdbgoaaWysP
namespace Go.Proofs.Ytgngpdnppdbgoaa
open Go.RowKit Go.Shelf
set_option linter.unusedVariables false

theorem slT_w : SlT 98 101 2 16 (.agg #[.int .i64 0, .int .i64 0]) := ⟨Try.underlying98, by kernel_rfl, rfl, by omega⟩
theorem pl_all {w : World} {B n c : Nat} {A : Option Addr} {ms : List (List Nat)} (h : Arr w B 4 (.slice A n c) ms plcell) (hn : 0 < ms.length) :
    ∃ xb xo, A = some ⟨xb, xo, none⟩ ∧ xb < B ∧ ∀ k, k < ms.length → ∀ j, j < 4 → w.cell? ⟨xb, xo + k * 4 + j, none⟩ = some (.int .i64 (at0 (ms.getD k []) j : Int)) := by
  obtain ⟨A', c', hv, h1, h2, h3⟩ := h
  injection hv with hA _ _
  subst hA
  obtain ⟨b, off, ha, hb, hc⟩ := h3 hn
  refine ⟨b, off, ha, hb, fun k hk j hj => ?_⟩
  rw [hc k _ (List.getElem?_eq_getElem hk) j hj, List.getD_eq_getElem?_getD, List.getElem?_eq_getElem hk]
  rcases j with _ | _ | _ | _ | j <;> first | rfl | omega
theorem num_all {w : World} {B n c : Nat} {A : Option Addr} {l : List Int} (h : Arr w B 1 (.slice A n c) l icell) (hn : 0 < l.length) :
    ∃ xb xo, A = some ⟨xb, xo, none⟩ ∧ xb < B ∧ ∀ k, k < l.length → w.cell? ⟨xb, xo + k, none⟩ = some (.int .i64 (l.getD k 0)) := by
  obtain ⟨b, off, hA, hb, -⟩ := num_at h hn
  refine ⟨b, off, hA, hb, fun k hk => ?_⟩
  obtain ⟨b', off', hA', -, hc⟩ := num_at h hk
  rw [hA] at hA'
  injection hA' with hA'
  injection hA' with e1 e2
  subst e1 e2
  exact hc
theorem lvs_getD {b : List (Int × Int)} {ls : List (List Int)} {k : Nat} (hk : k < (matsOf b ls).length) : (lvsI b ls (matsOf b ls)).getD k 0 = (lvN b ls k : Int) := by
  unfold lvsI lvN xAt
  simp [List.getD_eq_getElem?_getD, List.getElem?_map, List.getElem?_eq_getElem hk]
/-- a row of pairs of numbers -/
structure WRow (W : World) (rb n : Nat) (U V : Nat → Nat) : Prop where
  blk : ∃ cs : Array Value, Blk W rb 101 cs ∧ cs.size = n * 2 ∧ ∀ j, j < n → cs[j * 2]? = some (.int .i64 (U j : Int)) ∧ cs[j * 2 + 1]? = some (.int .i64 (V j : Int))
section
variable {W W' : World} {rb n : Nat} {U V : Nat → Nat}
theorem WRow.lt (h : WRow W rb n U V) : rb < W.heap.size := by obtain ⟨⟨cs, h1, -⟩⟩ := h; exact h1.lt
theorem WRow.grown {row : Option Nat} (h : WRow W rb n U V) (hg : W.grownBy W' row) (hr : row ≠ some rb) : WRow W' rb n U V := by
  obtain ⟨⟨cs, h1, h2⟩⟩ := h
  exact ⟨⟨cs, h1.grown hg fun e => hr e.symm, h2⟩⟩
theorem WRow.call (h : WRow W rb n U V) (hb : Below W.heap.size W W') : WRow W' rb n U V := h.grown (grown_call hb none) (by simp)
theorem WRow.at_ (h : WRow W rb n U V) {j : Nat} (hj : j < n) : W.cell? ⟨rb, j * 2, none⟩ = some (.int .i64 (U j : Int)) ∧ W.cell? ⟨rb, j * 2 + 1, none⟩ = some (.int .i64 (V j : Int)) := by
  obtain ⟨⟨cs, h1, h2, h3⟩⟩ := h
  rw [h1.cell, h1.cell]
  exact h3 j hj
theorem WRow.frozen (h : WRow W rb n U V) (j : Nat) : W.frozen? ⟨rb, j, none⟩ = false := by
  obtain ⟨⟨cs, h1, h2, h3⟩⟩ := h
  exact h1.frozen j
theorem WRow.same {U' V' : Nat → Nat} (h : WRow W rb n U V) (hU : ∀ j, j < n → U' j = U j) (hV : ∀ j, j < n → V' j = V j) : WRow W rb n U' V' := by
  obtain ⟨⟨cs, h1, h2, h3⟩⟩ := h
  exact ⟨⟨cs, h1, h2, fun j hj => by rw [hU j hj, hV j hj]; exact h3 j hj⟩⟩
theorem WRow.setU (h : WRow W rb n U V) {k : Nat} (hk : k < n) (v : Nat) : WRow (W.setCell ⟨rb, k * 2, none⟩ (.int .i64 (v : Int))) rb n (fun j => if j = k then v else U j) V := by
  obtain ⟨⟨cs, h1, h2, h3⟩⟩ := h
  refine ⟨⟨_, h1.set_ (k * 2) (.int .i64 (v : Int)), by simpa using h2, fun j hj => ?_⟩⟩
  obtain ⟨g1, g2⟩ := h3 j hj
  rw [Array.getElem?_setIfInBounds, Array.getElem?_setIfInBounds]
  constructor
  · by_cases e : j = k
    · subst e
      rw [if_pos rfl, if_pos (by omega), if_pos rfl]
    · rw [if_neg (by omega), if_neg e]
      exact g1
  · rw [if_neg (by omega)]
    exact g2
theorem WRow.setV (h : WRow W rb n U V) {k : Nat} (hk : k < n) (v : Nat) : WRow (W.setCell ⟨rb, k * 2 + 1, none⟩ (.int .i64 (v : Int))) rb n U (fun j => if j = k then v else V j) := by
  obtain ⟨⟨cs, h1, h2, h3⟩⟩ := h
  refine ⟨⟨_, h1.set_ (k * 2 + 1) (.int .i64 (v : Int)), by simpa using h2, fun j hj => ?_⟩⟩
  obtain ⟨g1, g2⟩ := h3 j hj
  rw [Array.getElem?_setIfInBounds, Array.getElem?_setIfInBounds]
  constructor
  · rw [if_neg (by omega)]
    exact g1
  · by_cases e : j = k
    · subst e
      rw [if_pos rfl, if_pos (by omega), if_pos rfl]
    · rw [if_neg (by omega), if_neg e]
      exact g2
theorem WRow.new (w : World) (n : Nat) : WRow (w.alloc (.cells (madeCells (Value.agg #[.int .i64 0, .int .i64 0]).cells (n * 2)) 101)) w.heap.size n (fun _ => 0) fun _ => 0 := by
  refine ⟨⟨_, Blk.new _ _ _, by simp [madeCells], fun j hj => ?_⟩⟩
  have key : ∀ i, i < n * 2 → (madeCells (Value.agg #[.int .i64 0, .int .i64 0]).cells (n * 2))[i]? = some (Value.int .i64 0) := by
    intro i hi
    have e : (Value.agg #[.int .i64 0, .int .i64 0]).cells = #[.int .i64 0, .int .i64 0] := by simp [Value.cells]
    rw [e]
    have h2 : i % 2 = 0 ∨ i % 2 = 1 := by omega
    rcases h2 with h2 | h2 <;> simp [madeCells, hi, h2]
  exact ⟨key _ (by omega), key _ (by omega)⟩
end
/-- what ways holds of the world: the row, and all that lay before it -/
structure WysI (w W : World) (rb n : Nat) (U V : Nat → Nat) : Prop where
  row : WRow W rb n U V
  bl : Below w.heap.size w W
section
variable {w W W' : World} {rb n : Nat} {U V : Nat → Nat}
theorem WysI.call (h : WysI w W rb n U V) (hb : Below W.heap.size W W') : WysI w W' rb n U V :=
  ⟨h.row.call hb, h.bl.trans (hb.mono h.bl.size)⟩
theorem WysI.same {U' V' : Nat → Nat} (h : WysI w W rb n U V) (hU : ∀ j, j < n → U' j = U j) (hV : ∀ j, j < n → V' j = V j) : WysI w W rb n U' V' := ⟨h.row.same hU hV, h.bl⟩
theorem WysI.setU (h : WysI w W rb n U V) (hr : w.heap.size ≤ rb) {k : Nat} (hk : k < n) (v : Nat) : WysI w (W.setCell ⟨rb, k * 2, none⟩ (.int .i64 (v : Int))) rb n (fun j => if j = k then v else U j) V :=
  ⟨h.row.setU hk v, h.bl.setCell (p := ⟨rb, k * 2, none⟩) hr _⟩
theorem WysI.setV (h : WysI w W rb n U V) (hr : w.heap.size ≤ rb) {k : Nat} (hk : k < n) (v : Nat) : WysI w (W.setCell ⟨rb, k * 2 + 1, none⟩ (.int .i64 (v : Int))) rb n U (fun j => if j = k then v else V j) :=
  ⟨h.row.setV hk v, h.bl.setCell (p := ⟨rb, k * 2 + 1, none⟩) hr _⟩
end

attribute [local go_sem] Oper.semAt_some
set_option maxRecDepth 100000 in
set_option maxHeartbeats 3200000 in
theorem ways_ok (B gs d : Nat) (b : List (Int × Int)) (ls : List (List Int)) (la : Option Addr) (lc : Nat) (A : Option Addr) (c : Nat) (w : World) (hs : SongM w B gs d b ls la lc A c) :
    Calls Try.prog 75 #[.pointer (some ⟨gs, 0, none⟩)] w fun r w' => ∃ rb, r = .returned (.slice (some ⟨rb, 0, none⟩) (matsOf b ls).length (matsOf b ls).length) ∧ WRow w' rb (matsOf b ls).length (upN b ls) (dnN b ls) ∧ Below w.heap.size w w' := by
  have hgd := hs.1.good
  have hms := mats_len hgd.ds8 (by rw [dsOf_len]; exact hgd.four : (dsOf ls).length ≤ 4) (mt := mtB b ls)
  change (matsOf b ls).length ≤ 4096 at hms
  have HG := Lib.hid hgd
  obtain ⟨n, hn⟩ : ∃ n, n = (matsOf b ls).length := ⟨_, rfl⟩
  have hlv := levels_ok B gs d b ls la lc A c w hs
  have hmk := run_mk slT_w n (by omega) (by omega)
  have hmo : mostOf b ls = ((matsOf b ls).map (lvOf b ls)).foldl max 0 := rfl
  have hm8 := mostOf_le hgd
  have HMO := Lib.hid hmo
  rw [← hn] at hlv hms
  rw [← hn]
  have HNN := Lib.hid hn
  clear hgd hmo hn
  go_enter Try.func75, Try.ntmps75
  go_wp2_with fail
  refine hlv.mono ?_
  rintro e w1 ⟨lA, lcc, rfl, hL, hb1⟩
  have hs1 := hs.call hb1
  clear hlv hs
  go_wp2
  go_loopw [4, 18] (fun m i wr => ∃ k : Nat, k ≤ n ∧ i = .int .i64 k ∧ m = .int .i64 ((((matsOf b ls).take k).map (lvOf b ls)).foldl max 0 : Nat) ∧ Below w1.heap.size w1 wr) (fun _ i _ => n - (intOf i).toNat)
  case atStart => exact ⟨0, Nat.zero_le _, rfl, rfl, Below.refl _ _⟩
  case round =>
    obtain ⟨k, hk, rfl, rfl, hb2⟩ := hrel
    by_cases hlt : k < n
    · have d1 : decide (k < n) = true := decide_eq_true hlt
      have d1' : decide ((k : Int) < (n : Int)) = true := decide_eq_true (by omega)
      have hki : (k : Int) < (n : Int) := by omega
      have hll : (lvsI b ls (matsOf b ls)).length = n := by rw [HNN.out]; simp [lvsI]
      obtain ⟨xb, xo, rfl, hxb, hc⟩ := num_all hL (by omega)
      have c0 := (hb2.cell (p := ⟨xb, xo + k, none⟩) hxb).trans (hc k (by omega))
      rw [lvs_getD (by rw [← HNN.out]; exact hlt)] at c0
      have HT : Hid ((((matsOf b ls).take (k + 1)).map (lvOf b ls)).foldl max 0 = max ((((matsOf b ls).take k).map (lvOf b ls)).foldl max 0) (lvN b ls k)) := by
        have h1 : (matsOf b ls)[k]? = some (xAt b ls k) := by
          unfold xAt
          rw [List.getD_eq_getElem?_getD, List.getElem?_eq_getElem (by rw [← HNN.out]; exact hlt)]
          rfl
        rw [Hid, take_snoc h1, List.map_append, List.foldl_append]
        rfl
      clear hc hll hL
      generalize (((matsOf b ls).take k).map (lvOf b ls)).foldl max 0 = acc at *
      obtain ⟨L, hL⟩ : ∃ L, L = lvN b ls k := ⟨_, rfl⟩
      rw [← hL] at c0 HT
      clear hL
      go_wp2_with fail
      refine (greatI_ok (acc : Int) (L : Int) wr).mono ?_
      rintro e w8 ⟨rfl, hb8⟩
      have hb9 := hb2.trans (hb8.mono hb2.size)
      clear c0 hb8
      go_wp2
      go_roundw
      case rel => exact ⟨k + 1, by omega, by go_num, by rw [HT.out]; simp; omega, hb9⟩
      case measure => (simp [intOf]; try omega)
    · obtain rfl : n = k := by omega
      have d1 : decide (n < n) = false := by simp
      rw [HNN.out, List.take_length, ← HMO.out, ← HNN.out]
      have hs2 := hs1.call hb2
      obtain ⟨-, -, q2⟩ := hs2.1.c3
      rw [← HNN.out] at q2
      go_upto_region 9 with (fail)
      have hrow := WRow.new wr n
      have hb3 := (Below.refl wr.heap.size wr).alloc (Nat.le_refl _) (.cells (madeCells (Value.agg #[.int .i64 0, .int .i64 0]).cells (n * 2)) 101)
      have hI : WysI wr (wr.alloc (.cells (madeCells (Value.agg #[.int .i64 0, .int .i64 0]).cells (n * 2)) 101)) wr.heap.size n (fun _ => 0) (fun _ => 0) := ⟨hrow, hb3⟩
      have hL2 := (hL.below hb2).more hb2.size
      have hbw := hb1.trans (hb2.mono hb1.size)
      clear hs1 hL hrow hb3 hmk q2 hb1 hb2
      have em : madeCells #[Value.int .i64 0, .int .i64 0] (n * 2) = madeCells (Value.agg #[.int .i64 0, .int .i64 0]).cells (n * 2) := rfl
      rw [em]
      clear em
      generalize wr.alloc (.cells (madeCells (Value.agg #[.int .i64 0, .int .i64 0]).cells (n * 2)) 101) = W0 at *
      obtain ⟨wo, hwo⟩ : ∃ wo : World, wo = wr := ⟨_, rfl⟩
      rw [← hwo] at hI hL2 hbw hs2 ⊢
      clear hwo
      obtain ⟨rb, hrb⟩ : ∃ rb, rb = wo.heap.size := ⟨_, rfl⟩
      rw [← hrb] at hI ⊢
      have hrb2 : wo.heap.size ≤ rb := by omega
      have HRB := Lib.hid hrb
      clear hrb
      obtain ⟨q0, q1, q2⟩ := (hs2.call hI.bl).1.c3
      rw [← HNN.out] at q2
      clear hlt hk d1
      go_wp2
      go_loopw [37] (fun i wr => ∃ k : Nat, k ≤ n ∧ i = .int .i64 k ∧ WysI wo wr rb n (fun j => if j < k then upN b ls j else 0) (fun _ => 0)) (fun i _ => n - (intOf i).toNat)
      case atStart => exact ⟨0, Nat.zero_le _, rfl, hI.same (fun j _ => if_neg (Nat.not_lt_zero _)) (fun _ _ => rfl)⟩
      case round =>
        obtain ⟨k, hk, rfl, hI⟩ := hrel
        clear q0 q1 q2
        by_cases hlt : k < n
        · have d1 : decide (k < n) = true := decide_eq_true hlt
          have d1' : decide ((k : Int) < (n : Int)) = true := decide_eq_true (by omega)
          have hki : (k : Int) < (n : Int) := by omega
          obtain ⟨xb, xo, rfl, hxb, hxc⟩ := pl_all hs2.2 (by rw [← HNN.out]; omega)
          obtain ⟨lb, lo, rfl, hlb, hlc⟩ := num_all hL2 (by have := HNN.out; simp [lvsI]; omega)
          have HX : Hid (∀ W, Below wo.heap.size wo W → ∀ k, k < n → W.cell? ⟨xb, xo + k * 4, none⟩ = some (.int .i64 (at0 (xAt b ls k) 0 : Int)) ∧ W.cell? ⟨xb, xo + k * 4 + 1, none⟩ = some (.int .i64 (at0 (xAt b ls k) 1 : Int)) ∧ W.cell? ⟨xb, xo + k * 4 + 2, none⟩ = some (.int .i64 (at0 (xAt b ls k) 2 : Int)) ∧ W.cell? ⟨xb, xo + k * 4 + 3, none⟩ = some (.int .i64 (at0 (xAt b ls k) 3 : Int))) := fun W hb k hk =>
            ⟨(hb.cell hxb).trans (hxc k (by rw [← HNN.out]; exact hk) 0 (by omega)), (hb.cell hxb).trans (hxc k (by rw [← HNN.out]; exact hk) 1 (by omega)), (hb.cell hxb).trans (hxc k (by rw [← HNN.out]; exact hk) 2 (by omega)), (hb.cell hxb).trans (hxc k (by rw [← HNN.out]; exact hk) 3 (by omega))⟩
          have HLV : Hid (∀ W, Below wo.heap.size wo W → ∀ k, k < n → W.cell? ⟨lb, lo + k, none⟩ = some (.int .i64 (lvN b ls k : Int))) := fun W hb k hk => by
            have := (hb.cell (p := ⟨lb, lo + k, none⟩) hlb).trans (hlc k (by have := HNN.out; simp [lvsI]; omega))
            rw [lvs_getD (by rw [← HNN.out]; exact hk)] at this
            exact this
          clear hxc hlc
          obtain ⟨c0, c1, c2, c3⟩ := HX.out _ hI.bl k hlt
          go_upto_region 12 with (fail)
          have e : wr.alloc (.cells #[.int .i64 (at0 (xAt b ls k) 0 : Int), .int .i64 (at0 (xAt b ls k) 1 : Int), .int .i64 (at0 (xAt b ls k) 2 : Int), .int .i64 (at0 (xAt b ls k) 3 : Int)] 88) = wr.alloc (.cells (plC (xAt b ls k)) 88) := rfl
          rw [e]
          clear e c0 c1 c2 c3
          have hX := Blk.new wr 88 (plC (xAt b ls k))
          have hI1 := hI.call ((Below.refl wr.heap.size wr).alloc (Nat.le_refl _) (.cells (plC (xAt b ls k)) 88))
          have hxg : rb < wr.heap.size := hI.row.lt
          clear hI
          generalize wr.alloc (.cells (plC (xAt b ls k)) 88) = W1 at *
          generalize wr.heap.size = xg at *
          have c0 := HLV.out _ hI1.bl k hlt
          rcases Decidable.em (lvN b ls k = 1) with h1 | h1
          · rw [h1] at c0
            obtain ⟨o0, o1⟩ := hI1.row.at_ hlt
            have z0 := hI1.row.frozen (k * 2)
            go_upto_region 14 with (fail)
            have hI2 := (hI1.setU hrb2 hlt 1).same (U' := fun t => if t < k then upN b ls t else if t = k then usum b ls k 0 else 0) (V' := fun _ => 0) (fun t _ => by
              by_cases h2 : t = k
              · have h3 : ¬ t < k := by omega
                simp only [if_pos h2, if_neg h3, usum_zero, if_pos h1]
              · by_cases h3 : t < k
                · simp only [if_pos h3, if_neg h2]
                · simp only [if_neg h3, if_neg h2]) (fun _ _ => rfl)
            rw [show ((1 : Nat) : Int) = 1 from rfl] at hI2
            have hX2 := hX.far (p := ⟨rb, k * 2, none⟩) (by show xg ≠ rb; omega) (.int .i64 1)
            clear o0 o1 z0 c0 hX hI1
            generalize W1.setCell ⟨rb, k * 2, none⟩ (.int .i64 1) = W2 at *
            clear h1
            obtain ⟨q0, q1, q2⟩ := (hs2.call hI2.bl).1.c3
            rw [← HNN.out] at q2
            have hcc := hs2.2.len_
            have hkc : k ≤ c := by have := HNN.out; omega
            clear hcc
            go_wp2
            go_loopw [59] (fun i wr => ∃ j : Nat, j ≤ k ∧ i = .int .i64 j ∧ WysI wo wr rb n (fun t => if t < k then upN b ls t else if t = k then usum b ls k j else 0) (fun _ => 0) ∧ Blk wr xg 88 (plC (xAt b ls k))) (fun i _ => k - (intOf i).toNat)
            case atStart => exact ⟨0, Nat.zero_le _, rfl, hI2, hX2⟩
            case round =>
              clear hI2 hX2 q0 q1 q2
              obtain ⟨j, hj, rfl, hI, hX⟩ := hrel
              by_cases hjk : j < k
              · have d4 : decide (j < k) = true := decide_eq_true hjk
                have d4' : decide ((j : Int) < (k : Int)) = true := decide_eq_true (by omega)
                have hjki : (j : Int) < (k : Int) := by omega
                obtain ⟨c0, c1, c2, c3⟩ := HX.out _ hI.bl j (by omega)
                go_upto_region 17 with (fail)
                have e : wr.alloc (.cells #[.int .i64 (at0 (xAt b ls j) 0 : Int), .int .i64 (at0 (xAt b ls j) 1 : Int), .int .i64 (at0 (xAt b ls j) 2 : Int), .int .i64 (at0 (xAt b ls j) 3 : Int)] 88) = wr.alloc (.cells (plC (xAt b ls j)) 88) := rfl
                rw [e]
                clear e c0 c1 c2 c3
                have hY := Blk.new wr 88 (plC (xAt b ls j))
                have hbA := (Below.refl wr.heap.size wr).alloc (Nat.le_refl _) (.cells (plC (xAt b ls j)) 88)
                have hI3 := hI.call hbA
                have hX3 := hX.call hbA
                clear hI hX hbA
                generalize wr.alloc (.cells (plC (xAt b ls j)) 88) = W3 at *
                generalize wr.heap.size = yb at *
                have hsW := hs2.call hI3.bl
                have HA : Hid (∀ y : Ext W3, Calls Try.prog 63 #[.pointer (some ⟨gs, 0, none⟩), plV (xAt b ls j), plV (xAt b ls k)] y.w fun r w' => r = .returned (.bool (bfN b ls j k)) ∧ ∃ z : Ext W3, w' = z.w) := fun y => ext_call y (before_ok B gs d b ls la lc _ (xAt b ls j) (xAt b ls k) y.w (hsW.1.call y.h))
                have f0 := Ext.of (HLV.out _ hI3.bl j (by omega))
                have f1 := Ext.of (HLV.out _ hI3.bl k hlt)
                have f2 := Ext.of (show W3.cell? ⟨xg, 0, none⟩ = some (.int .i64 (at0 (xAt b ls k) 0 : Int)) by rw [hX3.cell]; rfl)
                have f3 := Ext.of (show W3.cell? ⟨xg, 1, none⟩ = some (.int .i64 (at0 (xAt b ls k) 1 : Int)) by rw [hX3.cell]; rfl)
                have f4 := Ext.of (show W3.cell? ⟨xg, 2, none⟩ = some (.int .i64 (at0 (xAt b ls k) 2 : Int)) by rw [hX3.cell]; rfl)
                have f5 := Ext.of (show W3.cell? ⟨xg, 3, none⟩ = some (.int .i64 (at0 (xAt b ls k) 3 : Int)) by rw [hX3.cell]; rfl)
                have f6 := Ext.of (show W3.cell? ⟨yb, 0, none⟩ = some (.int .i64 (at0 (xAt b ls j) 0 : Int)) by rw [hY.cell]; rfl)
                have f7 := Ext.of (show W3.cell? ⟨yb, 1, none⟩ = some (.int .i64 (at0 (xAt b ls j) 1 : Int)) by rw [hY.cell]; rfl)
                have f8 := Ext.of (show W3.cell? ⟨yb, 2, none⟩ = some (.int .i64 (at0 (xAt b ls j) 2 : Int)) by rw [hY.cell]; rfl)
                have f9 := Ext.of (show W3.cell? ⟨yb, 3, none⟩ = some (.int .i64 (at0 (xAt b ls j) 3 : Int)) by rw [hY.cell]; rfl)
                have hl8 := lvN_le HG.out (i := j) (by rw [← HNN.out]; omega)
                have e1 : IntKind.i64.wrap ((lvN b ls j : Int) + 1) = (lvN b ls j : Int) + 1 := wrap_id _ (by omega) (by omega)
                have HUS := Lib.hid (usum_succ (b := b) (ls := ls) k j)
                have hb1 := usum_mono (b := b) (ls := ls) k (Nat.le_of_lt hjk)
                have hb2 := usum_all HG.out (i := k) (by rw [← HNN.out]; exact hlt)
                have hb3 := (ways_leN HG.out (i := k) (by rw [← HNN.out]; exact hlt)).1
                have hb4 := (ways_leN HG.out (i := j) (by rw [← HNN.out]; omega)).1
                have hji : (j : Int) < (n : Int) := by omega
                clear hY hsW
                rcases Decidable.em (lvN b ls j + 1 = lvN b ls k) with hq | hq
                · have d5 : ((lvN b ls j : Int) + 1 == (lvN b ls k : Int)) = true := by simp; omega
                  cases hbf : bfN b ls j k
                  · have HS : Hid (usum b ls k (j + 1) = usum b ls k j) := by rw [Hid, HUS.out, if_neg (by simp [hbf])]; rfl
                    rw [hbf] at HA
                    clear hq hbf HUS hb1 hb2 hb3 hb4 hl8
                    refine wp_region_ext (by kernel_rfl) (by kernel_rfl) ?_
                    repeat (go_big_quiet_step ((go_at_call 63; with_reducible exact HA.out _)))
                    refine wpQuiet_nil ?_
                    intro _ hw'
                    obtain ⟨xr, hw''⟩ := hw'
                    subst hw''
                    have hI4 := hI3.call xr.h
                    have hX4 := hX3.call xr.h
                    go_wp2
                    go_roundw
                    case rel => exact ⟨j + 1, by omega, by go_num, by rw [HS.out]; exact hI4, hX4⟩
                    case measure => (simp [intOf]; try omega)
                  · have HS : Hid (usum b ls k (j + 1) = usum b ls k j + upN b ls j) := by rw [Hid, HUS.out, if_pos ⟨hq, hbf⟩]
                    rw [hbf] at HA
                    have e2 : IntKind.i64.wrap ((usum b ls k j : Int) + (upN b ls j : Int)) = (usum b ls k j : Int) + (upN b ls j : Int) := wrap_id _ (by omega) (by omega)
                    clear hq hbf HUS hb1 hb2 hb3 hb4 hl8
                    refine wp_region_ext (by kernel_rfl) (by kernel_rfl) ?_
                    repeat (go_big_quiet_step ((go_at_call 63; with_reducible exact HA.out _)))
                    refine wpQuiet_nil ?_
                    intro _ hw'
                    obtain ⟨xr, hw''⟩ := hw'
                    subst hw''
                    have hI4 := hI3.call xr.h
                    have hX4 := hX3.call xr.h
                    obtain ⟨W4, hW4⟩ : ∃ W4 : World, W4 = xr.w := ⟨_, rfl⟩
                    rw [← hW4] at hI4 hX4 ⊢
                    clear hW4 xr f0 f1 f2 f3 f4 f5 f6 f7 f8 f9 HA d5
                    go_upto_region 18 with (fail)
                    obtain ⟨o0, -⟩ := hI4.row.at_ hlt
                    obtain ⟨o2, -⟩ := hI4.row.at_ (j := j) (by omega)
                    rw [if_neg (Nat.lt_irrefl _), if_pos rfl] at o0
                    rw [if_pos hjk] at o2
                    go_wp2_with fail
                    go_still_tail 13, (by kernel_rfl)
                    change wpList _ _ _ _ _ (W4).drew
                    have hI5 := hI4.call ((Below.refl W4.heap.size W4).drew)
                    have hX5 := hX4.drew
                    generalize W4.drew = W5 at *
                    clear o0 o2 hI4 hX4
                    obtain ⟨o0, -⟩ := hI5.row.at_ hlt
                    have z0 := hI5.row.frozen (k * 2)
                    have hX6 := hX5.far (p := ⟨rb, k * 2, none⟩) (by show xg ≠ rb; omega) (.int .i64 ((usum b ls k j : Int) + (upN b ls j : Int)))
                    have hI6 := (hI5.setU hrb2 hlt (usum b ls k j + upN b ls j)).same (U' := fun t => if t < k then upN b ls t else if t = k then usum b ls k (j + 1) else 0) (V' := fun _ => 0) (fun t _ => by
                      by_cases h2 : t = k
                      · have h3 : ¬ t < k := by omega
                        simp only [if_pos h2, if_neg h3, HS.out]
                      · simp only [if_neg h2]) (fun _ _ => rfl)
                    rw [show ((usum b ls k j + upN b ls j : Nat) : Int) = (usum b ls k j : Int) + (upN b ls j : Int) by omega] at hI6
                    clear hI5 hX5
                    go_wp2
                    go_roundw
                    case rel => exact ⟨j + 1, by omega, by go_num, hI6, hX6⟩
                    case measure => (simp [intOf]; try omega)
                · have d5 : ((lvN b ls j : Int) + 1 == (lvN b ls k : Int)) = false := beq_false_of_ne (by omega)
                  have HS : Hid (usum b ls k (j + 1) = usum b ls k j) := by rw [Hid, HUS.out, if_neg fun h => hq h.1]; rfl
                  clear hq HUS hb1 hb2 hb3 hb4 hl8
                  refine wp_region_ext (by kernel_rfl) (by kernel_rfl) ?_
                  repeat (go_big_quiet_step (fail))
                  refine wpQuiet_nil ?_
                  intro _ hw'
                  obtain ⟨xr, hw''⟩ := hw'
                  subst hw''
                  have hI4 := hI3.call xr.h
                  have hX4 := hX3.call xr.h
                  go_wp2
                  go_roundw
                  case rel => exact ⟨j + 1, by omega, by go_num, by rw [HS.out]; exact hI4, hX4⟩
                  case measure => (simp [intOf]; try omega)
              · obtain rfl : k = j := by omega
                have d4 : decide (k < k) = false := by simp
                have HUA := Lib.hid (usum_all HG.out (i := k) (by rw [← HNN.out]; exact hlt))
                go_wp2
                go_roundw
                case rel =>
                  refine ⟨k + 1, by omega, by go_num, hI.same (fun t _ => ?_) (fun _ _ => rfl)⟩
                  by_cases h3 : t < k
                  · have h4 : t < k + 1 := by omega
                    simp only [if_pos h3, if_pos h4]
                  · by_cases h2 : t = k
                    · have h4 : t < k + 1 := by omega
                      simp only [if_neg h3, if_pos h2, if_pos h4]
                      rw [h2, HUA.out]
                    · have h4 : ¬ t < k + 1 := by omega
                      simp only [if_neg h3, if_neg h2, if_neg h4]
                case measure => (simp [intOf]; try omega)
          · have d2 : ((lvN b ls k : Int) == 1) = false := beq_false_of_ne (by omega)
            go_upto_region 14 with (fail)
            have hI2 := hI1.same (U' := fun t => if t < k then upN b ls t else if t = k then usum b ls k 0 else 0) (V' := fun _ => 0) (fun t _ => by
              by_cases h3 : t < k
              · rw [if_pos h3, if_pos h3]
              · rw [if_neg h3, if_neg h3]
                by_cases h2 : t = k
                · rw [if_pos h2, usum_zero, if_neg h1]
                · rw [if_neg h2]) (fun _ _ => rfl)
            have hX2 := hX
            obtain ⟨W2, hW2⟩ : ∃ W2 : World, W2 = W1 := ⟨_, rfl⟩
            rw [← hW2] at hI2 hX2 ⊢
            clear hW2 d2 c0 hX hI1
            clear h1
            obtain ⟨q0, q1, q2⟩ := (hs2.call hI2.bl).1.c3
            rw [← HNN.out] at q2
            have hcc := hs2.2.len_
            have hkc : k ≤ c := by have := HNN.out; omega
            clear hcc
            go_wp2
            go_loopw [59] (fun i wr => ∃ j : Nat, j ≤ k ∧ i = .int .i64 j ∧ WysI wo wr rb n (fun t => if t < k then upN b ls t else if t = k then usum b ls k j else 0) (fun _ => 0) ∧ Blk wr xg 88 (plC (xAt b ls k))) (fun i _ => k - (intOf i).toNat)
            case atStart => exact ⟨0, Nat.zero_le _, rfl, hI2, hX2⟩
            case round =>
              clear hI2 hX2 q0 q1 q2
              obtain ⟨j, hj, rfl, hI, hX⟩ := hrel
              by_cases hjk : j < k
              · have d4 : decide (j < k) = true := decide_eq_true hjk
                have d4' : decide ((j : Int) < (k : Int)) = true := decide_eq_true (by omega)
                have hjki : (j : Int) < (k : Int) := by omega
                obtain ⟨c0, c1, c2, c3⟩ := HX.out _ hI.bl j (by omega)
                go_upto_region 17 with (fail)
                have e : wr.alloc (.cells #[.int .i64 (at0 (xAt b ls j) 0 : Int), .int .i64 (at0 (xAt b ls j) 1 : Int), .int .i64 (at0 (xAt b ls j) 2 : Int), .int .i64 (at0 (xAt b ls j) 3 : Int)] 88) = wr.alloc (.cells (plC (xAt b ls j)) 88) := rfl
                rw [e]
                clear e c0 c1 c2 c3
                have hY := Blk.new wr 88 (plC (xAt b ls j))
                have hbA := (Below.refl wr.heap.size wr).alloc (Nat.le_refl _) (.cells (plC (xAt b ls j)) 88)
                have hI3 := hI.call hbA
                have hX3 := hX.call hbA
                clear hI hX hbA
                generalize wr.alloc (.cells (plC (xAt b ls j)) 88) = W3 at *
                generalize wr.heap.size = yb at *
                have hsW := hs2.call hI3.bl
                have HA : Hid (∀ y : Ext W3, Calls Try.prog 63 #[.pointer (some ⟨gs, 0, none⟩), plV (xAt b ls j), plV (xAt b ls k)] y.w fun r w' => r = .returned (.bool (bfN b ls j k)) ∧ ∃ z : Ext W3, w' = z.w) := fun y => ext_call y (before_ok B gs d b ls la lc _ (xAt b ls j) (xAt b ls k) y.w (hsW.1.call y.h))
                have f0 := Ext.of (HLV.out _ hI3.bl j (by omega))
                have f1 := Ext.of (HLV.out _ hI3.bl k hlt)
                have f2 := Ext.of (show W3.cell? ⟨xg, 0, none⟩ = some (.int .i64 (at0 (xAt b ls k) 0 : Int)) by rw [hX3.cell]; rfl)
                have f3 := Ext.of (show W3.cell? ⟨xg, 1, none⟩ = some (.int .i64 (at0 (xAt b ls k) 1 : Int)) by rw [hX3.cell]; rfl)
                have f4 := Ext.of (show W3.cell? ⟨xg, 2, none⟩ = some (.int .i64 (at0 (xAt b ls k) 2 : Int)) by rw [hX3.cell]; rfl)
                have f5 := Ext.of (show W3.cell? ⟨xg, 3, none⟩ = some (.int .i64 (at0 (xAt b ls k) 3 : Int)) by rw [hX3.cell]; rfl)
                have f6 := Ext.of (show W3.cell? ⟨yb, 0, none⟩ = some (.int .i64 (at0 (xAt b ls j) 0 : Int)) by rw [hY.cell]; rfl)
                have f7 := Ext.of (show W3.cell? ⟨yb, 1, none⟩ = some (.int .i64 (at0 (xAt b ls j) 1 : Int)) by rw [hY.cell]; rfl)
                have f8 := Ext.of (show W3.cell? ⟨yb, 2, none⟩ = some (.int .i64 (at0 (xAt b ls j) 2 : Int)) by rw [hY.cell]; rfl)
                have f9 := Ext.of (show W3.cell? ⟨yb, 3, none⟩ = some (.int .i64 (at0 (xAt b ls j) 3 : Int)) by rw [hY.cell]; rfl)
                have hl8 := lvN_le HG.out (i := j) (by rw [← HNN.out]; omega)
                have e1 : IntKind.i64.wrap ((lvN b ls j : Int) + 1) = (lvN b ls j : Int) + 1 := wrap_id _ (by omega) (by omega)
                have HUS := Lib.hid (usum_succ (b := b) (ls := ls) k j)
                have hb1 := usum_mono (b := b) (ls := ls) k (Nat.le_of_lt hjk)
                have hb2 := usum_all HG.out (i := k) (by rw [← HNN.out]; exact hlt)
                have hb3 := (ways_leN HG.out (i := k) (by rw [← HNN.out]; exact hlt)).1
                have hb4 := (ways_leN HG.out (i := j) (by rw [← HNN.out]; omega)).1
                have hji : (j : Int) < (n : Int) := by omega
                clear hY hsW
                rcases Decidable.em (lvN b ls j + 1 = lvN b ls k) with hq | hq
                · have d5 : ((lvN b ls j : Int) + 1 == (lvN b ls k : Int)) = true := by simp; omega
                  cases hbf : bfN b ls j k
                  · have HS : Hid (usum b ls k (j + 1) = usum b ls k j) := by rw [Hid, HUS.out, if_neg (by simp [hbf])]; rfl
                    rw [hbf] at HA
                    clear hq hbf HUS hb1 hb2 hb3 hb4 hl8
                    refine wp_region_ext (by kernel_rfl) (by kernel_rfl) ?_
                    repeat (go_big_quiet_step ((go_at_call 63; with_reducible exact HA.out _)))
                    refine wpQuiet_nil ?_
                    intro _ hw'
                    obtain ⟨xr, hw''⟩ := hw'
                    subst hw''
                    have hI4 := hI3.call xr.h
                    have hX4 := hX3.call xr.h
                    go_wp2
                    go_roundw
                    case rel => exact ⟨j + 1, by omega, by go_num, by rw [HS.out]; exact hI4, hX4⟩
                    case measure => (simp [intOf]; try omega)
                  · have HS : Hid (usum b ls k (j + 1) = usum b ls k j + upN b ls j) := by rw [Hid, HUS.out, if_pos ⟨hq, hbf⟩]
                    rw [hbf] at HA
                    have e2 : IntKind.i64.wrap ((usum b ls k j : Int) + (upN b ls j : Int)) = (usum b ls k j : Int) + (upN b ls j : Int) := wrap_id _ (by omega) (by omega)
                    clear hq hbf HUS hb1 hb2 hb3 hb4 hl8
                    refine wp_region_ext (by kernel_rfl) (by kernel_rfl) ?_
                    repeat (go_big_quiet_step ((go_at_call 63; with_reducible exact HA.out _)))
                    refine wpQuiet_nil ?_
                    intro _ hw'
                    obtain ⟨xr, hw''⟩ := hw'
                    subst hw''
                    have hI4 := hI3.call xr.h
                    have hX4 := hX3.call xr.h
                    obtain ⟨W4, hW4⟩ : ∃ W4 : World, W4 = xr.w := ⟨_, rfl⟩
                    rw [← hW4] at hI4 hX4 ⊢
                    clear hW4 xr f0 f1 f2 f3 f4 f5 f6 f7 f8 f9 HA d5
                    go_upto_region 18 with (fail)
                    obtain ⟨o0, -⟩ := hI4.row.at_ hlt
                    obtain ⟨o2, -⟩ := hI4.row.at_ (j := j) (by omega)
                    rw [if_neg (Nat.lt_irrefl _), if_pos rfl] at o0
                    rw [if_pos hjk] at o2
                    go_wp2_with fail
                    go_still_tail 13, (by kernel_rfl)
                    change wpList _ _ _ _ _ (W4).drew
                    have hI5 := hI4.call ((Below.refl W4.heap.size W4).drew)
                    have hX5 := hX4.drew
                    generalize W4.drew = W5 at *
                    clear o0 o2 hI4 hX4
                    obtain ⟨o0, -⟩ := hI5.row.at_ hlt
                    have z0 := hI5.row.frozen (k * 2)
                    have hX6 := hX5.far (p := ⟨rb, k * 2, none⟩) (by show xg ≠ rb; omega) (.int .i64 ((usum b ls k j : Int) + (upN b ls j : Int)))
                    have hI6 := (hI5.setU hrb2 hlt (usum b ls k j + upN b ls j)).same (U' := fun t => if t < k then upN b ls t else if t = k then usum b ls k (j + 1) else 0) (V' := fun _ => 0) (fun t _ => by
                      by_cases h2 : t = k
                      · have h3 : ¬ t < k := by omega
                        simp only [if_pos h2, if_neg h3, HS.out]
                      · simp only [if_neg h2]) (fun _ _ => rfl)
                    rw [show ((usum b ls k j + upN b ls j : Nat) : Int) = (usum b ls k j : Int) + (upN b ls j : Int) by omega] at hI6
                    clear hI5 hX5
                    go_wp2
                    go_roundw
                    case rel => exact ⟨j + 1, by omega, by go_num, hI6, hX6⟩
                    case measure => (simp [intOf]; try omega)
                · have d5 : ((lvN b ls j : Int) + 1 == (lvN b ls k : Int)) = false := beq_false_of_ne (by omega)
                  have HS : Hid (usum b ls k (j + 1) = usum b ls k j) := by rw [Hid, HUS.out, if_neg fun h => hq h.1]; rfl
                  clear hq HUS hb1 hb2 hb3 hb4 hl8
                  refine wp_region_ext (by kernel_rfl) (by kernel_rfl) ?_
                  repeat (go_big_quiet_step (fail))
                  refine wpQuiet_nil ?_
                  intro _ hw'
                  obtain ⟨xr, hw''⟩ := hw'
                  subst hw''
                  have hI4 := hI3.call xr.h
                  have hX4 := hX3.call xr.h
                  go_wp2
                  go_roundw
                  case rel => exact ⟨j + 1, by omega, by go_num, by rw [HS.out]; exact hI4, hX4⟩
                  case measure => (simp [intOf]; try omega)
              · obtain rfl : k = j := by omega
                have d4 : decide (k < k) = false := by simp
                have HUA := Lib.hid (usum_all HG.out (i := k) (by rw [← HNN.out]; exact hlt))
                go_wp2
                go_roundw
                case rel =>
                  refine ⟨k + 1, by omega, by go_num, hI.same (fun t _ => ?_) (fun _ _ => rfl)⟩
                  by_cases h3 : t < k
                  · have h4 : t < k + 1 := by omega
                    simp only [if_pos h3, if_pos h4]
                  · by_cases h2 : t = k
                    · have h4 : t < k + 1 := by omega
                      simp only [if_neg h3, if_pos h2, if_pos h4]
                      rw [h2, HUA.out]
                    · have h4 : ¬ t < k + 1 := by omega
                      simp only [if_neg h3, if_neg h2, if_neg h4]
                case measure => (simp [intOf]; try omega)
        · obtain rfl : n = k := by omega
          have d1 : decide (n < n) = false := by simp
          have hI0 := hI.same (U' := upN b ls) (V' := fun t => if t < n then 0 else dnN b ls t) (fun t ht => (if_pos ht).symm) (fun t ht => if_pos ht)
          obtain ⟨q0, q1, q2⟩ := (hs2.call hI.bl).1.c3
          rw [← HNN.out] at q2
          clear hI
          go_wp2
          go_loopw [12] (fun i wr => ∃ r : Nat, r ≤ n ∧ i = .int .i64 ((r : Int) - 1) ∧ WysI wo wr rb n (upN b ls) (fun t => if t < r then 0 else dnN b ls t)) (fun i _ => (intOf i + 1).toNat)
          case atStart => exact ⟨n, Nat.le_refl _, rfl, hI0⟩
          case round =>
            clear hlt hk d1 q0 q1 q2 hI0
            obtain ⟨r, hr, rfl, hI⟩ := hrel
            rcases r with _ | k
            · have d5 : decide ((0 : Int) ≤ ((0 : Nat) : Int) - 1) = false := by decide
              have hfin := hI.row.same (U' := upN b ls) (V' := dnN b ls) (fun _ _ => rfl) (fun t _ => (if_neg (Nat.not_lt_zero _)).symm)
              have hbf := hbw.trans (hI.bl.mono hbw.size)
              go_wp2
              go_ret
              exact ⟨rb, by rfl, hfin, hbf⟩
            · have eq1 : ((k + 1 : Nat) : Int) - 1 = (k : Int) := by omega
              rw [eq1]
              have hlt : k < n := by omega
              have d5 : decide ((0 : Int) ≤ (k : Int)) = true := decide_eq_true (by omega)
              have hki : (k : Int) < (n : Int) := by omega
              clear eq1
              obtain ⟨xb, xo, rfl, hxb, hxc⟩ := pl_all hs2.2 (by rw [← HNN.out]; omega)
              obtain ⟨lb, lo, rfl, hlb, hlc⟩ := num_all hL2 (by have := HNN.out; simp [lvsI]; omega)
              have HX : Hid (∀ W, Below wo.heap.size wo W → ∀ k, k < n → W.cell? ⟨xb, xo + k * 4, none⟩ = some (.int .i64 (at0 (xAt b ls k) 0 : Int)) ∧ W.cell? ⟨xb, xo + k * 4 + 1, none⟩ = some (.int .i64 (at0 (xAt b ls k) 1 : Int)) ∧ W.cell? ⟨xb, xo + k * 4 + 2, none⟩ = some (.int .i64 (at0 (xAt b ls k) 2 : Int)) ∧ W.cell? ⟨xb, xo + k * 4 + 3, none⟩ = some (.int .i64 (at0 (xAt b ls k) 3 : Int))) := fun W hb k hk =>
                ⟨(hb.cell hxb).trans (hxc k (by rw [← HNN.out]; exact hk) 0 (by omega)), (hb.cell hxb).trans (hxc k (by rw [← HNN.out]; exact hk) 1 (by omega)), (hb.cell hxb).trans (hxc k (by rw [← HNN.out]; exact hk) 2 (by omega)), (hb.cell hxb).trans (hxc k (by rw [← HNN.out]; exact hk) 3 (by omega))⟩
              have HLV : Hid (∀ W, Below wo.heap.size wo W → ∀ k, k < n → W.cell? ⟨lb, lo + k, none⟩ = some (.int .i64 (lvN b ls k : Int))) := fun W hb k hk => by
                have := (hb.cell (p := ⟨lb, lo + k, none⟩) hlb).trans (hlc k (by have := HNN.out; simp [lvsI]; omega))
                rw [lvs_getD (by rw [← HNN.out]; exact hk)] at this
                exact this
              clear hxc hlc
              have c0 := HLV.out _ hI.bl k hlt
              have ek1 : IntKind.i64.wrap ((k : Int) + 1) = ((k + 1 : Nat) : Int) := by rw [IntKind.wrap_i64]; omega
              rcases Decidable.em (lvN b ls k = mostOf b ls) with h1 | h1
              · have d6 : ((lvN b ls k : Int) == (mostOf b ls : Int)) = true := by simp; omega
                obtain ⟨o0, o1⟩ := hI.row.at_ hlt
                have z0 := hI.row.frozen (k * 2 + 1)
                go_upto_region 26 with (fail)
                have hI2 := (hI.setV hrb2 hlt 1).same (U' := upN b ls) (V' := fun t => if t < k then 0 else if t = k then dsum b ls k 0 else dnN b ls t) (fun _ _ => rfl) (fun t _ => by
                  by_cases h2 : t = k
                  · have h3 : ¬ t < k := by omega
                    simp only [if_pos h2, if_neg h3, dsum_zero, if_pos h1]
                  · by_cases h3 : t < k
                    · have h4 : t < k + 1 := by omega
                      simp only [if_pos h3, if_neg h2, if_pos h4]
                    · have h4 : ¬ t < k + 1 := by omega
                      simp only [if_neg h3, if_neg h2, if_neg h4])
                rw [show ((1 : Nat) : Int) = 1 from rfl] at hI2
                clear o0 o1 z0 c0 hI d6 h1
                generalize wr.setCell ⟨rb, k * 2 + 1, none⟩ (.int .i64 1) = W2 at *
                obtain ⟨q0, q1, q2⟩ := (hs2.call hI2.bl).1.c3
                rw [← HNN.out] at q2
                go_wp2
                go_loopw [13] (fun i wr => ∃ j : Nat, k + 1 ≤ j ∧ j ≤ n ∧ i = .int .i64 j ∧ WysI wo wr rb n (upN b ls) (fun t => if t < k then 0 else if t = k then dsum b ls k (j - (k + 1)) else dnN b ls t)) (fun i _ => n - (intOf i).toNat)
                case atStart => exact ⟨k + 1, Nat.le_refl _, by omega, by go_num, by rw [Nat.sub_self]; exact hI2⟩
                case round =>
                  clear hI2 q0 q1 q2
                  obtain ⟨j, hj1, hj2, rfl, hI⟩ := hrel
                  obtain ⟨q0, q1, q2⟩ := (hs2.call hI.bl).1.c3
                  rw [← HNN.out] at q2
                  by_cases hjn : j < n
                  · have d7 : decide (j < n) = true := decide_eq_true hjn
                    have d7' : decide ((j : Int) < (n : Int)) = true := decide_eq_true (by omega)
                    have hji : (j : Int) < (n : Int) := by omega
                    go_upto_region 29 with (fail)
                    obtain ⟨o2, o3⟩ := hI.row.at_ hjn
                    have hnk1 : ¬ j < k := by omega
                    have hnk2 : ¬ j = k := by omega
                    simp only [if_neg hnk1, if_neg hnk2] at o3
                    have hsW := hs2.call hI.bl
                    have HA : Hid (∀ y : Ext wr, Calls Try.prog 63 #[.pointer (some ⟨gs, 0, none⟩), plV (xAt b ls k), plV (xAt b ls j)] y.w fun r w' => r = .returned (.bool (bfN b ls k j)) ∧ ∃ z : Ext wr, w' = z.w) := fun y => ext_call y (before_ok B gs d b ls la lc _ (xAt b ls k) (xAt b ls j) y.w (hsW.1.call y.h))
                    have f0 := Ext.of (HLV.out _ hI.bl j hjn)
                    have f1 := Ext.of (HLV.out _ hI.bl k hlt)
                    obtain ⟨g0, g1, g2, g3⟩ := HX.out _ hI.bl k hlt
                    obtain ⟨g4, g5, g6, g7⟩ := HX.out _ hI.bl j hjn
                    have f2 := Ext.of g0
                    have f3 := Ext.of g1
                    have f4 := Ext.of g2
                    have f5 := Ext.of g3
                    have f6 := Ext.of g4
                    have f7 := Ext.of g5
                    have f8 := Ext.of g6
                    have f9 := Ext.of g7
                    have f10 := Ext.of q2
                    have f11 := Ext.of o2
                    have f12 := Ext.of o3
                    have hl8 := lvN_le HG.out (i := k) (by rw [← HNN.out]; omega)
                    have e1 : IntKind.i64.wrap ((lvN b ls k : Int) + 1) = (lvN b ls k : Int) + 1 := wrap_id _ (by omega) (by omega)
                    have ej : k + 1 + (j - (k + 1)) = j := by omega
                    have hus := dsum_succ (b := b) (ls := ls) k (j - (k + 1))
                    rw [ej, show j - (k + 1) + 1 = j + 1 - (k + 1) by omega] at hus
                    have HUS := Lib.hid hus
                    have hb1 := dsum_mono (b := b) (ls := ls) k (show j - (k + 1) ≤ n - (k + 1) by omega)
                    have hb2 := dsum_all HG.out (i := k) (by rw [← HNN.out]; exact hlt)
                    rw [← HNN.out] at hb2
                    have hb3 := (ways_leN HG.out (i := k) (by rw [← HNN.out]; exact hlt)).2.1
                    have hb4 := (ways_leN HG.out (i := j) (by rw [← HNN.out]; omega)).2.1
                    obtain ⟨S, hS⟩ : ∃ S, S = dsum b ls k (j - (k + 1)) := ⟨_, rfl⟩
                    rw [← hS] at hb1 HUS
                    have HSS := Lib.hid hS
                    clear hsW g0 g1 g2 g3 g4 g5 g6 g7 q0 q1 q2 o2 o3 hnk1 hnk2 hus ej hS
                    rcases Decidable.em (dnN b ls j = 0) with hz | hz
                    · have d8 : ((dnN b ls j : Int) == 0) = true := by simp; omega
                      have HS : Hid (dsum b ls k (j + 1 - (k + 1)) = S) := by
                        rw [Hid, HUS.out, hz]
                        split <;> rfl
                      rw [hz] at f12
                      clear HUS hb1 hb2 hb3 hb4 hl8 hz
                      refine wp_region_ext (by kernel_rfl) (by kernel_rfl) ?_
                      repeat (go_big_quiet_step (fail))
                      refine wpQuiet_nil ?_
                      intro _ hw'
                      obtain ⟨xr, hw''⟩ := hw'
                      subst hw''
                      have hI4 := hI.call xr.h
                      go_wp2
                      go_roundw
                      case rel => exact ⟨j + 1, by omega, by omega, by go_num, hI4.same (fun _ _ => rfl) (fun t _ => by rw [HS.out, ← HSS.out])⟩
                      case measure => (simp [intOf]; try omega)
                    · have d8 : ((dnN b ls j : Int) == 0) = false := beq_false_of_ne (by omega)
                      rcases Decidable.em (lvN b ls k + 1 = lvN b ls j) with hq | hq
                      · have d9 : ((lvN b ls k : Int) + 1 == (lvN b ls j : Int)) = true := by simp; omega
                        cases hbf : bfN b ls k j
                        · have HS : Hid (dsum b ls k (j + 1 - (k + 1)) = S) := by rw [Hid, HUS.out, if_neg (by simp [hbf])]; rfl
                          rw [hbf] at HA
                          clear hq hbf HUS hb1 hb2 hb3 hb4 hl8 hz
                          refine wp_region_ext (by kernel_rfl) (by kernel_rfl) ?_
                          repeat (go_big_quiet_step ((go_at_call 63; with_reducible exact HA.out _)))
                          refine wpQuiet_nil ?_
                          intro _ hw'
                          obtain ⟨xr, hw''⟩ := hw'
                          subst hw''
                          have hI4 := hI.call xr.h
                          go_wp2
                          go_roundw
                          case rel => exact ⟨j + 1, by omega, by omega, by go_num, hI4.same (fun _ _ => rfl) (fun t _ => by rw [HS.out, ← HSS.out])⟩
                          case measure => (simp [intOf]; try omega)
                        · have HS : Hid (dsum b ls k (j + 1 - (k + 1)) = S + dnN b ls j) := by rw [Hid, HUS.out, if_pos ⟨hq, hbf⟩]
                          rw [hbf] at HA
                          have e2 : IntKind.i64.wrap ((S : Int) + (dnN b ls j : Int)) = (S : Int) + (dnN b ls j : Int) := wrap_id _ (by omega) (by omega)
                          clear hq hbf HUS hb1 hb2 hb3 hb4 hl8 hz
                          refine wp_region_ext (by kernel_rfl) (by kernel_rfl) ?_
                          repeat (go_big_quiet_step ((go_at_call 63; with_reducible exact HA.out _)))
                          refine wpQuiet_nil ?_
                          intro _ hw'
                          obtain ⟨xr, hw''⟩ := hw'
                          subst hw''
                          have hI4 := hI.call xr.h
                          obtain ⟨W4, hW4⟩ : ∃ W4 : World, W4 = xr.w := ⟨_, rfl⟩
                          rw [← hW4] at hI4 ⊢
                          clear hW4 xr f0 f1 f2 f3 f4 f5 f6 f7 f8 f9 f10 f11 f12 HA d8 d9
                          go_upto_region 30 with (fail)
                          obtain ⟨-, o0⟩ := hI4.row.at_ hlt
                          obtain ⟨-, o2⟩ := hI4.row.at_ hjn
                          rw [if_neg (Nat.lt_irrefl _), if_pos rfl, ← HSS.out] at o0
                          rw [if_neg (show ¬ j < k by omega), if_neg (show ¬ j = k by omega)] at o2
                          go_wp2_with fail
                          go_still_tail 13, (by kernel_rfl)
                          change wpList _ _ _ _ _ (W4).drew
                          have hI5 := hI4.call ((Below.refl W4.heap.size W4).drew)
                          generalize W4.drew = W5 at *
                          clear o0 o2 hI4 hI
                          obtain ⟨-, o0⟩ := hI5.row.at_ hlt
                          have z0 := hI5.row.frozen (k * 2 + 1)
                          have hI6 := (hI5.setV hrb2 hlt (S + dnN b ls j)).same (U' := upN b ls) (V' := fun t => if t < k then 0 else if t = k then dsum b ls k (j + 1 - (k + 1)) else dnN b ls t) (fun _ _ => rfl) (fun t _ => by
                            by_cases h2 : t = k
                            · have h3 : ¬ t < k := by omega
                              simp only [if_pos h2, if_neg h3, HS.out]
                            · simp only [if_neg h2])
                          rw [show ((S + dnN b ls j : Nat) : Int) = (S : Int) + (dnN b ls j : Int) by omega] at hI6
                          clear hI5
                          go_wp2
                          go_roundw
                          case rel => exact ⟨j + 1, by omega, by omega, by go_num, hI6⟩
                          case measure => (simp [intOf]; try omega)
                      · have d9 : ((lvN b ls k : Int) + 1 == (lvN b ls j : Int)) = false := beq_false_of_ne (by omega)
                        have HS : Hid (dsum b ls k (j + 1 - (k + 1)) = S) := by rw [Hid, HUS.out, if_neg fun h => hq h.1]; rfl
                        clear hq HUS hb1 hb2 hb3 hb4 hl8 hz
                        refine wp_region_ext (by kernel_rfl) (by kernel_rfl) ?_
                        repeat (go_big_quiet_step (fail))
                        refine wpQuiet_nil ?_
                        intro _ hw'
                        obtain ⟨xr, hw''⟩ := hw'
                        subst hw''
                        have hI4 := hI.call xr.h
                        go_wp2
                        go_roundw
                        case rel => exact ⟨j + 1, by omega, by omega, by go_num, hI4.same (fun _ _ => rfl) (fun t _ => by rw [HS.out, ← HSS.out])⟩
                        case measure => (simp [intOf]; try omega)
                  · obtain rfl : n = j := by omega
                    have d7 : decide (n < n) = false := by simp
                    have HUA := Lib.hid (dsum_all HG.out (i := k) (by rw [← HNN.out]; exact hlt))
                    rw [← HNN.out] at HUA
                    go_wp2
                    go_roundw
                    case rel =>
                      refine ⟨k, by omega, rfl, hI.same (fun _ _ => rfl) (fun t _ => ?_)⟩
                      by_cases h3 : t < k
                      · simp only [if_pos h3]
                      · by_cases h2 : t = k
                        · simp only [if_neg h3, if_pos h2]
                          rw [h2, HUA.out]
                        · simp only [if_neg h3, if_neg h2]
                    case measure => (simp [intOf]; try omega)
              · have d6 : ((lvN b ls k : Int) == (mostOf b ls : Int)) = false := beq_false_of_ne (by omega)
                go_upto_region 26 with (fail)
                have hI2 := hI.same (U' := upN b ls) (V' := fun t => if t < k then 0 else if t = k then dsum b ls k 0 else dnN b ls t) (fun _ _ => rfl) (fun t _ => by
                  by_cases h2 : t = k
                  · have h3 : ¬ t < k := by omega
                    have h4 : t < k + 1 := by omega
                    simp only [if_pos h2, if_neg h3, dsum_zero, if_neg h1, if_pos h4]
                  · by_cases h3 : t < k
                    · have h4 : t < k + 1 := by omega
                      simp only [if_pos h3, if_pos h4]
                    · have h4 : ¬ t < k + 1 := by omega
                      simp only [if_neg h3, if_neg h2, if_neg h4])
                obtain ⟨W2, hW2⟩ : ∃ W2 : World, W2 = wr := ⟨_, rfl⟩
                rw [← hW2] at hI2 ⊢
                clear hW2 d6 c0 hI h1
                obtain ⟨q0, q1, q2⟩ := (hs2.call hI2.bl).1.c3
                rw [← HNN.out] at q2
                go_wp2
                go_loopw [13] (fun i wr => ∃ j : Nat, k + 1 ≤ j ∧ j ≤ n ∧ i = .int .i64 j ∧ WysI wo wr rb n (upN b ls) (fun t => if t < k then 0 else if t = k then dsum b ls k (j - (k + 1)) else dnN b ls t)) (fun i _ => n - (intOf i).toNat)
                case atStart => exact ⟨k + 1, Nat.le_refl _, by omega, by go_num, by rw [Nat.sub_self]; exact hI2⟩
                case round =>
                  clear hI2 q0 q1 q2
                  obtain ⟨j, hj1, hj2, rfl, hI⟩ := hrel
                  obtain ⟨q0, q1, q2⟩ := (hs2.call hI.bl).1.c3
                  rw [← HNN.out] at q2
                  by_cases hjn : j < n
                  · have d7 : decide (j < n) = true := decide_eq_true hjn
                    have d7' : decide ((j : Int) < (n : Int)) = true := decide_eq_true (by omega)
                    have hji : (j : Int) < (n : Int) := by omega
                    go_upto_region 29 with (fail)
                    obtain ⟨o2, o3⟩ := hI.row.at_ hjn
                    have hnk1 : ¬ j < k := by omega
                    have hnk2 : ¬ j = k := by omega
                    simp only [if_neg hnk1, if_neg hnk2] at o3
                    have hsW := hs2.call hI.bl
                    have HA : Hid (∀ y : Ext wr, Calls Try.prog 63 #[.pointer (some ⟨gs, 0, none⟩), plV (xAt b ls k), plV (xAt b ls j)] y.w fun r w' => r = .returned (.bool (bfN b ls k j)) ∧ ∃ z : Ext wr, w' = z.w) := fun y => ext_call y (before_ok B gs d b ls la lc _ (xAt b ls k) (xAt b ls j) y.w (hsW.1.call y.h))
                    have f0 := Ext.of (HLV.out _ hI.bl j hjn)
                    have f1 := Ext.of (HLV.out _ hI.bl k hlt)
                    obtain ⟨g0, g1, g2, g3⟩ := HX.out _ hI.bl k hlt
                    obtain ⟨g4, g5, g6, g7⟩ := HX.out _ hI.bl j hjn
                    have f2 := Ext.of g0
                    have f3 := Ext.of g1
                    have f4 := Ext.of g2
                    have f5 := Ext.of g3
                    have f6 := Ext.of g4
                    have f7 := Ext.of g5
                    have f8 := Ext.of g6
                    have f9 := Ext.of g7
                    have f10 := Ext.of q2
                    have f11 := Ext.of o2
                    have f12 := Ext.of o3
                    have hl8 := lvN_le HG.out (i := k) (by rw [← HNN.out]; omega)
                    have e1 : IntKind.i64.wrap ((lvN b ls k : Int) + 1) = (lvN b ls k : Int) + 1 := wrap_id _ (by omega) (by omega)
                    have ej : k + 1 + (j - (k + 1)) = j := by omega
                    have hus := dsum_succ (b := b) (ls := ls) k (j - (k + 1))
                    rw [ej, show j - (k + 1) + 1 = j + 1 - (k + 1) by omega] at hus
                    have HUS := Lib.hid hus
                    have hb1 := dsum_mono (b := b) (ls := ls) k (show j - (k + 1) ≤ n - (k + 1) by omega)
                    have hb2 := dsum_all HG.out (i := k) (by rw [← HNN.out]; exact hlt)
                    rw [← HNN.out] at hb2
                    have hb3 := (ways_leN HG.out (i := k) (by rw [← HNN.out]; exact hlt)).2.1
                    have hb4 := (ways_leN HG.out (i := j) (by rw [← HNN.out]; omega)).2.1
                    obtain ⟨S, hS⟩ : ∃ S, S = dsum b ls k (j - (k + 1)) := ⟨_, rfl⟩
                    rw [← hS] at hb1 HUS
                    have HSS := Lib.hid hS
                    clear hsW g0 g1 g2 g3 g4 g5 g6 g7 q0 q1 q2 o2 o3 hnk1 hnk2 hus ej hS
                    rcases Decidable.em (dnN b ls j = 0) with hz | hz
                    · have d8 : ((dnN b ls j : Int) == 0) = true := by simp; omega
                      have HS : Hid (dsum b ls k (j + 1 - (k + 1)) = S) := by
                        rw [Hid, HUS.out, hz]
                        split <;> rfl
                      rw [hz] at f12
                      clear HUS hb1 hb2 hb3 hb4 hl8 hz
                      refine wp_region_ext (by kernel_rfl) (by kernel_rfl) ?_
                      repeat (go_big_quiet_step (fail))
                      refine wpQuiet_nil ?_
                      intro _ hw'
                      obtain ⟨xr, hw''⟩ := hw'
                      subst hw''
                      have hI4 := hI.call xr.h
                      go_wp2
                      go_roundw
                      case rel => exact ⟨j + 1, by omega, by omega, by go_num, hI4.same (fun _ _ => rfl) (fun t _ => by rw [HS.out, ← HSS.out])⟩
                      case measure => (simp [intOf]; try omega)
                    · have d8 : ((dnN b ls j : Int) == 0) = false := beq_false_of_ne (by omega)
                      rcases Decidable.em (lvN b ls k + 1 = lvN b ls j) with hq | hq
                      · have d9 : ((lvN b ls k : Int) + 1 == (lvN b ls j : Int)) = true := by simp; omega
                        cases hbf : bfN b ls k j
                        · have HS : Hid (dsum b ls k (j + 1 - (k + 1)) = S) := by rw [Hid, HUS.out, if_neg (by simp [hbf])]; rfl
                          rw [hbf] at HA
                          clear hq hbf HUS hb1 hb2 hb3 hb4 hl8 hz
                          refine wp_region_ext (by kernel_rfl) (by kernel_rfl) ?_
                          repeat (go_big_quiet_step ((go_at_call 63; with_reducible exact HA.out _)))
                          refine wpQuiet_nil ?_
                          intro _ hw'
                          obtain ⟨xr, hw''⟩ := hw'
                          subst hw''
                          have hI4 := hI.call xr.h
                          go_wp2
                          go_roundw
                          case rel => exact ⟨j + 1, by omega, by omega, by go_num, hI4.same (fun _ _ => rfl) (fun t _ => by rw [HS.out, ← HSS.out])⟩
                          case measure => (simp [intOf]; try omega)
                        · have HS : Hid (dsum b ls k (j + 1 - (k + 1)) = S + dnN b ls j) := by rw [Hid, HUS.out, if_pos ⟨hq, hbf⟩]
                          rw [hbf] at HA
                          have e2 : IntKind.i64.wrap ((S : Int) + (dnN b ls j : Int)) = (S : Int) + (dnN b ls j : Int) := wrap_id _ (by omega) (by omega)
                          clear hq hbf HUS hb1 hb2 hb3 hb4 hl8 hz
                          refine wp_region_ext (by kernel_rfl) (by kernel_rfl) ?_
                          repeat (go_big_quiet_step ((go_at_call 63; with_reducible exact HA.out _)))
                          refine wpQuiet_nil ?_
                          intro _ hw'
                          obtain ⟨xr, hw''⟩ := hw'
                          subst hw''
                          have hI4 := hI.call xr.h
                          obtain ⟨W4, hW4⟩ : ∃ W4 : World, W4 = xr.w := ⟨_, rfl⟩
                          rw [← hW4] at hI4 ⊢
                          clear hW4 xr f0 f1 f2 f3 f4 f5 f6 f7 f8 f9 f10 f11 f12 HA d8 d9
                          go_upto_region 30 with (fail)
                          obtain ⟨-, o0⟩ := hI4.row.at_ hlt
                          obtain ⟨-, o2⟩ := hI4.row.at_ hjn
                          rw [if_neg (Nat.lt_irrefl _), if_pos rfl, ← HSS.out] at o0
                          rw [if_neg (show ¬ j < k by omega), if_neg (show ¬ j = k by omega)] at o2
                          go_wp2_with fail
                          go_still_tail 13, (by kernel_rfl)
                          change wpList _ _ _ _ _ (W4).drew
                          have hI5 := hI4.call ((Below.refl W4.heap.size W4).drew)
                          generalize W4.drew = W5 at *
                          clear o0 o2 hI4 hI
                          obtain ⟨-, o0⟩ := hI5.row.at_ hlt
                          have z0 := hI5.row.frozen (k * 2 + 1)
                          have hI6 := (hI5.setV hrb2 hlt (S + dnN b ls j)).same (U' := upN b ls) (V' := fun t => if t < k then 0 else if t = k then dsum b ls k (j + 1 - (k + 1)) else dnN b ls t) (fun _ _ => rfl) (fun t _ => by
                            by_cases h2 : t = k
                            · have h3 : ¬ t < k := by omega
                              simp only [if_pos h2, if_neg h3, HS.out]
                            · simp only [if_neg h2])
                          rw [show ((S + dnN b ls j : Nat) : Int) = (S : Int) + (dnN b ls j : Int) by omega] at hI6
                          clear hI5
                          go_wp2
                          go_roundw
                          case rel => exact ⟨j + 1, by omega, by omega, by go_num, hI6⟩
                          case measure => (simp [intOf]; try omega)
                      · have d9 : ((lvN b ls k : Int) + 1 == (lvN b ls j : Int)) = false := beq_false_of_ne (by omega)
                        have HS : Hid (dsum b ls k (j + 1 - (k + 1)) = S) := by rw [Hid, HUS.out, if_neg fun h => hq h.1]; rfl
                        clear hq HUS hb1 hb2 hb3 hb4 hl8 hz
                        refine wp_region_ext (by kernel_rfl) (by kernel_rfl) ?_
                        repeat (go_big_quiet_step (fail))
                        refine wpQuiet_nil ?_
                        intro _ hw'
                        obtain ⟨xr, hw''⟩ := hw'
                        subst hw''
                        have hI4 := hI.call xr.h
                        go_wp2
                        go_roundw
                        case rel => exact ⟨j + 1, by omega, by omega, by go_num, hI4.same (fun _ _ => rfl) (fun t _ => by rw [HS.out, ← HSS.out])⟩
                        case measure => (simp [intOf]; try omega)
                  · obtain rfl : n = j := by omega
                    have d7 : decide (n < n) = false := by simp
                    have HUA := Lib.hid (dsum_all HG.out (i := k) (by rw [← HNN.out]; exact hlt))
                    rw [← HNN.out] at HUA
                    go_wp2
                    go_roundw
                    case rel =>
                      refine ⟨k, by omega, rfl, hI.same (fun _ _ => rfl) (fun t _ => ?_)⟩
                      by_cases h3 : t < k
                      · simp only [if_pos h3]
                      · by_cases h2 : t = k
                        · simp only [if_neg h3, if_pos h2]
                          rw [h2, HUA.out]
                        · simp only [if_neg h3, if_neg h2]
                    case measure => (simp [intOf]; try omega)
end Go.Proofs.Ytgngpdnppdbgoaa
