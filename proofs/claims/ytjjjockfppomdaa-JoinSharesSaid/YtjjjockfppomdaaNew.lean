/- Contract of the table: newTable. -/
import Derived.Test.YtjjjockfppomdaaSts
import Derived.Test.YtjjjockfppomdaaRefB
namespace Go.Proofs.Ytjjjockfppomdaa
open Go.RowKit Go.Shelf
set_option linter.unusedVariables false

/-- what fits, as far as looked at -/
def fitTo (c : Cyl) (i k a b : Nat) : Int := if (decide (a < i) || (decide (a = i) && decide (b < k))) = true ∧ fitN c a b = true then 1 else 0
theorem fitN_lt {c : Cyl} {a b : Nat} (h : fitN c a b = true) : a < (stepsOf c).length ∧ b < (stepsOf c).length := by
  unfold fitN at h
  split at h
  · rename_i h1 h2
    exact ⟨(List.getElem?_eq_some_iff.1 h1).1, (List.getElem?_eq_some_iff.1 h2).1⟩
  · cases h
theorem fitTo_zero (c : Cyl) : fitTo c 0 0 = fun _ _ => 0 := by
  funext a b
  unfold fitTo
  rw [if_neg]
  simp
theorem fitTo_row (c : Cyl) (i : Nat) : fitTo c i (stepsOf c).length = fitTo c (i + 1) 0 := by
  funext a b
  unfold fitTo
  by_cases hf : fitN c a b = true
  · have := (fitN_lt hf).2
    by_cases h : a < i
    · rw [if_pos ⟨by simp [h], hf⟩, if_pos ⟨by simp; omega, hf⟩]
    · by_cases h2 : a = i
      · rw [if_pos ⟨by simp [h2]; omega, hf⟩, if_pos ⟨by simp; omega, hf⟩]
      · rw [if_neg (by simp; omega), if_neg (by simp; omega)]
  · rw [if_neg (fun h => hf h.2), if_neg (fun h => hf h.2)]
theorem fitTo_all (c : Cyl) : fitTo c (stepsOf c).length 0 = fitV c := by
  funext a b
  unfold fitTo fitV
  by_cases hf : fitN c a b = true
  · have := (fitN_lt hf).1
    rw [if_pos ⟨by simp; omega, hf⟩, if_pos hf]
  · rw [if_neg (fun h => hf h.2), if_neg hf]
theorem fitTo_no {c : Cyl} {i k : Nat} (hf : fitN c i k = false) : fitTo c i (k + 1) = fitTo c i k := by
  funext a b
  unfold fitTo
  by_cases h : a = i ∧ b = k
  · obtain ⟨rfl, rfl⟩ := h
    rw [if_neg (by rw [hf]; simp), if_neg (by rw [hf]; simp)]
  · congr 1
    simp only [Bool.or_eq_true, Bool.and_eq_true, decide_eq_true_eq, eq_iff_iff]
    constructor
    · rintro ⟨h1, h2⟩
      exact ⟨by omega, h2⟩
    · rintro ⟨h1, h2⟩
      exact ⟨by omega, h2⟩
theorem fitTo_yes {c : Cyl} {i k : Nat} (hf : fitN c i k = true) (a b : Nat) : fitTo c i (k + 1) a b = if a = i ∧ b = k then 1 else fitTo c i k a b := by
  by_cases h : a = i ∧ b = k
  · obtain ⟨rfl, rfl⟩ := h
    rw [if_pos ⟨rfl, rfl⟩]
    unfold fitTo
    rw [if_pos ⟨by simp, hf⟩]
  · rw [if_neg h]
    unfold fitTo
    congr 1
    simp only [Bool.or_eq_true, Bool.and_eq_true, decide_eq_true_eq, eq_iff_iff]
    constructor
    · rintro ⟨h1, h2⟩
      exact ⟨by omega, h2⟩
    · rintro ⟨h1, h2⟩
      exact ⟨by omega, h2⟩

/-- the world while the table is made -/
structure NewW (w : World) (g0 : Nat) (c : Cyl) (pa : Option Addr) (pc : Nat) (L : List St) (A : Option Addr) (cap : Nat) (V : Nat → Nat → Int) (W : World) : Prop where
  tc : TC W (g0 + 2) c pa pc (.slice A L.length cap) V g0 (g0 + 1)
  own : W.ownsRow (g0 + 3) 28 2 (.slice A L.length cap) L.length (L.flatMap (cellsOf 2 stcell))
  ma : MapOf W g0 fun _ _ => none
  mu : MapOf W (g0 + 1) fun _ _ => none
  bl : Below w.heap.size w W
  sz : g0 + 3 ≤ W.heap.size
  ge : w.heap.size ≤ g0
section
variable {w W W' : World} {g0 pc cap : Nat} {c : Cyl} {pa A : Option Addr} {L : List St} {V V' : Nat → Nat → Int}
theorem NewW.call (h : NewW w g0 c pa pc L A cap V W) (hb : Below W.heap.size W W') : NewW w g0 c pa pc L A cap V W' := by
  have h1 := h.sz
  have h2 := h.ge
  exact ⟨h.tc.call hb, own_call h.own hb, h.ma.heap (hb.block _ (by omega)), h.mu.heap (hb.block _ (by omega)), h.bl.trans (hb.mono (by omega)), Nat.le_trans h1 hb.size, h2⟩
theorem NewW.app (h : NewW w g0 c pa pc L A cap V W) (hb : Below (g0 + 3) W W') {A' : Option Addr} {cap' : Nat} {L' : List St} (ho : W'.ownsRow (g0 + 3) 28 2 (.slice A' L'.length cap') L'.length (L'.flatMap (cellsOf 2 stcell))) :
    NewW w g0 c pa pc L' A' cap' V (W'.setCell ⟨g0 + 2, 4, none⟩ (.slice A' L'.length cap')) := by
  have h1 := h.sz
  have h2 := h.ge
  have hg : W'.grownBy (W'.setCell ⟨g0 + 2, 4, none⟩ (.slice A' L'.length cap')) (some (g0 + 2)) := grown_setCell _
  have hs : W'.heap.size ≤ (W'.setCell ⟨g0 + 2, 4, none⟩ (.slice A' L'.length cap')).heap.size := hg.size
  have h3 := hb.size
  have hq : ∀ k, k < g0 + 2 → (W'.setCell ⟨g0 + 2, 4, none⟩ (.slice A' L'.length cap')).heap[k]? = W.heap[k]? := fun k hk => (hg.block k (by omega) (fun e => by injection e; omega)).trans (hb.block k (by omega))
  exact ⟨(h.tc.belowB hb (by omega)).sets _, own_low ho (by omega), h.ma.heap (hq _ (by omega)), h.mu.heap (hq _ (by omega)),
    ⟨hg.os.trans (hb.os.trans h.bl.os), hg.tape.trans (hb.tape.trans h.bl.tape), hg.output.trans (hb.output.trans h.bl.output), Nat.le_trans h.bl.size (Nat.le_trans h3 hs), fun k hk => (hq k (by omega)).trans (h.bl.block k hk)⟩, by omega, h2⟩
theorem NewW.step (h : NewW w g0 c pa pc (stepsOf c) A cap V W) {k b off : Nat} (hk : k < (stepsOf c).length) (hA : A = some ⟨b, off, none⟩) :
    ∃ t : Bool, (stepsOf c)[k]? = some ⟨(pieceN c k : Int), t⟩ ∧ W.cell? ⟨b, off + k * 2, none⟩ = some (.int .i64 (pieceN c k : Int)) ∧ W.cell? ⟨b, off + k * 2 + 1, none⟩ = some (.bool t) := by
  obtain ⟨b', off', s, h1, h2, h3, h4⟩ := (Arr.of_own h.own).at_ hk
  rw [hA] at h1
  injection h1 with h1
  injection h1 with h1 h5
  subst h1 h5
  have hp := pieceN_eq h3
  have e0 := h4 0 (by omega)
  have e1 := h4 1 (by omega)
  obtain ⟨sp, st⟩ := s
  simp only at hp
  subst hp
  exact ⟨st, h3, e0, e1⟩
theorem NewW.put (h : NewW w g0 c pa pc L A cap V W) {i k : Nat} {x : Int} (hi : i < 16) (hk : k < 16) (hV : ∀ i' k', i' < 16 → k' < 16 → V' i' k' = if i' = i ∧ k' = k then x else V i' k') :
    NewW w g0 c pa pc L A cap V' (W.setCell ⟨g0 + 2, 5 + i * 16 + k, none⟩ (.int .i64 x)) := by
  have h1 := h.sz
  have h2 := h.ge
  have hg : W.grownBy (W.setCell ⟨g0 + 2, 5 + i * 16 + k, none⟩ (.int .i64 x)) (some (g0 + 2)) := grown_setCell _
  have hq : ∀ k', k' < g0 + 2 → (W.setCell ⟨g0 + 2, 5 + i * 16 + k, none⟩ (.int .i64 x)).heap[k']? = W.heap[k']? := fun k' hk' => hg.block k' (by omega) (fun e => by injection e; omega)
  exact ⟨h.tc.set_ hi hk hV, own_low h.own (by omega), h.ma.heap (hq _ (by omega)), h.mu.heap (hq _ (by omega)),
    ⟨hg.os.trans h.bl.os, hg.tape.trans h.bl.tape, hg.output.trans h.bl.output, Nat.le_trans h.bl.size hg.size, fun k hk => (hq k (by omega)).trans (h.bl.block k hk)⟩, Nat.le_trans h1 hg.size, h2⟩
end

set_option maxRecDepth 100000 in
set_option maxHeartbeats 1600000 in
theorem newTable_ok (v : Value) (c : Cyl) (w : World) (hv : CylV w w.heap.size v c) (h0 : checkCyl c = 0) :
    Calls Try.prog 61 #[v] w fun r w' => ∃ x : TX, r = .returned (.pointer (some ⟨x.g, 0, none⟩)) ∧ TB w' x c ∧ x.N = w'.heap.size ∧ w.heap.size ≤ x.ga ∧ w.heap.size ≤ x.gu ∧ Below w.heap.size w w' := by
  obtain ⟨pa, pc, rfl, hp⟩ := hv.open_
  have hC := CB.new hp
  have hB := (Below.refl w.heap.size w).alloc (Nat.le_refl _) (.cells #[.slice pa c.pcs.length pc, .int .i64 c.off, .int .i64 c.slo, .int .i64 c.shi] 26)
  go_enter Try.func61, Try.ntmps61
  go_upto_region 1 with (fail)
  have HWS : Hid ((w.alloc (.cells #[.slice pa c.pcs.length pc, .int .i64 c.off, .int .i64 c.slo, .int .i64 c.shi] 26)).heap.size = w.heap.size + 1) := by simp [Hid]
  generalize hW : w.alloc (.cells #[.slice pa c.pcs.length pc, .int .i64 c.off, .int .i64 c.slo, .int .i64 c.shi] 26) = W at *
  clear hW hp
  obtain ⟨k0, k1, k2, k3⟩ := hC.c4
  obtain ⟨n1, n8⟩ := (cyl_bounds h0).1
  have hmm := @run_makeMap Try.prog
  go_upto_region 2 with (fail)
  obtain ⟨E, hE⟩ : ∃ E, E = ((((((Try.zeroCells80.setIfInBounds 0 (.slice pa c.pcs.length pc)).setIfInBounds 1 (.int .i64 c.off)).setIfInBounds 2 (.int .i64 c.slo)).setIfInBounds 3 (.int .i64 c.shi)).setIfInBounds 261 (.map (some W.heap.size))).setIfInBounds 262 (.map (some (W.heap.size + 1)))) := ⟨_, rfl⟩
  rw [← hE]
  have hE2 : E = tcells c pa pc (.slice none 0 0) (fun _ _ => 0) W.heap.size (W.heap.size + 1) := hE.trans (tcells_zero _ _ _ _ _ _)
  have hps := hC.ps
  have hN : NewW w W.heap.size c pa pc [] none 0 (fun _ _ => 0) (((W.alloc (.map #[] 0)).alloc (.map #[] 0)).alloc (.cells E 80)) := by
    have b1 := (Below.refl W.heap.size W).alloc (Nat.le_refl _) (.map #[] 0)
    have b2 := b1.alloc (by simp) (.map #[] 0)
    have b3 := b2.alloc (by simp; omega) (.cells E 80)
    have m1 := MapOf.new W
    have m2 := MapOf.new (W.alloc (.map #[] 0))
    have hz1 : (W.alloc (.map #[] 0)).heap.size = W.heap.size + 1 := by simp
    have hz2 : ((W.alloc (.map #[] 0)).alloc (.map #[] 0)).heap.size = W.heap.size + 2 := by simp
    have c2 := (Below.refl (W.alloc (.map #[] 0)).heap.size (W.alloc (.map #[] 0))).alloc (Nat.le_refl _) (.map #[] 0)
    have c3 := (Below.refl ((W.alloc (.map #[] 0)).alloc (.map #[] 0)).heap.size ((W.alloc (.map #[] 0)).alloc (.map #[] 0))).alloc (Nat.le_refl _) (.cells E 80)
    rw [hz1] at m2 c2
    rw [hz2] at c3
    have ht := Blk.new ((W.alloc (.map #[] 0)).alloc (.map #[] 0)) 80 E
    rw [hz2] at ht
    refine ⟨?_, by simpa using World.ownsRow_nil _ _ _ _, (m1.heap (c2.block _ (by omega))).heap (c3.block _ (by omega)), m2.heap (c3.block _ (by omega)), hB.trans (b3.mono hB.size), by simp, hB.size⟩
    unfold TC
    rw [List.length_nil, ← hE2]
    exact ht
  have hsz : W.heap.size = w.heap.size + 1 := HWS.out
  clear hE hE2 hC k0 k1 k2 k3 hmm
  generalize ((W.alloc (.map #[] 0)).alloc (.map #[] 0)).alloc (.cells E 80) = W1 at *
  clear hB HWS
  generalize W.heap.size = g0 at *
  rw [show g0 + 1 + 1 = g0 + 2 from rfl]
  have HSZ := Lib.hid hsz
  clear hsz hps
  have q4 := hN.tc.c5.1
  obtain ⟨pv, hpv, hp⟩ := hv
  cases hpv
  have hps1 : ∀ W', Below w.heap.size w W' → Arr W' w.heap.size 7 (.slice pa c.pcs.length pc) c.pcs pccell := fun W' hb => hp.below hb
  go_wp2
  go_loopw [21] (fun i wr => ∃ (n : Nat) (L : List St) (A : Option Addr) (cap : Nat), n ≤ c.pcs.length ∧ i = .int .i64 n ∧ L.length ≤ 2 * n ∧ stepsOf c = L ++ stepsGo n (c.pcs.drop n) ∧ NewW w g0 c pa pc L A cap (fun _ _ => 0) wr) (fun i _ => c.pcs.length - (intOf i).toNat)
  case atStart => exact ⟨0, [], none, 0, Nat.zero_le _, rfl, Nat.zero_le _, rfl, hN⟩
  case round =>
    obtain ⟨n, L, A, cap, hn, rfl, hL, hst, hNr⟩ := hrel
    have hbr := hNr.bl
    have hge := hNr.ge
    have hszr := hNr.sz
    have hcap := own_cap hNr.own
    by_cases hn1 : n < c.pcs.length
    · have d3 : decide (n < c.pcs.length) = true := by simpa using hn1
      have d3' : decide ((n : Int) < (c.pcs.length : Int)) = true := by simp; omega
      obtain ⟨b, off, p, hpa, hpb, hp1, c0, c1, c2, c3, c4, c5, c6⟩ := piece_at (hps1 wr hbr) hn1
      rw [stepsGo_drop hp1] at hst
      have HST := Lib.hid hst
      have hL2 : (L ++ [(⟨(n : Int), false⟩ : St)]).length = L.length + 1 := by simp
      subst hpa
      clear hp1 hst q4
      go_upto_region 5 with (fail)
      have hP := Blk.new wr 62 #[.int .i64 p.a.lo, .int .i64 p.a.hi, .int .i64 p.a.pl, .int .i64 p.b.lo, .int .i64 p.b.hi, .int .i64 p.b.pl, .bool p.loose]
      have hN1 := hNr.call ((Below.refl wr.heap.size wr).alloc (Nat.le_refl _) (.cells #[.int .i64 p.a.lo, .int .i64 p.a.hi, .int .i64 p.a.pl, .int .i64 p.b.lo, .int .i64 p.b.hi, .int .i64 p.b.pl, .bool p.loose] 62))
      clear hNr hbr c0 c1 c2 c3 c4 c5 c6
      generalize wr.alloc (.cells #[.int .i64 p.a.lo, .int .i64 p.a.hi, .int .i64 p.a.pl, .int .i64 p.b.lo, .int .i64 p.b.hi, .int .i64 p.b.pl, .bool p.loose] 62) = w2 at *
      generalize wr.heap.size = xb at *
      have q4 := hN1.tc.c5.2.2.2.2
      go_wp2_with (at_builtin; refine wpList_app1 slT_st rfl (.tmp 30) (.tmp 33) rfl (A := A) (cc := cap) rfl ⟨cap, hN1.own, .inl rfl⟩ rfl rfl one_st hN1.sz ?_ ?_ ?_)
      any_goals omega
      intro v' w4 hown4 hb4 hkeep
      have hown5 := own_snoc (cell := stcell) (x := ⟨(n : Int), false⟩) (vals := #[.int .i64 (n : Int), .bool false]) rfl (by simp [cellsOf, List.range_succ, stcell]) hown4
      obtain ⟨A', cap', rfl⟩ := own_form hown5
      have hP4 : Blk w4 xb 62 _ := (hkeep _ hP.lt (own_ad_ne (own_blk_ne hN1.own hP (by decide)))).trans hP
      have hT4 := hN1.tc.belowB hb4 (by omega)
      have z4 := hT4.frozen 4
      have c4 := hT4.c5.2.2.2.2
      have hN5 := hN1.app hb4 hown5
      have hP5 := hP4.far (p := ⟨g0 + 2, 4, none⟩) (by show xb ≠ g0 + 2; omega) (.slice A' (L ++ [(⟨(n : Int), false⟩ : St)]).length cap')
      clear hkeep hown4 q4 hN1 hP hb4 hP4 hT4 hcap
      obtain ⟨L1, hL1⟩ : ∃ L1, L1 = L ++ [(⟨(n : Int), false⟩ : St)] := ⟨_, rfl⟩
      have HL1 := Lib.hid hL1
      rw [← hL1] at hown5 hL2 hN5 hP5
      rw [← hL1]
      clear hL1 hown5
      have hcap5 := own_cap hN5.own
      have HL2 := Lib.hid hL2
      clear hL2
      go_upto_region 6 with (fail)
      generalize w4.setCell ⟨g0 + 2, 4, none⟩ (.slice A' L1.length cap') = w5 at *
      have p6 := hP5.cell 6
      simp at p6
      clear z4 c4
      cases hlo : p.loose
      · rw [hlo] at p6
        have HQ : Hid (stepsOf c = L1 ++ stepsGo (n + 1) (c.pcs.drop (n + 1))) := by rw [Hid, HST.out, hlo, HL1.out]; simp
        clear hlo
        go_wp2
        go_roundw
        case rel => exact ⟨n + 1, L1, A', cap', by omega, by go_num, by have := HL2.out; omega, HQ.out, hN5⟩
        case measure => (simp [intOf]; try omega)
      · rw [hlo] at p6
        have HQ : Hid (stepsOf c = (L1 ++ [⟨(n : Int), true⟩]) ++ stepsGo (n + 1) (c.pcs.drop (n + 1))) := by rw [Hid, HST.out, hlo, HL1.out]; simp
        have hL3 : (L1 ++ [(⟨(n : Int), true⟩ : St)]).length = L1.length + 1 := by simp
        have hL4 : L1.length ≤ 2 * n + 1 := by have := HL2.out; omega
        have q4 := hN5.tc.c5.2.2.2.2
        clear hlo
        go_wp2_with (at_builtin; refine wpList_app1 slT_st rfl (.tmp 43) (.tmp 46) rfl (A := A') (cc := cap') rfl ⟨cap', hN5.own, .inl rfl⟩ rfl rfl one_st hN5.sz ?_ ?_ ?_)
        any_goals omega
        intro v' w6 hown6 hb6 hkeep
        have hown7 := own_snoc (cell := stcell) (x := ⟨(n : Int), true⟩) (vals := #[.int .i64 (n : Int), .bool true]) rfl (by simp [cellsOf, List.range_succ, stcell]) hown6
        obtain ⟨A2, cap2, rfl⟩ := own_form hown7
        have hT6 := hN5.tc.belowB hb6 (by omega)
        have z4 := hT6.frozen 4
        have c4 := hT6.c5.2.2.2.2
        have hN7 := hN5.app hb6 hown7
        clear hkeep hown6 hown7 hN5 q4 hT6
        obtain ⟨L2, hL2⟩ : ∃ L2, L2 = L1 ++ [(⟨(n : Int), true⟩ : St)] := ⟨_, rfl⟩
        rw [← hL2] at hL3 hN7 HQ
        rw [← hL2]
        have HL3 := Lib.hid hL3
        have hcap7 := own_cap hN7.own
        clear hL2 hL3
        go_wp2
        go_roundw
        case rel => exact ⟨n + 1, L2, A2, cap2, by omega, by go_num, by have := HL3.out; omega, HQ.out, hN7⟩
        case measure => (simp [intOf]; try omega)
    · obtain rfl : n = c.pcs.length := by omega
      have d3 : decide (c.pcs.length < c.pcs.length) = false := by simp
      have hst2 : stepsOf c = L := by rw [hst]; simp [stepsGo]
      subst hst2
      clear hst
      rw [← fitTo_zero c] at hNr
      have hm16 : (stepsOf c).length ≤ 16 := steps_le c n8
      have hm1 : 0 < (stepsOf c).length := Nat.lt_of_lt_of_le n1 (stepsGo_len c.pcs 0).1
      obtain ⟨sb, so, s0, rfl, hsb, -, -⟩ := (Arr.of_own hNr.own).at_ hm1
      have q4 := hNr.tc.c5.2.2.2.2
      clear hL hn hn1 hN hbr
      go_wp2
      go_loopw [56] (fun i wr => ∃ k : Nat, k ≤ (stepsOf c).length ∧ i = .int .i64 k ∧ NewW w g0 c pa pc (stepsOf c) (some ⟨sb, so, none⟩) cap (fitTo c k 0) wr) (fun i _ => (stepsOf c).length - (intOf i).toNat)
      case atStart => exact ⟨0, Nat.zero_le _, rfl, hNr⟩
      case round =>
        obtain ⟨i, hi, rfl, hNi⟩ := hrel
        clear hNr q4
        by_cases hlt : i < (stepsOf c).length
        · have d4 : decide (i < (stepsOf c).length) = true := by simpa using hlt
          have d4' : decide ((i : Int) < ((stepsOf c).length : Int)) = true := by simp; omega
          obtain ⟨ti, hsi, s0, s1⟩ := hNi.step hlt rfl
          have q4 := hNi.tc.c5.2.2.2.2
          go_upto_region 12 with (fail)
          have hX := Blk.new wr 28 #[.int .i64 (pieceN c i : Int), .bool ti]
          have hN1 := hNi.call ((Below.refl wr.heap.size wr).alloc (Nat.le_refl _) (.cells #[.int .i64 (pieceN c i : Int), .bool ti] 28))
          have hxg := hNi.sz
          clear hNi q4 s0 s1
          generalize wr.alloc (.cells #[.int .i64 (pieceN c i : Int), .bool ti] 28) = w2 at *
          generalize wr.heap.size = xb at *
          have q4 := hN1.tc.c5.2.2.2.2
          go_wp2
          go_loopw [66] (fun i' wr => ∃ k : Nat, k ≤ (stepsOf c).length ∧ i' = .int .i64 k ∧ NewW w g0 c pa pc (stepsOf c) (some ⟨sb, so, none⟩) cap (fitTo c i k) wr ∧ Blk wr xb 28 #[.int .i64 (pieceN c i : Int), .bool ti]) (fun i' _ => (stepsOf c).length - (intOf i').toNat)
          case atStart => exact ⟨0, Nat.zero_le _, rfl, hN1, hX⟩
          case round =>
            obtain ⟨k, hk, rfl, hNk, hXk⟩ := hrel
            clear hN1 q4 hX
            by_cases hlk : k < (stepsOf c).length
            · have d5 : decide (k < (stepsOf c).length) = true := by simpa using hlk
              have d5' : decide ((k : Int) < ((stepsOf c).length : Int)) = true := by simp; omega
              obtain ⟨tk, hsk, s0, s1⟩ := hNk.step hlk rfl
              have q4 := hNk.tc.c5.2.2.2.2
              go_upto_region 15 with (fail)
              have hY := Blk.new wr 28 #[.int .i64 (pieceN c k : Int), .bool tk]
              have hbA := (Below.refl wr.heap.size wr).alloc (Nat.le_refl _) (.cells #[.int .i64 (pieceN c k : Int), .bool tk] 28)
              have hN2 := hNk.call hbA
              have hX2 := hXk.call hbA
              have hyg := hNk.sz
              clear hNk hXk hbA q4 s0 s1
              generalize wr.alloc (.cells #[.int .i64 (pieceN c k : Int), .bool tk] 28) = w3 at *
              generalize wr.heap.size = yb at *
              have x0 := hX2.cell 0
              have x1 := hX2.cell 1
              have y0 := hY.cell 0
              have y1 := hY.cell 1
              simp at x0 x1 y0 y1
              have f0 := Ext.of x0
              have f1 := Ext.of x1
              have f2 := Ext.of y0
              have f3 := Ext.of y1
              clear x0 x1 y0 y1
              have hpi := pieceN_lt hlt
              have hpk := pieceN_lt hlk
              have hfit : fitN c i k = (decide ((pieceN c i : Int) ≠ (pieceN c k : Int)) && meets c (fin c ⟨(pieceN c i : Int), ti⟩) (beg c ⟨(pieceN c k : Int), tk⟩)) := fitN_at hsi hsk
              by_cases hpp : (pieceN c i : Int) = (pieceN c k : Int)
              · have d6 : ((pieceN c i : Int) != (pieceN c k : Int)) = false := by simpa using hpp
                rw [hpp] at hfit
                simp at hfit
                have HF := Lib.hid hfit
                have HPP := Lib.hid hpp
                clear hfit hpp
                refine wp_region_ext (by kernel_rfl) (by kernel_rfl) ?_
                repeat (go_big_quiet_step (fail))
                refine wpQuiet_nil ?_
                intro _ hw'
                obtain ⟨xr, hw''⟩ := hw'
                subst hw''
                have hN3 := hN2.call xr.h
                have hX3 := hX2.call xr.h
                rw [← fitTo_no HF.out] at hN3
                go_wp2
                go_roundw
                case rel => exact ⟨k + 1, by omega, by go_num, hN3, hX3⟩
                case measure => (simp [intOf]; try omega)
              · have d6 : ((pieceN c i : Int) != (pieceN c k : Int)) = true := by simpa using hpp
                have HM : Hid (fitN c i k = meets c (fin c ⟨(pieceN c i : Int), ti⟩) (beg c ⟨(pieceN c k : Int), tk⟩)) := by
                  rw [Hid, hfit]
                  simp [hpp]
                have HPP := Lib.hid hpp
                clear hfit hpp
                have HA1 : Hid (∀ y : Ext w3, Calls Try.prog 75 #[.pointer (some ⟨g0 + 2, 0, none⟩), .agg #[.int .i64 (pieceN c i : Int), .bool ti], .int .i64 1] y.w fun r w' => r = .returned (enV (fin c ⟨(pieceN c i : Int), ti⟩)) ∧ ∃ z : Ext w3, w' = z.w) := fun y => ext_call y (end_ok c (pieceN c i) ti true (g0 + 2) w.heap.size pc g0 (g0 + 1) pa _ _ y.w (hN2.tc.call y.h) (hps1 _ (hN2.call y.h).bl) (by have := (hN2.call y.h).bl.size; omega) hpi n8)
                have HA2 : Hid (∀ y : Ext w3, Calls Try.prog 75 #[.pointer (some ⟨g0 + 2, 0, none⟩), .agg #[.int .i64 (pieceN c k : Int), .bool tk], .int .i64 0] y.w fun r w' => r = .returned (enV (beg c ⟨(pieceN c k : Int), tk⟩)) ∧ ∃ z : Ext w3, w' = z.w) := fun y => ext_call y (end_ok c (pieceN c k) tk false (g0 + 2) w.heap.size pc g0 (g0 + 1) pa _ _ y.w (hN2.tc.call y.h) (hps1 _ (hN2.call y.h).bl) (by have := (hN2.call y.h).bl.size; omega) hpk n8)
                have hb1 := (bd_at h0 hpi ti).2
                have hb2 := (bd_at h0 hpk tk).1
                generalize fin c ⟨(pieceN c i : Int), ti⟩ = ex at *
                generalize beg c ⟨(pieceN c k : Int), tk⟩ = ey at *
                have HA3 : Hid (∀ y : Ext w3, Calls Try.prog 74 #[.pointer (some ⟨g0 + 2, 0, none⟩), enV ex, enV ey] y.w fun r w' => r = .returned (.bool (meets c ex ey)) ∧ ∃ z : Ext w3, w' = z.w) := fun y => ext_call y (meets_ok c ex ey (g0 + 2) pc g0 (g0 + 1) pa _ _ y.w (hN2.tc.call y.h) hb1 hb2)
                rw [← HM.out] at HA3
                clear hb1 hb2
                cases hf : fitN c i k
                · rw [hf] at HA3
                  have HF := Lib.hid hf
                  clear hf HM
                  refine wp_region_ext (by kernel_rfl) (by kernel_rfl) ?_
                  repeat (go_big_quiet_step ((first | (go_at_call 75; with_reducible exact HA1.out _) | (go_at_call 75; with_reducible exact HA2.out _) | (go_at_call 74; with_reducible exact HA3.out _))))
                  refine wpQuiet_nil ?_
                  intro _ hw'
                  obtain ⟨xr, hw''⟩ := hw'
                  subst hw''
                  have hN3 := hN2.call xr.h
                  have hX3 := hX2.call xr.h
                  rw [← fitTo_no HF.out] at hN3
                  go_wp2
                  go_roundw
                  case rel => exact ⟨k + 1, by omega, by go_num, hN3, hX3⟩
                  case measure => (simp [intOf]; try omega)
                · rw [hf] at HA3
                  have HF := Lib.hid hf
                  clear hf HM
                  refine wp_region_ext (by kernel_rfl) (by kernel_rfl) ?_
                  repeat (go_big_quiet_step ((first | (go_at_call 75; with_reducible exact HA1.out _) | (go_at_call 75; with_reducible exact HA2.out _) | (go_at_call 74; with_reducible exact HA3.out _))))
                  refine wpQuiet_nil ?_
                  intro _ hw'
                  obtain ⟨xr, hw''⟩ := hw'
                  subst hw''
                  have hN3 := hN2.call xr.h
                  have hX3 := hX2.call xr.h
                  have z1 := hN3.tc.frozen (5 + i * 16 + k)
                  have c1 := hN3.tc.at_ (i := i) (k := k) (by omega) (by omega)
                  have k1 : (i : Int) < 16 := by omega
                  have k2 : (k : Int) < 16 := by omega
                  have e1 : IntKind.i64.wrap (i : Int) = i := wrap_id _ (by omega) (by omega)
                  have e2 : IntKind.i64.wrap (k : Int) = k := wrap_id _ (by omega) (by omega)
                  have hN4 := hN3.put (x := 1) (by omega) (by omega) (fun a b _ _ => fitTo_yes HF.out a b)
                  have hX4 := hX3.far (p := ⟨g0 + 2, 5 + i * 16 + k, none⟩) (by show xb ≠ g0 + 2; omega) (.int .i64 1)
                  go_wp2
                  go_roundw
                  case rel => exact ⟨k + 1, by omega, by go_num, hN4, hX4⟩
                  case measure => (simp [intOf]; try omega)
            · obtain rfl : k = (stepsOf c).length := by omega
              have d5 : decide ((stepsOf c).length < (stepsOf c).length) = false := by simp
              rw [fitTo_row] at hNk
              go_wp2
              go_roundw
              case rel => exact ⟨i + 1, by omega, by go_num, hNk⟩
              case measure => (simp [intOf]; try omega)
        · obtain rfl : i = (stepsOf c).length := by omega
          have d4 : decide ((stepsOf c).length < (stepsOf c).length) = false := by simp
          rw [fitTo_all] at hNi
          have hfin := hNi
          go_wp2
          go_ret
          obtain ⟨pb, po, p0, rfl, hpb, -, -⟩ := (hps1 wr hfin.bl).at_ n1
          obtain ⟨hsl1, hsl2⟩ := hfin.own.lt sb rfl
          have hgl := hfin.sz
          refine ⟨⟨wr.heap.size, g0 + 2, pb, po, pc, sb, so, cap, g0, g0 + 1⟩, rfl, ⟨⟨hfin.tc, ?_, ?_, Nat.le_refl _, by dsimp only; omega, by dsimp only; omega, by dsimp only; omega, by dsimp only; omega, by dsimp only; omega, by dsimp only; omega, by dsimp only; omega, by dsimp only; omega, by dsimp only; omega, by dsimp only; omega, by dsimp only; omega, by dsimp only; omega, h0, ?_, hcap.2⟩, ⟨_, hfin.ma, fun a b v h => by cases h⟩, ⟨_, hfin.mu, fun a b v h => by cases h⟩⟩, rfl, hge, by dsimp only; omega, hfin.bl⟩
          · intro k p hp' j hj
            obtain ⟨b, off, x, h1, h2, h3, h4⟩ := (hps1 wr hfin.bl).at_ (List.getElem?_eq_some_iff.1 hp').1
            injection h1 with h1
            injection h1 with h1 h5
            subst h1 h5
            rw [hp'] at h3
            injection h3 with h3
            subst h3
            exact h4 j hj
          · intro k s hs j hj
            obtain ⟨b, off, x, h1, h2, h3, h4⟩ := (Arr.of_own hfin.own).at_ (List.getElem?_eq_some_iff.1 hs).1
            injection h1 with h1
            injection h1 with h1 h5
            subst h1 h5
            rw [hs] at h3
            injection h3 with h3
            subst h3
            exact h4 j hj
          · exact (hps1 wr hfin.bl).len_.2
end Go.Proofs.Ytjjjockfppomdaa
