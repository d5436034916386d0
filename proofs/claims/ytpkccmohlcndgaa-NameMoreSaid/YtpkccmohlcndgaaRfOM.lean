/- Contract of the reference: AllSides. Contract of the reference: Cheapest. Contracts of the reference: Sides, Least. -/
import Derived.Test.YtpkccmohlcndgaaRfL
import Derived.Test.YtpkccmohlcndgaaRfFM
import Derived.Test.YtpkccmohlcndgaaPlB
namespace Go.Proofs.Ytpkccmohlcndgaa
open Go.RowKit Go.Shelf
set_option linter.unusedVariables false

/-- the first names of a side by bits -/
def sideTo (s n : Nat) : List Nat := (List.range n).filter (bitB s)
theorem sideTo_yes {s n : Nat} (h : bitB s n = true) : sideTo s (n + 1) = sideTo s n ++ [n] := by
  unfold sideTo
  rw [List.range_succ, List.filter_append]
  simp [h]
theorem sideTo_no {s n : Nat} (h : bitB s n = false) : sideTo s (n + 1) = sideTo s n := by
  unfold sideTo
  rw [List.range_succ, List.filter_append]
  simp [h]
theorem sideTo_len (s n : Nat) : (sideTo s n).length ≤ n := by
  unfold sideTo
  exact Nat.le_trans (List.length_filter_le _ _) (by simp)
theorem intL_nonneg (m : List Nat) : ∀ x ∈ intL m, 0 ≤ x := fun x hx => by
  obtain ⟨u, -, rfl⟩ := List.mem_map.1 hx
  omega
theorem intL_in (m : List Nat) (u : Nat) : (intL m).contains (u : Int) = m.contains u := by
  rw [contains_nat (intL_nonneg m)]
  unfold intL
  rw [nat_map]
theorem all_nat {p : Nat → Bool} {q : Int → Bool} {m : List Int} (h0 : ∀ x ∈ m, 0 ≤ x) (h : ∀ u : Nat, q (u : Int) = p u) : m.all q = (natL m).all p := by
  unfold natL
  rw [List.all_map, Bool.eq_iff_iff, List.all_eq_true, List.all_eq_true]
  refine forall_congr' fun x => forall_congr' fun hx => ?_
  have := h0 x hx
  rw [Function.comp, ← h, show ((x.toNat : Nat) : Int) = x by omega]
theorem bit_tmod (s n : Nat) : (((s : Int) / 2 ^ n).tmod 2 == 1) = bitB s n := by
  have e : ((s : Int) / 2 ^ n) = ((s / 2 ^ n : Nat) : Int) := by simp
  unfold bitB
  rw [e]
  generalize s / 2 ^ n = q
  rw [Int.tmod_eq_emod_of_nonneg (by omega)]
  rw [Bool.eq_iff_iff, beq_iff_eq, beq_iff_eq]
  omega
theorem sideI_isSide {l : NL} (g : Good l) (side : List Nat) : sideI l (intL side) = isSideB l side := by
  unfold sideI isSideB
  rw [all_nat (p := fun u => side.contains u) (fun x hx => by have := (rises_lo g.ra x hx).1; omega) (fun u => intL_in side u), all_nat (p := fun u => !side.contains u) (fun x hx => by have := (rises_lo g.rb x hx).1; omega) (fun u => by rw [intL_in])]
set_option maxRecDepth 100000 in
set_option maxHeartbeats 3200000 in
theorem rallSides_ok (v : Value) (l : NL) (w : World) (hg : Good l) (h9 : l.N ≤ 9) (hv : NLV w w.heap.size v l) :
    Calls Try.prog 79 #[v] w fun r w' => ∃ A cap, r = .returned (.slice A (allSides l).length cap) ∧ LLi w' (.slice A (allSides l).length cap) ((allSides l).map intL) ∧ Below w.heap.size w w' := by
  obtain ⟨ka, kc, aa, ac, ba, bc, rfl, hna⟩ := hv
  have hC := NB.new hna
  have hB := (Below.refl w.heap.size w).alloc (Nat.le_refl _) (.cells #[.int .i64 l.n, .slice ka l.links.length kc, .slice aa l.left.length ac, .slice ba l.right.length bc] 25)
  go_enter Try.func79, Try.ntmps79
  go_upto_region 1 with (fail)
  generalize hW : w.alloc (.cells #[.int .i64 l.n, .slice ka l.links.length kc, .slice aa l.left.length ac, .slice ba l.right.length bc] 25) = W at *
  clear hW
  have hnN := hg.nN
  have hblk := hC.blk
  rw [← hnN] at hblk
  clear hnN
  have hN2 : 0 < l.N := by have := hg.two; have := hg.nN; omega
  have HSI := Lib.hid (sideI_isSide hg)
  have HE : Hid (allTo l (2 ^ l.N) = allSides l) := rfl
  have HS := Lib.hid (allTo_succ l)
  have HZ : Hid (allTo l 0 = []) := rfl
  have hp : (2 : Nat) ^ l.N ≤ 512 := Nat.pow_le_pow_right (by omega) h9
  have hpi : ((2 : Int) ^ l.N) = ((2 ^ l.N : Nat) : Int) := by simp
  obtain ⟨P, hP⟩ : ∃ P, P = 2 ^ l.N := ⟨_, rfl⟩
  rw [← hP] at hp hpi HE
  have wsh : wrap64 ((2 : Int) ^ l.N) = (P : Int) := by rw [hpi]; exact IntWalk.wrap64_in _ ⟨by omega, by omega⟩
  clear hP hpi
  obtain ⟨AT, hAT⟩ : ∃ AT, AT = allTo l := ⟨_, rfl⟩
  rw [← hAT] at HE HS HZ
  clear hAT
  go_wp2
  go_loopw [3, 4] (fun sv i wr => ∃ (s : Nat) (A : Option Addr) (cap : Nat) (xs : List VL), s ≤ P ∧ i = .int .i64 s ∧ sv = .slice A xs.length cap ∧ Hid (xs.map (·.2) = (AT s).map intL) ∧ xs.length ≤ s ∧ OwnL wr W.heap.size (.slice A xs.length cap) xs ∧ Below W.heap.size W wr) (fun _ i _ => P - (intOf i).toNat)
  case atStart => exact ⟨0, none, 0, [], Nat.zero_le _, rfl, rfl, by rw [Hid, HZ.out]; rfl, Nat.le_refl _, ⟨World.ownsRow_nil _ _ _ _, fun x hx => by cases hx⟩, Below.refl _ _⟩
  case round =>
    obtain ⟨s, A, cap, xs, hs, rfl, rfl, hxs, hxl, hown, hbr⟩ := hrel
    obtain ⟨k0, k1, k2, k3⟩ := (hblk.call hbr).c4
    by_cases hlt : s < P
    · have d1 : decide (s < P) = true := decide_eq_true hlt
      have d1' : decide ((s : Int) < (P : Int)) = true := decide_eq_true (by omega)
      obtain ⟨wo, rfl⟩ : ∃ wo : World, wo = wr := ⟨_, rfl⟩
      go_upto_region 5 with (fail)
      rw [wsh]
      go_wp2
      go_loopw [5, 6] (fun sv i wr => ∃ (n : Nat) (A2 : Option Addr) (cap2 : Nat), n ≤ l.N ∧ i = .int .i64 n ∧ sv = .slice A2 (sideTo s n).length cap2 ∧ wr.ownsRow wo.heap.size 3 1 (.slice A2 (sideTo s n).length cap2) (sideTo s n).length ((intL (sideTo s n)).map (Value.int .i64)) ∧ Below wo.heap.size wo wr) (fun _ i _ => l.N - (intOf i).toNat)
      case atStart => exact ⟨0, none, 0, Nat.zero_le _, rfl, rfl, by simpa [sideTo, intL] using World.ownsRow_nil _ _ _ _, Below.refl _ _⟩
      case round =>
        clear k0 k1 k2 k3
        obtain ⟨n, A2, cap2, hn, rfl, rfl, hownr, hbq⟩ := hrel
        have hbw := hbr.trans (hbq.mono hbr.size)
        have hCw := hC.call hbw
        obtain ⟨k0, k1, k2, k3⟩ := (hblk.call hbw).c4
        have hsl := sideTo_len s n
        by_cases hnl : n < l.N
        · have d2 : decide (n < l.N) = true := decide_eq_true hnl
          have d2' : decide ((n : Int) < (l.N : Int)) = true := decide_eq_true (by omega)
          have htm := bit_tmod s n
          cases hb : bitB s n
          · rw [hb] at htm
            have hst := sideTo_no hb
            rw [← hst] at hownr ⊢
            clear hb hst
            go_wp2
            go_roundw
            case rel => exact ⟨n + 1, _, _, by omega, by go_num, rfl, hownr, hbq⟩
            case measure => (simp [intOf]; try omega)
          · rw [hb] at htm
            have HST := Lib.hid (sideTo_yes hb)
            have hszq := hbq.size
            clear hb
            generalize hn0 : (sideTo s n).length = m at *
            have HN0 := Lib.hid hn0
            clear hn0
            obtain ⟨-, hnc, hncm⟩ := own_cap hownr
            go_wp2_with (at_builtin; refine wpList_app1 slT_int rfl (.tmp 25) (.tmp 27) rfl (A := A2) (cc := cap2) rfl ⟨cap2, hownr, .inl rfl⟩ rfl rfl one_1 hszq ?_ ?_ ?_)
            any_goals omega
            intro v4 w4 hown4 hb4 hkeep4
            have hown5 : w4.ownsRow wo.heap.size 3 1 v4 (sideTo s (n + 1)).length ((intL (sideTo s (n + 1))).map (Value.int .i64)) := by
              rw [HST.out, intL_append, List.map_append, List.length_append, HN0.out]
              exact hown4
            have hb5 := hbq.trans hb4
            obtain ⟨A4, c4, rfl⟩ := own_form hown5
            clear hown4 hb4 hkeep4 hownr hbq hbw
            go_wp2
            go_roundw
            case rel => exact ⟨n + 1, _, _, by omega, by go_num, rfl, hown5, hb5⟩
            case measure => (simp [intOf]; try omega)
        · obtain rfl : n = l.N := by omega
          have d2 : decide (l.N < l.N) = false := by simp
          rw [show sideTo s l.N = sideB l.N s from rfl] at hownr ⊢
          have hil : (intL (sideB l.N s)).length = (sideB l.N s).length := by simp [intL]
          have harr : Arr wr wr.heap.size 1 (.slice A2 (sideB l.N s).length cap2) (intL (sideB l.N s)) icell := Arr.of_own (by rw [flat_int, hil]; exact hownr)
          have hr := rside_ok _ _ l (intL (sideB l.N s)) wr hCw.v harr
          rw [HSI.out] at hr
          have hst := HS.out s
          have hownw := hown.call hbq
          have hpos : isSideB l (sideB l.N s) = true → 0 < (sideB l.N s).length := fun h => by
            have h1 := hg.la
            unfold isSideB at h
            rw [Bool.and_eq_true, List.all_eq_true] at h
            have h0 : 0 < (natL l.left).length := by unfold natL; rw [List.length_map]; exact h1
            have := h.1 _ (List.getElem_mem h0)
            exact List.length_pos_of_mem (List.contains_iff_mem.1 this)
          cases hb : isSideB l (sideB l.N s)
          · rw [hb] at hr hst
            rw [if_neg (by simp), List.append_nil] at hst
            have HX : Hid (xs.map (·.2) = (AT (s + 1)).map intL) := by rw [Hid, hst, hxs.out]
            clear hb hst hxs hil hown hownr hpos harr hbq hsl
            generalize (sideB l.N s).length = m at *
            go_upto_region 11 with (fail)
            rw [hg.nN] at k0
            go_wp2_with fail
            refine hr.mono ?_
            rintro e w2 ⟨rfl, hb2⟩
            have hown2 := hownw.call hb2
            have hb3 := hbw.trans (hb2.mono hbw.size)
            clear hr
            go_wp2
            go_roundw
            case rel => exact ⟨s + 1, _, _, xs, by omega, by go_num, rfl, HX, by omega, hown2, hb3⟩
            case measure => (simp [intOf]; try omega)
          · rw [hb] at hr hst
            rw [if_pos rfl] at hst
            have hps := hpos hb
            have hnew : OwnI wr W.heap.size (.slice A2 (sideB l.N s).length cap2) (intL (sideB l.N s)) := by
              have := OwnI.of (base' := W.heap.size) (show wr.ownsRow wo.heap.size 3 1 (.slice A2 (sideB l.N s).length cap2) (intL (sideB l.N s)).length _ by rw [hil]; exact hownr) (by omega) hbr.size
              exact this
            have HX : Hid ((xs ++ [((.slice A2 (sideB l.N s).length cap2 : Value), intL (sideB l.N s))]).map (·.2) = (AT (s + 1)).map intL) := by
              rw [Hid, hst, List.map_append, List.map_append, hxs.out]
              rfl
            clear hb hst hxs hil hown hownr hpos harr hbq hsl hps
            generalize (sideB l.N s).length = m at *
            generalize intL (sideB l.N s) = gl at *
            go_upto_region 11 with (fail)
            rw [hg.nN] at k0
            go_wp2_with fail
            refine hr.mono ?_
            rintro e w2 ⟨rfl, hb2⟩
            replace hownw := hownw.call hb2
            replace hnew := hnew.call hb2
            replace hbw := hbw.trans (hb2.mono hbw.size)
            have hszw := hbw.size
            clear hr hb2 k0 k1 k2 k3
            obtain ⟨-, hnc, hncm⟩ := own_cap hownw.1
            go_wp2_with (at_builtin; refine wpList_app1 slT_ll rfl (.tmp 32) (.tmp 34) rfl (A := A) (cc := cap) rfl ⟨cap, hownw.1, .inl rfl⟩ rfl rfl (by simp [Value.oneCell']) hszw ?_ ?_ ?_)
            any_goals omega
            intro v4 w4 hown4 hb4 hkeep4
            have hown6 := hownw.app hnew hown4 hkeep4
            have hb6 := hbw.trans hb4
            have hl6 : (xs ++ [((.slice A2 m cap2 : Value), gl)]).length = xs.length + 1 := by simp
            obtain ⟨A6, c6, rfl⟩ := own_form hown6.1
            clear hown4 hb4 hkeep4 hownw hnew hbw
            generalize xs ++ [((.slice A2 m cap2 : Value), gl)] = ys at *
            go_wp2
            go_roundw
            case rel => exact ⟨s + 1, _, _, ys, by omega, by go_num, rfl, HX, by omega, hown6, hb6⟩
            case measure => (simp [intOf]; try omega)
    · obtain rfl : s = P := by omega
      have d1 : decide (s < s) = false := by simp
      have hli := hown.lli
      have hln : xs.length = (allSides l).length := by rw [← List.length_map (f := (·.2)), hxs.out, HE.out, List.length_map]
      rw [hxs.out, HE.out] at hli
      clear hown hxs
      rw [hln] at hli ⊢
      clear hln
      go_wp2
      go_ret
      exact ⟨_, _, rfl, hli, hB.trans (hbr.mono hB.size)⟩
end Go.Proofs.Ytpkccmohlcndgaa

namespace Go.Proofs.Ytpkccmohlcndgaa
open Go.RowKit Go.Shelf
set_option linter.unusedVariables false

theorem memS_int (side : List Nat) : memS (intL side) = memB side := by
  funext u
  exact intL_in side u
/-- the cheapest ones of the first sides -/
def cheapTo (l : NL) (k : Nat) : List (List Nat) × Int := ((allSides l).take k).foldl (cheapS l) ([], -1)
theorem cheapTo_succ {l : NL} {k : Nat} {side : List Nat} (h : (allSides l)[k]? = some side) : cheapTo l (k + 1) = cheapS l (cheapTo l k) side := by
  unfold cheapTo
  rw [take_snoc h, List.foldl_append]
  rfl
theorem cheapTo_all (l : NL) : cheapTo l (allSides l).length = cheapAll l := by
  unfold cheapTo cheapAll
  rw [List.take_length]
theorem all_len (l : NL) (h : l.N ≤ 9) : (allSides l).length ≤ 512 := by
  unfold allSides allTo
  refine Nat.le_trans (List.length_filter_le _ _) ?_
  rw [List.length_map, List.length_range]
  exact Nat.pow_le_pow_right (by omega) h
theorem cheap_bound {l : NL} (g : Good l) : ∀ k, -1 ≤ (cheapTo l k).2
  | 0 => by simp [cheapTo]
  | k + 1 => by
    have ih := cheap_bound g k
    rcases Nat.lt_or_ge k (allSides l).length with hk | hk
    · rw [cheapTo_succ (List.getElem?_eq_getElem hk)]
      have := cut_nonneg g (memB (allSides l)[k])
      unfold cheapS costOf
      split
      · dsimp only; omega
      · split <;> exact ih
    · have : cheapTo l (k + 1) = cheapTo l k := by unfold cheapTo; rw [List.take_of_length_le hk, List.take_of_length_le (by omega)]
      rw [this]
      exact ih
set_option maxRecDepth 100000 in
set_option maxHeartbeats 3200000 in
theorem rcheapest_ok (v : Value) (l : NL) (w : World) (hg : Good l) (h9 : l.N ≤ 9) (hv : NLV w w.heap.size v l) :
    Calls Try.prog 70 #[v] w fun r w' => ∃ A cap, r = .returned (.tuple #[.slice A (cheapAll l).1.length cap, .int .i64 (cheapAll l).2]) ∧ LLi w' (.slice A (cheapAll l).1.length cap) ((cheapAll l).1.map intL) ∧ Below w.heap.size w w' := by
  obtain ⟨ka, kc, aa, ac, ba, bc, rfl, hna⟩ := hv
  have hC := NB.new hna
  have hB := (Below.refl w.heap.size w).alloc (Nat.le_refl _) (.cells #[.int .i64 l.n, .slice ka l.links.length kc, .slice aa l.left.length ac, .slice ba l.right.length bc] 25)
  go_enter Try.func70, Try.ntmps70
  go_upto_region 1 with (fail)
  generalize hW : w.alloc (.cells #[.int .i64 l.n, .slice ka l.links.length kc, .slice aa l.left.length ac, .slice ba l.right.length bc] 25) = W at *
  clear hW
  have ha := rallSides_ok _ l W hg h9 hC.v
  have hal := all_len l h9
  obtain ⟨k0, k1, k2, k3⟩ := hC.blk.c4
  go_wp2_with fail
  refine ha.mono ?_
  rintro e w1 ⟨sA, sc, rfl, hS, hb⟩
  replace hB := hB.trans (hb.mono hB.size)
  replace hC := hC.call hb
  clear ha k0 k1 k2 k3 hb
  have HSU := Lib.hid (fun (k : Nat) (side : List Nat) (h : (allSides l)[k]? = some side) => cheapTo_succ h)
  have HALL := Lib.hid (cheapTo_all l)
  have HBD := Lib.hid (cheap_bound hg)
  have HZ : Hid (cheapTo l 0 = ([], -1)) := rfl
  have HCO := Lib.hid (fun side => show cutC l.L (memS (intL side)) = costOf l side by rw [memS_int]; rfl)
  obtain ⟨AS, hAS⟩ : ∃ AS, AS = allSides l := ⟨_, rfl⟩
  rw [← hAS] at HSU HALL hS hal ⊢
  obtain ⟨CT, hCT⟩ : ∃ CT, CT = cheapTo l := ⟨_, rfl⟩
  rw [← hCT] at HSU HALL HBD HZ
  clear hAS hCT
  go_wp2
  go_loopw [4, 5, 7] (fun sv bv i wr => ∃ (k : Nat) (A : Option Addr) (cap : Nat) (xs : List VL), k ≤ AS.length ∧ i = .int .i64 k ∧ bv = .int .i64 (CT k).2 ∧ sv = .slice A xs.length cap ∧ Hid (xs.map (·.2) = (CT k).1.map intL) ∧ xs.length ≤ k ∧ wr.ownsRow w1.heap.size 23 1 (.slice A xs.length cap) xs.length (xs.map (·.1)) ∧ (∀ x ∈ xs, Arr w1 w1.heap.size 1 x.1 x.2 icell) ∧ Below w1.heap.size w1 wr) (fun _ _ i _ => AS.length - (intOf i).toNat)
  case atStart => exact ⟨0, none, 0, [], Nat.zero_le _, rfl, by rw [HZ.out], rfl, by rw [Hid, HZ.out]; rfl, Nat.le_refl _, World.ownsRow_nil _ _ _ _, fun x hx => (by cases hx), Below.refl _ _⟩
  case round =>
    obtain ⟨k, A, cap, xs, hk, rfl, rfl, rfl, hxs, hxl, hown, hel, hbr⟩ := hrel
    have hCr := hC.call hbr
    have hSr := hS.call hbr
    obtain ⟨k0, k1, k2, k3⟩ := hCr.blk.c4
    by_cases hlt : k < AS.length
    · have d1 : decide (k < AS.length) = true := decide_eq_true hlt
      have d1' : decide ((k : Int) < (AS.length : Int)) = true := decide_eq_true (by omega)
      have hki : (k : Int) < (AS.length : Int) := by omega
      obtain ⟨side, hsd⟩ : ∃ side, AS[k]? = some side := ⟨_, List.getElem?_eq_getElem hlt⟩
      obtain ⟨sb, so, eA, ec, rfl, hsb, c0, hE⟩ := hSr.at_ (i := k) (l := intL side) (by rw [List.getElem?_map, hsd]; rfl)
      have hE1 : Arr w1 w1.heap.size 1 (.slice eA (intL side).length ec) (intL side) icell := by
        obtain ⟨sb2, so2, eA2, ec2, hq, hsb2, c02, hE2⟩ := hS.at_ (i := k) (l := intL side) (by rw [List.getElem?_map, hsd]; rfl)
        obtain ⟨rfl, rfl⟩ : sb = sb2 ∧ so = so2 := by simpa using hq
        have h1 := hbr.cell (p := ⟨sb, so + k, none⟩) hsb2
        rw [c0, c02] at h1
        injection h1 with h1
        injection h1 with h1 _ h2
        subst h1 h2
        exact hE2
      have hcut := fun W' (hb : Below wr.heap.size wr W') => rcut_ok _ _ l (intL side) W' hg (hCr.call hb).v (hE.call hb)
      have HST := Lib.hid (HSU.out k side hsd)
      have hbd := HBD.out k
      have hcn : 0 ≤ costOf l side := cut_nonneg hg _
      simp only [HCO.out] at hcut
      have f0 := Ext.of k0
      have f1 := Ext.of k1
      have f2 := Ext.of k2
      have f3 := Ext.of k3
      have f4 := Ext.of c0
      go_upto_region 7 with (fail)
      have hmem : ((.slice eA (intL side).length ec : Value), intL side).2 = intL side := rfl
      obtain ⟨c, hc⟩ : ∃ c, c = costOf l side := ⟨_, rfl⟩
      rw [← hc] at hcn hcut
      obtain ⟨p, hp⟩ : ∃ p, p = CT k := ⟨_, rfl⟩
      rw [← hp] at hxs hbd HST ⊢
      have HCC := Lib.hid hc
      have hcsp : ∀ q : List (List Nat) × Int, CT (k + 1) = q → (CT (k + 1)).1 = q.1 ∧ (CT (k + 1)).2 = q.2 := fun q h => by rw [h]; exact ⟨rfl, rfl⟩
      have hst : CT (k + 1) = if p.2 < 0 ∨ c < p.2 then ([side], c) else if c = p.2 then (p.1 ++ [side], p.2) else p := by rw [HST.out, hc]; rfl
      have HCP := Lib.hid hcsp
      clear hsd hSr hE hc hp hcsp HST
      refine wp_region_schedH (C := fun w' => ∃ x : Ext wr, w' = x.w) [(0, true), (1, true), (2, true), (3, true), (4, true), (5, false), (6, true), (7, true), (8, true), (9, true), (10, true)] (by kernel_rfl) (by kernel_rfl) ⟨⟨(wr).drew, (Below.refl _ wr).drew⟩, rfl⟩ ?_
      refine schedH_q (by rfl) (by rfl) ?_
      intro K hK
      go_big_quiet_op
      go_big_quiet_on
      refine schedH_q (by rfl) (by rfl) ?_
      intro K hK
      go_big_quiet_op
      go_big_quiet_on
      refine schedH_q (by rfl) (by rfl) ?_
      intro K hK
      go_big_quiet_op
      go_big_quiet_on
      refine schedH_q (by rfl) (by rfl) ?_
      intro K hK
      go_big_quiet_op
      go_big_quiet_on
      refine schedH_q (by rfl) (by rfl) ?_
      intro K hK
      go_big_quiet_op
      go_big_quiet_on
      refine schedH_c (by rfl) (by rfl) ?_
      intro K' hK'
      go_wp2_with fail
      refine (hcut wr.drew (Below.refl _ wr).drew).mono ?_
      rintro e w3 ⟨cv, rfl, hcv, hb3⟩
      have hb4 : Below wr.heap.size wr w3 := (Below.refl _ wr).drew.trans hb3
      go_wp2
      refine hK' _ _ ⟨⟨⟨w3, hb4⟩, rfl⟩, ?_⟩
      clear hK' K'
      refine schedH_q (by rfl) (by rfl) ?_
      intro K hK
      go_big_quiet_op
      go_big_quiet_on
      refine schedH_q (by rfl) (by rfl) ?_
      intro K hK
      go_big_quiet_op
      go_big_quiet_on
      refine schedH_q (by rfl) (by rfl) ?_
      intro K hK
      go_big_quiet_op
      go_big_quiet_on
      refine schedH_q (by rfl) (by rfl) ?_
      intro K hK
      go_big_quiet_op
      go_big_quiet_on
      refine schedH_q (by rfl) (by rfl) ?_
      intro K hK
      go_big_quiet_op
      go_big_quiet_on
      refine schedH_nil ?_
      have hown2 := own_call hown hb4
      have hbr2 := hbr.trans (hb4.mono hbr.size)
      have c1 := (hb4.cell (p := ⟨sb, so + k, none⟩) hsb).trans c0
      have hsz := hbr2.size
      clear hown hb3 hb4 hcv hcut f0 f1 f2 f3 f4 k0 k1 k2 k3 c0 hCr
      obtain ⟨pl, pb⟩ := p
      dsimp only at hst hbd hxs ⊢
      by_cases q1 : pb < 0
      · have e1 : decide (pb < 0) = true := decide_eq_true q1
        have e2 : (c == c) = true := by simp
        obtain ⟨hn1, hn2⟩ := HCP.out ([side], c) (by rw [hst, if_pos (.inl q1)])
        dsimp only at hn1 hn2
        have hownz : w3.ownsRow w1.heap.size 23 1 (.slice none 0 0) 0 [] := World.ownsRow_nil _ _ _ _
        obtain ⟨ys, hys⟩ : ∃ ys : List VL, ys = [] ++ [((.slice eA (intL side).length ec : Value), intL side)] := ⟨_, rfl⟩
        clear q1 hst hxs hmem
        obtain ⟨-, hnc, hncm⟩ := own_cap hownz
        go_wp2_with (at_builtin; refine wpList_app1 slT_ll rfl (.tmp 38) (.tmp 43) rfl (A := none) (cc := 0) rfl ⟨0, hownz, .inl rfl⟩ rfl rfl (by simp [Value.oneCell']) hsz ?_ ?_ ?_)
        any_goals omega
        intro v4 w4 hown4 hb4 hkeep4
        have hb6 := hbr2.trans hb4
        have hown6 : w4.ownsRow w1.heap.size 23 1 v4 ys.length (ys.map (·.1)) := by rw [hys, List.length_append, List.map_append]; exact hown4
        have hyl : ys.length ≤ k + 1 := by rw [hys, List.length_append, List.length_singleton]; (try simp only [List.length_nil]); omega
        have hel6 : ∀ x ∈ ys, Arr w1 w1.heap.size 1 x.1 x.2 icell := fun x hx => by
          rw [hys] at hx
          rcases List.mem_append.1 hx with hx | hx
          · first | exact hel x hx | cases hx
          · obtain rfl := List.mem_singleton.1 hx; exact hE1
        have HY : Hid (ys.map (·.2) = (CT (k + 1)).1.map intL) := by rw [Hid, hn1, hys, List.map_append, List.map_nil, List.nil_append]; (try rw [List.map_append]); rfl
        obtain ⟨A6, c6, rfl⟩ := own_form hown6
        clear hown4 hb4 hkeep4 hownz hown2 hel hys hn1
        go_wp2
        go_roundw
        case rel => exact ⟨k + 1, _, _, ys, by omega, by go_num, by rw [hn2], rfl, HY, hyl, hown6, hel6, hb6⟩
        case measure => (simp [intOf]; try omega)
      · have e1 : decide (pb < 0) = false := decide_eq_false q1
        by_cases q2 : c < pb
        · have e3 : decide (c < pb) = true := decide_eq_true q2
          have e2 : (c == c) = true := by simp
          obtain ⟨hn1, hn2⟩ := HCP.out ([side], c) (by rw [hst, if_pos (.inr q2)])
          dsimp only at hn1 hn2
          have hownz : w3.ownsRow w1.heap.size 23 1 (.slice none 0 0) 0 [] := World.ownsRow_nil _ _ _ _
          obtain ⟨ys, hys⟩ : ∃ ys : List VL, ys = [] ++ [((.slice eA (intL side).length ec : Value), intL side)] := ⟨_, rfl⟩
          clear q1 q2 hst hxs hmem
          obtain ⟨-, hnc, hncm⟩ := own_cap hownz
          go_wp2_with (at_builtin; refine wpList_app1 slT_ll rfl (.tmp 38) (.tmp 43) rfl (A := none) (cc := 0) rfl ⟨0, hownz, .inl rfl⟩ rfl rfl (by simp [Value.oneCell']) hsz ?_ ?_ ?_)
          any_goals omega
          intro v4 w4 hown4 hb4 hkeep4
          have hb6 := hbr2.trans hb4
          have hown6 : w4.ownsRow w1.heap.size 23 1 v4 ys.length (ys.map (·.1)) := by rw [hys, List.length_append, List.map_append]; exact hown4
          have hyl : ys.length ≤ k + 1 := by rw [hys, List.length_append, List.length_singleton]; (try simp only [List.length_nil]); omega
          have hel6 : ∀ x ∈ ys, Arr w1 w1.heap.size 1 x.1 x.2 icell := fun x hx => by
            rw [hys] at hx
            rcases List.mem_append.1 hx with hx | hx
            · first | exact hel x hx | cases hx
            · obtain rfl := List.mem_singleton.1 hx; exact hE1
          have HY : Hid (ys.map (·.2) = (CT (k + 1)).1.map intL) := by rw [Hid, hn1, hys, List.map_append, List.map_nil, List.nil_append]; (try rw [List.map_append]); rfl
          obtain ⟨A6, c6, rfl⟩ := own_form hown6
          clear hown4 hb4 hkeep4 hownz hown2 hel hys hn1
          go_wp2
          go_roundw
          case rel => exact ⟨k + 1, _, _, ys, by omega, by go_num, by rw [hn2], rfl, HY, hyl, hown6, hel6, hb6⟩
          case measure => (simp [intOf]; try omega)
        · have e3 : decide (c < pb) = false := decide_eq_false q2
          rw [if_neg (by omega)] at hst
          by_cases q3 : c = pb
          · rw [if_pos q3] at hst
            obtain ⟨hn1, hn2⟩ := HCP.out _ hst
            dsimp only at hn1 hn2
            rw [← q3] at hn2 e1 e3 ⊢
            have e2 : (c == c) = true := by simp
            have hownz := hown2
            obtain ⟨ys, hys⟩ : ∃ ys : List VL, ys = xs ++ [((.slice eA (intL side).length ec : Value), intL side)] := ⟨_, rfl⟩
            clear q1 q2 q3 hst hmem
            obtain ⟨-, hnc, hncm⟩ := own_cap hownz
            go_wp2_with (at_builtin; refine wpList_app1 slT_ll rfl (.tmp 38) (.tmp 43) rfl (A := A) (cc := cap) rfl ⟨cap, hownz, .inl rfl⟩ rfl rfl (by simp [Value.oneCell']) hsz ?_ ?_ ?_)
            any_goals omega
            intro v4 w4 hown4 hb4 hkeep4
            have hb6 := hbr2.trans hb4
            have hown6 : w4.ownsRow w1.heap.size 23 1 v4 ys.length (ys.map (·.1)) := by rw [hys, List.length_append, List.map_append]; exact hown4
            have hyl : ys.length ≤ k + 1 := by rw [hys, List.length_append, List.length_singleton]; (try simp only [List.length_nil]); omega
            have hel6 : ∀ x ∈ ys, Arr w1 w1.heap.size 1 x.1 x.2 icell := fun x hx => by
              rw [hys] at hx
              rcases List.mem_append.1 hx with hx | hx
              · first | exact hel x hx | cases hx
              · obtain rfl := List.mem_singleton.1 hx; exact hE1
            have HY : Hid (ys.map (·.2) = (CT (k + 1)).1.map intL) := by rw [Hid, hn1, hys, List.map_append, hxs.out]; (try rw [List.map_append]); rfl
            obtain ⟨A6, c6, rfl⟩ := own_form hown6
            clear hown4 hb4 hkeep4 hownz hown2 hel hys hn1
            go_wp2
            go_roundw
            case rel => exact ⟨k + 1, _, _, ys, by omega, by go_num, by rw [hn2], rfl, HY, hyl, hown6, hel6, hb6⟩
            case measure => (simp [intOf]; try omega)
          · rw [if_neg q3] at hst
            obtain ⟨hn1, hn2⟩ := HCP.out _ hst
            dsimp only at hn1 hn2
            have e2 : (c == pb) = false := by simpa using q3
            have HY : Hid (xs.map (·.2) = (CT (k + 1)).1.map intL) := by rw [Hid, hn1, hxs.out]
            clear q1 q2 q3 hst hmem hxs hn1
            go_wp2
            go_roundw
            case rel => exact ⟨k + 1, _, _, xs, by omega, by go_num, by rw [hn2], rfl, HY, by omega, hown2, hel, hbr2⟩
            case measure => (simp [intOf]; try omega)
    · obtain rfl : k = AS.length := by omega
      have d1 : decide (AS.length < AS.length) = false := by simp
      have hln : xs.length = (cheapAll l).1.length := by rw [← List.length_map (f := (·.2)), hxs.out, HALL.out, List.length_map]
      have hli : LLi wr (.slice A xs.length cap) ((cheapAll l).1.map intL) := by
        refine ⟨xs, by rw [hxs.out, HALL.out], ?_, fun x hx => ((hel x hx).below hbr).more hbr.size⟩
        refine Arr.of_own (base := w1.heap.size) (e := 23) ?_
        have : xs.flatMap (cellsOf 1 vlcell) = xs.map (·.1) := by
          clear hown hel hxs hln hxl
          induction xs with
          | nil => rfl
          | cons x r ih => rw [List.flatMap_cons, ih]; rfl
        rw [this]
        exact hown
      rw [HALL.out]
      rw [hln] at hli ⊢
      clear hown hel hxs hln hxl
      go_wp2
      go_ret2
      exact ⟨_, _, rfl, hli, hB.trans (hbr.mono hB.size)⟩
end Go.Proofs.Ytpkccmohlcndgaa

namespace Go.Proofs.Ytpkccmohlcndgaa
open Go.RowKit Go.Shelf
set_option linter.unusedVariables false

/-- on which side a name is in all cheapest sides, as the reference counts -/
def refAt (all : List (List Nat)) (u : Nat) : Int := if countIn all u = all.length then 1 else if countIn all u = 0 then -1 else 0
def refTo (all : List (List Nat)) (n : Nat) : List Int := (List.range n).map (refAt all)
theorem refTo_succ (all : List (List Nat)) (n : Nat) : refTo all (n + 1) = refTo all n ++ [refAt all n] := by
  unfold refTo
  rw [List.range_succ, List.map_append, List.map_singleton]
theorem refTo_len (all : List (List Nat)) (n : Nat) : (refTo all n).length = n := by simp [refTo]
theorem refTo_all (l : NL) : refTo (cheapAll l).1 l.N = refSides l := rfl
theorem countIn_le (all : List (List Nat)) (u : Nat) : countIn all u ≤ all.length := List.countP_le_length
theorem countIn_snoc {all : List (List Nat)} {k u : Nat} {s : List Nat} (h : all[k]? = some s) : countIn (all.take (k + 1)) u = countIn (all.take k) u + if s.contains u = true then 1 else 0 := by
  unfold countIn
  rw [take_snoc h, List.countP_append, List.countP_singleton]
theorem cheap_len (l : NL) (h : l.N ≤ 9) : (cheapAll l).1.length ≤ 512 := by
  have key : ∀ ls : List (List Nat), (ls.foldl (cheapS l) ([], -1)).1.length ≤ ls.length := by
    refine snoc_ind (by simp) fun ls s ih => ?_
    rw [List.foldl_append, List.foldl_cons, List.foldl_nil, List.length_append, List.length_singleton]
    generalize ls.foldl (cheapS l) ([], -1) = p at *
    unfold cheapS
    split
    · simp
    · split
      · rw [List.length_append, List.length_singleton]; omega
      · omega
  exact Nat.le_trans (key _) (all_len l h)
theorem sdsL_go {l : NL} (g : Good l) (h : checkL l = 0) : sdsL l = refSides l := by
  unfold sdsL
  rw [if_pos h, ref_sides2 g]
set_option maxRecDepth 100000 in
set_option maxHeartbeats 3200000 in
theorem rsides_ok (v : Value) (l : NL) (w : World) (hv : NLV w w.heap.size v l) (h9 : checkL l = 0 → l.N ≤ 9) :
    Calls Try.prog 33 #[v] w fun r w' => ∃ sv, r = .returned (.tuple #[sv, .int .i64 (checkL l)]) ∧ Arr w' w'.heap.size 1 sv (sdsL l) icell ∧ Below w.heap.size w w' := by
  obtain ⟨ka, kc, aa, ac, ba, bc, rfl, hna⟩ := hv
  have hC := NB.new hna
  have hB := (Below.refl w.heap.size w).alloc (Nat.le_refl _) (.cells #[.int .i64 l.n, .slice ka l.links.length kc, .slice aa l.left.length ac, .slice ba l.right.length bc] 25)
  go_enter Try.func33, Try.ntmps33
  go_upto_region 1 with (fail)
  generalize hW : w.alloc (.cells #[.int .i64 l.n, .slice ka l.links.length kc, .slice aa l.left.length ac, .slice ba l.right.length bc] 25) = W at *
  clear hW
  have H9 := Lib.hid h9
  clear h9
  obtain ⟨k0, k1, k2, k3⟩ := hC.blk.c4
  have ho := rcheckList_ok _ l W hC.v
  go_wp2_with fail
  refine ho.mono ?_
  rintro e w1 ⟨rfl, hb⟩
  replace hB := hB.trans (hb.mono hB.size)
  replace hC := hC.call hb
  clear ho k0 k1 k2 k3 hb
  obtain ⟨k0, k1, k2, k3⟩ := hC.blk.c4
  by_cases h0 : checkL l = 0
  · have d0 : (checkL l != 0) = false := by simpa using h0
    have hg := check_good.1 h0
    have h9 := H9.out h0
    have HSD := Lib.hid (sdsL_go hg h0)
    have H0 := Lib.hid h0
    have hc := rcheapest_ok _ l w1 hg h9 hC.v
    have hcl := cheap_len l h9
    clear h0
    go_wp2_with fail
    refine hc.mono ?_
    rintro e w2 ⟨sA, sc, rfl, hS, hb⟩
    have hblk := hC.blk.call hb
    rw [← hg.nN] at hblk
    replace hB := hB.trans (hb.mono hB.size)
    clear hc k0 k1 k2 k3 hb
    have HRT := Lib.hid (refTo_all l)
    generalize (cheapAll l).2 = cc at *
    generalize (cheapAll l).1 = all at *
    have HRS := Lib.hid (refTo_succ all)
    have HRL := Lib.hid (refTo_len all)
    go_wp2
    go_loopw [6, 7] (fun sv i wr => ∃ (n : Nat) (A : Option Addr) (cap : Nat), n ≤ l.N ∧ i = .int .i64 n ∧ sv = .slice A n cap ∧ wr.ownsRow w2.heap.size 3 1 (.slice A n cap) n ((refTo all n).map (Value.int .i64)) ∧ Below w2.heap.size w2 wr) (fun _ i _ => l.N - (intOf i).toNat)
    case atStart => exact ⟨0, none, 0, Nat.zero_le _, rfl, rfl, by simpa [refTo] using World.ownsRow_nil _ _ _ _, Below.refl _ _⟩
    case round =>
      obtain ⟨n, A, cap, hn, rfl, rfl, hown, hbr⟩ := hrel
      obtain ⟨k0, k1, k2, k3⟩ := (hblk.call hbr).c4
      by_cases hlt : n < l.N
      · have d1 : decide (n < l.N) = true := decide_eq_true hlt
        have d1' : decide ((n : Int) < (l.N : Int)) = true := decide_eq_true (by omega)
        have hSr := hS.call hbr
        have HC0 : Hid (countIn (all.take 0) n = 0) := rfl
        obtain ⟨wo, rfl⟩ : ∃ wo : World, wo = wr := ⟨_, rfl⟩
        go_wp2
        go_loopw [8, 9] (fun m i wr => ∃ k : Nat, k ≤ all.length ∧ i = .int .i64 k ∧ m = .int .i64 (countIn (all.take k) n) ∧ countIn (all.take k) n ≤ k ∧ wr = wo) (fun _ i _ => all.length - (intOf i).toNat)
        case atStart => exact ⟨0, Nat.zero_le _, rfl, rfl, Nat.le_refl _, rfl⟩
        case round =>
          obtain ⟨k, hk, rfl, rfl, hck, rfl⟩ := hrel
          by_cases hkl : k < all.length
          · have d2 : decide (k < all.length) = true := decide_eq_true hkl
            have d2' : decide ((k : Int) < (all.length : Int)) = true := decide_eq_true (by omega)
            have hki : (k : Int) < (all.length : Int) := by omega
            obtain ⟨s, hs⟩ : ∃ s, all[k]? = some s := ⟨_, List.getElem?_eq_getElem hkl⟩
            obtain ⟨sb, so, eA, ec, rfl, hsb, c0, hE⟩ := hSr.at_ (i := k) (l := intL s) (by rw [List.getElem?_map, hs]; rfl)
            have hst := countIn_snoc (u := n) hs
            have hin := rin_ok _ (intL s) (n : Int) wr hE
            rw [intL_in] at hin
            cases hc : s.contains n
            · rw [hc] at hin hst
              replace hst : countIn (all.take (k + 1)) n = countIn (all.take k) n := by simpa using hst
              rw [← hst] at hck ⊢
              clear hs hc hst
              go_wp2_with fail
              refine hin.mono ?_
              rintro e w3 ⟨rfl, rfl⟩
              clear hin
              go_wp2
              go_roundw
              case rel => exact ⟨k + 1, by omega, by go_num, rfl, by omega, by first | trivial | rfl⟩
              case measure => (simp [intOf]; try omega)
            · rw [hc] at hin hst
              rw [if_pos rfl] at hst
              have HST := Lib.hid hst
              clear hs hc hst
              generalize countIn (all.take k) n = q at *
              have wq : IntKind.i64.wrap ((q : Int) + 1) = ((q + 1 : Nat) : Int) := by rw [IntKind.wrap_i64]; omega
              go_wp2_with fail
              refine hin.mono ?_
              rintro e w3 ⟨rfl, rfl⟩
              clear hin
              go_wp2
              go_roundw
              case rel => exact ⟨k + 1, by omega, by go_num, by rw [HST.out]; simp, by rw [HST.out]; omega, trivial⟩
              case measure => (simp [intOf]; try omega)
          · obtain rfl : k = all.length := by omega
            have d2 : decide (all.length < all.length) = false := by simp
            rw [List.take_length] at hck ⊢
            have hsz := hbr.size
            have hra : refAt all n = if countIn all n = all.length then 1 else if countIn all n = 0 then -1 else 0 := rfl
            have hrs := HRS.out n
            obtain ⟨-, hnc, hncm⟩ := own_cap hown
            generalize countIn all n = q at *
            by_cases q1 : q = all.length
            · rw [if_pos q1] at hra
              rw [hra] at hrs
              have e1 : ((q : Int) == (all.length : Int)) = true := by simp [q1]
              clear q1
              have HRS2 := Lib.hid hrs
              clear hra hrs hck
              go_wp2_with (at_builtin; refine wpList_app1 slT_int rfl (.tmp 44) (.tmp 45) rfl (A := A) (cc := cap) rfl ⟨cap, hown, .inl rfl⟩ rfl rfl one_1 hsz ?_ ?_ ?_)
              any_goals omega
              intro v4 w4 hown4 hb4 hkeep4
              have hown5 : w4.ownsRow w2.heap.size 3 1 v4 (n + 1) ((refTo all (n + 1)).map (Value.int .i64)) := by
                rw [HRS2.out, List.map_append]
                exact hown4
              have hb5 := hbr.trans hb4
              obtain ⟨A4, c4, rfl⟩ := own_form hown5
              clear hown4 hb4 hkeep4 hown
              go_wp2
              go_roundw
              case rel => exact ⟨n + 1, _, _, by omega, by go_num, rfl, hown5, hb5⟩
              case measure => (simp [intOf]; try omega)
            · rw [if_neg q1] at hra
              have e1 : ((q : Int) == (all.length : Int)) = false := by
                rw [beq_eq_false_iff_ne]
                omega
              by_cases q2 : q = 0
              · rw [if_pos q2] at hra
                rw [hra] at hrs
                have e2 : ((q : Int) == 0) = true := by simp [q2]
                clear q1 q2
                have HRS2 := Lib.hid hrs
                clear hra hrs hck
                go_wp2_with (at_builtin; refine wpList_app1 slT_int rfl (.tmp 49) (.tmp 50) rfl (A := A) (cc := cap) rfl ⟨cap, hown, .inl rfl⟩ rfl rfl one_1 hsz ?_ ?_ ?_)
                any_goals omega
                intro v4 w4 hown4 hb4 hkeep4
                have hown5 : w4.ownsRow w2.heap.size 3 1 v4 (n + 1) ((refTo all (n + 1)).map (Value.int .i64)) := by
                  rw [HRS2.out, List.map_append]
                  exact hown4
                have hb5 := hbr.trans hb4
                obtain ⟨A4, c4, rfl⟩ := own_form hown5
                clear hown4 hb4 hkeep4 hown
                go_wp2
                go_roundw
                case rel => exact ⟨n + 1, _, _, by omega, by go_num, rfl, hown5, hb5⟩
                case measure => (simp [intOf]; try omega)
              · rw [if_neg q2] at hra
                rw [hra] at hrs
                have e2 : ((q : Int) == 0) = false := by
                  rw [beq_eq_false_iff_ne]
                  omega
                clear q1 q2
                have HRS2 := Lib.hid hrs
                clear hra hrs hck
                go_wp2_with (at_builtin; refine wpList_app1 slT_int rfl (.tmp 52) (.tmp 53) rfl (A := A) (cc := cap) rfl ⟨cap, hown, .inl rfl⟩ rfl rfl one_1 hsz ?_ ?_ ?_)
                any_goals omega
                intro v4 w4 hown4 hb4 hkeep4
                have hown5 : w4.ownsRow w2.heap.size 3 1 v4 (n + 1) ((refTo all (n + 1)).map (Value.int .i64)) := by
                  rw [HRS2.out, List.map_append]
                  exact hown4
                have hb5 := hbr.trans hb4
                obtain ⟨A4, c4, rfl⟩ := own_form hown5
                clear hown4 hb4 hkeep4 hown
                go_wp2
                go_roundw
                case rel => exact ⟨n + 1, _, _, by omega, by go_num, rfl, hown5, hb5⟩
                case measure => (simp [intOf]; try omega)
      · obtain rfl : n = l.N := by omega
        have d1 : decide (l.N < l.N) = false := by simp
        have harr : Arr wr wr.heap.size 1 (.slice A l.N cap) (sdsL l) icell := by
          rw [HSD.out, ← HRT.out]
          refine Arr.of_own (base := w2.heap.size) (e := 3) ?_
          rw [flat_int, HRL.out]
          exact hown
        clear hown
        go_wp2
        go_ret2
        exact ⟨_, by rw [H0.out]; rfl, harr, hB.trans (hbr.mono hB.size)⟩
  · have d0 : (checkL l != 0) = true := by simpa using h0
    have HN : Hid (sdsL l = []) := if_neg h0
    have ho2 := rcheckList_ok _ l w1 hC.v
    clear h0
    go_wp2_with fail
    refine ho2.mono ?_
    rintro e w2 ⟨rfl, hb⟩
    replace hB := hB.trans (hb.mono hB.size)
    clear ho2
    go_wp2
    go_ret2
    exact ⟨_, rfl, by rw [HN.out]; exact Arr.nil_, hB⟩
open Classical in
/-- a name is in all cheapest sides -/
noncomputable def leastB (l : NL) (u : Nat) : Bool := decide (LeastP l u)
noncomputable def leastTo (l : NL) (k : Nat) : List Nat := (List.range k).filter (leastB l)
theorem leastTo_all (l : NL) : leastTo l l.N = leastL l := rfl
theorem leastTo_yes {l : NL} {k : Nat} (h : leastB l k = true) : leastTo l (k + 1) = leastTo l k ++ [k] := by
  unfold leastTo
  rw [List.range_succ, List.filter_append]
  simp [h]
theorem leastTo_no {l : NL} {k : Nat} (h : leastB l k = false) : leastTo l (k + 1) = leastTo l k := by
  unfold leastTo
  rw [List.range_succ, List.filter_append]
  simp [h]
theorem leastTo_len (l : NL) (k : Nat) : (leastTo l k).length ≤ k := by
  unfold leastTo
  exact Nat.le_trans (List.length_filter_le _ _) (by simp)
theorem sidesL_len (l : NL) : (sidesL l).length = l.N := by simp [sidesL]
theorem sidesL_at (l : NL) {k : Nat} (hk : k < l.N) : ∃ x, (sidesL l)[k]? = some x ∧ (x == 1) = leastB l k := by
  unfold sidesL leastB
  rw [List.getElem?_map, List.getElem?_range hk]
  refine ⟨_, rfl, ?_⟩
  by_cases h : LeastP l k
  · simp [h]
  · by_cases h2 : MostP l k
    · simp [h, h2]
    · simp [h, h2]
set_option maxRecDepth 100000 in
set_option maxHeartbeats 3200000 in
theorem rleast_ok (v : Value) (l : NL) (w : World) (hv : NLV w w.heap.size v l) (h9 : checkL l = 0 → l.N ≤ 9) :
    Calls Try.prog 31 #[v] w fun r w' => ∃ sv, r = .returned (.tuple #[sv, .int .i64 (lstC l), .int .i64 (checkL l)]) ∧ Arr w' w'.heap.size 1 sv (lstL l) icell ∧ Below w.heap.size w w' := by
  obtain ⟨ka, kc, aa, ac, ba, bc, rfl, hna⟩ := hv
  have hC := NB.new hna
  have hB := (Below.refl w.heap.size w).alloc (Nat.le_refl _) (.cells #[.int .i64 l.n, .slice ka l.links.length kc, .slice aa l.left.length ac, .slice ba l.right.length bc] 25)
  go_enter Try.func31, Try.ntmps31
  go_upto_region 1 with (fail)
  generalize hW : w.alloc (.cells #[.int .i64 l.n, .slice ka l.links.length kc, .slice aa l.left.length ac, .slice ba l.right.length bc] 25) = W at *
  clear hW
  have H9 := Lib.hid h9
  have ho := rsides_ok _ l W hC.v h9
  clear h9
  obtain ⟨k0, k1, k2, k3⟩ := hC.blk.c4
  go_wp2_with fail
  refine ho.mono ?_
  rintro e w1 ⟨sv, rfl, hS, hb⟩
  obtain ⟨sA, sc, rfl, hs1, hs2, -⟩ := id hS
  replace hB := hB.trans (hb.mono hB.size)
  replace hC := hC.call hb
  clear ho k0 k1 k2 k3 hb
  obtain ⟨k0, k1, k2, k3⟩ := hC.blk.c4
  by_cases h0 : checkL l = 0
  · have d0 : (checkL l != 0) = false := by simpa using h0
    have hg := check_good.1 h0
    have h9 := H9.out h0
    have HSD := Lib.hid (show sdsL l = sidesL l from if_pos h0)
    have HLL := Lib.hid (show lstL l = intL (leastL l) from if_pos h0)
    have HLC := Lib.hid (show lstC l = costL l from if_pos h0)
    have H0 := Lib.hid h0
    have hc := rcheapest_ok _ l w1 hg h9 hC.v
    rw [(ref_least2 hg).1] at hc
    rw [HSD.out, sidesL_len] at hS hs1 ⊢
    clear h0
    go_wp2_with fail
    refine hc.mono ?_
    rintro e w2 ⟨cA, cc, rfl, -, hb⟩
    replace hS := hS.call hb
    replace hB := hB.trans (hb.mono hB.size)
    clear hc k0 k1 k2 k3 hb
    have HYE := Lib.hid (fun k (h : leastB l k = true) => leastTo_yes h)
    have HNO := Lib.hid (fun k (h : leastB l k = false) => leastTo_no h)
    have HLN := Lib.hid (leastTo_len l)
    have HAT := Lib.hid (fun k (h : k < l.N) => sidesL_at l h)
    have HAL := Lib.hid (leastTo_all l)
    have HSL := Lib.hid (sidesL_len l)
    generalize costL l = cost at *
    have HZ : Hid (leastTo l 0 = []) := rfl
    have hN40 : l.N ≤ 40 := by have := hg.forty; have := hg.nN; omega
    obtain ⟨LT, hLT⟩ : ∃ LT, LT = leastTo l := ⟨_, rfl⟩
    rw [← hLT] at HYE HNO HLN HAL HZ
    clear hLT
    go_wp2
    go_loopw [9, 10] (fun sv i wr => ∃ (k : Nat) (A : Option Addr) (cap : Nat), k ≤ l.N ∧ i = .int .i64 k ∧ sv = .slice A (LT k).length cap ∧ wr.ownsRow w2.heap.size 3 1 (.slice A (LT k).length cap) (LT k).length ((intL (LT k)).map (Value.int .i64)) ∧ Below w2.heap.size w2 wr) (fun _ i _ => l.N - (intOf i).toNat)
    case atStart => exact ⟨0, none, 0, Nat.zero_le _, rfl, by rw [HZ.out]; rfl, by rw [HZ.out]; simpa [intL] using World.ownsRow_nil _ _ _ _, Below.refl _ _⟩
    case round =>
      obtain ⟨k, A, cap, hk, rfl, rfl, hown, hbr⟩ := hrel
      have hSr := hS.call hbr
      have hln := HLN.out k
      by_cases hlt : k < l.N
      · have d1 : decide (k < l.N) = true := decide_eq_true hlt
        have d1' : decide ((k : Int) < (l.N : Int)) = true := decide_eq_true (by omega)
        have hki : (k : Int) < (l.N : Int) := by omega
        obtain ⟨x, hx, hxl⟩ := HAT.out k hlt
        obtain ⟨sb, so, y, rfl, hsb, hy, c0⟩ := numx_at hSr (k := k) (by rw [HSL.out]; exact hlt)
        rw [hx] at hy
        injection hy with hy
        subst hy
        have hyes := HYE.out k
        have hno := HNO.out k
        clear hx hSr
        cases hb : leastB l k
        · have hst := hno hb
          rw [hb] at hxl
          rw [← hst] at hown ⊢
          clear hyes hno hb hst
          go_wp2
          go_roundw
          case rel => exact ⟨k + 1, _, _, by omega, by go_num, rfl, hown, hbr⟩
          case measure => (simp [intOf]; try omega)
        · have HST := Lib.hid (hyes hb)
          rw [hb] at hxl
          clear hyes hno hb
          have hsz := hbr.size
          generalize hn0 : (LT k).length = m at *
          have HN0 := Lib.hid hn0
          clear hn0
          obtain ⟨-, hnc, hncm⟩ := own_cap hown
          go_wp2_with (at_builtin; refine wpList_app1 slT_int rfl (.tmp 35) (.tmp 37) rfl (A := A) (cc := cap) rfl ⟨cap, hown, .inl rfl⟩ rfl rfl one_1 hsz ?_ ?_ ?_)
          any_goals omega
          intro v4 w4 hown4 hb4 hkeep4
          have hown5 : w4.ownsRow w2.heap.size 3 1 v4 (LT (k + 1)).length ((intL (LT (k + 1))).map (Value.int .i64)) := by
            rw [HST.out, intL_append, List.map_append, List.length_append, HN0.out]
            exact hown4
          have hb5 := hbr.trans hb4
          obtain ⟨A4, c4, rfl⟩ := own_form hown5
          clear hown4 hb4 hkeep4 hown
          go_wp2
          go_roundw
          case rel => exact ⟨k + 1, _, _, by omega, by go_num, rfl, hown5, hb5⟩
          case measure => (simp [intOf]; try omega)
      · obtain rfl : k = l.N := by omega
        have d1 : decide (l.N < l.N) = false := by simp
        have harr : Arr wr wr.heap.size 1 (.slice A (leastL l).length cap) (lstL l) icell := by
          rw [HLL.out]
          refine Arr.of_own (base := w2.heap.size) (e := 3) ?_
          rw [HAL.out] at hown
          rw [flat_int, show (intL (leastL l)).length = (leastL l).length by simp [intL]]
          exact hown
        rw [HAL.out]
        clear hown
        go_wp2
        go_ret3
        exact ⟨_, by rw [H0.out, HLC.out]; rfl, harr, hB.trans (hbr.mono hB.size)⟩
  · have d0 : (checkL l != 0) = true := by simpa using h0
    have HN : Hid (lstL l = []) := if_neg h0
    have HC : Hid (lstC l = 0) := if_neg h0
    clear h0
    go_wp2
    go_ret3
    exact ⟨_, by rw [HC.out]; rfl, by rw [HN.out]; exact Arr.nil_, hB⟩
end Go.Proofs.Ytpkccmohlcndgaa
