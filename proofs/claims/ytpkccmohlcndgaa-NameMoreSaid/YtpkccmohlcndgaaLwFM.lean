/- The law's list of the examples, and what the models say of it. The law's sides by bits. Literals in memory; the laws' Works. -/
import Derived.Test.YtpkccmohlcndgaaLwCM
import Derived.Test.YtpkccmohlcndgaaRfOM
import Derived.Test.YtpkccmohlcndgaaPe2
namespace Go.Proofs.Ytpkccmohlcndgaa
set_option linter.unusedVariables false
set_option maxRecDepth 1000000
def exN : NL := ⟨5, [⟨0, 1, 3⟩, ⟨1, 4, 2⟩, ⟨0, 2, 2⟩, ⟨2, 4, 4⟩, ⟨1, 2, 1⟩, ⟨3, 4, 1⟩], [0], [4]⟩
theorem exGood : Good exN := check_good.1 (by decide +kernel)
theorem ex1 : openE exN [0, 2] = 0 ∧ grpL exN [0, 2] = [[0], [1, 2, 3, 4]] := by decide +kernel
theorem ex2 : chkC exN [0] [0, 2, 4] = 0 := by decide +kernel
theorem ex3 : chainE exN [0, 2] = 5 := by decide +kernel
theorem ex4 : cutsL exN [0, 1] = [1, 2, 4] ∧ cutsC exN [0, 1] = 5 ∧ cutE exN [0, 1] = 0 := by decide +kernel
theorem ex5 : costL exN = 5 := by rw [← (ref_least2 exGood).1]; decide +kernel
theorem ex6 : sdsL exN = [1, 0, -1, -1, -1] := by rw [sdsL_go exGood (by decide +kernel)]; decide +kernel
theorem ex7 : lstL exN = [0] := by
  have h0 : checkL exN = 0 := by decide +kernel
  have h1 : sidesL exN = [1, 0, -1, -1, -1] := by rw [← ex6]; exact (if_pos h0).symm
  have h2 : lstL exN = intL (leastL exN) := if_pos h0
  have hb : ∀ k, k < 5 → leastB exN k = ((([1, 0, -1, -1, -1] : List Int).getD k 0) == 1) := fun k hk => by
    obtain ⟨x, hx, he⟩ := sidesL_at exN (k := k) hk
    rw [h1] at hx
    rw [← he, List.getD_eq_getElem?_getD, hx]
    rfl
  rw [h2, show leastL exN = (List.range 5).filter (leastB exN) from rfl]
  have : (List.range 5).filter (leastB exN) = (List.range 5).filter fun k => (([1, 0, -1, -1, -1] : List Int).getD k 0) == 1 :=
    List.filter_congr fun k hk => hb k (List.mem_range.1 hk)
  rw [this]
  decide
theorem ex8 : chkF exN [3, 2, 2, 3, 1, 0] = (5, 0) := by decide +kernel
theorem ex9 : chainE exN [0] = 0 := by decide +kernel
theorem ex10 : checkL exN = 0 := by decide +kernel
theorem ex11 : lstC exN = 5 := by rw [← ex5]; exact if_pos ex10
theorem ex12 : grpL exN [0, 1, 2, 3, 4, 5] = [[0], [1], [2], [3], [4]] ∧ openE exN [0, 1, 2, 3, 4, 5] = 0 := by decide +kernel
theorem ex13 : chkC exN [0] [0, 1, 4] = 14 := by decide +kernel
theorem ex14 : cutsL exN [0] = [0, 2] ∧ cutsC exN [0] = 5 ∧ cutE exN [0] = 0 := by decide +kernel
theorem ex15 : cutsL exN [0, 1, 2] = [1, 3] ∧ cutsC exN [0, 1, 2] = 6 ∧ cutE exN [0, 1, 2] = 0 := by decide +kernel
theorem ex16 : chkF exN [3, 3, 2, 2, 0, 0] = (0, 14) := by decide +kernel
theorem ex17 {fl : List Int} (h : FlowOf exN fl) : chkF exN fl = (5, 0) := by
  obtain ⟨h1, h2⟩ := h.2 ex10
  rw [chkF_ok ex10 h1 h2.right, h2.costL_eq exGood, ex5]
end Go.Proofs.Ytpkccmohlcndgaa

namespace Go.Proofs.Ytpkccmohlcndgaa
open Go.RowKit Go.Shelf
set_option linter.unusedVariables false

set_option maxRecDepth 100000 in
set_option maxHeartbeats 800000 in
theorem llist_ok (w : World) : Calls Try.prog 40 #[] w fun r w' => ∃ ka kc aa ac ba bc, r = .returned (nlV exN ka kc aa ac ba bc) ∧ NA w' w'.heap.size exN ka kc aa ac ba bc ∧ Below w.heap.size w w' := by
  go_enter Try.func40, Try.ntmps40
  go_upto_region 1 with (fail)
  have hR := Blk.new w 25 #[.int .i64 0, .slice none 0 0, .slice none 0 0, .slice none 0 0]
  have hb := (Below.refl w.heap.size w).alloc (Nat.le_refl _) (.cells #[.int .i64 0, .slice none 0 0, .slice none 0 0, .slice none 0 0] 25)
  have hz : (w.alloc (.cells #[.int .i64 0, .slice none 0 0, .slice none 0 0, .slice none 0 0] 25)).heap.size = w.heap.size + 1 := by simp
  generalize w.alloc (.cells #[.int .i64 0, .slice none 0 0, .slice none 0 0, .slice none 0 0] 25) = W at *
  have r0 := hR.cell 0
  have r1 := hR.cell 1
  have r2 := hR.cell 2
  have r3 := hR.cell 3
  have z0 := hR.frozen 0
  have z1 := hR.frozen 1
  have z2 := hR.frozen 2
  have z3 := hR.frozen 3
  simp at r0 r1 r2 r3
  go_wp2
  have hR4 := (((hR.set_ 0 (.int .i64 5)).set_ 1 (.slice (some ⟨w.heap.size + 1, 0, none⟩) 6 6)).set_ 2 (.slice (some ⟨w.heap.size + 1 + 1, 0, none⟩) 1 1)).set_ 3 (.slice (some ⟨w.heap.size + 1 + 1 + 1, 0, none⟩) 1 1)
  have hB4 := (((hb.setCell (p := ⟨w.heap.size, 0, none⟩) (Nat.le_refl _) (.int .i64 5)).setCell (p := ⟨w.heap.size, 1, none⟩) (Nat.le_refl _) (.slice (some ⟨w.heap.size + 1, 0, none⟩) 6 6)).setCell (p := ⟨w.heap.size, 2, none⟩) (Nat.le_refl _) (.slice (some ⟨w.heap.size + 1 + 1, 0, none⟩) 1 1)).setCell (p := ⟨w.heap.size, 3, none⟩) (Nat.le_refl _) (.slice (some ⟨w.heap.size + 1 + 1 + 1, 0, none⟩) 1 1)
  have hz4 : ((((W.setCell ⟨w.heap.size, 0, none⟩ (.int .i64 5)).setCell ⟨w.heap.size, 1, none⟩ (.slice (some ⟨w.heap.size + 1, 0, none⟩) 6 6)).setCell ⟨w.heap.size, 2, none⟩ (.slice (some ⟨w.heap.size + 1 + 1, 0, none⟩) 1 1)).setCell ⟨w.heap.size, 3, none⟩ (.slice (some ⟨w.heap.size + 1 + 1 + 1, 0, none⟩) 1 1)).heap.size = w.heap.size + 1 := by simp [hz]
  clear hR hb r0 r1 r2 r3 z0 z1 z2 z3 hz
  generalize (((W.setCell ⟨w.heap.size, 0, none⟩ (.int .i64 5)).setCell ⟨w.heap.size, 1, none⟩ (.slice (some ⟨w.heap.size + 1, 0, none⟩) 6 6)).setCell ⟨w.heap.size, 2, none⟩ (.slice (some ⟨w.heap.size + 1 + 1, 0, none⟩) 1 1)).setCell ⟨w.heap.size, 3, none⟩ (.slice (some ⟨w.heap.size + 1 + 1 + 1, 0, none⟩) 1 1) = V at *
  have hS1 := Blk.new V 60 #[.int .i64 0, .int .i64 1, .int .i64 3, .int .i64 1, .int .i64 4, .int .i64 2, .int .i64 0, .int .i64 2, .int .i64 2, .int .i64 2, .int .i64 4, .int .i64 4, .int .i64 1, .int .i64 2, .int .i64 1, .int .i64 3, .int .i64 4, .int .i64 1]
  have hb1 := (Below.refl V.heap.size V).alloc (Nat.le_refl _) (.cells #[.int .i64 0, .int .i64 1, .int .i64 3, .int .i64 1, .int .i64 4, .int .i64 2, .int .i64 0, .int .i64 2, .int .i64 2, .int .i64 2, .int .i64 4, .int .i64 4, .int .i64 1, .int .i64 2, .int .i64 1, .int .i64 3, .int .i64 4, .int .i64 1] 60)
  have hz1 : (V.alloc (.cells #[.int .i64 0, .int .i64 1, .int .i64 3, .int .i64 1, .int .i64 4, .int .i64 2, .int .i64 0, .int .i64 2, .int .i64 2, .int .i64 2, .int .i64 4, .int .i64 4, .int .i64 1, .int .i64 2, .int .i64 1, .int .i64 3, .int .i64 4, .int .i64 1] 60)).heap.size = w.heap.size + 1 + 1 := by simp [hz4]
  have hR5 := hR4.call hb1
  have hB5 := hB4.trans (hb1.mono hB4.size)
  rw [hz4] at hS1
  clear hR4 hB4 hb1
  generalize V.alloc (.cells #[.int .i64 0, .int .i64 1, .int .i64 3, .int .i64 1, .int .i64 4, .int .i64 2, .int .i64 0, .int .i64 2, .int .i64 2, .int .i64 2, .int .i64 4, .int .i64 4, .int .i64 1, .int .i64 2, .int .i64 1, .int .i64 3, .int .i64 4, .int .i64 1] 60) = V1 at *
  have hS2 := Blk.new V1 3 #[.int .i64 0]
  have hb2 := (Below.refl V1.heap.size V1).alloc (Nat.le_refl _) (.cells #[.int .i64 0] 3)
  have hz2 : (V1.alloc (.cells #[.int .i64 0] 3)).heap.size = w.heap.size + 1 + 1 + 1 := by simp [hz1]
  rw [hz1] at hS2
  replace hR5 := hR5.call hb2
  replace hB5 := hB5.trans (hb2.mono hB5.size)
  replace hS1 := hS1.call hb2
  clear hb2
  generalize V1.alloc (.cells #[.int .i64 0] 3) = V2 at *
  have hS3 := Blk.new V2 3 #[.int .i64 4]
  have hb3 := (Below.refl V2.heap.size V2).alloc (Nat.le_refl _) (.cells #[.int .i64 4] 3)
  rw [hz2] at hS3
  replace hR5 := hR5.call hb3
  replace hB5 := hB5.trans (hb3.mono hB5.size)
  replace hS1 := hS1.call hb3
  replace hS2 := hS2.call hb3
  clear hb3
  generalize V2.alloc (.cells #[.int .i64 4] 3) = V3 at *
  have hA1 : Arr V3 V3.heap.size 3 (.slice (some ⟨w.heap.size + 1, 0, none⟩) exN.links.length 6) exN.links lkcell := Arr.lit hS1 hS1.lt rfl (by simp [exN]) (by omega) (by simp [exN, cellsOf, List.range_succ, lkcell])
  have hA2 : Arr V3 V3.heap.size 1 (.slice (some ⟨w.heap.size + 1 + 1, 0, none⟩) exN.left.length 1) exN.left icell := Arr.lit hS2 hS2.lt rfl (by simp [exN]) (by omega) (by simp [exN, cellsOf, List.range_succ])
  have hA3 : Arr V3 V3.heap.size 1 (.slice (some ⟨w.heap.size + 1 + 1 + 1, 0, none⟩) exN.right.length 1) exN.right icell := Arr.lit hS3 hS3.lt rfl (by simp [exN]) (by omega) (by simp [exN, cellsOf, List.range_succ])
  have r0 := hR5.cell 0
  have r1 := hR5.cell 1
  have r2 := hR5.cell 2
  have r3 := hR5.cell 3
  simp at r0 r1 r2 r3
  exact bodyPost_ret (v := .agg #[.int .i64 5, .slice (some ⟨w.heap.size + 1, 0, none⟩) 6 6, .slice (some ⟨w.heap.size + 1 + 1, 0, none⟩) 1 1, .slice (some ⟨w.heap.size + 1 + 1 + 1, 0, none⟩) 1 1]) (by simp [results, Try.results40, go_sem, r0, r1, r2, r3]) rfl ⟨_, _, _, _, _, _, rfl, ⟨hA1, hA2, hA3⟩, hB5⟩
end Go.Proofs.Ytpkccmohlcndgaa

namespace Go.Proofs.Ytpkccmohlcndgaa
open Go.RowKit Go.Shelf
set_option linter.unusedVariables false

/-- a name is on a side by bits -/
def onSide (l : NL) (b u : Nat) : Bool := l.A u || (bitB b u && !l.B u)
def sideU (l : NL) (b k : Nat) : List Nat := (List.range k).filter (onSide l b)
theorem sideU_yes {l : NL} {b k : Nat} (h : onSide l b k = true) : sideU l b (k + 1) = sideU l b k ++ [k] := by
  unfold sideU
  rw [List.range_succ, List.filter_append]
  simp [h]
theorem sideU_no {l : NL} {b k : Nat} (h : onSide l b k = false) : sideU l b (k + 1) = sideU l b k := by
  unfold sideU
  rw [List.range_succ, List.filter_append]
  simp [h]
theorem sideU_len (l : NL) (b k : Nat) : (sideU l b k).length ≤ k := by
  unfold sideU
  exact Nat.le_trans (List.length_filter_le _ _) (by simp)
theorem bit_u64 (b k : Nat) (hb : b < 18446744073709551616) : bits .and .u64 ((b : Int) / 2 ^ k) 1 = if bitB b k = true then 1 else 0 := by
  have e : ((b : Int) / 2 ^ k) = ((b / 2 ^ k : Nat) : Int) := by simp
  have hle : b / 2 ^ k ≤ b := Nat.div_le_self _ _
  rw [e]
  unfold bitB
  generalize b / 2 ^ k = q at *
  have h := bits_mask .u64 64 (by decide) (fun n h0 h1 => by rw [IntKind.wrap_u64]; omega) 1 (by decide) (q : Int) (by omega) (by omega)
  rw [show (2 : Int) ^ 1 - 1 = 1 from rfl, show (2 : Int) ^ 1 = 2 from rfl] at h
  rw [h]
  by_cases hq : q % 2 = 1
  · rw [if_pos (by simpa using hq)]; omega
  · rw [if_neg (by simpa using hq)]; omega
set_option maxRecDepth 100000 in
set_option maxHeartbeats 3200000 in
theorem lside_ok (v : Value) (l : NL) (b : Nat) (w : World) (hg : Good l) (hb : b < 18446744073709551616) (hv : NLV w w.heap.size v l) :
    Calls Try.prog 36 #[v, .int .u64 (b : Int)] w fun r w' => ∃ sv, r = .returned sv ∧ Arr w' w'.heap.size 1 sv (intL (sideU l b l.N)) icell ∧ Below w.heap.size w w' := by
  obtain ⟨ka, kc, aa, ac, ba, bc, rfl, hna⟩ := hv
  have hC := NB.new hna
  have hB := (Below.refl w.heap.size w).alloc (Nat.le_refl _) (.cells #[.int .i64 l.n, .slice ka l.links.length kc, .slice aa l.left.length ac, .slice ba l.right.length bc] 25)
  go_enter Try.func36, Try.ntmps36
  go_upto_region 1 with (fail)
  generalize hW : w.alloc (.cells #[.int .i64 l.n, .slice ka l.links.length kc, .slice aa l.left.length ac, .slice ba l.right.length bc] 25) = W at *
  clear hW
  have hblk := hC.blk
  rw [← hg.nN] at hblk
  have hN40 : l.N ≤ 40 := by have := hg.forty; have := hg.nN; omega
  have HIA := Lib.hid hg.inA
  have HIB := Lib.hid hg.inB
  have HZ : Hid (sideU l b 0 = []) := rfl
  go_wp2
  go_loopw [5, 6] (fun sv i wr => ∃ (k : Nat) (A : Option Addr) (cap : Nat), k ≤ l.N ∧ i = .int .i64 k ∧ sv = .slice A (sideU l b k).length cap ∧ wr.ownsRow W.heap.size 3 1 (.slice A (sideU l b k).length cap) (sideU l b k).length ((intL (sideU l b k)).map (Value.int .i64)) ∧ Below W.heap.size W wr) (fun _ i _ => l.N - (intOf i).toNat)
  case atStart => exact ⟨0, none, 0, Nat.zero_le _, rfl, by rw [HZ.out]; rfl, by rw [HZ.out]; simpa [intL] using World.ownsRow_nil _ _ _ _, Below.refl _ _⟩
  case round =>
    obtain ⟨k, A, cap, hk, rfl, rfl, hown, hbr⟩ := hrel
    have hCr := hC.call hbr
    have hln := sideU_len l b k
    obtain ⟨k0, k1, k2, k3⟩ := (hblk.call hbr).c4
    by_cases hlt : k < l.N
    · have d1 : decide (k < l.N) = true := decide_eq_true hlt
      have d1' : decide ((k : Int) < (l.N : Int)) = true := decide_eq_true (by omega)
      have hia := rin_ok _ l.left (k : Int) wr hCr.na.as_
      have hib := rin_ok _ l.right (k : Int) wr hCr.na.bs
      rw [HIA.out] at hia
      rw [HIB.out] at hib
      have hos : onSide l b k = (l.A k || (bitB b k && !l.B k)) := rfl
      have hbu := bit_u64 b k hb
      cases hA : l.A k
      · rw [hA] at hia hos
        cases hbi : bitB b k
        · rw [hbi] at hbu hos
          rw [if_neg (by simp)] at hbu
          replace hos : onSide l b k = false := by rw [hos]; rfl
          clear hA hbi hib
          go_wp2_with fail
          refine hia.mono ?_
          rintro e w3 ⟨rfl, rfl⟩
          clear hia
          have hst := sideU_no (l := l) (b := b) (k := k) hos
          rw [← hst] at hown ⊢
          clear hos hst
          go_wp2
          go_roundw
          case rel => exact ⟨k + 1, _, _, by omega, by go_num, rfl, hown, hbr⟩
          case measure => (simp [intOf]; try omega)
        · rw [hbi] at hbu hos
          rw [if_pos rfl] at hbu
          cases hBk : l.B k
          · rw [hBk] at hib hos
            replace hos : onSide l b k = true := by rw [hos]; rfl
            clear hA hbi hBk
            go_wp2_with fail
            refine hia.mono ?_
            rintro e w3 ⟨rfl, rfl⟩
            clear hia
            go_wp2_with fail
            refine hib.mono ?_
            rintro e w4 ⟨rfl, rfl⟩
            clear hib
            have HST := Lib.hid (sideU_yes (l := l) (b := b) (k := k) hos)
            have hsz := hbr.size
            clear hos k0 k1 k2 k3
            generalize hn0 : (sideU l b k).length = m at *
            have HN0 := Lib.hid hn0
            clear hn0
            obtain ⟨-, hnc, hncm⟩ := own_cap hown
            go_wp2_with (at_builtin; refine wpList_app1 slT_int rfl (.tmp 31) (.tmp 33) rfl (A := A) (cc := cap) rfl ⟨cap, hown, .inl rfl⟩ rfl rfl one_1 hsz ?_ ?_ ?_)
            any_goals omega
            intro v4 w4 hown4 hb4 hkeep4
            have hown5 : w4.ownsRow W.heap.size 3 1 v4 (sideU l b (k + 1)).length ((intL (sideU l b (k + 1))).map (Value.int .i64)) := by
              rw [HST.out, intL_append, List.map_append, List.length_append, HN0.out]
              exact hown4
            have hb5 := hbr.trans hb4
            obtain ⟨A4, c4, rfl⟩ := own_form hown5
            clear hown4 hb4 hkeep4 hown
            go_wp2
            go_roundw
            case rel => exact ⟨k + 1, _, _, by omega, by go_num, rfl, hown5, hb5⟩
            case measure => (simp [intOf]; try omega)
          · rw [hBk] at hib hos
            replace hos : onSide l b k = false := by rw [hos]; rfl
            clear hA hbi hBk
            have hst := sideU_no (l := l) (b := b) (k := k) hos
            rw [← hst] at hown ⊢
            clear hos hst
            go_wp2_with fail
            refine hia.mono ?_
            rintro e w3 ⟨rfl, rfl⟩
            clear hia
            go_wp2_with fail
            refine hib.mono ?_
            rintro e w4 ⟨rfl, rfl⟩
            clear hib
            go_wp2
            go_roundw
            case rel => exact ⟨k + 1, _, _, by omega, by go_num, rfl, hown, hbr⟩
            case measure => (simp [intOf]; try omega)
      · rw [hA] at hia hos
        replace hos : onSide l b k = true := by rw [hos]; rfl
        clear hA hib
        go_wp2_with fail
        refine hia.mono ?_
        rintro e w3 ⟨rfl, rfl⟩
        clear hia
        have HST := Lib.hid (sideU_yes (l := l) (b := b) (k := k) hos)
        have hsz := hbr.size
        clear hos k0 k1 k2 k3
        generalize hn0 : (sideU l b k).length = m at *
        have HN0 := Lib.hid hn0
        clear hn0
        obtain ⟨-, hnc, hncm⟩ := own_cap hown
        go_wp2_with (at_builtin; refine wpList_app1 slT_int rfl (.tmp 31) (.tmp 33) rfl (A := A) (cc := cap) rfl ⟨cap, hown, .inl rfl⟩ rfl rfl one_1 hsz ?_ ?_ ?_)
        any_goals omega
        intro v4 w4 hown4 hb4 hkeep4
        have hown5 : w4.ownsRow W.heap.size 3 1 v4 (sideU l b (k + 1)).length ((intL (sideU l b (k + 1))).map (Value.int .i64)) := by
          rw [HST.out, intL_append, List.map_append, List.length_append, HN0.out]
          exact hown4
        have hb5 := hbr.trans hb4
        obtain ⟨A4, c4, rfl⟩ := own_form hown5
        clear hown4 hb4 hkeep4 hown
        go_wp2
        go_roundw
        case rel => exact ⟨k + 1, _, _, by omega, by go_num, rfl, hown5, hb5⟩
        case measure => (simp [intOf]; try omega)
    · obtain rfl : k = l.N := by omega
      have d1 : decide (l.N < l.N) = false := by simp
      have harr : Arr wr wr.heap.size 1 (.slice A (sideU l b l.N).length cap) (intL (sideU l b l.N)) icell := Arr.of_own (base := W.heap.size) (e := 3) (by
        rw [flat_int, show (intL (sideU l b l.N)).length = (sideU l b l.N).length by simp [intL]]
        exact hown)
      clear hown
      go_wp2
      go_ret
      exact ⟨_, rfl, harr, hB.trans (hbr.mono hB.size)⟩
end Go.Proofs.Ytpkccmohlcndgaa

namespace Go.Proofs.Ytpkccmohlcndgaa
open Go.RowKit Go.Shelf
set_option linter.unusedVariables false

theorem flat_vl (xs : List VL) : xs.flatMap (cellsOf 1 vlcell) = xs.map (·.1) := by
  induction xs with
  | nil => rfl
  | cons x r ih => rw [List.flatMap_cons, ih]; rfl
/-! ### literals -/
def rowO (l : List Int) : Obj := .cells (l.map (Value.int .i64)).toArray 3
def rowsW : World → List (List Int) → World
  | w, [] => w
  | w, l :: r => rowsW (w.alloc (rowO l)) r
def headsV : Nat → List (List Int) → List Value
  | _, [] => []
  | n, l :: r => .slice (some ⟨n, 0, none⟩) l.length l.length :: headsV (n + 1) r
theorem headsV_len : ∀ (n : Nat) (ls : List (List Int)), (headsV n ls).length = ls.length
  | _, [] => rfl
  | n, l :: r => by rw [headsV, List.length_cons, List.length_cons, headsV_len (n + 1) r]
theorem rowsW_size : ∀ (w : World) (ls : List (List Int)), (rowsW w ls).heap.size = w.heap.size + ls.length
  | w, [] => rfl
  | w, l :: r => by rw [rowsW, rowsW_size (w.alloc (rowO l)) r]; simp; omega
theorem rowsW_below : ∀ (w : World) (ls : List (List Int)), Below w.heap.size w (rowsW w ls)
  | w, [] => Below.refl _ _
  | w, l :: r => by
    have h1 := (Below.refl w.heap.size w).alloc (Nat.le_refl _) (rowO l)
    exact h1.trans ((rowsW_below (w.alloc (rowO l)) r).mono h1.size)
theorem heads_arr : ∀ (w : World) (ls : List (List Int)), (∀ l ∈ ls, l.length ≤ 100) → ∀ x ∈ (headsV w.heap.size ls).zip ls, Arr (rowsW w ls) (rowsW w ls).heap.size 1 x.1 x.2 icell
  | w, [], _, x, hx => by simp [headsV] at hx
  | w, l :: r, hl, x, hx => by
    rw [headsV, List.zip_cons_cons] at hx
    have hz : (w.alloc (rowO l)).heap.size = w.heap.size + 1 := by simp
    have ih := heads_arr (w.alloc (rowO l)) r fun m hm => hl m (List.mem_cons_of_mem _ hm)
    rw [hz] at ih
    rcases List.mem_cons.1 hx with rfl | hx
    · have hb := Blk.new w 3 (l.map (Value.int .i64)).toArray
      have hb2 : Blk (rowsW (w.alloc (rowO l)) r) w.heap.size 3 (l.map (Value.int .i64)).toArray := hb.call (rowsW_below (w.alloc (rowO l)) r)
      have := hl l (List.mem_cons_self ..)
      exact Arr.lit hb2 hb2.lt rfl (Nat.le_refl _) (by omega) (by rw [flat_int])
    · exact ih x hx
/-- a literal list of lists -/
def litW (w : World) (ls : List (List Int)) (te : TypeId) : World := (rowsW w ls).alloc (.cells (headsV w.heap.size ls).toArray te)
theorem lit_ok (w : World) (ls : List (List Int)) (te : TypeId) (hl : ∀ l ∈ ls, l.length ≤ 100) (hn : ls.length ≤ 100) : LLi (litW w ls te) (.slice (some ⟨w.heap.size + ls.length, 0, none⟩) ls.length ls.length) ls ∧ Below w.heap.size w (litW w ls te) ∧
    (litW w ls te).ownsRow (w.heap.size + ls.length) te 1 (.slice (some ⟨w.heap.size + ls.length, 0, none⟩) ls.length ls.length) ls.length (headsV w.heap.size ls) := by
  have hb := rowsW_below w ls
  have hb2 := (Below.refl (rowsW w ls).heap.size (rowsW w ls)).alloc (Nat.le_refl _) (.cells (headsV w.heap.size ls).toArray te)
  have hz := rowsW_size w ls
  have hB := hb.trans (hb2.mono hb.size)
  have hbl := Blk.new (rowsW w ls) te (headsV w.heap.size ls).toArray
  rw [hz] at hbl
  refine ⟨⟨(headsV w.heap.size ls).zip ls, ?_, ?_, fun x hx => ?_⟩, hB, ⟨by rw [headsV_len]; omega, .inr ⟨_, ls.length, (headsV w.heap.size ls).toArray, rfl, Nat.le_refl _, hbl, Nat.le_refl _, by simp only [maxLen]; omega, by simp [headsV_len], by rw [Nat.mul_one]; exact List.take_of_length_le (by simp [headsV_len])⟩⟩⟩
  · rw [List.map_snd_zip]
    rw [headsV_len]
    exact Nat.le_refl _
  · refine Arr.lit (t := te) (cs := (headsV w.heap.size ls).toArray) hbl hbl.lt ?_ ?_ ?_ ?_
    · rw [List.length_zip, headsV_len, Nat.min_self]
    · rw [List.length_zip, headsV_len, Nat.min_self]; exact Nat.le_refl _
    · omega
    · rw [flat_vl, List.map_fst_zip]
      rw [headsV_len]
      exact Nat.le_refl _
  · exact (heads_arr w ls hl x hx).call hb2
theorem ints1 (w : World) (a : Int) : Arr (w.alloc (.cells #[.int .i64 a] 3)) (w.alloc (.cells #[.int .i64 a] 3)).heap.size 1 (.slice (some ⟨w.heap.size, 0, none⟩) 1 1) [a] icell ∧ Below w.heap.size w (w.alloc (.cells #[.int .i64 a] 3)) := by
  have hb := Blk.new w 3 #[.int .i64 a]
  exact ⟨Arr.lit hb hb.lt rfl (by simp) (by omega) (by simp [cellsOf, List.range_succ]), (Below.refl _ _).alloc (Nat.le_refl _) _⟩
theorem ints2 (w : World) (a b : Int) : Arr (w.alloc (.cells #[.int .i64 a, .int .i64 b] 3)) (w.alloc (.cells #[.int .i64 a, .int .i64 b] 3)).heap.size 1 (.slice (some ⟨w.heap.size, 0, none⟩) 2 2) [a, b] icell ∧ Below w.heap.size w (w.alloc (.cells #[.int .i64 a, .int .i64 b] 3)) := by
  have hb := Blk.new w 3 #[.int .i64 a, .int .i64 b]
  exact ⟨Arr.lit hb hb.lt rfl (by simp) (by omega) (by simp [cellsOf, List.range_succ]), (Below.refl _ _).alloc (Nat.le_refl _) _⟩
theorem ints3 (w : World) (a b c : Int) : Arr (w.alloc (.cells #[.int .i64 a, .int .i64 b, .int .i64 c] 3)) (w.alloc (.cells #[.int .i64 a, .int .i64 b, .int .i64 c] 3)).heap.size 1 (.slice (some ⟨w.heap.size, 0, none⟩) 3 3) [a, b, c] icell ∧ Below w.heap.size w (w.alloc (.cells #[.int .i64 a, .int .i64 b, .int .i64 c] 3)) := by
  have hb := Blk.new w 3 #[.int .i64 a, .int .i64 b, .int .i64 c]
  exact ⟨Arr.lit hb hb.lt rfl (by simp) (by omega) (by simp [cellsOf, List.range_succ]), (Below.refl _ _).alloc (Nat.le_refl _) _⟩
theorem ints5 (w : World) (a b c d e : Int) : Arr (w.alloc (.cells #[.int .i64 a, .int .i64 b, .int .i64 c, .int .i64 d, .int .i64 e] 3)) (w.alloc (.cells #[.int .i64 a, .int .i64 b, .int .i64 c, .int .i64 d, .int .i64 e] 3)).heap.size 1 (.slice (some ⟨w.heap.size, 0, none⟩) 5 5) [a, b, c, d, e] icell ∧ Below w.heap.size w (w.alloc (.cells #[.int .i64 a, .int .i64 b, .int .i64 c, .int .i64 d, .int .i64 e] 3)) := by
  have hb := Blk.new w 3 #[.int .i64 a, .int .i64 b, .int .i64 c, .int .i64 d, .int .i64 e]
  exact ⟨Arr.lit hb hb.lt rfl (by simp) (by omega) (by simp [cellsOf, List.range_succ]), (Below.refl _ _).alloc (Nat.le_refl _) _⟩
theorem ints6 (w : World) (a b c d e f : Int) : Arr (w.alloc (.cells #[.int .i64 a, .int .i64 b, .int .i64 c, .int .i64 d, .int .i64 e, .int .i64 f] 3)) (w.alloc (.cells #[.int .i64 a, .int .i64 b, .int .i64 c, .int .i64 d, .int .i64 e, .int .i64 f] 3)).heap.size 1 (.slice (some ⟨w.heap.size, 0, none⟩) 6 6) [a, b, c, d, e, f] icell ∧ Below w.heap.size w (w.alloc (.cells #[.int .i64 a, .int .i64 b, .int .i64 c, .int .i64 d, .int .i64 e, .int .i64 f] 3)) := by
  have hb := Blk.new w 3 #[.int .i64 a, .int .i64 b, .int .i64 c, .int .i64 d, .int .i64 e, .int .i64 f]
  exact ⟨Arr.lit hb hb.lt rfl (by simp) (by omega) (by simp [cellsOf, List.range_succ]), (Below.refl _ _).alloc (Nat.le_refl _) _⟩
theorem flows6 (w : World) (a b c d e f : Int) : Arr (w.alloc (.cells #[.int .i64 a, .int .i64 b, .int .i64 c, .int .i64 d, .int .i64 e, .int .i64 f] 2)) (w.alloc (.cells #[.int .i64 a, .int .i64 b, .int .i64 c, .int .i64 d, .int .i64 e, .int .i64 f] 2)).heap.size 1 (.slice (some ⟨w.heap.size, 0, none⟩) 6 6) [a, b, c, d, e, f] icell ∧ Below w.heap.size w (w.alloc (.cells #[.int .i64 a, .int .i64 b, .int .i64 c, .int .i64 d, .int .i64 e, .int .i64 f] 2)) := by
  have hb := Blk.new w 2 #[.int .i64 a, .int .i64 b, .int .i64 c, .int .i64 d, .int .i64 e, .int .i64 f]
  exact ⟨Arr.lit hb hb.lt rfl (by simp) (by omega) (by simp [cellsOf, List.range_succ]), (Below.refl _ _).alloc (Nat.le_refl _) _⟩
theorem intsT (av bv : Value) (a : List Int) (w : World) (ha : Arr w w.heap.size 1 av a icell) (hb : Arr w w.heap.size 1 bv a icell) : Calls Try.prog 28 #[av, bv] w fun r w' => r = .returned (.bool true) ∧ Below w.heap.size w w' := by
  have := lints_ok av bv a a w ha hb
  rwa [show decide (a = a) = true by simp] at this
theorem listsT (av bv : Value) (a : List (List Int)) (w : World) (ha : LLi w av a) (hb : LLi w bv a) : Calls Try.prog 19 #[av, bv] w fun r w' => r = .returned (.bool true) ∧ Below w.heap.size w w' := by
  have := llists_ok av bv a a w ha hb
  rwa [show decide (a = a) = true by simp] at this
theorem lit14 (w : World) (a b c d e : Int) : LLi (((w.alloc (.cells #[.int .i64 a] 3)).alloc (.cells #[.int .i64 b, .int .i64 c, .int .i64 d, .int .i64 e] 3)).alloc (.cells #[.slice (some ⟨w.heap.size, 0, none⟩) 1 1, .slice (some ⟨w.heap.size + 1, 0, none⟩) 4 4] 23)) (.slice (some ⟨w.heap.size + 2, 0, none⟩) 2 2) [[a], [b, c, d, e]] ∧
    Below w.heap.size w (((w.alloc (.cells #[.int .i64 a] 3)).alloc (.cells #[.int .i64 b, .int .i64 c, .int .i64 d, .int .i64 e] 3)).alloc (.cells #[.slice (some ⟨w.heap.size, 0, none⟩) 1 1, .slice (some ⟨w.heap.size + 1, 0, none⟩) 4 4] 23)) := by
  have h := lit_ok w [[a], [b, c, d, e]] 23 (by simp) (by simp)
  exact ⟨h.1, h.2.1⟩
set_option maxRecDepth 100000 in
set_option maxHeartbeats 3200000 in
theorem lworks_ok (w : World) : Calls Try.prog 14 #[] w fun r w' => r = .returned (.bool true) ∧ Below w.heap.size w w' := by
  go_enter Try.func14, Try.ntmps14
  go_wp2_with fail
  refine (llist_ok w).mono ?_
  rintro e w1 ⟨ka, kc, aa, ac, ba, bc, rfl, hna, hB⟩
  go_upto_region 2 with (fail)
  have hE := NB.new hna
  have hb := (Below.refl w1.heap.size w1).alloc (Nat.le_refl _) (.cells #[.int .i64 exN.n, .slice ka exN.links.length kc, .slice aa exN.left.length ac, .slice ba exN.right.length bc] 25)
  replace hB := hB.trans (hb.mono hB.size)
  clear hna hb
  generalize w1.alloc (.cells #[.int .i64 exN.n, .slice ka exN.links.length kc, .slice aa exN.left.length ac, .slice ba exN.right.length bc] 25) = w2 at *
  generalize w1.heap.size = g0 at *
  obtain ⟨hq, hb⟩ := ints2 w2 0 2
  obtain ⟨k0, k1, k2, k3⟩ := hE.blk.c4
  go_wp2_with fail
  refine (groups_ok _ _ exN [0, 2] _ (hE.call hb).v hq).mono ?_
  rintro e w3 hp
  clear k0 k1 k2 k3
  rw [ex1.1, ex1.2] at hp
  obtain ⟨gv, rfl, hG, hb2⟩ := hp
  obtain ⟨gA, gc, rfl, -, -⟩ := hG.form
  replace hb := hb.trans (hb2.mono hb.size)
  replace hE := hE.call hb
  replace hB := hB.trans ((hb).mono hB.size)
  clear hb hb2 hq
  obtain ⟨hq, hb⟩ := ints1 w3 0
  obtain ⟨hr, hb2⟩ := ints3 (w3.alloc (.cells #[.int .i64 0] 3)) 0 2 4
  rw [show (w3.alloc (.cells #[.int .i64 0] 3)).heap.size = w3.heap.size + 1 by simp] at hr
  replace hq := hq.call hb2
  replace hb := hb.trans (hb2.mono hb.size)
  clear hb2
  obtain ⟨k0, k1, k2, k3⟩ := hE.blk.c4
  go_wp2_with fail
  refine (checkChain_ok _ _ _ exN [0] [0, 2, 4] _ (hE.call hb).v hq hr).mono ?_
  rintro e w4 hp
  clear k0 k1 k2 k3
  rw [ex2] at hp
  obtain ⟨rfl, hb2⟩ := hp
  replace hb := hb.trans (hb2.mono hb.size)
  replace hE := hE.call hb
  replace hB := hB.trans ((hb).mono hB.size)
  replace hG := hG.call hb
  clear hb hb2 hq hr
  obtain ⟨hq, hb⟩ := ints2 w4 0 2
  obtain ⟨k0, k1, k2, k3⟩ := hE.blk.c4
  go_wp2_with fail
  refine (chain_ok _ _ exN [0, 2] _ (hE.call hb).v hq).mono ?_
  rintro e w5 hp
  clear k0 k1 k2 k3
  rw [ex3] at hp
  obtain ⟨xv, xc, rfl, -, -, hb2⟩ := hp
  replace hb := hb.trans (hb2.mono hb.size)
  replace hE := hE.call hb
  replace hB := hB.trans ((hb).mono hB.size)
  replace hG := hG.call hb
  clear hb hb2 hq
  obtain ⟨hq, hb⟩ := ints2 w5 0 1
  obtain ⟨k0, k1, k2, k3⟩ := hE.blk.c4
  go_wp2_with fail
  refine (cut_ok _ _ exN [0, 1] _ (hE.call hb).v hq).mono ?_
  rintro e w6 hp
  clear k0 k1 k2 k3
  rw [ex4.1, ex4.2.1, ex4.2.2] at hp
  obtain ⟨cv, rfl, hC, hb2⟩ := hp
  obtain ⟨cA, cc, rfl, -⟩ := id hC
  replace hb := hb.trans (hb2.mono hb.size)
  replace hE := hE.call hb
  replace hB := hB.trans ((hb).mono hB.size)
  replace hG := hG.call hb
  clear hb hb2 hq
  obtain ⟨k0, k1, k2, k3⟩ := hE.blk.c4
  go_wp2_with fail
  refine (least_ok _ exN w6 hE.v).mono ?_
  rintro e w7 hp
  clear k0 k1 k2 k3
  rw [ex7, ex11, ex10] at hp
  obtain ⟨sv, rfl, hS, hb⟩ := hp
  obtain ⟨sA, sc, rfl, -⟩ := id hS
  replace hE := hE.call hb
  replace hB := hB.trans ((hb).mono hB.size)
  replace hG := hG.call hb
  replace hC := hC.call hb
  clear hb
  obtain ⟨hq, hb⟩ := flows6 w7 3 2 2 3 1 0
  obtain ⟨k0, k1, k2, k3⟩ := hE.blk.c4
  go_wp2_with fail
  refine (checkFlow_ok _ _ exN [3, 2, 2, 3, 1, 0] _ (hE.call hb).v hq).mono ?_
  rintro e w8 hp
  clear k0 k1 k2 k3
  rw [ex8] at hp
  obtain ⟨rfl, hb2⟩ := hp
  replace hb := hb.trans (hb2.mono hb.size)
  replace hE := hE.call hb
  replace hB := hB.trans ((hb).mono hB.size)
  replace hG := hG.call hb
  replace hC := hC.call hb
  replace hS := hS.call hb
  clear hb hb2 hq
  obtain ⟨k0, k1, k2, k3⟩ := hE.blk.c4
  go_wp2_with fail
  refine (flow_ok _ exN w8 hE.v).mono ?_
  rintro e w9 hp
  clear k0 k1 k2 k3
  rw [ex10] at hp
  obtain ⟨fv, fl, rfl, hfo, hF, hb⟩ := hp
  have hcf := ex17 hfo
  obtain ⟨fA, fc, rfl, -⟩ := id hF
  clear hfo
  replace hE := hE.call hb
  replace hB := hB.trans ((hb).mono hB.size)
  replace hG := hG.call hb
  replace hC := hC.call hb
  replace hS := hS.call hb
  clear hb
  obtain ⟨k0, k1, k2, k3⟩ := hE.blk.c4
  go_wp2_with fail
  refine (sides_ok _ exN w9 hE.v).mono ?_
  rintro e w10 hp
  clear k0 k1 k2 k3
  rw [ex6, ex10] at hp
  obtain ⟨kv, rfl, hK, hb⟩ := hp
  obtain ⟨kA, kc2, rfl, -⟩ := id hK
  replace hE := hE.call hb
  replace hB := hB.trans ((hb).mono hB.size)
  replace hG := hG.call hb
  replace hC := hC.call hb
  replace hS := hS.call hb
  replace hF := hF.call hb
  clear hb
  obtain ⟨hq, hb⟩ := ints1 w10 0
  obtain ⟨k0, k1, k2, k3⟩ := hE.blk.c4
  go_wp2_with fail
  refine (chain_ok _ _ exN [0] _ (hE.call hb).v hq).mono ?_
  rintro e w11 hp
  clear k0 k1 k2 k3
  rw [ex9] at hp
  obtain ⟨pv, pl, rfl, hpo, hP, hb2⟩ := hp
  have hpc := hpo.2 ex9
  obtain ⟨pA, pc, rfl, -⟩ := id hP
  clear hpo
  replace hb := hb.trans (hb2.mono hb.size)
  replace hE := hE.call hb
  replace hB := hB.trans ((hb).mono hB.size)
  replace hG := hG.call hb
  replace hC := hC.call hb
  replace hS := hS.call hb
  replace hF := hF.call hb
  replace hK := hK.call hb
  clear hb hb2 hq
  have HPC := Lib.hid hpc
  clear hpc
  obtain ⟨k0, k1, k2, k3⟩ := hE.blk.c4
  go_wp2_with fail
  refine (rcheckFlow_ok _ _ exN fl w11 hE.v hF).mono ?_
  rintro e w12 hp
  clear k0 k1 k2 k3
  rw [hcf] at hp
  obtain ⟨rfl, hb⟩ := hp
  replace hE := hE.call hb
  replace hB := hB.trans ((hb).mono hB.size)
  replace hG := hG.call hb
  replace hC := hC.call hb
  replace hS := hS.call hb
  replace hF := hF.call hb
  replace hK := hK.call hb
  replace hP := hP.call hb
  clear hb hcf hF
  obtain ⟨hq, hb⟩ := lit14 w12 0 1 2 3 4
  go_wp2_with fail
  refine (listsT _ _ _ _ (hG.call hb) hq).mono ?_
  rintro e w13 ⟨rfl, hb2⟩
  replace hb := hb.trans (hb2.mono hb.size)
  replace hE := hE.call hb
  replace hB := hB.trans ((hb).mono hB.size)
  replace hC := hC.call hb
  replace hS := hS.call hb
  replace hK := hK.call hb
  replace hP := hP.call hb
  clear hb hb2 hq hG
  obtain ⟨hq, hb⟩ := ints3 w13 1 2 4
  go_wp2_with fail
  refine (intsT _ _ _ _ (hC.call hb) hq).mono ?_
  rintro e w14 ⟨rfl, hb2⟩
  replace hb := hb.trans (hb2.mono hb.size)
  replace hE := hE.call hb
  replace hB := hB.trans ((hb).mono hB.size)
  replace hS := hS.call hb
  replace hK := hK.call hb
  replace hP := hP.call hb
  clear hb hb2 hq hC
  obtain ⟨hq, hb⟩ := ints1 w14 0
  go_wp2_with fail
  refine (intsT _ _ _ _ (hS.call hb) hq).mono ?_
  rintro e w15 ⟨rfl, hb2⟩
  replace hb := hb.trans (hb2.mono hb.size)
  replace hE := hE.call hb
  replace hB := hB.trans ((hb).mono hB.size)
  replace hK := hK.call hb
  replace hP := hP.call hb
  clear hb hb2 hq hS
  obtain ⟨hq, hb⟩ := ints5 w15 1 0 (-1) (-1) (-1)
  go_wp2_with fail
  refine (intsT _ _ _ _ (hK.call hb) hq).mono ?_
  rintro e w16 ⟨rfl, hb2⟩
  replace hb := hb.trans (hb2.mono hb.size)
  replace hE := hE.call hb
  replace hB := hB.trans ((hb).mono hB.size)
  replace hP := hP.call hb
  clear hb hb2 hq hK
  obtain ⟨hq, hb⟩ := ints1 w16 0
  obtain ⟨k0, k1, k2, k3⟩ := hE.blk.c4
  go_wp2_with fail
  refine (rcheckChain_ok _ _ _ exN [0] pl _ (hE.call hb).v hq (hP.call hb)).mono ?_
  rintro e w17 hp
  clear k0 k1 k2 k3
  rw [HPC.out] at hp
  obtain ⟨rfl, hb2⟩ := hp
  replace hb := hb.trans (hb2.mono hb.size)
  replace hE := hE.call hb
  replace hB := hB.trans ((hb).mono hB.size)
  clear hb hb2 hq hP
  go_wp2
  go_ret
  exact ⟨rfl, hB⟩
end Go.Proofs.Ytpkccmohlcndgaa
