/- Contract of the reference: Groups. -/
import Derived.Test.YtpkccmohlcndgaaRfJM
import Derived.Test.YtpkccmohlcndgaaPdM
namespace Go.Proofs.Ytpkccmohlcndgaa
open Go.RowKit Go.Shelf
set_option linter.unusedVariables false

theorem OwnL.call {w w' : World} {base : Nat} {v : Value} {xs : List VL} (h : OwnL w base v xs) (hb : Below w.heap.size w w') : OwnL w' base v xs := ⟨own_call h.1 hb, fun x hx => (h.2 x hx).call hb⟩
theorem OwnL.app {w w' : World} {base cap : Nat} {A : Option Addr} {v u : Value} {xs : List VL} {l : List Int} (h : OwnL w base (.slice A xs.length cap) xs) (hn : OwnI w base v l)
    (ho : w'.ownsRow base 23 1 u (xs.length + 1) (xs.map (·.1) ++ [v])) (hk : ∀ g, g < w.heap.size → (∀ ad, A = some ad → ad.block ≠ g) → w'.heap[g]? = w.heap[g]?) : OwnL w' base u (xs ++ [(v, l)]) := by
  have ht := own_type h.1 (show 23 ≠ 3 by decide)
  refine ⟨?_, fun x hx => ?_⟩
  · rw [List.length_append, List.length_singleton, List.map_append]
    exact ho
  · rcases List.mem_append.1 hx with hx | hx
    · exact (h.2 x hx).keep hk ht
    · obtain rfl := List.mem_singleton.1 hx
      exact hn.keep hk ht
/-- the names below a number that have a label -/
def grpTo (lab : Nat → Nat) (n k : Nat) : List Nat := (List.range k).filter fun u => lab u == n
theorem grpTo_yes {lab : Nat → Nat} {n k : Nat} (h : lab k = n) : grpTo lab n (k + 1) = grpTo lab n k ++ [k] := by
  unfold grpTo
  rw [List.range_succ, List.filter_append]
  simp [h]
theorem grpTo_no {lab : Nat → Nat} {n k : Nat} (h : lab k ≠ n) : grpTo lab n (k + 1) = grpTo lab n k := by
  unfold grpTo
  rw [List.range_succ, List.filter_append]
  simp [h]
theorem grpTo_len (lab : Nat → Nat) (n k : Nat) : (grpTo lab n k).length ≤ k := by
  unfold grpTo
  exact Nat.le_trans (List.length_filter_le _ _) (by simp)
theorem grpTo_all (ps : List (Nat × Nat)) (N n : Nat) : grpTo (labN ps N) n N = groupAt ps N n := rfl
set_option maxRecDepth 100000 in
set_option maxHeartbeats 3200000 in
theorem rGroups_ok (v dv : Value) (l : NL) (drop : List Int) (w : World) (hv : NLV w w.heap.size v l) (hd : Arr w w.heap.size 1 dv drop icell) :
    Calls Try.prog 16 #[v, dv] w fun r w' => ∃ gv, r = .returned (.tuple #[gv, .int .i64 (openE l drop)]) ∧ LLi w' gv (grpL l drop) ∧ Below w.heap.size w w' := by
  obtain ⟨ka, kc, aa, ac, ba, bc, rfl, hna⟩ := hv
  have hC := NB.new hna
  have hB := (Below.refl w.heap.size w).alloc (Nat.le_refl _) (.cells #[.int .i64 l.n, .slice ka l.links.length kc, .slice aa l.left.length ac, .slice ba l.right.length bc] 25)
  go_enter Try.func16, Try.ntmps16
  go_upto_region 1 with (fail)
  generalize hW : w.alloc (.cells #[.int .i64 l.n, .slice ka l.links.length kc, .slice aa l.left.length ac, .slice ba l.right.length bc] 25) = W at *
  clear hW
  replace hd := (hd.below hB).more hB.size
  obtain ⟨k0, k1, k2, k3⟩ := hC.blk.c4
  have ho := risDrop_ok _ dv l drop W hC.v hd
  go_wp2_with fail
  refine ho.mono ?_
  rintro e w1 ⟨rfl, hb⟩
  replace hB := hB.trans (hb.mono hB.size)
  replace hC := hC.call hb
  replace hd := hd.call hb
  clear ho k0 k1 k2 k3 hb
  obtain ⟨k0, k1, k2, k3⟩ := hC.blk.c4
  by_cases h0 : openE l drop = 0
  · have d0 : (openE l drop != 0) = false := by simpa using h0
    obtain ⟨hc0, hrd⟩ := openE_inv h0
    have hg := check_good.1 hc0
    have hdp : ∀ x ∈ drop, 0 ≤ x := fun x hx => by have := (rises_lo hrd x hx).1; omega
    have H0 := Lib.hid h0
    have HG := Lib.hid (grpL_go h0)
    have hnN := hg.nN
    have hN40 : l.N ≤ 40 := by have := hg.forty; omega
    clear h0 hc0 hrd
    have hgr := rgroups_ok _ dv l drop w1 hg hdp hC.v hd
    go_wp2_with fail
    refine hgr.mono ?_
    rintro e w2 ⟨ob, cap0, rfl, hO, hob, hb⟩
    have hblk : Blk w2 w.heap.size 25 _ := hC.blk.call hb
    rw [← hnN] at hblk
    replace hB := hB.trans (hb.mono hB.size)
    clear hgr k0 k1 k2 k3 hb hC hd hnN hdp
    have HE := Lib.hid (show groupsTo (pairsOf l.L (natL drop)) l.N l.N = groupsOf (pairsOf l.L (natL drop)) l.N from rfl)
    have HS := Lib.hid (groupsTo_succ (pairsOf l.L (natL drop)) l.N)
    have HA := Lib.hid (grpTo_all (pairsOf l.L (natL drop)) l.N)
    have HGL := Lib.hid (groupsTo_len (pairsOf l.L (natL drop)) l.N)
    have HZ : Hid (groupsTo (pairsOf l.L (natL drop)) l.N 0 = []) := rfl
    obtain ⟨GT, hGT⟩ : ∃ GT, GT = groupsTo (pairsOf l.L (natL drop)) l.N := ⟨_, rfl⟩
    obtain ⟨GA, hGA⟩ : ∃ GA, GA = groupAt (pairsOf l.L (natL drop)) l.N := ⟨_, rfl⟩
    obtain ⟨lab, hlab⟩ : ∃ lab, lab = labN (pairsOf l.L (natL drop)) l.N := ⟨_, rfl⟩
    rw [← hGT] at HE HS HZ HGL
    rw [← hGA] at HS HA
    rw [← hlab] at hO HA
    clear hGT hGA hlab
    go_wp2
    go_loopw [7, 8] (fun sv i wr => ∃ (n : Nat) (A : Option Addr) (cap : Nat) (xs : List VL), n ≤ l.N ∧ i = .int .i64 n ∧ sv = .slice A xs.length cap ∧ Hid (xs.map (·.2) = (GT n).map intL) ∧ OwnL wr w2.heap.size (.slice A xs.length cap) xs ∧ Below w2.heap.size w2 wr) (fun _ i _ => l.N - (intOf i).toNat)
    case atStart => exact ⟨0, none, 0, [], Nat.zero_le _, rfl, rfl, by rw [Hid, HZ.out]; rfl, ⟨World.ownsRow_nil _ _ _ _, fun x hx => by cases hx⟩, Below.refl _ _⟩
    case round =>
      obtain ⟨n, A, cap, xs, hn, rfl, rfl, hxs, hown, hbr⟩ := hrel
      obtain ⟨k0, k1, k2, k3⟩ := (hblk.call hbr).c4
      by_cases hlt : n < l.N
      · have d1 : decide (n < l.N) = true := decide_eq_true hlt
        have d1' : decide ((n : Int) < (l.N : Int)) = true := decide_eq_true (by omega)
        obtain ⟨wo, rfl⟩ : ∃ wo : World, wo = wr := ⟨_, rfl⟩
        go_wp2
        go_loopw [9, 10] (fun sv i wr => ∃ (k : Nat) (A2 : Option Addr) (cap2 : Nat), k ≤ l.N ∧ i = .int .i64 k ∧ sv = .slice A2 (grpTo lab n k).length cap2 ∧ wr.ownsRow wo.heap.size 3 1 (.slice A2 (grpTo lab n k).length cap2) (grpTo lab n k).length ((intL (grpTo lab n k)).map (Value.int .i64)) ∧ Below wo.heap.size wo wr) (fun _ i _ => l.N - (intOf i).toNat)
        case atStart => exact ⟨0, none, 0, Nat.zero_le _, rfl, rfl, by simpa [grpTo, intL] using World.ownsRow_nil _ _ _ _, Below.refl _ _⟩
        case round =>
          clear k0 k1 k2 k3
          obtain ⟨k, A2, cap2, hk, rfl, rfl, hownr, hbq⟩ := hrel
          have hbw := hbr.trans (hbq.mono hbr.size)
          obtain ⟨k0, k1, k2, k3⟩ := (hblk.call hbw).c4
          have hO2 := hO.call hbw
          have hgl := grpTo_len lab n k
          by_cases hkl : k < l.N
          · have d2 : decide (k < l.N) = true := decide_eq_true hkl
            have d2' : decide ((k : Int) < (l.N : Int)) = true := decide_eq_true (by omega)
            have hki : (k : Int) < (l.N : Int) := by omega
            obtain ⟨c0, -⟩ := hO2.cell (labR_at lab hkl)
            by_cases he : lab k = n
            · have HST := Lib.hid (grpTo_yes he)
              rw [he] at c0
              clear he hO2
              have hszq := hbq.size
              generalize hn0 : (grpTo lab n k).length = m at *
              have HN0 := Lib.hid hn0
              clear hn0
              obtain ⟨-, hnc, hncm⟩ := own_cap hownr
              go_wp2_with (at_builtin; refine wpList_app1 slT_int rfl (.tmp 39) (.tmp 41) rfl (A := A2) (cc := cap2) rfl ⟨cap2, hownr, .inl rfl⟩ rfl rfl one_1 hszq ?_ ?_ ?_)
              any_goals omega
              intro v4 w4 hown4 hb4 hkeep4
              have hown5 : w4.ownsRow wo.heap.size 3 1 v4 (grpTo lab n (k + 1)).length ((intL (grpTo lab n (k + 1))).map (Value.int .i64)) := by
                rw [HST.out, intL_append, List.map_append, List.length_append, HN0.out]
                exact hown4
              have hb5 := hbq.trans hb4
              obtain ⟨A4, c4, rfl⟩ := own_form hown5
              clear hown4 hb4 hkeep4 hownr hbq hbw
              go_wp2
              go_roundw
              case rel => exact ⟨k + 1, _, _, by omega, by go_num, rfl, hown5, hb5⟩
              case measure => (simp [intOf]; try omega)
            · have hst := grpTo_no he
              rw [← hst] at hownr ⊢
              have e1 : (((lab k : Nat) : Int) == (n : Int)) = false := by
                rw [beq_eq_false_iff_ne]
                omega
              clear he hst hO2
              generalize ((lab k : Nat) : Int) = p at *
              go_wp2
              go_roundw
              case rel => exact ⟨k + 1, _, _, by omega, by go_num, rfl, hownr, hbq⟩
              case measure => (simp [intOf]; try omega)
          · obtain rfl : k = l.N := by omega
            have d2 : decide (l.N < l.N) = false := by simp
            rw [HA.out] at hownr hgl
            rw [HA.out]
            have hsu := HS.out n
            have hgt := HGL.out n
            have hxl : xs.length ≤ n := by
              have e : xs.length = (GT n).length := by rw [← List.length_map (f := (·.2)), hxs.out, List.length_map]
              omega
            clear hgt
            have hownw := hown.call hbq
            have hil : (intL (GA n)).length = (GA n).length := by simp [intL]
            by_cases hz : GA n = []
            · rw [if_pos hz, List.append_nil] at hsu
              have HX : Hid (xs.map (·.2) = (GT (n + 1)).map intL) := by rw [Hid, hsu, hxs.out]
              have hzl : (GA n).length = 0 := by rw [hz]; rfl
              rw [hzl] at hownr ⊢
              clear hz hsu hxs hxl hil hown hownr hzl hO2
              go_wp2
              go_roundw
              case rel => exact ⟨n + 1, _, _, xs, by omega, by go_num, rfl, HX, hownw, hbw⟩
              case measure => (simp [intOf]; try omega)
            · rw [if_neg hz] at hsu
              have hpos : 0 < (GA n).length := List.length_pos_iff.2 hz
              have d3 : decide (0 < (GA n).length) = true := decide_eq_true hpos
              have d3' : decide ((0 : Int) < ((GA n).length : Int)) = true := decide_eq_true (by omega)
              have hnew : OwnI wr w2.heap.size (.slice A2 (GA n).length cap2) (intL (GA n)) := by
                have := OwnI.of (base' := w2.heap.size) (show wr.ownsRow wo.heap.size 3 1 (.slice A2 (GA n).length cap2) (intL (GA n)).length _ by rw [hil]; exact hownr) (by omega) hbr.size
                exact this
              have HX : Hid ((xs ++ [((.slice A2 (GA n).length cap2 : Value), intL (GA n))]).map (·.2) = (GT (n + 1)).map intL) := by
                rw [Hid, hsu, List.map_append, List.map_append, hxs.out]
                rfl
              have hszw := hbw.size
              clear hz hsu hxs hil hown hownr hO2 hpos hbq
              generalize (GA n).length = gm at *
              generalize intL (GA n) = gl at *
              go_upto_region 15 with (fail)
              obtain ⟨-, hnc, hncm⟩ := own_cap hownw.1
              go_wp2_with (at_builtin; refine wpList_app1 slT_ll rfl (.tmp 46) (.tmp 48) rfl (A := A) (cc := cap) rfl ⟨cap, hownw.1, .inl rfl⟩ rfl rfl (by simp [Value.oneCell']) hszw ?_ ?_ ?_)
              any_goals omega
              intro v4 w4 hown4 hb4 hkeep4
              have hown6 := hownw.app hnew hown4 hkeep4
              have hb6 := hbw.trans hb4
              have hl6 : (xs ++ [((.slice A2 gm cap2 : Value), gl)]).length = xs.length + 1 := by simp
              obtain ⟨A6, c6, rfl⟩ := own_form hown6.1
              clear hown4 hb4 hkeep4 hownw hnew hbw
              generalize xs ++ [((.slice A2 gm cap2 : Value), gl)] = ys at *
              go_wp2
              go_roundw
              case rel => exact ⟨n + 1, _, _, ys, by omega, by go_num, rfl, HX, hown6, hb6⟩
              case measure => (simp [intOf]; try omega)
      · obtain rfl : n = l.N := by omega
        have d1 : decide (l.N < l.N) = false := by simp
        have hli := hown.lli
        rw [hxs.out, HE.out, ← HG.out] at hli
        clear hown hxs
        go_wp2
        go_ret2
        exact ⟨_, by rw [H0.out]; rfl, hli, hB.trans (hbr.mono hB.size)⟩
  · have d0 : (openE l drop != 0) = true := by simpa using h0
    have HX := Lib.hid (grpL_bad h0)
    have ho2 := risDrop_ok _ dv l drop w1 hC.v hd
    clear h0
    go_wp2_with fail
    refine ho2.mono ?_
    rintro e w2 ⟨rfl, hb⟩
    replace hB := hB.trans (hb.mono hB.size)
    clear ho2
    go_wp2
    go_ret2
    exact ⟨_, rfl, by rw [HX.out]; exact LLB.nil_, hB⟩
end Go.Proofs.Ytpkccmohlcndgaa
