/- Contract of the laws' By: what it returns is a plan. -/
import Derived.Test.YthplabmbbfefeaaLawA
import Derived.Test.YthplabmbbfefeaaPln
import Derived.Test.YthplabmbbfefeaaOpen
import Derived.Test.YthplabmbbfefeaaRev
import Derived.Test.YthplabmbbfefeaaPlan
namespace Go.Proofs.Ythplabmbbfefeaa
open Go.RowKit Go.Shelf
set_option linter.unusedVariables false

/-- what By leaves: some plan -/
def ByPost (c : Cyl) (w : World) (r : Ending) (w' : World) : Prop :=
  ∃ (A : Option Addr) (cap : Nat) (l : List Str), r = .returned (.slice A l.length cap) ∧ Arr w' w'.heap.size 2 (.slice A l.length cap) l scell ∧ IsPlan c (tK c) l ∧ Below w.heap.size w w'

set_option maxRecDepth 100000 in
set_option maxHeartbeats 3200000 in
theorem by_ok (v bv : Value) (c : Cyl) (bl : List (Fin 256 × Fin 256)) (w : World) (hv : CylV w w.heap.size v c) (hs : Arr w w.heap.size 2 bv bl bycell) (h0 : checkCyl c = 0) :
    Calls Try.prog 34 #[v, bv] w (ByPost c w) := by
  obtain ⟨sa, sc, rfl, hs', hs'', -⟩ := id hs
  have hbl : bl.length ≤ 9223372036854775807 := Nat.le_trans hs' hs''
  clear hs' hs''
  obtain ⟨fa, fc, pa, pc, rfl, hf, hp⟩ := hv.open_
  have hC := CB.new hf hp
  have hB := (Below.refl w.heap.size w).alloc (Nat.le_refl _) (.cells #[.int .i64 c.turns, .int .i64 c.long, .int .i64 c.plays, .slice fa c.frag.length fc, .slice pa c.pas.length pc] 25)
  go_enter Try.func34, Try.ntmps34
  go_upto_region 1 with (fail)
  generalize hW : w.alloc (.cells #[.int .i64 c.turns, .int .i64 c.long, .int .i64 c.plays, .slice fa c.frag.length fc, .slice pa c.pas.length pc] 25) = W at *
  clear hW hf hp
  obtain ⟨k0, k1, k2, k3, k4⟩ := hC.c5
  have HS := Lib.hid ((hs.below hB).more hB.size)
  have H0 := Lib.hid h0
  obtain ⟨n1, n2, n3, n4, n5, n6, n7⟩ := cyl_nat h0
  have N1 : Hid (c.turns = (tT c : Int)) := n1
  have N2 : Hid (c.plays = (tK c : Int)) := n2
  have b1 : c.turns ≤ 30 := by omega
  have b2 : 0 ≤ c.plays := by omega
  have b3 : 1 ≤ c.turns := by omega
  have b4 : c.plays ≤ 6 := by omega
  clear hs h0 n1 n2
  go_wp2
  go_loopw [5, 6, 7] (fun o a i wr => ∃ (k : Nat) (A : Option Addr) (cap : Nat) (L : List Str) (t : Int), k ≤ bl.length ∧ i = .int .i64 k ∧ a = .int .i64 t ∧ 0 ≤ t ∧ t ≤ c.turns ∧ o = .slice A L.length cap ∧
      wr.ownsRow W.heap.size 55 2 (.slice A L.length cap) L.length (L.flatMap (cellsOf 2 scell)) ∧ SeqP c (-1) L ∧ (∀ s ∈ L, s.b < t) ∧ (L.length : Int) ≤ c.plays ∧ Below W.heap.size W wr) (fun _ _ i _ => bl.length - (intOf i).toNat)
  case atStart => exact ⟨0, none, 0, [], 0, Nat.zero_le _, rfl, rfl, by omega, by omega, rfl, by simpa using World.ownsRow_nil _ _ _ _, trivial, by simp, by simpa using b2, Below.refl _ _⟩
  case round =>
    obtain ⟨k, A, cap, L, t, hk, rfl, rfl, ht0, ht1, rfl, hown, hseq, hlt, hlen, hb⟩ := hrel
    have hcap := own_cap hown
    have hCr := hC.call hb
    have hBr := hB.trans (hb.mono hB.size)
    obtain ⟨k0, k1, k2, k3, k4⟩ := hCr.c5
    by_cases hk1 : k < bl.length
    · have e9 : IntKind.i64.wrap ((k : Int) + 1) = ((k + 1 : Nat) : Int) := by rw [IntKind.wrap_i64]; omega
      have d1 : decide (k < bl.length) = true := by simpa using hk1
      have d1' : decide ((k : Int) < (bl.length : Int)) = true := by simpa using hk1
      by_cases hl1 : (L.length : Int) < c.plays
      · have d2 : decide ((L.length : Int) < c.plays) = true := by simpa using hl1
        obtain ⟨b, off, x, hA', hBb, hx, hcc⟩ := HS.out.at_ hk1
        subst hA'
        have c0 := (hb.cell (p := ⟨b, off + k * 2 + 0, none⟩) hBb).trans (hcc 0 (by omega))
        have c1 := (hb.cell (p := ⟨b, off + k * 2 + 1, none⟩) hBb).trans (hcc 1 (by omega))
        simp only [Nat.add_zero, bycell] at c0 c1
        have q1 := x.1.isLt
        have q2 := x.2.isLt
        generalize x.1.val = y0 at *
        generalize x.2.val = y1 at *
        have e0 : IntKind.i64.wrap (y0 : Int) = y0 := by rw [IntKind.wrap_i64]; omega
        have e1 : IntKind.i64.wrap (y1 : Int) = y1 := by rw [IntKind.wrap_i64]; omega
        obtain ⟨t1, ht⟩ : ∃ t1 : Int, t1 = t + (y0 : Int) % 4 := ⟨_, rfl⟩
        have ht2 : t ≤ t1 ∧ t1 ≤ c.turns + 3 := by omega
        go_wp2_with fail
        rw [← ht]
        clear ht c0 e0
        go_loopw [6] (fun a wx => ∃ u : Int, a = .int .i64 u ∧ t ≤ u ∧ u ≤ c.turns + 3 ∧ Below wr.heap.size wr wx) (fun a _ => (c.turns + 3 - intOf a).toNat)
        case atStart => exact ⟨t1, rfl, ht2.1, ht2.2, Below.refl _ _⟩
        case round =>
          obtain ⟨u, rfl, hu1, hu2, hbx⟩ := hrel
          have hCx := hCr.call hbx
          have hBx := hBr.trans (hbx.mono hBr.size)
          clear k0 k1 k2 k3 k4
          obtain ⟨k0, k1, k2, k3, k4⟩ := hCx.c5
          have hownx := own_call hown hbx
          by_cases hu : u < c.turns
          · have d3 : decide (u < c.turns) = true := by simpa using hu
            have d4 : decide (c.turns ≤ u) = false := by simpa using hu
            go_wp2_with fail
            refine (worn_ok _ c u u _ hCx.cyl).mono ?_
            rintro e wy ⟨rfl, hby⟩
            have hby' := hbx.trans (hby.mono hbx.size)
            cases hw : worn c u u
            · have HW1 := Lib.hid hw
              have hCy := hCx.call hby
              have hBy := hBx.trans (hby.mono hBx.size)
              have hown1 := own_call hownx hby
              clear k0 k1 k2 k3 k4 hw
              obtain ⟨k0, k1, k2, k3, k4⟩ := hCy.c5
              go_wp2_with fail
              go_loopw [8] (fun a wz => ∃ z : Int, a = .int .i64 z ∧ u ≤ z ∧ z < c.turns ∧ z - u < c.long ∧ worn c u z = false ∧ Below wy.heap.size wy wz) (fun a _ => (c.turns - intOf a).toNat)
              case atStart => exact ⟨u, rfl, by omega, hu, by omega, HW1.out, Below.refl _ _⟩
              case round =>
                obtain ⟨z, rfl, hz1, hz2, hz3, hz4, hbz⟩ := hrel
                have HZ4 := Lib.hid hz4
                have hCz := hCy.call hbz
                have hBz := hBy.trans (hbz.mono hBy.size)
                have hownz := own_call hown1 hbz
                have hbz' := hby'.trans (hbz.mono hby'.size)
                clear k0 k1 k2 k3 k4 hz4
                obtain ⟨k0, k1, k2, k3, k4⟩ := hCz.c5
                have c1z := (hbz'.cell (p := ⟨b, off + k * 2 + 1, none⟩) (by have := hb.size; show b < _; omega)).trans c1
                have f0 := Ext.of k0
                have f1 := Ext.of k1
                have f2 := Ext.of k2
                have f3 := Ext.of k3
                have f4 := Ext.of k4
                have f5 := Ext.of c1z
                have e3 : IntKind.i64.wrap (z + 1) = z + 1 := by rw [IntKind.wrap_i64]; omega
                have e4 : IntKind.i64.wrap (z - u) = z - u := by rw [IntKind.wrap_i64]; omega
                by_cases hz5 : z + 1 < c.turns
                · have d5 : decide (z + 1 < c.turns) = true := by simpa using hz5
                  have HW := Lib.hid (fun x : Ext wr => ext_call x (worn_ok (.agg #[.int .i64 c.turns, .int .i64 c.long, .int .i64 c.plays, .slice fa c.frag.length fc, .slice pa c.pas.length pc]) c u (z + 1) x.w (hCz.call x.h).cyl))
                  obtain ⟨m, hm⟩ : ∃ m : Int, (y1 : Int) % c.long = m := ⟨_, rfl⟩
                  have hm1 : 0 ≤ m := by rw [← hm]; exact Int.emod_nonneg _ (by omega)
                  have hm2 : m < c.long := by rw [← hm]; exact Int.emod_lt_of_pos _ (by omega)
                  have hm3 : (y1 : Int).tmod c.long = m := by rw [Int.tmod_eq_emod_of_nonneg (by omega)]; exact hm
                  have e5 : IntKind.i64.wrap m = m := by rw [IntKind.wrap_i64]; omega
                  by_cases hz6 : z - u < m
                  · have d6 : decide (z - u < m) = true := by simpa using hz6
                    cases hw2 : worn c u (z + 1)
                    · rw [hw2] at HW
                      have HW2 := Lib.hid hw2
                      clear hw2
                      go_upto_region 12 with (fail)
                      clear k0 k1 k2 k3 k4 c1z
                      refine wp_region_ext (by kernel_rfl) (by kernel_rfl) ?_
                      repeat (go_big_quiet_step ((go_at_call 37; exact HW.out _)))
                      refine wpQuiet_nil ?_
                      intro _ hw'
                      obtain ⟨xr, hw''⟩ := hw'
                      subst hw''
                      go_wp2
                      go_roundw
                      case rel => exact ⟨z + 1, by go_num, by omega, by omega, by omega, HW2.out, hbz.trans (xr.h.mono hbz.size)⟩
                      case measure => (simp [intOf]; try omega)
                    · rw [hw2] at HW
                      clear hw2
                      go_upto_region 12 with (fail)
                      clear k0 k1 k2 k3 k4 c1z
                      refine wp_region_ext (by kernel_rfl) (by kernel_rfl) ?_
                      repeat (go_big_quiet_step ((go_at_call 37; exact HW.out _)))
                      refine wpQuiet_nil ?_
                      intro _ hw'
                      obtain ⟨xr, hw''⟩ := hw'
                      subst hw''
                      have hbq := hb.trans ((hbz'.trans (xr.h.mono hbz'.size)).mono hb.size)
                      have hownq := own_call hownz xr.h
                      obtain ⟨wq, hq⟩ := xr
                      dsimp only at *
                      go_wp2_with fail
                      refine (stretch_ok u z _).mono ?_
                      rintro e ws ⟨rfl, hbs⟩
                      have hown5 := own_call hownq hbs
                      have hbb := hbq.trans (hbs.mono hbq.size)
                      have hcap5 := own_cap hown5
                      go_wp2_with (at_builtin; refine wpList_app1 slT_str rfl (.tmp 79) (.tmp 83) rfl (A := A) (cc := cap) rfl ⟨cap, hown5, .inl rfl⟩ rfl rfl one_2 hbb.size ?_ ?_ ?_)
                      any_goals omega
                      intro v' w4 hown6 hb6 hkeep
                      have hown7 := own_snoc (cell := scell) (x := ⟨u, z⟩) (vals := #[.int .i64 u, .int .i64 z]) rfl (by simp [cellsOf, List.range_succ, scell]) hown6
                      obtain ⟨A', cap', rfl⟩ := own_form hown7
                      have hb7 := hbb.trans hb6
                      have hL7 : (L ++ [(⟨u, z⟩ : Str)]).length = L.length + 1 := by simp
                      rw [hL7] at hown7
                      clear hkeep hown6 hown5 hcap5 hown hownx hown1 hownz hownq
                      go_wp2
                      go_roundw
                      case rel =>
                        refine ⟨k + 1, A', cap', L ++ [⟨u, z⟩], z + 1, by omega, by go_num, by go_num, by omega, by omega, by rw [hL7], by rw [hL7]; exact hown7, seqP_snoc.2 ⟨hseq, ⟨by show 0 ≤ u; omega, hz1, hz2, hz3, HZ4.out⟩, by show -1 < u; omega, fun x hx => ?_⟩, fun x hx => ?_, by rw [hL7]; omega, hb7⟩
                        · have := hlt x hx
                          show x.b < u
                          omega
                        · rcases List.mem_append.1 hx with hx | hx
                          · have := hlt x hx; omega
                          · simp at hx; subst hx; show z < z + 1; omega
                      case measure => (simp [intOf]; try omega)
                  · have d6 : decide (z - u < m) = false := by simpa using hz6
                    go_upto_region 12 with (fail)
                    clear k0 k1 k2 k3 k4 c1z
                    refine wp_region_ext (by kernel_rfl) (by kernel_rfl) ?_
                    repeat (go_big_quiet_step ((go_at_call 37; exact HW.out _)))
                    refine wpQuiet_nil ?_
                    intro _ hw'
                    obtain ⟨xr, hw''⟩ := hw'
                    subst hw''
                    have hbq := hb.trans ((hbz'.trans (xr.h.mono hbz'.size)).mono hb.size)
                    have hownq := own_call hownz xr.h
                    obtain ⟨wq, hq⟩ := xr
                    dsimp only at *
                    go_wp2_with fail
                    refine (stretch_ok u z _).mono ?_
                    rintro e ws ⟨rfl, hbs⟩
                    have hown5 := own_call hownq hbs
                    have hbb := hbq.trans (hbs.mono hbq.size)
                    have hcap5 := own_cap hown5
                    go_wp2_with (at_builtin; refine wpList_app1 slT_str rfl (.tmp 79) (.tmp 83) rfl (A := A) (cc := cap) rfl ⟨cap, hown5, .inl rfl⟩ rfl rfl one_2 hbb.size ?_ ?_ ?_)
                    any_goals omega
                    intro v' w4 hown6 hb6 hkeep
                    have hown7 := own_snoc (cell := scell) (x := ⟨u, z⟩) (vals := #[.int .i64 u, .int .i64 z]) rfl (by simp [cellsOf, List.range_succ, scell]) hown6
                    obtain ⟨A', cap', rfl⟩ := own_form hown7
                    have hb7 := hbb.trans hb6
                    have hL7 : (L ++ [(⟨u, z⟩ : Str)]).length = L.length + 1 := by simp
                    rw [hL7] at hown7
                    clear hkeep hown6 hown5 hcap5 hown hownx hown1 hownz hownq
                    go_wp2
                    go_roundw
                    case rel =>
                      refine ⟨k + 1, A', cap', L ++ [⟨u, z⟩], z + 1, by omega, by go_num, by go_num, by omega, by omega, by rw [hL7], by rw [hL7]; exact hown7, seqP_snoc.2 ⟨hseq, ⟨by show 0 ≤ u; omega, hz1, hz2, hz3, HZ4.out⟩, by show -1 < u; omega, fun x hx => ?_⟩, fun x hx => ?_, by rw [hL7]; omega, hb7⟩
                      · have := hlt x hx
                        show x.b < u
                        omega
                      · rcases List.mem_append.1 hx with hx | hx
                        · have := hlt x hx; omega
                        · simp at hx; subst hx; show z < z + 1; omega
                    case measure => (simp [intOf]; try omega)
                · have d5 : decide (z + 1 < c.turns) = false := by simpa using hz5
                  go_upto_region 12 with (fail)
                  clear k0 k1 k2 k3 k4 c1z
                  refine wp_region_ext (by kernel_rfl) (by kernel_rfl) ?_
                  repeat (go_big_quiet_step (fail))
                  refine wpQuiet_nil ?_
                  intro _ hw'
                  obtain ⟨xr, hw''⟩ := hw'
                  subst hw''
                  have hbq := hb.trans ((hbz'.trans (xr.h.mono hbz'.size)).mono hb.size)
                  have hownq := own_call hownz xr.h
                  obtain ⟨wq, hq⟩ := xr
                  dsimp only at *
                  go_wp2_with fail
                  refine (stretch_ok u z _).mono ?_
                  rintro e ws ⟨rfl, hbs⟩
                  have hown5 := own_call hownq hbs
                  have hbb := hbq.trans (hbs.mono hbq.size)
                  have hcap5 := own_cap hown5
                  go_wp2_with (at_builtin; refine wpList_app1 slT_str rfl (.tmp 79) (.tmp 83) rfl (A := A) (cc := cap) rfl ⟨cap, hown5, .inl rfl⟩ rfl rfl one_2 hbb.size ?_ ?_ ?_)
                  any_goals omega
                  intro v' w4 hown6 hb6 hkeep
                  have hown7 := own_snoc (cell := scell) (x := ⟨u, z⟩) (vals := #[.int .i64 u, .int .i64 z]) rfl (by simp [cellsOf, List.range_succ, scell]) hown6
                  obtain ⟨A', cap', rfl⟩ := own_form hown7
                  have hb7 := hbb.trans hb6
                  have hL7 : (L ++ [(⟨u, z⟩ : Str)]).length = L.length + 1 := by simp
                  rw [hL7] at hown7
                  clear hkeep hown6 hown5 hcap5 hown hownx hown1 hownz hownq
                  go_wp2
                  go_roundw
                  case rel =>
                    refine ⟨k + 1, A', cap', L ++ [⟨u, z⟩], z + 1, by omega, by go_num, by go_num, by omega, by omega, by rw [hL7], by rw [hL7]; exact hown7, seqP_snoc.2 ⟨hseq, ⟨by show 0 ≤ u; omega, hz1, hz2, hz3, HZ4.out⟩, by show -1 < u; omega, fun x hx => ?_⟩, fun x hx => ?_, by rw [hL7]; omega, hb7⟩
                    · have := hlt x hx
                      show x.b < u
                      omega
                    · rcases List.mem_append.1 hx with hx | hx
                      · have := hlt x hx; omega
                      · simp at hx; subst hx; show z < z + 1; omega
                  case measure => (simp [intOf]; try omega)
            · go_wp2
              go_roundw
              case rel => exact ⟨u + 1, by go_num, by omega, by omega, hby'⟩
              case measure => (simp [intOf]; try omega)
          · have d3 : decide (u < c.turns) = false := by simpa using hu
            have d4 : decide (c.turns ≤ u) = true := by simpa using hu
            go_wp2
            go_ret
            exact ⟨A, cap, L, rfl, Arr.of_own hownx, ⟨hseq, by have := N2.out; omega⟩, hBx⟩
      · have d2 : decide ((L.length : Int) < c.plays) = false := by simpa using hl1
        go_wp2
        go_ret
        exact ⟨A, cap, L, rfl, Arr.of_own hown, ⟨hseq, by have := N2.out; omega⟩, hBr⟩
    · have d1 : decide (k < bl.length) = false := by simpa using hk1
      have d1' : decide ((k : Int) < (bl.length : Int)) = false := by simpa using hk1
      go_wp2
      go_ret
      exact ⟨A, cap, L, rfl, Arr.of_own hown, ⟨hseq, by have := N2.out; omega⟩, hBr⟩
end Go.Proofs.Ythplabmbbfefeaa
