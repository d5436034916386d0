/- Contract of the reference: CheckCylinder. -/
import Derived.Test.YtjjjockfppomdaaSlc
namespace Go.Proofs.Ytjjjockfppomdaa
open Go.RowKit Go.Shelf
set_option linter.unusedVariables false

set_option maxRecDepth 100000 in
set_option maxHeartbeats 1600000 in
theorem rcheckCyl_ok (v : Value) (c : Cyl) (w : World) (hv : CylV w w.heap.size v c) :
    Calls Try.prog 17 #[v] w fun r w' => r = .returned (.int .i64 (checkCyl c)) ∧ Below w.heap.size w w' := by
  obtain ⟨pa, pc, rfl, hp⟩ := hv.open_
  have hC := CB.new hp
  have hB := (Below.refl w.heap.size w).alloc (Nat.le_refl _) (.cells #[.slice pa c.pcs.length pc, .int .i64 c.off, .int .i64 c.slo, .int .i64 c.shi] 26)
  go_enter Try.func17, Try.ntmps17
  go_upto_region 1 with (fail)
  have HWS : Hid ((w.alloc (.cells #[.slice pa c.pcs.length pc, .int .i64 c.off, .int .i64 c.slo, .int .i64 c.shi] 26)).heap.size = w.heap.size + 1) := by simp [Hid]
  generalize hW : w.alloc (.cells #[.slice pa c.pcs.length pc, .int .i64 c.off, .int .i64 c.slo, .int .i64 c.shi] 26) = W at *
  clear hW hp
  obtain ⟨k0, k1, k2, k3⟩ := hC.c4
  by_cases h1 : c.pcs.length < 1
  · have d1 : decide (c.pcs.length < 1) = true := by simpa using h1
    have d1' : decide ((c.pcs.length : Int) < 1) = true := by simp; omega
    have HE : Hid (checkCyl c = 6) := by unfold checkCyl; rw [if_pos (by omega)]; exact rfl
    go_wp2
    go_ret
    exact ⟨by rw [HE.out]; rfl, hB⟩
  · have d1' : decide ((c.pcs.length : Int) < 1) = false := by simp; omega
    by_cases h2 : 8 < c.pcs.length
    · have d2' : decide ((8 : Int) < (c.pcs.length : Int)) = true := by simp; omega
      have HE : Hid (checkCyl c = 6) := by unfold checkCyl; rw [if_neg (by omega), if_pos h2]; exact rfl
      go_wp2
      go_ret
      exact ⟨by rw [HE.out]; rfl, hB⟩
    · have d2' : decide ((8 : Int) < (c.pcs.length : Int)) = false := by simp; omega
      have HE : Hid (checkCyl c = if ((okR 0 1000 c.off c.off && okR (-100000) 100000 c.slo c.shi) && c.pcs.all okP) = false then 2 else 0) := by unfold checkCyl; rw [if_neg (by omega), if_neg h2]; exact rfl
      have hn8 : c.pcs.length ≤ 8 := by omega
      go_wp2
      go_loopw [3] (fun i wr => ∃ n : Nat, n ≤ c.pcs.length ∧ i = .int .i64 n ∧ Below W.heap.size W wr ∧ c.pcs.all okP = (c.pcs.drop n).all okP) (fun i _ => c.pcs.length - (intOf i).toNat)
      case atStart => exact ⟨0, Nat.zero_le _, rfl, Below.refl _ _, rfl⟩
      case round =>
        obtain ⟨n, hn, rfl, hb, hall⟩ := hrel
        have hCr := hC.call hb
        clear k0 k1 k2 k3
        obtain ⟨k0, k1, k2, k3⟩ := hCr.c4
        by_cases hn1 : n < c.pcs.length
        · have d3 : decide (n < c.pcs.length) = true := by simpa using hn1
          have d3' : decide ((n : Int) < (c.pcs.length : Int)) = true := by simp; omega
          have hp0 : c.pcs[n]? = some c.pcs[n] := List.getElem?_eq_getElem hn1
          obtain ⟨p, hpe⟩ : ∃ p, p = c.pcs[n] := ⟨_, rfl⟩
          rw [← hpe] at hp0
          have hdr : c.pcs.drop n = p :: c.pcs.drop (n + 1) := by rw [List.drop_eq_getElem_cons hn1, hpe]
          have HBAD : Hid (∀ {e : En}, okE e = false → (e = p.a ∨ e = p.b) → checkCyl c = 2) := fun {e} h1 h2 => by
            rw [HE.out, hall, hdr, List.all_cons, okP_eq]
            have : (okE p.a && okE p.b) = false := by
              rcases h2 with rfl | rfl
              · rw [h1]; rfl
              · rw [h1]; simp
            rw [this]
            simp
          have HNEXT : Hid (okE p.a = true → okE p.b = true → c.pcs.all okP = (c.pcs.drop (n + 1)).all okP) := fun h1 h2 => by
            rw [hall, hdr, List.all_cons, okP_eq, h1, h2]; rfl
          have HP0 := Lib.hid hp0
          clear hall hdr hpe hp0
          obtain ⟨wo, hwo⟩ : ∃ wo : World, wo = wr := ⟨_, rfl⟩
          rw [← hwo] at hb hCr
          go_wp2
          rw [← hwo]
          clear hwo
          go_loopw [4] (fun i wr => ∃ k : Nat, k ≤ 2 ∧ i = .int .i64 k ∧ Below wo.heap.size wo wr ∧ (1 ≤ k → okE p.a = true) ∧ (2 ≤ k → okE p.b = true)) (fun i _ => 2 - (intOf i).toNat)
          case atStart => exact ⟨0, by omega, rfl, Below.refl _ _, fun h => by omega, fun h => by omega⟩
          case round =>
            obtain ⟨k, hk, rfl, hbj, ha1, ha2⟩ := hrel
            have hCj := hCr.call hbj
            clear k0 k1 k2 k3
            obtain ⟨k0, k1, k2, k3⟩ := hCj.c4
            obtain ⟨b, off, p', hpa, hpb, hp1, c0, c1, c2, c3, c4, c5, c6⟩ := piece_at hCj.ps hn1
            rw [HP0.out] at hp1
            injection hp1 with hp1
            subst hpa
            subst hp1
            have hk3 : k = 0 ∨ k = 1 ∨ k = 2 := by omega
            rcases hk3 with rfl | rfl | rfl
            · have HBAD := Lib.hid (fun h => HBAD.out (e := p.a) h (.inl rfl))
              go_upto_region 10 with (fail)
              have hbA := (Below.refl wr.heap.size wr).alloc (Nat.le_refl _) (.cells #[.int .i64 p.a.lo, .int .i64 p.a.hi, .int .i64 p.a.pl] 59)
              have hxs := Blk.new wr 59 #[.int .i64 p.a.lo, .int .i64 p.a.hi, .int .i64 p.a.pl]
              have hbjA := hbj.trans (hbA.mono hbj.size)
              clear c0 c1 c2 c3 c4 c5 c6
              generalize wr.alloc (.cells #[.int .i64 p.a.lo, .int .i64 p.a.hi, .int .i64 p.a.pl] 59) = wv at *
              generalize wr.heap.size = eb at *
              have s0 := hxs.cell 0
              have s1 := hxs.cell 1
              simp at s0 s1
              go_wp2_with fail
              refine (valid_ok p.a.lo p.a.hi 0 1000 _).mono ?_
              rintro e wq ⟨rfl, hbq⟩
              have s2 := (hxs.call hbq).cell 2
              simp at s2
              have hbj2 := hbjA.trans (hbq.mono hbjA.size)
              have hbz := hb.trans (hbj2.mono hb.size)
              clear s0 s1
              cases hv1 : okR 0 1000 p.a.lo p.a.hi
              · have HZ : Hid (checkCyl c = 2) := HBAD.out (by unfold okE; rw [hv1]; simp)
                go_wp2
                go_ret
                exact ⟨by rw [HZ.out]; rfl, hB.trans (hbz.mono hB.size)⟩
              · by_cases g1 : p.a.pl < 0
                · have d5 : decide (p.a.pl < 0) = true := by simpa using g1
                  have HZ : Hid (checkCyl c = 2) := HBAD.out (by unfold okE; simp; omega)
                  go_wp2
                  go_ret
                  exact ⟨by rw [HZ.out]; rfl, hB.trans (hbz.mono hB.size)⟩
                · have d5 : decide (p.a.pl < 0) = false := by simpa using g1
                  by_cases g2 : 100000 < p.a.pl
                  · have d6 : decide (100000 < p.a.pl) = true := by simpa using g2
                    have HZ : Hid (checkCyl c = 2) := HBAD.out (by unfold okE; simp; omega)
                    go_wp2
                    go_ret
                    exact ⟨by rw [HZ.out]; rfl, hB.trans (hbz.mono hB.size)⟩
                  · have d6 : decide (100000 < p.a.pl) = false := by simpa using g2
                    have hok : okE p.a = true := by unfold okE; rw [hv1]; simp; omega
                    have HOK := Lib.hid hok
                    clear hok hv1
                    go_wp2
                    go_roundw
                    case rel => exact ⟨1, by omega, by go_num, hbj2, fun _ => HOK.out, fun h => by omega⟩
                    case measure => (simp [intOf]; try omega)
            · have HBAD := Lib.hid (fun h => HBAD.out (e := p.b) h (.inr rfl))
              have HA1 := Lib.hid (ha1 (by omega))
              clear ha1 ha2
              go_upto_region 10 with (fail)
              have hbA := (Below.refl wr.heap.size wr).alloc (Nat.le_refl _) (.cells #[.int .i64 p.b.lo, .int .i64 p.b.hi, .int .i64 p.b.pl] 59)
              have hxs := Blk.new wr 59 #[.int .i64 p.b.lo, .int .i64 p.b.hi, .int .i64 p.b.pl]
              have hbjA := hbj.trans (hbA.mono hbj.size)
              clear c0 c1 c2 c3 c4 c5 c6
              generalize wr.alloc (.cells #[.int .i64 p.b.lo, .int .i64 p.b.hi, .int .i64 p.b.pl] 59) = wv at *
              generalize wr.heap.size = eb at *
              have s0 := hxs.cell 0
              have s1 := hxs.cell 1
              simp at s0 s1
              go_wp2_with fail
              refine (valid_ok p.b.lo p.b.hi 0 1000 _).mono ?_
              rintro e wq ⟨rfl, hbq⟩
              have s2 := (hxs.call hbq).cell 2
              simp at s2
              have hbj2 := hbjA.trans (hbq.mono hbjA.size)
              have hbz := hb.trans (hbj2.mono hb.size)
              clear s0 s1
              cases hv1 : okR 0 1000 p.b.lo p.b.hi
              · have HZ : Hid (checkCyl c = 2) := HBAD.out (by unfold okE; rw [hv1]; simp)
                go_wp2
                go_ret
                exact ⟨by rw [HZ.out]; rfl, hB.trans (hbz.mono hB.size)⟩
              · by_cases g1 : p.b.pl < 0
                · have d5 : decide (p.b.pl < 0) = true := by simpa using g1
                  have HZ : Hid (checkCyl c = 2) := HBAD.out (by unfold okE; simp; omega)
                  go_wp2
                  go_ret
                  exact ⟨by rw [HZ.out]; rfl, hB.trans (hbz.mono hB.size)⟩
                · have d5 : decide (p.b.pl < 0) = false := by simpa using g1
                  by_cases g2 : 100000 < p.b.pl
                  · have d6 : decide (100000 < p.b.pl) = true := by simpa using g2
                    have HZ : Hid (checkCyl c = 2) := HBAD.out (by unfold okE; simp; omega)
                    go_wp2
                    go_ret
                    exact ⟨by rw [HZ.out]; rfl, hB.trans (hbz.mono hB.size)⟩
                  · have d6 : decide (100000 < p.b.pl) = false := by simpa using g2
                    have hok : okE p.b = true := by unfold okE; rw [hv1]; simp; omega
                    have HOK := Lib.hid hok
                    clear hok hv1
                    go_wp2
                    go_roundw
                    case rel => exact ⟨2, by omega, by go_num, hbj2, fun _ => HA1.out, fun _ => HOK.out⟩
                    case measure => (simp [intOf]; try omega)
            · have HA1 := Lib.hid (HNEXT.out (ha1 (by omega)) (ha2 (by omega)))
              clear ha1 ha2
              have hbq := hb.trans (hbj.mono hb.size)
              go_wp2
              go_roundw
              case rel => exact ⟨n + 1, by omega, by go_num, hbq, HA1.out⟩
              case measure => (simp [intOf]; try omega)
        · obtain rfl : n = c.pcs.length := by omega
          have d3 : decide (c.pcs.length < c.pcs.length) = false := by simp
          rw [List.drop_length] at hall
          have HF : Hid (checkCyl c = if (okR 0 1000 c.off c.off && okR (-100000) 100000 c.slo c.shi) = false then 2 else 0) := by
            rw [Hid, HE.out, hall]; simp
          clear hall
          have hBr := hB.trans (hb.mono hB.size)
          by_cases g1 : c.off < 0
          · have d4 : decide (c.off < 0) = true := by simpa using g1
            have HZ : Hid (checkCyl c = 2) := by rw [Hid, HF.out, if_pos (by simp [okR]; omega)]
            go_wp2
            go_ret
            exact ⟨by rw [HZ.out]; rfl, hBr⟩
          · have d4 : decide (c.off < 0) = false := by simpa using g1
            by_cases g2 : 1000 < c.off
            · have d5 : decide (1000 < c.off) = true := by simpa using g2
              have HZ : Hid (checkCyl c = 2) := by rw [Hid, HF.out, if_pos (by simp [okR]; omega)]
              go_wp2
              go_ret
              exact ⟨by rw [HZ.out]; rfl, hBr⟩
            · have d5 : decide (1000 < c.off) = false := by simpa using g2
              have HQ : Hid (checkCyl c = if okR (-100000) 100000 c.slo c.shi = false then 2 else 0) := by
                have : okR 0 1000 c.off c.off = true := by simp [okR]; omega
                rw [Hid, HF.out, this, Bool.true_and]
              go_wp2_with fail
              refine (valid_ok c.slo c.shi (-100000) 100000 _).mono ?_
              rintro e wq ⟨rfl, hbq⟩
              cases hv1 : okR (-100000) 100000 c.slo c.shi
              · have HZ : Hid (checkCyl c = 2) := by rw [Hid, HQ.out, if_pos hv1]
                go_wp2
                go_ret
                exact ⟨by rw [HZ.out]; rfl, hBr.trans (hbq.mono hBr.size)⟩
              · have HZ : Hid (checkCyl c = 0) := by rw [Hid, HQ.out, if_neg (by rw [hv1]; simp)]
                go_wp2
                go_ret
                exact ⟨by rw [HZ.out]; rfl, hBr.trans (hbq.mono hBr.size)⟩
end Go.Proofs.Ytjjjockfppomdaa
