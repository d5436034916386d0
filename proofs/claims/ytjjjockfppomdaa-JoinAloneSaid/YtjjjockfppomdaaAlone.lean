/- Contract of the law JoinAlone: true. -/
import Derived.Test.YtjjjockfppomdaaJsp
import Derived.Test.YtjjjockfppomdaaSml
import Derived.Test.YtjjjockfppomdaaWrk
namespace Go.Proofs.Ytjjjockfppomdaa
open Go.RowKit Go.Shelf
set_option linter.unusedVariables false

theorem onlyM_none {c : Cyl} (h : checkCyl c = 0) (hj : joinsS c = []) : onlyM c = ([], 5) := by
  have h0 : (joinsN c).length = 0 := by rw [← joinsS_len, hj]; rfl
  unfold onlyM
  rw [if_neg (by simp [h]), if_pos h0]
theorem onlyM_many {c : Cyl} (h : checkCyl c = 0) (hj : 1 < (joinsS c).length) : onlyM c = ([], 6) := by
  rw [joinsS_len] at hj
  unfold onlyM
  rw [if_neg (by simp [h]), if_neg (by omega), if_pos hj]
theorem onlyM_one {c : Cyl} (h : checkCyl c = 0) {l : List St} (hj : joinsS c = [l]) : onlyM c = (l, 0) := by
  have h0 : (joinsN c).length = 1 := by rw [← joinsS_len, hj]; rfl
  unfold onlyM
  rw [if_neg (by simp [h]), if_neg (by omega), if_neg (by omega), hj]; rfl
theorem rivM_one {c : Cyl} {s : St} {l : List St} (h : checkCyl c = 0) (hj : joinsS c = [l]) (hs : isStep c s = true) : ∃ R E, rivM c s = (R, E) ∧ (∀ i : Nat, l[i]? = some s → E = 0 ∧ R = (l.drop (i + 1)).take 1) ∧ (s ∉ l → R = [] ∧ E = 5) := by
  rw [rivM_good h hs, hj]
  simp only [List.any_cons, List.any_nil, Bool.or_false, List.contains_iff_mem]
  by_cases hm : s ∈ l
  · rw [if_pos hm]
    exact ⟨_, _, rfl, fun i hi => ⟨rfl, riv_one hj hi⟩, fun hn => absurd hm hn⟩
  · rw [if_neg hm]
    exact ⟨_, _, rfl, fun i hi => absurd (List.mem_of_getElem? hi) hm, fun _ => ⟨rfl, rfl⟩⟩

set_option maxRecDepth 100000 in
set_option maxHeartbeats 3200000 in
theorem alone_ok (v : Value) (c : Cyl) (piece : Int) (turned : Bool) (w : World) (hv : CylV w w.heap.size v c) (h1 : (Lit.int .u8 piece).wf = true) :
    Calls Try.prog 7 #[v, .int .u8 piece, .bool turned] w fun r w' => r = .returned (.bool true) ∧ Below w.heap.size w w' := by
  obtain ⟨piece, rfl, ho⟩ := u8_nat h1
  clear h1
  obtain ⟨pa, pc, rfl, hp⟩ := hv.open_
  have hC := CB.new hp
  have hB := (Below.refl w.heap.size w).alloc (Nat.le_refl _) (.cells #[.slice pa c.pcs.length pc, .int .i64 c.off, .int .i64 c.slo, .int .i64 c.shi] 26)
  go_enter Try.func7, Try.ntmps7
  go_upto_region 1 with (fail)
  have HWS : Hid ((w.alloc (.cells #[.slice pa c.pcs.length pc, .int .i64 c.off, .int .i64 c.slo, .int .i64 c.shi] 26)).heap.size = w.heap.size + 1) := by simp [Hid]
  generalize hW : w.alloc (.cells #[.slice pa c.pcs.length pc, .int .i64 c.off, .int .i64 c.slo, .int .i64 c.shi] 26) = W at *
  clear hW hp
  clear hv HWS
  obtain ⟨k0, k1, k2, k3⟩ := hC.c4
  go_wp2_with fail
  refine (fine_ok _ c W hC.cyl).mono ?_
  rintro e w1 hp
  clear k0 k1 k2 k3
  obtain ⟨rfl, hb⟩ := hp
  replace hC := hC.call hb
  replace hB := hB.trans ((hb).mono hB.size)
  clear hb
  by_cases h0 : checkCyl c = 0
  · have d1 : decide (checkCyl c = 0) = true := by simpa using h0
    obtain ⟨J, hJ⟩ : ∃ J, J = joinsS c := ⟨_, rfl⟩
    by_cases hone : J.length = 1
    · obtain ⟨l, rfl⟩ : ∃ l, J = [l] := by
        match J, hone with
        | [l], _ => exact ⟨l, rfl⟩
      clear hone
      have hj := hJ.symm
      have HJ := Lib.hid hj
      have hcnt : countM c = (1, 0) := by rw [countM_good h0, hj]; rfl
      clear hJ
      have hlJ : l ∈ joinsS c := by rw [hj]; simp
      clear hj
      have hgood := checkJoin_iff.2 ⟨h0, mem_joinsS.1 hlJ⟩
      have hll := (mem_joinsS.1 hlJ).1
      have hl8 := good_len h0
      have HLL := Lib.hid (And.intro hll hl8)
      clear hll hl8
      obtain ⟨k0, k1, k2, k3⟩ := hC.c4
      go_wp2_with fail
      refine (count_ok _ c w1 hC.cyl).mono ?_
      rintro e w2 hp
      clear k0 k1 k2 k3
      rw [hcnt] at hp
      obtain ⟨rfl, hb⟩ := hp
      replace hC := hC.call hb
      replace hB := hB.trans ((hb).mono hB.size)
      clear hb hcnt
      obtain ⟨k0, k1, k2, k3⟩ := hC.c4
      go_wp2_with fail
      refine (only_ok _ c w2 hC.cyl).mono ?_
      rintro e w3 hp
      clear k0 k1 k2 k3
      obtain ⟨lA, lc, rfl, hL, hb⟩ := hp.at_ (onlyM_one h0 HJ.out)
      replace hC := hC.call hb
      replace hB := hB.trans ((hb).mono hB.size)
      clear hb hp
      obtain ⟨P, hP⟩ : ∃ P, P = passS c := ⟨_, rfl⟩
      have hpm : passM c = (P, 0) := by rw [hP]; exact passM_good h0 (by rw [HJ.out]; simp)
      have hpl : P.length = l.length - 1 := by rw [hP]; exact pass_one HJ.out
      have hph : Hid (∀ p ∈ P, hasS l p = true) := by
        rintro ⟨a, b⟩ hp
        rw [hP] at hp
        exact (mem_passS.1 hp).2.2 l hlJ
      clear hP
      obtain ⟨k0, k1, k2, k3⟩ := hC.c4
      go_wp2_with fail
      refine (passages_ok _ c w3 hC.cyl).mono ?_
      rintro e w4 hp
      clear k0 k1 k2 k3
      obtain ⟨pA, pq, rfl, hPA, hb⟩ := hp.at_ hpm
      replace hC := hC.call hb
      replace hB := hB.trans ((hb).mono hB.size)
      replace hL := (hL.below hb).more hb.size
      clear hb hp hpm
      have hrj := rcheckJoin_ok _ _ c l w4 hC.cyl hL
      rw [hgood] at hrj
      obtain ⟨k0, k1, k2, k3⟩ := hC.c4
      have hlen1 : 1 ≤ l.length := by have := HLL.out; omega
      have hlen8 : l.length ≤ 8 := by have := HLL.out; omega
      have d2 : IntKind.i64.wrap ((l.length : Int) - 1) = (P.length : Int) := by rw [wrap_id _ (by omega) (by omega)]; omega
      have HPL := Lib.hid hpl
      have HLE := Lib.hid (And.intro hlen1 hlen8)
      clear hpl hlen1 hlen8 hgood
      go_wp2_with fail
      refine hrj.mono ?_
      rintro e w5 ⟨rfl, hb⟩
      clear k0 k1 k2 k3 hrj
      replace hC := hC.call hb
      replace hB := hB.trans ((hb).mono hB.size)
      replace hL := (hL.below hb).more hb.size
      replace hPA := (hPA.below hb).more hb.size
      clear hb
      go_wp2
      go_loopw [13] (fun i wr => ∃ k : Nat, k ≤ P.length ∧ i = .int .i64 k ∧ Below w5.heap.size w5 wr) (fun i _ => P.length - (intOf i).toNat)
      case atStart => exact ⟨0, Nat.zero_le _, rfl, Below.refl _ _⟩
      case round =>
        obtain ⟨k, hk, rfl, hbr⟩ := hrel
        by_cases hk1 : k < P.length
        · have d3 : decide (k < P.length) = true := by simpa using hk1
          have d3' : decide ((k : Int) < (P.length : Int)) = true := by simp; omega
          have hki : (k : Int) < (P.length : Int) := by omega
          obtain ⟨pb, po, p, hpa, hpb, hp1, hp2⟩ := hPA.at_ hk1
          subst hpa
          have c0 : wr.cell? ⟨pb, po + k * 4, none⟩ = some (.int .i64 p.1.p) := (hbr.cell (p := ⟨pb, po + k * 4, none⟩) hpb).trans (hp2 0 (by omega))
          have c1 : wr.cell? ⟨pb, po + k * 4 + 1, none⟩ = some (.bool p.1.t) := (hbr.cell (p := ⟨pb, po + k * 4 + 1, none⟩) hpb).trans (hp2 1 (by omega))
          have c2 : wr.cell? ⟨pb, po + k * 4 + 2, none⟩ = some (.int .i64 p.2.p) := (hbr.cell (p := ⟨pb, po + k * 4 + 2, none⟩) hpb).trans (hp2 2 (by omega))
          have c3 : wr.cell? ⟨pb, po + k * 4 + 3, none⟩ = some (.bool p.2.t) := (hbr.cell (p := ⟨pb, po + k * 4 + 3, none⟩) hpb).trans (hp2 3 (by omega))
          have hh := has_ok _ l p wr ((hL.below hbr).more hbr.size)
          rw [hph.out p (List.mem_of_getElem? hp1)] at hh
          clear hp1 hp2
          go_wp2_with fail
          refine hh.mono ?_
          rintro e w6 ⟨rfl, hb⟩
          replace hbr := hbr.trans (hb.mono hbr.size)
          clear hb hh c0 c1 c2 c3
          have ek : IntKind.i64.wrap ((k : Int) + 1) = ((k + 1 : Nat) : Int) := by have := HLE.out; have := HPL.out; rw [IntKind.wrap_i64]; omega
          go_wp2
          go_roundw
          case rel => exact ⟨k + 1, by omega, by go_num, hbr⟩
          case measure => (simp [intOf]; try omega)
        · obtain rfl : k = P.length := by omega
          have d3 : decide (P.length < P.length) = false := by simp
          obtain ⟨wv, rfl⟩ : ∃ wv : World, wv = wr := ⟨wr, rfl⟩
          replace hC := hC.call hbr
          replace hB := hB.trans (hbr.mono hB.size)
          replace hL := (hL.below hbr).more hbr.size
          clear hbr hPA hk hk1 hph d2 HPL
          obtain ⟨Q, hQ⟩ : ∃ Q, Q = piece % c.pcs.length := ⟨_, rfl⟩
          have hQl : Q < c.pcs.length := by rw [hQ]; exact Nat.mod_lt _ HLL.out.2.1
          have c1 : IntKind.i64.wrap (piece : Int) = piece := wrap_id _ (by omega) (by omega)
          have m1 : (piece : Int).tmod (c.pcs.length : Int) = (Q : Int) := by rw [hQ]; rfl
          have c3 : IntKind.i64.wrap (Q : Int) = Q := wrap_id _ (by omega) (by have := HLL.out; omega)
          have nz : ((c.pcs.length : Int) == 0) = false := beq_false_of_ne (by have := HLL.out; omega)
          clear hQ
          obtain ⟨k0, k1, k2, k3⟩ := hC.c4
          go_upto_region 18 with (fail)
          have hlt := hC.blk.lt
          have hle := hB.size
          have hT := Blk.new wv 28 #[.int .i64 Q, .bool false]
          have hb := (Below.refl wv.heap.size wv).alloc (Nat.le_refl _) (.cells #[.int .i64 Q, .bool false] 28)
          replace hC := hC.call hb
          replace hB := hB.trans ((hb).mono hB.size)
          replace hL := hL.below hb
          clear hb k0 k1 k2 k3 c1 m1 c3 nz
          generalize wv.heap.size = sb at *
          generalize wv.alloc (.cells #[.int .i64 Q, .bool false] 28) = wa at *
          obtain ⟨qb, qo, q, hqa, hqb, hq1, -, -, -, -, -, -, q6⟩ := piece_at hC.ps hQl
          subst hqa
          have hstep : isStep c ⟨(Q : Int), turned && q.loose⟩ = true := by
            have hpc : pcAt c (Q : Int) = q := by unfold pcAt; rw [Int.toNat_natCast, hq1]; rfl
            unfold isStep
            simp only [hpc]
            cases turned <;> cases q.loose <;> simp <;> omega
          have hQi : (Q : Int) < (c.pcs.length : Int) := by omega
          obtain ⟨tb, htb⟩ : ∃ tb, tb = (turned && q.loose) := ⟨_, rfl⟩
          rw [← htb] at hstep
          go_upto_region 18 with (fail)
          go_cut [] from 110 to 120 (fun wx => Blk wx sb 28 #[.int .i64 Q, .bool tb] ∧ Below sb wa wx)
          case first =>
            have t0 := hT.cell 0
            have t1 := hT.cell 1
            simp at t0 t1
            obtain ⟨k0, k1, k2, k3⟩ := hC.c4
            have tz := fun i => hT.frozen i
            have hset := fun u => hT.set_ 1 (.bool u)
            have hbs := fun u => (Below.refl sb wa).setCell (p := ⟨sb, 1, none⟩) (Nat.le_refl _) (.bool u)
            clear hq1 hQl hL hB hlt hle
            cases turned
            · have htf : tb = false := by rw [htb]; rfl
              subst htf
              clear htb hstep
              go_wp2
              go_meet
              case rel => exact ⟨by simpa using hset false, hbs false⟩
            · have htf : tb = q.loose := by rw [htb]; rfl
              subst htf
              clear htb hstep
              go_wp2
              go_meet
              case rel => exact ⟨by simpa using hset q.loose, hbs q.loose⟩
          case rest =>
            obtain ⟨hT2, hb⟩ := hcut
            clear hT q6
            replace hC := hC.belowB hb hlt
            replace hB := hB.trans (hb.mono hle)
            replace hL := (hL.below hb).more (Nat.le_of_lt hT2.lt)
            clear hb htb hq1 hqb hQi hQl hlt hle
            obtain ⟨wb, rfl⟩ : ∃ wb : World, wb = wc := ⟨wc, rfl⟩
            obtain ⟨k0, k1, k2, k3⟩ := hC.c4
            have t0 := hT2.cell 0
            have t1 := hT2.cell 1
            simp at t0 t1
            obtain ⟨R, E, hrm, hr1, hr2⟩ := rivM_one h0 HJ.out hstep
            go_wp2_with fail
            refine (rivals_ok _ c ⟨(Q : Int), tb⟩ wb hC.cyl).mono ?_
            rintro e wd hp
            obtain ⟨rA, rc, rfl, hR, hb⟩ := hp.at_ hrm
            clear hp hrm k0 k1 k2 k3 t0 t1
            replace hT2 := hT2.call hb
            replace hB := hB.trans (hb.mono hB.size)
            replace hL := (hL.below hb).more hb.size
            clear hb hC
            have HR1 := Lib.hid hr1
            have HR2 := Lib.hid hr2
            clear hr1 hr2
            go_wp2
            go_loopw [17] (fun i wr => ∃ k : Nat, k ≤ l.length ∧ i = .int .i64 k ∧ Below wd.heap.size wd wr ∧ Hid (∀ j, j < k → l[j]? ≠ some ⟨(Q : Int), tb⟩)) (fun i _ => l.length - (intOf i).toNat)
            case atStart => exact ⟨0, Nat.zero_le _, rfl, Below.refl _ _, fun j hj => by omega⟩
            case round =>
              obtain ⟨k, hk, rfl, hbr, hno⟩ := hrel
              by_cases hk1 : k < l.length
              · have d3 : decide (k < l.length) = true := by simpa using hk1
                have d3' : decide ((k : Int) < (l.length : Int)) = true := by simp; omega
                have hki : (k : Int) < (l.length : Int) := by omega
                obtain ⟨xb, xo, x, hxa, hxb, hx1, hx2⟩ := hL.at_ hk1
                subst hxa
                have c0 := (hbr.cell (p := ⟨xb, xo + k * 2 + 0, none⟩) hxb).trans (hx2 0 (by omega))
                have c1 := (hbr.cell (p := ⟨xb, xo + k * 2 + 1, none⟩) hxb).trans (hx2 1 (by omega))
                simp only [Nat.add_zero, stcell] at c0 c1
                have hTr := hT2.call hbr
                have t0 := hTr.cell 0
                have t1 := hTr.cell 1
                simp at t0 t1
                have f0 := Ext.of c0
                have f1 := Ext.of c1
                have f2 := Ext.of t0
                have f3 := Ext.of t1
                have ek : IntKind.i64.wrap ((k : Int) + 1) = ((k + 1 : Nat) : Int) := by have := HLE.out; rw [IntKind.wrap_i64]; omega
                have ek2 : IntKind.i64.wrap ((k : Int) + 2) = ((k + 2 : Nat) : Int) := by have := HLE.out; rw [IntKind.wrap_i64]; omega
                have HX := Lib.hid hx1
                obtain ⟨xp, xt⟩ := x
                have hq : ∀ w', (Op.equalIn 10000 28 (.agg #[.int .i64 xp, .bool xt]) (.agg #[.int .i64 Q, .bool tb])).run Try.prog w' = .ok (xp == (Q : Int) && xt == tb) w' := fun w' => eq_st _ _ _ _ w'
                clear hx1 hx2 c0 c1 t0 t1
                cases hz : (xp == (Q : Int) && xt == tb)
                · have HN : Hid (∀ j, j < k + 1 → l[j]? ≠ some ⟨(Q : Int), tb⟩) := fun j hj e => by
                    by_cases hjk : j = k
                    · subst hjk
                      rw [HX.out] at e
                      simp only [Option.some.injEq, St.mk.injEq] at e
                      rw [e.1, e.2] at hz
                      simp at hz
                    · exact hno.out j (by omega) e
                  rw [hz] at hq
                  go_upto_region 23 with (fail)
                  refine wp_region_ext (by kernel_rfl) (by kernel_rfl) ?_
                  repeat (go_big_quiet_step (fail))
                  refine wpQuiet_nil ?_
                  intro _ hw'
                  obtain ⟨xr, hw''⟩ := hw'
                  subst hw''
                  have hbz := hbr.trans (xr.h.mono hbr.size)
                  go_wp2
                  go_roundw
                  case rel => exact ⟨k + 1, by omega, by go_num, hbz, HN⟩
                  case measure => (simp [intOf]; try omega)
                · rw [hz] at hq
                  have hat : l[k]? = some ⟨(Q : Int), tb⟩ := by
                    simp only [Bool.and_eq_true, beq_iff_eq] at hz
                    rw [HX.out, hz.1, hz.2]
                  obtain ⟨hE, hRe⟩ := HR1.out k hat
                  subst hE
                  go_upto_region 23 with (fail)
                  refine wp_region_ext (by kernel_rfl) (by kernel_rfl) ?_
                  repeat (go_big_quiet_step (fail))
                  refine wpQuiet_nil ?_
                  intro _ hw'
                  obtain ⟨xr, hw''⟩ := hw'
                  subst hw''
                  have hbz := hbr.trans (xr.h.mono hbr.size)
                  clear f0 f1 f2 f3 hq hz hat
                  obtain ⟨wz, hwz⟩ : ∃ wz, wz = xr.w := ⟨_, rfl⟩
                  rw [← hwz] at hbz ⊢
                  clear hwz
                  have HRe := Lib.hid hRe
                  have hRz := (hR.below hbz).more hbz.size
                  have hLz := (hL.below hbz).more hbz.size
                  replace hB := hB.trans (hbz.mono hB.size)
                  clear hRe HR1 HR2 hR hL hbz hbr hTr hT2
                  have hlc := hLz.len_.2.1
                  by_cases hlast : k + 2 ≤ l.length
                  · have e1 : ¬ ((l.length : Int) < (k : Int) + 2) := by omega
                    have e2 : ¬ (lc = k + 1) := by omega
                    clear hlast
                    go_wp2_with fail
                    refine (sameT _ _ R wz hRz ?_).mono ?_
                    · rw [HRe.out, show (l.drop (k + 1)).take 1 = (l.drop (k + 1)).take ((k + 2) - (k + 1)) by first | (congr 1; omega) | (rw [List.drop_eq_nil_of_le (by omega)]; simp)]
                      exact hLz.sub (lo := k + 1) (hi := (k + 2)) (by omega) (by omega) (by omega) (by omega) (fun _ b off e => by injection e with e; injection e with e3 e4; subst e3 e4; rfl)
                    · rintro e w15 ⟨rfl, hb⟩
                      replace hB := hB.trans (hb.mono hB.size)
                      clear hb hLz hRz
                      go_wp2_with fail
                      refine (works_ok w15).mono ?_
                      rintro e w16 ⟨rfl, hb⟩
                      replace hB := hB.trans (hb.mono hB.size)
                      clear hb
                      go_wp2
                      go_ret
                      exact ⟨rfl, hB⟩
                  · have e1 : (l.length : Int) < (k : Int) + 2 := by omega
                    by_cases hcap : lc = k + 1
                    · subst hcap
                      go_wp2_with fail
                      refine (sameT _ _ R wz hRz ?_).mono ?_
                      · rw [HRe.out, show (l.drop (k + 1)).take 1 = (l.drop (k + 1)).take (l.length - (k + 1)) by first | (congr 1; omega) | (rw [List.drop_eq_nil_of_le (by omega)]; simp)]
                        exact hLz.sub (lo := k + 1) (hi := l.length) (by omega) (by omega) (by omega) (by omega) (fun h => absurd h (by omega))
                      · rintro e w15 ⟨rfl, hb⟩
                        replace hB := hB.trans (hb.mono hB.size)
                        clear hb hLz hRz
                        go_wp2_with fail
                        refine (works_ok w15).mono ?_
                        rintro e w16 ⟨rfl, hb⟩
                        replace hB := hB.trans (hb.mono hB.size)
                        clear hb
                        go_wp2
                        go_ret
                        exact ⟨rfl, hB⟩
                    · clear hlast
                      go_wp2_with fail
                      refine (sameT _ _ R wz hRz ?_).mono ?_
                      · rw [HRe.out, show (l.drop (k + 1)).take 1 = (l.drop (k + 1)).take (l.length - (k + 1)) by first | (congr 1; omega) | (rw [List.drop_eq_nil_of_le (by omega)]; simp)]
                        exact hLz.sub (lo := k + 1) (hi := l.length) (by omega) (by omega) (by omega) (by omega) (fun h => absurd h (by omega))
                      · rintro e w15 ⟨rfl, hb⟩
                        replace hB := hB.trans (hb.mono hB.size)
                        clear hb hLz hRz
                        go_wp2_with fail
                        refine (works_ok w15).mono ?_
                        rintro e w16 ⟨rfl, hb⟩
                        replace hB := hB.trans (hb.mono hB.size)
                        clear hb
                        go_wp2
                        go_ret
                        exact ⟨rfl, hB⟩
              · obtain rfl : k = l.length := by omega
                have d3 : decide (l.length < l.length) = false := by simp
                obtain ⟨hR0, hE⟩ := HR2.out fun hm => by
                  obtain ⟨j, hj, he⟩ := List.getElem_of_mem hm
                  exact hno.out j hj (by rw [List.getElem?_eq_getElem hj, he])
                subst hE hR0
                obtain ⟨wz, hwz⟩ : ∃ wz, wz = wr := ⟨_, rfl⟩
                rw [← hwz] at hbr ⊢
                clear hwz hL hR hT2 HR1 HR2
                replace hB := hB.trans (hbr.mono hB.size)
                go_wp2_with fail
                refine (works_ok wz).mono ?_
                rintro e wy ⟨rfl, hb⟩
                replace hB := hB.trans (hb.mono hB.size)
                clear hb
                go_wp2
                go_ret
                exact ⟨rfl, hB⟩
    · by_cases hz : J = []
      · subst hz
        have hj := hJ.symm
        have hcnt : countM c = (0, 0) := by rw [countM_good h0, hj]; rfl
        have hom := onlyM_none h0 hj
        have hpm := passM_none h0 hj
        clear hJ hj hone
        obtain ⟨k0, k1, k2, k3⟩ := hC.c4
        go_wp2_with fail
        refine (count_ok _ c w1 hC.cyl).mono ?_
        rintro e w2 hp
        clear k0 k1 k2 k3
        rw [hcnt] at hp
        obtain ⟨rfl, hb⟩ := hp
        replace hC := hC.call hb
        replace hB := hB.trans ((hb).mono hB.size)
        clear hb hcnt
        obtain ⟨k0, k1, k2, k3⟩ := hC.c4
        go_wp2_with fail
        refine (only_ok _ c w2 hC.cyl).mono ?_
        rintro e w3 hp
        clear k0 k1 k2 k3
        obtain ⟨lA, lc, rfl, -, hb⟩ := hp.at_ hom
        replace hC := hC.call hb
        replace hB := hB.trans ((hb).mono hB.size)
        clear hb hp hom
        obtain ⟨k0, k1, k2, k3⟩ := hC.c4
        go_wp2_with fail
        refine (passages_ok _ c w3 hC.cyl).mono ?_
        rintro e w4 hp
        clear k0 k1 k2 k3
        obtain ⟨pA, pq, rfl, -, hb⟩ := hp.at_ hpm
        replace hC := hC.call hb
        replace hB := hB.trans ((hb).mono hB.size)
        clear hb hp hpm
        go_wp2_with fail
        refine (works_ok w4).mono ?_
        rintro e w5 ⟨rfl, hb⟩
        replace hB := hB.trans (hb.mono hB.size)
        clear hb
        go_wp2
        go_ret
        exact ⟨rfl, hB⟩
      · have hj := hJ.symm
        have hn1 : 1 < J.length := by
          have := List.length_pos_iff.2 hz
          omega
        have hcnt : countM c = ((J.length : Int), 0) := by rw [countM_good h0, hj]
        have hom := onlyM_many h0 (by rw [hj]; exact hn1)
        obtain ⟨P, hP⟩ : ∃ P, P = passS c := ⟨_, rfl⟩
        have hpm : passM c = (P, 0) := by rw [hP]; exact passM_good h0 (by rw [hj]; exact hz)
        obtain ⟨n, hn⟩ : ∃ n, n = J.length := ⟨_, rfl⟩
        rw [← hn] at hcnt hn1
        have e1 : ((n : Int) != 1) = true := by simp; omega
        have e2 : ((n : Int) == 0) = false := beq_false_of_ne (by omega)
        have e3 : decide ((1 : Int) < (n : Int)) = true := by simp; omega
        have e4 : decide (1 < n) = true := by simpa using hn1
        clear hJ hj hone hP hn hz
        obtain ⟨k0, k1, k2, k3⟩ := hC.c4
        go_wp2_with fail
        refine (count_ok _ c w1 hC.cyl).mono ?_
        rintro e w2 hp
        clear k0 k1 k2 k3
        rw [hcnt] at hp
        obtain ⟨rfl, hb⟩ := hp
        replace hC := hC.call hb
        replace hB := hB.trans ((hb).mono hB.size)
        clear hb hcnt
        obtain ⟨k0, k1, k2, k3⟩ := hC.c4
        go_wp2_with fail
        refine (only_ok _ c w2 hC.cyl).mono ?_
        rintro e w3 hp
        clear k0 k1 k2 k3
        obtain ⟨lA, lc, rfl, -, hb⟩ := hp.at_ hom
        replace hC := hC.call hb
        replace hB := hB.trans ((hb).mono hB.size)
        clear hb hp hom
        obtain ⟨k0, k1, k2, k3⟩ := hC.c4
        go_wp2_with fail
        refine (passages_ok _ c w3 hC.cyl).mono ?_
        rintro e w4 hp
        clear k0 k1 k2 k3
        obtain ⟨pA, pq, rfl, -, hb⟩ := hp.at_ hpm
        replace hC := hC.call hb
        replace hB := hB.trans ((hb).mono hB.size)
        clear hb hp hpm
        go_wp2_with fail
        refine (works_ok w4).mono ?_
        rintro e w5 ⟨rfl, hb⟩
        replace hB := hB.trans (hb.mono hB.size)
        clear hb
        go_wp2
        go_ret
        exact ⟨rfl, hB⟩
  · have d1 : decide (checkCyl c = 0) = false := by simpa using h0
    go_wp2_with fail
    refine (works_ok w1).mono ?_
    rintro e w2 ⟨rfl, hb⟩
    replace hB := hB.trans (hb.mono hB.size)
    clear hb
    go_wp2
    go_ret
    exact ⟨rfl, hB⟩
end Go.Proofs.Ytjjjockfppomdaa
