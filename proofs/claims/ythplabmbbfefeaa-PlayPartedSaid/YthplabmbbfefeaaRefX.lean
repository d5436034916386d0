/- Contract of the reference: CheckLabels. -/
import Derived.Test.YthplabmbbfefeaaRefW
import Derived.Test.YthplabmbbfefeaaLab
import Derived.Test.YthplabmbbfefeaaSchedH
namespace Go.Proofs.Ythplabmbbfefeaa
open Go.RowKit Go.Shelf
set_option linter.unusedVariables false

def badY (y : Int) : Bool := decide (y < 0) || decide (1099511627776 < y)
theorem badRange_any (l : List Int) : badRange l = l.any badY := by
  unfold badRange badY
  induction l with
  | nil => rfl
  | cons x r ih =>
    simp only [List.any_cons]
    rw [← ih]
    cases decide (x < 0) <;> cases decide (1099511627776 < x) <;> simp

/-- labels are right as seen from t turns and k playings: the three conditions -/
def OkT (V : Nat → Nat → Int) (T t k : Nat) : Prop := t < T → V t k ≤ V (t + 1) k
def OkK (V : Nat → Nat → Int) (K t k : Nat) : Prop := k < K → V t k ≤ V t (k + 1)
def OkU (c : Cyl) (V : Nat → Nat → Int) (K t k u : Nat) : Prop := OkS c ⟨(t : Int), (u : Int)⟩ → k < K → V t k + sumW (ownW c.pas) ⟨(t : Int), (u : Int)⟩ 0 c.pas ≤ V (u + 1) (k + 1)
def OkAt (c : Cyl) (V : Nat → Nat → Int) (T K t k : Nat) : Prop := OkT V T t k ∧ OkK V K t k ∧ ∀ u, t ≤ u → u < T → OkU c V K t k u

theorem goodLab_at {c : Cyl} {V : Nat → Nat → Int} (h : c.turns = (tT c : Int)) (h0 : V 0 0 = 0) (hh : ∀ t k, t ≤ tT c → k ≤ tK c → OkAt c V (tT c) (tK c) t k) : goodLab c V = true := by
  refine (goodLab_iff c h V).2 ⟨h0, fun t k ht hk => (hh t k (by omega) hk).1 ht, fun t k ht hk => (hh t k ht (by omega)).2.1 hk, fun s k hs hk => ?_⟩
  have hs' := hs
  unfold OkS at hs'
  have e : s = ⟨(s.a.toNat : Int), (s.b.toNat : Int)⟩ := by
    obtain ⟨a, b⟩ := s
    simp at hs'
    simp only [Str.mk.injEq]
    omega
  have := (hh s.a.toNat k (by omega) (by omega)).2.2 s.b.toNat (by omega) (by omega)
  unfold OkU at this
  rw [← e] at this
  rw [show (s.b + 1).toNat = s.b.toNat + 1 by omega]
  exact this hs hk
theorem goodLab_not {c : Cyl} {V : Nat → Nat → Int} {t k : Nat} (h : c.turns = (tT c : Int)) (ht : t ≤ tT c) (hk : k ≤ tK c) (hh : ¬ OkAt c V (tT c) (tK c) t k) : goodLab c V = false := by
  rw [Bool.eq_false_iff]
  intro hg
  obtain ⟨h1, h2, h3, h4⟩ := (goodLab_iff c h V).1 hg
  apply hh
  refine ⟨fun h => h2 t k h hk, fun h => h3 t k ht h, fun u hu huT hs hk' => ?_⟩
  have := h4 _ k hs hk'
  rw [show ((u : Int) + 1).toNat = u + 1 by omega] at this
  simpa using this

set_option maxRecDepth 100000 in
set_option maxHeartbeats 3200000 in
theorem rcheckLabels_ok (v lv : Value) (c : Cyl) (l : List Int) (w : World) (hv : CylV w w.heap.size v c) (hs : Arr w w.heap.size 1 lv l icell) :
    Calls Try.prog 40 #[v, lv] w fun r w' => r = .returned (.tuple #[.int .i64 (checkLab c l).1, .int .i64 (checkLab c l).2]) ∧ Below w.heap.size w w' := by
  obtain ⟨la, lc, rfl, hs'⟩ := id hs
  clear hs'
  obtain ⟨_, hlc1, hlc2⟩ := hs.len_
  obtain ⟨fa, fc, pa, pc, rfl, hf, hp⟩ := hv.open_
  have hC := CB.new hf hp
  have hB := (Below.refl w.heap.size w).alloc (Nat.le_refl _) (.cells #[.int .i64 c.turns, .int .i64 c.long, .int .i64 c.plays, .slice fa c.frag.length fc, .slice pa c.pas.length pc] 25)
  go_enter Try.func40, Try.ntmps40
  go_upto_region 1 with (fail)
  generalize hW : w.alloc (.cells #[.int .i64 c.turns, .int .i64 c.long, .int .i64 c.plays, .slice fa c.frag.length fc, .slice pa c.pas.length pc] 25) = W at *
  clear hW hf hp
  obtain ⟨k0, k1, k2, k3, k4⟩ := hC.c5
  go_wp2_with fail
  refine (rcheckCyl_ok _ c _ hC.cyl).mono ?_
  rintro e w1 ⟨rfl, hb1⟩
  have hB1 := hB.trans (hb1.mono hB.size)
  have hC1 := hC.call hb1
  clear k0 k1 k2 k3 k4
  obtain ⟨k0, k1, k2, k3, k4⟩ := hC1.c5
  by_cases h0 : checkCyl c = 0
  case neg =>
    have hn1 : (checkCyl c == 0) = false := by simpa using h0
    have hn2 : (checkCyl c != 0) = true := by simpa using h0
    have HC : Hid (checkLab c l = (0, checkCyl c)) := by simp [Hid, checkLab, h0]
    clear h0
    go_wp2_with fail
    refine (rcheckCyl_ok _ c _ hC1.cyl).mono ?_
    rintro e w2 ⟨rfl, hb2⟩
    go_wp2
    go_ret2
    exact ⟨by rw [HC.out]; rfl, hB1.trans (hb2.mono hB1.size)⟩
  case pos =>
    have HC : Hid (checkLab c l = if l.length ≠ (tT c + 1) * (tK c + 1) then (0, 15) else if badRange l = true then (0, 3) else if goodLab c (labAt l (tK c)) = false then (0, 14) else (labAt l (tK c) (tT c) (tK c), 0)) := by simp [Hid, checkLab, h0]
    have H0 := Lib.hid h0
    obtain ⟨_, _, hlen, hall⟩ := cyl_valid h0
    have HALL := Lib.hid hall
    obtain ⟨n1, n2, n3, n4, n5, n6, n7⟩ := cyl_nat h0
    have N1 := Lib.hid n1
    have N2 := Lib.hid n2
    clear hall
    rw [h0]
    clear h0
    obtain ⟨T, hTT⟩ : ∃ T, T = tT c := ⟨_, rfl⟩
    obtain ⟨K, hKK⟩ : ∃ K, K = tK c := ⟨_, rfl⟩
    have HTT := Lib.hid hTT
    have HKK := Lib.hid hKK
    rw [← hTT] at n1 n3 n4 N1 HC
    rw [← hKK] at n2 n5 N2 HC
    rw [n1] at k0
    rw [n2] at k2
    clear hTT hKK n1 n2
    have a2 : IntKind.i64.wrap ((K : Int) + 1) = (K : Int) + 1 := wrap_id _ (by omega) (by omega)
    have a3 : IntKind.i64.wrap ((T : Int) + 1) = (T : Int) + 1 := wrap_id _ (by omega) (by omega)
    have hm : (T + 1) * (K + 1) ≤ 31 * 7 := Nat.mul_le_mul (by omega) (by omega)
    have hm2 : 0 < (T + 1) * (K + 1) := Nat.mul_pos (by omega) (by omega)
    obtain ⟨N, hN⟩ : ∃ N, N = (T + 1) * (K + 1) := ⟨_, rfl⟩
    have a4 : IntKind.i64.wrap (((T : Int) + 1) * ((K : Int) + 1)) = (N : Int) := by
      rw [show (((T : Int) + 1) * ((K : Int) + 1)) = (N : Int) by rw [hN, Int.natCast_mul]; rfl]
      exact wrap_id _ (by omega) (by omega)
    rw [← hN] at HC hm hm2
    have HN := Lib.hid hN
    clear hN
    by_cases hl : l.length = N
    case neg =>
      have HQ : Hid (checkLab c l = (0, 15)) := by rw [Hid, HC.out, if_pos hl]
      have d1 : ((l.length : Int) == (N : Int)) = false := by simp; omega
      have d2 : ((l.length : Int) != (N : Int)) = true := by simp; omega
      have d3 : (l.length == N) = false := by simpa using hl
      clear hl
      go_wp2
      go_ret2
      exact ⟨by rw [HQ.out]; rfl, hB1⟩
    case pos =>
      have HQ : Hid (checkLab c l = if badRange l = true then (0, 3) else if goodLab c (labAt l K) = false then (0, 14) else (labAt l K T K, 0)) := by rw [Hid, HC.out, if_neg (by simpa using hl)]
      have HL := Lib.hid hl
      have d1 : ((l.length : Int) == (N : Int)) = true := by simp; omega
      have d2 : ((l.length : Int) != (N : Int)) = false := by simp; omega
      have d3 : (l.length == N) = true := by simpa using hl
      clear hl
      have hln : 0 < l.length := by have := HL.out; omega
      obtain ⟨b, off, rfl, hBb, hcell0⟩ : ∃ b off, la = some ⟨b, off, none⟩ ∧ b < w.heap.size ∧ ∀ i x, l[i]? = some x → w.cell? ⟨b, off + i, none⟩ = some (.int .i64 x) := by
        obtain ⟨A', c', hv', h1, h2, h3⟩ := hs
        injection hv' with hA _ _
        subst hA
        obtain ⟨b, off, ha, hb, hc⟩ := h3 hln
        exact ⟨b, off, ha, hb, fun i x hx => by have := hc i x hx 0 (by omega); simpa using this⟩
      have HCELL := Lib.hid hcell0
      clear hcell0
      go_wp2
      go_loop [7] (fun i => ∃ k : Nat, k ≤ l.length ∧ i = .int .i64 k ∧ badRange l = (l.drop k).any badY) (fun i => l.length - (intOf i).toNat)
      case atStart => exact ⟨0, Nat.zero_le _, rfl, badRange_any l⟩
      case round =>
        obtain ⟨k, hk, rfl, hbr⟩ := hrel
        by_cases hlt : k < l.length
        · obtain ⟨y, hy⟩ : ∃ y, l[k]? = some y := ⟨l[k], List.getElem?_eq_getElem hlt⟩
          have hce := (hB1.cell (p := ⟨b, off + k, none⟩) hBb).trans (HCELL.out k y hy)
          rw [any_drop _ _ k y hy] at hbr
          have HBR := Lib.hid hbr
          clear hbr hy
          by_cases h1 : y < 0
          · have HR : Hid (checkLab c l = (0, 3)) := by rw [Hid, HQ.out, if_pos]; rw [HBR.out]; simp [badY, h1]
            have e1 : decide (y < 0) = true := by simpa using h1
            go_wp2
            go_ret2
            exact ⟨by rw [HR.out]; rfl, hB1⟩
          · have e1 : decide (y < 0) = false := by simpa using h1
            by_cases h2 : 1099511627776 < y
            · have HR : Hid (checkLab c l = (0, 3)) := by rw [Hid, HQ.out, if_pos]; rw [HBR.out]; simp [badY, h2]
              have e2 : decide (1099511627776 < y) = true := by simpa using h2
              go_wp2
              go_ret2
              exact ⟨by rw [HR.out]; rfl, hB1⟩
            · have e2 : decide (1099511627776 < y) = false := by simpa using h2
              have hby : Hid (badRange l = (l.drop (k + 1)).any badY) := by rw [Hid, HBR.out]; simp [badY, e1, e2]
              go_wp2
              go_round
              case rel => exact ⟨k + 1, by omega, by go_num, hby.out⟩
              case measure => simp [intOf]; omega
        · obtain rfl : k = l.length := by omega
          have HBR : Hid (badRange l = false) := by rw [Hid, hbr]; simp
          have HR : Hid (checkLab c l = if goodLab c (labAt l K) = false then (0, 14) else (labAt l K T K, 0)) := by rw [Hid, HQ.out, if_neg (by rw [HBR.out]; simp)]
          clear hbr hlt hk
          have hfit : ∀ t k, t ≤ T → k ≤ K → 0 ≤ labAt l K t k ∧ labAt l K t k ≤ 1099511627776 ∧ t * (K + 1) + k < l.length ∧ l[t * (K + 1) + k]? = some (labAt l K t k) := fun t k ht hk => labAt_fit HBR.out (by rw [HL.out, HN.out]) ht hk
          have HFIT := Lib.hid hfit
          have h00 := hfit 0 0 (by omega) (by omega)
          have hc0 := (hB1.cell (p := ⟨b, off + 0, none⟩) hBb).trans (HCELL.out 0 (labAt l K 0 0) (by have := h00.2.2.2; simpa using this))
          clear h00 hfit
          simp only [Nat.add_zero] at hc0
          by_cases hz : labAt l K 0 0 = 0
          case neg =>
            have HE : Hid (checkLab c l = (0, 14)) := by
              have hg : goodLab c (labAt l K) = false := by
                rw [Bool.eq_false_iff]
                intro hg
                exact hz ((goodLab_iff c (by rw [← HTT.out]; exact N1.out) _).1 hg).1
              rw [Hid, HR.out, if_pos hg]
            have e1 : (labAt l K 0 0 == 0) = false := by simpa using hz
            have e2 : (labAt l K 0 0 != 0) = true := by simpa using hz
            clear hz
            go_wp2
            go_ret2
            exact ⟨by rw [HE.out]; rfl, hB1⟩
          case pos =>
            have HZ := Lib.hid hz
            rw [hz] at hc0
            clear hz
            go_upto_region 13 with (fail)
            clear hc0
            have hnot : ∀ t k, t ≤ T → k ≤ K → ¬ OkAt c (labAt l K) T K t k → checkLab c l = (0, 14) := by
              intro t k ht hk h
              have hg := goodLab_not (V := labAt l K) (t := t) (k := k) (by rw [← HTT.out]; exact N1.out) (by rw [← HTT.out]; exact ht) (by rw [← HKK.out]; exact hk) (by rw [← HTT.out, ← HKK.out]; exact h)
              rw [HR.out, if_pos hg]
            have HNOT := Lib.hid hnot
            clear hnot
            go_wp2
            go_loopw [8] (fun i wr => ∃ t : Nat, t ≤ T + 1 ∧ i = .int .i64 t ∧ (∀ t' k', t' < t → k' ≤ K → OkAt c (labAt l K) T K t' k') ∧ Below w1.heap.size w1 wr) (fun i _ => T + 1 - (intOf i).toNat)
            case atStart => exact ⟨0, by omega, rfl, fun _ _ h => by omega, Below.refl _ _⟩
            case round =>
              obtain ⟨t, ht, rfl, hok, hb⟩ := hrel
              have HOK := Lib.hid hok
              have hCr := hC1.call hb
              clear hok k0 k1 k2 k3 k4
              obtain ⟨k0, k1, k2, k3, k4⟩ := hCr.c5
              rw [N1.out] at k0
              rw [N2.out] at k2
              have hBr := hB1.trans (hb.mono hB1.size)
              by_cases hlt : t < T + 1
              · have dlt : decide (t ≤ T) = true := by simp; omega
                obtain ⟨wo, rfl⟩ : ∃ wo : World, wo = wr := ⟨_, rfl⟩
                go_wp2
                go_loopw [9] (fun i wr => ∃ k : Nat, k ≤ K + 1 ∧ i = .int .i64 k ∧ (∀ k', k' < k → OkAt c (labAt l K) T K t k') ∧ Below w1.heap.size w1 wr) (fun i _ => K + 1 - (intOf i).toNat)
                case atStart => exact ⟨0, by omega, rfl, fun _ h => by omega, hb⟩
                case round =>
                  obtain ⟨k, hk, rfl, hok, hb⟩ := hrel
                  have HOK2 := Lib.hid hok
                  clear hok
                  by_cases hlk : k < K + 1
                  · have hCk := hC1.call hb
                    obtain ⟨k0, k1, k2, k3, k4⟩ := hCk.c5
                    rw [N1.out] at k0
                    rw [N2.out] at k2
                    have hBk := hB1.trans (hb.mono hB1.size)
                    have lab : ∀ t k, t ≤ T → k ≤ K → wr.cell? ⟨b, off + (t * (K + 1) + k), none⟩ = some (.int .i64 (labAt l K t k)) := fun t k ht hk => (hBk.cell (p := ⟨b, off + (t * (K + 1) + k), none⟩) hBb).trans (HCELL.out _ _ (HFIT.out t k ht hk).2.2.2)
                    have ix : ∀ t k, t ≤ T → k ≤ K → IntKind.i64.wrap ((t : Int) * ((K : Int) + 1)) = ((t * (K + 1) : Nat) : Int) ∧ IntKind.i64.wrap (((t * (K + 1) : Nat) : Int) + (k : Int)) = ((t * (K + 1) + k : Nat) : Int) ∧ ((t * (K + 1) + k : Nat) : Int) < l.length ∧ t * (K + 1) + k < l.length := by
                      intro t k ht hk
                      have h1 := (HFIT.out t k ht hk).2.2.1
                      have h2 := HL.out
                      refine ⟨?_, ?_, by omega, h1⟩
                      · rw [show ((t : Int) * ((K : Int) + 1)) = ((t * (K + 1) : Nat) : Int) by rw [Int.natCast_mul]; rfl]
                        exact wrap_id _ (by omega) (by omega)
                      · rw [wrap_id _ (by omega) (by omega)]; omega
                    have c0 := lab t k (by omega) (by omega)
                    obtain ⟨x1, x2, x3, x4⟩ := ix t k (by omega) (by omega)
                    have LAB := Lib.hid lab
                    have IX := Lib.hid ix
                    clear lab ix
                    obtain ⟨q, hq⟩ : ∃ q, q = t * (K + 1) := ⟨_, rfl⟩
                    rw [← hq] at c0 x1 x2 x3 x4
                    have HQE := Lib.hid hq
                    clear hq
                    have dlk : decide (k < K + 1) = true := by simpa using hlk
                    have dlk' : decide ((k : Int) < (K : Int) + 1) = true := by simp; omega
                    have e5 : IntKind.i64.wrap ((k : Int) + 1) = (k : Int) + 1 := wrap_id _ (by omega) (by omega)
                    have e6 : IntKind.i64.wrap ((t : Int) + 1) = (t : Int) + 1 := wrap_id _ (by omega) (by omega)
                    go_upto_region 20 with (fail)
                    rcases Nat.lt_or_ge t T with htT | htT
                    · have dt1 : decide (t < T) = true := by simpa using htT
                      have c1 := LAB.out (t + 1) k (by omega) (by omega)
                      obtain ⟨y1, y2, y3, y4⟩ := IX.out (t + 1) k (by omega) (by omega)
                      obtain ⟨q1, hq1⟩ : ∃ q1, q1 = (t + 1) * (K + 1) := ⟨_, rfl⟩
                      rw [← hq1] at c1 y1 y2 y3 y4
                      rw [show ((t + 1 : Nat) : Int) = (t : Int) + 1 by omega] at y1
                      clear hq1
                      by_cases hv1 : labAt l K (t + 1) k < labAt l K t k
                      · have dv1 : decide (labAt l K (t + 1) k < labAt l K t k) = true := by simpa using hv1
                        have HE : Hid (checkLab c l = (0, 14)) := HNOT.out t k (by omega) (by omega) (fun hh => by have := hh.1 htT; omega)
                        go_wp2
                        go_ret2
                        exact ⟨by rw [HE.out]; rfl, hBk⟩
                      · have dv1 : decide (labAt l K (t + 1) k < labAt l K t k) = false := by simpa using hv1
                        have hT1 : Hid (OkT (labAt l K) T t k) := fun _ => by omega
                        rcases Nat.lt_or_ge k K with hkK | hkK
                        · have dk1 : decide ((k : Int) + 1 < (K : Int) + 1) = true := by simp; omega
                          have dk2 : decide (k < K) = true := by simp; omega
                          have dk3 : decide (k + 1 < K + 1) = true := by simp; omega
                          have c2 := LAB.out t (k + 1) (by omega) (by omega)
                          obtain ⟨-, -, z3, z4⟩ := IX.out t (k + 1) (by omega) (by omega)
                          rw [← HQE.out, show q + (k + 1) = q + k + 1 by omega] at c2 z3 z4
                          have z2 : IntKind.i64.wrap (((q + k : Nat) : Int) + 1) = ((q + k + 1 : Nat) : Int) := by have := HL.out; rw [wrap_id _ (by omega) (by omega)]; omega
                          by_cases hv2 : labAt l K t (k + 1) < labAt l K t k
                          · have dv2 : decide (labAt l K t (k + 1) < labAt l K t k) = true := by simpa using hv2
                            have HE : Hid (checkLab c l = (0, 14)) := HNOT.out t k (by omega) (by omega) (fun hh => by have := hh.2.1 hkK; omega)
                            go_wp2
                            go_ret2
                            exact ⟨by rw [HE.out]; rfl, hBk⟩
                          · have dv2 : decide (labAt l K t (k + 1) < labAt l K t k) = false := by simpa using hv2
                            have hK1 : Hid (OkK (labAt l K) K t k) := fun _ => by omega
                            obtain ⟨wp, rfl⟩ : ∃ wp : World, wp = wr := ⟨_, rfl⟩
                            go_wp2
                            go_loopw [11] (fun i wr => ∃ u : Nat, t ≤ u ∧ u ≤ T ∧ i = .int .i64 u ∧ (∀ u', t ≤ u' → u' < u → OkU c (labAt l K) K t k u') ∧ Below wp.heap.size wp wr) (fun i _ => T - (intOf i).toNat)
                            case atStart => exact ⟨t, Nat.le_refl _, by omega, rfl, fun u' h1 h2 => by omega, Below.refl _ _⟩
                            case round =>
                              obtain ⟨u, hu1, hu2, rfl, hoku, hbu⟩ := hrel
                              have HOKU := Lib.hid hoku
                              have hCu := hCk.call hbu
                              have hBu := hBk.trans (hbu.mono hBk.size)
                              clear hoku c0 c1 c2 k0 k1 k2 k3 k4
                              obtain ⟨k0, k1, k2, k3, k4⟩ := hCu.c5
                              rw [N1.out] at k0
                              rw [N2.out] at k2
                              by_cases huT : u < T
                              · have du : decide (u < T) = true := by simpa using huT
                                have w1e : IntKind.i64.wrap ((u : Int) - (t : Int)) = (u : Int) - (t : Int) := wrap_id _ (by omega) (by omega)
                                have w2e : IntKind.i64.wrap ((u : Int) - (t : Int) + 1) = (u : Int) - (t : Int) + 1 := wrap_id _ (by omega) (by omega)
                                by_cases hlg : (u : Int) - (t : Int) + 1 ≤ c.long
                                · have dl : decide ((u : Int) - (t : Int) + 1 ≤ c.long) = true := by simpa using hlg
                                  have c3 := (hbu.cell (p := ⟨b, off + ((u + 1) * (K + 1) + (k + 1)), none⟩) (by have := hBk.size; show b < _; omega)).trans (LAB.out (u + 1) (k + 1) (by omega) (by omega))
                                  obtain ⟨v1, -, v3, v4⟩ := IX.out (u + 1) (k + 1) (by omega) (by omega)
                                  obtain ⟨-, v2, -, -⟩ := IX.out (u + 1) k (by omega) (by omega)
                                  obtain ⟨q2, hq2⟩ : ∃ q2, q2 = (u + 1) * (K + 1) := ⟨_, rfl⟩
                                  rw [← hq2] at c3 v1 v2 v3 v4
                                  rw [show q2 + (k + 1) = q2 + k + 1 by omega] at c3 v3 v4
                                  rw [show ((u + 1 : Nat) : Int) = (u : Int) + 1 by omega] at v1
                                  have v5 : IntKind.i64.wrap (((q2 + k : Nat) : Int) + 1) = ((q2 + k + 1 : Nat) : Int) := by have := HL.out; rw [wrap_id _ (by omega) (by omega)]; omega
                                  have e7 : IntKind.i64.wrap ((u : Int) + 1) = (u : Int) + 1 := wrap_id _ (by omega) (by omega)
                                  clear hq2
                                  obtain ⟨fl1, fl2, _, _⟩ := HFIT.out t k (by omega) (by omega)
                                  obtain ⟨sm, hsm⟩ : ∃ sm, sumW (ownW c.pas) ⟨(t : Int), (u : Int)⟩ 0 c.pas = sm := ⟨_, rfl⟩
                                  have hsb := sumW_bound (ownW c.pas) 1000 (by omega) (fun i => by have := ownW_bound HALL.out i; omega) ⟨(t : Int), (u : Int)⟩ c.pas 0
                                  rw [hsm] at hsb
                                  have e8 : IntKind.i64.wrap (labAt l K t k + sm) = labAt l K t k + sm := wrap_id _ (by omega) (by omega)
                                  have HSM := Lib.hid hsm
                                  clear hsm hsb fl1 fl2
                                  have f0 := Ext.of k0
                                  have f1 := Ext.of k1
                                  have f2 := Ext.of k2
                                  have f3 := Ext.of k3
                                  have f4 := Ext.of k4
                                  have f5 := Ext.of c3
                                  have hcyx : ∀ x : Ext wr, CylV x.w x.w.heap.size (.agg #[.int .i64 T, .int .i64 c.long, .int .i64 K, .slice fa c.frag.length fc, .slice pa c.pas.length pc]) c := fun x => by have h := (hCu.call x.h).cyl; rw [N1.out, N2.out] at h; exact h
                                  have HCY := Lib.hid hcyx
                                  clear hcyx
                                  cases hwn : worn c (t : Int) (u : Int)
                                  · have hokS : Hid (OkS c ⟨(t : Int), (u : Int)⟩) := ⟨by simp, by simp; omega, by have := N1.out; simp; omega, by simp; omega, hwn⟩
                                    have HWN := Lib.hid hwn
                                    clear hwn
                                    go_upto_region 25 with (fail)
                                    clear k0 k1 k2 k3 k4 c3
                                    refine wp_region_schedH (C := fun w' => ∃ x : Ext wr, w' = x.w) [(0, true), (1, true), (2, true), (3, false), (4, true), (5, true), (6, true), (7, true), (8, true), (9, true), (10, true), (11, true), (12, true), (13, true), (14, true), (15, true), (16, true), (17, true), (18, true), (20, true), (21, true), (19, false), (22, false), (23, true), (24, true), (25, true)] (by kernel_rfl) (by kernel_rfl) ⟨⟨wr.drew, (Below.refl _ wr).drew⟩, rfl⟩ ?_
                                    refine schedH_q (by rfl) (by rfl) ?_
                                    intro K hK
                                    go_big_quiet_op
                                    go_big_quiet_on
                                    refine schedH_q (by rfl) (by rfl) ?_
                                    intro K hK
                                    go_big_quiet_op
                                    go_big_quiet_on
                                    refine schedH_q (by rfl) (by rfl) ?_
                                    intro K hK
                                    go_big_quiet_op
                                    go_big_quiet_on
                                    refine schedH_c (by rfl) (by rfl) ?_
                                    intro K' hK'
                                    go_wp2_with fail
                                    refine (worn_ok _ c (t : Int) (u : Int) wr.drew (HCY.out ⟨wr.drew, (Below.refl _ wr).drew⟩)).mono ?_
                                    rintro e w4 ⟨rfl, hb4⟩
                                    have hx4 : Below wr.heap.size wr w4 := (Below.refl _ wr).drew.trans hb4
                                    rw [HWN.out]
                                    go_wp2
                                    refine hK' _ _ ⟨⟨⟨w4, hx4⟩, rfl⟩, ?_⟩
                                    clear hK' K'
                                    refine schedH_q (by rfl) (by rfl) ?_
                                    intro K hK
                                    go_big_quiet_op
                                    go_big_quiet_on
                                    refine schedH_q (by rfl) (by rfl) ?_
                                    intro K hK
                                    go_big_quiet_op
                                    go_big_quiet_on
                                    refine schedH_q (by rfl) (by rfl) ?_
                                    intro K hK
                                    go_big_quiet_op
                                    go_big_quiet_on
                                    refine schedH_q (by rfl) (by rfl) ?_
                                    intro K hK
                                    go_big_quiet_op
                                    go_big_quiet_on
                                    refine schedH_q (by rfl) (by rfl) ?_
                                    intro K hK
                                    go_big_quiet_op
                                    go_big_quiet_on
                                    refine schedH_q (by rfl) (by rfl) ?_
                                    intro K hK
                                    go_big_quiet_op
                                    go_big_quiet_on
                                    refine schedH_q (by rfl) (by rfl) ?_
                                    intro K hK
                                    go_big_quiet_op
                                    go_big_quiet_on
                                    refine schedH_q (by rfl) (by rfl) ?_
                                    intro K hK
                                    go_big_quiet_op
                                    go_big_quiet_on
                                    refine schedH_q (by rfl) (by rfl) ?_
                                    intro K hK
                                    go_big_quiet_op
                                    go_big_quiet_on
                                    refine schedH_q (by rfl) (by rfl) ?_
                                    intro K hK
                                    go_big_quiet_op
                                    go_big_quiet_on
                                    refine schedH_q (by rfl) (by rfl) ?_
                                    intro K hK
                                    go_big_quiet_op
                                    go_big_quiet_on
                                    refine schedH_q (by rfl) (by rfl) ?_
                                    intro K hK
                                    go_big_quiet_op
                                    go_big_quiet_on
                                    refine schedH_q (by rfl) (by rfl) ?_
                                    intro K hK
                                    go_big_quiet_op
                                    go_big_quiet_on
                                    refine schedH_q (by rfl) (by rfl) ?_
                                    intro K hK
                                    go_big_quiet_op
                                    go_big_quiet_on
                                    refine schedH_q (by rfl) (by rfl) ?_
                                    intro K hK
                                    go_big_quiet_op
                                    go_big_quiet_on
                                    refine schedH_q (by rfl) (by rfl) ?_
                                    intro K hK
                                    go_big_quiet_op
                                    go_big_quiet_on
                                    refine schedH_q (by rfl) (by rfl) ?_
                                    intro K hK
                                    go_big_quiet_op
                                    go_big_quiet_on
                                    refine schedH_c (by rfl) (by rfl) ?_
                                    intro K' hK'
                                    go_wp2_with fail
                                    refine (rown_ok _ c w4 (HCY.out ⟨w4, hx4⟩) (by omega)).mono ?_
                                    rintro e w5 ⟨A5, cap5, rfl, hown5, hb5⟩
                                    have hx5 : Below wr.heap.size wr w5 := hx4.trans (hb5.mono hx4.size)
                                    go_wp2
                                    refine hK' _ _ ⟨⟨⟨w5, hx5⟩, rfl⟩, ?_⟩
                                    clear hK' K'
                                    refine schedH_c (by rfl) (by rfl) ?_
                                    intro K' hK'
                                    go_wp2_with fail
                                    refine (rsum_ok _ _ c (ownL c) (t : Int) (u : Int) w5 (HCY.out ⟨w5, hx5⟩) (Arr.of_own1 (ownL_len c).symm hown5) hlen (ownL_len c) (ownL_bound HALL.out)).mono ?_
                                    rintro e w6 ⟨rfl, hb6⟩
                                    have hx6 : Below wr.heap.size wr w6 := hx5.trans (hb6.mono hx5.size)
                                    rw [ownL_W, HSM.out]
                                    go_wp2
                                    refine hK' _ _ ⟨⟨⟨w6, hx6⟩, rfl⟩, ?_⟩
                                    clear hK' K'
                                    by_cases hv3 : labAt l K (u + 1) (k + 1) < labAt l K t k + sm
                                    · have dv3 : decide (labAt l K (u + 1) (k + 1) < labAt l K t k + sm) = true := by simpa using hv3
                                      have HE : Hid (checkLab c l = (0, 14)) := HNOT.out t k (by omega) (by omega) (fun hh => by have := hh.2.2 u hu1 huT hokS.out hkK; rw [HSM.out] at this; omega)
                                      refine schedH_q (by rfl) (by rfl) ?_
                                      intro K hK
                                      go_big_quiet_op
                                      go_big_quiet_on
                                      refine schedH_q (by rfl) (by rfl) ?_
                                      intro K hK
                                      go_big_quiet_op
                                      go_big_quiet_on
                                      refine schedH_q (by rfl) (by rfl) ?_
                                      intro K hK
                                      go_big_quiet_op
                                      go_big_quiet_on
                                      refine schedH_nil ?_
                                      go_wp2
                                      go_ret2
                                      exact ⟨by rw [HE.out]; rfl, hBu.trans (hx6.mono hBu.size)⟩
                                    · have dv3 : decide (labAt l K (u + 1) (k + 1) < labAt l K t k + sm) = false := by simpa using hv3
                                      have HU : Hid (OkU c (labAt l K) K t k u) := fun _ _ => by rw [HSM.out]; omega
                                      refine schedH_q (by rfl) (by rfl) ?_
                                      intro K hK
                                      go_big_quiet_op
                                      go_big_quiet_on
                                      refine schedH_q (by rfl) (by rfl) ?_
                                      intro K hK
                                      go_big_quiet_op
                                      go_big_quiet_on
                                      refine schedH_q (by rfl) (by rfl) ?_
                                      intro K hK
                                      go_big_quiet_op
                                      go_big_quiet_on
                                      refine schedH_nil ?_
                                      go_wp2
                                      go_roundw
                                      case rel =>
                                        refine ⟨u + 1, by omega, by omega, by go_num, fun u' h1 h2 => ?_, hbu.trans (hx6.mono hbu.size)⟩
                                        by_cases h : u' = u
                                        · subst h; exact HU.out
                                        · exact HOKU.out u' h1 (by omega)
                                      case measure => (simp [intOf]; try omega)
                                  · have HU : Hid (OkU c (labAt l K) K t k u) := by
                                      intro hs _
                                      have := hs.2.2.2.2
                                      simp only at this
                                      rw [hwn] at this
                                      cases this
                                    have HW := Lib.hid (fun x : Ext wr => ext_call x (worn_ok _ c (t : Int) (u : Int) x.w (HCY.out x)))
                                    rw [hwn] at HW
                                    clear hwn
                                    go_upto_region 25 with (fail)
                                    clear k0 k1 k2 k3 k4 c3
                                    refine wp_region_ext (by kernel_rfl) (by kernel_rfl) ?_
                                    repeat (go_big_quiet_step ((go_at_call 37; exact HW.out _)))
                                    refine wpQuiet_nil ?_
                                    intro _ hw'
                                    obtain ⟨xr, hw''⟩ := hw'
                                    subst hw''
                                    go_wp2
                                    go_roundw
                                    case rel =>
                                      refine ⟨u + 1, by omega, by omega, by go_num, fun u' h1 h2 => ?_, hbu.trans (xr.h.mono hbu.size)⟩
                                      by_cases h : u' = u
                                      · subst h; exact HU.out
                                      · exact HOKU.out u' h1 (by omega)
                                    case measure => (simp [intOf]; try omega)
                                · have dl : decide ((u : Int) - (t : Int) + 1 ≤ c.long) = false := by simpa using hlg
                                  have HAT : Hid (OkAt c (labAt l K) T K t k) := by
                                    refine ⟨hT1.out, hK1.out, fun u' h1 h2 => ?_⟩
                                    by_cases h3 : u' < u
                                    · exact HOKU.out u' h1 h3
                                    · intro hs _
                                      have := hs.2.2.2.1
                                      simp only at this
                                      omega
                                  go_wp2
                                  go_roundw
                                  case rel =>
                                    refine ⟨k + 1, by omega, by go_num, fun k' hk' => ?_, hb.trans (hbu.mono hb.size)⟩
                                    by_cases h : k' = k
                                    · subst h; exact HAT.out
                                    · exact HOK2.out k' (by omega)
                                  case measure => (simp [intOf]; try omega)
                              · obtain rfl : u = T := by omega
                                have du : decide (u < u) = false := by simp
                                have HAT : Hid (OkAt c (labAt l K) u K t k) := ⟨hT1.out, hK1.out, HOKU.out⟩
                                go_wp2
                                go_roundw
                                case rel =>
                                  refine ⟨k + 1, by omega, by go_num, fun k' hk' => ?_, hb.trans (hbu.mono hb.size)⟩
                                  by_cases h : k' = k
                                  · subst h; exact HAT.out
                                  · exact HOK2.out k' (by omega)
                                case measure => (simp [intOf]; try omega)
                        · have dk1 : decide ((k : Int) + 1 < (K : Int) + 1) = false := by simp; omega
                          have dk2 : decide (k < K) = false := by simp; omega
                          have dk3 : decide (k + 1 < K + 1) = false := by simp; omega
                          have HAT : Hid (OkAt c (labAt l K) T K t k) := ⟨hT1.out, fun h => by omega, fun u _ _ _ h => by omega⟩
                          obtain ⟨wp, rfl⟩ : ∃ wp : World, wp = wr := ⟨_, rfl⟩
                          go_wp2
                          go_loopw [11] (fun i wr => i = .int .i64 t ∧ wr = wp) (fun _ _ => 0)
                          case atStart => exact ⟨rfl, rfl⟩
                          case round =>
                            obtain ⟨rfl, rfl⟩ := hrel
                            go_wp2
                            go_roundw
                            case rel =>
                              refine ⟨k + 1, by omega, by go_num, fun k' hk' => ?_, hb⟩
                              by_cases h : k' = k
                              · subst h; exact HAT.out
                              · exact HOK2.out k' (by omega)
                            case measure => (simp [intOf]; try omega)
                    · have dt1 : decide (t < T) = false := by simp; omega
                      rcases Nat.lt_or_ge k K with hkK | hkK
                      · have dk1 : decide ((k : Int) + 1 < (K : Int) + 1) = true := by simp; omega
                        have dk2 : decide (k < K) = true := by simp; omega
                        have dk3 : decide (k + 1 < K + 1) = true := by simp; omega
                        have c2 := LAB.out t (k + 1) (by omega) (by omega)
                        obtain ⟨-, -, z3, z4⟩ := IX.out t (k + 1) (by omega) (by omega)
                        rw [← HQE.out, show q + (k + 1) = q + k + 1 by omega] at c2 z3 z4
                        have z2 : IntKind.i64.wrap (((q + k : Nat) : Int) + 1) = ((q + k + 1 : Nat) : Int) := by have := HL.out; rw [wrap_id _ (by omega) (by omega)]; omega
                        by_cases hv2 : labAt l K t (k + 1) < labAt l K t k
                        · have dv2 : decide (labAt l K t (k + 1) < labAt l K t k) = true := by simpa using hv2
                          have HE : Hid (checkLab c l = (0, 14)) := HNOT.out t k (by omega) (by omega) (fun hh => by have := hh.2.1 hkK; omega)
                          go_wp2
                          go_ret2
                          exact ⟨by rw [HE.out]; rfl, hBk⟩
                        · have dv2 : decide (labAt l K t (k + 1) < labAt l K t k) = false := by simpa using hv2
                          have HAT : Hid (OkAt c (labAt l K) T K t k) := ⟨fun h => by omega, fun _ => by omega, fun u _ h => by omega⟩
                          obtain ⟨wp, rfl⟩ : ∃ wp : World, wp = wr := ⟨_, rfl⟩
                          go_wp2
                          go_loopw [11] (fun i wr => i = .int .i64 t ∧ wr = wp) (fun _ _ => 0)
                          case atStart => exact ⟨rfl, rfl⟩
                          case round =>
                            obtain ⟨rfl, rfl⟩ := hrel
                            go_wp2
                            go_roundw
                            case rel =>
                              refine ⟨k + 1, by omega, by go_num, fun k' hk' => ?_, hb⟩
                              by_cases h : k' = k
                              · subst h; exact HAT.out
                              · exact HOK2.out k' (by omega)
                            case measure => (simp [intOf]; try omega)
                      · have dk1 : decide ((k : Int) + 1 < (K : Int) + 1) = false := by simp; omega
                        have dk2 : decide (k < K) = false := by simp; omega
                        have dk3 : decide (k + 1 < K + 1) = false := by simp; omega
                        have HAT : Hid (OkAt c (labAt l K) T K t k) := ⟨fun h => by omega, fun h => by omega, fun u _ h => by omega⟩
                        obtain ⟨wp, rfl⟩ : ∃ wp : World, wp = wr := ⟨_, rfl⟩
                        go_wp2
                        go_loopw [11] (fun i wr => i = .int .i64 t ∧ wr = wp) (fun _ _ => 0)
                        case atStart => exact ⟨rfl, rfl⟩
                        case round =>
                          obtain ⟨rfl, rfl⟩ := hrel
                          go_wp2
                          go_roundw
                          case rel =>
                            refine ⟨k + 1, by omega, by go_num, fun k' hk' => ?_, hb⟩
                            by_cases h : k' = k
                            · subst h; exact HAT.out
                            · exact HOK2.out k' (by omega)
                          case measure => (simp [intOf]; try omega)
                  · obtain rfl : k = K + 1 := by omega
                    go_wp2
                    go_roundw
                    case rel =>
                      refine ⟨t + 1, by omega, by go_num, fun t' k' ht' hk' => ?_, hb⟩
                      by_cases h : t' = t
                      · subst h; exact HOK2.out k' (by omega)
                      · exact HOK.out t' k' (by omega) hk'
                    case measure => (simp [intOf]; try omega)
              · obtain rfl : t = T + 1 := by omega
                have hg : goodLab c (labAt l K) = true := goodLab_at (by rw [← HTT.out]; exact N1.out) HZ.out (fun t k ht hk => by rw [← HTT.out, ← HKK.out]; rw [← HTT.out] at ht; rw [← HKK.out] at hk; exact HOK.out t k (by omega) hk)
                have HE : Hid (checkLab c l = (labAt l K T K, 0)) := by rw [Hid, HR.out, hg]; rfl
                clear hg
                obtain ⟨_, _, hi1, hi2⟩ := HFIT.out T K (by omega) (by omega)
                have hcT := (hBr.cell (p := ⟨b, off + (T * (K + 1) + K), none⟩) hBb).trans (HCELL.out _ _ hi2)
                have e1 : IntKind.i64.wrap ((T : Int) * ((K : Int) + 1)) = ((T * (K + 1) : Nat) : Int) := by
                  rw [show ((T : Int) * ((K : Int) + 1)) = ((T * (K + 1) : Nat) : Int) by rw [Int.natCast_mul]; rfl]
                  exact wrap_id _ (by omega) (by have := HL.out; omega)
                clear hi2
                have HLL := HL.out
                obtain ⟨q, hq⟩ : ∃ q, q = T * (K + 1) := ⟨_, rfl⟩
                rw [← hq] at e1 hcT hi1
                have HQQ := Lib.hid hq
                clear hq
                have e2 : IntKind.i64.wrap ((q : Int) + (K : Int)) = ((q + K : Nat) : Int) := by rw [wrap_id _ (by omega) (by omega)]; omega
                have e3 : ((q + K : Nat) : Int) < l.length := by omega
                have HLH := Lib.hid HLL
                clear HLL
                go_wp2
                go_ret2
                exact ⟨by rw [HE.out]; rfl, hBr⟩
end Go.Proofs.Ythplabmbbfefeaa
