/- Contracts of the laws' small functions: Stretch, Passage, Cylinder, great, fine, ints, longs. -/
import Derived.Test.YthplabmbbfefeaaRefY
import Derived.Test.YthplabmbbfefeaaEx
namespace Go.Proofs.Ythplabmbbfefeaa
open Go.RowKit Go.Shelf
set_option linter.unusedVariables false

theorem stretch_ok (a b : Int) (w : World) :
    Calls Try.prog 35 #[.int .i64 a, .int .i64 b] w fun r w' => r = .returned (.agg #[.int .i64 a, .int .i64 b]) ∧ Below w.heap.size w w' := by
  go_enter Try.func35, Try.ntmps35
  go_wp2
  have hx := Blk.new w 55 #[.int .i64 a, .int .i64 b]
  have t0 := hx.cell 0
  have t1 := hx.cell 1
  simp at t0 t1
  exact bodyPost_ret (v := .agg #[.int .i64 a, .int .i64 b]) (by simp [results, Try.results35, go_sem]) rfl ⟨rfl, (Below.refl _ _).alloc (Nat.le_refl _) _⟩

theorem passage_ok (a b x : Int) (w : World) :
    Calls Try.prog 33 #[.int .i64 a, .int .i64 b, .int .i64 x] w fun r w' => r = .returned (.agg #[.int .i64 a, .int .i64 b, .int .i64 x]) ∧ Below w.heap.size w w' := by
  go_enter Try.func33, Try.ntmps33
  go_wp2
  have hx := Blk.new w 49 #[.int .i64 a, .int .i64 b, .int .i64 x]
  have t0 := hx.cell 0
  have t1 := hx.cell 1
  have t2 := hx.cell 2
  simp at t0 t1 t2
  exact bodyPost_ret (v := .agg #[.int .i64 a, .int .i64 b, .int .i64 x]) (by simp [results, Try.results33, go_sem]) rfl ⟨rfl, (Below.refl _ _).alloc (Nat.le_refl _) _⟩

def greatB (c : Cyl) : Bool := decide (40 < c.frag.length) || decide (20 < c.pas.length)
theorem great_ok (v : Value) (c : Cyl) (w : World) (hv : CylV w w.heap.size v c) :
    Calls Try.prog 14 #[v] w fun r w' => r = .returned (.bool (greatB c)) ∧ Below w.heap.size w w' := by
  obtain ⟨fa, fc, pa, pc, rfl, hf, hp⟩ := hv.open_
  have hC := CB.new hf hp
  have hB := (Below.refl w.heap.size w).alloc (Nat.le_refl _) (.cells #[.int .i64 c.turns, .int .i64 c.long, .int .i64 c.plays, .slice fa c.frag.length fc, .slice pa c.pas.length pc] 25)
  go_enter Try.func14, Try.ntmps14
  go_upto_region 1 with (fail)
  generalize hW : w.alloc (.cells #[.int .i64 c.turns, .int .i64 c.long, .int .i64 c.plays, .slice fa c.frag.length fc, .slice pa c.pas.length pc] 25) = W at *
  clear hW hf hp
  obtain ⟨k0, k1, k2, k3, k4⟩ := hC.c5
  by_cases h1 : 40 < c.frag.length
  · have d1 : decide (40 < c.frag.length) = true := by simpa using h1
    have d2 : decide ((40 : Int) < (c.frag.length : Int)) = true := by simp; omega
    go_wp2
    go_ret
    exact ⟨ret_b (by simp [greatB, d1]), hB⟩
  · have d1 : decide (40 < c.frag.length) = false := by simpa using h1
    have d2 : decide ((40 : Int) < (c.frag.length : Int)) = false := by simp; omega
    go_wp2
    go_ret
    exact ⟨ret_b (by simp [greatB, d1]; omega), hB⟩

def fineB (c : Cyl) : Bool := !greatB c && decide (checkCyl c = 0)
theorem fine_ok (v : Value) (c : Cyl) (w : World) (hv : CylV w w.heap.size v c) :
    Calls Try.prog 32 #[v] w fun r w' => r = .returned (.bool (fineB c)) ∧ Below w.heap.size w w' := by
  obtain ⟨fa, fc, pa, pc, rfl, hf, hp⟩ := hv.open_
  have hC := CB.new hf hp
  have hB := (Below.refl w.heap.size w).alloc (Nat.le_refl _) (.cells #[.int .i64 c.turns, .int .i64 c.long, .int .i64 c.plays, .slice fa c.frag.length fc, .slice pa c.pas.length pc] 25)
  go_enter Try.func32, Try.ntmps32
  go_upto_region 1 with (fail)
  generalize hW : w.alloc (.cells #[.int .i64 c.turns, .int .i64 c.long, .int .i64 c.plays, .slice fa c.frag.length fc, .slice pa c.pas.length pc] 25) = W at *
  clear hW hf hp
  obtain ⟨k0, k1, k2, k3, k4⟩ := hC.c5
  go_wp2_with fail
  refine (great_ok _ c _ hC.cyl).mono ?_
  rintro e w1 ⟨rfl, hb1⟩
  have hC1 := hC.call hb1
  have hB1 := hB.trans (hb1.mono hB.size)
  clear k0 k1 k2 k3 k4
  obtain ⟨k0, k1, k2, k3, k4⟩ := hC1.c5
  cases hg : greatB c
  · have HG := Lib.hid hg
    clear hg
    go_wp2_with fail
    refine (rcheckCyl_ok _ c _ hC1.cyl).mono ?_
    rintro e w2 ⟨rfl, hb2⟩
    by_cases h0 : checkCyl c = 0
    · have e1 : (checkCyl c == 0) = true := by simpa using h0
      have H0 := Lib.hid h0
      clear h0
      go_wp2
      go_ret
      exact ⟨ret_b (by simp [fineB, HG.out, H0.out]), hB1.trans (hb2.mono hB1.size)⟩
    · have e1 : (checkCyl c == 0) = false := by simpa using h0
      have H0 := Lib.hid h0
      clear h0
      go_wp2
      go_ret
      exact ⟨ret_b (by simp [fineB, HG.out, H0.out]), hB1.trans (hb2.mono hB1.size)⟩
  · have HG := Lib.hid hg
    clear hg
    go_wp2
    go_ret
    exact ⟨ret_b (by simp [fineB, HG.out]), hB1⟩

def eqGo : List Int → List Int → Bool
  | [], [] => true
  | x :: a, y :: b => decide (x = y) && eqGo a b
  | _, _ => false
theorem eqGo_iff : ∀ (a b : List Int), eqGo a b = decide (a = b)
  | [], [] => by simp [eqGo]
  | [], y :: b => by simp [eqGo]
  | x :: a, [] => by simp [eqGo]
  | x :: a, y :: b => by
    rw [eqGo, eqGo_iff a b, Bool.eq_iff_iff]
    simp
theorem eqGo_drop (a b : List Int) (k : Nat) (x y : Int) (hx : a[k]? = some x) (hy : b[k]? = some y) : eqGo (a.drop k) (b.drop k) = (decide (x = y) && eqGo (a.drop (k + 1)) (b.drop (k + 1))) := by
  obtain ⟨h1, h2⟩ := List.getElem?_eq_some_iff.1 hx
  obtain ⟨h3, h4⟩ := List.getElem?_eq_some_iff.1 hy
  rw [List.drop_eq_getElem_cons h1, List.drop_eq_getElem_cons h3, h2, h4]
  rfl

set_option maxHeartbeats 800000 in
theorem ints_ok (av bv : Value) (a b : List Int) (w : World) (ha : Arr w w.heap.size 1 av a icell) (hb : Arr w w.heap.size 1 bv b icell) :
    Calls Try.prog 22 #[av, bv] w fun r w' => r = .returned (.bool (decide (a = b))) ∧ Below w.heap.size w w' := by
  obtain ⟨A, ac, rfl, ha1, ha2, hac⟩ := ha
  obtain ⟨B, bc, rfl, hb1, hb2, hbc⟩ := hb
  by_cases hl : a.length = b.length
  case neg =>
    have d1 : (a.length == b.length) = false := by simpa using hl
    have d2 : ((a.length : Int) == (b.length : Int)) = false := by simp; omega
    have d3 : ((a.length : Int) != (b.length : Int)) = true := by simp; omega
    have HN : Hid (decide (a = b) = false) := by
      rw [Hid, decide_eq_false_iff_not]
      intro h
      exact hl (by rw [h])
    clear hl hac hbc
    go_enter Try.func22, Try.ntmps22
    go_wp2
    go_ret
    exact ⟨ret_b HN.out.symm, Below.refl _ _⟩
  case pos =>
    obtain ⟨n, hn⟩ : ∃ n, a.length = n := ⟨_, rfl⟩
    have hn2 : b.length = n := by omega
    rw [hn] at ha1 ⊢
    rw [hn2] at hb1 ⊢
    have HN := Lib.hid hn
    have HN2 := Lib.hid hn2
    have HA := Lib.hid hac
    have HB := Lib.hid hbc
    have HE : Hid (decide (a = b) = eqGo a b) := (eqGo_iff a b).symm
    clear hl hn hn2 hac hbc
    have d1 : (n == n) = true := by simp
    have d2 : ((n : Int) == (n : Int)) = true := by simp
    have d3 : ((n : Int) != (n : Int)) = false := by simp
    go_enter Try.func22, Try.ntmps22
    go_wp2
    go_loopw [5] (fun i wr => ∃ k : Nat, k ≤ n ∧ i = .int .i64 k ∧ eqGo a b = eqGo (a.drop k) (b.drop k) ∧ Below w.heap.size w wr) (fun i _ => n - (intOf i).toNat)
    case atStart => exact ⟨0, Nat.zero_le _, rfl, rfl, Below.refl _ _⟩
    case round =>
      obtain ⟨k, hk, rfl, hf, hbw⟩ := hrel
      by_cases hlt : k < n
      · obtain ⟨x, hx⟩ : ∃ x, a[k]? = some x := ⟨a[k]'(by rw [HN.out]; exact hlt), List.getElem?_eq_getElem _⟩
        obtain ⟨y, hy⟩ : ∃ y, b[k]? = some y := ⟨b[k]'(by rw [HN2.out]; exact hlt), List.getElem?_eq_getElem _⟩
        obtain ⟨b1, o1, rfl, hB1, hc1⟩ := HA.out (by rw [HN.out]; omega)
        obtain ⟨b2, o2, rfl, hB2, hc2⟩ := HB.out (by rw [HN2.out]; omega)
        have x1 := (hbw.cell (p := ⟨b1, o1 + k * 1 + 0, none⟩) hB1).trans (hc1 k x hx 0 (by omega))
        have y1 := (hbw.cell (p := ⟨b2, o2 + k * 1 + 0, none⟩) hB2).trans (hc2 k y hy 0 (by omega))
        have i1 : (k : Int) < (n : Int) := by omega
        simp only [Nat.mul_one, Nat.add_zero, icell] at x1 y1
        rw [eqGo_drop a b k x y hx hy] at hf
        have HF := Lib.hid hf
        clear hf hx hy hc1 hc2
        by_cases hxy : x = y
        · have e1 : (x == y) = true := by simpa using hxy
          have e2 : (x != y) = false := by simpa using hxy
          have HQ : Hid (eqGo a b = eqGo (a.drop (k + 1)) (b.drop (k + 1))) := by rw [Hid, HF.out]; simp [hxy]
          clear hxy
          go_wp2_with fail
          go_quiet (fail)
          go_wp2
          go_roundw
          case rel => exact ⟨k + 1, by omega, by go_num, HQ.out, bdrewN hbw _⟩
          case measure => simp [intOf]; omega
        · have e1 : (x == y) = false := by simpa using hxy
          have e2 : (x != y) = true := by simpa using hxy
          have HQ : Hid (eqGo a b = false) := by rw [Hid, HF.out]; simp [hxy]
          clear hxy
          go_wp2_with fail
          go_quiet (fail)
          go_wp2
          go_ret
          exact ⟨ret_b (by rw [HE.out, HQ.out]), bdrewN hbw _⟩
      · obtain rfl : k = n := by omega
        have HQ : Hid (eqGo a b = true) := by
          rw [Hid, hf, List.drop_eq_nil_of_le (by rw [HN.out]; exact Nat.le_refl _), List.drop_eq_nil_of_le (by rw [HN2.out]; exact Nat.le_refl _)]; rfl
        clear hf
        go_wp2
        go_ret
        exact ⟨ret_b (by rw [HE.out, HQ.out]), hbw⟩
set_option maxHeartbeats 800000 in
theorem longs_ok (av bv : Value) (a b : List Int) (w : World) (ha : Arr w w.heap.size 1 av a icell) (hb : Arr w w.heap.size 1 bv b icell) :
    Calls Try.prog 28 #[av, bv] w fun r w' => r = .returned (.bool (decide (a = b))) ∧ Below w.heap.size w w' := by
  obtain ⟨A, ac, rfl, ha1, ha2, hac⟩ := ha
  obtain ⟨B, bc, rfl, hb1, hb2, hbc⟩ := hb
  by_cases hl : a.length = b.length
  case neg =>
    have d1 : (a.length == b.length) = false := by simpa using hl
    have d2 : ((a.length : Int) == (b.length : Int)) = false := by simp; omega
    have d3 : ((a.length : Int) != (b.length : Int)) = true := by simp; omega
    have HN : Hid (decide (a = b) = false) := by
      rw [Hid, decide_eq_false_iff_not]
      intro h
      exact hl (by rw [h])
    clear hl hac hbc
    go_enter Try.func28, Try.ntmps28
    go_wp2
    go_ret
    exact ⟨ret_b HN.out.symm, Below.refl _ _⟩
  case pos =>
    obtain ⟨n, hn⟩ : ∃ n, a.length = n := ⟨_, rfl⟩
    have hn2 : b.length = n := by omega
    rw [hn] at ha1 ⊢
    rw [hn2] at hb1 ⊢
    have HN := Lib.hid hn
    have HN2 := Lib.hid hn2
    have HA := Lib.hid hac
    have HB := Lib.hid hbc
    have HE : Hid (decide (a = b) = eqGo a b) := (eqGo_iff a b).symm
    clear hl hn hn2 hac hbc
    have d1 : (n == n) = true := by simp
    have d2 : ((n : Int) == (n : Int)) = true := by simp
    have d3 : ((n : Int) != (n : Int)) = false := by simp
    go_enter Try.func28, Try.ntmps28
    go_wp2
    go_loopw [5] (fun i wr => ∃ k : Nat, k ≤ n ∧ i = .int .i64 k ∧ eqGo a b = eqGo (a.drop k) (b.drop k) ∧ Below w.heap.size w wr) (fun i _ => n - (intOf i).toNat)
    case atStart => exact ⟨0, Nat.zero_le _, rfl, rfl, Below.refl _ _⟩
    case round =>
      obtain ⟨k, hk, rfl, hf, hbw⟩ := hrel
      by_cases hlt : k < n
      · obtain ⟨x, hx⟩ : ∃ x, a[k]? = some x := ⟨a[k]'(by rw [HN.out]; exact hlt), List.getElem?_eq_getElem _⟩
        obtain ⟨y, hy⟩ : ∃ y, b[k]? = some y := ⟨b[k]'(by rw [HN2.out]; exact hlt), List.getElem?_eq_getElem _⟩
        obtain ⟨b1, o1, rfl, hB1, hc1⟩ := HA.out (by rw [HN.out]; omega)
        obtain ⟨b2, o2, rfl, hB2, hc2⟩ := HB.out (by rw [HN2.out]; omega)
        have x1 := (hbw.cell (p := ⟨b1, o1 + k * 1 + 0, none⟩) hB1).trans (hc1 k x hx 0 (by omega))
        have y1 := (hbw.cell (p := ⟨b2, o2 + k * 1 + 0, none⟩) hB2).trans (hc2 k y hy 0 (by omega))
        have i1 : (k : Int) < (n : Int) := by omega
        simp only [Nat.mul_one, Nat.add_zero, icell] at x1 y1
        rw [eqGo_drop a b k x y hx hy] at hf
        have HF := Lib.hid hf
        clear hf hx hy hc1 hc2
        by_cases hxy : x = y
        · have e1 : (x == y) = true := by simpa using hxy
          have e2 : (x != y) = false := by simpa using hxy
          have HQ : Hid (eqGo a b = eqGo (a.drop (k + 1)) (b.drop (k + 1))) := by rw [Hid, HF.out]; simp [hxy]
          clear hxy
          go_wp2_with fail
          go_quiet (fail)
          go_wp2
          go_roundw
          case rel => exact ⟨k + 1, by omega, by go_num, HQ.out, bdrewN hbw _⟩
          case measure => simp [intOf]; omega
        · have e1 : (x == y) = false := by simpa using hxy
          have e2 : (x != y) = true := by simpa using hxy
          have HQ : Hid (eqGo a b = false) := by rw [Hid, HF.out]; simp [hxy]
          clear hxy
          go_wp2_with fail
          go_quiet (fail)
          go_wp2
          go_ret
          exact ⟨ret_b (by rw [HE.out, HQ.out]), bdrewN hbw _⟩
      · obtain rfl : k = n := by omega
        have HQ : Hid (eqGo a b = true) := by
          rw [Hid, hf, List.drop_eq_nil_of_le (by rw [HN.out]; exact Nat.le_refl _), List.drop_eq_nil_of_le (by rw [HN2.out]; exact Nat.le_refl _)]; rfl
        clear hf
        go_wp2
        go_ret
        exact ⟨ret_b (by rw [HE.out, HQ.out]), hbw⟩
end Go.Proofs.Ythplabmbbfefeaa
