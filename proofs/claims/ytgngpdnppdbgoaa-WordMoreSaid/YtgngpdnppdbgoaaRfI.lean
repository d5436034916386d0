/- Contract of the reference: CheckPassage. -/
import Derived.Test.YtgngpdnppdbgoaaRfH
namespace Go.Proofs.Ytgngpdnppdbgoaa
open Go.RowKit Go.Shelf
set_option linter.unusedVariables false

theorem outB_wit {ls : List (List Int)} {m : List Int} (hl : m.length = ls.length) {h : Nat} (hh : h < ls.length) (hx : m.getD h 0 < 0 ∨ ((ls.getD h []).length : Int) ≤ m.getD h 0) : outB ls m = true := by
  cases hb : outB ls m with
  | true => rfl
  | false =>
    have := (outB_false hl).1 hb h hh
    omega
/-- places that are given as numbers -/
theorem pas_nat {b : List (Int × Int)} {ls p : List (List Int)} (h1 : ∀ m ∈ p, m.length = ls.length) (h2 : ∀ m ∈ p, outB ls m = false) :
    ∃ q : List (List Nat), p = iLL q ∧ p.map toN = q ∧ (∀ m ∈ q, m.length = ls.length ∧ ∀ h, h < ls.length → at0 m h < (ls.getD h []).length) ∧ (p.all fun m => mtB b ls (toN m)) = q.all (mtB b ls) := by
  have h3 : ∀ m ∈ p, iL (toN m) = m := by
    intro m hm
    have ho := (outB_false (h1 m hm)).1 (h2 m hm)
    have hl := h1 m hm
    apply List.ext_getElem
    · rw [iL_len, toN, List.length_map]
    · intro i h4 h5
      have h6 := ho i (by omega)
      rw [List.getD_eq_getElem?_getD, List.getElem?_eq_getElem h5] at h6
      simp only [iL, toN, List.getElem_map]
      have : (some m[i]).getD 0 = m[i] := rfl
      rw [this] at h6
      omega
  refine ⟨p.map toN, ?_, rfl, fun m hm => ?_, ?_⟩
  · unfold iLL
    rw [List.map_map]
    have : p.map (iL ∘ toN) = p.map id := List.map_congr_left fun m hm => h3 m hm
    rw [this, List.map_id]
  · obtain ⟨x, hx, rfl⟩ := List.mem_map.1 hm
    refine ⟨by rw [toN, List.length_map]; exact h1 x hx, fun h hh => ?_⟩
    have := (outB_false (h1 x hx)).1 (h2 x hx) h hh
    rw [at0_toN]
    omega
  · rw [List.all_map]
    rfl
theorem ordB_adj {ls : List (List Int)} : ∀ (l : List (List Nat)), (∀ i, i + 1 < l.length → befL ls (l.getD i []) (l.getD (i + 1) []) = true) ↔ ordB ls l = true
  | [] => ⟨fun _ => rfl, fun _ i hi => by simp at hi⟩
  | [_] => ⟨fun _ => rfl, fun _ i hi => by simp at hi⟩
  | x :: y :: r => by
    show _ ↔ (befL ls x y && ordB ls (y :: r)) = true
    rw [Bool.and_eq_true, ← ordB_adj (y :: r)]
    constructor
    · intro h
      exact ⟨h 0 (by simp), fun i hi => h (i + 1) (by simpa using hi)⟩
    · rintro ⟨h1, h2⟩ i hi
      cases i with
      | zero => exact h1
      | succ i => exact h2 i (by simpa using hi)
theorem all_false_wit {α : Type} {p : α → Bool} {l : List α} {x : α} (hx : x ∈ l) (h : p x = false) : l.all p = false := by
  cases ha : l.all p with
  | false => rfl
  | true =>
    have := List.all_eq_true.1 ha x hx
    rw [h] at this
    cases this

set_option maxRecDepth 100000 in
set_option maxHeartbeats 6400000 in
theorem rcheckPass_ok (v lv pv : Value) (b : List (Int × Int)) (ls p : List (List Int)) (w : World) (hv : BookV w w.heap.size v b) (hl : LLi w lv ls) (hpv : LLi w pv p) :
    Calls Try.prog 30 #[v, lv, pv] w fun r w' => r = .returned (.int .i64 (checkPass b ls p)) ∧ Below w.heap.size w w' := by
  obtain ⟨ma, mc, rfl, -, -⟩ := hpv.form
  obtain ⟨pa, pc, rfl, hp⟩ := hv.open_
  obtain ⟨la, lc, rfl, -, -⟩ := hl.form
  have hC := BB.new hp
  have hB := (Below.refl w.heap.size w).alloc (Nat.le_refl _) (.cells #[.slice pa b.length pc] 24)
  go_enter Try.func30, Try.ntmps30
  go_upto_region 1 with (fail)
  generalize w.alloc (.cells #[.slice pa b.length pc] 24) = W at *
  have hl0 := (hl.below hB).more hB.size
  clear hp hv hl
  have k0 := hC.c0
  go_wp2_with fail
  refine (rcheckLines_ok _ _ b ls W hC.bv hl0).mono ?_
  rintro e w1 ⟨rfl, hb1⟩
  have hB1 := hB.trans (hb1.mono hB.size)
  have hC1 := hC.call hb1
  have hl1 := hl0.call hb1
  clear hC hB hb1 k0 hl0
  have k0 := hC1.c0
  by_cases he : checkLines b ls = 0
  · have d0 : (checkLines b ls != 0) = false := by simp [he]
    have HE : Hid (checkPass b ls p = if 8 < p.length then 6 else if (p.any fun m => decide (m.length ≠ ls.length)) = true then 15 else if (p.any (outB ls)) = true then 3 else if (p.all fun m => mtB b ls (toN m)) = false then 20 else if ordB ls (p.map toN) = false then 24 else 0) := if_neg (by simp [he])
    have HG := Lib.hid (good_of he)
    have hl2 := HG.out.two
    have hl4 := HG.out.four
    have hpw := (hpv.below hB1).more hB1.size
    clear he hpv k0
    by_cases h8 : 8 < p.length
    · have d1 : decide ((8 : Int) < (p.length : Int)) = true := decide_eq_true (by omega)
      have d1' : decide (8 < p.length) = true := decide_eq_true h8
      have HR : Hid (checkPass b ls p = 6) := by rw [Hid, HE.out, if_pos h8]
      clear h8
      go_wp2
      go_ret
      exact ⟨by rw [HR.out]; rfl, hB1⟩
    · have d1 : decide ((8 : Int) < (p.length : Int)) = false := decide_eq_false (by omega)
      have d1' : decide (8 < p.length) = false := decide_eq_false h8
      have HE1 : Hid (checkPass b ls p = if (p.any fun m => decide (m.length ≠ ls.length)) = true then 15 else if (p.any (outB ls)) = true then 3 else if (p.all fun m => mtB b ls (toN m)) = false then 20 else if ordB ls (p.map toN) = false then 24 else 0) := by rw [Hid, HE.out, if_neg h8]
      have hp8 : p.length ≤ 8 := by omega
      clear HE
      go_wp2
      go_loopw [7] (fun i wr => ∃ k : Nat, k ≤ p.length ∧ i = .int .i64 k ∧ Hid (∀ m ∈ p.take k, m.length = ls.length) ∧ Below w1.heap.size w1 wr) (fun i _ => p.length - (intOf i).toNat)
      case atStart => exact ⟨0, Nat.zero_le _, rfl, fun m hm => by simp at hm, Below.refl _ _⟩
      case round =>
        obtain ⟨k, hk, rfl, hok, hb⟩ := hrel
        by_cases hlt : k < p.length
        · have d2 : decide (k < p.length) = true := decide_eq_true hlt
          have d2' : decide ((k : Int) < (p.length : Int)) = true := decide_eq_true (by omega)
          have hki : (k : Int) < (p.length : Int) := by omega
          obtain ⟨m, hm⟩ : ∃ m, p[k]? = some m := ⟨_, List.getElem?_eq_getElem hlt⟩
          obtain ⟨eb, eo, eA, ec, hA, heb, hec, -⟩ := (hpw.call hb).at_ hm
          subst hA
          have HM := Lib.hid hm
          clear hm
          by_cases hml : m.length = ls.length
          · have d3 : ((m.length : Int) != (ls.length : Int)) = false := by simp; omega
            have HOK : Hid (∀ m' ∈ p.take (k + 1), m'.length = ls.length) := fun m' hm' => by
              rw [take_snoc HM.out, List.mem_append, List.mem_singleton] at hm'
              rcases hm' with hm' | rfl
              · exact hok.out m' hm'
              · exact hml
            clear hml hok
            go_wp2
            go_roundw
            case rel => exact ⟨k + 1, by omega, by go_num, HOK, hb⟩
            case measure => (simp [intOf]; try omega)
          · have d3 : ((m.length : Int) != (ls.length : Int)) = true := by simp; omega
            have HR : Hid (checkPass b ls p = 15) := by rw [Hid, HE1.out, if_pos (List.any_eq_true.2 ⟨m, List.mem_of_getElem? HM.out, by simpa using hml⟩)]
            have hb3 := hB1.trans (hb.mono hB1.size)
            clear hml
            go_wp2
            go_ret
            exact ⟨by rw [HR.out]; rfl, hb3⟩
        · obtain rfl : p.length = k := by omega
          have d2 : decide (p.length < p.length) = false := by simp
          rw [List.take_length] at hok
          have HE2 : Hid (checkPass b ls p = if (p.any (outB ls)) = true then 3 else if (p.all fun m => mtB b ls (toN m)) = false then 20 else if ordB ls (p.map toN) = false then 24 else 0) := by
            rw [Hid, HE1.out, if_neg]
            rw [List.any_eq_true]
            rintro ⟨m, hm, h⟩
            have := hok.out m hm
            simp [this] at h
          clear HE1 hlt hk
          obtain ⟨wo, hwo⟩ : ∃ wo : World, wo = wr := ⟨_, rfl⟩
          rw [← hwo] at hb ⊢
          clear hwo
          go_wp2
          clear d2
          go_loopw [8] (fun i wr => ∃ k : Nat, k ≤ p.length ∧ i = .int .i64 k ∧ Hid (∀ m ∈ p.take k, outB ls m = false) ∧ Below w1.heap.size w1 wr) (fun i _ => p.length - (intOf i).toNat)
          case atStart => exact ⟨0, Nat.zero_le _, rfl, fun m hm => by simp at hm, hb⟩
          case round =>
            clear hb
            obtain ⟨k, hk, rfl, hok2, hb⟩ := hrel
            by_cases hlt : k < p.length
            · have d2 : decide (k < p.length) = true := decide_eq_true hlt
              have d2' : decide ((k : Int) < (p.length : Int)) = true := decide_eq_true (by omega)
              have hki : (k : Int) < (p.length : Int) := by omega
              obtain ⟨m, hm⟩ : ∃ m, p[k]? = some m := ⟨_, List.getElem?_eq_getElem hlt⟩
              have HM := Lib.hid hm
              have hml := hok.out m (List.mem_of_getElem? hm)
              have HML := Lib.hid hml
              clear hm hml
              obtain ⟨wo, hwo⟩ : ∃ wo : World, wo = wr := ⟨_, rfl⟩
              rw [← hwo] at hb ⊢
              clear hwo
              go_wp2
              go_loopw [9] (fun i wr => ∃ h : Nat, h ≤ ls.length ∧ i = .int .i64 h ∧ Hid (∀ j, j < h → 0 ≤ m.getD j 0 ∧ m.getD j 0 < (ls.getD j []).length) ∧ Below w1.heap.size w1 wr) (fun i _ => ls.length - (intOf i).toNat)
              case atStart => exact ⟨0, Nat.zero_le _, rfl, fun j hj => absurd hj (Nat.not_lt_zero _), hb⟩
              case round =>
                clear hb
                obtain ⟨h, hh, rfl, hok3, hb⟩ := hrel
                by_cases hlt2 : h < ls.length
                · have d3 : decide (h < ls.length) = true := decide_eq_true hlt2
                  have d3' : decide ((h : Int) < (ls.length : Int)) = true := decide_eq_true (by omega)
                  have hhi : (h : Int) < (ls.length : Int) := by omega
                  have hhm : (h : Int) < (m.length : Int) := by have := HML.out; omega
                  obtain ⟨eb, eo, eA, ec, hA, heb, hec, hea⟩ := (hpw.call hb).at_ HM.out
                  subst hA
                  obtain ⟨nb, no, rfl, hnb, hnc⟩ := num_at hea (k := h) (by rw [HML.out]; exact hlt2)
                  obtain ⟨lb, lo, lA, lcc, rfl, hlb, hlc, -⟩ := (hl1.call hb).at_ (getD_some [] hlt2)
                  obtain ⟨x, hx⟩ : ∃ x, x = m.getD h 0 := ⟨_, rfl⟩
                  obtain ⟨T, hT⟩ : ∃ T, T = (ls.getD h []).length := ⟨_, rfl⟩
                  rw [← hx] at hnc
                  rw [← hT] at hlc
                  have HX := Lib.hid hx
                  have HT := Lib.hid hT
                  have f0 := Ext.of hec
                  have f1 := Ext.of hnc
                  have f2 := Ext.of hlc
                  clear hx hT hec hnc hlc hea
                  go_upto_region 16 with (fail)
                  by_cases hx0 : x < 0
                  · have d4 : decide (x < 0) = true := decide_eq_true hx0
                    have HR : Hid (checkPass b ls p = 3) := by rw [Hid, HE2.out, if_pos (List.any_eq_true.2 ⟨m, List.mem_of_getElem? HM.out, outB_wit HML.out hlt2 (.inl (by rw [← HX.out]; exact hx0))⟩)]
                    clear hx0
                    refine wp_region_ext (by kernel_rfl) (by kernel_rfl) ?_
                    repeat (go_big_quiet_step (fail))
                    refine wpQuiet_nil ?_
                    intro _ hw'
                    obtain ⟨xr, hw''⟩ := hw'
                    subst hw''
                    have hb3 := hB1.trans ((hb.trans (xr.h.mono hb.size)).mono hB1.size)
                    go_wp2
                    go_ret
                    exact ⟨by rw [HR.out]; rfl, hb3⟩
                  · have d4 : decide (x < 0) = false := decide_eq_false hx0
                    by_cases hxT : (T : Int) ≤ x
                    · have d5 : decide ((T : Int) ≤ x) = true := decide_eq_true hxT
                      have HR : Hid (checkPass b ls p = 3) := by rw [Hid, HE2.out, if_pos (List.any_eq_true.2 ⟨m, List.mem_of_getElem? HM.out, outB_wit HML.out hlt2 (.inr (by rw [← HX.out, ← HT.out]; exact hxT))⟩)]
                      clear hx0 hxT
                      refine wp_region_ext (by kernel_rfl) (by kernel_rfl) ?_
                      repeat (go_big_quiet_step (fail))
                      refine wpQuiet_nil ?_
                      intro _ hw'
                      obtain ⟨xr, hw''⟩ := hw'
                      subst hw''
                      have hb3 := hB1.trans ((hb.trans (xr.h.mono hb.size)).mono hB1.size)
                      go_wp2
                      go_ret
                      exact ⟨by rw [HR.out]; rfl, hb3⟩
                    · have d5 : decide ((T : Int) ≤ x) = false := decide_eq_false hxT
                      have HOK : Hid (∀ j, j < h + 1 → 0 ≤ m.getD j 0 ∧ m.getD j 0 < (ls.getD j []).length) := fun j hj => by
                        by_cases e : j = h
                        · rw [e, ← HX.out, ← HT.out]; omega
                        · exact hok3.out j (by omega)
                      clear hx0 hxT hok3
                      refine wp_region_ext (by kernel_rfl) (by kernel_rfl) ?_
                      repeat (go_big_quiet_step (fail))
                      refine wpQuiet_nil ?_
                      intro _ hw'
                      obtain ⟨xr, hw''⟩ := hw'
                      subst hw''
                      have hb2 := hb.trans (xr.h.mono hb.size)
                      go_wp2
                      go_roundw
                      case rel => exact ⟨h + 1, by omega, by go_num, HOK, hb2⟩
                      case measure => (simp [intOf]; try omega)
                · obtain rfl : ls.length = h := by omega
                  have d3 : decide (ls.length < ls.length) = false := by simp
                  have HOK : Hid (∀ m' ∈ p.take (k + 1), outB ls m' = false) := fun m' hm' => by
                    rw [take_snoc HM.out, List.mem_append, List.mem_singleton] at hm'
                    rcases hm' with hm' | rfl
                    · exact hok2.out m' hm'
                    · exact (outB_false HML.out).2 hok3.out
                  clear hok3 hok2
                  go_wp2
                  go_roundw
                  case rel => exact ⟨k + 1, by omega, by go_num, HOK, hb⟩
                  case measure => (simp [intOf]; try omega)
            · obtain rfl : p.length = k := by omega
              have d2 : decide (p.length < p.length) = false := by simp
              rw [List.take_length] at hok2
              have HE3 : Hid (checkPass b ls p = if (p.all fun m => mtB b ls (toN m)) = false then 20 else if ordB ls (p.map toN) = false then 24 else 0) := by
                rw [Hid, HE2.out, if_neg]
                rw [List.any_eq_true]
                rintro ⟨m, hm, h⟩
                rw [hok2.out m hm] at h
                cases h
              obtain ⟨q, hq1, hq2, hq3, hq4⟩ := pas_nat (b := b) hok.out hok2.out
              have HE4 : Hid (checkPass b ls p = if q.all (mtB b ls) = false then 20 else if ordB ls q = false then 24 else 0) := by rw [Hid, HE3.out, hq4, hq2]
              have HQ := Lib.hid hq3
              have HPQ : Hid (p.length = q.length) := by rw [Hid, hq1, iLL_len]
              have hqw : LLi w1 (.slice ma p.length mc) (iLL q) := hq1 ▸ hpw
              clear HE2 HE3 hq1 hq2 hq3 hq4 hok hok2 hpw d1 d1' h8 d2 hlt hk
              have hbz := hB1.trans (hb.mono hB1.size)
              have hC2 := hC1.call hb
              have hl3 := hl1.call hb
              have hq2 := hqw.call hb
              obtain ⟨wo, hwo⟩ : ∃ wo : World, wo = wr := ⟨_, rfl⟩
              rw [← hwo] at hbz hC2 hl3 hq2 ⊢
              clear hwo hb hB1 hC1 hl1 hqw
              have k0 := hC2.c0
              have d2 : decide (p.length < p.length) = false := by simp
              go_wp2_with fail
              refine (rclasses_ok _ b wo hC2.bv HG.out.book).mono ?_
              rintro e w5 ⟨cb, ccap, rfl, hO, hob, hb5⟩
              have hb6 := hbz.trans (hb5.mono hbz.size)
              have hl5 := hl3.call hb5
              have hq5 := hq2.call hb5
              clear hbz hC2 hl3 hq2 k0 hob hb5 d2
              go_wp2
              go_loopw [11] (fun i wr => ∃ k : Nat, k ≤ p.length ∧ i = .int .i64 k ∧ Hid (∀ m ∈ q.take k, mtB b ls m = true) ∧ Below w5.heap.size w5 wr) (fun i _ => p.length - (intOf i).toNat)
              case atStart => exact ⟨0, Nat.zero_le _, rfl, fun m hm => by simp at hm, Below.refl _ _⟩
              case round =>
                obtain ⟨k, hk, rfl, hok, hb⟩ := hrel
                by_cases hlt : k < p.length
                · have d2 : decide (k < p.length) = true := decide_eq_true hlt
                  have d2' : decide ((k : Int) < (p.length : Int)) = true := decide_eq_true (by omega)
                  have hki : (k : Int) < (p.length : Int) := by omega
                  have hkq : k < q.length := by rw [← HPQ.out]; exact hlt
                  obtain ⟨m, hm⟩ : ∃ m, m = q.getD k [] := ⟨_, rfl⟩
                  have hmq : m ∈ q := by rw [hm]; exact getD_in hkq
                  have HM : Hid (q[k]? = some m) := by rw [hm]; exact getD_some [] hkq
                  have HML := Lib.hid (HQ.out m hmq)
                  have HMD := Lib.hid hm
                  clear hm
                  obtain ⟨wo, hwo⟩ : ∃ wo : World, wo = wr := ⟨_, rfl⟩
                  rw [← hwo] at hb ⊢
                  clear hwo
                  go_wp2
                  have HOK0 : Hid (∀ j, j < 1 → okAt b ls m j = true) := fun j hj => by
                    obtain rfl : j = 0 := by omega
                    simp [okAt, likeB]
                  go_loopw [12] (fun i wr => ∃ h : Nat, 1 ≤ h ∧ h ≤ ls.length ∧ i = .int .i64 h ∧ Hid (∀ j, j < h → okAt b ls m j = true) ∧ Below w5.heap.size w5 wr) (fun i _ => ls.length - (intOf i).toNat)
                  case atStart => exact ⟨1, Nat.le_refl _, by omega, rfl, HOK0, hb⟩
                  case round =>
                    clear hb
                    obtain ⟨h, hh1, hh, rfl, hok3, hb⟩ := hrel
                    by_cases hlt2 : h < ls.length
                    · have d3 : decide (h < ls.length) = true := decide_eq_true hlt2
                      have d3' : decide ((h : Int) < (ls.length : Int)) = true := decide_eq_true (by omega)
                      have hhi : (h : Int) < (ls.length : Int) := by omega
                      obtain ⟨eb, eo, eA, ec, hA, heb, hec, hea⟩ := mat_at (hq5.call hb) hkq
                      rw [← HMD.out] at hec hea
                      subst hA
                      have hilm : (h : Int) < ((iL m).length : Int) := by rw [iL_len, HML.out.1]; exact hhi
                      have hilm0 : (0 : Int) < ((iL m).length : Int) := by rw [iL_len, HML.out.1]; omega
                      obtain ⟨nb, no, rfl, hnb, hnc⟩ := num_at hea (k := h) (by rw [iL_len, HML.out.1]; exact hlt2)
                      have hnc0 := num_at2 hea (k := 0) (by rw [iL_len, HML.out.1]; omega)
                      rw [getD_iL2] at hnc hnc0
                      obtain ⟨lb1, lo1, nb1, no1, T1, c1, xh, e1, hlb1, hlc1, hT1, hj1, hnb1, hnc1, hx1, hw1⟩ := ln_word (hl5.call hb) HG.out hlt2 (HML.out.2 h hlt2)
                      obtain ⟨lb2, lo2, nb2, no2, T2, c2, x0, e2, hlb2, hlc2, hT2, hj2, hnb2, hnc2, hx0, hw0⟩ := ln_word (hl5.call hb) HG.out (show 0 < ls.length by omega) (HML.out.2 0 (by omega))
                      subst e1
                      injection e2 with e2
                      injection e2 with e2 e2b
                      subst e2 e2b
                      rw [Nat.add_zero] at hlc2 hnc0
                      have hOq := hO.call hb
                      obtain ⟨p0, -⟩ := hOq.cell (labs_at (b := b) hx1)
                      obtain ⟨p1, -⟩ := hOq.cell (labs_at (b := b) hx0)
                      have g0 : (0 : Int) < (ls.length : Int) := by omega
                      have g1 : (at0 m h : Int) < (T1 : Int) := by omega
                      have g2 : (at0 m 0 : Int) < (T2 : Int) := by omega
                      have g3 : (xh : Int) < 101 := by omega
                      have g4 : (x0 : Int) < 101 := by omega
                      obtain ⟨lx, hlx⟩ : ∃ lx, lx = labI b (xh : Int) := ⟨_, rfl⟩
                      obtain ⟨ly, hly⟩ : ∃ ly, ly = labI b (x0 : Int) := ⟨_, rfl⟩
                      have HSO : Hid (okAt b ls m h = ((lx : Int) == (ly : Int))) := by
                        unfold okAt
                        rw [Hid, hw1, hw0, ← lab_like, ← hlx, ← hly, Bool.eq_iff_iff, beq_iff_eq, beq_iff_eq]
                        constructor <;> intro h <;> omega
                      rw [← hlx] at p0
                      rw [← hly] at p1
                      have f0 := Ext.of hec
                      have f1 := Ext.of hnc
                      have f2 := Ext.of hnc0
                      have f3 := Ext.of hlc1
                      have f4 := Ext.of hnc1
                      have f5 := Ext.of hlc2
                      have f6 := Ext.of hnc2
                      have f7 := Ext.of p0
                      have f8 := Ext.of p1
                      clear hlx hly hec hnc hnc0 hlc1 hnc1 hlc2 hnc2 p0 p1 hea hOq hw0 hw1 hT1 hT2
                      go_upto_region 25 with (fail)
                      by_cases hq : (lx : Int) = (ly : Int)
                      · have d4 : ((lx : Int) != (ly : Int)) = false := by simp; omega
                        have HOK : Hid (∀ j, j < h + 1 → okAt b ls m j = true) := fun j hj => by
                          by_cases e : j = h
                          · rw [e, HSO.out, beq_iff_eq]; exact hq
                          · exact hok3.out j (by omega)
                        clear hq hok3
                        refine wp_region_ext (by kernel_rfl) (by kernel_rfl) ?_
                        repeat (go_big_quiet_step (fail))
                        refine wpQuiet_nil ?_
                        intro _ hw'
                        obtain ⟨xr, hw''⟩ := hw'
                        subst hw''
                        have hb2 := hb.trans (xr.h.mono hb.size)
                        go_wp2
                        go_roundw
                        case rel => exact ⟨h + 1, by omega, by omega, by go_num, HOK, hb2⟩
                        case measure => (simp [intOf]; try omega)
                      · have d4 : ((lx : Int) != (ly : Int)) = true := by simp; omega
                        have HR : Hid (checkPass b ls p = 20) := by rw [Hid, HE4.out, if_pos (all_false_wit hmq (mtB_false hlt2 (by rw [HSO.out]; exact beq_false_of_ne hq)))]
                        clear hq
                        refine wp_region_ext (by kernel_rfl) (by kernel_rfl) ?_
                        repeat (go_big_quiet_step (fail))
                        refine wpQuiet_nil ?_
                        intro _ hw'
                        obtain ⟨xr, hw''⟩ := hw'
                        subst hw''
                        have hb3 := hb6.trans ((hb.trans (xr.h.mono hb.size)).mono hb6.size)
                        go_wp2
                        go_ret
                        exact ⟨by rw [HR.out]; rfl, hb3⟩
                    · obtain rfl : ls.length = h := by omega
                      have d3 : decide (ls.length < ls.length) = false := by simp
                      have HOK : Hid (∀ m' ∈ q.take (k + 1), mtB b ls m' = true) := fun m' hm' => by
                        rw [take_snoc HM.out, List.mem_append, List.mem_singleton] at hm'
                        rcases hm' with hm' | rfl
                        · exact hok.out m' hm'
                        · exact mtB_true hok3.out
                      clear hok hok3
                      go_wp2
                      go_roundw
                      case rel => exact ⟨k + 1, by omega, by go_num, HOK, hb⟩
                      case measure => (simp [intOf]; try omega)
                · obtain rfl : p.length = k := by omega
                  have d2 : decide (p.length < p.length) = false := by simp
                  have HOA : Hid (∀ m ∈ q, mtB b ls m = true) := by rw [Hid, ← List.take_length (l := q), ← HPQ.out]; exact hok.out
                  have HE5 : Hid (checkPass b ls p = if ordB ls q = false then 24 else 0) := by rw [Hid, HE4.out, List.all_eq_true.2 HOA.out]; rfl
                  clear HE4 hok hlt hk
                  obtain ⟨wo, hwo⟩ : ∃ wo : World, wo = wr := ⟨_, rfl⟩
                  rw [← hwo] at hb ⊢
                  clear hwo
                  go_wp2
                  clear d2
                  go_loopw [13] (fun i wr => ∃ k : Nat, 1 ≤ k ∧ (k = 1 ∨ k ≤ p.length) ∧ i = .int .i64 k ∧ Hid (∀ j, j + 1 < k → befL ls (q.getD j []) (q.getD (j + 1) []) = true) ∧ Below w5.heap.size w5 wr) (fun i _ => p.length - (intOf i).toNat)
                  case atStart => exact ⟨1, Nat.le_refl _, .inl rfl, rfl, fun j hj => by omega, hb⟩
                  case round =>
                    clear hb
                    obtain ⟨k, hk1, hk, rfl, hok, hb⟩ := hrel
                    by_cases hlt : k < p.length
                    · have d2 : decide (k < p.length) = true := decide_eq_true hlt
                      have d2' : decide ((k : Int) < (p.length : Int)) = true := decide_eq_true (by omega)
                      have hki : (k : Int) < (p.length : Int) := by omega
                      obtain ⟨j, hj⟩ : ∃ j, k = j + 1 := ⟨k - 1, by omega⟩
                      have hji : (j : Int) < (p.length : Int) := by omega
                      have ej : IntKind.i64.wrap ((k : Int) - 1) = (j : Int) := by rw [IntKind.wrap_i64]; omega
                      obtain ⟨eb, eo, eA, ec, hA, heb, hec, hea⟩ := mat_at (hq5.call hb) (k := j) (by rw [← HPQ.out]; omega)
                      obtain ⟨fb, fo, fA, fc, hA2, hfb, hfc, hfa⟩ := mat_at (hq5.call hb) (k := k) (by rw [← HPQ.out]; omega)
                      subst hA
                      injection hA2 with hA2
                      injection hA2 with hA2 hA3
                      subst hA2 hA3
                      have HX1 := Lib.hid (HQ.out _ (getD_in (d := []) (show j < q.length by rw [← HPQ.out]; omega))).1
                      have HX2 := Lib.hid (HQ.out _ (getD_in (d := []) (show k < q.length by rw [← HPQ.out]; omega))).1
                      obtain ⟨m1, hm1⟩ : ∃ m, m = q.getD j [] := ⟨_, rfl⟩
                      obtain ⟨m2, hm2⟩ : ∃ m, m = q.getD k [] := ⟨_, rfl⟩
                      rw [← hm1] at hec hea HX1
                      rw [← hm2] at hfc hfa HX2
                      have HA : Hid (∀ y : Ext wr, Calls Try.prog 65 #[.slice eA (iL m1).length ec, .slice fA (iL m2).length fc] y.w fun r w' => r = .returned (.bool (befL ls m1 m2)) ∧ ∃ z : Ext wr, w' = z.w) := fun y => by
                        have := ext_call y (rbefore_ok _ _ (iL m1) (iL m2) y.w (hea.call y.h) (hfa.call y.h) (by rw [iL_len, iL_len, HX1.out, HX2.out]; exact Nat.le_refl _))
                        rw [rbef_iL HX1.out] at this
                        exact this
                      have HJ := Lib.hid hj
                      have HM1 := Lib.hid hm1
                      have HM2 := Lib.hid hm2
                      have f0 := Ext.of hec
                      have f1 := Ext.of hfc
                      clear hec hfc hea hfa hm1 hm2 hj
                      go_upto_region 30 with (fail)
                      cases hbf : befL ls m1 m2
                      · rw [hbf] at HA
                        have HR : Hid (checkPass b ls p = 24) := by
                          rw [Hid, HE5.out, if_pos]
                          cases ho : ordB ls q with
                          | false => rfl
                          | true =>
                            have := (ordB_adj q).2 ho j (by rw [← HPQ.out, ← HJ.out]; exact hlt)
                            rw [← HJ.out, ← HM1.out, ← HM2.out, hbf] at this
                            cases this
                        clear hbf
                        refine wp_region_ext (by kernel_rfl) (by kernel_rfl) ?_
                        repeat (go_big_quiet_step ((go_at_call 65; with_reducible exact HA.out _)))
                        refine wpQuiet_nil ?_
                        intro _ hw'
                        obtain ⟨xr, hw''⟩ := hw'
                        subst hw''
                        have hb3 := hb6.trans ((hb.trans (xr.h.mono hb.size)).mono hb6.size)
                        go_wp2
                        go_ret
                        exact ⟨by rw [HR.out]; rfl, hb3⟩
                      · rw [hbf] at HA
                        have HOK : Hid (∀ i, i + 1 < k + 1 → befL ls (q.getD i []) (q.getD (i + 1) []) = true) := fun i hi => by
                          by_cases e : i = j
                          · rw [e, ← HJ.out, ← HM1.out, ← HM2.out]; exact hbf
                          · exact hok.out i (by have := HJ.out; omega)
                        clear hbf hok
                        refine wp_region_ext (by kernel_rfl) (by kernel_rfl) ?_
                        repeat (go_big_quiet_step ((go_at_call 65; with_reducible exact HA.out _)))
                        refine wpQuiet_nil ?_
                        intro _ hw'
                        obtain ⟨xr, hw''⟩ := hw'
                        subst hw''
                        have hb2 := hb.trans (xr.h.mono hb.size)
                        go_wp2
                        go_roundw
                        case rel => exact ⟨k + 1, by omega, by omega, by go_num, HOK, hb2⟩
                        case measure => (simp [intOf]; try omega)
                    · have d2 : decide (k < p.length) = false := decide_eq_false hlt
                      have d2' : decide ((k : Int) < (p.length : Int)) = false := decide_eq_false (by omega)
                      have HR : Hid (checkPass b ls p = 0) := by
                        rw [Hid, HE5.out, (ordB_adj q).1 fun j hj => hok.out j (by have := HPQ.out; omega)]
                        rfl
                      have hb3 := hb6.trans (hb.mono hb6.size)
                      clear hok
                      go_wp2
                      go_ret
                      exact ⟨by rw [HR.out]; rfl, hb3⟩
  · have HE : Hid (checkPass b ls p = checkLines b ls) := if_pos he
    have d0 : (checkLines b ls != 0) = true := by simp [he]
    go_wp2_with fail
    refine (rcheckLines_ok _ _ b ls w1 hC1.bv hl1).mono ?_
    rintro e w2 ⟨rfl, hb2⟩
    have hB2 := hB1.trans (hb2.mono hB1.size)
    clear k0 hC1 hl1 hb2
    go_wp2
    go_ret
    exact ⟨by rw [HE.out]; rfl, hB2⟩
end Go.Proofs.Ytgngpdnppdbgoaa
