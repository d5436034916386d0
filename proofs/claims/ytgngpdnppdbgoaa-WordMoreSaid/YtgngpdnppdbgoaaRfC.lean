/- Contracts of the reference: Alike, CheckLines. Contract of the reference: CheckLines. Contracts of the reference: Before, Same. -/
import Derived.Test.YtgngpdnppdbgoaaRfB
namespace Go.Proofs.Ytgngpdnppdbgoaa
open Go.RowKit Go.Shelf
set_option linter.unusedVariables false

theorem labs_at {b : List (Int × Int)} {n : Nat} (hn : n < 101) : (labsOf b)[n]? = some (labI b (n : Int) : Int) := by
  unfold labsOf
  rw [labL_at _ hn]
  unfold labI
  rw [Int.toNat_natCast]

set_option maxRecDepth 100000 in
set_option maxHeartbeats 1600000 in
theorem ralike_ok (v : Value) (b : List (Int × Int)) (x y : Int) (w : World) (hv : BookV w w.heap.size v b) :
    Calls Try.prog 16 #[v, .int .i64 x, .int .i64 y] w fun r w' => r = .returned (.tuple #[.bool (alikeM b x y).1, .int .i64 (alikeM b x y).2]) ∧ Below w.heap.size w w' := by
  obtain ⟨pa, pc, rfl, hp⟩ := hv.open_
  have hC := BB.new hp
  have hB := (Below.refl w.heap.size w).alloc (Nat.le_refl _) (.cells #[.slice pa b.length pc] 24)
  go_enter Try.func16, Try.ntmps16
  go_upto_region 1 with (fail)
  generalize w.alloc (.cells #[.slice pa b.length pc] 24) = W at *
  clear hp hv
  have k0 := hC.c0
  go_wp2_with fail
  refine (rcheckBook_ok _ b W hC.bv).mono ?_
  rintro e w1 ⟨rfl, hb1⟩
  have hB1 := hB.trans (hb1.mono hB.size)
  have hC1 := hC.call hb1
  clear hC hB hb1 k0
  have k0 := hC1.c0
  by_cases he : checkBook b = 0
  · have d0 : (checkBook b != 0) = false := by simp [he]
    have HC : Hid (alikeM b x y = if (isWordB x && isWordB y) = false then (false, 2) else (likeB b x y, 0)) := if_neg (by simp [he])
    have HE := Lib.hid he
    clear he
    have h1 := risWord_ok x w1
    cases hx : isWordB x
    · have HR : Hid (alikeM b x y = (false, 2)) := by rw [Hid, HC.out, hx]; rfl
      rw [hx] at h1
      clear hx
      go_wp2_with fail
      refine h1.mono ?_
      rintro e w2 ⟨rfl, hb2⟩
      have hB2 := hB1.trans (hb2.mono hB1.size)
      clear h1
      go_wp2
      exact bodyPost_ret (v := .tuple #[.bool false, .int .i64 2]) (by simp [results, Try.results16, go_sem]) rfl ⟨by rw [HR.out], hB2⟩
    · rw [hx] at h1
      go_wp2_with fail
      refine h1.mono ?_
      rintro e w2 ⟨rfl, hb2⟩
      have hB2 := hB1.trans (hb2.mono hB1.size)
      have hC2 := hC1.call hb2
      clear h1 k0 hC1 hb2
      have k0 := hC2.c0
      have h2 := risWord_ok y w2
      cases hy : isWordB y
      · have HR : Hid (alikeM b x y = (false, 2)) := by rw [Hid, HC.out, hx, hy]; rfl
        rw [hy] at h2
        clear hx hy
        go_wp2_with fail
        refine h2.mono ?_
        rintro e w3 ⟨rfl, hb3⟩
        have hB3 := hB2.trans (hb3.mono hB2.size)
        clear h2
        go_wp2
        exact bodyPost_ret (v := .tuple #[.bool false, .int .i64 2]) (by simp [results, Try.results16, go_sem]) rfl ⟨by rw [HR.out], hB3⟩
      · have HR : Hid (alikeM b x y = (likeB b x y, 0)) := by rw [Hid, HC.out, hx, hy]; rfl
        have hx1 := isWordB_iff.1 hx
        have hy1 := isWordB_iff.1 hy
        rw [hy] at h2
        clear hx hy
        obtain ⟨xn, rfl⟩ : ∃ xn : Nat, x = (xn : Int) := ⟨x.toNat, by omega⟩
        obtain ⟨yn, rfl⟩ : ∃ yn : Nat, y = (yn : Int) := ⟨y.toNat, by omega⟩
        go_wp2_with fail
        refine h2.mono ?_
        rintro e w3 ⟨rfl, hb3⟩
        have hB3 := hB2.trans (hb3.mono hB2.size)
        have hC3 := hC2.call hb3
        clear h2 k0 hC2 hb3
        have k0 := hC3.c0
        go_wp2_with fail
        refine (rclasses_ok _ b w3 hC3.bv HE.out).mono ?_
        rintro e w4 ⟨ob, cap, rfl, hO, hob, hb4⟩
        have hB4 := hB3.trans (hb4.mono hB3.size)
        obtain ⟨c0, -⟩ := hO.cell (labs_at (b := b) (n := xn) (by omega))
        obtain ⟨c1, -⟩ := hO.cell (labs_at (b := b) (n := yn) (by omega))
        have f0 := Ext.of c0
        have f1 := Ext.of c1
        have g0 : (xn : Int) < 101 := by omega
        have g1 : (yn : Int) < 101 := by omega
        have HL : Hid (((labI b (xn : Int) : Int) == (labI b (yn : Int) : Int)) = likeB b xn yn) := by
          rw [Hid, ← lab_like, Bool.eq_iff_iff, beq_iff_eq, beq_iff_eq]
          constructor <;> intro h <;> omega
        clear k0 c0 c1 hC3
        obtain ⟨lx, hlx⟩ : ∃ lx, lx = labI b (xn : Int) := ⟨_, rfl⟩
        obtain ⟨ly, hly⟩ : ∃ ly, ly = labI b (yn : Int) := ⟨_, rfl⟩
        rw [← hlx] at f0 HL
        rw [← hly] at f1 HL
        clear hlx hly
        go_upto_region 6 with (fail)
        cases hq : ((lx : Int) == (ly : Int))
        · have HR2 : Hid (alikeM b xn yn = (false, 0)) := by rw [Hid, HR.out, ← HL.out, hq]
          refine wp_region_ext (by kernel_rfl) (by kernel_rfl) ?_
          repeat (go_big_quiet_step (fail))
          refine wpQuiet_nil ?_
          intro _ hw'
          obtain ⟨xr, hw''⟩ := hw'
          subst hw''
          have hB5 := hB4.trans (xr.h.mono hB4.size)
          clear hq
          go_wp2
          exact bodyPost_ret (v := .tuple #[.bool false, .int .i64 0]) (by simp [results, Try.results16, go_sem]) rfl ⟨by rw [HR2.out], hB5⟩
        · have HR2 : Hid (alikeM b xn yn = (true, 0)) := by rw [Hid, HR.out, ← HL.out, hq]
          refine wp_region_ext (by kernel_rfl) (by kernel_rfl) ?_
          repeat (go_big_quiet_step (fail))
          refine wpQuiet_nil ?_
          intro _ hw'
          obtain ⟨xr, hw''⟩ := hw'
          subst hw''
          have hB5 := hB4.trans (xr.h.mono hB4.size)
          clear hq
          go_wp2
          exact bodyPost_ret (v := .tuple #[.bool true, .int .i64 0]) (by simp [results, Try.results16, go_sem]) rfl ⟨by rw [HR2.out], hB5⟩
  · have d0 : (checkBook b != 0) = true := by simp [he]
    have HE : Hid (alikeM b x y = (false, checkBook b)) := if_pos he
    clear he
    go_wp2_with fail
    refine (rcheckBook_ok _ b w1 hC1.bv).mono ?_
    rintro e w2 ⟨rfl, hb2⟩
    have hB2 := hB1.trans (hb2.mono hB1.size)
    clear k0 d0
    go_wp2
    exact bodyPost_ret (v := .tuple #[.bool false, .int .i64 (checkBook b)]) (by simp [results, Try.results16, go_sem]) rfl ⟨by rw [HE.out], hB2⟩
end Go.Proofs.Ytgngpdnppdbgoaa

namespace Go.Proofs.Ytgngpdnppdbgoaa
open Go.RowKit Go.Shelf
set_option linter.unusedVariables false

set_option maxRecDepth 100000 in
set_option maxHeartbeats 3200000 in
theorem rcheckLines_ok (v lv : Value) (b : List (Int × Int)) (ls : List (List Int)) (w : World) (hv : BookV w w.heap.size v b) (hl : LLi w lv ls) :
    Calls Try.prog 22 #[v, lv] w fun r w' => r = .returned (.int .i64 (checkLines b ls)) ∧ Below w.heap.size w w' := by
  obtain ⟨pa, pc, rfl, hp⟩ := hv.open_
  obtain ⟨la, lc, rfl, -, -⟩ := hl.form
  have hC := BB.new hp
  have hB := (Below.refl w.heap.size w).alloc (Nat.le_refl _) (.cells #[.slice pa b.length pc] 24)
  go_enter Try.func22, Try.ntmps22
  go_upto_region 1 with (fail)
  generalize w.alloc (.cells #[.slice pa b.length pc] 24) = W at *
  clear hp hv
  have k0 := hC.c0
  go_wp2_with fail
  refine (rcheckBook_ok _ b W hC.bv).mono ?_
  rintro e w1 ⟨rfl, hb1⟩
  have hB1 := hB.trans (hb1.mono hB.size)
  have hC1 := hC.call hb1
  clear hC hB hb1 k0
  have k0 := hC1.c0
  by_cases he : checkBook b = 0
  · have d0 : (checkBook b != 0) = false := by simp [he]
    have HG := Lib.hid (checkLines_go (ls := ls) he)
    clear he k0 hC1
    by_cases h1 : ls.length < 2
    · have d1 : decide ((ls.length : Int) < 2) = true := decide_eq_true (by omega)
      have d1' : decide (ls.length < 2) = true := decide_eq_true (by omega)
      have HE : Hid (checkLines b ls = 6) := by rw [Hid, HG.out, if_pos (.inl h1)]
      clear h1
      go_wp2
      go_ret
      exact ⟨by rw [HE.out]; rfl, hB1⟩
    · have d1 : decide ((ls.length : Int) < 2) = false := decide_eq_false (by omega)
      have d1' : decide (ls.length < 2) = false := decide_eq_false (by omega)
      by_cases h2 : 4 < ls.length
      · have d2 : decide ((4 : Int) < (ls.length : Int)) = true := decide_eq_true (by omega)
        have d2' : decide (4 < ls.length) = true := decide_eq_true (by omega)
        have HE : Hid (checkLines b ls = 6) := by rw [Hid, HG.out, if_pos (.inr h2)]
        clear h1 h2
        go_wp2
        go_ret
        exact ⟨by rw [HE.out]; rfl, hB1⟩
      · have d2 : decide ((4 : Int) < (ls.length : Int)) = false := decide_eq_false (by omega)
        have d2' : decide (4 < ls.length) = false := decide_eq_false (by omega)
        have HG2 : Hid (checkLines b ls = if (ls.any fun l => decide (8 < l.length)) = true then 6 else if (ls.any fun l => !l.all isWordB) = true then 2 else 0) := by rw [Hid, HG.out, if_neg (by omega)]
        clear HG
        go_wp2
        go_loopw [5] (fun i wr => ∃ k : Nat, k ≤ ls.length ∧ i = .int .i64 k ∧ Hid (∀ l ∈ ls.take k, l.length ≤ 8) ∧ Below w.heap.size w wr) (fun i _ => ls.length - (intOf i).toNat)
        case atStart => exact ⟨0, Nat.zero_le _, rfl, (fun l hl => by simp at hl), hB1⟩
        case round =>
          obtain ⟨k, hk, rfl, hok, hb⟩ := hrel
          by_cases hlt : k < ls.length
          · have d3 : decide (k < ls.length) = true := decide_eq_true hlt
            have d3' : decide ((k : Int) < (ls.length : Int)) = true := decide_eq_true (by omega)
            have hki : (k : Int) < (ls.length : Int) := by omega
            obtain ⟨lb, lo, lA, lcc, rfl, hlb, hlc, -⟩ := (hl.below hb).at_ (i := k) (l := ls.getD k []) (by rw [List.getD_eq_getElem?_getD, List.getElem?_eq_getElem hlt]; rfl)
            obtain ⟨l1, hl1⟩ : ∃ l1, l1 = ls.getD k [] := ⟨_, rfl⟩
            rw [← hl1] at hlc
            have hget : ls[k]? = some l1 := by rw [hl1, List.getD_eq_getElem?_getD, List.getElem?_eq_getElem hlt]; rfl
            have HGET := Lib.hid hget
            clear hl1 hget
            by_cases h8 : 8 < l1.length
            · have d4 : decide ((8 : Int) < (l1.length : Int)) = true := decide_eq_true (by omega)
              have d4' : decide (8 < l1.length) = true := decide_eq_true h8
              have HE : Hid (checkLines b ls = 6) := by
                rw [Hid, HG2.out, if_pos]
                rw [List.any_eq_true]
                exact ⟨l1, List.mem_of_getElem? HGET.out, decide_eq_true h8⟩
              clear h8
              go_wp2
              go_ret
              exact ⟨by rw [HE.out]; rfl, hb⟩
            · have d4 : decide ((8 : Int) < (l1.length : Int)) = false := decide_eq_false (by omega)
              have d4' : decide (8 < l1.length) = false := decide_eq_false h8
              have HOK : Hid (∀ l ∈ ls.take (k + 1), l.length ≤ 8) := fun l hl => by
                rw [take_snoc HGET.out, List.mem_append, List.mem_singleton] at hl
                rcases hl with hl | rfl
                · exact hok.out l hl
                · omega
              clear h8 hok
              go_wp2
              go_roundw
              case rel => exact ⟨k + 1, by omega, by go_num, HOK, hb⟩
              case measure => (simp [intOf]; try omega)
          · obtain rfl : ls.length = k := by omega
            have d3 : decide (ls.length < ls.length) = false := by simp
            rw [List.take_length] at hok
            have HG3 : Hid (checkLines b ls = if (ls.any fun l => !l.all isWordB) = true then 2 else 0) := by
              rw [Hid, HG2.out, if_neg]
              intro hc
              obtain ⟨l, h3, h4⟩ := List.any_eq_true.1 hc
              have := hok.out l h3
              simp at h4
              omega
            have HLE : Hid (∀ l ∈ ls, l.length ≤ 8) := hok.out
            clear HG2 hk hlt d3 hok
            go_wp2
            obtain ⟨wo, hwo⟩ : ∃ wo : World, wo = wr := ⟨_, rfl⟩
            rw [← hwo] at hb ⊢
            clear hwo
            go_loopw [6] (fun i wr => ∃ k : Nat, k ≤ ls.length ∧ i = .int .i64 k ∧ Hid (∀ l ∈ ls.take k, l.all isWordB = true) ∧ Below w.heap.size w wr) (fun i _ => ls.length - (intOf i).toNat)
            case atStart => exact ⟨0, Nat.zero_le _, rfl, (fun l hl => by simp at hl), hb⟩
            case round =>
              clear hb
              obtain ⟨k, hk, rfl, hok, hb⟩ := hrel
              by_cases hlt : k < ls.length
              · have d3 : decide (k < ls.length) = true := decide_eq_true hlt
                have d3' : decide ((k : Int) < (ls.length : Int)) = true := decide_eq_true (by omega)
                have hki : (k : Int) < (ls.length : Int) := by omega
                obtain ⟨lb, lo, lA, lcc, rfl, hlb, hlc, harr⟩ := hl.at_ (i := k) (l := ls.getD k []) (by rw [List.getD_eq_getElem?_getD, List.getElem?_eq_getElem hlt]; rfl)
                obtain ⟨l1, hl1⟩ : ∃ l1, l1 = ls.getD k [] := ⟨_, rfl⟩
                rw [← hl1] at hlc harr
                have hget : ls[k]? = some l1 := by rw [hl1, List.getD_eq_getElem?_getD, List.getElem?_eq_getElem hlt]; rfl
                have HGET := Lib.hid hget
                have h8 := HLE.out l1 (List.mem_of_getElem? hget)
                clear hl1 hget
                go_wp2
                go_loopw [7] (fun i wr => ∃ j : Nat, j ≤ l1.length ∧ i = .int .i64 j ∧ Hid (∀ x ∈ l1.take j, isWordB x = true) ∧ Below w.heap.size w wr) (fun i _ => l1.length - (intOf i).toNat)
                case atStart => exact ⟨0, Nat.zero_le _, rfl, (fun l hl => by simp at hl), hb⟩
                case round =>
                  clear hb
                  obtain ⟨j, hj, rfl, hok2, hb⟩ := hrel
                  have c0 := (hb.cell (p := ⟨lb, lo + k, none⟩) hlb).trans hlc
                  by_cases hjl : j < l1.length
                  · have d4 : decide (j < l1.length) = true := decide_eq_true hjl
                    have d4' : decide ((j : Int) < (l1.length : Int)) = true := decide_eq_true (by omega)
                    have hji : (j : Int) < (l1.length : Int) := by omega
                    obtain ⟨nb, no, rfl, hnb, hnc⟩ := num_at harr hjl
                    have c1 := (hb.cell (p := ⟨nb, no + j, none⟩) hnb).trans hnc
                    obtain ⟨x, hx⟩ : ∃ x, x = l1.getD j 0 := ⟨_, rfl⟩
                    rw [← hx] at c1
                    have HXJ : Hid (l1[j]? = some x) := by rw [Hid, hx, List.getD_eq_getElem?_getD, List.getElem?_eq_getElem hjl]; rfl
                    clear hx hnc
                    have hw := risWord_ok x wr
                    cases hxw : isWordB x
                    · have HE : Hid (checkLines b ls = 2) := by
                        rw [Hid, HG3.out, if_pos]
                        rw [List.any_eq_true]
                        refine ⟨l1, List.mem_of_getElem? HGET.out, ?_⟩
                        rw [Bool.not_eq_true']
                        cases ha : l1.all isWordB with
                        | false => rfl
                        | true =>
                          have := List.all_eq_true.1 ha x (List.mem_of_getElem? HXJ.out)
                          rw [hxw] at this
                          cases this
                      rw [hxw] at hw
                      clear hxw
                      go_wp2_with fail
                      refine hw.mono ?_
                      rintro e w5 ⟨rfl, hb5⟩
                      have hb6 := hb.trans (hb5.mono hb.size)
                      clear hw c0 c1
                      go_wp2
                      go_ret
                      exact ⟨by rw [HE.out]; rfl, hb6⟩
                    · have HOK : Hid (∀ y ∈ l1.take (j + 1), isWordB y = true) := fun y hy => by
                        rw [take_snoc HXJ.out, List.mem_append, List.mem_singleton] at hy
                        rcases hy with hy | rfl
                        · exact hok2.out y hy
                        · exact hxw
                      rw [hxw] at hw
                      clear hxw hok2
                      go_wp2_with fail
                      refine hw.mono ?_
                      rintro e w5 ⟨rfl, hb5⟩
                      have hb6 := hb.trans (hb5.mono hb.size)
                      clear hw c0 c1
                      go_wp2
                      go_roundw
                      case rel => exact ⟨j + 1, by omega, by go_num, HOK, hb6⟩
                      case measure => (simp [intOf]; try omega)
                  · obtain rfl : l1.length = j := by omega
                    have d4 : decide (l1.length < l1.length) = false := by simp
                    rw [List.take_length] at hok2
                    have HOK : Hid (∀ l ∈ ls.take (k + 1), l.all isWordB = true) := fun l hl => by
                      rw [take_snoc HGET.out, List.mem_append, List.mem_singleton] at hl
                      rcases hl with hl | rfl
                      · exact hok.out l hl
                      · exact List.all_eq_true.2 hok2.out
                    clear hok hok2
                    go_wp2
                    go_roundw
                    case rel => exact ⟨k + 1, by omega, by go_num, HOK, hb⟩
                    case measure => (simp [intOf]; try omega)
              · obtain rfl : ls.length = k := by omega
                have d3 : decide (ls.length < ls.length) = false := by simp
                rw [List.take_length] at hok
                have HE : Hid (checkLines b ls = 0) := by
                  rw [Hid, HG3.out, if_neg]
                  intro hc
                  obtain ⟨l, h3, h4⟩ := List.any_eq_true.1 hc
                  rw [hok.out l h3] at h4
                  cases h4
                go_wp2
                go_ret
                exact ⟨by rw [HE.out]; rfl, hb⟩
  · have d0 : (checkBook b != 0) = true := by simp [he]
    have HE : Hid (checkLines b ls = checkBook b) := if_pos he
    clear he
    go_wp2_with fail
    refine (rcheckBook_ok _ b w1 hC1.bv).mono ?_
    rintro e w2 ⟨rfl, hb2⟩
    have hB2 := hB1.trans (hb2.mono hB1.size)
    clear k0 d0
    go_wp2
    go_ret
    exact ⟨by rw [HE.out]; rfl, hB2⟩
end Go.Proofs.Ytgngpdnppdbgoaa

namespace Go.Proofs.Ytgngpdnppdbgoaa
open Go.RowKit Go.Shelf
set_option linter.unusedVariables false

def rbefB (x y : List Int) : Bool := (List.range x.length).all fun h => decide (x.getD h 0 < y.getD h 0)
theorem rbef_iL {ls : List (List Int)} {x y : List Nat} (hx : x.length = ls.length) : rbefB (iL x) (iL y) = befL ls x y := by
  rw [Bool.eq_iff_iff]
  unfold rbefB befL
  rw [befK_iff, List.all_eq_true, iL_len, hx]
  constructor
  · intro h j hj
    have := h j (List.mem_range.2 hj)
    rw [getD_iL2, getD_iL2] at this
    simpa using this
  · intro h j hj
    rw [getD_iL2, getD_iL2]
    have := h j (List.mem_range.1 hj)
    simpa using this

set_option maxRecDepth 100000 in
set_option maxHeartbeats 1600000 in
theorem rbefore_ok (xv yv : Value) (x y : List Int) (w : World) (hx : Arr w w.heap.size 1 xv x icell) (hy : Arr w w.heap.size 1 yv y icell) (hl : x.length ≤ y.length) :
    Calls Try.prog 65 #[xv, yv] w fun r w' => r = .returned (.bool (rbefB x y)) ∧ Below w.heap.size w w' := by
  obtain ⟨xA, xc, rfl, hx1, hx2, -⟩ := id hx
  obtain ⟨yA, yc, rfl, -⟩ := id hy
  go_enter Try.func65, Try.ntmps65
  go_wp2
  go_loopw [5] (fun i wr => ∃ k : Nat, k ≤ x.length ∧ i = .int .i64 k ∧ Hid (∀ j, j < k → x.getD j 0 < y.getD j 0) ∧ Below w.heap.size w wr) (fun i _ => x.length - (intOf i).toNat)
  case atStart => exact ⟨0, Nat.zero_le _, rfl, fun j hj => absurd hj (Nat.not_lt_zero _), Below.refl _ _⟩
  case round =>
    obtain ⟨k, hk, rfl, hok, hb⟩ := hrel
    by_cases hlt : k < x.length
    · have d1 : decide (k < x.length) = true := decide_eq_true hlt
      have d1' : decide ((k : Int) < (x.length : Int)) = true := decide_eq_true (by omega)
      have hki : (k : Int) < (x.length : Int) := by omega
      have hki2 : (k : Int) < (y.length : Int) := by omega
      have ek : IntKind.i64.wrap ((k : Int) + 1) = ((k + 1 : Nat) : Int) := by rw [IntKind.wrap_i64]; omega
      obtain ⟨nb, no, rfl, hnb, hnc⟩ := num_at (hx.below hb) hlt
      obtain ⟨mb, mo, rfl, hmb, hmc⟩ := num_at (hy.below hb) (k := k) (by omega)
      obtain ⟨a, ha⟩ : ∃ a, a = x.getD k 0 := ⟨_, rfl⟩
      obtain ⟨c, hc⟩ : ∃ c, c = y.getD k 0 := ⟨_, rfl⟩
      rw [← ha] at hnc
      rw [← hc] at hmc
      have f0 := Ext.of hnc
      have f1 := Ext.of hmc
      have HA := Lib.hid ha
      have HC := Lib.hid hc
      clear ha hc
      go_upto_region 4 with (fail)
      clear hnc hmc
      by_cases hq : a < c
      · have d2 : decide (c ≤ a) = false := decide_eq_false (by omega)
        have HOK : Hid (∀ j, j < k + 1 → x.getD j 0 < y.getD j 0) := fun j hj => by
          by_cases e : j = k
          · rw [e, ← HA.out, ← HC.out]; exact hq
          · exact hok.out j (by omega)
        clear hq hok
        refine wp_region_ext (by kernel_rfl) (by kernel_rfl) ?_
        repeat (go_big_quiet_step (fail))
        refine wpQuiet_nil ?_
        intro _ hw'
        obtain ⟨xr, hw''⟩ := hw'
        subst hw''
        have hb2 := hb.trans (xr.h.mono hb.size)
        go_wp2
        go_roundw
        case rel => exact ⟨k + 1, by omega, by go_num, HOK, hb2⟩
        case measure => (simp [intOf]; try omega)
      · have d2 : decide (c ≤ a) = true := decide_eq_true (by omega)
        have HE : Hid (rbefB x y = false) := by
          rw [Hid]
          cases hr : rbefB x y with
          | false => rfl
          | true =>
            have := List.all_eq_true.1 hr k (List.mem_range.2 hlt)
            rw [← HA.out, ← HC.out] at this
            exact absurd (by simpa using this) hq
        clear hq hok
        refine wp_region_ext (by kernel_rfl) (by kernel_rfl) ?_
        repeat (go_big_quiet_step (fail))
        refine wpQuiet_nil ?_
        intro _ hw'
        obtain ⟨xr, hw''⟩ := hw'
        subst hw''
        have hb2 := hb.trans (xr.h.mono hb.size)
        go_wp2
        go_ret
        exact ⟨by rw [HE.out]; rfl, hb2⟩
    · obtain rfl : x.length = k := by omega
      have d1 : decide (x.length < x.length) = false := by simp
      have HE : Hid (rbefB x y = true) := List.all_eq_true.2 fun h hh => decide_eq_true (hok.out h (List.mem_range.1 hh))
      go_wp2
      go_ret
      exact ⟨by rw [HE.out]; rfl, hb⟩
theorem list_at {x y : List Int} (hl : x.length = y.length) (h : ∀ j, j < x.length → x.getD j 0 = y.getD j 0) : x = y := by
  apply List.ext_getElem hl
  intro i h1 h2
  have := h i h1
  rw [List.getD_eq_getElem?_getD, List.getD_eq_getElem?_getD, List.getElem?_eq_getElem h1, List.getElem?_eq_getElem h2] at this
  exact this

set_option maxRecDepth 100000 in
set_option maxHeartbeats 1600000 in
theorem rsame_ok (xv yv : Value) (x y : List Int) (w : World) (hx : Arr w w.heap.size 1 xv x icell) (hy : Arr w w.heap.size 1 yv y icell) :
    Calls Try.prog 58 #[xv, yv] w fun r w' => r = .returned (.bool (decide (x = y))) ∧ Below w.heap.size w w' := by
  obtain ⟨xA, xc, rfl, hx1, hx2, -⟩ := id hx
  obtain ⟨yA, yc, rfl, -⟩ := id hy
  go_enter Try.func58, Try.ntmps58
  by_cases hl : x.length = y.length
  · have d0 : ((x.length : Int) != (y.length : Int)) = false := by simp; omega
    have HL := Lib.hid hl
    have hle : x.length ≤ y.length := by omega
    clear hl
    go_wp2
    go_loopw [5] (fun i wr => ∃ k : Nat, k ≤ x.length ∧ i = .int .i64 k ∧ Hid (∀ j, j < k → x.getD j 0 = y.getD j 0) ∧ Below w.heap.size w wr) (fun i _ => x.length - (intOf i).toNat)
    case atStart => exact ⟨0, Nat.zero_le _, rfl, fun j hj => absurd hj (Nat.not_lt_zero _), Below.refl _ _⟩
    case round =>
      obtain ⟨k, hk, rfl, hok, hb⟩ := hrel
      by_cases hlt : k < x.length
      · have d1 : decide (k < x.length) = true := decide_eq_true hlt
        have d1' : decide ((k : Int) < (x.length : Int)) = true := decide_eq_true (by omega)
        have hki : (k : Int) < (x.length : Int) := by omega
        have hki2 : (k : Int) < (y.length : Int) := by omega
        have ek : IntKind.i64.wrap ((k : Int) + 1) = ((k + 1 : Nat) : Int) := by rw [IntKind.wrap_i64]; omega
        obtain ⟨nb, no, rfl, hnb, hnc⟩ := num_at (hx.below hb) hlt
        obtain ⟨mb, mo, rfl, hmb, hmc⟩ := num_at (hy.below hb) (k := k) (by omega)
        obtain ⟨a, ha⟩ : ∃ a, a = x.getD k 0 := ⟨_, rfl⟩
        obtain ⟨c, hc⟩ : ∃ c, c = y.getD k 0 := ⟨_, rfl⟩
        rw [← ha] at hnc
        rw [← hc] at hmc
        have f0 := Ext.of hnc
        have f1 := Ext.of hmc
        have HA := Lib.hid ha
        have HC := Lib.hid hc
        clear ha hc
        go_upto_region 6 with (fail)
        clear hnc hmc
        by_cases hq : a = c
        · have d2 : (a != c) = false := by simp [hq]
          have HOK : Hid (∀ j, j < k + 1 → x.getD j 0 = y.getD j 0) := fun j hj => by
            by_cases e : j = k
            · rw [e, ← HA.out, ← HC.out]; exact hq
            · exact hok.out j (by omega)
          clear hq hok
          refine wp_region_ext (by kernel_rfl) (by kernel_rfl) ?_
          repeat (go_big_quiet_step (fail))
          refine wpQuiet_nil ?_
          intro _ hw'
          obtain ⟨xr, hw''⟩ := hw'
          subst hw''
          have hb2 := hb.trans (xr.h.mono hb.size)
          go_wp2
          go_roundw
          case rel => exact ⟨k + 1, by omega, by go_num, HOK, hb2⟩
          case measure => (simp [intOf]; try omega)
        · have d2 : (a != c) = true := by simp [hq]
          have HE : Hid (decide (x = y) = false) := by
            rw [Hid]
            refine decide_eq_false fun e => hq ?_
            rw [HA.out, HC.out, e]
          clear hq hok
          refine wp_region_ext (by kernel_rfl) (by kernel_rfl) ?_
          repeat (go_big_quiet_step (fail))
          refine wpQuiet_nil ?_
          intro _ hw'
          obtain ⟨xr, hw''⟩ := hw'
          subst hw''
          have hb2 := hb.trans (xr.h.mono hb.size)
          go_wp2
          go_ret
          exact ⟨by rw [HE.out]; rfl, hb2⟩
      · obtain rfl : x.length = k := by omega
        have d1 : decide (x.length < x.length) = false := by simp
        have HE : Hid (decide (x = y) = true) := decide_eq_true (list_at HL.out hok.out)
        go_wp2
        go_ret
        exact ⟨by rw [HE.out]; rfl, hb⟩
  · have d0 : ((x.length : Int) != (y.length : Int)) = true := by simp; omega
    have HE : Hid (decide (x = y) = false) := decide_eq_false fun e => hl (by rw [e])
    clear hl
    go_wp2
    go_ret
    exact ⟨by rw [HE.out]; rfl, Below.refl _ _⟩
end Go.Proofs.Ytgngpdnppdbgoaa
