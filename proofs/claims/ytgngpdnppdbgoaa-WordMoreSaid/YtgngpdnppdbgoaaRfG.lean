/- Contracts of the reference: Many, Matches, levels, Levels. -/
import Derived.Test.YtgngpdnppdbgoaaRfF
import Derived.Test.YtgngpdnppdbgoaaPub
namespace Go.Proofs.Ytgngpdnppdbgoaa
open Go.RowKit Go.Shelf
set_option linter.unusedVariables false

/-- a match of a list in memory, at an index -/
theorem mat_at {w : World} {B n c : Nat} {A : Option Addr} {ms : List (List Nat)} (h : LLB w B (.slice A n c) (iLL ms)) {k : Nat} (hk : k < ms.length) :
    ∃ b off lA lc, A = some ⟨b, off, none⟩ ∧ b < B ∧ w.cell? ⟨b, off + k, none⟩ = some (.slice lA (iL (ms.getD k [])).length lc) ∧ Arr w B 1 (.slice lA (iL (ms.getD k [])).length lc) (iL (ms.getD k [])) icell := by
  refine h.at_ ?_
  unfold iLL
  rw [List.getElem?_map, List.getD_eq_getElem?_getD, List.getElem?_eq_getElem hk]
  rfl
theorem foldl_cond_ge (p : Nat → Bool) (f : Nat → Nat) : ∀ (l : List Nat) (n : Nat), n ≤ l.foldl (fun n i => if p i = true then max n (f i) else n) n ∧ (∀ i ∈ l, p i = true → f i ≤ l.foldl (fun n i => if p i = true then max n (f i) else n) n) ∧ (l.foldl (fun n i => if p i = true then max n (f i) else n) n = n ∨ ∃ i ∈ l, p i = true ∧ l.foldl (fun n i => if p i = true then max n (f i) else n) n = f i)
  | [], n => ⟨Nat.le_refl _, (fun i hi => by cases hi), .inl rfl⟩
  | a :: l, n => by
    rw [List.foldl_cons]
    obtain ⟨h1, h2, h3⟩ := foldl_cond_ge p f l (if p a = true then max n (f a) else n)
    have h4 : n ≤ if p a = true then max n (f a) else n := by split <;> omega
    refine ⟨Nat.le_trans h4 h1, fun i hi hp => ?_, ?_⟩
    · rcases List.mem_cons.1 hi with rfl | hi
      · rw [if_pos hp] at h1 ⊢
        exact Nat.le_trans (Nat.le_max_right ..) h1
      · exact h2 i hi hp
    · rcases h3 with h3 | ⟨i, hi, hp, h3⟩
      · by_cases hp : p a = true
        · rw [if_pos hp] at h3 ⊢
          rcases Nat.le_total n (f a) with hq | hq
          · rw [Nat.max_eq_right hq] at h3 ⊢
            exact .inr ⟨a, List.mem_cons_self .., hp, h3⟩
          · rw [Nat.max_eq_left hq] at h3 ⊢
            exact .inl h3
        · rw [if_neg hp] at h3 ⊢
          exact .inl h3
      · exact .inr ⟨i, List.mem_cons_of_mem _ hi, hp, h3⟩
/-- the level of a match, as far as those before it are looked at -/
def lvTo (b : List (Int × Int)) (ls : List (List Int)) (k j : Nat) : Nat := (List.range j).foldl (fun n i => if bfN b ls i k = true then max n (lvN b ls i + 1) else n) 1
theorem lvTo_succ (b : List (Int × Int)) (ls : List (List Int)) (k j : Nat) : lvTo b ls k (j + 1) = if bfN b ls j k = true then max (lvTo b ls k j) (lvN b ls j + 1) else lvTo b ls k j := by
  unfold lvTo
  rw [List.range_succ, List.foldl_append]
  rfl
theorem lvTo_all {b : List (Int × Int)} {ls : List (List Int)} (hg : Good b ls) {k : Nat} (hk : k < (matsOf b ls).length) : lvTo b ls k k = lvN b ls k := by
  have hL := levOf hg
  obtain ⟨h1, h2, h3⟩ := foldl_cond_ge (fun i => bfN b ls i k) (fun i => lvN b ls i + 1) (List.range k) 1
  have hx := xAt_mem hk
  apply Nat.le_antisymm
  · rcases h3 with h3 | ⟨i, hi, hp, h3⟩
    · unfold lvTo
      rw [h3]
      exact hL.pos hx
    · unfold lvTo
      rw [h3]
      rw [List.mem_range] at hi
      exact hL.up (xAt_mem (by omega)) hx hp
  · obtain ⟨⟨l, hl, hn⟩, -⟩ := hL.is _ hx
    show lvOf b ls (xAt b ls k) ≤ _
    rcases List.eq_nil_or_concat l with rfl | ⟨l', y, rfl⟩
    · rw [← hn]
      exact h1
    · rw [List.concat_eq_append] at hl hn
      obtain ⟨hl1, -, hl3⟩ := isCh_snoc.1 hl
      have hby : befL ls y (xAt b ls k) = true := by simpa [lastO, aft] using hl3
      have hym : y ∈ matsOf b ls := hl1.mem y (by simp)
      have h4 := (hL.is y hym).2 l' hl1
      obtain ⟨i, hi, hiy⟩ := List.getElem_of_mem hym
      have hyi : xAt b ls i = y := by
        unfold xAt
        rw [List.getD_eq_getElem?_getD, List.getElem?_eq_getElem hi]
        exact hiy
      have hbf : bfN b ls i k = true := by unfold bfN; rw [hyi]; exact hby
      have h5 := h2 i (List.mem_range.2 (bfN_lt hg hi hk hbf)) hbf
      have h6 : lvN b ls i = lvOf b ls y := by unfold lvN; rw [hyi]
      rw [List.length_append, List.length_singleton] at hn
      unfold lvTo
      omega
theorem lvTo_le {b : List (Int × Int)} {ls : List (List Int)} (hg : Good b ls) {k j : Nat} (hk : k < (matsOf b ls).length) (hj : j ≤ k) : lvTo b ls k j ≤ 9 := by
  rcases (foldl_cond_ge (fun i => bfN b ls i k) (fun i => lvN b ls i + 1) (List.range j) 1).2.2 with h3 | ⟨i, hi, hp, h3⟩
  · unfold lvTo; omega
  · unfold lvTo
    rw [List.mem_range] at hi
    have := lvN_le hg (i := i) (by omega)
    have := mostOf_le hg
    omega

set_option maxRecDepth 100000 in
set_option maxHeartbeats 1600000 in
theorem rmany_ok (v lv : Value) (b : List (Int × Int)) (ls : List (List Int)) (w : World) (hv : BookV w w.heap.size v b) (hl : LLi w lv ls) (h0 : checkLines b ls = 0) :
    Calls Try.prog 59 #[v, lv] w fun r w' => r = .returned (.int .i64 ((matsOf b ls).length : Int)) ∧ Below w.heap.size w w' := by
  obtain ⟨pa, pc, rfl, hp⟩ := hv.open_
  obtain ⟨la, lc, rfl, -, -⟩ := hl.form
  have hC := BB.new hp
  have hB := (Below.refl w.heap.size w).alloc (Nat.le_refl _) (.cells #[.slice pa b.length pc] 24)
  go_enter Try.func59, Try.ntmps59
  go_upto_region 1 with (fail)
  generalize w.alloc (.cells #[.slice pa b.length pc] 24) = W at *
  have hl0 := (hl.below hB).more hB.size
  have hr := rall_ok _ _ b ls W hC.bv hl0 h0
  have k0 := hC.c0
  clear hp hv hl h0 hl0
  go_wp2_with fail
  refine hr.mono ?_
  rintro e w1 ⟨A, c, rfl, hll, hb1⟩
  have hB1 := hB.trans (hb1.mono hB.size)
  clear hr
  go_wp2
  go_ret
  exact ⟨rfl, hB1⟩

set_option maxRecDepth 100000 in
set_option maxHeartbeats 1600000 in
theorem rmatches_ok (v lv : Value) (b : List (Int × Int)) (ls : List (List Int)) (w : World) (hv : BookV w w.heap.size v b) (hl : LLi w lv ls) :
    Calls Try.prog 18 #[v, lv] w fun r w' => ∃ mv, r = .returned (.tuple #[mv, .int .i64 (matchesM b ls).2]) ∧ LLi w' mv (matchesM b ls).1 ∧ Below w.heap.size w w' := by
  obtain ⟨pa, pc, rfl, hp⟩ := hv.open_
  obtain ⟨la, lc, rfl, -, -⟩ := hl.form
  have hC := BB.new hp
  have hB := (Below.refl w.heap.size w).alloc (Nat.le_refl _) (.cells #[.slice pa b.length pc] 24)
  go_enter Try.func18, Try.ntmps18
  go_upto_region 1 with (fail)
  generalize w.alloc (.cells #[.slice pa b.length pc] 24) = W at *
  have hl0 := (hl.below hB).more hB.size
  clear hp hv hl
  have k0 := hC.c0
  go_wp2_with fail
  refine (rcheckLines_ok _ _ b ls W hC.bv hl0).mono ?_
  rintro e w1 ⟨rfl, hb1⟩
  have hB1 := hB.trans (hb1.mono hB.size)
  have hC1 := hC.call hb1
  have hl1 := hl0.call hb1
  clear hC hB hb1 k0 hl0
  have k0 := hC1.c0
  by_cases he : checkLines b ls = 0
  · have d0 : (checkLines b ls != 0) = false := by simp [he]
    have HE : Hid (matchesM b ls = (iLL (matsOf b ls), 0)) := if_neg (by simp [he])
    have hr := rall_ok _ _ b ls w1 hC1.bv hl1 he
    clear he
    go_wp2_with fail
    refine hr.mono ?_
    rintro e w2 ⟨A, c, rfl, hll, hb2⟩
    have hB2 := hB1.trans (hb2.mono hB1.size)
    clear hr hb2 k0 hC1 hl1
    go_wp2
    exact bodyPost_ret (v := .tuple #[.slice A (matsOf b ls).length c, .int .i64 0]) (by simp [results, Try.results18, go_sem]) rfl ⟨_, by rw [HE.out], by rw [HE.out]; exact hll, hB2⟩
  · have HE : Hid (matchesM b ls = ([], checkLines b ls)) := if_pos he
    have d0 : (checkLines b ls != 0) = true := by simp [he]
    go_wp2_with fail
    refine (rcheckLines_ok _ _ b ls w1 hC1.bv hl1).mono ?_
    rintro e w2 ⟨rfl, hb2⟩
    have hB2 := hB1.trans (hb2.mono hB1.size)
    clear k0 hC1 hl1 hb2
    go_wp2
    exact bodyPost_ret (v := .tuple #[.slice none 0 0, .int .i64 (checkLines b ls)]) (by simp [results, Try.results18, go_sem]) rfl ⟨_, by rw [HE.out], by rw [HE.out]; exact LLB.nil_, hB2⟩

set_option maxRecDepth 100000 in
set_option maxHeartbeats 1600000 in
theorem rlevels_ok (v : Value) (b : List (Int × Int)) (ls : List (List Int)) (w : World) (hg : Good b ls) (hl : LLi w v (iLL (matsOf b ls))) :
    Calls Try.prog 61 #[v] w fun r w' => ∃ A' c', r = .returned (.slice A' (matsOf b ls).length c') ∧ Arr w' w'.heap.size 1 (.slice A' (matsOf b ls).length c') (lvsI b ls (matsOf b ls)) icell ∧ Below w.heap.size w w' := by
  obtain ⟨A, c, rfl, hc1, hc2⟩ := hl.form
  have hms := mats_4096 hg
  have HG := Lib.hid hg
  have HLI : Hid (∀ k, k < (matsOf b ls).length → (matsOf b ls)[k]? = some (xAt b ls k) ∧ (xAt b ls k).length = ls.length) := fun k hk => by
    refine ⟨?_, matches_len (xAt_mem hk)⟩
    unfold xAt
    rw [List.getD_eq_getElem?_getD, List.getElem?_eq_getElem hk]
    rfl
  have HN := Lib.hid (show (iLL (matsOf b ls)).length = (matsOf b ls).length from iLL_len _)
  rw [HN.out] at hl hc1 ⊢
  clear hg
  obtain ⟨n, hn⟩ : ∃ n, n = (matsOf b ls).length := ⟨_, rfl⟩
  have HNN := Lib.hid hn
  rw [← hn] at hl hms hc1 ⊢
  clear hn HN
  go_enter Try.func61, Try.ntmps61
  go_wp2
  go_loopw [3, 4] (fun o i wr => ∃ k : Nat, k ≤ n ∧ i = .int .i64 k ∧ Below w.heap.size w wr ∧ wr.ownsRow w.heap.size 3 1 o k ((lvsI b ls ((matsOf b ls).take k)).map (Value.int .i64))) (fun _ i _ => n - (intOf i).toNat)
  case atStart => exact ⟨0, Nat.zero_le _, rfl, Below.refl _ _, by simpa [lvsI] using World.ownsRow_nil _ _ _ _⟩
  case round =>
    obtain ⟨k, hk, rfl, hb, hown⟩ := hrel
    by_cases hlt : k < n
    · have d1 : decide (k < n) = true := decide_eq_true hlt
      have d1' : decide ((k : Int) < (n : Int)) = true := decide_eq_true (by omega)
      have hki : (k : Int) < (n : Int) := by omega
      obtain ⟨hxk, hxl⟩ := HLI.out k (by rw [← HNN.out]; exact hlt)
      have HT : Hid ((lvsI b ls ((matsOf b ls).take (k + 1))).map (Value.int .i64) = (lvsI b ls ((matsOf b ls).take k)).map (Value.int .i64) ++ [.int .i64 (lvN b ls k : Int)]) := by rw [Hid, take_snoc hxk]; simp [lvsI, lvN]
      have HXL := Lib.hid hxl
      obtain ⟨oA, oc, rfl⟩ := own_form hown
      have HTL : Hid ((lvsI b ls ((matsOf b ls).take k)).length = k) := by rw [Hid]; simp [lvsI]; rw [← HNN.out]; omega
      have HIX : Hid (∀ j, j < k → (lvsI b ls ((matsOf b ls).take k))[j]? = some (lvN b ls j : Int)) := fun j hj => by
        obtain ⟨hxj, -⟩ := HLI.out j (by rw [← HNN.out]; omega)
        unfold lvsI
        rw [List.getElem?_map, List.getElem?_take, if_pos hj, hxj]
        rfl
      clear hxk hxl
      obtain ⟨wo, hwo⟩ : ∃ wo : World, wo = wr := ⟨_, rfl⟩
      rw [← hwo] at hb hown ⊢
      clear hwo
      go_wp2
      go_loopw [5, 6] (fun m i wr => ∃ j : Nat, j ≤ k ∧ i = .int .i64 j ∧ m = .int .i64 (lvTo b ls k j : Int) ∧ Below w.heap.size w wr ∧ wr.ownsRow w.heap.size 3 1 (.slice oA k oc) k ((lvsI b ls ((matsOf b ls).take k)).map (Value.int .i64))) (fun _ i _ => k - (intOf i).toNat)
      case atStart => exact ⟨0, Nat.zero_le _, rfl, rfl, hb, hown⟩
      case round =>
        clear hb hown
        obtain ⟨j, hj, rfl, rfl, hb, hown⟩ := hrel
        by_cases hjk : j < k
        · have d2 : decide (j < k) = true := decide_eq_true hjk
          have d2' : decide ((j : Int) < (k : Int)) = true := decide_eq_true (by omega)
          have hji : (j : Int) < (n : Int) := by omega
          have hjki : (j : Int) < (k : Int) := by omega
          have hlr := hl.call hb
          obtain ⟨eb, eo, eA, ec, hA, heb, hec, hea⟩ := mat_at hlr (k := j) (by rw [← HNN.out]; omega)
          obtain ⟨fb, fo, fA, fc, hA2, hfb, hfc, hfa⟩ := mat_at hlr (k := k) (by rw [← HNN.out]; omega)
          subst hA
          injection hA2 with hA2
          injection hA2 with hA2 hA3
          subst hA2 hA3
          have HXJ := Lib.hid ((HLI.out j (by rw [← HNN.out]; omega)).2)
          change wr.cell? ⟨eb, eo + j, none⟩ = some (.slice eA (iL (xAt b ls j)).length ec) at hec
          change wr.cell? ⟨eb, eo + k, none⟩ = some (.slice fA (iL (xAt b ls k)).length fc) at hfc
          have HA : Hid (∀ y : Ext wr, Calls Try.prog 65 #[.slice eA (iL (xAt b ls j)).length ec, .slice fA (iL (xAt b ls k)).length fc] y.w fun r w' => r = .returned (.bool (bfN b ls j k)) ∧ ∃ z : Ext wr, w' = z.w) := fun y => by
            have := ext_call y (rbefore_ok _ _ (iL (xAt b ls j)) (iL (xAt b ls k)) y.w (hea.call y.h) (hfa.call y.h) (by rw [iL_len, iL_len, HXJ.out, HXL.out]; exact Nat.le_refl _))
            rw [rbef_iL HXJ.out] at this
            exact this
          have f0 := Ext.of hec
          have f1 := Ext.of hfc
          have HS := Lib.hid (lvTo_succ b ls k j)
          have hv8 := lvTo_le HG.out (k := k) (j := j) (by rw [← HNN.out]; exact hlt) (by omega)
          have hl8 := Nat.le_trans (lvN_le HG.out (i := j) (by rw [← HNN.out]; omega)) (mostOf_le HG.out)
          clear hec hfc hea hfa hlr
          go_upto_region 9 with (fail)
          cases hbf : bfN b ls j k
          · rw [hbf] at HA
            have HS2 : Hid (lvTo b ls k (j + 1) = lvTo b ls k j) := by rw [Hid, HS.out, if_neg (by simp [hbf])]
            clear hbf HS
            refine wp_region_ext (by kernel_rfl) (by kernel_rfl) ?_
            repeat (go_big_quiet_step ((go_at_call 65; with_reducible exact HA.out _)))
            refine wpQuiet_nil ?_
            intro _ hw'
            obtain ⟨xr, hw''⟩ := hw'
            subst hw''
            have hb2 := hb.trans (xr.h.mono hb.size)
            have hown2 := own_call hown xr.h
            go_wp2
            go_roundw
            case rel => exact ⟨j + 1, by omega, by go_num, by rw [HS2.out], hb2, hown2⟩
            case measure => (simp [intOf]; try omega)
          · rw [hbf] at HA
            have HS2 : Hid (lvTo b ls k (j + 1) = max (lvTo b ls k j) (lvN b ls j + 1)) := by rw [Hid, HS.out, if_pos hbf]
            clear hbf HS
            refine wp_region_ext (by kernel_rfl) (by kernel_rfl) ?_
            repeat (go_big_quiet_step ((go_at_call 65; with_reducible exact HA.out _)))
            refine wpQuiet_nil ?_
            intro _ hw'
            obtain ⟨xr, hw''⟩ := hw'
            subst hw''
            have hb2 := hb.trans (xr.h.mono hb.size)
            have hown2 := own_call hown xr.h
            obtain ⟨W2, hW2⟩ : ∃ W2 : World, W2 = xr.w := ⟨_, rfl⟩
            rw [← hW2] at hb2 hown2 ⊢
            clear hW2 xr hb hown HA f0 f1
            obtain ⟨ob, rfl, hob, hO⟩ := own_B hown2 (by omega)
            obtain ⟨c0, -⟩ := hO.cell (HIX.out j hjk)
            have e1 : IntKind.i64.wrap ((lvN b ls j : Int) + 1) = (lvN b ls j : Int) + 1 := wrap_id _ (by omega) (by omega)
            obtain ⟨M, hM⟩ : ∃ M, M = lvTo b ls k j := ⟨_, rfl⟩
            obtain ⟨L, hL⟩ : ∃ L, L = lvN b ls j := ⟨_, rfl⟩
            rw [← hM] at hv8 HS2 ⊢
            rw [← hL] at hl8 HS2 e1 c0
            clear hO hM hL
            go_wp2
            go_roundw
            case rel => exact ⟨j + 1, by omega, by go_num, by rw [HS2.out]; exact congrArg _ (by split <;> omega), hb2, hown2⟩
            case measure => (simp [intOf]; try omega)
        · obtain rfl : j = k := by omega
          have d2 : decide (j < j) = false := by simp
          have HV := Lib.hid (lvTo_all HG.out (k := j) (by rw [← HNN.out]; exact hlt))
          have hsz := hb.size
          rw [HV.out]
          go_wp2_with (at_builtin; refine wpList_app2 slT_i rfl (.tmp 34) (.tmp 36) rfl (sv := .slice oA j oc) rfl hown rfl rfl (one_i _) hsz ?_ ?_ ?_)
          any_goals omega
          intro v4 w4 hown4 hg4 hat4
          have hown5 : w4.ownsRow w.heap.size 3 1 v4 (j + 1) ((lvsI b ls ((matsOf b ls).take (j + 1))).map (Value.int .i64)) := by rw [HT.out]; simpa using hown4
          have hb4 := hb.grown hg4 hb.size fun g hg => (hown.lt g hg).1
          clear hown4 hg4 hat4 hown hb
          go_wp2
          go_roundw
          case rel => exact ⟨j + 1, by omega, by go_num, hb4, hown5⟩
          case measure => (simp [intOf]; try omega)
    · obtain rfl : n = k := by omega
      have d1 : decide (n < n) = false := by simp
      obtain ⟨A', cap, rfl⟩ := own_form hown
      have HF : Hid ((matsOf b ls).take n = matsOf b ls) := by rw [Hid, HNN.out, List.take_length]
      have harr : Arr wr wr.heap.size 1 (.slice A' n cap) (lvsI b ls (matsOf b ls)) icell := by
        rw [HF.out] at hown
        have hl : n = (lvsI b ls (matsOf b ls)).length := by simp [lvsI, HNN.out]
        rw [hl] at hown ⊢
        exact Arr.of_own (by rw [flat_i]; exact hown)
      clear hown
      go_wp2
      go_ret
      exact ⟨A', cap, rfl, harr, hb⟩

set_option maxRecDepth 100000 in
set_option maxHeartbeats 1600000 in
theorem rlevelsP_ok (v lv : Value) (b : List (Int × Int)) (ls : List (List Int)) (w : World) (hv : BookV w w.heap.size v b) (hl : LLi w lv ls) :
    Calls Try.prog 26 #[v, lv] w fun r w' => ∃ mv, r = .returned (.tuple #[mv, .int .i64 (levelsM b ls).2]) ∧ Arr w' w'.heap.size 1 mv (levelsM b ls).1 icell ∧ Below w.heap.size w w' := by
  obtain ⟨pa, pc, rfl, hp⟩ := hv.open_
  obtain ⟨la, lc, rfl, -, -⟩ := hl.form
  have hC := BB.new hp
  have hB := (Below.refl w.heap.size w).alloc (Nat.le_refl _) (.cells #[.slice pa b.length pc] 24)
  go_enter Try.func26, Try.ntmps26
  go_upto_region 1 with (fail)
  generalize w.alloc (.cells #[.slice pa b.length pc] 24) = W at *
  have hl0 := (hl.below hB).more hB.size
  clear hp hv hl
  have k0 := hC.c0
  go_wp2_with fail
  refine (rcheckLines_ok _ _ b ls W hC.bv hl0).mono ?_
  rintro e w1 ⟨rfl, hb1⟩
  have hB1 := hB.trans (hb1.mono hB.size)
  have hC1 := hC.call hb1
  have hl1 := hl0.call hb1
  clear hC hB hb1 k0 hl0
  have k0 := hC1.c0
  by_cases he : checkLines b ls = 0
  · have d0 : (checkLines b ls != 0) = false := by simp [he]
    have HE : Hid (levelsM b ls = (lvsI b ls (matsOf b ls), 0)) := if_neg (by simp [he])
    have hr := rall_ok _ _ b ls w1 hC1.bv hl1 he
    have hg := good_of he
    clear he
    go_wp2_with fail
    refine hr.mono ?_
    rintro e w2 ⟨A, c, rfl, hll, hb2⟩
    have hB2 := hB1.trans (hb2.mono hB1.size)
    have hr2 := rlevels_ok _ b ls w2 hg hll
    clear hr hb2 k0 hC1 hl1
    go_wp2_with fail
    refine hr2.mono ?_
    rintro e w3 ⟨A', c', rfl, harr, hb3⟩
    have hB3 := hB2.trans (hb3.mono hB2.size)
    clear hr2
    go_wp2
    exact bodyPost_ret (v := .tuple #[.slice A' (matsOf b ls).length c', .int .i64 0]) (by simp [results, Try.results26, go_sem]) rfl ⟨_, by rw [HE.out], by rw [HE.out]; exact harr, hB3⟩
  · have HE : Hid (levelsM b ls = ([], checkLines b ls)) := if_pos he
    have d0 : (checkLines b ls != 0) = true := by simp [he]
    go_wp2_with fail
    refine (rcheckLines_ok _ _ b ls w1 hC1.bv hl1).mono ?_
    rintro e w2 ⟨rfl, hb2⟩
    have hB2 := hB1.trans (hb2.mono hB1.size)
    clear k0 hC1 hl1 hb2
    go_wp2
    exact bodyPost_ret (v := .tuple #[.slice none 0 0, .int .i64 (checkLines b ls)]) (by simp [results, Try.results26, go_sem]) rfl ⟨_, by rw [HE.out], by rw [HE.out]; exact Arr.nil_, hB2⟩
end Go.Proofs.Ytgngpdnppdbgoaa
