/- Contracts: Matches, Levels, Longest, Count. -/
import Derived.Test.YtgngpdnppdbgoaaLon
namespace Go.Proofs.Ytgngpdnppdbgoaa
open Go.RowKit Go.Shelf
set_option linter.unusedVariables false

theorem matches_len {b : List (Int × Int)} {ls : List (List Int)} {m : List Nat} (hm : m ∈ matsOf b ls) : m.length = ls.length := by
  have := (mem_matsOf.1 hm).1.1
  exact this
theorem mats_4096 {b : List (Int × Int)} {ls : List (List Int)} (hg : Good b ls) : (matsOf b ls).length ≤ 4096 :=
  mats_len hg.ds8 (by rw [dsOf_len]; exact hg.four : (dsOf ls).length ≤ 4) (mt := mtB b ls)
theorem longHead {b : List (Int × Int)} {ls : List (List Int)} (hg : Good b ls) : (∀ m ∈ (longOf b ls).headD [], m ∈ matsOf b ls) ∧ ((longOf b ls).headD []).length ≤ 8 := by
  cases h : longOf b ls with
  | nil => exact ⟨fun m hm => (by cases hm), Nat.zero_le _⟩
  | cons l r =>
    have hm : l ∈ longOf b ls := by rw [h]; exact List.mem_cons_self ..
    obtain ⟨h1, h2⟩ := mem_chains.1 hm
    refine ⟨fun m hm => h2.mem m hm, ?_⟩
    show l.length ≤ 8
    rw [h1]
    exact mostOf_le hg

attribute [local go_sem] Oper.semAt_some
set_option maxRecDepth 100000 in
set_option maxHeartbeats 1600000 in
theorem matches_ok (v lv : Value) (b : List (Int × Int)) (ls : List (List Int)) (w : World) (hv : BookV w w.heap.size v b) (hl : LLi w lv ls) :
    Calls Try.prog 17 #[v, lv] w fun r w' => ∃ mv, r = .returned (.tuple #[mv, .int .i64 (matchesM b ls).2]) ∧ LLi w' mv (matchesM b ls).1 ∧ Below w.heap.size w w' := by
  obtain ⟨pa, pc, rfl, hp⟩ := hv.open_
  obtain ⟨la, lc, rfl, -, -⟩ := hl.form
  have hC := BB.new hp
  have hB := (Below.refl w.heap.size w).alloc (Nat.le_refl _) (.cells #[.slice pa b.length pc] 24)
  go_enter Try.func17, Try.ntmps17
  go_upto_region 1 with (fail)
  generalize w.alloc (.cells #[.slice pa b.length pc] 24) = W at *
  have k0 := hC.c0
  go_wp2_with fail
  refine (newSong_ok _ b ls la lc W hC.bv ((hl.below hB).more hB.size)).mono ?_
  rintro e w1 ⟨hb1, hpost⟩
  have hB1 := hB.trans (hb1.mono hB.size)
  clear hC hB hb1 k0 hp hv
  rcases hpost with ⟨hne, rfl⟩ | ⟨he, gs, d, A, c, rfl, hs⟩
  · have d0 : (checkLines b ls != 0) = true := by simp [hne]
    have HE : Hid (matchesM b ls = ([], checkLines b ls)) := if_pos hne
    clear hne
    go_wp2
    exact bodyPost_ret (v := .tuple #[.slice none 0 0, .int .i64 (checkLines b ls)]) (by simp [results, Try.results17, go_sem]) rfl ⟨_, by rw [HE.out], by rw [HE.out]; exact LLB.nil_, hB1⟩
  · have HE : Hid (matchesM b ls = (iLL (matsOf b ls), 0)) := if_neg (by simp [he])
    obtain ⟨q0, q1, q2⟩ := hs.1.c3
    have ht := told_ok W.heap.size gs d b ls la lc _ _ (matsOf b ls) w1 hs.1 hs.2 (fun m hm => matches_len hm) (mats_4096 hs.1.good)
    clear he hl
    go_wp2_with fail
    refine ht.mono ?_
    rintro e w2 ⟨A', c', rfl, hll, hb2⟩
    have hb3 := hB1.trans (hb2.mono hB1.size)
    clear ht q0 q1 q2
    go_wp2
    exact bodyPost_ret (v := .tuple #[.slice A' (matsOf b ls).length c', .int .i64 0]) (by simp [results, Try.results17, go_sem]) rfl ⟨_, by rw [HE.out], by rw [HE.out]; exact hll, hb3⟩

set_option maxRecDepth 100000 in
set_option maxHeartbeats 1600000 in
theorem levelsP_ok (v lv : Value) (b : List (Int × Int)) (ls : List (List Int)) (w : World) (hv : BookV w w.heap.size v b) (hl : LLi w lv ls) :
    Calls Try.prog 25 #[v, lv] w fun r w' => ∃ mv, r = .returned (.tuple #[mv, .int .i64 (levelsM b ls).2]) ∧ Arr w' w'.heap.size 1 mv (levelsM b ls).1 icell ∧ Below w.heap.size w w' := by
  obtain ⟨pa, pc, rfl, hp⟩ := hv.open_
  obtain ⟨la, lc, rfl, -, -⟩ := hl.form
  have hC := BB.new hp
  have hB := (Below.refl w.heap.size w).alloc (Nat.le_refl _) (.cells #[.slice pa b.length pc] 24)
  go_enter Try.func25, Try.ntmps25
  go_upto_region 1 with (fail)
  generalize w.alloc (.cells #[.slice pa b.length pc] 24) = W at *
  have k0 := hC.c0
  go_wp2_with fail
  refine (newSong_ok _ b ls la lc W hC.bv ((hl.below hB).more hB.size)).mono ?_
  rintro e w1 ⟨hb1, hpost⟩
  have hB1 := hB.trans (hb1.mono hB.size)
  clear hC hB hb1 k0 hp hv
  rcases hpost with ⟨hne, rfl⟩ | ⟨he, gs, d, A, c, rfl, hs⟩
  · have d0 : (checkLines b ls != 0) = true := by simp [hne]
    have HE : Hid (levelsM b ls = ([], checkLines b ls)) := if_pos hne
    clear hne
    go_wp2
    exact bodyPost_ret (v := .tuple #[.slice none 0 0, .int .i64 (checkLines b ls)]) (by simp [results, Try.results25, go_sem]) rfl ⟨_, by rw [HE.out], by rw [HE.out]; exact Arr.nil_, hB1⟩
  · have HE : Hid (levelsM b ls = (lvsI b ls (matsOf b ls), 0)) := if_neg (by simp [he])
    have ht := levels_ok W.heap.size gs d b ls la lc A c w1 hs
    clear he hl
    go_wp2_with fail
    refine ht.mono ?_
    rintro e w2 ⟨A', c', rfl, hll, hb2⟩
    have hb3 := hB1.trans (hb2.mono hB1.size)
    clear ht
    go_wp2
    exact bodyPost_ret (v := .tuple #[.slice A' (matsOf b ls).length c', .int .i64 0]) (by simp [results, Try.results25, go_sem]) rfl ⟨_, by rw [HE.out], by rw [HE.out]; exact hll, hb3⟩

set_option maxRecDepth 100000 in
set_option maxHeartbeats 1600000 in
theorem longestP_ok (v lv : Value) (b : List (Int × Int)) (ls : List (List Int)) (w : World) (hv : BookV w w.heap.size v b) (hl : LLi w lv ls) :
    Calls Try.prog 32 #[v, lv] w fun r w' => ∃ mv, r = .returned (.tuple #[mv, .int .i64 (longestM b ls).2]) ∧ LLi w' mv (longestM b ls).1 ∧ Below w.heap.size w w' := by
  obtain ⟨pa, pc, rfl, hp⟩ := hv.open_
  obtain ⟨la, lc, rfl, -, -⟩ := hl.form
  have hC := BB.new hp
  have hB := (Below.refl w.heap.size w).alloc (Nat.le_refl _) (.cells #[.slice pa b.length pc] 24)
  go_enter Try.func32, Try.ntmps32
  go_upto_region 1 with (fail)
  generalize w.alloc (.cells #[.slice pa b.length pc] 24) = W at *
  have k0 := hC.c0
  go_wp2_with fail
  refine (newSong_ok _ b ls la lc W hC.bv ((hl.below hB).more hB.size)).mono ?_
  rintro e w1 ⟨hb1, hpost⟩
  have hB1 := hB.trans (hb1.mono hB.size)
  clear hC hB hb1 k0 hp hv
  rcases hpost with ⟨hne, rfl⟩ | ⟨he, gs, d, A, c, rfl, hs⟩
  · have d0 : (checkLines b ls != 0) = true := by simp [hne]
    have HE : Hid (longestM b ls = ([], checkLines b ls)) := if_pos hne
    clear hne
    go_wp2
    exact bodyPost_ret (v := .tuple #[.slice none 0 0, .int .i64 (checkLines b ls)]) (by simp [results, Try.results32, go_sem]) rfl ⟨_, by rw [HE.out], by rw [HE.out]; exact LLB.nil_, hB1⟩
  · have HE : Hid (longestM b ls = (iLL ((longOf b ls).headD []), 0)) := if_neg (by simp [he])
    have ht := longest_ok W.heap.size gs d b ls la lc A c w1 hs
    obtain ⟨hh1, hh2⟩ := longHead hs.1.good
    have HH : Hid (∀ m ∈ (longOf b ls).headD [], m.length = ls.length) := fun m hm => matches_len (hh1 m hm)
    clear he hl hh1
    go_wp2_with fail
    refine ht.mono ?_
    rintro e w2 ⟨mv, rfl, harr, hb2⟩
    have hs2 := hs.call hb2
    have hb3 := hB1.trans (hb2.mono hB1.size)
    have ht2 := told_ok W.heap.size gs d b ls la lc _ mv _ w2 hs2.1 harr HH.out (by omega)
    clear ht
    go_wp2_with fail
    refine ht2.mono ?_
    rintro e w3 ⟨A', c', rfl, hll, hb4⟩
    have hb5 := hb3.trans (hb4.mono hb3.size)
    clear ht2
    go_wp2
    exact bodyPost_ret (v := .tuple #[.slice A' ((longOf b ls).headD []).length c', .int .i64 0]) (by simp [results, Try.results32, go_sem]) rfl ⟨_, by rw [HE.out], by rw [HE.out]; exact hll, hb5⟩

set_option maxRecDepth 100000 in
set_option maxHeartbeats 1600000 in
theorem countP_ok (v lv : Value) (b : List (Int × Int)) (ls : List (List Int)) (w : World) (hv : BookV w w.heap.size v b) (hl : LLi w lv ls) :
    Calls Try.prog 34 #[v, lv] w fun r w' => r = .returned (.tuple #[.int .i64 (countM b ls).1, .int .i64 (countM b ls).2]) ∧ Below w.heap.size w w' := by
  obtain ⟨pa, pc, rfl, hp⟩ := hv.open_
  obtain ⟨la, lc, rfl, -, -⟩ := hl.form
  have hC := BB.new hp
  have hB := (Below.refl w.heap.size w).alloc (Nat.le_refl _) (.cells #[.slice pa b.length pc] 24)
  go_enter Try.func34, Try.ntmps34
  go_upto_region 1 with (fail)
  generalize w.alloc (.cells #[.slice pa b.length pc] 24) = W at *
  have k0 := hC.c0
  go_wp2_with fail
  refine (newSong_ok _ b ls la lc W hC.bv ((hl.below hB).more hB.size)).mono ?_
  rintro e w1 ⟨hb1, hpost⟩
  have hB1 := hB.trans (hb1.mono hB.size)
  clear hC hB hb1 k0 hp hv
  rcases hpost with ⟨hne, rfl⟩ | ⟨he, gs, d, A, c, rfl, hs⟩
  · have d0 : (checkLines b ls != 0) = true := by simp [hne]
    have HE : Hid (countM b ls = (0, checkLines b ls)) := if_pos hne
    clear hne
    go_wp2
    exact bodyPost_ret (v := .tuple #[.int .i64 0, .int .i64 (checkLines b ls)]) (by simp [results, Try.results34, go_sem]) rfl ⟨by rw [HE.out], hB1⟩
  · have HE : Hid (countM b ls = (((longOf b ls).length : Int), 0)) := if_neg (by simp [he])
    have ht := ways_ok W.heap.size gs d b ls la lc A c w1 hs
    clear he hl
    go_wp2_with fail
    refine ht.mono ?_
    rintro e w2 ⟨rb, rfl, hr, hb2⟩
    have hs2 := hs.call hb2
    have hb3 := hB1.trans (hb2.mono hB1.size)
    have ht2 := count_ok W.heap.size gs d b ls la lc A c rb w2 hs2 hr
    clear ht
    go_wp2_with fail
    refine ht2.mono ?_
    rintro e w3 ⟨rfl, hb4⟩
    have hb5 := hb3.trans (hb4.mono hb3.size)
    clear ht2
    go_wp2
    exact bodyPost_ret (v := .tuple #[.int .i64 ((longOf b ls).length : Int), .int .i64 0]) (by simp [results, Try.results34, go_sem]) rfl ⟨by rw [HE.out], hb5⟩
end Go.Proofs.Ytgngpdnppdbgoaa
