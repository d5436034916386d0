/- Contract: CheckPassage. -/
import Derived.Test.YtgngpdnppdbgoaaPasA
import Derived.Laws.EntriesVeiled
namespace Go.Proofs.Ytgngpdnppdbgoaa
open Go.RowKit Go.Shelf
set_option linter.unusedVariables false

/-- copy into a longer row -/
theorem run_copy_part (w : World) (dT sT ty elem : TypeId) (g n dLen dCap sCap : Nat) (ad : Addr) (cur : Array Value) (t : TypeId) (cs : List Value)
    (hu : Try.prog.underlying dT = some (.slice elem)) (hs : (Try.prog.info? elem).map (·.size) = some 1)
    (hg : w.heap[g]? = some (.cells cur t (0, 0))) (hl : cs.length = n) (hcur : cur.size = dLen) (hn : n ≤ dLen)
    (hsrc : ∀ j v, cs[j]? = some v → w.cell? (ad.add j) = some v) (h1 : ∀ v ∈ cs, v.oneCell' = true) :
    (Builtin.copy_ #[dT, sT] ty #[.slice (some ⟨g, 0, none⟩) dLen dCap, .slice (some ad) n sCap]).run Try.prog w = .ok (goInt n) (w.setRow g (cs ++ cur.toList.drop n).toArray) := by
  cases hq : Try.prog.info? elem with
  | none => simp [hq] at hs
  | some i =>
    have hi : i.size = 1 := by simpa [hq] using hs
    have hld := run_loadCells_list (P := Try.prog) w ad cs hsrc
    have hst := run_storeCells_at Try.prog g 0 t cs 0 cur w hg (by simp; omega) h1
    have e : (List.take (0 + 0) cur.toList ++ cs ++ List.drop (0 + 0 + cs.length) cur.toList).toArray = (cs ++ cur.toList.drop n).toArray := by
      rw [← hl]; simp
    rw [e] at hst
    have hmin : Nat.min n dLen = n := Nat.min_eq_left hn
    rw [hl] at hld
    simp [Builtin.copy_, run_underlying hu, Builtin.lenOf, Builtin.firstCells, sizeOf, typeInfo, hq, hi, hmin, hld, hst]
theorem at0_toNP (m : List Int) (i : Nat) : at0 (toN m) i = (m.getD i 0).toNat := by
  unfold at0 toN
  rw [List.getD_eq_getElem?_getD, List.getD_eq_getElem?_getD, List.getElem?_map]
  cases m[i]? <;> rfl
theorem copied {m : List Int} (h4 : m.length ≤ 4) (h0 : ∀ i, i < m.length → 0 ≤ m.getD i 0) : (m.map (Value.int .i64) ++ (plC []).toList.drop m.length).toArray = plC (toN m) := by
  apply Array.ext'
  apply List.ext_getElem?
  intro i
  change (m.map (Value.int .i64) ++ (plC []).toList.drop m.length)[i]? = (plC (toN m)).toList[i]?
  rw [Array.getElem?_toList (xs := plC (toN m))]
  by_cases hi4 : i < 4
  · rw [plC_at (toN m) hi4, at0_toNP]
    by_cases hi : i < m.length
    · rw [List.getElem?_append_left (by simpa using hi), List.getElem?_map, List.getElem?_eq_getElem hi]
      have h1 := h0 i hi
      rw [List.getD_eq_getElem?_getD, List.getElem?_eq_getElem hi] at h1 ⊢
      simp only [Option.getD_some, Option.map_some] at h1 ⊢
      rw [Int.toNat_of_nonneg h1]
    · rw [List.getElem?_append_right (by simp; omega), List.getElem?_drop, Array.getElem?_toList, List.length_map, show m.length + (i - m.length) = i by omega, plC_at [] hi4, List.getD_eq_getElem?_getD, List.getElem?_eq_none (by omega)]
      rfl
  · rw [List.getElem?_eq_none (by simp [plC]; omega), Array.getElem?_eq_none (by simp [plC]; omega)]
theorem outB_no {ls : List (List Int)} {m : List Int} (h : outB ls m = false) : ∀ i, i < m.length → 0 ≤ m.getD i 0 ∧ (m.getD i 0) < ((ls.getD i []).length : Int) := by
  unfold outB at h
  rw [List.any_eq_false] at h
  intro i hi
  have := h i (List.mem_range.2 hi)
  simp at this
  have h2 := this.1
  have h3 := this.2
  simp only [List.getD_eq_getElem?_getD]
  constructor
  · exact h2
  · exact h3
theorem ordB_iffP {ls : List (List Int)} : ∀ {l : List (List Nat)}, ordB ls l = true ↔ ∀ i, i + 1 < l.length → befL ls (l.getD i []) (l.getD (i + 1) []) = true
  | [] => by simp [ordB]
  | [x] => by simp [ordB]
  | x :: y :: r => by
    unfold ordB
    rw [Bool.and_eq_true, ordB_iffP (l := y :: r)]
    constructor
    · rintro ⟨h1, h2⟩ i hi
      cases i with
      | zero => exact h1
      | succ i => exact h2 i (by simpa using hi)
    · intro h
      exact ⟨h 0 (by simp), fun i hi => h (i + 1) (by simpa using hi)⟩
theorem own_ne2 {w : World} {base : Nat} {e : TypeId} {size n : Nat} {v : Value} {xs : List Value} (h : w.ownsRow base e size v n xs) : v.ownBlock ≠ some w.heap.size := fun e => by have := (h.lt _ e).2; omega
theorem any_false {α : Type} {p : α → Bool} {l : List α} (h : l.any p = false) : ∀ x ∈ l, p x = false := by
  intro x hx
  rw [List.any_eq_false] at h
  have := h x hx
  cases hp : p x with
  | false => rfl
  | true => exact absurd hp this

attribute [local go_sem] Oper.semAt_some
set_option maxRecDepth 100000 in
set_option maxHeartbeats 1600000 in
theorem checkPass_ok (v lv pv : Value) (b : List (Int × Int)) (ls p : List (List Int)) (w : World) (hv : BookV w w.heap.size v b) (hl : LLi w lv ls) (hp : LLi w pv p) :
    Calls Try.prog 29 #[v, lv, pv] w fun r w' => r = .returned (.int .i64 (checkPass b ls p)) ∧ Below w.heap.size w w' := by
  obtain ⟨pa, pc, rfl, hbp⟩ := hv.open_
  obtain ⟨la, lc, rfl, -, -⟩ := hl.form
  obtain ⟨xs, rfl, hx2, hx3⟩ := hp
  obtain ⟨xA, xc, rfl, -⟩ := id hx2
  have hC := BB.new hbp
  have hB := (Below.refl w.heap.size w).alloc (Nat.le_refl _) (.cells #[.slice pa b.length pc] 24)
  have HCP : Hid (checkPass b ls (xs.map (·.2)) = if checkLines b ls ≠ 0 then checkLines b ls else if 8 < xs.length then 6 else if (xs.any fun x => decide (x.2.length ≠ ls.length)) = true then 15 else if (xs.any fun x => outB ls x.2) = true then 3 else if (xs.all fun x => mtB b ls (toN x.2)) = false then 20 else if ordB ls (xs.map fun x => toN x.2) = false then 24 else 0) := by
    unfold checkPass
    rw [List.length_map, List.any_map, List.any_map, List.all_map, List.map_map]
    rfl
  go_enter Try.func29, Try.ntmps29
  go_upto_region 1 with (fail)
  have hz : (w.alloc (.cells #[.slice pa b.length pc] 24)).heap.size = w.heap.size + 1 := by simp
  generalize w.alloc (.cells #[.slice pa b.length pc] 24) = W at *
  have hLb := Blk.new W 25 #[.slice la ls.length lc]
  have hbA := (Below.refl W.heap.size W).alloc (Nat.le_refl _) (.cells #[.slice la ls.length lc] 25)
  have hC1 := hC.call hbA
  have hB1 := hB.trans (hbA.mono hB.size)
  rw [hz] at hLb
  have hz1 : (W.alloc (.cells #[.slice la ls.length lc] 25)).heap.size = w.heap.size + 2 := by simp [hz]
  clear hC hB hbA hbp hv
  generalize W.alloc (.cells #[.slice la ls.length lc] 25) = W1 at *
  have hl1 := (hl.below hB1).more hB1.size
  have hLB : LB W1 (w.heap.size + 1) ls la lc := ⟨hLb, hl1⟩
  have k0 := hC1.c0
  have k1 := hLb.cell 0
  simp at k1
  go_wp2_with fail
  refine (newSong_ok _ b ls la lc W1 hC1.bv hl1).mono ?_
  rintro e w1 ⟨hb1, hpost⟩
  have hB2 := hB1.trans (hb1.mono hB1.size)
  have hLB2 := hLB.call hb1
  clear hC1 hB1 hl1 hLB hLb k0 k1 hl
  rcases hpost with ⟨hne, rfl⟩ | ⟨he, gs, d, A, c, rfl, hs⟩
  · have d0 : (checkLines b ls != 0) = true := by simp [hne]
    have HE : Hid (checkPass b ls (xs.map (·.2)) = checkLines b ls) := by rw [Hid, HCP.out, if_pos hne]
    clear hne
    go_wp2
    go_ret
    exact ⟨by rw [HE.out]; rfl, hB2⟩
  · have hgd := hs.1.good
    have h2 := hgd.two
    have h4 := hgd.four
    replace HCP : Hid (checkPass b ls (xs.map (·.2)) = if 8 < xs.length then 6 else if (xs.any fun x => decide (x.2.length ≠ ls.length)) = true then 15 else if (xs.any fun x => outB ls x.2) = true then 3 else if (xs.all fun x => mtB b ls (toN x.2)) = false then 20 else if ordB ls (xs.map fun x => toN x.2) = false then 24 else 0) := by rw [Hid, HCP.out, if_neg (by simp [he])]
    clear he
    by_cases h8 : 8 < xs.length
    · have d1 : decide (8 < xs.length) = true := by simpa using h8
      have d1' : decide ((8 : Int) < (xs.length : Int)) = true := by simp; omega
      have HE : Hid (checkPass b ls (xs.map (·.2)) = 6) := by rw [Hid, HCP.out, if_pos h8]
      clear h8
      go_wp2
      go_ret
      exact ⟨by rw [HE.out]; rfl, hB2⟩
    · have d1 : decide (8 < xs.length) = false := by simpa using h8
      have d1' : decide ((8 : Int) < (xs.length : Int)) = false := by simp; omega
      replace HCP : Hid (checkPass b ls (xs.map (·.2)) = if (xs.any fun x => decide (x.2.length ≠ ls.length)) = true then 15 else if (xs.any fun x => outB ls x.2) = true then 3 else if (xs.all fun x => mtB b ls (toN x.2)) = false then 20 else if ordB ls (xs.map fun x => toN x.2) = false then 24 else 0) := by rw [Hid, HCP.out, if_neg h8]
      have hxb := (hx2.below hB2).more hB2.size
      have hxe : ∀ x ∈ xs, Arr w1 w1.heap.size 1 x.1 x.2 icell := fun x hx => ((hx3 x hx).below hB2).more hB2.size
      have hca := containsFunc_wm _ xs 68 #[] #[.pointer (some ⟨w.heap.size + 1, 0, none⟩)] (fun x => decide (x.2.length ≠ ls.length)) w1 (enters_of Try.func68 (by kernel_rfl) rfl) hxb (fun x hx w1' hb1' => pass2_ok _ ls la lc x.1 x.2 w1' (hLB2.call hb1') ((hxe x hx).call hb1'))
      have hxq := hxb
      clear hx2 hx3 hxb
      go_wp2_with fail
      refine hca.mono ?_
      rintro e w2 ⟨rfl, hb2⟩
      clear hca
      cases ha : xs.any fun x => decide (x.2.length ≠ ls.length)
      · replace HCP : Hid (checkPass b ls (xs.map (·.2)) = if (xs.any fun x => outB ls x.2) = true then 3 else if (xs.all fun x => mtB b ls (toN x.2)) = false then 20 else if ordB ls (xs.map fun x => toN x.2) = false then 24 else 0) := by rw [Hid, HCP.out, if_neg (by rw [ha]; exact Bool.false_ne_true)]
        have HLN : Hid (∀ x ∈ xs, x.2.length = ls.length) := fun x hx => by simpa using any_false ha x hx
        have hB3 := hB2.trans (hb2.mono hB2.size)
        have hs2 := hs.call hb2
        have hLB3 := hLB2.call hb2
        have hxf : Arr w2 w2.heap.size 1 (.slice xA xs.length xc) xs vlcell := (hxq.below hb2).more hb2.size
        have hxg : ∀ x ∈ xs, Arr w2 w2.heap.size 1 x.1 x.2 icell := fun x hx => (hxe x hx).call hb2
        have hcb := containsFunc_wm _ xs 66 #[] #[.pointer (some ⟨w.heap.size + 1, 0, none⟩)] (fun x => outB ls x.2) w2 (enters_of Try.func66 (by kernel_rfl) rfl) hxf (fun x hx w1' hb1' => pass1_ok _ ls la lc x.1 x.2 w1' (hLB3.call hb1') ((hxg x hx).call hb1') (HLN.out x hx) h4)
        clear ha hB2 hs hLB2 hxe hxq hb2
        go_wp2_with fail
        refine hcb.mono ?_
        rintro e w3 ⟨rfl, hb3⟩
        clear hcb
        cases hbo : xs.any fun x => outB ls x.2
        · replace HCP : Hid (checkPass b ls (xs.map (·.2)) = if (xs.all fun x => mtB b ls (toN x.2)) = false then 20 else if ordB ls (xs.map fun x => toN x.2) = false then 24 else 0) := by rw [Hid, HCP.out, if_neg (by rw [hbo]; exact Bool.false_ne_true)]
          have HNO : Hid (∀ x ∈ xs, outB ls x.2 = false) := any_false hbo
          have hB4 := hB3.trans (hb3.mono hB3.size)
          have hs3 := hs2.call hb3
          have hxh : Arr w3 w3.heap.size 1 (.slice xA xs.length xc) xs vlcell := (hxf.below hb3).more hb3.size
          have hxi : ∀ x ∈ xs, Arr w3 w3.heap.size 1 x.1 x.2 icell := fun x hx => (hxg x hx).call hb3
          have HXI := Lib.hid hxi
          clear hbo hB3 hs2 hLB3 hxf hxg hb3 hxi
          go_wp2
          go_loopw [10, 40] (fun o i wr => ∃ k : Nat, k ≤ xs.length ∧ i = .int .i64 k ∧ Below w3.heap.size w3 wr ∧ wr.ownsRow w3.heap.size 88 4 o k (((xs.take k).map fun x => toN x.2).flatMap (cellsOf 4 plcell))) (fun _ i _ => xs.length - (intOf i).toNat)
          case atStart => exact ⟨0, Nat.zero_le _, rfl, Below.refl _ _, by simpa using World.ownsRow_nil _ _ _ _⟩
          case round =>
            obtain ⟨k, hk, rfl, hb, hown⟩ := hrel
            by_cases hlt : k < xs.length
            · have d3 : decide (k < xs.length) = true := decide_eq_true hlt
              have d3' : decide ((k : Int) < (xs.length : Int)) = true := decide_eq_true (by omega)
              have hki : (k : Int) < (xs.length : Int) := by omega
              obtain ⟨eb, eo, x, rfl, heb, hex, hec⟩ := hxh.at_ hlt
              have c0 := (hb.cell (p := ⟨eb, eo + k * 1 + 0, none⟩) heb).trans (hec 0 (by omega))
              simp only [Nat.mul_one, Nat.add_zero, vlcell] at c0
              have hxm := List.mem_of_getElem? hex
              have harr := HXI.out x hxm
              have hlen := HLN.out x hxm
              have hno := outB_no (HNO.out x hxm)
              obtain ⟨xv, m⟩ := x
              dsimp only at c0 harr hlen hno
              obtain ⟨mA, mc, rfl, hm1, hm2, -⟩ := id harr
              obtain ⟨nb, no, rfl, hnb, hnc⟩ := num_all harr (by omega)
              have hm4 : m.length ≤ 4 := by omega
              have HCO := Lib.hid (copied hm4 fun i hi => (hno i hi).1)
              have HT : Hid (((xs.take (k + 1)).map fun x => toN x.2) = ((xs.take k).map fun x => toN x.2) ++ [toN m]) := by rw [Hid, take_snoc hex, List.map_append]; rfl
              have HKL : Hid (k = ((xs.take k).map fun x => toN x.2).length) := by rw [Hid, List.length_map, List.length_take]; omega
              generalize ((xs.take k).map fun x => toN x.2) = l at *
              clear hec hex hxm harr hlen hno
              go_upto_region 16 with (fail)
              have e : wr.alloc (.cells #[.int .i64 0, .int .i64 0, .int .i64 0, .int .i64 0] 88) = wr.alloc (.cells (plC []) 88) := rfl
              rw [e]
              clear e c0
              have hX := Blk.new wr 88 (plC [])
              have hbA := (Below.refl wr.heap.size wr).alloc (Nat.le_refl _) (.cells (plC []) 88)
              have hb5 := hb.trans (hbA.mono hb.size)
              have hown5 := own_call hown hbA
              have hne := own_ne2 hown
              generalize wr.alloc (.cells (plC []) 88) = w5 at *
              have hcp : ∀ ty, (Builtin.copy_ #[38, 40] ty #[.slice (some ⟨wr.heap.size, 0, none⟩) 4 4, .slice (some ⟨nb, no, none⟩) m.length mc]).run Try.prog w5 = .ok (goInt m.length) (w5.setRow wr.heap.size (m.map (Value.int .i64) ++ (plC []).toList.drop m.length).toArray) := fun ty => by
                refine run_copy_part w5 _ _ ty 3 wr.heap.size m.length 4 4 mc ⟨nb, no, none⟩ (plC []) 88 _ Try.underlying38 (by kernel_rfl) hX (by simp) rfl (by omega) (fun j v hj => ?_) (fun v hv => ?_)
                · rw [List.getElem?_map, Option.map_eq_some_iff] at hj
                  obtain ⟨y, hy, rfl⟩ := hj
                  have hjl := (List.getElem?_eq_some_iff.1 hy).1
                  have ha : (⟨nb, no, none⟩ : Addr).add j = ⟨nb, no + j, none⟩ := by unfold Addr.add; split <;> simp_all
                  rw [ha, hb5.cell (p := ⟨nb, no + j, none⟩) hnb, hnc j hjl, List.getD_eq_getElem?_getD, hy]
                  rfl
                · obtain ⟨y, -, rfl⟩ := List.mem_map.1 hv
                  rfl
              have hb6 := below_set hbA (Nat.le_refl _) (m.map (Value.int .i64) ++ (plC []).toList.drop m.length).toArray
              have hX6 : Blk (w5.setRow wr.heap.size (m.map (Value.int .i64) ++ (plC []).toList.drop m.length).toArray) wr.heap.size 88 (plC (toN m)) := by
                rw [← HCO.out]
                exact setRow_heap w5 wr.heap.size (plC []) _ 88 (0, 0) hX
              have hb7 := hb.trans (hb6.mono hb.size)
              have hown7 := own_call hown hb6
              clear hX hbA hb5 hown5 hown hb6
              go_upto_region 17 with (fail)
              clear hcp
              generalize w5.setRow wr.heap.size (m.map (Value.int .i64) ++ (plC []).toList.drop m.length).toArray = w7 at *
              have p0 := hX6.cell 0
              have p1 := hX6.cell 1
              have p2 := hX6.cell 2
              have p3 := hX6.cell 3
              simp [plC] at p0 p1 p2 p3
              have hsz7 := hb7.size
              go_wp2_with (at_builtin; refine wpList_app2 slT_pl rfl (.tmp 47) (.tmp 49) rfl (sv := u10) rfl hown7 rfl rfl (one_pl (toN m)) hsz7 ?_ ?_ ?_)
              any_goals omega
              intro v4 w4 hown4 hg4 hat4
              have hown9 : w4.ownsRow w3.heap.size 88 4 v4 (k + 1) ((((xs.take (k + 1)).map fun x => toN x.2)).flatMap (cellsOf 4 plcell)) := by
                rw [HT.out, List.flatMap_append, List.flatMap_singleton, ← cells_pl]
                exact hown4
              have hb9 : Below w3.heap.size w3 w4 := hb7.grown hg4 hb7.size (fun g hg => (hown7.lt g hg).1)
              clear hown4 hg4 hat4 hown7 hX6 hb7 hsz7 p0 p1 p2 p3
              go_wp2
              go_roundw
              case rel => exact ⟨k + 1, by omega, by go_num, hb9, hown9⟩
              case measure => (simp [intOf]; try omega)
            · obtain rfl : k = xs.length := by omega
              have d3 : decide (xs.length < xs.length) = false := by simp
              rw [List.take_length] at hown
              have hB5 := hB4.trans (hb.mono hB4.size)
              have hs4 := hs3.call hb
              have HPL : Hid (∀ m ∈ xs.map fun x => toN x.2, ∀ h, h < ls.length → at0 m h < (ls.getD h []).length) := fun m hm h hh => by
                obtain ⟨x, hx, rfl⟩ := List.mem_map.1 hm
                have h1 := outB_no (HNO.out x hx) h (by rw [HLN.out x hx]; exact hh)
                rw [at0_toNP]
                omega
              obtain ⟨l, hl⟩ : ∃ l, l = xs.map fun x => toN x.2 := ⟨_, rfl⟩
              have hll : l.length = xs.length := by rw [hl, List.length_map]
              have HAL : Hid ((xs.all fun x => mtB b ls (toN x.2)) = !(l.any fun m => !mtB b ls m)) := by
                rw [Hid, hl, List.any_map, List.any_eq_not_all_not]
                simp [Function.comp_def]
              rw [← hl] at hown HPL HCP
              obtain ⟨oA, oc, rfl⟩ := own_form hown
              obtain ⟨L, hL⟩ : ∃ L, L = xs.length := ⟨_, rfl⟩
              rw [← hL] at hown hll d3 ⊢
              have HLL := Lib.hid hll
              have hL8 : L ≤ 8 := by omega
              clear hk hlt hb hl hll hL hB4 hs3
              go_upto_region 20 with (fail)
              have hF := Blk.new wr 92 #[.func (.func 69) #[.pointer (some ⟨gs, 0, none⟩)] #[]]
              have hbA := (Below.refl wr.heap.size wr).alloc (Nat.le_refl _) (.cells #[.func (.func 69) #[.pointer (some ⟨gs, 0, none⟩)] #[]] 92)
              have hB6 := hB5.trans (hbA.mono hB5.size)
              have hs5 := hs4.call hbA
              have hown5 := own_call hown hbA
              clear hbA hB5 hs4 hown
              generalize wr.alloc (.cells #[.func (.func 69) #[.pointer (some ⟨gs, 0, none⟩)] #[]] 92) = w5 at *
              generalize wr.heap.size = fg at *
              have harr : Arr w5 w5.heap.size 4 (.slice oA L oc) l plcell := Arr.of_own (by rw [HLL.out]; exact hown5)
              have hcc := containsFunc_pl _ l 71 #[] #[.pointer (some ⟨fg, 0, none⟩)] (fun m => !mtB b ls m) w5 (enters_of Try.func71 (by kernel_rfl) rfl) harr (fun m hm w1' hb1' => pass3_ok W1.heap.size gs d b ls la lc _ fg m w1' (hs5.call hb1').1 (hF.call hb1') (HPL.out m hm))
              clear hown5
              go_wp2_with fail
              refine hcc.mono ?_
              rintro e w6 ⟨rfl, hb6⟩
              clear hcc
              cases han : l.any fun m => !mtB b ls m
              · replace HCP : Hid (checkPass b ls (xs.map (·.2)) = if ordB ls l = false then 24 else 0) := by rw [Hid, HCP.out, HAL.out, han]; rfl
                have hB7 := hB6.trans (hb6.mono hB6.size)
                have hs6 := hs5.call hb6
                have harr6 := (harr.below hb6).more hb6.size
                clear han HAL hB6 hs5 harr hb6 hF
                go_wp2
                go_loopw [15] (fun i wr => ∃ q : Nat, q ≤ L ∧ i = .int .i64 ((q + 1 : Nat) : Int) ∧ Hid (∀ i, i + 1 < q + 1 → i + 1 < l.length → befL ls (l.getD i []) (l.getD (i + 1) []) = true) ∧ Below w6.heap.size w6 wr) (fun i _ => L + 1 - (intOf i).toNat)
                case atStart => exact ⟨0, Nat.zero_le _, by go_num, fun i h => absurd h (by omega), Below.refl _ _⟩
                case round =>
                  obtain ⟨q, hq, rfl, hok, hb⟩ := hrel
                  by_cases hqL : q + 1 < L
                  · have d5 : decide (((q + 1 : Nat) : Int) < (L : Int)) = true := decide_eq_true (by omega)
                    have hqi : ((q + 1 : Nat) : Int) < (L : Int) := by omega
                    have hqi2 : (q : Int) < (L : Int) := by omega
                    have hqi3 : (q : Int) + 1 < (L : Int) := by omega
                    obtain ⟨ob, oo, rfl, hob, hoc⟩ := pl_all harr6 (by rw [← HLL.out] at hqL; omega)
                    have hcell : ∀ j, j < L → ∀ t, t < 4 → wr.cell? ⟨ob, oo + j * 4 + t, none⟩ = some (.int .i64 (at0 (l.getD j []) t : Int)) := fun j hj t ht => (hb.cell (p := ⟨ob, oo + j * 4 + t, none⟩) hob).trans (hoc j (by rw [HLL.out]; exact hj) t ht)
                    have f0 := Ext.of (hcell q (by omega) 0 (by omega))
                    have f1 := Ext.of (hcell q (by omega) 1 (by omega))
                    have f2 := Ext.of (hcell q (by omega) 2 (by omega))
                    have f3 := Ext.of (hcell q (by omega) 3 (by omega))
                    have f4 := Ext.of (hcell (q + 1) (by omega) 0 (by omega))
                    have f5 := Ext.of (hcell (q + 1) (by omega) 1 (by omega))
                    have f6 := Ext.of (hcell (q + 1) (by omega) 2 (by omega))
                    have f7 := Ext.of (hcell (q + 1) (by omega) 3 (by omega))
                    rw [Nat.add_zero] at f0 f4
                    have hs7 := (hs6.call hb).1
                    obtain ⟨x, hx⟩ : ∃ x, x = l.getD q [] := ⟨_, rfl⟩
                    obtain ⟨y, hy⟩ : ∃ y, y = l.getD (q + 1) [] := ⟨_, rfl⟩
                    rw [← hx] at f0 f1 f2 f3
                    rw [← hy] at f4 f5 f6 f7
                    have HXY : Hid (befL ls (l.getD q []) (l.getD (q + 1) []) = befL ls x y) := by rw [hx, hy]; rfl
                    have HA : Hid (∀ z : Ext wr, Calls Try.prog 63 #[.pointer (some ⟨gs, 0, none⟩), plV x, plV y] z.w fun r w' => r = .returned (.bool (befL ls x y)) ∧ ∃ z' : Ext wr, w' = z'.w) := fun z => ext_call z (before_ok W1.heap.size gs d b ls la lc _ x y z.w (hs7.call z.h))
                    have e1 : IntKind.i64.wrap (((q + 1 : Nat) : Int) - 1) = (q : Int) := by rw [wrap_id _ (by omega) (by omega)]; omega
                    have eq1 : ((q + 1 : Nat) : Int) = (q : Int) + 1 := by omega
                    clear hx hy hcell hoc hs7
                    go_upto_region 25 with (fail)
                    cases hxy : befL ls x y
                    · have HE : Hid (checkPass b ls (xs.map (·.2)) = 24) := by
                        rw [Hid, HCP.out, if_pos]
                        cases ho : ordB ls l with
                        | false => rfl
                        | true =>
                          have := ordB_iffP.1 ho q (by rw [HLL.out]; exact hqL)
                          rw [HXY.out, hxy] at this
                          cases this
                      rw [hxy] at HA
                      clear hxy hok
                      refine wp_region_ext (by kernel_rfl) (by kernel_rfl) ?_
                      repeat (go_big_quiet_step ((go_at_call 63; with_reducible exact HA.out _)))
                      refine wpQuiet_nil ?_
                      intro _ hw'
                      obtain ⟨xr, hw''⟩ := hw'
                      subst hw''
                      have hB9 := hB7.trans ((hb.trans (xr.h.mono hb.size)).mono hB7.size)
                      go_wp2
                      go_ret
                      exact ⟨by rw [HE.out]; rfl, hB9⟩
                    · have HOK : Hid (∀ i, i + 1 < q + 1 + 1 → i + 1 < l.length → befL ls (l.getD i []) (l.getD (i + 1) []) = true) := fun i h1 h2 => by
                        by_cases e : i = q
                        · rw [e, HXY.out]; exact hxy
                        · exact hok.out i (by omega) h2
                      rw [hxy] at HA
                      clear hxy hok
                      refine wp_region_ext (by kernel_rfl) (by kernel_rfl) ?_
                      repeat (go_big_quiet_step ((go_at_call 63; with_reducible exact HA.out _)))
                      refine wpQuiet_nil ?_
                      intro _ hw'
                      obtain ⟨xr, hw''⟩ := hw'
                      subst hw''
                      have hb9 := hb.trans (xr.h.mono hb.size)
                      go_wp2
                      go_roundw
                      case rel => exact ⟨q + 1, by omega, by go_num, HOK, hb9⟩
                      case measure => (simp [intOf]; try omega)
                  · have d5 : decide (((q + 1 : Nat) : Int) < (L : Int)) = false := decide_eq_false (by omega)
                    have HO : Hid (ordB ls l = true) := ordB_iffP.2 fun i hi => hok.out i (by rw [HLL.out] at hi; omega) hi
                    have HE : Hid (checkPass b ls (xs.map (·.2)) = 0) := by rw [Hid, HCP.out, HO.out]; rfl
                    have hB8 := hB7.trans (hb.mono hB7.size)
                    go_wp2
                    go_ret
                    exact ⟨by rw [HE.out]; rfl, hB8⟩
              · have HE : Hid (checkPass b ls (xs.map (·.2)) = 20) := by rw [Hid, HCP.out, HAL.out, han]; rfl
                have hB7 := hB6.trans (hb6.mono hB6.size)
                clear han
                go_wp2
                go_ret
                exact ⟨by rw [HE.out]; rfl, hB7⟩
        · have HE : Hid (checkPass b ls (xs.map (·.2)) = 3) := by rw [Hid, HCP.out, if_pos hbo]
          have hB4 := hB3.trans (hb3.mono hB3.size)
          clear hbo
          go_wp2
          go_ret
          exact ⟨by rw [HE.out]; rfl, hB4⟩
      · have HE : Hid (checkPass b ls (xs.map (·.2)) = 15) := by rw [Hid, HCP.out, if_pos ha]
        have hB3 := hB2.trans (hb2.mono hB2.size)
        clear ha
        go_wp2
        go_ret
        exact ⟨by rw [HE.out]; rfl, hB3⟩
end Go.Proofs.Ytgngpdnppdbgoaa
