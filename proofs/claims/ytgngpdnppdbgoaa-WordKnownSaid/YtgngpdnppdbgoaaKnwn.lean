/- Contract of the law WordKnown. -/
import Derived.Test.YtgngpdnppdbgoaaLawC
namespace Go.Proofs.Ytgngpdnppdbgoaa
open Go.RowKit Go.Shelf
set_option linter.unusedVariables false

theorem heads_row : ∀ (w : World) (ls : List (List Int)), ∀ x ∈ (headsV w.heap.size ls).zip ls, ∃ bb, x.1 = .slice (some ⟨bb, 0, none⟩) x.2.length x.2.length ∧ RowI (rowsW w ls) bb 3 x.2
  | w, [], x, hx => by simp [headsV] at hx
  | w, l :: r, x, hx => by
    rw [headsV, List.zip_cons_cons] at hx
    have hz : (w.alloc (rowO l)).heap.size = w.heap.size + 1 := by simp
    have ih := heads_row (w.alloc (rowO l)) r
    rw [hz] at ih
    rcases List.mem_cons.1 hx with rfl | hx
    · have hb := Blk.new w 3 (l.map (Value.int .i64)).toArray
      have hb2 : Blk (rowsW (w.alloc (rowO l)) r) w.heap.size 3 (l.map (Value.int .i64)).toArray := hb.call (rowsW_below (w.alloc (rowO l)) r)
      exact ⟨_, rfl, ⟨⟨_, hb2, fun i x hx => by simp [hx]⟩⟩⟩
    · exact ih x hx
theorem lit_built (w : World) (ls : List (List Int)) (te : TypeId) (hl : ∀ l ∈ ls, l.length ≤ 100) (hn : ls.length ≤ 100) : Built w (litW w ls te) te (.slice (some ⟨w.heap.size + ls.length, 0, none⟩) ls.length ls.length) ((headsV w.heap.size ls).zip ls) := by
  obtain ⟨h1, h2, h3⟩ := lit_ok w ls te hl hn
  have hz := rowsW_size w ls
  have hb2 := (Below.refl (rowsW w ls).heap.size (rowsW w ls)).alloc (Nat.le_refl _) (.cells (headsV w.heap.size ls).toArray te)
  refine ⟨?_, fun x hx => ?_, h2⟩
  · rw [List.length_zip, headsV_len, Nat.min_self, List.map_fst_zip (by rw [headsV_len]; exact Nat.le_refl _)]
    exact own_mono h3 (Nat.le_add_right _ _)
  · obtain ⟨bb, e, hr⟩ := heads_row w ls x hx
    have hlt := hr.lt
    refine ⟨bb, _, 3, e, Nat.le_refl _, ?_, hr.heap (hb2.block bb hlt), fun e2 => ?_⟩
    · have : x.2 ∈ ls := (List.of_mem_zip hx).2
      have := hl _ this
      omega
    · simp only [Value.ownBlock, Option.some.injEq] at e2
      omega
theorem slT_ls : SlT 25 38 1 24 (.slice none 0 0) := ⟨Try.underlying25, by kernel_rfl, rfl, by omega⟩
set_option maxRecDepth 100000 in
/-- append of one element to a list that is full: a new row -/
theorem wpList_appNew {W : World} {ops : Array Oper} {rest : List Oper} {o : Oper} {a : Act} {Q : Exit → Act → World → Prop} {t e bytes : Nat} {z : Value} (hT : SlT t e 1 bytes z)
    (hgd : o.guard = none) (s x : Operand) (ho : o.op = .call { callee := .builtin .append, args := #[s, x], argTypes := #[t, t] })
    {w0 : World} {g c n : Nat} {xs : List VL} {u : Value} (hs : a.eval s = .slice (some ⟨g, 0, none⟩) n n) (hb : Built w0 W e (.slice (some ⟨g, 0, none⟩) n n) xs) (hn : n = xs.length)
    (hx : a.eval x = .slice (some ⟨W.heap.size, 0, none⟩) 1 c) (h1 : u.oneCell' = true)
    (h63 : n + 1 ≤ 1048576) (hby : bytes ≤ 1024)
    (h : ∀ v' w', w'.ownsRow w0.heap.size e 1 v' (n + 1) (xs.map (·.1) ++ [u]) → W.grownBy w' none → (∀ b, v'.ownBlock = some b → W.heap.size ≤ b) → wpList Try.prog ops Q rest (a.put o.dst v') w') :
    wpList Try.prog ops Q (o :: rest) a (W.alloc (.cells #[u] e)) := by
  subst hn
  obtain ⟨hT1, hT2, hT3, hT4⟩ := hT
  obtain ⟨i0, hi, hz0, hz1, hz2⟩ := info_parts hT2
  have hbytes : (xs.length + 1) * bytes ≤ 140737488355328 := Nat.le_trans (Nat.mul_le_mul h63 hby) (by decide)
  have hnew : Blk (W.alloc (.cells #[u] e)) W.heap.size e #[u] := Blk.new _ _ _
  have hcell : ∀ j v, [u][j]? = some v → (W.alloc (.cells #[u] e)).cell? ((⟨W.heap.size, 0, none⟩ : Addr).add j) = some v := by
    intro j v hv
    have : (⟨W.heap.size, 0, none⟩ : Addr).add j = ⟨W.heap.size, j, none⟩ := by
      unfold Addr.add; split <;> simp_all
    rw [this, hnew.cell]
    simpa using hv
  have hown := hb.own
  have hbz := hb.bl.size
  refine wpList_append_grows (P := Try.prog) (W.alloc (.cells #[u] e)) hgd s x t ho e i0 z 1 bytes hT1 hi hz0 hz1 hz2 hT3 hT4 (some ⟨g, 0, none⟩) xs.length xs.length (xs.map (·.1)) hs (fun h => by cases h) hown.1 ?_ ⟨W.heap.size, 0, none⟩ 1 c [u] hx (by simp) hcell (fun v hv => by rw [List.mem_singleton] at hv; rw [hv]; exact h1) (by omega) (by simp only [maxLen]; omega) hbytes ?_
  · intro b hb' j v hv
    injection hb' with hb'
    have hcl := World.ownsRow.cells (hown.alloc (.cells #[u] e)) (g := g) rfl j v hv
    rw [← hb']
    exact hcl
  · intro v' w' hown' hgrow
    refine h v' w' (own_mono hown' (by simp; omega)) ⟨hgrow.os, hgrow.tape, hgrow.output, Nat.le_trans (by simp) hgrow.size, fun k hk hr => (hgrow.block k (by simp; omega) (fun e => by cases e)).trans (Below.heap_alloc W _ k hk)⟩ fun b hb' => ?_
    have := (hown'.lt b hb').1
    simp at this
    omega

set_option maxRecDepth 100000 in
set_option maxHeartbeats 800000 in
theorem llines2_ok (w : World) : Calls Try.prog 46 #[] w fun r w' => ∃ g xs, r = .returned (.slice (some ⟨g, 0, none⟩) 2 2) ∧ xs.map (·.2) = exL ∧ Built w w' 38 (.slice (some ⟨g, 0, none⟩) 2 2) xs := by
  have h := lit_built w exL 38 (by decide) (by decide)
  have hx : ((headsV w.heap.size exL).zip exL).map (·.2) = exL := List.map_snd_zip (by rw [headsV_len]; exact Nat.le_refl _)
  have e : litW w exL 38 = ((w.alloc (.cells #[.int .i64 1, .int .i64 2, .int .i64 3, .int .i64 4] 3)).alloc (.cells #[.int .i64 1, .int .i64 3, .int .i64 5, .int .i64 4] 3)).alloc (.cells #[.slice (some ⟨w.heap.size, 0, none⟩) 4 4, .slice (some ⟨w.heap.size + 1, 0, none⟩) 4 4] 38) := rfl
  rw [e] at h
  have HX := Lib.hid hx
  clear e hx
  generalize (headsV w.heap.size exL).zip exL = xs at *
  go_enter Try.func46, Try.ntmps46
  go_wp2
  go_ret
  exact ⟨_, xs, rfl, HX.out, h⟩
theorem lit1 (w : World) (a b : Int) : LLi ((w.alloc (.cells #[.int .i64 a, .int .i64 b] 3)).alloc (.cells #[.slice (some ⟨w.heap.size, 0, none⟩) 2 2] 40)) (.slice (some ⟨w.heap.size + 1, 0, none⟩) 1 1) [[a, b]] ∧
    Below w.heap.size w ((w.alloc (.cells #[.int .i64 a, .int .i64 b] 3)).alloc (.cells #[.slice (some ⟨w.heap.size, 0, none⟩) 2 2] 40)) := by
  have h := lit_ok w [[a, b]] 40 (by simp) (by simp)
  exact ⟨h.1, h.2.1⟩
theorem lit13 (w : World) (a b c : Int) : LLi ((w.alloc (.cells #[.int .i64 a, .int .i64 b, .int .i64 c] 3)).alloc (.cells #[.slice (some ⟨w.heap.size, 0, none⟩) 3 3] 40)) (.slice (some ⟨w.heap.size + 1, 0, none⟩) 1 1) [[a, b, c]] ∧
    Below w.heap.size w ((w.alloc (.cells #[.int .i64 a, .int .i64 b, .int .i64 c] 3)).alloc (.cells #[.slice (some ⟨w.heap.size, 0, none⟩) 3 3] 40)) := by
  have h := lit_ok w [[a, b, c]] 40 (by simp) (by simp)
  exact ⟨h.1, h.2.1⟩

set_option maxRecDepth 100000 in
set_option maxHeartbeats 3200000 in
theorem knwn_ok (w : World) : Calls Try.prog 12 #[] w fun r w' => r = .returned (.bool true) ∧ Below w.heap.size w w' := by
  go_enter Try.func12, Try.ntmps12
  go_wp2_with fail
  refine (ldial_ok w).mono ?_
  rintro e w1 ⟨dA, rfl, hd, hb1⟩
  go_wp2_with fail
  refine (llines2_ok w1).mono ?_
  rintro e w2 ⟨lg, xs, rfl, hxs, hX⟩
  have hB := hb1.trans (hX.bl.mono hb1.size)
  have hd2 := hd.call hX.bl
  have hxl : xs.length = 2 := by have := congrArg List.length hxs; simpa [exL] using this
  have HXS := Lib.hid hxs
  have HXL := Lib.hid hxl
  go_upto_region 2 with (fail)
  have hE := BB.new (w := w2) (b := exB) (pa := dA) (pc := 1) hd2
  have hb := (Below.refl w2.heap.size w2).alloc (Nat.le_refl _) (.cells #[.slice dA exB.length 1] 24)
  replace hX := hX.call hb
  replace hB := hB.trans (hb.mono hB.size)
  have ew : w2.alloc (.cells #[.slice dA exB.length 1] 24) = w2.alloc (.cells #[.slice dA 1 1] 24) := rfl
  rw [ew] at hE hX hB
  clear hd hd2 hb1 hb ew hxl hxs
  generalize w2.alloc (.cells #[.slice dA 1 1] 24) = w3 at *
  generalize w2.heap.size = g0 at *
  have hL : LLi w3 (.slice (some ⟨lg, 0, none⟩) 2 2) exL := by have := hX.ll; rw [HXS.out] at this; exact this
  obtain ⟨hq, hb⟩ := lit3 w3 0 0 2 1 3 3
  have k0 : (w3).cell? ⟨g0, 0, none⟩ = some (.slice dA 1 1) := hE.c0
  go_wp2_with fail
  refine (checkPass_ok _ _ _ exB exL [[0, 0], [2, 1], [3, 3]] _ (hE.call hb).bv (hL.call hb) hq).mono ?_
  rintro e w4 hp
  clear k0
  rw [ex11] at hp
  obtain ⟨rfl, hb2⟩ := hp
  replace hb := hb.trans (hb2.mono hb.size)
  replace hE := hE.call hb
  replace hL := hL.call hb
  replace hB := hB.trans ((hb).mono hB.size)
  replace hX := hX.call hb
  clear hb hb2 hq
  obtain ⟨hq, hb⟩ := lit1 w4 0 1
  have k0 : (w4).cell? ⟨g0, 0, none⟩ = some (.slice dA 1 1) := hE.c0
  go_wp2_with fail
  refine (checkPass_ok _ _ _ exB exL [[0, 1]] _ (hE.call hb).bv (hL.call hb) hq).mono ?_
  rintro e w5 hp
  clear k0
  rw [ex12] at hp
  obtain ⟨rfl, hb2⟩ := hp
  replace hb := hb.trans (hb2.mono hb.size)
  replace hE := hE.call hb
  replace hL := hL.call hb
  replace hB := hB.trans ((hb).mono hB.size)
  replace hX := hX.call hb
  clear hb hb2 hq
  obtain ⟨hq, hb⟩ := ints4 w5 1 2 2 2
  have k0 : (w5).cell? ⟨g0, 0, none⟩ = some (.slice dA 1 1) := hE.c0
  go_wp2_with fail
  refine (checkLv_ok _ _ _ exB exL [1, 2, 2, 2] _ (hE.call hb).bv (hL.call hb) hq).mono ?_
  rintro e w6 hp
  clear k0
  rw [ex13] at hp
  obtain ⟨rfl, hb2⟩ := hp
  replace hb := hb.trans (hb2.mono hb.size)
  replace hE := hE.call hb
  replace hL := hL.call hb
  replace hB := hB.trans ((hb).mono hB.size)
  replace hX := hX.call hb
  clear hb hb2 hq
  have k0 : w6.cell? ⟨g0, 0, none⟩ = some (.slice dA 1 1) := hE.c0
  have f0 := Ext.of k0
  clear k0
  go_upto_region 5 with (fail)
  refine ways_start 11 (fun w' => ∃ x : Ext w6, w' = x.w) (by rfl) (by kernel_rfl) ?_
  have hx : Below w6.heap.size w6 w6.drew := (Below.refl w6.heap.size w6).drew
  generalize w6.drew = v0 at *
  refine ways_q 0 (by rfl) (by rfl) (by kernel_rfl) (by kernel_rfl) (by kernel_rfl) (by rfl) ⟨⟨v0, hx⟩, rfl⟩ ?_
  intro K hK
  go_big_quiet_op
  go_big_quiet_on
  refine ways_q 1 (by rfl) (by rfl) (by kernel_rfl) (by kernel_rfl) (by kernel_rfl) (by rfl) ⟨⟨v0, hx⟩, rfl⟩ ?_
  intro K hK
  go_big_quiet_op
  go_big_quiet_on
  refine ways_1 2 (by kernel_rfl) ?_
  refine ⟨_, _, (by rfl), (by rfl), ?_⟩
  intro K' hK'
  go_wp2
  have hs1 := Blk.new v0 3 #[.int .i64 4, .int .i64 1]
  have hsx : w6.heap.size ≤ v0.heap.size := hx.size
  have hbb := (Below.refl v0.heap.size v0).alloc (Nat.le_refl _) (.cells #[.int .i64 4, .int .i64 1] 3)
  replace hx := hx.trans (hbb.mono hx.size)
  clear hbb
  generalize v0.alloc (.cells #[.int .i64 4, .int .i64 1] 3) = v1 at *
  generalize v0.heap.size = sx at *
  refine hK' _ _ ⟨⟨⟨v1, hx⟩, rfl⟩, ?_⟩
  clear hK' K'
  have hX1 := hX.call hx
  have hr1 : RowI v1 sx 3 [4, 1] := ⟨⟨_, hs1, fun i x hx => by
    rcases i with _ | _ | i
    · simpa using hx
    · simpa using hx
    · simp at hx⟩⟩
  have hsl := hr1.lt
  refine ways_1 3 (by kernel_rfl) ?_
  refine ⟨_, _, (by rfl), (by rfl), ?_⟩
  intro K' hK'
  go_wp2
  refine hK' _ _ ⟨⟨⟨_, hx.alloc hx.size _⟩, rfl⟩, ?_⟩
  clear hK' K'
  refine ways_1 4 (by kernel_rfl) ?_
  refine ⟨_, _, (by rfl), (by rfl), ?_⟩
  intro K' hK'
  refine wpList_appNew slT_ls rfl (.tmp 34) (.tmp 36) rfl rfl hX1 HXL.out.symm rfl rfl (by omega) (by omega) ?_
  intro v' w7 hown7 hg7 hat7
  have hlg := (hX.own.lt lg rfl).2
  have hne : Hid ((Value.slice (some ⟨lg, 0, none⟩) 2 2).ownBlock ≠ some sx) := fun e => by
    have h2 := (hX.own.lt sx e).2
    omega
  have hX7 := hX1.app (te := 38) (l := [4, 1]) (cap := 2) hr1 (by simp) (by omega) hne.out (by rw [HXL.out]; exact hown7) ⟨hg7.os, hg7.tape, hg7.output, hg7.size, fun k hk hr => hg7.block k hk (fun e => by cases e)⟩ (fun b hb => .inr (hat7 b hb))
  have hb7 : Below v1.heap.size v1 w7 := ⟨hg7.os, hg7.tape, hg7.output, hg7.size, fun k hk => hg7.block k hk (fun e => by cases e)⟩
  replace hx := hx.trans (hb7.mono hx.size)
  have hl7 := hX7.ll
  have HLS : Hid (List.map (fun x : VL => x.2) (xs ++ [((.slice (some ⟨sx, 0, none⟩) 2 2, [4, 1]) : VL)]) = [[1, 2, 3, 4], [1, 3, 5, 4], [4, 1]]) := by rw [Hid, List.map_append, HXS.out]; rfl
  have hl8 : LLi w7 v' [[1, 2, 3, 4], [1, 3, 5, 4], [4, 1]] := by rw [← HLS.out]; exact hl7
  obtain ⟨yA, yc, rfl, -, -⟩ := hl8.form
  clear hown7 hg7 hat7 hX7 hl7 hb7 hne hs1 hr1 hX1
  go_wp2
  refine hK' _ _ ⟨⟨⟨w7, hx⟩, rfl⟩, ?_⟩
  clear hK' K'
  refine ways_1 5 (by kernel_rfl) ?_
  refine ⟨_, _, (by rfl), (by rfl), ?_⟩
  intro K' hK'
  go_wp2_with fail
  have hlo := longestP_ok _ _ exB _ w7 (hE.call hx).bv hl8
  rw [ex14] at hlo
  refine hlo.mono ?_
  rintro e w8 ⟨pv, rfl, hP, hb8⟩
  obtain ⟨pA, pc, rfl, -, -⟩ := hP.form
  replace hx := hx.trans (hb8.mono hx.size)
  clear hlo hb8 hl8
  go_wp2
  refine hK' _ _ ⟨⟨⟨w8, hx⟩, rfl⟩, ?_⟩
  clear hK' K'
  refine ways_q 6 (by rfl) (by rfl) (by kernel_rfl) (by kernel_rfl) (by kernel_rfl) (by rfl) ⟨⟨w8, hx⟩, rfl⟩ ?_
  intro K hK
  go_big_quiet_op
  go_big_quiet_on
  refine ways_q 7 (by rfl) (by rfl) (by kernel_rfl) (by kernel_rfl) (by kernel_rfl) (by rfl) ⟨⟨w8, hx⟩, rfl⟩ ?_
  intro K hK
  go_big_quiet_op
  go_big_quiet_on
  refine ways_q 8 (by rfl) (by rfl) (by kernel_rfl) (by kernel_rfl) (by kernel_rfl) (by rfl) ⟨⟨w8, hx⟩, rfl⟩ ?_
  intro K hK
  go_big_quiet_op
  go_big_quiet_on
  refine ways_q 9 (by rfl) (by rfl) (by kernel_rfl) (by kernel_rfl) (by kernel_rfl) (by rfl) ⟨⟨w8, hx⟩, rfl⟩ ?_
  intro K hK
  go_big_quiet_op
  go_big_quiet_on
  refine ways_q 10 (by rfl) (by rfl) (by kernel_rfl) (by kernel_rfl) (by kernel_rfl) (by rfl) ⟨⟨w8, hx⟩, rfl⟩ ?_
  intro K hK
  go_big_quiet_op
  go_big_quiet_on
  refine ways_end (by kernel_rfl) ?_
  replace hE := hE.call hx
  replace hL := hL.call hx
  replace hB := hB.trans ((hx).mono hB.size)
  clear f0 hx hX hlg hsl
  have k0 : (w8).cell? ⟨g0, 0, none⟩ = some (.slice dA 1 1) := hE.c0
  go_wp2_with fail
  refine (gradesP_ok _ _ exB exL 0 w8 hE.bv hL).mono ?_
  rintro e w9 hp
  clear k0
  rw [ex15] at hp
  obtain ⟨gv, rfl, hG, hb⟩ := hp
  obtain ⟨gA, gc, rfl, -⟩ := id hG
  replace hE := hE.call hb
  replace hL := hL.call hb
  replace hB := hB.trans ((hb).mono hB.size)
  replace hP := hP.call hb
  clear hb hE hL
  obtain ⟨hq, hb⟩ := lit13 w9 0 0 1
  go_wp2_with fail
  refine (matchesT _ _ _ _ (hP.call hb) hq).mono ?_
  rintro e w10 ⟨rfl, hb2⟩
  replace hb := hb.trans (hb2.mono hb.size)
  replace hB := hB.trans (hb.mono hB.size)
  replace hG := hG.call hb
  clear hb hb2 hq hP
  obtain ⟨hq, hb⟩ := ints4 w10 2 1 1 2
  go_wp2_with fail
  refine (intsT _ _ _ _ (hG.call hb) hq).mono ?_
  rintro e w11 ⟨rfl, hb2⟩
  replace hb := hb.trans (hb2.mono hb.size)
  replace hB := hB.trans (hb.mono hB.size)
  clear hb hb2 hq hG
  go_wp2_with fail
  refine (works_ok _).mono ?_
  rintro e wz ⟨rfl, hbz⟩
  have hBz := hB.trans (hbz.mono hB.size)
  go_wp2
  try rw [Exit.noGoto_ret]
  go_ret
  exact ⟨rfl, hBz⟩
end Go.Proofs.Ytgngpdnppdbgoaa
