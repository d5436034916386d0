/- Contract: Rank. -/
import Derived.Test.YtjjjockfppomdaaPub
import Derived.WalkMore
namespace Go.Proofs.Ytjjjockfppomdaa
open Go.RowKit Go.Shelf
set_option linter.unusedVariables false

def numsN (c : Cyl) (l : List St) : List Nat := l.map fun s => (numS c s).toNat
def rankM (c : Cyl) (l : List St) : Int × Int := if checkJoin c l ≠ 0 then (0, checkJoin c l) else ((rankN c 0 none (numsN c l) : Int), 0)
theorem checkJoin_zero {c : Cyl} {l : List St} (h : checkJoin c l = 0) : checkCyl c = 0 ∧ l.length = c.pcs.length ∧ l.all (isStep c) = true ∧ twice l = false ∧ chain c l = true := by
  unfold checkJoin at h
  by_cases h1 : checkCyl c ≠ 0
  · rw [if_pos h1] at h; exact absurd h h1
  · rw [if_neg h1] at h
    by_cases h2 : l.length ≠ c.pcs.length
    · rw [if_pos h2] at h; omega
    · rw [if_neg h2] at h
      by_cases h3 : l.all (isStep c) = false
      · rw [if_pos h3] at h; omega
      · rw [if_neg h3] at h
        by_cases h4 : twice l = true
        · rw [if_pos h4] at h; omega
        · rw [if_neg h4] at h
          by_cases h5 : chain c l = false
          · rw [if_pos h5] at h; omega
          · exact ⟨by simpa using h1, by simpa using h2, by simpa using h3, by simpa using h4, by simpa using h5⟩
def sumF (c : Cyl) (u k : Nat) (l : List Nat) : Nat := sumL c u (l.filter fun j => decide (j < k))
theorem sumF_snoc (c : Cyl) (u k : Nat) (l : List Nat) (j : Nat) : sumF c u k (l ++ [j]) = sumF c u k l + if decide (j < k) = true then leftN c (onN c u j) (some j) else 0 := by
  unfold sumF
  rw [List.filter_append]
  by_cases h : decide (j < k) = true
  · rw [if_pos h, ← sumL_snoc]; simp [h]
  · rw [if_neg h]; simp [h]
theorem sumF_le {c : Cyl} (h8 : c.pcs.length ≤ 8) (u k : Nat) (l : List Nat) : sumF c u k l ≤ l.length * 4294967296 :=
  Nat.le_trans (sumL_le h8 u _) (Nat.mul_le_mul_right _ (List.length_filter_le _ _))
theorem cell_ne_map {W : World} {ob i g : Nat} {v : Value} {M : Int → Int → Option Value} (hc : W.cell? ⟨ob, i, none⟩ = some v) (hM : MapOf W g M) : ob ≠ g := by
  rintro rfl
  obtain ⟨es, cl, l, h1, -⟩ := hM
  simp [World.cell?, h1] at hc

/-- what Rank holds of the world between two steps -/
structure RkB (w : World) (x : TX) (c : Cyl) (b ob oo : Nat) (nm : List Int) (u : Nat) (o : Option Nat) (r : Nat) (ds : List Deferred) (T : Nat) (W : World) : Prop where
  tb : TB W x c
  bt : Blk W b 72 #[.pointer (some ⟨x.g, 0, none⟩)]
  bn : Blk W (b + 1) 2 #[.int .i64 (r : Int)]
  bs : Blk W (b + 2) 94 #[.int .i64 (u : Int), .int .i64 (lastI o)]
  cs : ∀ j v, nm[j]? = some v → W.cell? ⟨ob, oo + j, none⟩ = some (.int .i64 v)
  bl : Below w.heap.size w W
  mrk : Marks (b + 3) T W ds
  sz : T ≤ W.heap.size
  lo : b + 3 ≤ T
  le : x.N ≤ b
  ol : ob < b
  oa : ob ≠ x.ga ∧ ob ≠ x.gu
  ga : w.heap.size ≤ x.ga ∧ w.heap.size ≤ x.gu
  wl : w.heap.size ≤ b
section
variable {w W W' : World} {x : TX} {c : Cyl} {b ob oo u r T : Nat} {nm : List Int} {o : Option Nat} {ds : List Deferred}
theorem RkB.grown (h : RkB w x c b ob oo nm u o r ds T W) {row : Option Nat} (hg : W.grownBy W' row) (hr : ∀ ρ, row = some ρ → T ≤ ρ) : RkB w x c b ob oo nm u o r ds T W' := by
  have h1 := h.le
  have h2 := h.sz
  have h3 := h.lo
  have h4 := h.ol
  have h5 := h.wl
  have hc : ∀ k, k < T → W'.heap[k]? = W.heap[k]? := fun k hk => hg.block k (by omega) (fun e => by have := hr k e.symm; omega)
  exact ⟨h.tb.grown hg (fun ρ e => by have := hr ρ e; omega), h.bt.grown hg (fun e => by have := hr _ e.symm; omega), h.bn.grown hg (fun e => by have := hr _ e.symm; omega), h.bs.grown hg (fun e => by have := hr _ e.symm; omega),
    fun j v hv => (World.cell?_of_block (a := ⟨ob, oo + j, none⟩) (hc ob (by omega))).trans (h.cs j v hv), ⟨hg.os.trans h.bl.os, hg.tape.trans h.bl.tape, hg.output.trans h.bl.output, Nat.le_trans h.bl.size hg.size, fun k hk => (hc k (by omega)).trans (h.bl.block k hk)⟩,
    h.mrk.grown h2 hg (fun ρ e => .inl (hr ρ e)), Nat.le_trans h2 hg.size, h3, h1, h4, h.oa, h.ga, h5⟩
theorem RkB.chg (h : RkB w x c b ob oo nm u o r ds T W) (ht : TB W' x c) (hc : Chg x.ga x.gu W W') : RkB w x c b ob oo nm u o r ds T W' := by
  have h1 := h.le
  have h2 := h.sz
  have h5 := h.lo
  have h3 := h.tb.f.al
  have h4 := h.tb.f.ul
  have h6 := h.ol
  have h7 := h.wl
  exact ⟨ht, hc.blk h.bt (by omega) (by omega), hc.blk h.bn (by omega) (by omega), hc.blk h.bs (by omega) (by omega),
    fun j v hv => (World.cell?_of_block (a := ⟨ob, oo + j, none⟩) (hc.block ob (by omega) h.oa.1 h.oa.2)).trans (h.cs j v hv), h.bl.trans (hc.below (by have := h.bl.size; omega) h.ga.1 h.ga.2), h.mrk.chg h2 hc (by omega) (by omega), Nat.le_trans h2 hc.size, h5, h1, h6, h.oa, h.ga, h7⟩
theorem RkB.put {W' : World} (h : RkB w x c b ob oo nm u o r ds T W) {k u' r' : Nat} {o' : Option Nat} (hk : k = b + 1 ∨ k = b + 2) (hg : W.grownBy W' (some k)) (hn : Blk W' (b + 1) 2 #[.int .i64 (r' : Int)]) (hs : Blk W' (b + 2) 94 #[.int .i64 (u' : Int), .int .i64 (lastI o')]) :
    RkB w x c b ob oo nm u' o' r' ds T W' := by
  have h1 := h.le
  have h2 := h.sz
  have h3 := h.lo
  have h4 := h.ol
  have h5 := h.wl
  have hc : ∀ j, j < b → W'.heap[j]? = W.heap[j]? := fun j hj => hg.block j (by omega) (fun e => by injection e; omega)
  exact ⟨h.tb.grown hg (fun ρ e => by injection e; omega), h.bt.grown hg (fun e => by injection e; omega), hn, hs,
    fun j v hv => (World.cell?_of_block (a := ⟨ob, oo + j, none⟩) (hc ob (by omega))).trans (h.cs j v hv), ⟨hg.os.trans h.bl.os, hg.tape.trans h.bl.tape, hg.output.trans h.bl.output, Nat.le_trans h.bl.size hg.size, fun j hj => (hc j (by omega)).trans (h.bl.block j hj)⟩,
    h.mrk.grown h2 hg (fun ρ e => .inr (by injection e; omega)), Nat.le_trans h2 hg.size, h3, h1, h4, h.oa, h.ga, h5⟩
theorem RkB.putn (h : RkB w x c b ob oo nm u o r ds T W) (r' : Nat) : RkB w x c b ob oo nm u o r' ds T (W.setCell ⟨b + 1, 0, none⟩ (.int .i64 (r' : Int))) :=
  h.put (.inl rfl) (grown_setCell _) (by simpa using h.bn.set_ 0 (.int .i64 (r' : Int))) (h.bs.far (by show b + 2 ≠ b + 1; omega) _)
theorem RkB.puts (h : RkB w x c b ob oo nm u o r ds T W) (u' : Nat) (o' : Option Nat) : RkB w x c b ob oo nm u' o' r ds T ((W.setCell ⟨b + 2, 0, none⟩ (.int .i64 (u' : Int))).setCell ⟨b + 2, 1, none⟩ (.int .i64 (lastI o'))) :=
  h.put (.inr rfl) (grown_trans' (grown_setCell _) (grown_setCell _)) ((h.bn.far (by show b + 1 ≠ b + 2; omega) _).far (by show b + 1 ≠ b + 2; omega) _) (by simpa using (h.bs.set_ 0 (.int .i64 (u' : Int))).set_ 1 (.int .i64 (lastI o')))
theorem RkB.mark {D : Nat} (h : RkB w x c b ob oo nm u o r ds T W) (hT : T ≤ D) (hd : W.heap[D]? = some (.deferred (some []))) :
    RkB w x c b ob oo nm u o r ({ target := .collected D, args := #[] } :: ds) W.heap.size W := by
  have h1 := h.sz
  have h2 := h.lo
  have hlt := (Array.getElem?_eq_some_iff.1 hd).1
  exact { h with mrk := h.mrk.cons (W' := W) (by omega) hT hlt hd, sz := Nat.le_refl _, lo := by omega }
end
/-- .. and while it goes over the next steps -/
structure RkI (w : World) (x : TX) (c : Cyl) (b ob oo : Nat) (nm : List Int) (u : Nat) (o : Option Nat) (r : Nat) (ds : List Deferred) (T xb k : Nat) (W : World) : Prop where
  b : RkB w x c b ob oo nm u o r ds T W
  s : Blk W xb 3 #[.int .i64 (k : Int)]
  lo : T ≤ xb
  sz : xb + 4 ≤ W.heap.size
section
variable {w W W' : World} {x : TX} {c : Cyl} {b ob oo u r T xb k : Nat} {nm : List Int} {o : Option Nat} {ds : List Deferred}
theorem RkI.grown (h : RkI w x c b ob oo nm u o r ds T xb k W) {row : Option Nat} (hg : W.grownBy W' row) (hr : ∀ ρ, row = some ρ → xb + 4 ≤ ρ) : RkI w x c b ob oo nm u o r ds T xb k W' := by
  have h1 := h.lo
  exact ⟨h.b.grown hg (fun ρ e => by have := hr ρ e; omega), h.s.grown hg (fun e => by have := hr _ e.symm; omega), h1, Nat.le_trans h.sz hg.size⟩
theorem RkI.chg (h : RkI w x c b ob oo nm u o r ds T xb k W) (ht : TB W' x c) (hc : Chg x.ga x.gu W W') : RkI w x c b ob oo nm u o r ds T xb k W' := by
  have h1 := h.lo
  have h2 := h.b.lo
  have h3 := h.b.le
  have h4 := h.b.tb.f.al
  have h5 := h.b.tb.f.ul
  exact ⟨h.b.chg ht hc, hc.blk h.s (by omega) (by omega), h1, Nat.le_trans h.sz hc.size⟩
theorem RkI.putn (h : RkI w x c b ob oo nm u o r ds T xb k W) (r' : Nat) : RkI w x c b ob oo nm u o r' ds T xb k (W.setCell ⟨b + 1, 0, none⟩ (.int .i64 (r' : Int))) := by
  have h1 := h.lo
  have h2 := h.b.lo
  exact ⟨h.b.putn r', h.s.far (by show xb ≠ b + 1; omega) _, h1, by have := h.sz; simpa [World.setCell] using this⟩
end

attribute [local go_sem] Oper.semAt_some
set_option maxRecDepth 100000 in
set_option maxHeartbeats 1600000 in
theorem rank_ok (v lv : Value) (c : Cyl) (l : List St) (w : World) (hv : CylV w w.heap.size v c) (hl : Arr w w.heap.size 2 lv l stcell) :
    Calls Try.prog 25 #[v, lv] w fun r w' => r = .returned (.tuple #[.int .i64 (rankM c l).1, .int .i64 (rankM c l).2]) ∧ Below w.heap.size w w' := by
  obtain ⟨la, lc, rfl, hl1, hl2, -⟩ := id hl
  obtain ⟨pa, pc, rfl, hp⟩ := hv.open_
  have hC := CB.new hp
  have hB := (Below.refl w.heap.size w).alloc (Nat.le_refl _) (.cells #[.slice pa c.pcs.length pc, .int .i64 c.off, .int .i64 c.slo, .int .i64 c.shi] 26)
  refine (callsIn_wide (n := 8)).1 ?_
  refine callsIn_of_wp_marks Try.func25 rfl trivial ?_ rfl
  simp only [Try.ntmps25, List.size_toArray, List.length_cons, List.length_nil, Nat.reduceAdd, Nat.reduceSub, Array.replicate_succ, Array.replicate_zero, List.push_toArray, List.append_toArray, List.nil_append, List.cons_append]
  refine wpIn_wide.2 ?_
  go_upto_region 1 with (fail)
  generalize w.alloc (.cells #[.slice pa c.pcs.length pc, .int .i64 c.off, .int .i64 c.slo, .int .i64 c.shi] 26) = W at *
  obtain ⟨k0, k1, k2, k3⟩ := hC.c4
  go_wp2_with fail
  refine (indexed_ok _ _ c l W hC.cyl ((hl.below hB).more hB.size)).mono ?_
  rintro e w1 ⟨hb1, hpost⟩
  have hB1 := hB.trans (hb1.mono hB.size)
  have hgx := hB.size
  clear hC hB hb1 k0 k1 k2 k3 hl hp
  rcases hpost with ⟨hne, rfl⟩ | ⟨he, h0, x, A, cap, rfl, hT, hI, hga, hgu⟩
  · have d0 : (checkJoin c l != 0) = true := by simp [hne]
    have HE : Hid (rankM c l = (0, checkJoin c l)) := if_pos hne
    have hbA := hB1.alloc hB1.size (.cells #[.pointer none] 72)
    clear hne
    go_wp2
    exact ⟨.tuple #[.int .i64 0, .int .i64 (checkJoin c l)], by simp [results, Try.results25, go_sem], by rw [HE.out], hbA⟩
  · have HE : Hid (rankM c l = ((rankN c 0 none (numsN c l) : Int), 0)) := if_neg (by simp [he])
    obtain ⟨-, hlen, hall, -, -⟩ := checkJoin_zero he
    have h8 := hT.f.bounds.2
    have h1 := hT.f.bounds.1
    have h16 := hT.f.small
    have HALL : Hid (∀ (k : Nat) (s : St), l[k]? = some s → ∃ m : Nat, numS c s = (m : Int) ∧ (stepsOf c)[m]? = some s) := fun k s hs => numS_got (List.all_eq_true.1 hall s (List.mem_of_getElem? hs))
    obtain ⟨ob, oo, ocap, hov, hob, -, -, hoc⟩ := hI.row (by simp [numsI]; omega)
    injection hov with hA hlq hcc
    subst hA
    clear hlq hcc he h0 hall
    obtain ⟨M1, hM1, -⟩ := hT.af
    obtain ⟨M2, hM2, -⟩ := hT.un
    have ho0 : ∃ v, w1.cell? ⟨ob, oo + 0, none⟩ = some (.int .i64 v) := by
      obtain ⟨s, hs⟩ : ∃ s, l[0]? = some s := ⟨l[0], List.getElem?_eq_getElem (by omega)⟩
      exact ⟨_, hoc 0 (numS c s) (by unfold numsI; rw [List.getElem?_map, hs]; rfl)⟩
    have hoa : ob ≠ x.ga ∧ ob ≠ x.gu := ho0.elim fun v hv => ⟨cell_ne_map hv hM1, cell_ne_map hv hM2⟩
    have hle := hT.f.le
    have hwl := hB1.size
    clear ho0 hM1 hM2 hI hl1 hl2
    go_upto_region 6 with (fail)
    have hRk : RkB w x c w1.heap.size ob oo (numsI c l) 0 none 0 [] (w1.heap.size + 3) (((w1.alloc (.cells #[.pointer (some ⟨x.g, 0, none⟩)] 72)).alloc (.cells #[.int .i64 0] 2)).alloc (.cells #[.int .i64 0, .int .i64 (-1)] 94)) := by
      have b1 := (Below.refl w1.heap.size w1).alloc (Nat.le_refl _) (.cells #[.pointer (some ⟨x.g, 0, none⟩)] 72)
      have hx1 := Blk.new w1 72 #[.pointer (some ⟨x.g, 0, none⟩)]
      have z1 : (w1.alloc (.cells #[.pointer (some ⟨x.g, 0, none⟩)] 72)).heap.size = w1.heap.size + 1 := by simp
      generalize w1.alloc (.cells #[.pointer (some ⟨x.g, 0, none⟩)] 72) = v1 at *
      have b2 := (Below.refl v1.heap.size v1).alloc (Nat.le_refl _) (.cells #[.int .i64 0] 2)
      have hx2 := Blk.new v1 2 #[.int .i64 0]
      have z2 : (v1.alloc (.cells #[.int .i64 0] 2)).heap.size = w1.heap.size + 2 := by simp [z1]
      generalize v1.alloc (.cells #[.int .i64 0] 2) = v2 at *
      have b3 := (Below.refl v2.heap.size v2).alloc (Nat.le_refl _) (.cells #[.int .i64 0, .int .i64 (-1)] 94)
      have hx3 := Blk.new v2 94 #[.int .i64 0, .int .i64 (-1)]
      have z3 : (v2.alloc (.cells #[.int .i64 0, .int .i64 (-1)] 94)).heap.size = w1.heap.size + 3 := by simp [z2]
      generalize v2.alloc (.cells #[.int .i64 0, .int .i64 (-1)] 94) = v3 at *
      rw [z1] at hx2
      rw [z2] at hx3
      have hb : Below w1.heap.size w1 v3 := b1.trans ((b2.mono (by omega)).trans (b3.mono (by omega)))
      exact ⟨hT.call hb, (hx1.call b2).call b3, hx2.call b3, hx3, fun j v hv => (hb.cell (p := ⟨ob, oo + j, none⟩) hob).trans (hoc j v hv), hB1.trans (hb.mono hwl), trivial, by omega, Nat.le_refl _, hle, hob, hoa, ⟨by omega, by omega⟩, hwl⟩
    generalize ((w1.alloc (.cells #[.pointer (some ⟨x.g, 0, none⟩)] 72)).alloc (.cells #[.int .i64 0] 2)).alloc (.cells #[.int .i64 0, .int .i64 (-1)] 94) = W at *
    clear hT hoc hB1
    generalize w1.heap.size = b at *
    rw [show b + 1 + 1 = b + 2 from rfl]
    go_wp2
    have hnl : (numsN c l).length = c.pcs.length := by simp [numsN, hlen]
    refine wp_loop_ghost_k (fun (k : Nat) (a' : Act) (w' : World) => ∃ (u12 u13 u28 u29 u30 u31 u32 u33 u34 u35 u36 u37 u38 u39 u40 u41 u42 u43 u44 u45 u46 u47 u48 : Value) (j u r T : Nat) (o : Option Nat) (ds : List Deferred),
        (k = c.pcs.length - j ∧ j ≤ c.pcs.length ∧ u < 2 ^ c.pcs.length ∧ (∀ i, o = some i → i < (stepsOf c).length) ∧ r ≤ j * 68719476736 ∧ Hid (rankN c 0 none (numsN c l) = r + rankN c u o ((numsN c l).drop j)) ∧ RkB w x c b ob oo (numsI c l) u o r ds T w') ∧
        a' = { tmps := #[.agg #[.slice pa c.pcs.length pc, .int .i64 c.off, .int .i64 c.slo, .int .i64 c.shi], .slice la c.pcs.length lc, .pointer (some ⟨w.heap.size, 0, none⟩), undef, .int .i64 0, .int .i64 0, .pointer (some ⟨b, 0, none⟩), .slice (some ⟨ob, oo, none⟩) c.pcs.length cap, .int .i64 0, .pointer (some ⟨b + 1, 0, none⟩), .pointer (some ⟨b + 2, 0, none⟩), undef, u12, u13, .tuple #[.pointer (some ⟨x.g, 0, none⟩), .slice (some ⟨ob, oo, none⟩) c.pcs.length cap, .int .i64 0], .agg #[.slice pa c.pcs.length pc, .int .i64 c.off, .int .i64 c.slo, .int .i64 c.shi], .slice la c.pcs.length lc, .tuple #[.pointer (some ⟨x.g, 0, none⟩), .slice (some ⟨ob, oo, none⟩) c.pcs.length cap, .int .i64 0], .pointer (some ⟨x.g, 0, none⟩), .slice (some ⟨ob, oo, none⟩) c.pcs.length cap, .int .i64 0, .int .i64 0, .bool false, undef, .agg #[.int .i64 0, .int .i64 (-1)], .slice (some ⟨ob, oo, none⟩) c.pcs.length cap, .int .i64 (c.pcs.length : Int), .int .i64 (j : Int), u28, u29, u30, u31, u32, u33, u34, u35, u36, u37, u38, u39, u40, u41, u42, u43, u44, u45, u46, u47, u48, undef], defers := ds }) c.pcs.length ⟨_, _, _, _, _, _, _, _, _, _, _, _, _, _, _, _, _, _, _, _, _, _, _, 0, 0, 0, b + 3, none, [], ⟨rfl, Nat.zero_le _, Nat.two_pow_pos _, (fun i h => (by cases h)), Nat.zero_le _, ?start, hRk⟩, rfl⟩ ?_
    case start => simp [Hid]
    clear hRk
    intro gk a' wr hI J K hJ hK
    obtain ⟨u12, u13, u28, u29, u30, u31, u32, u33, u34, u35, u36, u37, u38, u39, u40, u41, u42, u43, u44, u45, u46, u47, u48, j, u, r, T, o, ds, ⟨rfl, hj, hu, ho, hr, HG, hR⟩, rfl⟩ := hI
    have HO := Lib.hid ho
    have hsz0 := hR.sz
    have hlo := hR.lo
    clear ho
    dsimp only
    by_cases hlt : j < c.pcs.length
    · have d3 : decide (j < c.pcs.length) = true := by simpa using hlt
      have d3' : decide ((j : Int) < (c.pcs.length : Int)) = true := by simp; omega
      obtain ⟨s, hs⟩ : ∃ s, l[j]? = some s := ⟨l[j], List.getElem?_eq_getElem (by omega)⟩
      obtain ⟨m, hm1, hm2⟩ := HALL.out _ _ hs
      have hml := (List.getElem?_eq_some_iff.1 hm2).1
      have o0 := hR.cs j (numS c s) (by unfold numsI; rw [List.getElem?_map, hs]; rfl)
      rw [hm1] at o0
      have HD : Hid ((numsN c l).drop j = m :: (numsN c l).drop (j + 1)) := by
        unfold Hid
        have h2 : (numsN c l)[j]? = some m := by unfold numsN; rw [List.getElem?_map, hs]; simp [hm1]
        obtain ⟨h3, h4⟩ := List.getElem?_eq_some_iff.1 h2
        rw [List.drop_eq_getElem_cons h3, h4]
      have k1 : (j : Int) < (c.pcs.length : Int) := by omega
      have e1 : IntKind.i64.wrap (j : Int) = j := wrap_id _ (by omega) (by omega)
      clear hs hm1 hm2
      go_upto_region 9 with (fail)
      have hX := Blk.new wr 3 #[.int .i64 (m : Int)]
      have hR1 := hR.grown (World.grownBy_alloc wr (.cells #[.int .i64 (m : Int)] 3) none) (fun ρ e => by cases e)
      have hz1 : (wr.alloc (.cells #[.int .i64 (m : Int)] 3)).heap.size = wr.heap.size + 1 := by simp
      clear o0 hR
      generalize wr.alloc (.cells #[.int .i64 (m : Int)] 3) = w2 at *
      generalize wr.heap.size = xb at *
      have t0 := hR1.bt.cell 0
      have s0 := hR1.bs.cell 0
      have s1 := hR1.bs.cell 1
      simp at t0 s0 s1
      go_wp2_with fail
      refine (behind_ok x.g u (lastI o) w2).mono ?_
      rintro e W5 ⟨rfl, hBB, hsz, hb5⟩
      rw [hz1] at hBB hsz
      have hR5 := hR1.grown (grown_call hb5 none) (fun ρ e => by cases e)
      have hinv : RkI w x c b ob oo (numsI c l) u o r ds T xb m W5 := ⟨hR5, hX.call hb5, hsz0, by omega⟩
      have hTF := hR5.tb.f
      have hxN : x.N ≤ xb + 1 := by omega
      clear t0 s0 s1 hR1 hR5 hX hb5
      go_wp2
      refine (wpIn_wide (n := 8)).1 ?_
      have ho := HO.out
      refine wpIn_rangeFunc_ownH (F := Fence.wide) (n := 8) (a := ?aa) rfl (by omega) (gf := 71) (lb := #[.pointer (some ⟨xb + 1 + 1, 0, none⟩), .pointer (some ⟨xb + 1, 0, none⟩), .pointer (some ⟨xb + 1 + 2, 0, none⟩)]) ?hgg trivial (enters_of Try.func71 (by kernel_rfl) rfl)
        (behind2_stops 4 x c u (xb + 1) o W5 hTF hBB hu ho hxN) ?hKt ?hKb (Below.refl _ _) ?hps
        (fun ys W => RkI w x c b ob oo (numsI c l) u o (r + sumF c u m (ys.map (·.1))) ds T xb m W)
        (fun _ _ _ => False) ?hI (fun _ _ _ _ _ hs _ _ => hs) hinv (StAx (Act.tmps ?aa) 34 13 (xb + 4) c u o) StAx.own ?assign ?body ?done ?stop
      case hKt => exact fun h1 h2 => h1.trans h2
      case hKb => exact fun W l o o' hl _ _ _ => KeepB.putObj W l o' (by omega) (by omega)
      case hgg => rfl
      case hps => exact fun _ => rfl
      case hI =>
        intro s W W' row hs hg hr
        exact hs.grown hg (fun r e => by obtain ⟨h1, h2⟩ := hr r e; omega)
      case stop =>
        rintro D cc pre W _ _ hh _
        exact hh.elim
      case assign =>
        intro l pre y W K hi hK
        have hsz := hi.sz
        have hx := Blk.new W 94 #[.int .i64 (onN c u y.1 : Int), .int .i64 (y.1 : Int)]
        have hk := hK ({ tmps := (_ : Array Value), defers := [] }) (W.alloc (.cells #[.int .i64 (onN c u y.1 : Int), .int .i64 (y.1 : Int)] 94)) ((KeepsOthers.alloc _ _).from _) (KeepB.of_below ((Below.refl W.heap.size W).alloc (Nat.le_refl _) _) (by omega) (by omega)) (hi.grown (World.grownBy_alloc _ _ none) (fun r e => by cases e)) ⟨W.heap.size, by omega, hx, rfl⟩
        simp [encNx]
        gi_wp2
        exact hk
      case body =>
        rintro l pre y a' W hl hrr hi ⟨Bx, hBx, bX, rfl⟩ hlt
        simp only [List.setIfInBounds_toArray, List.set_cons_succ, List.set_cons_zero]
        have x0 := hi.s.cell 0
        have b1 := bX.cell 1
        simp at x0 b1
        have hss := sumF_snoc c u m (pre.map (·.1)) y.1
        have hsl := sumF_le h8 u m (pre.map (·.1))
        rw [List.length_map] at hsl
        have hnl2 := next_len c u o
        obtain ⟨acc, hacc⟩ : ∃ acc, acc = r + sumF c u m (pre.map (·.1)) := ⟨_, rfl⟩
        rw [← hacc] at hi
        have hacc2 : acc ≤ 1099511627776 := by omega
        have HACC := Lib.hid hacc
        have HSS := Lib.hid hss
        clear hacc hss hsl hlt hnl2
        by_cases hc : y.1 < m
        · have d5 : decide (y.1 < m) = true := by simpa using hc
          have d5' : decide ((y.1 : Int) < (m : Int)) = true := by simp; omega
          obtain ⟨hy1, hy2⟩ := mem_next.1 y.2
          have hyu := on_lt (u := u) hu hy1
          have hih := left_any x c (onN c u y.1) (some y.1) W.drew (hi.b.tb.call (Below.refl _ W).drew) hyu (fun i hi => by injection hi with hi; omega)
          simp only [lastI] at hih
          have hlx := left_small h8 (onN c u y.1) (some y.1)
          have HS2 : Hid (r + sumF c u m ((pre ++ [y]).map (·.1)) = acc + leftN c (onN c u y.1) (some y.1)) := by
            rw [Hid, List.map_append, List.map_singleton, HSS.out, d5, HACC.out]; simp [Nat.add_assoc]
          have HIH := Lib.hid hih
          clear hih HSS HACC
          obtain ⟨L, hL⟩ : ∃ L, L = leftN c (onN c u y.1) (some y.1) := ⟨_, rfl⟩
          rw [← hL] at hlx HIH HS2
          clear hL
          have e1 : IntKind.i64.wrap ((acc : Int) + (L : Int)) = ((acc + L : Nat) : Int) := by rw [wrap_id _ (by omega) (by omega)]; omega
          obtain ⟨F, hF⟩ : ∃ F : World → Prop, (∀ w', F w' ↔ (Blk w' (b + 1) 2 #[.int .i64 (acc : Int)] ∧ Blk w' b 72 #[.pointer (some ⟨x.g, 0, none⟩)] ∧ Blk w' Bx 94 #[.int .i64 (onN c u y.1 : Int), .int .i64 (y.1 : Int)])) := ⟨_, fun _ => Iff.rfl⟩
          have hF0 : F W.drew := (hF _).2 ⟨hi.b.bn.drew, hi.b.bt.drew, bX.drew⟩
          haveI : Nonempty (SubW F) := ⟨⟨_, hF0⟩⟩
          have f0 : ∀ z : SubW F, z.w.cell? ⟨b + 1, 0, none⟩ = some (.int .i64 (acc : Int)) := fun z => by simpa using ((hF z.w).1 z.h).1.cell 0
          have f1 : ∀ z : SubW F, z.w.cell? ⟨b, 0, none⟩ = some (.pointer (some ⟨x.g, 0, none⟩)) := fun z => by simpa using ((hF z.w).1 z.h).2.1.cell 0
          have f2 : ∀ z : SubW F, z.w.cell? ⟨Bx, 0, none⟩ = some (.int .i64 (onN c u y.1 : Int)) := fun z => by simpa using ((hF z.w).1 z.h).2.2.cell 0
          have f3 : ∀ z : SubW F, z.w.cell? ⟨Bx, 1, none⟩ = some (.int .i64 (y.1 : Int)) := fun z => by simpa using ((hF z.w).1 z.h).2.2.cell 1
          have HF := Lib.hid hF
          clear hF
          gi_wp2
          refine wpIn_region_sched (C := fun w' => ∃ z : SubW F, w' = z.w) [(0, true), (1, true), (2, true), (3, false), (4, true), (5, false)] (by kernel_rfl) (by kernel_rfl) (by kernel_rfl) ⟨⟨W.drew, hF0⟩, rfl⟩ ?_
          refine sched_q (by rfl) (by rfl) ?_
          intro K hK
          go_big_quiet_op
          go_big_quiet_on
          refine sched_q (by rfl) (by rfl) ?_
          intro K hK
          go_big_quiet_op
          go_big_quiet_on
          refine sched_q (by rfl) (by rfl) ?_
          intro K hK
          go_big_quiet_op
          go_big_quiet_on
          refine sched_c (by rfl) (by rfl) ?_
          intro K hK
          go_wp2_with fail
          refine HIH.out.mono ?_
          rintro e W6 ⟨rfl, hT6, hC6⟩
          have hi0 := hi.chg (W' := W.drew) (hi.b.tb.call (Below.refl _ W).drew) (Chg.of_below (Below.refl _ W).drew)
          have hi6 := hi0.chg hT6 hC6
          have hga2 := hi.b.tb.f.al
          have hgu2 := hi.b.tb.f.ul
          have hszW := hi.sz
          have hbX6 := hC6.blk (bX.drew) (by omega) (by omega)
          have hF6 : F W6 := (HF.out W6).2 ⟨hi6.b.bn, hi6.b.bt, hbX6⟩
          go_wp2
          refine hK _ _ ⟨.inr ⟨⟨W6, hF6⟩, rfl⟩, ?_⟩
          clear hK K
          refine sched_q (by rfl) (by rfl) ?_
          intro K hK
          go_big_quiet_op
          go_big_quiet_on
          refine sched_c (by rfl) (by rfl) ?_
          intro K hK
          have n0 := hi6.b.bn.cell 0
          have n1 := hi6.b.bn.frozen 0
          simp at n0
          go_wp2
          refine hK _ _ ⟨(by first | exact .inl rfl | exact .inl trivial), ?_⟩
          clear hK K
          refine sched_nil ?_
          have hi7 := hi6.putn (acc + L)
          have hC6' : Chg x.ga x.gu W W6 := (Chg.of_below (Below.refl _ W).drew).trans hC6
          rw [show ((acc + L : Nat) : Int) = (acc : Int) + (L : Int) by omega] at hi7
          generalize hw7 : W6.setCell ⟨b + 1, 0, none⟩ (.int .i64 ((acc : Int) + (L : Int))) = W7 at *
          have hgs : W6.grownBy W7 (some (b + 1)) := by rw [← hw7]; exact grown_setCell _
          have hblk : ∀ k, k < W.heap.size → k ≠ x.ga → k ≠ x.gu → k ≠ b + 1 → W7.heap[k]? = W.heap[k]? :=
            fun k hk h1 h2 h3 => (hgs.block k (Nat.lt_of_lt_of_le hk hC6'.size) (fun e => h3 (by injection e with e; try exact e.symm))).trans (hC6'.block k hk h1 h2)
          refine ⟨⟨Nat.le_trans hC6'.size hgs.size, fun k o hk ho hc => (hblk k (Array.getElem?_eq_some_iff.1 ho).1 (by omega) (by omega) (by omega)).trans ho⟩, ⟨Nat.le_trans hC6'.size hgs.size, fun k hk h1 h2 => hblk k (by omega) h1 h2 (by omega)⟩, ?_⟩
          show RkI w x c b ob oo _ u o (r + sumF c u m ((pre ++ [y]).map (·.1))) ds T xb m W7
          rw [HS2.out]
          exact hi7
        · have d5 : decide (y.1 < m) = false := by simpa using hc
          have d5' : decide ((y.1 : Int) < (m : Int)) = false := by simp; omega
          have HS2 : Hid (r + sumF c u m ((pre ++ [y]).map (·.1)) = acc) := by
            rw [Hid, List.map_append, List.map_singleton, HSS.out, d5, HACC.out]; simp
          gi_wp2
          refine ⟨KeepsFrom.refl _ _, KeepB.refl _, ?_⟩
          show RkI w x c b ob oo _ u o (r + sumF c u m ((pre ++ [y]).map (·.1))) ds T xb m W
          rw [HS2.out]
          exact hi
      case done =>
        rintro D xs W hD hS hi hdf
        rw [hS] at hi
        have hsl := sumF_le h8 u m (nextN c u o)
        have hnl2 := next_len c u o
        have hrk : Hid (rankN c 0 none (numsN c l) = (r + sumF c u m (nextN c u o)) + rankN c (onN c u m) (some m) ((numsN c l).drop (j + 1))) := by
          rw [Hid, HG.out, HD.out, rankN]
          unfold sumF sumL
          omega
        obtain ⟨r2, hr2⟩ : ∃ r2, r2 = r + sumF c u m (nextN c u o) := ⟨_, rfl⟩
        rw [← hr2] at hi hrk
        have hr3 : r2 ≤ (j + 1) * 68719476736 := by omega
        have hou := on_lt (u := u) hu hml
        have hm := hi.b.mark (D := D) (by have := hi.lo; omega) hdf
        have hx := hi.s
        clear hS hi hr2 hsl hnl2 hdf
        have t0 := hm.bt.cell 0
        have s0 := hm.bs.cell 0
        have s1 := hm.bs.cell 1
        have x0 := hx.cell 0
        simp at t0 s0 s1 x0
        go_wp2_with fail
        refine (on_ok x c u m (lastI o) W hm.tb.f hml hu).mono ?_
        rintro e W6 ⟨rfl, hb6⟩
        have hm6 := hm.grown (grown_call hb6 none) (fun ρ e => by cases e)
        have sz := fun i => hm6.bs.frozen i
        have s2 := hm6.bs.cell 0
        have s3 := hm6.bs.cell 1
        simp at s2 s3
        have hm7 := hm6.puts (onN c u m) (some m)
        have e2 : IntKind.i64.wrap ((j : Int) + 1) = (j : Int) + 1 := wrap_id _ (by omega) (by omega)
        clear t0 s0 s1 x0
        go_wp2
        refine ⟨c.pcs.length - (j + 1), by omega, hJ _ _ _ ⟨_, _, _, _, _, _, _, _, _, _, _, _, _, _, _, _, _, _, _, _, _, _, _, j + 1, onN c u m, r2, W.heap.size, some m, _, ⟨rfl, by omega, hou, (fun i hi => by injection hi with hi; omega), hr3, hrk, hm7⟩, rfl⟩⟩
    · have hjn : j = c.pcs.length := by omega
      have d3 : decide (j < c.pcs.length) = false := by simp; omega
      have d3' : decide ((j : Int) < (c.pcs.length : Int)) = false := by simp; omega
      have HRK : Hid (rankN c 0 none (numsN c l) = r) := by
        rw [Hid, HG.out, List.drop_of_length_le (by omega)]
        simp [rankN]
      clear hjn
      have n0 := hR.bn.cell 0
      simp at n0
      go_wp2
      show LeavesInM Fence.wide 8 Try.prog _ _ _ ds .returning wr
      refine Marks.leave (B := b + 3) (T := T) (fun W' => Below w.heap.size w W') ?_ ?_ ds wr hR.mrk hR.bl
      · rintro W' D hD1 hD2 h1
        exact h1.grown (grownBy_putObj' W' D (.deferred none)) h1.size (fun ρ e => by injection e; omega)
      · rintro W' h1
        exact ⟨.tuple #[.int .i64 (r : Int), .int .i64 0], by simp [results, Try.results25, go_sem], by rw [HE.out, HRK.out], h1⟩
end Go.Proofs.Ytjjjockfppomdaa
