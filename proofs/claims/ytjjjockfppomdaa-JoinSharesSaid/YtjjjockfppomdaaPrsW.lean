/- Contract of the table: pairs (the walk). -/
import Derived.Test.YtjjjockfppomdaaPrs
import Derived.WalkMore
namespace Go.Proofs.Ytjjjockfppomdaa
open Go.RowKit Go.Shelf
set_option linter.unusedVariables false

/-- .. within a round over states -/
structure PrM (w : World) (x : TX) (c : Cyl) (P : Nat → Nat → Nat) (jb j : Nat) (W : World) : Prop where
  p : PrW w x c P W
  j : Blk W jb 3 #[.int .i64 (j : Int)]
  lo : w.heap.size + 3 ≤ jb
  sz : jb + 3 ≤ W.heap.size
section
variable {w W W' : World} {x : TX} {c : Cyl} {P P' : Nat → Nat → Nat} {jb j : Nat}
theorem PrM.grown (h : PrM w x c P jb j W) {row : Option Nat} (hg : W.grownBy W' row) (hr : ∀ ρ, row = some ρ → jb + 3 ≤ ρ) : PrM w x c P jb j W' := by
  have h1 := h.lo
  exact ⟨h.p.grown hg (fun ρ e => by have := hr ρ e; omega), h.j.grown hg (fun e => by have := hr _ e.symm; omega), h1, Nat.le_trans h.sz hg.size⟩
theorem PrM.chg (h : PrM w x c P jb j W) (ht : TB W' x c) (hc : Chg x.ga x.gu W W') : PrM w x c P jb j W' := by
  have h1 := h.lo
  have h3 := h.p.tb.f.al
  have h4 := h.p.tb.f.ul
  have h5 := h.p.le
  exact ⟨h.p.chg ht hc, hc.blk h.j (by omega) (by omega), h1, Nat.le_trans h.sz hc.size⟩
theorem PrM.up (h : PrM w x c P jb j W) (hg : W.grownBy W' (some (w.heap.size + 1))) (hm : MapPt W' (w.heap.size + 1) P') : PrM w x c P' jb j W' := by
  have h1 := h.lo
  exact ⟨h.p.up hg hm, h.j.grown hg (fun e => by injection e; omega), h1, Nat.le_trans h.sz hg.size⟩
theorem PrM.same (h : PrM w x c P jb j W) (e : ∀ i k, P' i k = P i k) : PrM w x c P' jb j W := { h with p := h.p.same e }
end

attribute [local go_sem] Oper.semAt_some
set_option maxRecDepth 100000 in
set_option maxHeartbeats 1600000 in
theorem pairs_ok (x : TX) (c : Cyl) (w : World) (hT : TB w x c) :
    Calls Try.prog 56 #[.pointer (some ⟨x.g, 0, none⟩)] w fun r w' => r = .returned (.map (some (w.heap.size + 1))) ∧ MapPt w' (w.heap.size + 1) (pOut c (stepsOf c).length) ∧ TB w' x c ∧ Chg x.ga x.gu w w' ∧ w.heap.size + 1 < w'.heap.size ∧ x.N ≤ w.heap.size := by
  have h8 := hT.f.bounds.2
  have h16 := hT.f.small
  have hle := hT.f.le
  have hmm := @run_makeMap Try.prog
  refine (callsIn_wide (n := 8)).1 ?_
  refine callsIn_of_wp_marks Try.func56 rfl trivial ?_ rfl
  simp only [Try.ntmps56, List.size_toArray, List.length_cons, List.length_nil, Nat.reduceAdd, Nat.reduceSub, Array.replicate_succ, Array.replicate_zero, List.push_toArray, List.append_toArray, List.nil_append, List.cons_append]
  refine wpIn_wide.2 ?_
  go_upto_region 2 with (fail)
  have hPr : PrW w x c (pOut c 0) (((w.alloc (.cells #[.pointer (some ⟨x.g, 0, none⟩)] 72)).alloc (.map #[] 0)).alloc (.cells #[.map (some (w.heap.size + 1))] 100)) := by
    have b1 := (Below.refl w.heap.size w).alloc (Nat.le_refl _) (.cells #[.pointer (some ⟨x.g, 0, none⟩)] 72)
    have hx1 := Blk.new w 72 #[.pointer (some ⟨x.g, 0, none⟩)]
    have z1 : (w.alloc (.cells #[.pointer (some ⟨x.g, 0, none⟩)] 72)).heap.size = w.heap.size + 1 := by simp
    generalize w.alloc (.cells #[.pointer (some ⟨x.g, 0, none⟩)] 72) = v1 at *
    have b2 := (Below.refl v1.heap.size v1).alloc (Nat.le_refl _) (.map #[] 0)
    have hx2 := MapL.new v1
    have z2 : (v1.alloc (.map #[] 0)).heap.size = w.heap.size + 2 := by simp [z1]
    generalize v1.alloc (.map #[] 0) = v2 at *
    have b3 := (Below.refl v2.heap.size v2).alloc (Nat.le_refl _) (.cells #[.map (some (w.heap.size + 1))] 100)
    have hx3 := Blk.new v2 100 #[.map (some (w.heap.size + 1))]
    have z3 : (v2.alloc (.cells #[.map (some (w.heap.size + 1))] 100)).heap.size = w.heap.size + 3 := by simp [z2]
    generalize v2.alloc (.cells #[.map (some (w.heap.size + 1))] 100) = v3 at *
    rw [z1] at hx2
    rw [z2] at hx3
    have hb : Below w.heap.size w v3 := b1.trans ((b2.mono (by omega)).trans (b3.mono (by omega)))
    refine ⟨hT.call hb, (hx1.call b2).call b3, ⟨[], 0, hx2.heap (b3.block _ (by omega)), fun a b => ?_⟩, hx3, Chg.of_below hb, by omega, hle⟩
    show none = mapP (pOut c 0) a b
    unfold mapP
    rw [if_neg]
    rintro ⟨_, _, h⟩
    simp [pOut] at h
  clear hmm
  generalize ((w.alloc (.cells #[.pointer (some ⟨x.g, 0, none⟩)] 72)).alloc (.map #[] 0)).alloc (.cells #[.map (some (w.heap.size + 1))] 100) = W at *
  rw [show w.heap.size + 1 + 1 = w.heap.size + 2 from rfl]
  have t0 := hPr.bt.cell 0
  simp at t0
  have q4 := hPr.tb.f.tc.c5.2.2.2.2
  have hsz0 := hPr.sz
  go_wp2
  refine wp_loop_ghost_k (fun (k : Nat) (a' : Act) (w' : World) => ∃ (u4 u5 u6 u7 u8 u16 u17 u18 u19 u20 u21 u22 u23 u24 u25 u26 u27 u28 u29 u30 u31 u32 u33 u34 u35 u36 u37 u38 u39 u40 u41 u42 u43 u44 u45 u46 : Value) (j T : Nat) (ds : List Deferred),
      (k = (stepsOf c).length - j ∧ j ≤ (stepsOf c).length ∧ T ≤ w'.heap.size ∧ w.heap.size + 3 ≤ T ∧ Marks (w.heap.size + 3) T w' ds ∧ PrW w x c (pOut c j) w') ∧
      a' = { tmps := #[.pointer (some ⟨x.g, 0, none⟩), .pointer (some ⟨w.heap.size, 0, none⟩), .map none, .pointer (some ⟨w.heap.size + 2, 0, none⟩), u4, u5, u6, u7, u8, .map (some (w.heap.size + 1)), .pointer (some ⟨x.g, 0, none⟩), .pointer (some ⟨x.g, 0, none⟩), .pointer (some ⟨x.g, 4, none⟩), .slice (some ⟨x.sb, x.so, none⟩) (stepsOf c).length x.sc, .int .i64 ((stepsOf c).length : Int), .int .i64 (j : Int), u16, u17, u18, u19, u20, u21, u22, u23, u24, u25, u26, u27, u28, u29, u30, u31, u32, u33, u34, u35, u36, u37, u38, u39, u40, u41, u42, u43, u44, u45, u46, undef], defers := ds }) (stepsOf c).length ⟨_, _, _, _, _, _, _, _, _, _, _, _, _, _, _, _, _, _, _, _, _, _, _, _, _, _, _, _, _, _, _, _, _, _, _, _, 0, w.heap.size + 3, [], ⟨rfl, Nat.zero_le _, hsz0, Nat.le_refl _, trivial, hPr⟩, rfl⟩ ?_
  clear hPr t0 q4 hsz0
  intro gk a' wr hI J K hJ hK
  obtain ⟨u4, u5, u6, u7, u8, u16, u17, u18, u19, u20, u21, u22, u23, u24, u25, u26, u27, u28, u29, u30, u31, u32, u33, u34, u35, u36, u37, u38, u39, u40, u41, u42, u43, u44, u45, u46, j, T, ds, ⟨rfl, hj, hTs, hTl, hM, hP⟩, rfl⟩ := hI
  dsimp only
  by_cases hlt : j < (stepsOf c).length
  · have d3 : decide (j < (stepsOf c).length) = true := by simpa using hlt
    have d3' : decide ((j : Int) < ((stepsOf c).length : Int)) = true := by simp; omega
    go_upto_region 5 with (fail)
    have hX := Blk.new wr 3 #[.int .i64 (j : Int)]
    have hg1 := World.grownBy_alloc wr (.cells #[.int .i64 (j : Int)] 3) none
    have hP1 := hP.grown hg1 (fun ρ e => by cases e)
    have hM1 := hM.grown hTs hg1 (fun ρ e => by cases e)
    have hz1 : (wr.alloc (.cells #[.int .i64 (j : Int)] 3)).heap.size = wr.heap.size + 1 := by simp
    clear hP hM hg1
    generalize wr.alloc (.cells #[.int .i64 (j : Int)] 3) = w2 at *
    generalize wr.heap.size = jb at *
    have t0 := hP1.bt.cell 0
    have x0 := hX.cell 0
    simp at t0 x0
    go_wp2_with fail
    refine (states_ok x.g j w2).mono ?_
    rintro e W5 ⟨rfl, hBB, hsz, hb5⟩
    rw [hz1] at hBB hsz
    have hM5 := hM1.grown (by omega) (grown_call hb5 none) (fun ρ e => by cases e)
    have hinv : PrM w x c (pMid c j []) jb j W5 := ⟨(hP1.grown (grown_call hb5 none) (fun ρ e => by cases e)).same (fun i k => pMid_nil c j i k), hX.call hb5, by omega, by omega⟩
    have hTF := hinv.p.tb.f
    clear t0 x0 hP1 hM1 hX hb5
    go_wp2
    refine (wpIn_wide (n := 8)).1 ?_
    refine wpIn_rangeFunc_ownH (F := Fence.wide) (n := 8) (a := ?aa) rfl (by omega) (gf := 79) (lb := #[.pointer (some ⟨jb + 1, 0, none⟩), .pointer (some ⟨jb + 1 + 1, 0, none⟩)]) ?hgg trivial (enters_of Try.func79 (by kernel_rfl) rfl)
      (states1_stops 4 x c j (jb + 1) W5 hTF hBB hlt (by omega)) ?hKt ?hKb (Below.refl _ _) ?hps
      (fun us W => Marks (w.heap.size + 3) T W ds ∧ PrM w x c (pMid c j (us.map (·.1))) jb j W)
      (fun _ _ _ => False) ?hI (fun _ _ _ _ _ hs _ _ => hs) ⟨hM5, hinv⟩ (UsAx (Act.tmps ?aa) 21 5 (jb + 3) c j) UsAx.own ?assign ?body ?done ?stop
    case hKt => exact fun h1 h2 => h1.trans h2
    case hKb => exact fun W l o o' hl _ _ _ => KeepS.putObj W l o' (by omega) (by omega)
    case hgg => rfl
    case hps => exact fun _ => rfl
    case hI =>
      intro s W W' row hs hg hr
      exact ⟨hs.1.grown (by have := hs.2.sz; omega) hg (fun r e => by obtain ⟨h1, h2⟩ := hr r e; left; omega), hs.2.grown hg (fun r e => by obtain ⟨h1, h2⟩ := hr r e; omega)⟩
    case stop =>
      rintro D cc pre W _ _ hh _
      exact hh.elim
    case assign =>
      intro l us y W K hi' hK
      have hsz' := hi'.2.sz
      have hx := Blk.new W 94 #[.int .i64 (y.1 : Int), .int .i64 (j : Int)]
      have hk := hK ({ tmps := (_ : Array Value), defers := [] }) (W.alloc (.cells #[.int .i64 (y.1 : Int), .int .i64 (j : Int)] 94)) ((KeepsOthers.alloc _ _).from _) (KeepS.of_below ((Below.refl W.heap.size W).alloc (Nat.le_refl _) _) (by omega) (by omega)) ⟨hi'.1.grown (by omega) (World.grownBy_alloc _ _ none) (fun r e => by cases e), hi'.2.grown (World.grownBy_alloc _ _ none) (fun r e => by cases e)⟩ ⟨W.heap.size, by omega, hx, rfl⟩
      simp [encUs]
      gi_wp2
      exact hk
    case body =>
      rintro l us y a' W hl hr ⟨hM', hi'⟩ ⟨Bx, hBx, bX, rfl⟩ hlt'
      simp only [List.setIfInBounds_toArray, List.set_cons_succ, List.set_cons_zero]
      obtain ⟨hy1, hy2⟩ := mem_used.1 y.2
      have hul : us.length ≤ 256 := by
        have h1 : (usedN c j).length ≤ 2 ^ c.pcs.length := by
          unfold usedN
          exact Nat.le_trans (List.length_filter_le _ _) (by simp)
        have h2 := pow8 h8
        omega
      have hc1 := come_any x c y.1 j W hi'.p.tb hy1 hlt hy2
      have hcs := come_small h8 y.1 j
      have HEND := Lib.hid (fun i k => pIn_end hy2 (us.map (·.1)) i k)
      obtain ⟨rl, hrl⟩ := hr
      have hga := hi'.p.tb.f.al
      have hgu := hi'.p.tb.f.ul
      have hszW := hi'.sz
      have hlW := (Array.getElem?_eq_some_iff.1 hrl).1
      obtain ⟨uu, huu⟩ : ∃ uu, uu = us.map (·.1) := ⟨_, rfl⟩
      have hul2 : uu.length ≤ 256 := by rw [huu, List.length_map]; exact hul
      rw [← huu] at hi' HEND
      have HUU := Lib.hid huu
      clear huu hul hlt'
      obtain ⟨u, hu⟩ := y
      dsimp only at hy1 hy2 hc1 hcs HEND bX ⊢
      have t0 := hi'.p.bt.cell 0
      have b0 := bX.cell 0
      have b1 := bX.cell 1
      simp at t0 b0 b1
      gi_wp2_with fail
      refine ⟨trivial, (CallsIn.inRound _ (callsIn_wide.2 hc1)).mono ?_⟩
      rintro e W6 ⟨rfl, hT6, hC6⟩
      have hi6 := hi'.chg hT6 hC6
      have hM6 : Marks (w.heap.size + 3) T W6 ds := hM'.chg (by omega) hC6 (by omega) (by omega)
      have bX6 := hC6.blk bX (by omega) (by omega)
      have hcm6 : ChgM (w.heap.size + 1) x.ga x.gu W W6 := hC6.toM
      have hl6 : W6.heap[l]? = some (.loop rl) := (hC6.block l hlW (by omega) (by omega)).trans hrl
      have hs6 := hC6.size
      clear t0 b0 b1 hc1 hi' hM'
      obtain ⟨wy, hwy⟩ : ∃ wy, wy = comeN c u j := ⟨_, rfl⟩
      rw [← hwy] at hcs ⊢
      have HWY := Lib.hid hwy
      clear hwy
      have hbA := (Below.refl W6.heap.size W6).alloc (Nat.le_refl _) (.cells #[.int .i64 (wy : Int)] 2)
      have hV := Blk.new W6 2 #[.int .i64 (wy : Int)]
      have hz7 : (W6.alloc (.cells #[.int .i64 (wy : Int)] 2)).heap.size = W6.heap.size + 1 := by simp
      have hi7 := hi6.grown (grown_call hbA none) (fun ρ e => by cases e)
      have hM7 := hM6.grown (by omega) (grown_call hbA none) (fun ρ e => by cases e)
      have bX7 := bX6.call hbA
      have hcm7 := hcm6.grown (grown_call hbA none) (fun ρ e => by cases e)
      have hl7 := (hbA.block l (by omega)).trans hl6
      have t0 := hi7.p.bt.cell 0
      have b0 := bX7.cell 0
      have b1 := bX7.cell 1
      simp at t0 b0 b1
      clear hi6 hM6 bX6 hcm6 hl6 hbA
      gi_wp2_with fail
      generalize W6.alloc (.cells #[.int .i64 (wy : Int)] 2) = W7 at *
      generalize W6.heap.size = wb at *
      refine ⟨trivial, (CallsIn.inRound _ (callsIn_wide.2 (behind_ok x.g u (lastI (some j)) W7))).mono ?_⟩
      rintro e W8 ⟨rfl, hBB, hsz8, hb8⟩
      rw [hz7] at hBB hsz8
      have hi8 := (hi7.grown (grown_call hb8 none) (fun ρ e => by cases e)).same (P' := pIn c j uu u []) (fun i k => pIn_nil c j uu u i k)
      have hM8 := hM7.grown (by omega) (grown_call hb8 none) (fun ρ e => by cases e)
      have hV8 := hV.call hb8
      have hcm8 := hcm7.grown (grown_call hb8 none) (fun ρ e => by cases e)
      have hl8 := (hb8.block l (by omega)).trans hl7
      clear t0 b0 b1 hi7 hM7 hV hcm7 hl7 hb8 bX7
      gi_wp2
      refine wpIn_rangeFunc_ownN (F := Fence.wide.inRound l) (n := 6) (l₀ := l) (r₀ := rl) (a := ?ab) rfl hl8 (by omega) (gf := 71) (lb := #[.pointer (some ⟨wb + 1 + 1, 0, none⟩), .pointer (some ⟨wb + 1, 0, none⟩), .pointer (some ⟨wb + 1 + 2, 0, none⟩)]) ?hgg2 trivial (enters_of Try.func71 (by kernel_rfl) rfl)
        ((behind2_stops 2 x c u (wb + 1) (some j) W8 hi8.p.tb.f hBB hy1 (fun i hi => by injection hi with hi; omega) (by omega)).inRound l) ?hKt2 ?hKb2 (Below.refl _ _) ?hps2
        (fun ks V => ChgM (w.heap.size + 1) x.ga x.gu W V ∧ Marks (w.heap.size + 3) T V ds ∧ PrM w x c (pIn c j uu u (ks.map (·.1))) jb j V ∧ Blk V wb 2 #[.int .i64 (wy : Int)] ∧ wb + 4 ≤ V.heap.size)
        (fun _ _ _ => False) ?hI2 (fun _ _ _ _ _ hs _ _ => hs) ⟨hcm8, hM8, hi8, hV8, by omega⟩ (StAx (Act.tmps ?ab) 28 7 (wb + 4) c u (some j)) StAx.own ?assign2 ?body2 ?done2 ?stop2
      case hKt2 => exact fun h1 h2 => h1.trans h2
      case hKb2 => exact fun W l o o' hl _ _ _ => KeepB.putObj W l o' (by omega) (by omega)
      case hgg2 => rfl
      case hps2 => exact fun _ => rfl
      case hI2 =>
        intro s V V' row hs hg hr
        have hr' : ∀ r, row = some r → wb + 4 ≤ r := fun r e => by obtain ⟨h1, h2⟩ := hr r e; omega
        obtain ⟨h1, h2, h3, h4, h5⟩ := hs
        exact ⟨h1.grown hg (fun r e => by have := hr' r e; left; omega), h2.grown (by omega) hg (fun r e => by have := hr' r e; left; omega), h3.grown hg (fun r e => by have := hr' r e; omega), h4.grown hg (fun e => by have := hr' _ e.symm; omega), Nat.le_trans h5 hg.size⟩
      case stop2 =>
        rintro cc pre V _ hh
        exact hh.elim
      case assign2 =>
        rintro l2 ks z V K ⟨h1, h2, h3, h4, h5⟩ hK
        have hx := Blk.new V 94 #[.int .i64 (onN c u z.1 : Int), .int .i64 (z.1 : Int)]
        have hg := World.grownBy_alloc V (.cells #[.int .i64 (onN c u z.1 : Int), .int .i64 (z.1 : Int)] 94) none
        have hk := hK ({ tmps := (_ : Array Value), defers := [] }) (V.alloc (.cells #[.int .i64 (onN c u z.1 : Int), .int .i64 (z.1 : Int)] 94)) ((KeepsOthers.alloc _ _).from _) (KeepB.of_below ((Below.refl V.heap.size V).alloc (Nat.le_refl _) _) (by omega) (by omega))
          ⟨h1.grown hg (fun r e => by cases e), h2.grown (by omega) hg (fun r e => by cases e), h3.grown hg (fun r e => by cases e), h4.grown hg (fun e => by cases e), Nat.le_trans h5 hg.size⟩ ⟨V.heap.size, by omega, hx, rfl⟩
        simp [encNx]
        gi_wp2
        exact hk
      case body2 =>
        rintro l2 ks z a' V hl2 hr2 ⟨h1, h2, h3, h4, h5⟩ ⟨Bz, hBz, bZ, rfl⟩ hlt2
        simp only [List.setIfInBounds_toArray, List.set_cons_succ, List.set_cons_zero]
        change Code.wpIn (Fence.wide.inRound l2) 4 Try.prog _ _ _ _
        obtain ⟨hz1, hz2⟩ := mem_next.1 z.2
        have hzu := on_lt (u := u) hy1 hz1
        have hih := left_any x c (onN c u z.1) (some z.1) V.drew (h3.p.tb.call (Below.refl _ V).drew) hzu (fun i hi => by injection hi with hi; omega)
        simp only [lastI] at hih
        have hway := wayN_le h8 hlt hy2 z.2
        have hsn := fun i k => pIn_snoc c j uu u (ks.map (·.1)) z.1 i k
        have hkl : ks.length ≤ 16 := by have := next_len c u (some j); omega
        have hpl := pIn_le h8 hlt hy2 uu hul2 ks hkl j z.1
        have hwq : wayN c j u z.1 = wy * leftN c (onN c u z.1) (some z.1) := by rw [HWY.out]; rfl
        have HSN : Hid (∀ i k, pIn c j uu u ((ks ++ [z]).map (·.1)) i k = pIn c j uu u (ks.map (·.1)) i k + if i = j ∧ k = z.1 then wayN c j u z.1 else 0) := by
          rw [Hid, List.map_append, List.map_singleton]
          exact hsn
        clear hsn
        obtain ⟨L, hL⟩ : ∃ L, L = leftN c (onN c u z.1) (some z.1) := ⟨_, rfl⟩
        rw [← hL] at hwq hih
        obtain ⟨q, hq⟩ : ∃ q, q = wayN c j u z.1 := ⟨_, rfl⟩
        rw [← hq] at hway hwq HSN
        have hwq2 : (wy : Int) * (L : Int) = (q : Int) := by rw [hwq, Int.natCast_mul]
        have HIH := Lib.hid hih
        have hlx : L ≤ 4294967296 := by rw [hL]; exact left_small h8 _ _
        obtain ⟨P, hPd⟩ : ∃ P, P = pIn c j uu u (ks.map (·.1)) := ⟨_, rfl⟩
        rw [← hPd] at h3 hpl HSN
        clear hL hq hwq hih hPd
        have e1 : IntKind.i64.wrap ((wy : Int) * (L : Int)) = (q : Int) := by rw [hwq2, wrap_id _ (by omega) (by omega)]
        clear hwq2
        have hga2 := h3.p.tb.f.al
        have hgu2 := h3.p.tb.f.ul
        obtain ⟨F, hF⟩ : ∃ F : World → Prop, (∀ w', F w' ↔ (Blk w' wb 2 #[.int .i64 (wy : Int)] ∧ Blk w' w.heap.size 72 #[.pointer (some ⟨x.g, 0, none⟩)] ∧ Blk w' Bz 94 #[.int .i64 (onN c u z.1 : Int), .int .i64 (z.1 : Int)])) := ⟨_, fun _ => Iff.rfl⟩
        have hF0 : F V.drew := (hF _).2 ⟨h4.drew, h3.p.bt.drew, bZ.drew⟩
        haveI : Nonempty (SubW F) := ⟨⟨_, hF0⟩⟩
        have f0 : ∀ y : SubW F, y.w.cell? ⟨wb, 0, none⟩ = some (.int .i64 (wy : Int)) := fun y => by simpa using ((hF y.w).1 y.h).1.cell 0
        have f1 : ∀ y : SubW F, y.w.cell? ⟨w.heap.size, 0, none⟩ = some (.pointer (some ⟨x.g, 0, none⟩)) := fun y => by simpa using ((hF y.w).1 y.h).2.1.cell 0
        have f2 : ∀ y : SubW F, y.w.cell? ⟨Bz, 0, none⟩ = some (.int .i64 (onN c u z.1 : Int)) := fun y => by simpa using ((hF y.w).1 y.h).2.2.cell 0
        have f3 : ∀ y : SubW F, y.w.cell? ⟨Bz, 1, none⟩ = some (.int .i64 (z.1 : Int)) := fun y => by simpa using ((hF y.w).1 y.h).2.2.cell 1
        have HF := Lib.hid hF
        clear hF
        gi_wp2
        refine wpIn_region_sched (C := fun w' => ∃ z : SubW F, w' = z.w) [(0, true), (1, true), (2, true), (3, false), (4, true), (5, false)] (by kernel_rfl) (by kernel_rfl) (by kernel_rfl) ⟨⟨V.drew, hF0⟩, rfl⟩ ?_
        refine sched_q (by rfl) (by rfl) ?_
        intro K hK
        go_big_quiet_op
        go_big_quiet_on
        refine sched_q (by rfl) (by rfl) ?_
        intro K hK
        go_big_quiet_op
        go_big_quiet_on
        refine sched_q (by rfl) (by rfl) ?_
        intro K hK
        go_big_quiet_op
        go_big_quiet_on
        refine sched_c (by rfl) (by rfl) ?_
        intro K hK
        go_wp2_with fail
        refine HIH.out.mono ?_
        rintro e V6 ⟨rfl, hT6, hC6⟩
        have hCV : Chg x.ga x.gu V V6 := (Chg.of_below (Below.refl _ V).drew).trans hC6
        have k1 := h1.trans hCV.toM
        have k2 : Marks (w.heap.size + 3) T V6 ds := h2.chg (by omega) hCV (by omega) (by omega)
        have k3 := h3.chg hT6 hCV
        have k4 := hCV.blk h4 (by omega) (by omega)
        have k5 : wb + 4 ≤ V6.heap.size := Nat.le_trans h5 hCV.size
        have bZ6 := hCV.blk bZ (by omega) (by omega)
        have hF6 : F V6 := (HF.out V6).2 ⟨k4, k3.p.bt, bZ6⟩
        go_wp2
        refine hK _ _ ⟨.inr ⟨⟨V6, hF6⟩, rfl⟩, ?_⟩
        clear hK K
        refine sched_q (by rfl) (by rfl) ?_
        intro K hK
        go_big_quiet_op
        go_big_quiet_on
        refine sched_c (by rfl) (by rfl) ?_
        intro K hK
        go_wp2
        refine hK _ _ ⟨(by first | exact .inl rfl | exact .inl trivial), ?_⟩
        clear hK K
        refine sched_nil ?_
        clear f0 f1 f2 f3 HF hF0 hF6
        by_cases hq0 : 0 < q
        · have d5 : decide ((0 : Int) < (q : Int)) = true := by simp; omega
          have d5' : decide (0 < q) = true := by simpa using hq0
          have hadd := mapP_add (P := P) (P' := pIn c j uu u ((ks ++ [z]).map (·.1))) (i := j) (k := z.1) hq0 (fun a b => HSN.out a b)
          obtain ⟨lm, clm, hml, hmr⟩ := (k3.p.mp.heap (w' := V6.drew) rfl)
          have hgmlt : w.heap.size + 1 < V6.drew.heap.size := hml.lt
          obtain ⟨es1, cl1, st, hme, hmof, hmst⟩ := hml.entry keyPair Try.underlying100 (j : Int) (z.1 : Int) (z := .int .i64 0) (by kernel_rfl)
          have hval : (readL lm (j : Int) (z.1 : Int)).getD (.int .i64 0) = .int .i64 (P j z.1 : Int) := by rw [hmr]; exact mapP_nat P j z.1
          rw [hval] at hme hmof
          have hl1 := hml.of.lookup1 keyPair Try.underlying100 (j : Int) (z.1 : Int) (z := .int .i64 0) (by kernel_rfl)
          rw [hval] at hl1
          have hl2' := hmof.lookup1 keyPair Try.underlying100 (j : Int) (z.1 : Int) (z := .int .i64 0) (by kernel_rfl)
          simp only [BEq.rfl, Bool.and_self, if_true, Option.getD_some] at hl2'
          have hgr1 : V6.drew.grownBy (putMap V6.drew (w.heap.size + 1) es1 cl1) (some (w.heap.size + 1)) := grown_put es1 cl1
          have hheap1 : (putMap V6.drew (w.heap.size + 1) es1 cl1).heap[w.heap.size + 1]? = some (.map es1 cl1) := put_heap hgmlt es1 cl1
          obtain ⟨pv, hpv⟩ : ∃ pv, pv = P j z.1 := ⟨_, rfl⟩
          rw [← hpv] at hme hl1 hl2' hadd hpl
          have e2 : IntKind.i64.wrap ((pv : Int) + (q : Int)) = (pv : Int) + (q : Int) := wrap_id _ (by omega) (by omega)
          have HADD := Lib.hid hadd
          have HMR := Lib.hid hmr
          clear hadd hmr hval hpv hmof hml
          obtain ⟨es2, lm2, hse, hml2, hmr2⟩ := hmst _ hheap1 100 (.int .i64 ((pv : Int) + (q : Int)))
          have HM2 := Lib.hid hmr2
          clear hmst hmr2
          have hgr2 : (putMap V6.drew (w.heap.size + 1) es1 cl1).grownBy (putMap (putMap V6.drew (w.heap.size + 1) es1 cl1) (w.heap.size + 1) es2 cl1) (some (w.heap.size + 1)) := grown_put es2 cl1
          obtain ⟨F, hF⟩ : ∃ F : World → Prop, (∀ w', F w' ↔ (Blk w' (w.heap.size + 2) 100 #[.map (some (w.heap.size + 1))] ∧ Blk w' jb 3 #[.int .i64 (j : Int)] ∧ Blk w' Bz 94 #[.int .i64 (onN c u z.1 : Int), .int .i64 (z.1 : Int)] ∧ (Instr.lookup 100 (.map (some (w.heap.size + 1))) (kv (j : Int) (z.1 : Int)) false).run Try.prog w' = .ok (.int .i64 (pv : Int)) w')) := ⟨_, fun _ => Iff.rfl⟩
          have hF0 : F V6.drew := (hF _).2 ⟨k3.p.bo.drew, k3.j.drew, bZ6.drew, hl1⟩
          have hF1 : F (putMap V6.drew (w.heap.size + 1) es1 cl1) := (hF _).2 ⟨k3.p.bo.drew.grown hgr1 (fun e => by injection e; omega), k3.j.drew.grown hgr1 (fun e => by injection e; have := k3.lo; omega), bZ6.drew.grown hgr1 (fun e => by injection e; omega), hl2'⟩
          haveI : Nonempty (SubW F) := ⟨⟨_, hF0⟩⟩
          have f0 : ∀ y : SubW F, y.w.cell? ⟨w.heap.size + 2, 0, none⟩ = some (.map (some (w.heap.size + 1))) := fun y => by simpa using ((hF y.w).1 y.h).1.cell 0
          have f1 : ∀ y : SubW F, y.w.cell? ⟨jb, 0, none⟩ = some (.int .i64 (j : Int)) := fun y => by simpa using ((hF y.w).1 y.h).2.1.cell 0
          have f2 : ∀ y : SubW F, y.w.cell? ⟨Bz, 1, none⟩ = some (.int .i64 (z.1 : Int)) := fun y => by simpa using ((hF y.w).1 y.h).2.2.1.cell 1
          have f3 : ∀ y : SubW F, (Instr.lookup 100 (.map (some (w.heap.size + 1))) (.agg #[.int .i64 (j : Int), .int .i64 (z.1 : Int)]) false).run Try.prog y.w = .ok (.int .i64 (pv : Int)) y.w := fun y => ((hF y.w).1 y.h).2.2.2
          have hme' : (Instr.mapEntry 100 (.map (some (w.heap.size + 1))) (.agg #[.int .i64 (j : Int), .int .i64 (z.1 : Int)])).run Try.prog V6.drew = .ok (.tuple #[.int .i64 (pv : Int), .int .i64 ((st : Nat) : Int)]) (putMap V6.drew (w.heap.size + 1) es1 cl1) := hme
          have hse' : (Instr.entryStore 100 (.map (some (w.heap.size + 1))) (.int .i64 ((st : Nat) : Int)) (.int .i64 ((pv : Int) + (q : Int)))).run Try.prog (putMap V6.drew (w.heap.size + 1) es1 cl1) = .ok () (putMap (putMap V6.drew (w.heap.size + 1) es1 cl1) (w.heap.size + 1) es2 cl1) := hse
          clear hme hse hl1 hl2' hF hq0
          gi_wp2
          refine wpIn_region_sched (C := fun w' => ∃ z : SubW F, w' = z.w) [(0, true), (1, true), (2, true), (3, true), (4, true), (5, true), (6, true), (7, true), (8, false), (9, true), (10, false)] (by kernel_rfl) (by kernel_rfl) (by kernel_rfl) ⟨⟨V6.drew, hF0⟩, rfl⟩ ?_
          refine sched_q (by rfl) (by rfl) ?_
          intro K hK
          go_big_quiet_op
          go_big_quiet_on
          refine sched_q (by rfl) (by rfl) ?_
          intro K hK
          go_big_quiet_op
          go_big_quiet_on
          refine sched_q (by rfl) (by rfl) ?_
          intro K hK
          go_big_quiet_op
          go_big_quiet_on
          refine sched_q (by rfl) (by rfl) ?_
          intro K hK
          go_big_quiet_op
          go_big_quiet_on
          refine sched_q (by rfl) (by rfl) ?_
          intro K hK
          go_big_quiet_op
          go_big_quiet_on
          refine sched_q (by rfl) (by rfl) ?_
          intro K hK
          go_big_quiet_op
          go_big_quiet_on
          refine sched_q (by rfl) (by rfl) ?_
          intro K hK
          go_big_quiet_op
          go_big_quiet_on
          refine sched_q (by rfl) (by rfl) ?_
          intro K hK
          go_big_quiet_op
          go_big_quiet_on
          refine sched_c (by rfl) (by rfl) ?_
          intro K hK
          go_wp2
          refine hK _ _ ⟨.inr ⟨⟨_, hF1⟩, rfl⟩, ?_⟩
          clear hK K
          refine sched_q (by rfl) (by rfl) ?_
          intro K hK
          go_big_quiet_op
          go_big_quiet_on
          refine sched_c (by rfl) (by rfl) ?_
          intro K hK
          go_wp2
          refine hK _ _ ⟨(by first | exact .inl rfl | exact .inl trivial), ?_⟩
          clear hK K
          refine sched_nil ?_
          have hgrT : V6.grownBy (putMap (putMap V6.drew (w.heap.size + 1) es1 cl1) (w.heap.size + 1) es2 cl1) (some (w.heap.size + 1)) := grown_trans' (grown_trans' (grown_call (Below.refl _ V6).drew _) hgr1) hgr2
          generalize putMap (putMap V6.drew (w.heap.size + 1) es1 cl1) (w.heap.size + 1) es2 cl1 = VF at *
          have hblk : ∀ k, k < V.heap.size → k ≠ w.heap.size + 1 → k ≠ x.ga → k ≠ x.gu → VF.heap[k]? = V.heap[k]? := fun k hk e0 e1 e2 => (hgrT.block k (Nat.lt_of_lt_of_le hk hCV.size) (fun e => e0 (by injection e with e; try exact e.symm))).trans (hCV.block k hk e1 e2)
          have hlo3 := k3.lo
          refine ⟨⟨Nat.le_trans hCV.size hgrT.size, fun k o hk ho hc => (hblk k (Array.getElem?_eq_some_iff.1 ho).1 (by omega) (by omega) (by omega)).trans ho⟩, ⟨Nat.le_trans hCV.size hgrT.size, fun k hk e1 e2 => hblk k (by omega) (by omega) e1 e2⟩,
            k1.grown hgrT (fun r e => by injection e with e; right; exact e.symm), k2.grown (by omega) hgrT (fun r e => by injection e; right; omega), k3.up hgrT ⟨lm2, cl1, hml2, fun a b => ?_⟩, k4.grown hgrT (fun e => by injection e; omega), Nat.le_trans k5 hgrT.size⟩
          rw [HM2.out, HADD.out, HMR.out]
        · have d5 : decide ((0 : Int) < (q : Int)) = false := by simp; omega
          have d5' : decide (0 < q) = false := by simpa using hq0
          have HS2 : Hid (∀ i k, pIn c j uu u ((ks ++ [z]).map (·.1)) i k = P i k) := fun i k => by
            rw [HSN.out]
            split <;> omega
          clear hq0
          gi_wp2
          exact ⟨⟨hCV.size, fun k o hk ho hc => (hCV.block k (Array.getElem?_eq_some_iff.1 ho).1 (by omega) (by omega)).trans ho⟩, ⟨hCV.size, fun k hk e1 e2 => hCV.block k (by omega) e1 e2⟩, k1, k2, k3.same HS2.out, k4, k5⟩
      case done2 =>
        rintro ks V hS ⟨h1, h2, h3, h4, h5⟩
        rw [hS] at h3
        have h6 : PrM w x c (pMid c j ((us ++ [(⟨u, hu⟩ : VUs c j)]).map (·.1))) jb j V := by
          rw [List.map_append, List.map_singleton, ← HUU.out]
          exact h3.same (fun i k => (HEND.out i k).symm)
        gi_wp2
        exact ⟨⟨h1.size, fun k o hk ho hc => (h1.block k (Array.getElem?_eq_some_iff.1 ho).1 (by omega) (by omega) (by omega)).trans ho⟩, ⟨h1.size, fun k hk e1 e2 => h1.block k (by omega) (by omega) e1 e2⟩, h2, h6⟩
    case done =>
      rintro D xs W hD hS ⟨hM', hi'⟩ hdf
      rw [hS] at hi'
      have hP' := hi'.p.same (P' := pOut c (j + 1)) (fun i k => (pMid_end c j i k).symm)
      have hMk := hM'.cons (W' := W) (D := D) (T' := W.heap.size) (by omega) (by omega) (Array.getElem?_eq_some_iff.1 hdf).1 hdf
      have hWl := (Array.getElem?_eq_some_iff.1 hdf).1
      have e2 : IntKind.i64.wrap ((j : Int) + 1) = (j : Int) + 1 := wrap_id _ (by omega) (by omega)
      clear hS hi' hM'
      go_wp2
      refine ⟨(stepsOf c).length - (j + 1), by omega, hJ _ _ _ ⟨_, _, _, _, _, _, _, _, _, _, _, _, _, _, _, _, _, _, _, _, _, _, _, _, _, _, _, _, _, _, _, _, _, _, _, _, j + 1, W.heap.size, _, ⟨rfl, by omega, Nat.le_refl _, by omega, hMk, hP'⟩, rfl⟩⟩
  · have hjn : j = (stepsOf c).length := by omega
    have d3 : decide (j < (stepsOf c).length) = false := by simp; omega
    have d3' : decide ((j : Int) < ((stepsOf c).length : Int)) = false := by simp; omega
    rw [hjn] at hP
    have o0 := hP.bo.cell 0
    simp at o0
    have hszw := hP.sz
    go_wp2
    show LeavesInM Fence.wide 8 Try.prog _ _ _ ds .returning wr
    refine Marks.leave (B := w.heap.size + 3) (T := T) (fun W' => PrW w x c (pOut c (stepsOf c).length) W') ?_ ?_ ds wr hM hP
    · rintro W' D hD1 hD2 h1
      exact h1.grown (grownBy_putObj' W' D (.deferred none)) (fun ρ e => by injection e; omega)
    · rintro W' h1
      exact ⟨.map (some (w.heap.size + 1)), by simp [results, Try.results56, go_sem], rfl, h1.mp, h1.tb, h1.ch, by have := h1.sz; omega⟩
end Go.Proofs.Ytjjjockfppomdaa
