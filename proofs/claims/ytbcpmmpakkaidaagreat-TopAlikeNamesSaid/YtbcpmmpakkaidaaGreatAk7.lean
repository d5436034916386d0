/- Contract of the law TopAlikeNames. -/
import Derived.Test.YtbcpmmpakkaidaaGreatAkP
import Derived.Test.YtbcpmmpakkaidaaGreatRfJM
import Derived.Test.YtbcpmmpakkaidaaGreatWrk7
namespace Go.Proofs.YtbcpmmpakkaidaaGreat
open Go.RowKit Go.Shelf
set_option linter.unusedVariables false
theorem slT_lk : SlT 30 35 3 24 (.agg #[.int .i64 0, .int .i64 0, .int .i64 0]) := ⟨Tryz.underlying30, by kernel_rfl, rfl, by omega⟩
set_option maxRecDepth 100000 in
set_option maxHeartbeats 6400000 in
theorem topAlike_go (v : Value) (b : List (Int × Int)) (p q : Nat) (w : World) (hv : BookV w w.heap.size v b) (hp : p < 256) (hq : q < 256) :
    Calls Tryz.prog 3 #[v, .agg #[.int .u8 p, .int .u8 q]] w fun r w' => r = .returned (.bool true) ∧ Below w.heap.size w w' := by
  obtain ⟨pa, pc, rfl, hpv⟩ := hv.open_
  have hC := BB.new hpv
  have hB := (Below.refl w.heap.size w).alloc (Nat.le_refl _) (.cells #[.slice pa b.length pc] 24)
  go_enter Tryz.func3, Tryz.ntmps3
  go_upto_region 1 with (fail)
  have hT := Blk.new (w.alloc (.cells #[.slice pa b.length pc] 24)) 25 #[.int .u8 p, .int .u8 q]
  have hbb := (Below.refl (w.alloc (.cells #[.slice pa b.length pc] 24)).heap.size (w.alloc (.cells #[.slice pa b.length pc] 24))).alloc (Nat.le_refl _) (.cells #[.int .u8 p, .int .u8 q] 25)
  replace hC := hC.call hbb
  replace hB := hB.trans (hbb.mono hB.size)
  have hz : (w.alloc (.cells #[.slice pa b.length pc] 24)).heap.size = w.heap.size + 1 := by simp
  rw [hz] at hT
  clear hbb hz hv
  generalize (w.alloc (.cells #[.slice pa b.length pc] 24)).alloc (.cells #[.int .u8 p, .int .u8 q] 25) = W at *
  have k0 := hC.c0
  by_cases h60 : 60 < b.length
  · have d1 : decide (60 < b.length) = true := decide_eq_true h60
    have d1' : decide ((60 : Int) < (b.length : Int)) = true := decide_eq_true (by omega)
    clear h60 hT hC
    go_wp2_with fail
    refine (w07_ok _).mono ?_
    rintro e wz ⟨rfl, hbz⟩
    have hBz := hB.trans (hbz.mono hB.size)
    go_wp2
    try rw [Exit.noGoto_ret]
    go_ret
    exact ⟨rfl, hBz⟩
  · have d1 : decide (60 < b.length) = false := decide_eq_false h60
    have d1' : decide ((60 : Int) < (b.length : Int)) = false := decide_eq_false (by omega)
    clear h60
    go_wp2_with fail
    refine (rcheckBook_ok _ b W hC.bv).mono ?_
    rintro e w1 ⟨rfl, hb⟩
    replace hC := hC.call hb
    replace hB := hB.trans (hb.mono hB.size)
    replace hT := hT.call hb
    clear hb k0
    by_cases h0 : checkBook b = 0
    rotate_left
    · have d0 : (checkBook b != 0) = true := by simpa using h0
      clear h0 hT hC
      go_wp2_with fail
      refine (w07_ok _).mono ?_
      rintro e wz ⟨rfl, hbz⟩
      have hBz := hB.trans (hbz.mono hB.size)
      go_wp2
      try rw [Exit.noGoto_ret]
      go_ret
      exact ⟨rfl, hBz⟩
    rw [h0]
    have hl40 := (book_len h0).1
    have HP := Lib.hid (fun z (hz : z ∈ b) => (book_len h0).2 z hz)
    have H0 := Lib.hid h0
    clear h0 d1 d1'
    go_wp2
    -- the two words
    obtain ⟨m, hpi, hm⟩ : ∃ m : Nat, (p : Int) % 39 = (m : Int) ∧ m < 39 := ⟨p % 39, by omega, by omega⟩
    obtain ⟨n, hqi, hn⟩ : ∃ n : Nat, (q : Int) % 39 = (n : Int) ∧ n < 39 := ⟨q % 39, by omega, by omega⟩
    have t0 := hT.cell 0
    have t1 := hT.cell 1
    simp at t0 t1
    obtain ⟨x, hx⟩ : ∃ x, x = 1 + m := ⟨_, rfl⟩
    obtain ⟨y, hy⟩ : ∃ y, y = 1 + n := ⟨_, rfl⟩
    have hx1 : 1 ≤ x ∧ x < 40 := by omega
    have hy1 : 1 ≤ y ∧ y < 40 := by omega
    have wp0 : IntKind.i64.wrap (p : Int) = (p : Int) := wrap_id _ (by omega) (by omega)
    have wq0 : IntKind.i64.wrap (q : Int) = (q : Int) := wrap_id _ (by omega) (by omega)
    have wx : IntKind.i64.wrap (1 + (m : Int)) = (x : Int) := by rw [wrap_id _ (by omega) (by omega)]; omega
    have wy : IntKind.i64.wrap (1 + (n : Int)) = (y : Int) := by rw [wrap_id _ (by omega) (by omega)]; omega
    have f0 := Ext.of t0
    have f1 := Ext.of t1
    clear hx hy hm hn
    refine wp_region_ext (by kernel_rfl) (by kernel_rfl) ?_
    repeat (go_big_quiet_step (fail))
    refine wpQuiet_nil ?_
    intro _ hw'
    obtain ⟨xr, hw''⟩ := hw'
    subst hw''
    have hb := xr.h
    replace hC := hC.call hb
    replace hB := hB.trans (hb.mono hB.size)
    generalize xr.w = w2 at *
    clear hb hT t0 t1 f0 f1 wp0 wq0 wx wy hpi hqi m n
    go_upto_region 5 with (fail)
    have hC0 := hC.blk.lt
    have hA := Blk.new w2 3 #[.int .i64 (x : Int)]
    have hb1 := (Below.refl w2.heap.size w2).alloc (Nat.le_refl _) (.cells #[.int .i64 (x : Int)] 3)
    replace hC := hC.call hb1
    replace hB := hB.trans (hb1.mono hB.size)
    have hs3 : (w2.alloc (.cells #[.int .i64 (x : Int)] 3)).heap.size = w2.heap.size + 1 := by simp
    obtain ⟨ga, hga⟩ : ∃ ga, ga = w2.heap.size := ⟨_, rfl⟩
    have hwl := hC0
    rw [← hga] at hA hs3 hwl ⊢
    generalize w2.alloc (.cells #[.int .i64 (x : Int)] 3) = w3 at *
    have hAb := Blk.new w3 3 #[.int .i64 (y : Int)]
    have hb2 := (Below.refl w3.heap.size w3).alloc (Nat.le_refl _) (.cells #[.int .i64 (y : Int)] 3)
    replace hC := hC.call hb2
    replace hA := hA.call hb2
    replace hB := hB.trans (hb2.mono hB.size)
    have hs4 : (w3.alloc (.cells #[.int .i64 (y : Int)] 3)).heap.size = ga + 1 + 1 := by simp [hs3]
    rw [hs3] at hAb
    generalize w3.alloc (.cells #[.int .i64 (y : Int)] 3) = w4 at *
    have hL := Blk.new w4 32 #[.int .i64 40, .slice none 0 0, .slice (some ⟨ga, 0, none⟩) 1 1, .slice (some ⟨ga + 1, 0, none⟩) 1 1]
    have hb3 := (Below.refl w4.heap.size w4).alloc (Nat.le_refl _) (.cells #[.int .i64 40, .slice none 0 0, .slice (some ⟨ga, 0, none⟩) 1 1, .slice (some ⟨ga + 1, 0, none⟩) 1 1] 32)
    replace hC := hC.call hb3
    replace hA := hA.call hb3
    replace hAb := hAb.call hb3
    replace hB := hB.trans (hb3.mono hB.size)
    rw [hs4] at hL
    generalize w4.alloc (.cells #[.int .i64 40, .slice none 0 0, .slice (some ⟨ga, 0, none⟩) 1 1, .slice (some ⟨ga + 1, 0, none⟩) 1 1] 32) = w5 at *
    clear hb1 hb2 hb3 hs3 hs4 hga w3 w4
    obtain ⟨gl, hgl⟩ : ∃ gl, gl = ga + 1 + 1 := ⟨_, rfl⟩
    rw [← hgl] at hL ⊢
    have hgl5 := hL.lt
    have HGL := Lib.hid hgl
    clear hgl
    go_upto_region 6 with (fail)
    have hown0 : w5.ownsRow w5.heap.size 35 3 (.slice none 0 0) 0 ((lksOf (b.take 0)).flatMap (cellsOf 3 lkcell)) := World.ownsRow_nil _ _ _ _
    go_loopw [8] (fun i wr => ∃ (k n : Nat) (yA : Option Addr) (yc : Nat), k ≤ b.length ∧ i = .int .i64 k ∧ Hid (n = (lksOf (b.take k)).length) ∧ Blk wr gl 32 #[.int .i64 40, .slice yA n yc, .slice (some ⟨ga, 0, none⟩) 1 1, .slice (some ⟨ga + 1, 0, none⟩) 1 1] ∧ wr.ownsRow w5.heap.size 35 3 (.slice yA n yc) n ((lksOf (b.take k)).flatMap (cellsOf 3 lkcell)) ∧ w5.grownBy wr (some gl) ∧ Hid (∀ z ∈ b.take k, z.1 < 40 ∧ z.2 < 40)) (fun i _ => b.length - (intOf i).toNat)
    case atStart => exact ⟨0, 0, none, 0, Nat.zero_le _, rfl, rfl, hL, hown0, World.grownBy.refl _ _, fun z hz => by simp at hz⟩
    case round =>
      clear hown0
      obtain ⟨k, n, yA, yc, hk, rfl, HN, hLr, hown, hgr, HS⟩ := hrel
      have hBr : Below w.heap.size w wr := ⟨hgr.os.trans hB.os, hgr.tape.trans hB.tape, hgr.output.trans hB.output, Nat.le_trans hB.size hgr.size, fun q hq => (hgr.block q (Nat.lt_of_lt_of_le hq hB.size) fun e => by have := HGL.out; injection e; omega).trans (hB.block q hq)⟩
      have hCr : BB wr w.heap.size b pa pc := ⟨hC.blk.grown hgr fun e => (by have := HGL.out; injection e; omega), (hpv.below hBr).more hBr.size⟩
      have hAr := hA.grown hgr fun e => by have := HGL.out; injection e; omega
      have hAbr := hAb.grown hgr fun e => by have := HGL.out; injection e; omega
      by_cases hlt : k < b.length
      · have d2 : decide (k < b.length) = true := decide_eq_true hlt
        have d2' : decide ((k : Int) < (b.length : Int)) = true := decide_eq_true (by omega)
        have hki : (k : Int) < (b.length : Int) := by omega
        have ek : IntKind.i64.wrap ((k : Int) + 1) = ((k + 1 : Nat) : Int) := wrap_id _ (by omega) (by omega)
        obtain ⟨xb, xo, s, t, rfl, hxb, hx1, c0, c1⟩ := cell2_at hCr.arr hlt
        have k0 := hCr.c0
        have f0 := Ext.of k0
        have f1 := Ext.of c0
        have f2 := Ext.of c1
        go_upto_region 8 with (fail)
        clear c0 c1 k0
        refine wp_region_ext (by kernel_rfl) (by kernel_rfl) ?_
        repeat (go_big_quiet_step (fail))
        refine wpQuiet_nil ?_
        intro _ hw'
        obtain ⟨xr, hw''⟩ := hw'
        subst hw''
        have hbd := xr.h
        clear f0 f1 f2
        have HP1 := HP.out (s, t) (List.mem_of_getElem? hx1)
        have htk : b.take (k + 1) = b.take k ++ [(s, t)] := by rw [List.take_add_one, hx1]; rfl
        have HTK := Lib.hid htk
        clear htk hx1
        have HST := Lib.hid HP1
        clear HP1
        -- what lies in this world lies in the next one
        have hownd := own_call hown hbd
        have hLd := hLr.call hbd
        have hgrd : w5.grownBy xr.w (some gl) := grown_below hgr (Below.mono hbd hgr.size)
        have hBd := hBr.trans (hbd.mono hBr.size)
        clear hown hLr hgr hbd hBr hCr hAr hAbr
        generalize xr.w = wd at *
        by_cases hm : 40 ≤ max s t
        · have d3 : decide ((40 : Int) ≤ max s t) = true := decide_eq_true hm
          replace hB := hBd
          clear hm hLd hownd hgrd
          go_wp2_with fail
          refine (w07_ok _).mono ?_
          rintro e wz ⟨rfl, hbz⟩
          have hBz := hB.trans (hbz.mono hB.size)
          go_wp2
          try rw [Exit.noGoto_ret]
          go_ret
          exact ⟨rfl, hBz⟩
        · have d3 : decide ((40 : Int) ≤ max s t) = false := decide_eq_false hm
          have hst40 : s < 40 ∧ t < 40 := by omega
          have HS2 : Hid (∀ z ∈ b.take (k + 1), z.1 < 40 ∧ z.2 < 40) := by
            rw [Hid, HTK.out]
            intro z hz
            rcases List.mem_append.1 hz with hz | hz
            · exact HS.out z hz
            · rw [List.mem_singleton] at hz
              subst hz
              exact hst40
          clear hm hst40
          by_cases hne : s = t
          · have d4 : (s != t) = false := by simp [hne]
            have HLK : Hid (lksOf (b.take (k + 1)) = lksOf (b.take k)) := by rw [Hid, HTK.out, lksOf_snoc, d4]; simp
            clear hne
            rw [← HLK.out] at hownd
            have HN2 : Hid (n = (lksOf (b.take (k + 1))).length) := by rw [Hid, HLK.out]; exact HN.out
            clear HLK HN HS HTK HST
            go_wp2
            go_roundw
            case rel => exact ⟨k + 1, n, yA, yc, by omega, by go_num, HN2, hLd, hownd, hgrd, HS2⟩
            case measure => (simp [intOf]; try omega)
          · have d4 : (s != t) = true := by simpa using hne
            have HLK : Hid (lksOf (b.take (k + 1)) = lksOf (b.take k) ++ [⟨s, t, 1⟩]) := by rw [Hid, HTK.out, lksOf_snoc, d4]; rfl
            clear hne
            have hn40 : n ≤ 40 := by
              rw [HN.out]
              have h1 := lksOf_len (b.take k)
              have h2 : (b.take k).length ≤ b.length := by rw [List.length_take]; omega
              omega
            have z0 := hLd.cell 1
            have z1 := hLd.frozen 1
            simp at z0
            have hszd : w5.heap.size ≤ wd.heap.size := hgrd.size
            go_wp2_with (at_builtin; refine wpList_app2 slT_lk rfl (.tmp 77) (.tmp 81) rfl (sv := .slice yA n yc) rfl hownd rfl rfl one_3 hszd ?_ ?_ ?_)
            any_goals omega
            intro v4 w4 hown4 hg4 hat4
            have hLd4 : Blk w4 gl 32 _ := hLd.grown hg4 fun e => by have := (hownd.lt _ e.symm).1; omega
            have hgr4 : w5.grownBy w4 (some gl) := ⟨hg4.os.trans hgrd.os, hg4.tape.trans hgrd.tape, hg4.output.trans hgrd.output, Nat.le_trans hgrd.size hg4.size, fun q hq hr => (hg4.block q (Nat.lt_of_lt_of_le hq hgrd.size) fun e => by have := (hownd.lt _ e.symm).1; omega).trans (hgrd.block q hq hr)⟩
            have hown5 : w4.ownsRow w5.heap.size 35 3 v4 (n + 1) ((lksOf (b.take (k + 1))).flatMap (cellsOf 3 lkcell)) := by
              rw [HLK.out, List.flatMap_append]
              exact hown4
            have HN2 : Hid (n + 1 = (lksOf (b.take (k + 1))).length) := by rw [Hid, HLK.out, List.length_append, ← HN.out]; rfl
            obtain ⟨yA4, yc4, rfl⟩ := own_form hown5
            have z2 := hLd4.cell 1
            have z3 := hLd4.frozen 1
            simp at z2
            have hL5 := hLd4.set_ 1 (.slice yA4 (n + 1) yc4)
            have hgr5 : w5.grownBy (w4.setCell ⟨gl, 1, none⟩ (.slice yA4 (n + 1) yc4)) (some gl) := grown_trans' hgr4 (grown_setCell _)
            have hown6 := own_low (b := gl) (o := 1) (y := .slice yA4 (n + 1) yc4) hown5 hgl5
            clear hown4 hg4 hat4 hownd hLd hgrd hLd4 hgr4 hown5 z0 z1 HLK HN HS HTK HST
            go_wp2
            go_roundw
            case rel => exact ⟨k + 1, n + 1, yA4, yc4, by omega, by go_num, HN2, by simpa using hL5, hown6, hgr5, HS2⟩
            case measure => (simp [intOf]; try omega)
      · obtain rfl : k = b.length := by omega
        have d2 : decide (b.length < b.length) = false := by simp
        rw [List.take_length] at HN HS hown
        have hnl : n = (nlA b x y).links.length := HN.out
        subst hnl
        have hAx : Arr wr wr.heap.size 1 (.slice (some ⟨ga, 0, none⟩) (nlA b x y).left.length 1) (nlA b x y).left icell := Arr.lit hAr hAr.lt rfl (by simp [nlA]) (by omega) (by simp [nlA, cellsOf, List.range_succ])
        have hAy : Arr wr wr.heap.size 1 (.slice (some ⟨ga + 1, 0, none⟩) (nlA b x y).right.length 1) (nlA b x y).right icell := Arr.lit hAbr hAbr.lt rfl (by simp [nlA]) (by omega) (by simp [nlA, cellsOf, List.range_succ])
        have hE : NB wr gl (nlA b x y) yA yc (some ⟨ga, 0, none⟩) 1 (some ⟨ga + 1, 0, none⟩) 1 := ⟨hLr, ⟨Arr.of_own hown, hAx, hAy⟩⟩
        clear hLr hown hgr hAr hAbr hAx hAy hA hAb hL hC hB HN hk hlt
        replace hB := hBr
        replace hC := hCr
        clear hBr hCr
        have k0 := hC.c0
        have h1 := alikeP_ok _ b x y wr hC.bv
        rw [ak_alike H0.out hx1.1 hx1.2 hy1.1 hy1.2] at h1
        go_wp2_with fail
        refine h1.mono ?_
        rintro e w6 ⟨rfl, hb⟩
        replace hE := hE.call hb
        replace hC := hC.call hb
        replace hB := hB.trans (hb.mono hB.size)
        clear h1 hb k0
        by_cases hxy : x = y
        · subst hxy
          rw [ak_self]
          have e5 : (((x : Int)) == (x : Int)) = true := by simp
          clear hE hC
          go_wp2_with fail
          refine (w07_ok _).mono ?_
          rintro e wz ⟨rfl, hbz⟩
          have hBz := hB.trans (hbz.mono hB.size)
          go_wp2
          try rw [Exit.noGoto_ret]
          go_ret
          exact ⟨rfl, hBz⟩
        · have hI : AkIn b x y := ⟨H0.out, HS.out, hx1.1, hx1.2, hy1.1, hy1.2, hxy⟩
          have e5 : ((x : Int) == (y : Int)) = false := beq_eq_false_iff_ne.2 (by omega)
          have HG := Lib.hid (fun (g : List Int) (hg : g ∈ grpL (nlA b x y) []) (hx : g.contains (x : Int) = true) => ak_groups hI hg hx)
          have HK := Lib.hid (fun (c : List Int) (hc : chkC (nlA b x y) [] c = 0) => ak_links hI hc)
          have hch := ak_chain hI
          have hco := ak_cost hI
          have hop := hI.open_
          have hck := check_good.2 hI.good
          have HAK := Lib.hid (fun (n : Nat) (h1 : 1 ≤ n) (h2 : n < 40) => ak_alike (b := b) (x := x) (y := n) H0.out hx1.1 hx1.2 h1 h2)
          clear hxy
          cases hak : akB b x y <;> rw [hak] at hch hco HG <;> clear hak
          all_goals
            simp only [Bool.false_eq_true, if_false, if_true] at hch
            have h1 := groups_ok _ (.slice none 0 0) (nlA b x y) [] w6 hE.v Arr.nil_
            rw [hop] at h1
            obtain ⟨k0, k1, k2, k3⟩ := hE.blk.c4
            go_wp2_with fail
            refine (h1).mono ?_
            rintro e w7 hp
            clear k0 k1 k2 k3
            obtain ⟨gv, rfl, hG, hb⟩ := hp
            replace hE := hE.call hb
            replace hB := hB.trans ((hb).mono hB.size)
            replace hC := hC.call hb
            clear hb h1
            have h1 := chain_ok _ (.slice none 0 0) (nlA b x y) [] w7 hE.v Arr.nil_
            rw [hch] at h1
            obtain ⟨k0, k1, k2, k3⟩ := hE.blk.c4
            go_wp2_with fail
            refine (h1).mono ?_
            rintro e w8 hp
            clear k0 k1 k2 k3
            obtain ⟨cv, c, rfl, hcc, hcA, hb⟩ := hp
            replace hE := hE.call hb
            replace hB := hB.trans ((hb).mono hB.size)
            replace hC := hC.call hb
            replace hG := hG.call hb
            clear hb h1
            have h1 := least_ok _ (nlA b x y) w8 hE.v
            rw [hck] at h1
            obtain ⟨k0, k1, k2, k3⟩ := hE.blk.c4
            go_wp2_with fail
            refine (h1).mono ?_
            rintro e w9 hp
            clear k0 k1 k2 k3
            obtain ⟨sv, rfl, -, hb⟩ := hp
            replace hE := hE.call hb
            replace hB := hB.trans ((hb).mono hB.size)
            replace hC := hC.call hb
            replace hG := hG.call hb
            replace hcA := hcA.call hb
            clear hb h1 hop hck
            obtain ⟨gA, gc, rfl, hgl1, hgl2⟩ := hG.form
            obtain ⟨cA, cc, rfl, hcl1, hcl2, -⟩ := id hcA
            have HCC := Lib.hid hcc
            clear hcc
            generalize lstC (nlA b x y) = cost at *
            generalize grpL (nlA b x y) [] = gs at *
          · go_wp2
            go_loopw [20] (fun i wr => ∃ k : Nat, k ≤ gs.length ∧ i = .int .i64 k ∧ Below w9.heap.size w9 wr) (fun i _ => gs.length - (intOf i).toNat)
            case atStart => exact ⟨0, Nat.zero_le _, rfl, Below.refl _ _⟩
            case round =>
              obtain ⟨i, hi, rfl, hr⟩ := hrel
              have hGr := hG.call hr
              by_cases hil : i < gs.length
              · have d3 : decide (i < gs.length) = true := decide_eq_true hil
                have d3' : decide ((i : Int) < (gs.length : Int)) = true := decide_eq_true (by omega)
                have hii : (i : Int) < (gs.length : Int) := by omega
                have ei : IntKind.i64.wrap ((i : Int) + 1) = ((i + 1 : Nat) : Int) := by rw [IntKind.wrap_i64]; omega
                obtain ⟨gi, hgi⟩ : ∃ gi, gs[i]? = some gi := ⟨_, List.getElem?_eq_getElem hil⟩
                have hmem := HG.out gi (List.mem_of_getElem? hgi)
                obtain ⟨gb, go, eA, ec, rfl, hgb, c0, hE2⟩ := hGr.at_ hgi
                have q1 := rin_ok _ gi (x : Int) wr hE2
                have q2 := rin_ok _ gi (y : Int) wr hE2
                cases hx0 : gi.contains (x : Int)
                · rw [hx0] at q1
                  clear hmem hx0 q2
                  go_wp2_with fail
                  refine q1.mono ?_
                  rintro e wx ⟨rfl, rfl⟩
                  clear q1
                  go_wp2
                  go_roundw
                  case rel => exact ⟨i + 1, by omega, by go_num, hr⟩
                  case measure => (simp [intOf]; try omega)
                · rw [hmem hx0] at q2
                  rw [hx0] at q1
                  clear hmem hx0
                  go_wp2_with fail
                  refine q1.mono ?_
                  rintro e wx ⟨rfl, rfl⟩
                  clear q1
                  go_wp2_with fail
                  refine q2.mono ?_
                  rintro e wx ⟨rfl, rfl⟩
                  clear q2
                  go_wp2
                  go_roundw
                  case rel => exact ⟨i + 1, by omega, by go_num, hr⟩
                  case measure => (simp [intOf]; try omega)
              · obtain rfl : i = gs.length := by omega
                have d3 : decide (gs.length < gs.length) = false := by simp
                replace hB := hB.trans (hr.mono hB.size)
                clear hr hGr hG hE hC hcA
                go_wp2_with fail
                refine (w07_ok _).mono ?_
                rintro e wz ⟨rfl, hbz⟩
                have hBz := hB.trans (hbz.mono hB.size)
                go_wp2
                try rw [Exit.noGoto_ret]
                go_ret
                exact ⟨rfl, hBz⟩
          · go_wp2
            go_loopw [20] (fun i wr => ∃ k : Nat, k ≤ gs.length ∧ i = .int .i64 k ∧ Below w9.heap.size w9 wr) (fun i _ => gs.length - (intOf i).toNat)
            case atStart => exact ⟨0, Nat.zero_le _, rfl, Below.refl _ _⟩
            case round =>
              obtain ⟨i, hi, rfl, hr⟩ := hrel
              have hGr := hG.call hr
              by_cases hil : i < gs.length
              · have d3 : decide (i < gs.length) = true := decide_eq_true hil
                have d3' : decide ((i : Int) < (gs.length : Int)) = true := decide_eq_true (by omega)
                have hii : (i : Int) < (gs.length : Int) := by omega
                have ei : IntKind.i64.wrap ((i : Int) + 1) = ((i + 1 : Nat) : Int) := by rw [IntKind.wrap_i64]; omega
                obtain ⟨gi, hgi⟩ : ∃ gi, gs[i]? = some gi := ⟨_, List.getElem?_eq_getElem hil⟩
                have hmem := HG.out gi (List.mem_of_getElem? hgi)
                obtain ⟨gb, go, eA, ec, rfl, hgb, c0, hE2⟩ := hGr.at_ hgi
                have q1 := rin_ok _ gi (x : Int) wr hE2
                have q2 := rin_ok _ gi (y : Int) wr hE2
                cases hx0 : gi.contains (x : Int)
                · rw [hx0] at q1
                  clear hmem hx0 q2
                  go_wp2_with fail
                  refine q1.mono ?_
                  rintro e wx ⟨rfl, rfl⟩
                  clear q1
                  go_wp2
                  go_roundw
                  case rel => exact ⟨i + 1, by omega, by go_num, hr⟩
                  case measure => (simp [intOf]; try omega)
                · rw [hmem hx0] at q2
                  rw [hx0] at q1
                  clear hmem hx0
                  go_wp2_with fail
                  refine q1.mono ?_
                  rintro e wx ⟨rfl, rfl⟩
                  clear q1
                  go_wp2_with fail
                  refine q2.mono ?_
                  rintro e wx ⟨rfl, rfl⟩
                  clear q2
                  go_wp2
                  go_roundw
                  case rel => exact ⟨i + 1, by omega, by go_num, hr⟩
                  case measure => (simp [intOf]; try omega)
              · obtain rfl : i = gs.length := by omega
                have d3 : decide (gs.length < gs.length) = false := by simp
                replace hB := hB.trans (hr.mono hB.size)
                replace hE := hE.call hr
                replace hC := hC.call hr
                replace hcA := hcA.call hr
                have HCI := Lib.hid (HK.out c (HCC.out.2 hch))
                have HCK := Lib.hid (HCC.out.2 hch)
                obtain ⟨wo, rfl⟩ : ∃ wo, wo = wr := ⟨_, rfl⟩
                clear hr hGr hG hch HG HCC
                go_wp2
                go_loopw [21] (fun i wr => ∃ k : Nat, k ≤ c.length ∧ i = .int .i64 k ∧ Below wo.heap.size wo wr) (fun i _ => c.length - (intOf i).toNat)
                case atStart => exact ⟨0, Nat.zero_le _, rfl, Below.refl _ _⟩
                case round =>
                  obtain ⟨i, hi, rfl, hr⟩ := hrel
                  by_cases hil : i < c.length
                  · have d4 : decide (i < c.length) = true := decide_eq_true hil
                    have d4' : decide ((i : Int) < (c.length : Int)) = true := decide_eq_true (by omega)
                    have hii : (i : Int) < (c.length : Int) := by omega
                    have ei : IntKind.i64.wrap ((i : Int) + 1) = ((i + 1 : Nat) : Int) := by rw [IntKind.wrap_i64]; omega
                    have hCr := hC.call hr
                    obtain ⟨eb, eo, z, rfl, heb, hz, c1⟩ := numx_at (hcA.call hr) hil
                    obtain ⟨n, rfl, hn1, hn2, hn3⟩ := HCI.out z (List.mem_of_getElem? hz)
                    have hal := HAK.out n hn1 hn2
                    rw [hn3] at hal
                    have HA : Hid (∀ y : Ext wr, Calls Tryz.prog 6 #[.agg #[.slice pa b.length pc], .int .i64 (x : Int), .int .i64 (n : Int)] y.w fun r w' => r = .returned (.tuple #[.bool true, .int .i64 0]) ∧ ∃ z : Ext wr, w' = z.w) := fun y => ext_call y (by
                      have := alikeP_ok _ b x n y.w (hCr.call y.h).bv
                      rw [hal] at this
                      exact this)
                    have k0 := hCr.c0
                    have f0 := Ext.of k0
                    have f1 := Ext.of c1
                    clear hz hal hn1 hn2 hn3
                    go_upto_region 31 with (fail)
                    clear c1 k0
                    refine wp_region_ext (by kernel_rfl) (by kernel_rfl) ?_
                    repeat (go_big_quiet_step ((go_at_call 6; with_reducible exact HA.out _)))
                    refine wpQuiet_nil ?_
                    intro _ hw'
                    obtain ⟨xr, hw''⟩ := hw'
                    subst hw''
                    have hr2 := hr.trans (xr.h.mono hr.size)
                    go_wp2
                    go_roundw
                    case rel => exact ⟨i + 1, by omega, by go_num, hr2⟩
                    case measure => (simp [intOf]; try omega)
                  · obtain rfl : i = c.length := by omega
                    have d4 : decide (c.length < c.length) = false := by simp
                    replace hB := hB.trans (hr.mono hB.size)
                    replace hE := hE.call hr
                    replace hcA := hcA.call hr
                    clear hr hC
                    obtain ⟨k0, k1, k2, k3⟩ := hE.blk.c4
                    have h1 := rcheckChain_ok _ (.slice none 0 0) _ (nlA b x y) [] c _ hE.v Arr.nil_ hcA
                    rw [HCK.out] at h1
                    obtain ⟨k0, k1, k2, k3⟩ := hE.blk.c4
                    go_wp2_with fail
                    refine (h1).mono ?_
                    rintro e wv hp
                    clear k0 k1 k2 k3
                    obtain ⟨rfl, hb⟩ := hp
                    replace hE := hE.call hb
                    replace hB := hB.trans ((hb).mono hB.size)
                    clear hb h1 hE hcA
                    go_wp2_with fail
                    refine (w07_ok _).mono ?_
                    rintro e wz ⟨rfl, hbz⟩
                    have hBz := hB.trans (hbz.mono hB.size)
                    go_wp2
                    try rw [Exit.noGoto_ret]
                    go_ret
                    exact ⟨rfl, hBz⟩
theorem topAlike_ok (v : Value) (b : List (Int × Int)) (x : Fin 256 × Fin 256) (w : World) (hv : BookV w w.heap.size v b) :
    Calls Tryz.prog 3 #[v, .agg #[.int .u8 x.1.val, .int .u8 x.2.val]] w fun r w' => r = .returned (.bool true) ∧ Below w.heap.size w w' := topAlike_go v b x.1.val x.2.val w hv x.1.isLt x.2.isLt
end Go.Proofs.YtbcpmmpakkaidaaGreat
