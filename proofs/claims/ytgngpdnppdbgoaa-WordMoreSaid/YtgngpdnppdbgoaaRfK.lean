/- Contract of the reference: AllLongest. -/
import Derived.Test.YtgngpdnppdbgoaaRfJ
namespace Go.Proofs.Ytgngpdnppdbgoaa
open Go.RowKit Go.Shelf
set_option linter.unusedVariables false

/-- passages of so many matches -/
def chO (b : List (Int × Int)) (ls : List (List Int)) (f : Nat) : List (List (List Nat)) := chains (matsOf b ls) (befL ls) f none
def extO (b : List (Int × Int)) (ls : List (List Int)) (p : List (List Nat)) (j : Nat) : List (List (List Nat)) := (((matsOf b ls).take j).filter (aft (befL ls) (lastO none p))).map fun y => p ++ [y]
theorem chO_next (b : List (Int × Int)) (ls : List (List Int)) (f : Nat) : chO b ls (f + 1) = (chO b ls f).flatMap fun p => extO b ls p (matsOf b ls).length := by
  unfold chO extO
  rw [chains_next]
  congr 1
  funext p
  rw [List.take_length]
  rfl
theorem chO_mem {b : List (Int × Int)} {ls : List (List Int)} {f : Nat} {p : List (List Nat)} (h : p ∈ chO b ls f) : p.length = f ∧ ∀ m ∈ p, m ∈ matsOf b ls := by
  obtain ⟨h1, h2⟩ := mem_chains.1 h
  exact ⟨h1, h2.mem⟩
theorem chO_small {b : List (Int × Int)} {ls : List (List Int)} (hg : Good b ls) (h16 : (matsOf b ls).length ≤ 16) (f : Nat) : (chO b ls f).length ≤ 65536 := by
  have hL := levOf hg
  exact Nat.le_trans (chains_small hL.ir _ hL.ord f none) (Nat.le_trans (Nat.pow_le_pow_right (by omega) h16) (by decide))
theorem extO_succ (b : List (Int × Int)) (ls : List (List Int)) (p : List (List Nat)) {j : Nat} (hj : j < (matsOf b ls).length) : extO b ls p (j + 1) = extO b ls p j ++ if aft (befL ls) (lastO none p) (xAt b ls j) = true then [p ++ [xAt b ls j]] else [] := by
  unfold extO
  rw [take_snoc (x := xAt b ls j) (getD_some [] hj), List.filter_append, List.map_append]
  congr 1
  rw [List.filter_cons]
  split
  · rfl
  · rfl
theorem extO_len (b : List (Int × Int)) (ls : List (List Int)) (p : List (List Nat)) (j : Nat) : (extO b ls p j).length ≤ j := by
  unfold extO
  rw [List.length_map]
  refine Nat.le_trans (List.length_filter_le _ _) ?_
  rw [List.length_take]
  exact Nat.min_le_left _ _
theorem BuiltV.row {w0 W : World} {te : TypeId} {v : Value} {xs : List VV} (h : BuiltV w0 W te v xs) {i : Nat} {x : VV} (hi : xs[i]? = some x) : Arr W W.heap.size 1 x.1 x.2 vcell := by
  obtain ⟨bb, cap, t, g1, g2, g3, g4, g5⟩ := h.el _ (List.mem_of_getElem? hi)
  rw [g1]
  exact g4.arr rfl g2 g3
theorem HdOf.one {w : World} {A : Option Addr} {ms : List (List Nat)} {hd : List Nat → Value} (h : HdOf w A ms hd) {m : List Nat} (hm : m ∈ ms) : (hd m).oneCell' = true := by
  obtain ⟨A', c, e, -⟩ := h.arr m hm
  rw [e]
  rfl

set_option maxRecDepth 100000 in
set_option maxHeartbeats 12800000 in
theorem rallLong_ok (v lv : Value) (b : List (Int × Int)) (ls : List (List Int)) (w : World) (hv : BookV w w.heap.size v b) (hl : LLi w lv ls) (h0 : checkLines b ls = 0) (h16 : (matsOf b ls).length ≤ 16) :
    Calls Try.prog 73 #[v, lv] w fun r w' => ∃ A c, r = .returned (.slice A (longOf b ls).length c) ∧ LLL w' (.slice A (longOf b ls).length c) ((longOf b ls).map iLL) ∧ Below w.heap.size w w' := by
  obtain ⟨pa, pc, rfl, hp⟩ := hv.open_
  obtain ⟨la, lc, rfl, -, -⟩ := hl.form
  have hG := good_of h0
  have HG := Lib.hid hG
  have H16 := Lib.hid h16
  have hC := BB.new hp
  have hB := (Below.refl w.heap.size w).alloc (Nat.le_refl _) (.cells #[.slice pa b.length pc] 24)
  go_enter Try.func73, Try.ntmps73
  go_upto_region 1 with (fail)
  generalize w.alloc (.cells #[.slice pa b.length pc] 24) = W at *
  have hl0 := (hl.below hB).more hB.size
  have hr := rall_ok _ _ b ls W hC.bv hl0 h0
  have k0 := hC.c0
  clear hp hv hl h0 hl0 hG
  obtain ⟨n, hn⟩ : ∃ n, n = (matsOf b ls).length := ⟨_, rfl⟩
  have HNN := Lib.hid hn
  rw [← hn] at hr h16
  clear hn
  go_wp2_with fail
  refine hr.mono ?_
  rintro e w1 ⟨lA, lcc, rfl, hll, hb1⟩
  have hB1 := hB.trans (hb1.mono hB.size)
  obtain ⟨hd, hH⟩ := hd_of hll (levOf HG.out).nd
  clear hC hB hb1 k0 hr hll
  go_upto_region 3 with (fail)
  have q1 := (Below.refl w1.heap.size w1).alloc (Nat.le_refl _) (.cells #[] 40)
  have z1 : (w1.alloc (.cells #[] 40)).heap.size = w1.heap.size + 1 := by simp
  have x1 := Blk.new w1 40 #[]
  generalize w1.alloc (.cells #[] 40) = v1 at *
  have hown := own_lit v1 #[.slice (some ⟨w1.heap.size, 0, none⟩) 0 0] 31 1 rfl
  have q2 := (Below.refl v1.heap.size v1).alloc (Nat.le_refl _) (.cells #[.slice (some ⟨w1.heap.size, 0, none⟩) 0 0] 31)
  have x2 := x1.call q2
  generalize v1.alloc (.cells #[.slice (some ⟨w1.heap.size, 0, none⟩) 0 0] 31) = v2 at *
  rw [z1] at hown
  have hb2 : Below w1.heap.size w1 v2 := q1.trans (q2.mono (by omega))
  have hbt : BuiltV w1 v2 31 (.slice (some ⟨w1.heap.size + 1, 0, none⟩) 1 1) [((.slice (some ⟨w1.heap.size, 0, none⟩) 0 0, []) : VV)] := by
    refine ⟨own_mono (by simpa using hown) (Nat.le_succ _), fun x hx => ?_, hb2⟩
    rw [List.mem_singleton] at hx
    subst hx
    refine ⟨w1.heap.size, 0, 40, rfl, Nat.zero_le _, by omega, ⟨⟨#[], x2, fun i y hy => by simp at hy⟩⟩, fun e => ?_⟩
    simp only [Value.ownBlock, Option.some.injEq] at e
    omega
  clear x1 x2 q1 q2 hown z1 hb2
  generalize w1.heap.size + 1 = ob0 at *
  have hm8 := mostOf_le HG.out
  have hmpos := HG.out.two
  go_wp2
  go_loopg [6] (mostOf b ls) (fun g d wr => ∃ (f : Nat) (xs : List VV) (A : Option Addr) (cap : Nat), f + g = mostOf b ls ∧ d = .slice A xs.length cap ∧ Hid (xs.map (·.2) = (chO b ls f).map fun p => p.map hd) ∧ BuiltV w1 wr 31 (.slice A xs.length cap) xs)
  case atStart => exact ⟨0, [((.slice (some ⟨w1.heap.size, 0, none⟩) 0 0, []) : VV)], some ⟨ob0, 0, none⟩, 1, by omega, rfl, rfl, hbt⟩
  case round =>
    clear hbt
    obtain ⟨f, xs, A, cap, hfg, rfl, hxs, hbx⟩ := hrel
    have HXL : Hid (xs.length = (chO b ls f).length) := by
      have := congrArg List.length hxs.out
      rw [Hid]
      rwa [List.length_map, List.length_map] at this
    have hx6 : xs.length ≤ 65536 := by rw [HXL.out]; exact chO_small HG.out H16.out f
    have HFG := Lib.hid hfg
    have HF8 : Hid (f ≤ 8) := by rw [Hid]; omega
    clear hfg
    obtain ⟨wo, hwo⟩ : ∃ wo : World, wo = wr := ⟨_, rfl⟩
    rw [← hwo] at hbx ⊢
    clear hwo
    go_wp2
    go_loopw [7, 8] (fun o i wr => ∃ (k : Nat) (ys : List VV), k ≤ xs.length ∧ i = .int .i64 k ∧ Hid (ys.map (·.2) = (((chO b ls f).take k).flatMap fun p => extO b ls p n).map fun p => p.map hd) ∧ BuiltV w1 wr 31 o ys ∧ BuiltV w1 wr 31 (.slice A xs.length cap) xs ∧ ApartV o (.slice A xs.length cap) xs) (fun _ i _ => xs.length - (intOf i).toNat)
    case atStart => exact ⟨0, [], Nat.zero_le _, rfl, rfl, ⟨by simpa using World.ownsRow_nil _ _ _ _, (fun x hx => by cases hx), hbx.bl⟩, hbx, ApartV.nil_ _ _⟩
    case round =>
      clear hbx
      obtain ⟨k, ys, hk, rfl, hys, hby, hbx, hap⟩ := hrel
      by_cases hkl : k < xs.length
      · have d2 : decide (k < xs.length) = true := decide_eq_true hkl
        have d2' : decide ((k : Int) < (xs.length : Int)) = true := decide_eq_true (by omega)
        have hki2 : (k : Int) < (xs.length : Int) := by omega
        have hkc : k < (chO b ls f).length := by rw [← HXL.out]; exact hkl
        obtain ⟨p, hp⟩ : ∃ p, (chO b ls f)[k]? = some p := ⟨_, List.getElem?_eq_getElem hkc⟩
        obtain ⟨hpl, hpm⟩ := chO_mem (List.mem_of_getElem? hp)
        obtain ⟨x, hx⟩ : ∃ x, xs[k]? = some x := ⟨_, List.getElem?_eq_getElem hkl⟩
        have hx2 : x.2 = p.map hd := by
          have := congrArg (·[k]?) hxs.out
          simp only [List.getElem?_map, hp, hx, Option.map_some, Option.some.injEq] at this
          exact this
        obtain ⟨L, hL⟩ : ∃ L, L = p.map hd := ⟨_, rfl⟩
        obtain ⟨xb, xo, bb, pcap, hxA, hxb, hxc, hx1, -⟩ := hbx.at_ hx
        subst hxA
        have HROW : Hid (∀ W', BuiltV w1 W' 31 (.slice (some ⟨xb, xo, none⟩) xs.length cap) xs → Arr W' W'.heap.size 1 (.slice (some ⟨bb, 0, none⟩) L.length pcap) L vcell) := fun W' h => by
          have := h.row hx
          rw [hx1, hx2, ← hL] at this
          exact this
        rw [hx2, ← hL] at hxc
        have HL := Lib.hid hL
        have HLL : Hid (L.length = p.length) := by rw [Hid, hL, List.length_map]
        have HL8 : Hid (L.length ≤ 8) := by rw [HLL.out, hpl]; exact HF8.out
        have HPM := Lib.hid hpm
        have HT1 : Hid (((chO b ls f).take (k + 1)).flatMap (fun p => extO b ls p n) = ((chO b ls f).take k).flatMap (fun p => extO b ls p n) ++ extO b ls p n) := by
          rw [Hid, take_snoc hp, List.flatMap_append, List.flatMap_singleton]
        have HPL : Hid ((((chO b ls f).take k).flatMap fun p => extO b ls p n).length ≤ 65536) := by
          refine Nat.le_trans (flatMap_take_len _ _ k) ?_
          rw [HNN.out, ← chO_next]
          exact chO_small HG.out H16.out (f + 1)
        generalize ((chO b ls f).take k).flatMap (fun p => extO b ls p n) = Pre at *
        clear hp hpl hpm hx hx1 hx2 hL
        obtain ⟨wo, hwo⟩ : ∃ wo : World, wo = wr := ⟨_, rfl⟩
        rw [← hwo] at hby hbx hxb hxc ⊢
        clear hwo
        go_wp2
        go_loopw [7, 10] (fun o i wr => ∃ (j : Nat) (zs : List VV), j ≤ n ∧ i = .int .i64 j ∧ Hid (zs.map (·.2) = (Pre ++ extO b ls p j).map fun p => p.map hd) ∧ BuiltV w1 wr 31 o zs ∧ BuiltV w1 wr 31 (.slice (some ⟨xb, xo, none⟩) xs.length cap) xs ∧ ApartV o (.slice (some ⟨xb, xo, none⟩) xs.length cap) xs) (fun _ i _ => n - (intOf i).toNat)
        case atStart => exact ⟨0, ys, Nat.zero_le _, rfl, by rw [Hid, hys.out]; simp [extO], hby, hbx, hap⟩
        case round =>
          clear hys hby hbx hap
          obtain ⟨j, zs, hj, rfl, hzs, hbz, hbx, hap⟩ := hrel
          by_cases hjn : j < n
          · have d3 : decide (j < n) = true := decide_eq_true hjn
            have d3' : decide ((j : Int) < (n : Int)) = true := decide_eq_true (by omega)
            have hji : (j : Int) < (n : Int) := by omega
            have hjm : j < (matsOf b ls).length := by rw [← HNN.out]; exact hjn
            obtain ⟨lb, lo, hlA, hlb, hlc⟩ := hH.at_ j hjm
            subst hlA
            change w1.cell? ⟨lb, lo + j, none⟩ = some (hd (xAt b ls j)) at hlc
            have hxm := xAt_mem hjm
            obtain ⟨hdx, hhx⟩ : ∃ v, v = hd (xAt b ls j) := ⟨_, rfl⟩
            rw [← hhx] at hlc
            have HSU := Lib.hid (extO_succ b ls p hjm)
            have HXN := Lib.hid (matches_len hxm)
            obtain ⟨xA, xcap, hxe, -⟩ := id (hH.arr _ hxm)
            rw [← hhx] at hxe
            have HXA := Lib.hid (hH.arr _ hxm)
            have HON : Hid (hdx.oneCell' = true) := by rw [hhx]; exact hH.one hxm
            rw [← hhx] at HXA
            subst hxe
            have HZL : Hid (zs.length ≤ 65560) := by
              have h1 := congrArg List.length hzs.out
              rw [List.length_map, List.length_map, List.length_append] at h1
              have h3 := extO_len b ls p j
              have h5 := HPL.out
              rw [Hid]
              omega
            have HNX : Hid (((Pre ++ extO b ls p (j + 1)).map fun p => p.map hd) = zs.map (·.2) ++ if aft (befL ls) (lastO none p) (xAt b ls j) = true then [L ++ [(.slice xA (iL (xAt b ls j)).length xcap)]] else []) := by
              rw [Hid, HSU.out, ← List.append_assoc, List.map_append, hzs.out]
              congr 1
              split
              · simp [HL.out, hhx]
              · rfl
            clear hhx hzs HSU hxm
            obtain ⟨wq, hwq⟩ : ∃ wq : World, wq = wr := ⟨_, rfl⟩
            rw [← hwq] at hbz hbx ⊢
            clear hwq
            go_upto_region 11 with (fail)
            go_cut [47] from 32 to 48 (fun g wx => g = .bool (aft (befL ls) (lastO none p) (xAt b ls j)) ∧ Below wq.heap.size wq wx)
            case first =>
              have f0 := Ext.of ((hbx.bl.cell (p := ⟨lb, lo + j, none⟩) hlb).trans hlc)
              rcases List.eq_nil_or_concat p with hp0 | ⟨p', z, hp0⟩
              · have hL0 : L.length = 0 := by rw [HLL.out, hp0]; rfl
                have d4 : ((L.length : Int) == 0) = true := by rw [beq_iff_eq]; omega
                have HSO : Hid (aft (befL ls) (lastO none p) (xAt b ls j) = true) := by rw [Hid, hp0]; rfl
                clear hp0 hL0 hlc
                refine wp_region_ext (by kernel_rfl) (by kernel_rfl) ?_
                repeat (go_big_quiet_step (fail))
                refine wpQuiet_nil ?_
                intro _ hw'
                obtain ⟨xr, hw''⟩ := hw'
                subst hw''
                go_wp2
                go_meet
                case rel => exact ⟨by rw [HSO.out], xr.h⟩
              · rw [List.concat_eq_append] at hp0
                obtain ⟨i0, hi0⟩ : ∃ i0, L.length = i0 + 1 := ⟨p'.length, by rw [HLL.out, hp0]; simp⟩
                have hLz : L[i0]? = some (hd z) := by
                  have : i0 = p'.length := by rw [HLL.out, hp0, List.length_append, List.length_singleton] at hi0; omega
                  rw [HL.out, hp0, List.map_append, List.getElem?_append_right (by rw [List.length_map]; omega), List.length_map, this, Nat.sub_self]
                  rfl
                have hzm : z ∈ matsOf b ls := HPM.out z (by rw [hp0]; simp)
                have HZN := Lib.hid (matches_len hzm)
                have HZA := Lib.hid (hH.arr _ hzm)
                obtain ⟨xb', xo', y, e1, hxb', hy1, hy2⟩ := (HROW.out _ hbx).at_ (k := i0) (by omega)
                injection e1 with e1
                injection e1 with e1 e2
                subst e1 e2
                rw [hLz] at hy1
                injection hy1 with hy1
                subst hy1
                have c0 := hy2 0 (by omega)
                simp only [Nat.zero_add, Nat.mul_one, Nat.add_zero, vcell] at c0
                have HSO : Hid (aft (befL ls) (lastO none p) (xAt b ls j) = befL ls z (xAt b ls j)) := by rw [Hid, hp0]; simp [lastO, aft]
                obtain ⟨hdz, hhz⟩ : ∃ v, v = hd z := ⟨_, rfl⟩
                rw [← hhz] at c0 HZA
                have f1 := Ext.of c0
                have d4 : ((L.length : Int) == 0) = false := beq_false_of_ne (by omega)
                have ej : IntKind.i64.wrap ((L.length : Int) - 1) = (i0 : Int) := by have := HL8.out; rw [IntKind.wrap_i64]; omega
                have hij : (i0 : Int) < (L.length : Int) := by omega
                have HI0 := Lib.hid hi0
                have HA : Hid (∀ y : Ext wq, Calls Try.prog 65 #[hdz, .slice xA (iL (xAt b ls j)).length xcap] y.w fun r w' => r = .returned (.bool (befL ls z (xAt b ls j))) ∧ ∃ z : Ext wq, w' = z.w) := fun y => by
                  have hbw := hbx.bl.trans (y.h.mono hbx.bl.size)
                  have := ext_call y (rbefore_ok _ _ (iL z) (iL (xAt b ls j)) y.w ((HZA.out.below hbw).more hbw.size) ((HXA.out.below hbw).more hbw.size) (by rw [iL_len, iL_len, HZN.out, HXN.out]; exact Nat.le_refl _))
                  rw [rbef_iL HZN.out] at this
                  exact this
                clear hp0 hi0 hLz c0 hy2 hhz hlc hzm
                refine wp_region_ext (by kernel_rfl) (by kernel_rfl) ?_
                repeat (go_big_quiet_step ((go_at_call 65; with_reducible exact HA.out _)))
                refine wpQuiet_nil ?_
                intro _ hw'
                obtain ⟨xr, hw''⟩ := hw'
                subst hw''
                go_wp2
                go_meet
                case rel => exact ⟨by rw [HSO.out], xr.h⟩
            case rest =>
              obtain ⟨rfl, hb⟩ := hcut
              replace hbz := hbz.call hb
              replace hbx := hbx.call hb
              obtain ⟨W4, hW4⟩ : ∃ W4 : World, W4 = wc := ⟨_, rfl⟩
              rw [← hW4] at hbz hbx ⊢
              clear hW4 hb wq
              cases hso : aft (befL ls) (lastO none p) (xAt b ls j)
              · have HN : Hid (zs.map (·.2) = (Pre ++ extO b ls p (j + 1)).map fun p => p.map hd) := by rw [Hid, HNX.out, hso]; simp
                clear hso
                go_wp2
                go_roundw
                case rel => exact ⟨j + 1, zs, by omega, by go_num, HN, hbz, hbx, hap⟩
                case measure => (simp [intOf]; try omega)
              · have HN : Hid (zs.map (·.2) ++ [L ++ [(.slice xA (iL (xAt b ls j)).length xcap)]] = (Pre ++ extO b ls p (j + 1)).map fun p => p.map hd) := by rw [Hid, HNX.out, hso]; simp
                have HONE : Hid (∀ u ∈ L.flatMap (cellsOf 1 vcell), u.oneCell' = true) := fun u hu => by
                  rw [flat_v, HL.out, List.mem_map] at hu
                  obtain ⟨m, hm, rfl⟩ := hu
                  exact hH.one (HPM.out m hm)
                have HONE1 : Hid (∀ u ∈ [(.slice xA (iL (xAt b ls j)).length xcap)].flatMap (cellsOf 1 vcell), u.oneCell' = true) := fun u hu => by
                  rw [flat_v, List.mem_singleton] at hu
                  rw [hu]
                  rfl
                obtain ⟨wq, hwq⟩ : ∃ wq : World, wq = W4 := ⟨_, rfl⟩
                rw [← hwq] at hbz hbx ⊢
                clear hso hwq W4
                have f0 := Ext.of hlc
                have hla3 := HROW.out _ hbx
                have HX : Hid (∀ {w' : World}, Below wq.heap.size wq w' → Below w1.heap.size w1 w') := fun {w'} h => hbx.bl.trans (h.mono hbx.bl.size)
                clear hlc
                go_upto_region 12 with (fail)
                have hx : Below wq.heap.size wq wq.drew := (Below.refl wq.heap.size wq).drew
                refine ways_start 13 (fun w' => ∃ x : Ext w1, w' = x.w) (by rfl) (by kernel_rfl) ?_
                generalize wq.drew = v0 at *
                refine ways_q 0 (by rfl) (by rfl) (by kernel_rfl) (by kernel_rfl) (by kernel_rfl) (by rfl) ⟨⟨v0, HX.out hx⟩, rfl⟩ ?_
                intro K hK
                go_big_quiet_op
                go_big_quiet_on
                refine ways_q 2 (by rfl) (by rfl) (by kernel_rfl) (by kernel_rfl) (by kernel_rfl) (by rfl) ⟨⟨v0, HX.out hx⟩, rfl⟩ ?_
                intro K hK
                go_big_quiet_op
                go_big_quiet_on
                refine ways_q 4 (by rfl) (by rfl) (by kernel_rfl) (by kernel_rfl) (by kernel_rfl) (by rfl) ⟨⟨v0, HX.out hx⟩, rfl⟩ ?_
                intro K hK
                go_big_quiet_op
                go_big_quiet_on
                refine ways_q 5 (by rfl) (by rfl) (by kernel_rfl) (by kernel_rfl) (by kernel_rfl) (by rfl) ⟨⟨v0, HX.out hx⟩, rfl⟩ ?_
                intro K hK
                go_big_quiet_op
                go_big_quiet_on
                refine ways_q 6 (by rfl) (by rfl) (by kernel_rfl) (by kernel_rfl) (by kernel_rfl) (by rfl) ⟨⟨v0, HX.out hx⟩, rfl⟩ ?_
                intro K hK
                go_big_quiet_op
                go_big_quiet_on
                refine ways_q 7 (by rfl) (by rfl) (by kernel_rfl) (by kernel_rfl) (by kernel_rfl) (by rfl) ⟨⟨v0, HX.out hx⟩, rfl⟩ ?_
                intro K hK
                go_big_quiet_op
                go_big_quiet_on
                refine ways_2 1 8 (by kernel_rfl) ?_ ?_
                · refine ⟨_, _, (by rfl), (by rfl), ?_⟩
                  intro K' hK'
                  go_wp2
                  have hown := own_empty v0 wq.heap.size 40 1 hx.size
                  have hbb := (Below.refl (v0).heap.size v0).alloc (Nat.le_refl _) (.cells #[] 40)
                  have hgs : (v0).heap.size < ((v0).alloc (.cells #[] 40)).heap.size := by simp
                  replace hx := hx.trans (hbb.mono hx.size)
                  skip
                  generalize (v0).alloc (.cells #[] 40) = v1 at *
                  generalize (v0).heap.size = eb at *
                  refine hK' _ _ ⟨⟨⟨v1, HX.out hx⟩, rfl⟩, ?_⟩
                  clear hK' K' hbb
                  refine ways_2 3 8 (by kernel_rfl) ?_ ?_
                  · refine ⟨_, _, (by rfl), (by rfl), ?_⟩
                    intro K' hK'
                    refine wpList_appArr (sv := .slice (some ⟨eb, 0, none⟩) 0 0) slT_wm rfl (.tmp 49) (.tmp 50) rfl rfl hown rfl (hla3.below hx) HONE.out hx.size (by have := HL8.out; omega) (by omega) ?_
                    intro v' v2 hown2 hb2 hgr
                    rw [Nat.zero_add, List.nil_append, flat_v] at hown2
                    obtain ⟨A3, cap3, rfl⟩ := own_form hown2
                    replace hx := hx.trans hb2
                    skip
                    clear hown hgr hb2
                    go_wp2
                    refine hK' _ _ ⟨⟨⟨v2, HX.out hx⟩, rfl⟩, ?_⟩
                    clear hK' K'
                    refine ways_1 8 (by kernel_rfl) ?_
                    refine ⟨_, _, (by rfl), (by rfl), ?_⟩
                    intro K' hK'
                    go_wp2
                    have hs1 := Blk.new v2 40 #[(Value.slice xA (iL (xAt b ls j)).length xcap)]
                    have hbb := (Below.refl (v2).heap.size v2).alloc (Nat.le_refl _) (.cells #[(Value.slice xA (iL (xAt b ls j)).length xcap)] 40)
                    have hgs2 : (v2).heap.size < ((v2).alloc (.cells #[(Value.slice xA (iL (xAt b ls j)).length xcap)] 40)).heap.size := by simp
                    replace hx := hx.trans (hbb.mono hx.size)
                    replace hown2 := own_call hown2 hbb
                    generalize (v2).alloc (.cells #[(Value.slice xA (iL (xAt b ls j)).length xcap)] 40) = v3 at *
                    generalize (v2).heap.size = sx at *
                    refine hK' _ _ ⟨⟨⟨v3, HX.out hx⟩, rfl⟩, ?_⟩
                    clear hK' K' hbb
                    refine ways_1 9 (by kernel_rfl) ?_
                    refine ⟨_, _, (by rfl), (by rfl), ?_⟩
                    intro K' hK'
                    have harr1 : Arr v3 (v3).heap.size 1 (.slice (some ⟨sx, 0, none⟩) 1 1) [(Value.slice xA (iL (xAt b ls j)).length xcap)] vcell := Arr.lit hs1 hs1.lt rfl (by simp) (by omega) (by simp [cellsOf, List.range_succ, vcell])
                    refine wpList_appArr (l := [(Value.slice xA (iL (xAt b ls j)).length xcap)]) slT_wm rfl (.tmp 51) (.tmp 56) rfl rfl hown2 rfl harr1 HONE1.out hx.size (by have := HL8.out; simp; omega) (by omega) ?_
                    intro v5 u5 hown3 hb3 hgr3
                    rw [flat_v] at hown3
                    obtain ⟨nb, ncap, rfl, hn1, hn2, hRS, hnb⟩ := rowv_own hown3 (by simp) (by simp)
                    replace hx := hx.trans hb3
                    clear hown3 hgr3 hb3 hown2 harr1 hs1
                    go_wp2
                    refine hK' _ _ ⟨⟨⟨u5, HX.out hx⟩, rfl⟩, ?_⟩
                    clear hK' K'
                    have hbz5 := hbz.call hx
                    have hbx5 := hbx.call hx
                    have hne5 : Hid (u7.ownBlock ≠ some nb) := fun e => by have := (hbz.own.lt nb e).2; omega
                    have hsz5 := hbz5.bl.size
                    refine ways_1 10 (by kernel_rfl) ?_
                    refine ⟨_, _, (by rfl), (by rfl), ?_⟩
                    intro K' hK'
                    go_wp2
                    refine hK' _ _ ⟨⟨⟨_, HX.out (hx.alloc hx.size _)⟩, rfl⟩, ?_⟩
                    clear hK' K'
                    refine ways_1 11 (by kernel_rfl) ?_
                    refine ⟨_, _, (by rfl), (by rfl), ?_⟩
                    intro K' hK'
                    refine wpList_app2 slT_wms rfl (.tmp 48) (.tmp 58) rfl (sv := u7) rfl hbz5.own rfl rfl one_sl hsz5 (by have := HZL.out; omega) (by omega) ?_
                    intro v7 w7 hown7 hg7 hat7
                    have hbz7 := hbz5.app hRS hn1 hn2 hne5.out (by simpa using hown7) hg7 hat7
                    obtain ⟨hbx7, hap7⟩ := hbx5.beside hbz5.own hap hg7 hat7
                    clear hown7 hg7 hat7 hbz5 hbx5 hap hRS hbz hbx hx
                    go_wp2
                    refine hK' _ _ ⟨⟨⟨w7, hbz7.bl⟩, rfl⟩, ?_⟩
                    clear hK' K'
                    refine ways_q 12 (by rfl) (by rfl) (by kernel_rfl) (by kernel_rfl) (by kernel_rfl) (by rfl) ⟨⟨w7, hbz7.bl⟩, rfl⟩ ?_
                    intro K hK
                    go_big_quiet_op
                    go_big_quiet_on
                    refine ways_end (by kernel_rfl) ?_
                    clear f0
                    go_wp2
                    go_roundw
                    case rel => exact ⟨j + 1, zs ++ [(.slice (some ⟨nb, 0, none⟩) (L ++ [(Value.slice xA (iL (xAt b ls j)).length xcap)]).length ncap, L ++ [(Value.slice xA (iL (xAt b ls j)).length xcap)])], by omega, by go_num, by rw [Hid, ← HN.out]; simp, hbz7, hbx7, hap7⟩
                    case measure => (simp [intOf]; try omega)
                  · refine ⟨_, _, (by rfl), (by rfl), ?_⟩
                    intro K' hK'
                    go_wp2
                    have hs1 := Blk.new v1 40 #[(Value.slice xA (iL (xAt b ls j)).length xcap)]
                    have hbb := (Below.refl (v1).heap.size v1).alloc (Nat.le_refl _) (.cells #[(Value.slice xA (iL (xAt b ls j)).length xcap)] 40)
                    have hgs2 : (v1).heap.size < ((v1).alloc (.cells #[(Value.slice xA (iL (xAt b ls j)).length xcap)] 40)).heap.size := by simp
                    replace hx := hx.trans (hbb.mono hx.size)
                    replace hown := own_call hown hbb
                    generalize (v1).alloc (.cells #[(Value.slice xA (iL (xAt b ls j)).length xcap)] 40) = v2 at *
                    generalize (v1).heap.size = sx at *
                    refine hK' _ _ ⟨⟨⟨v2, HX.out hx⟩, rfl⟩, ?_⟩
                    clear hK' K' hbb
                    refine ways_1 3 (by kernel_rfl) ?_
                    refine ⟨_, _, (by rfl), (by rfl), ?_⟩
                    intro K' hK'
                    refine wpList_appArr (sv := .slice (some ⟨eb, 0, none⟩) 0 0) slT_wm rfl (.tmp 49) (.tmp 50) rfl rfl hown rfl (hla3.below hx) HONE.out hx.size (by have := HL8.out; omega) (by omega) ?_
                    intro v' v3 hown2 hb2 hgr
                    rw [Nat.zero_add, List.nil_append, flat_v] at hown2
                    obtain ⟨A3, cap3, rfl⟩ := own_form hown2
                    replace hx := hx.trans hb2
                    replace hs1 := hs1.grown hgr (fun e => absurd (show sx = eb by simpa [Value.ownBlock] using e) (by omega))
                    clear hown hgr hb2
                    go_wp2
                    refine hK' _ _ ⟨⟨⟨v3, HX.out hx⟩, rfl⟩, ?_⟩
                    clear hK' K'
                    refine ways_1 9 (by kernel_rfl) ?_
                    refine ⟨_, _, (by rfl), (by rfl), ?_⟩
                    intro K' hK'
                    have harr1 : Arr v3 (v3).heap.size 1 (.slice (some ⟨sx, 0, none⟩) 1 1) [(Value.slice xA (iL (xAt b ls j)).length xcap)] vcell := Arr.lit hs1 hs1.lt rfl (by simp) (by omega) (by simp [cellsOf, List.range_succ, vcell])
                    refine wpList_appArr (l := [(Value.slice xA (iL (xAt b ls j)).length xcap)]) slT_wm rfl (.tmp 51) (.tmp 56) rfl rfl hown2 rfl harr1 HONE1.out hx.size (by have := HL8.out; simp; omega) (by omega) ?_
                    intro v5 u5 hown3 hb3 hgr3
                    rw [flat_v] at hown3
                    obtain ⟨nb, ncap, rfl, hn1, hn2, hRS, hnb⟩ := rowv_own hown3 (by simp) (by simp)
                    replace hx := hx.trans hb3
                    clear hown3 hgr3 hb3 hown2 harr1 hs1
                    go_wp2
                    refine hK' _ _ ⟨⟨⟨u5, HX.out hx⟩, rfl⟩, ?_⟩
                    clear hK' K'
                    have hbz5 := hbz.call hx
                    have hbx5 := hbx.call hx
                    have hne5 : Hid (u7.ownBlock ≠ some nb) := fun e => by have := (hbz.own.lt nb e).2; omega
                    have hsz5 := hbz5.bl.size
                    refine ways_1 10 (by kernel_rfl) ?_
                    refine ⟨_, _, (by rfl), (by rfl), ?_⟩
                    intro K' hK'
                    go_wp2
                    refine hK' _ _ ⟨⟨⟨_, HX.out (hx.alloc hx.size _)⟩, rfl⟩, ?_⟩
                    clear hK' K'
                    refine ways_1 11 (by kernel_rfl) ?_
                    refine ⟨_, _, (by rfl), (by rfl), ?_⟩
                    intro K' hK'
                    refine wpList_app2 slT_wms rfl (.tmp 48) (.tmp 58) rfl (sv := u7) rfl hbz5.own rfl rfl one_sl hsz5 (by have := HZL.out; omega) (by omega) ?_
                    intro v7 w7 hown7 hg7 hat7
                    have hbz7 := hbz5.app hRS hn1 hn2 hne5.out (by simpa using hown7) hg7 hat7
                    obtain ⟨hbx7, hap7⟩ := hbx5.beside hbz5.own hap hg7 hat7
                    clear hown7 hg7 hat7 hbz5 hbx5 hap hRS hbz hbx hx
                    go_wp2
                    refine hK' _ _ ⟨⟨⟨w7, hbz7.bl⟩, rfl⟩, ?_⟩
                    clear hK' K'
                    refine ways_q 12 (by rfl) (by rfl) (by kernel_rfl) (by kernel_rfl) (by kernel_rfl) (by rfl) ⟨⟨w7, hbz7.bl⟩, rfl⟩ ?_
                    intro K hK
                    go_big_quiet_op
                    go_big_quiet_on
                    refine ways_end (by kernel_rfl) ?_
                    clear f0
                    go_wp2
                    go_roundw
                    case rel => exact ⟨j + 1, zs ++ [(.slice (some ⟨nb, 0, none⟩) (L ++ [(Value.slice xA (iL (xAt b ls j)).length xcap)]).length ncap, L ++ [(Value.slice xA (iL (xAt b ls j)).length xcap)])], by omega, by go_num, by rw [Hid, ← HN.out]; simp, hbz7, hbx7, hap7⟩
                    case measure => (simp [intOf]; try omega)
                · refine ⟨_, _, (by rfl), (by rfl), ?_⟩
                  intro K' hK'
                  go_wp2
                  have hs1 := Blk.new v0 40 #[(Value.slice xA (iL (xAt b ls j)).length xcap)]
                  have hbb := (Below.refl (v0).heap.size v0).alloc (Nat.le_refl _) (.cells #[(Value.slice xA (iL (xAt b ls j)).length xcap)] 40)
                  have hgs2 : (v0).heap.size < ((v0).alloc (.cells #[(Value.slice xA (iL (xAt b ls j)).length xcap)] 40)).heap.size := by simp
                  replace hx := hx.trans (hbb.mono hx.size)
                  skip
                  generalize (v0).alloc (.cells #[(Value.slice xA (iL (xAt b ls j)).length xcap)] 40) = v1 at *
                  generalize (v0).heap.size = sx at *
                  refine hK' _ _ ⟨⟨⟨v1, HX.out hx⟩, rfl⟩, ?_⟩
                  clear hK' K' hbb
                  refine ways_1 1 (by kernel_rfl) ?_
                  refine ⟨_, _, (by rfl), (by rfl), ?_⟩
                  intro K' hK'
                  go_wp2
                  have hown := own_empty v1 wq.heap.size 40 1 hx.size
                  have hbb := (Below.refl (v1).heap.size v1).alloc (Nat.le_refl _) (.cells #[] 40)
                  have hgs : (v1).heap.size < ((v1).alloc (.cells #[] 40)).heap.size := by simp
                  replace hx := hx.trans (hbb.mono hx.size)
                  replace hs1 := hs1.call hbb
                  generalize (v1).alloc (.cells #[] 40) = v2 at *
                  generalize (v1).heap.size = eb at *
                  refine hK' _ _ ⟨⟨⟨v2, HX.out hx⟩, rfl⟩, ?_⟩
                  clear hK' K' hbb
                  refine ways_1 3 (by kernel_rfl) ?_
                  refine ⟨_, _, (by rfl), (by rfl), ?_⟩
                  intro K' hK'
                  refine wpList_appArr (sv := .slice (some ⟨eb, 0, none⟩) 0 0) slT_wm rfl (.tmp 49) (.tmp 50) rfl rfl hown rfl (hla3.below hx) HONE.out hx.size (by have := HL8.out; omega) (by omega) ?_
                  intro v' v3 hown2 hb2 hgr
                  rw [Nat.zero_add, List.nil_append, flat_v] at hown2
                  obtain ⟨A3, cap3, rfl⟩ := own_form hown2
                  replace hx := hx.trans hb2
                  replace hs1 := hs1.grown hgr (fun e => absurd (show sx = eb by simpa [Value.ownBlock] using e) (by omega))
                  clear hown hgr hb2
                  go_wp2
                  refine hK' _ _ ⟨⟨⟨v3, HX.out hx⟩, rfl⟩, ?_⟩
                  clear hK' K'
                  refine ways_1 9 (by kernel_rfl) ?_
                  refine ⟨_, _, (by rfl), (by rfl), ?_⟩
                  intro K' hK'
                  have harr1 : Arr v3 (v3).heap.size 1 (.slice (some ⟨sx, 0, none⟩) 1 1) [(Value.slice xA (iL (xAt b ls j)).length xcap)] vcell := Arr.lit hs1 hs1.lt rfl (by simp) (by omega) (by simp [cellsOf, List.range_succ, vcell])
                  refine wpList_appArr (l := [(Value.slice xA (iL (xAt b ls j)).length xcap)]) slT_wm rfl (.tmp 51) (.tmp 56) rfl rfl hown2 rfl harr1 HONE1.out hx.size (by have := HL8.out; simp; omega) (by omega) ?_
                  intro v5 u5 hown3 hb3 hgr3
                  rw [flat_v] at hown3
                  obtain ⟨nb, ncap, rfl, hn1, hn2, hRS, hnb⟩ := rowv_own hown3 (by simp) (by simp)
                  replace hx := hx.trans hb3
                  clear hown3 hgr3 hb3 hown2 harr1 hs1
                  go_wp2
                  refine hK' _ _ ⟨⟨⟨u5, HX.out hx⟩, rfl⟩, ?_⟩
                  clear hK' K'
                  have hbz5 := hbz.call hx
                  have hbx5 := hbx.call hx
                  have hne5 : Hid (u7.ownBlock ≠ some nb) := fun e => by have := (hbz.own.lt nb e).2; omega
                  have hsz5 := hbz5.bl.size
                  refine ways_1 10 (by kernel_rfl) ?_
                  refine ⟨_, _, (by rfl), (by rfl), ?_⟩
                  intro K' hK'
                  go_wp2
                  refine hK' _ _ ⟨⟨⟨_, HX.out (hx.alloc hx.size _)⟩, rfl⟩, ?_⟩
                  clear hK' K'
                  refine ways_1 11 (by kernel_rfl) ?_
                  refine ⟨_, _, (by rfl), (by rfl), ?_⟩
                  intro K' hK'
                  refine wpList_app2 slT_wms rfl (.tmp 48) (.tmp 58) rfl (sv := u7) rfl hbz5.own rfl rfl one_sl hsz5 (by have := HZL.out; omega) (by omega) ?_
                  intro v7 w7 hown7 hg7 hat7
                  have hbz7 := hbz5.app hRS hn1 hn2 hne5.out (by simpa using hown7) hg7 hat7
                  obtain ⟨hbx7, hap7⟩ := hbx5.beside hbz5.own hap hg7 hat7
                  clear hown7 hg7 hat7 hbz5 hbx5 hap hRS hbz hbx hx
                  go_wp2
                  refine hK' _ _ ⟨⟨⟨w7, hbz7.bl⟩, rfl⟩, ?_⟩
                  clear hK' K'
                  refine ways_q 12 (by rfl) (by rfl) (by kernel_rfl) (by kernel_rfl) (by kernel_rfl) (by rfl) ⟨⟨w7, hbz7.bl⟩, rfl⟩ ?_
                  intro K hK
                  go_big_quiet_op
                  go_big_quiet_on
                  refine ways_end (by kernel_rfl) ?_
                  clear f0
                  go_wp2
                  go_roundw
                  case rel => exact ⟨j + 1, zs ++ [(.slice (some ⟨nb, 0, none⟩) (L ++ [(Value.slice xA (iL (xAt b ls j)).length xcap)]).length ncap, L ++ [(Value.slice xA (iL (xAt b ls j)).length xcap)])], by omega, by go_num, by rw [Hid, ← HN.out]; simp, hbz7, hbx7, hap7⟩
                  case measure => (simp [intOf]; try omega)
          · obtain rfl : n = j := by omega
            have d3 : decide (n < n) = false := by simp
            have HZS : Hid (zs.map (·.2) = (Pre ++ extO b ls p n).map fun p => p.map hd) := hzs
            rw [← HT1.out] at HZS
            clear hzs
            go_wp2
            go_roundw
            case rel => exact ⟨k + 1, zs, by omega, by go_num, HZS, hbz, hbx, hap⟩
            case measure => (simp [intOf]; try omega)
      · obtain rfl : xs.length = k := by omega
        have d2 : decide (xs.length < xs.length) = false := by simp
        have HYS : Hid (ys.map (·.2) = (chO b ls (f + 1)).map fun p => p.map hd) := by
          have := hys.out
          rw [HXL.out, List.take_length, HNN.out, ← chO_next] at this
          exact this
        have HYL : Hid (ys.length = (chO b ls (f + 1)).length) := by
          have := congrArg List.length HYS.out
          rw [Hid]
          rwa [List.length_map, List.length_map] at this
        obtain ⟨yA, yc, rfl, -, -⟩ := hby.form
        have HMO := Lib.hid ((levOf HG.out).more (f := f))
        clear hys
        by_cases hy0 : ys.length = 0
        · have d4 : ((ys.length : Int) == 0) = true := by rw [beq_iff_eq]; omega
          have hmf : mostOf b ls ≤ f := HMO.out.1 (List.length_eq_zero_iff.1 (by rw [← hy0, HYL.out]; rfl))
          have hfm : f = mostOf b ls := by have := HFG.out; omega
          have HLO : Hid (chO b ls f = longOf b ls) := by rw [hfm]; rfl
          have hxl : xs.length = (longOf b ls).length := by rw [HXL.out, HLO.out]
          have hx3 := hxs.out
          rw [HLO.out] at hx3
          have hfin := hbx.lll (hH.call hbx.bl) (P := longOf b ls) (fun p hp => (long_iff.1 hp).2.mem) hx3
          rw [hxl] at hfin
          have hbf := hB1.trans (hbx.bl.mono hB1.size)
          clear hx3 hmf hfm hy0 hxs hbx hby hap
          go_wp2
          rw [hxl]
          go_ret
          exact ⟨A, cap, by rfl, hfin, hbf⟩
        · have d4 : ((ys.length : Int) == 0) = false := beq_false_of_ne (by omega)
          have hmf : f + 1 ≤ mostOf b ls := by
            apply Nat.lt_of_not_le
            intro hle
            have := HMO.out.2 hle
            apply hy0
            rw [HYL.out]
            unfold chO
            rw [this]
            rfl
          have hfg2 := HFG.out
          clear hy0 hbx hap
          go_wp2
          go_roundg (gk - 1)
          case measure => omega
          case rel => exact ⟨f + 1, ys, yA, yc, by omega, rfl, HYS, hby⟩
end Go.Proofs.Ytgngpdnppdbgoaa
