/- Contract of the law NameMore. -/
import Derived.Test.YtpkccmohlcndgaaNaR
namespace Go.Proofs.Ytpkccmohlcndgaa
open Go.RowKit Go.Shelf
set_option linter.unusedVariables false

theorem slT_l3 : SlT 22 60 3 24 (.agg #[.int .i64 0, .int .i64 0, .int .i64 0]) := ⟨Try.underlying22, by kernel_rfl, rfl, by omega⟩
theorem one_lks (l : List LkI) : ∀ u ∈ l.flatMap (cellsOf 3 lkcell), u.oneCell' = true := by
  intro u hu
  simp only [List.mem_flatMap, cellsOf, List.mem_map, List.mem_range] at hu
  obtain ⟨p, _, j, hj, rfl⟩ := hu
  have : j = 0 ∨ j = 1 ∨ j = 2 := by omega
  rcases this with rfl | rfl | rfl <;> rfl
theorem own_grown {W W' : World} {base : Nat} {e : TypeId} {size n : Nat} {v : Value} {xs : List Value} {row : Option Nat} (h : W.ownsRow base e size v n xs) (hg : W.grownBy W' row) (hr : ∀ r, row = some r → v.ownBlock ≠ some r) : W'.ownsRow base e size v n xs := by
  refine h.kept hg ?_
  cases ho : v.ownBlock with
  | none => exact .inl rfl
  | some b => exact .inr fun e => hr b e.symm ho
theorem Blk.put4 {w : World} {g : Nat} {t : TypeId} {x0 x1 x2 x3 : Value} (h : Blk w g t #[x0, x1, x2, x3]) (a b c d : Value) :
    Blk ((((w.setCell ⟨g, 0, none⟩ a).setCell ⟨g, 1, none⟩ b).setCell ⟨g, 2, none⟩ c).setCell ⟨g, 3, none⟩ d) g t #[a, b, c, d] := by
  have := (((h.set_ 0 a).set_ 1 b).set_ 2 c).set_ 3 d
  simpa using this
theorem below_put4 {B : Nat} {v w : World} {g o1 o2 o3 o4 : Nat} (h : Below B v w) (hB : B ≤ g) (a b c d : Value) :
    Below B v ((((w.setCell ⟨g, o1, none⟩ a).setCell ⟨g, o2, none⟩ b).setCell ⟨g, o3, none⟩ c).setCell ⟨g, o4, none⟩ d) :=
  (((h.setCell (p := ⟨g, o1, none⟩) hB a).setCell (p := ⟨g, o2, none⟩) hB b).setCell (p := ⟨g, o3, none⟩) hB c).setCell (p := ⟨g, o4, none⟩) hB d
theorem grown_put4 {w : World} {g o1 o2 o3 o4 : Nat} (a b c d : Value) : w.grownBy ((((w.setCell ⟨g, o1, none⟩ a).setCell ⟨g, o2, none⟩ b).setCell ⟨g, o3, none⟩ c).setCell ⟨g, o4, none⟩ d) (some g) :=
  grown_trans' (grown_trans' (grown_trans' (grown_setCell a) (grown_setCell b)) (grown_setCell c)) (grown_setCell d)
theorem nb_add {w : World} {g base : Nat} {l : NL} {mo : LkI} {ka kb aa ba : Option Addr} {kc cap ac bc : Nat} (hb : Blk w g 25 #[.int .i64 l.n, .slice ka (l.links.length + 1) kc, .slice aa l.left.length ac, .slice ba l.right.length bc])
    (ho : w.ownsRow base 60 3 (.slice ka (l.links.length + 1) kc) (l.links.length + 1) ((l.links ++ [mo]).flatMap (cellsOf 3 lkcell))) (hn : NA w w.heap.size l kb cap aa ac ba bc) : NB w g (addN l mo) ka kc aa ac ba bc := by
  have e : (addN l mo).links.length = l.links.length + 1 := by simp [addN]
  refine ⟨by rw [e]; exact hb, ?_, hn.as_, hn.bs⟩
  have := Arr.of_own (w := w) (base := base) (e := 60) (size := 3) (v := .slice ka (l.links.length + 1) kc) (l := l.links ++ [mo]) (cell := lkcell) (by simpa using ho)
  rw [e]
  exact this
theorem arr_more {w : World} {B n c b off k : Nat} {ls : List LkI} {x : LkI} {t : Int} (h : Arr w B 3 (.slice (some ⟨b, off, none⟩) n c) ls lkcell) (hk : ls[k]? = some x) :
    Arr (w.setCell ⟨b, off + k * 3 + 2, none⟩ (.int .i64 (x.trust + t))) B 3 (.slice (some ⟨b, off, none⟩) n c) (ls.set k (moreK x t)) lkcell := by
  obtain ⟨A, c', hv, h1, h2, h3⟩ := h
  have hkl := (List.getElem?_eq_some_iff.1 hk).1
  obtain ⟨b', off', hA, hb, hc⟩ := h3 (by omega)
  injection hv with e1 e2 e3
  rw [hA] at e1
  injection e1 with e1
  obtain ⟨rfl, rfl⟩ : b = b' ∧ off = off' := by injection e1 with e1 e2; exact ⟨e1, e2⟩
  subst e2 e3 hA
  refine ⟨some ⟨b, off, none⟩, c, by rw [List.length_set], by rw [List.length_set]; exact h1, h2, fun _ => ⟨b, off, rfl, hb, fun i y hi j hj => ?_⟩⟩
  by_cases hik : i = k
  · subst hik
    rw [List.getElem?_set_self hkl] at hi
    injection hi with hi
    subst hi
    have hj3 : j = 0 ∨ j = 1 ∨ j = 2 := by omega
    rcases hj3 with rfl | rfl | rfl
    · rw [World.cell?_setCell_other _ _ _ _ (by intro e; injection e with _ e; omega)]
      exact hc i x hk 0 (by omega)
    · rw [World.cell?_setCell_other _ _ _ _ (by intro e; injection e with _ e; omega)]
      exact hc i x hk 1 (by omega)
    · exact World.cell?_setCell_same _ _ _ (hc i x hk 2 (by omega))
  · rw [List.getElem?_set_ne (fun e => hik e.symm)] at hi
    rw [World.cell?_setCell_other _ _ _ _ (by intro e; injection e with _ e; omega)]
    exact hc i y hi j hj
theorem isum_le {α : Type} {f : α → Int} {c : Int} : ∀ {l : List α}, (∀ x ∈ l, f x ≤ c) → isum f l ≤ c * (l.length : Int)
  | [], _ => by simp [isum_nil]
  | x :: l, h => by
    have h1 := h x (List.mem_cons_self ..)
    have h2 := isum_le (l := l) fun y hy => h y (List.mem_cons_of_mem _ hy)
    rw [isum_cons, List.length_cons, show c * ((l.length + 1 : Nat) : Int) = c * (l.length : Int) + c by rw [Int.natCast_add, Int.mul_add]; simp]
    omega
theorem cost_bound {l : NL} (g : Good l) : 0 ≤ costL l ∧ costL l ≤ 120000000 := by
  rw [cost_least, cut_links]
  have hc := fun x (hx : x ∈ l.links) => costI_le (leastB l) (x := x) (by have := (g.link x hx).2.2.2.2.2.1; omega)
  refine ⟨isum_pos fun x hx => (hc x hx).1, ?_⟩
  have h1 := isum_le (f := costI (leastB l)) (l := l.links) (c := 1000000) fun x hx => by
    have h2 := (hc x hx).2
    have h3 := (g.link x hx).2.2.2.2.2.2
    omega
  have := g.few
  omega
theorem allU_yes {a b k0 k : Nat} (h : (dropB a b k || k == k0) = true) : allU a b k0 (k + 1) = allU a b k0 k ++ [k] := by
  unfold allU
  rw [List.range_succ, List.filter_append]
  simp [h]
theorem allU_no {a b k0 k : Nat} (h : (dropB a b k || k == k0) = false) : allU a b k0 (k + 1) = allU a b k0 k := by
  unfold allU
  rw [List.range_succ, List.filter_append]
  simp [h]
theorem allU_len (a b k0 k : Nat) : (allU a b k0 k).length ≤ k := by
  unfold allU
  exact Nat.le_trans (List.length_filter_le _ _) (by simp)
theorem allU_open {l : NL} (g : Good l) (a b k0 : Nat) : openE l (intL (allU a b k0 l.links.length)) = 0 := by
  rw [openE_go (check_good.2 g)]
  unfold allU
  rw [rises_range rfl]
  rfl
theorem row_blk {w : World} {base size n cap : Nat} {e : TypeId} {A : Option Addr} {xs : List Value} (h : w.ownsRow base e size (.slice A n cap) n xs) (hn : 0 < n) : ∃ g o cur, A = some ⟨g, o, none⟩ ∧ base ≤ g ∧ Blk w g e cur := by
  rcases h.2 with ⟨-, h2⟩ | ⟨g, c, cur, hv, hb, hh, -⟩
  · omega
  · injection hv with hv
    exact ⟨g, 0, cur, hv, hb, hh⟩
theorem any_take {α : Type} (p : α → Bool) {l : List α} {k : Nat} {x : α} (h : l[k]? = some x) : (l.take (k + 1)).any p = ((l.take k).any p || p x) := by
  rw [take_snoc h, List.any_append]
  simp
theorem groups_more {l : NL} {a b k0 : Nat} (g : Good l) (hk : k0 < l.links.length) : (grpL l (intL (dropU a b l.links.length))).length ≤ (grpL l (intL (allU a b k0 l.links.length))).length ∧
    (grpL l (intL (allU a b k0 l.links.length))).length ≤ (grpL l (intL (dropU a b l.links.length))).length + 1 ∧ (grpL l (intL (dropU a b l.links.length))).length ≤ 40 ∧
    ∀ gi ∈ grpL l (intL (allU a b k0 l.links.length)), ((grpL l (intL (dropU a b l.links.length))).any fun gj => gi.all fun x => gj.contains x) = true := by
  rw [grpL_go (dropU_open g a b), grpL_go (allU_open g a b k0)]
  unfold intL
  rw [nat_map, nat_map]
  rw [List.length_map, List.length_map]
  obtain ⟨h1, h2⟩ := groups_count (a := a) (b := b) g hk
  refine ⟨h1, h2, ?_, fun gi hgi => ?_⟩
  · have := groupsTo_len (pairsOf l.L (dropU a b l.links.length)) l.N l.N
    have := g.forty
    have := g.nN
    show (groupsTo (pairsOf l.L (dropU a b l.links.length)) l.N l.N).length ≤ 40
    omega
  · obtain ⟨g0, hg0, rfl⟩ := List.mem_map.1 hgi
    obtain ⟨gj, hgj, hin⟩ := group_inside g hg0
    refine List.any_eq_true.2 ⟨_, List.mem_map.2 ⟨gj, hgj, rfl⟩, List.all_eq_true.2 fun x hx => ?_⟩
    obtain ⟨u, hu, rfl⟩ := List.mem_map.1 hx
    exact List.contains_iff_mem.2 (List.mem_map.2 ⟨u, hin u hu, rfl⟩)
theorem dropB_lo {a b k : Nat} (h : k < 64) : dropB a b k = bitB a k := by
  unfold dropB
  rw [if_pos (by omega), show k % 64 = k by omega]
theorem dropB_hi {a b k : Nat} (h : 64 ≤ k) (h2 : k < 128) : dropB a b k = bitB b (k - 64) := by
  unfold dropB
  rw [if_neg (by omega), show k % 64 = k - 64 by omega]
set_option maxRecDepth 100000 in
set_option maxHeartbeats 6400000 in
theorem nmore_ok (v : Value) (l : NL) (mo : LkI) (wh tr da db : Nat) (w : World) (hwh : wh < 256) (htr : tr < 4294967296) (hda : da < 18446744073709551616) (hdb : db < 18446744073709551616) (hv : NLV w w.heap.size v l) :
    Calls Try.prog 11 #[v, .agg #[.int .i64 mo.one, .int .i64 mo.two, .int .i64 mo.trust], .int .u8 (wh : Int), .int .u32 (tr : Int), .agg #[.int .u64 (da : Int), .int .u64 (db : Int)]] w fun r w' => r = .returned (.bool true) ∧ Below w.heap.size w w' := by
  obtain ⟨ka, kc, aa, ac, ba, bc, rfl, hna⟩ := hv
  have hE := NB.new hna
  have hB := (Below.refl w.heap.size w).alloc (Nat.le_refl _) (.cells #[.int .i64 l.n, .slice ka l.links.length kc, .slice aa l.left.length ac, .slice ba l.right.length bc] 25)
  go_enter Try.func11, Try.ntmps11
  go_upto_region 1 with (fail)
  generalize hW : w.alloc (.cells #[.int .i64 l.n, .slice ka l.links.length kc, .slice aa l.left.length ac, .slice ba l.right.length bc] 25) = W at *
  have hM := Blk.new W 60 #[.int .i64 mo.one, .int .i64 mo.two, .int .i64 mo.trust]
  have hb1 := (Below.refl W.heap.size W).alloc (Nat.le_refl _) (.cells #[.int .i64 mo.one, .int .i64 mo.two, .int .i64 mo.trust] 60)
  replace hB := hB.trans (hb1.mono hB.size)
  replace hE := hE.call hb1
  rw [show W.heap.size = w.heap.size + 1 by rw [← hW]; simp] at hM
  clear hb1
  generalize hU : W.alloc (.cells #[.int .i64 mo.one, .int .i64 mo.two, .int .i64 mo.trust] 60) = U at *
  have hX := Blk.new U 56 #[.int .u64 (da : Int), .int .u64 (db : Int)]
  have hb1 := (Below.refl U.heap.size U).alloc (Nat.le_refl _) (.cells #[.int .u64 (da : Int), .int .u64 (db : Int)] 56)
  replace hB := hB.trans (hb1.mono hB.size)
  replace hE := hE.call hb1
  replace hM := hM.call hb1
  rw [show U.heap.size = w.heap.size + 2 by rw [← hU, ← hW]; simp] at hX
  clear hU hW hb1
  generalize U.alloc (.cells #[.int .u64 (da : Int), .int .u64 (db : Int)] 56) = V at *
  have hfi := lfine_ok _ l V hE.v
  cases hg : fineN l
  · rw [hg] at hfi
    clear hg
    obtain ⟨k0, k1, k2, k3⟩ := hE.blk.c4
    go_wp2_with fail
    refine (hfi).mono ?_
    rintro e w1 hp
    clear k0 k1 k2 k3
    obtain ⟨rfl, hb⟩ := hp
    replace hE := hE.call hb
    replace hB := hB.trans ((hb).mono hB.size)
    clear hfi hb
    go_wp2_with fail
    refine (lworks_ok _).mono ?_
    rintro e wz ⟨rfl, hbz⟩
    have hBz := hB.trans (hbz.mono hB.size)
    go_wp2
    try rw [Exit.noGoto_ret]
    go_ret
    exact ⟨rfl, hBz⟩
  · rw [hg] at hfi
    have hc0 := fineN_iff.1 hg
    have hgd := check_good.1 hc0
    have HC0 := Lib.hid hc0
    clear hg hc0
    obtain ⟨k0, k1, k2, k3⟩ := hE.blk.c4
    go_wp2_with fail
    refine (hfi).mono ?_
    rintro e w1 hp
    clear k0 k1 k2 k3
    obtain ⟨rfl, hb⟩ := hp
    replace hE := hE.call hb
    replace hB := hB.trans ((hb).mono hB.size)
    replace hX := hX.call hb
    replace hM := hM.call hb
    clear hfi hb
    have h1 := least_ok _ l w1 hE.v
    rw [lstC_eq hgd, HC0.out] at h1
    have hcp : 0 ≤ costL l ∧ costL l ≤ 120000000 := cost_bound hgd
    have HCA := Lib.hid (fun (g' : Good (addN l mo)) => more_add hgd g')
    have HCM := Lib.hid (fun k x (hk : l.links[k]? = some x) (g' : Good (moreN l k (tr : Int))) => more_trust hk (t := (tr : Int)) (by omega) hgd g')
    generalize costL l = cn at *
    obtain ⟨k0, k1, k2, k3⟩ := hE.blk.c4
    go_wp2_with fail
    refine (h1).mono ?_
    rintro e w2 hp
    clear k0 k1 k2 k3
    obtain ⟨lv, rfl, hL, hb⟩ := hp
    obtain ⟨lA, lc, rfl, -⟩ := id hL
    replace hE := hE.call hb
    replace hB := hB.trans ((hb).mono hB.size)
    replace hX := hX.call hb
    replace hM := hM.call hb
    clear hb h1 hL
    have hl120 := hgd.few
    obtain ⟨wq, hwq⟩ : ∃ wq : World, wq = w2 := ⟨_, rfl⟩
    rw [← hwq] at hE hB hX hM ⊢
    clear hwq
    have HEQ := Lib.hid hE
    obtain ⟨k0, k1, k2, k3⟩ := hE.blk.c4
    have m0 := hM.cell 0
    have m1 := hM.cell 1
    have m2 := hM.cell 2
    simp at m0 m1 m2
    have f0 := Ext.of k0
    have f1 := Ext.of k1
    have f2 := Ext.of k2
    have f3 := Ext.of k3
    have f4 := Ext.of m0
    have f5 := Ext.of m1
    have f6 := Ext.of m2
    have hla3 := hE.na.ks
    have HONE := Lib.hid (one_lks l.links)
    have HX : Hid (∀ {w' : World}, Below wq.heap.size wq w' → Below wq.heap.size wq w') := fun {w'} h => h
    have HNA : Hid (∀ {w' : World}, Below wq.heap.size wq w' → NA w' w'.heap.size l ka kc aa ac ba bc) := fun {w'} h => HEQ.out.na.call h
    clear k0 k1 k2 k3 m0 m1 m2
    go_upto_region 6 with (fail)
    go_cut [14] from 46 to 60 (fun g wx => ∃ bx xA xc, g = .pointer (some ⟨bx, 0, none⟩) ∧ wq.heap.size ≤ bx ∧ NB wx bx (addN l mo) xA xc aa ac ba bc ∧ Below wq.heap.size wq wx)
    case first =>
      refine ways_start 16 (fun w' => ∃ x : Ext wq, w' = x.w) (by rfl) (by kernel_rfl) ?_
      have hx : Below wq.heap.size wq wq.drew := (Below.refl wq.heap.size wq).drew
      generalize wq.drew = v0 at *
      refine ways_q 0 (by rfl) (by rfl) (by kernel_rfl) (by kernel_rfl) (by kernel_rfl) (by rfl) ⟨⟨v0, HX.out hx⟩, rfl⟩ ?_
      intro K hK
      go_big_quiet_op
      go_big_quiet_on
      refine ways_q 1 (by rfl) (by rfl) (by kernel_rfl) (by kernel_rfl) (by kernel_rfl) (by rfl) ⟨⟨v0, HX.out hx⟩, rfl⟩ ?_
      intro K hK
      go_big_quiet_op
      go_big_quiet_on
      refine ways_q 3 (by rfl) (by rfl) (by kernel_rfl) (by kernel_rfl) (by kernel_rfl) (by rfl) ⟨⟨v0, HX.out hx⟩, rfl⟩ ?_
      intro K hK
      go_big_quiet_op
      go_big_quiet_on
      refine ways_q 4 (by rfl) (by rfl) (by kernel_rfl) (by kernel_rfl) (by kernel_rfl) (by rfl) ⟨⟨v0, HX.out hx⟩, rfl⟩ ?_
      intro K hK
      go_big_quiet_op
      go_big_quiet_on
      refine ways_q 6 (by rfl) (by rfl) (by kernel_rfl) (by kernel_rfl) (by kernel_rfl) (by rfl) ⟨⟨v0, HX.out hx⟩, rfl⟩ ?_
      intro K hK
      go_big_quiet_op
      go_big_quiet_on
      refine ways_q 9 (by rfl) (by rfl) (by kernel_rfl) (by kernel_rfl) (by kernel_rfl) (by rfl) ⟨⟨v0, HX.out hx⟩, rfl⟩ ?_
      intro K hK
      go_big_quiet_op
      go_big_quiet_on
      refine ways_q 10 (by rfl) (by rfl) (by kernel_rfl) (by kernel_rfl) (by kernel_rfl) (by rfl) ⟨⟨v0, HX.out hx⟩, rfl⟩ ?_
      intro K hK
      go_big_quiet_op
      go_big_quiet_on
      refine ways_q 11 (by rfl) (by rfl) (by kernel_rfl) (by kernel_rfl) (by kernel_rfl) (by rfl) ⟨⟨v0, HX.out hx⟩, rfl⟩ ?_
      intro K hK
      go_big_quiet_op
      go_big_quiet_on
      refine ways_q 12 (by rfl) (by rfl) (by kernel_rfl) (by kernel_rfl) (by kernel_rfl) (by rfl) ⟨⟨v0, HX.out hx⟩, rfl⟩ ?_
      intro K hK
      go_big_quiet_op
      go_big_quiet_on
      refine ways_3 2 7 14 (by kernel_rfl) ?_ ?_ ?_
      · refine ⟨_, _, (by rfl), (by rfl), ?_⟩
        intro K' hK'
        go_wp2
        have hown := own_empty v0 wq.heap.size 60 3 hx.size
        have hbb := (Below.refl (v0).heap.size v0).alloc (Nat.le_refl _) (.cells #[] 60)
        have hgseb : (v0).heap.size < ((v0).alloc (.cells #[] 60)).heap.size := by simp
        replace hx := hx.trans (hbb.mono hx.size)
        generalize (v0).alloc (.cells #[] 60) = v1 at *
        generalize (v0).heap.size = eb at *
        refine hK' _ _ ⟨⟨⟨v1, HX.out hx⟩, rfl⟩, ?_⟩
        clear hK' K'
        clear hbb
        refine ways_3 5 7 14 (by kernel_rfl) ?_ ?_ ?_
        · refine ⟨_, _, (by rfl), (by rfl), ?_⟩
          intro K' hK'
          refine wpList_appArr (sv := .slice (some ⟨eb, 0, none⟩) 0 0) slT_l3 rfl (.tmp 48) (.tmp 50) rfl rfl hown rfl (hla3.below hx) HONE.out hx.size (by omega) (by omega) ?_
          intro v' v2 hown2 hb2 hgr
          rw [Nat.zero_add, List.nil_append] at hown2
          obtain ⟨A3, cap3, rfl⟩ := own_form hown2
          replace hx := hx.trans hb2
          clear hown hgr hb2
          go_wp2
          refine hK' _ _ ⟨⟨⟨v2, HX.out hx⟩, rfl⟩, ?_⟩
          clear hK' K'
          refine ways_2 7 14 (by kernel_rfl) ?_ ?_
          · refine ⟨_, _, (by rfl), (by rfl), ?_⟩
            intro K' hK'
            go_wp2
            have hs1 := Blk.new v2 60 #[.int .i64 mo.one, .int .i64 mo.two, .int .i64 mo.trust]
            have hbb := (Below.refl (v2).heap.size v2).alloc (Nat.le_refl _) (.cells #[.int .i64 mo.one, .int .i64 mo.two, .int .i64 mo.trust] 60)
            have hgssx : (v2).heap.size < ((v2).alloc (.cells #[.int .i64 mo.one, .int .i64 mo.two, .int .i64 mo.trust] 60)).heap.size := by simp
            replace hx := hx.trans (hbb.mono hx.size)
            replace hown2 := own_call hown2 hbb
            generalize (v2).alloc (.cells #[.int .i64 mo.one, .int .i64 mo.two, .int .i64 mo.trust] 60) = v3 at *
            generalize (v2).heap.size = sx at *
            refine hK' _ _ ⟨⟨⟨v3, HX.out hx⟩, rfl⟩, ?_⟩
            clear hK' K'
            clear hbb
            refine ways_2 8 14 (by kernel_rfl) ?_ ?_
            · refine ⟨_, _, (by rfl), (by rfl), ?_⟩
              intro K' hK'
              have harr1 : Arr v3 (v3).heap.size 3 (.slice (some ⟨sx, 0, none⟩) 1 1) [mo] lkcell := Arr.lit hs1 hs1.lt rfl (by simp) (by omega) (by simp [cellsOf, List.range_succ, lkcell])
              refine wpList_appArr (l := [mo]) slT_l3 rfl (.tmp 51) (.tmp 53) rfl rfl hown2 rfl harr1 (one_lks _) hx.size (by simp; omega) (by omega) ?_
              intro v5 v4 hown3 hb3 hgr3
              rw [← List.flatMap_append] at hown3
              obtain ⟨A5, cap5, rfl⟩ := own_form hown3
              replace hx := hx.trans hb3
              clear hown2 hgr3 hb3 harr1 hs1
              go_wp2
              refine hK' _ _ ⟨⟨⟨v4, HX.out hx⟩, rfl⟩, ?_⟩
              clear hK' K'
              refine ways_q 13 (by rfl) (by rfl) (by kernel_rfl) (by kernel_rfl) (by kernel_rfl) (by rfl) ⟨⟨v4, HX.out hx⟩, rfl⟩ ?_
              intro K hK
              go_big_quiet_op
              go_big_quiet_on
              refine ways_1 14 (by kernel_rfl) ?_
              refine ⟨_, _, (by rfl), (by rfl), ?_⟩
              intro K' hK'
              go_wp2
              have hbx := Blk.new v4 25 #[.int .i64 0, .slice none 0 0, .slice none 0 0, .slice none 0 0]
              have hbw : wq.heap.size ≤ (v4).heap.size := hx.size
              have hbb := (Below.refl (v4).heap.size v4).alloc (Nat.le_refl _) (.cells #[.int .i64 0, .slice none 0 0, .slice none 0 0, .slice none 0 0] 25)
              have hgsbx : (v4).heap.size < ((v4).alloc (.cells #[.int .i64 0, .slice none 0 0, .slice none 0 0, .slice none 0 0] 25)).heap.size := by simp
              replace hx := hx.trans (hbb.mono hx.size)
              replace hown3 := own_call hown3 hbb
              generalize (v4).alloc (.cells #[.int .i64 0, .slice none 0 0, .slice none 0 0, .slice none 0 0] 25) = v5 at *
              generalize (v4).heap.size = bx at *
              refine hK' _ _ ⟨⟨⟨v5, HX.out hx⟩, rfl⟩, ?_⟩
              clear hK' K'
              clear hbb
              refine ways_1 15 (by kernel_rfl) ?_
              obtain ⟨z0, z1, z2, z3⟩ := hbx.c4
              have hfz := fun i => hbx.frozen i
              refine ⟨_, _, (by rfl), (by rfl), ?_⟩
              intro K' hK'
              go_wp2
              replace hown3 := own_grown hown3 (grown_put4 (w := v5) (g := bx) (o1 := 0) (o2 := 1) (o3 := 2) (o4 := 3) (.int .i64 l.n) (.slice A5 (l.links.length + 1) cap5) (.slice aa l.left.length ac) (.slice ba l.right.length bc)) (fun r e e2 => own_blk_ne hown3 hbx (by decide) (by rw [e2]; exact e))
              replace hbx := hbx.put4 (.int .i64 l.n) (.slice A5 (l.links.length + 1) cap5) (.slice aa l.left.length ac) (.slice ba l.right.length bc)
              replace hx := below_put4 (g := bx) (o1 := 0) (o2 := 1) (o3 := 2) (o4 := 3) hx hbw (.int .i64 l.n) (.slice A5 (l.links.length + 1) cap5) (.slice aa l.left.length ac) (.slice ba l.right.length bc)
              clear z0 z1 z2 z3 hfz
              generalize ((((v5).setCell ⟨bx, 0, none⟩ (.int .i64 l.n)).setCell ⟨bx, 1, none⟩ (.slice A5 (l.links.length + 1) cap5)).setCell ⟨bx, 2, none⟩ (.slice aa l.left.length ac)).setCell ⟨bx, 3, none⟩ (.slice ba l.right.length bc) = vz at *
              refine hK' _ _ ⟨⟨⟨vz, HX.out hx⟩, rfl⟩, ?_⟩
              clear hK' K'
              refine ways_end (by kernel_rfl) ?_
              go_wp2
              go_meet
              case rel => exact ⟨bx, A5, cap5, rfl, hbw, nb_add hbx (by simpa using hown3) (HNA.out hx), hx⟩
            · refine ⟨_, _, (by rfl), (by rfl), ?_⟩
              intro K' hK'
              go_wp2
              have hbx := Blk.new v3 25 #[.int .i64 0, .slice none 0 0, .slice none 0 0, .slice none 0 0]
              have hbw : wq.heap.size ≤ (v3).heap.size := hx.size
              have hbb := (Below.refl (v3).heap.size v3).alloc (Nat.le_refl _) (.cells #[.int .i64 0, .slice none 0 0, .slice none 0 0, .slice none 0 0] 25)
              have hgsbx : (v3).heap.size < ((v3).alloc (.cells #[.int .i64 0, .slice none 0 0, .slice none 0 0, .slice none 0 0] 25)).heap.size := by simp
              replace hx := hx.trans (hbb.mono hx.size)
              replace hown2 := own_call hown2 hbb
              replace hs1 := hs1.call hbb
              generalize (v3).alloc (.cells #[.int .i64 0, .slice none 0 0, .slice none 0 0, .slice none 0 0] 25) = v4 at *
              generalize (v3).heap.size = bx at *
              refine hK' _ _ ⟨⟨⟨v4, HX.out hx⟩, rfl⟩, ?_⟩
              clear hK' K'
              clear hbb
              refine ways_1 8 (by kernel_rfl) ?_
              refine ⟨_, _, (by rfl), (by rfl), ?_⟩
              intro K' hK'
              have harr1 : Arr v4 (v4).heap.size 3 (.slice (some ⟨sx, 0, none⟩) 1 1) [mo] lkcell := Arr.lit hs1 hs1.lt rfl (by simp) (by omega) (by simp [cellsOf, List.range_succ, lkcell])
              refine wpList_appArr (l := [mo]) slT_l3 rfl (.tmp 51) (.tmp 53) rfl rfl hown2 rfl harr1 (one_lks _) hx.size (by simp; omega) (by omega) ?_
              intro v5 v5 hown3 hb3 hgr3
              rw [← List.flatMap_append] at hown3
              obtain ⟨A5, cap5, rfl⟩ := own_form hown3
              replace hbx := hbx.grown hgr3 (own_blk_ne hown2 hbx (by decide))
              replace hx := hx.trans hb3
              clear hown2 hgr3 hb3 harr1 hs1
              go_wp2
              refine hK' _ _ ⟨⟨⟨v5, HX.out hx⟩, rfl⟩, ?_⟩
              clear hK' K'
              refine ways_q 13 (by rfl) (by rfl) (by kernel_rfl) (by kernel_rfl) (by kernel_rfl) (by rfl) ⟨⟨v5, HX.out hx⟩, rfl⟩ ?_
              intro K hK
              go_big_quiet_op
              go_big_quiet_on
              refine ways_1 15 (by kernel_rfl) ?_
              obtain ⟨z0, z1, z2, z3⟩ := hbx.c4
              have hfz := fun i => hbx.frozen i
              refine ⟨_, _, (by rfl), (by rfl), ?_⟩
              intro K' hK'
              go_wp2
              replace hown3 := own_grown hown3 (grown_put4 (w := v5) (g := bx) (o1 := 0) (o2 := 1) (o3 := 2) (o4 := 3) (.int .i64 l.n) (.slice A5 (l.links.length + 1) cap5) (.slice aa l.left.length ac) (.slice ba l.right.length bc)) (fun r e e2 => own_blk_ne hown3 hbx (by decide) (by rw [e2]; exact e))
              replace hbx := hbx.put4 (.int .i64 l.n) (.slice A5 (l.links.length + 1) cap5) (.slice aa l.left.length ac) (.slice ba l.right.length bc)
              replace hx := below_put4 (g := bx) (o1 := 0) (o2 := 1) (o3 := 2) (o4 := 3) hx hbw (.int .i64 l.n) (.slice A5 (l.links.length + 1) cap5) (.slice aa l.left.length ac) (.slice ba l.right.length bc)
              clear z0 z1 z2 z3 hfz
              generalize ((((v5).setCell ⟨bx, 0, none⟩ (.int .i64 l.n)).setCell ⟨bx, 1, none⟩ (.slice A5 (l.links.length + 1) cap5)).setCell ⟨bx, 2, none⟩ (.slice aa l.left.length ac)).setCell ⟨bx, 3, none⟩ (.slice ba l.right.length bc) = vz at *
              refine hK' _ _ ⟨⟨⟨vz, HX.out hx⟩, rfl⟩, ?_⟩
              clear hK' K'
              refine ways_end (by kernel_rfl) ?_
              go_wp2
              go_meet
              case rel => exact ⟨bx, A5, cap5, rfl, hbw, nb_add hbx (by simpa using hown3) (HNA.out hx), hx⟩
          · refine ⟨_, _, (by rfl), (by rfl), ?_⟩
            intro K' hK'
            go_wp2
            have hbx := Blk.new v2 25 #[.int .i64 0, .slice none 0 0, .slice none 0 0, .slice none 0 0]
            have hbw : wq.heap.size ≤ (v2).heap.size := hx.size
            have hbb := (Below.refl (v2).heap.size v2).alloc (Nat.le_refl _) (.cells #[.int .i64 0, .slice none 0 0, .slice none 0 0, .slice none 0 0] 25)
            have hgsbx : (v2).heap.size < ((v2).alloc (.cells #[.int .i64 0, .slice none 0 0, .slice none 0 0, .slice none 0 0] 25)).heap.size := by simp
            replace hx := hx.trans (hbb.mono hx.size)
            replace hown2 := own_call hown2 hbb
            generalize (v2).alloc (.cells #[.int .i64 0, .slice none 0 0, .slice none 0 0, .slice none 0 0] 25) = v3 at *
            generalize (v2).heap.size = bx at *
            refine hK' _ _ ⟨⟨⟨v3, HX.out hx⟩, rfl⟩, ?_⟩
            clear hK' K'
            clear hbb
            refine ways_1 7 (by kernel_rfl) ?_
            refine ⟨_, _, (by rfl), (by rfl), ?_⟩
            intro K' hK'
            go_wp2
            have hs1 := Blk.new v3 60 #[.int .i64 mo.one, .int .i64 mo.two, .int .i64 mo.trust]
            have hbb := (Below.refl (v3).heap.size v3).alloc (Nat.le_refl _) (.cells #[.int .i64 mo.one, .int .i64 mo.two, .int .i64 mo.trust] 60)
            have hgssx : (v3).heap.size < ((v3).alloc (.cells #[.int .i64 mo.one, .int .i64 mo.two, .int .i64 mo.trust] 60)).heap.size := by simp
            replace hx := hx.trans (hbb.mono hx.size)
            replace hown2 := own_call hown2 hbb
            replace hbx := hbx.call hbb
            generalize (v3).alloc (.cells #[.int .i64 mo.one, .int .i64 mo.two, .int .i64 mo.trust] 60) = v4 at *
            generalize (v3).heap.size = sx at *
            refine hK' _ _ ⟨⟨⟨v4, HX.out hx⟩, rfl⟩, ?_⟩
            clear hK' K'
            clear hbb
            refine ways_1 8 (by kernel_rfl) ?_
            refine ⟨_, _, (by rfl), (by rfl), ?_⟩
            intro K' hK'
            have harr1 : Arr v4 (v4).heap.size 3 (.slice (some ⟨sx, 0, none⟩) 1 1) [mo] lkcell := Arr.lit hs1 hs1.lt rfl (by simp) (by omega) (by simp [cellsOf, List.range_succ, lkcell])
            refine wpList_appArr (l := [mo]) slT_l3 rfl (.tmp 51) (.tmp 53) rfl rfl hown2 rfl harr1 (one_lks _) hx.size (by simp; omega) (by omega) ?_
            intro v5 v5 hown3 hb3 hgr3
            rw [← List.flatMap_append] at hown3
            obtain ⟨A5, cap5, rfl⟩ := own_form hown3
            replace hbx := hbx.grown hgr3 (own_blk_ne hown2 hbx (by decide))
            replace hx := hx.trans hb3
            clear hown2 hgr3 hb3 harr1 hs1
            go_wp2
            refine hK' _ _ ⟨⟨⟨v5, HX.out hx⟩, rfl⟩, ?_⟩
            clear hK' K'
            refine ways_q 13 (by rfl) (by rfl) (by kernel_rfl) (by kernel_rfl) (by kernel_rfl) (by rfl) ⟨⟨v5, HX.out hx⟩, rfl⟩ ?_
            intro K hK
            go_big_quiet_op
            go_big_quiet_on
            refine ways_1 15 (by kernel_rfl) ?_
            obtain ⟨z0, z1, z2, z3⟩ := hbx.c4
            have hfz := fun i => hbx.frozen i
            refine ⟨_, _, (by rfl), (by rfl), ?_⟩
            intro K' hK'
            go_wp2
            replace hown3 := own_grown hown3 (grown_put4 (w := v5) (g := bx) (o1 := 0) (o2 := 1) (o3 := 2) (o4 := 3) (.int .i64 l.n) (.slice A5 (l.links.length + 1) cap5) (.slice aa l.left.length ac) (.slice ba l.right.length bc)) (fun r e e2 => own_blk_ne hown3 hbx (by decide) (by rw [e2]; exact e))
            replace hbx := hbx.put4 (.int .i64 l.n) (.slice A5 (l.links.length + 1) cap5) (.slice aa l.left.length ac) (.slice ba l.right.length bc)
            replace hx := below_put4 (g := bx) (o1 := 0) (o2 := 1) (o3 := 2) (o4 := 3) hx hbw (.int .i64 l.n) (.slice A5 (l.links.length + 1) cap5) (.slice aa l.left.length ac) (.slice ba l.right.length bc)
            clear z0 z1 z2 z3 hfz
            generalize ((((v5).setCell ⟨bx, 0, none⟩ (.int .i64 l.n)).setCell ⟨bx, 1, none⟩ (.slice A5 (l.links.length + 1) cap5)).setCell ⟨bx, 2, none⟩ (.slice aa l.left.length ac)).setCell ⟨bx, 3, none⟩ (.slice ba l.right.length bc) = vz at *
            refine hK' _ _ ⟨⟨⟨vz, HX.out hx⟩, rfl⟩, ?_⟩
            clear hK' K'
            refine ways_end (by kernel_rfl) ?_
            go_wp2
            go_meet
            case rel => exact ⟨bx, A5, cap5, rfl, hbw, nb_add hbx (by simpa using hown3) (HNA.out hx), hx⟩
        · refine ⟨_, _, (by rfl), (by rfl), ?_⟩
          intro K' hK'
          go_wp2
          have hs1 := Blk.new v1 60 #[.int .i64 mo.one, .int .i64 mo.two, .int .i64 mo.trust]
          have hbb := (Below.refl (v1).heap.size v1).alloc (Nat.le_refl _) (.cells #[.int .i64 mo.one, .int .i64 mo.two, .int .i64 mo.trust] 60)
          have hgssx : (v1).heap.size < ((v1).alloc (.cells #[.int .i64 mo.one, .int .i64 mo.two, .int .i64 mo.trust] 60)).heap.size := by simp
          replace hx := hx.trans (hbb.mono hx.size)
          replace hown := own_call hown hbb
          generalize (v1).alloc (.cells #[.int .i64 mo.one, .int .i64 mo.two, .int .i64 mo.trust] 60) = v2 at *
          generalize (v1).heap.size = sx at *
          refine hK' _ _ ⟨⟨⟨v2, HX.out hx⟩, rfl⟩, ?_⟩
          clear hK' K'
          clear hbb
          refine ways_2 5 14 (by kernel_rfl) ?_ ?_
          · refine ⟨_, _, (by rfl), (by rfl), ?_⟩
            intro K' hK'
            refine wpList_appArr (sv := .slice (some ⟨eb, 0, none⟩) 0 0) slT_l3 rfl (.tmp 48) (.tmp 50) rfl rfl hown rfl (hla3.below hx) HONE.out hx.size (by omega) (by omega) ?_
            intro v' v3 hown2 hb2 hgr
            rw [Nat.zero_add, List.nil_append] at hown2
            obtain ⟨A3, cap3, rfl⟩ := own_form hown2
            replace hx := hx.trans hb2
            replace hs1 := hs1.grown hgr (fun e => absurd (show sx = eb by simpa [Value.ownBlock] using e) (by omega))
            clear hown hgr hb2
            go_wp2
            refine hK' _ _ ⟨⟨⟨v3, HX.out hx⟩, rfl⟩, ?_⟩
            clear hK' K'
            refine ways_2 8 14 (by kernel_rfl) ?_ ?_
            · refine ⟨_, _, (by rfl), (by rfl), ?_⟩
              intro K' hK'
              have harr1 : Arr v3 (v3).heap.size 3 (.slice (some ⟨sx, 0, none⟩) 1 1) [mo] lkcell := Arr.lit hs1 hs1.lt rfl (by simp) (by omega) (by simp [cellsOf, List.range_succ, lkcell])
              refine wpList_appArr (l := [mo]) slT_l3 rfl (.tmp 51) (.tmp 53) rfl rfl hown2 rfl harr1 (one_lks _) hx.size (by simp; omega) (by omega) ?_
              intro v5 v4 hown3 hb3 hgr3
              rw [← List.flatMap_append] at hown3
              obtain ⟨A5, cap5, rfl⟩ := own_form hown3
              replace hx := hx.trans hb3
              clear hown2 hgr3 hb3 harr1 hs1
              go_wp2
              refine hK' _ _ ⟨⟨⟨v4, HX.out hx⟩, rfl⟩, ?_⟩
              clear hK' K'
              refine ways_q 13 (by rfl) (by rfl) (by kernel_rfl) (by kernel_rfl) (by kernel_rfl) (by rfl) ⟨⟨v4, HX.out hx⟩, rfl⟩ ?_
              intro K hK
              go_big_quiet_op
              go_big_quiet_on
              refine ways_1 14 (by kernel_rfl) ?_
              refine ⟨_, _, (by rfl), (by rfl), ?_⟩
              intro K' hK'
              go_wp2
              have hbx := Blk.new v4 25 #[.int .i64 0, .slice none 0 0, .slice none 0 0, .slice none 0 0]
              have hbw : wq.heap.size ≤ (v4).heap.size := hx.size
              have hbb := (Below.refl (v4).heap.size v4).alloc (Nat.le_refl _) (.cells #[.int .i64 0, .slice none 0 0, .slice none 0 0, .slice none 0 0] 25)
              have hgsbx : (v4).heap.size < ((v4).alloc (.cells #[.int .i64 0, .slice none 0 0, .slice none 0 0, .slice none 0 0] 25)).heap.size := by simp
              replace hx := hx.trans (hbb.mono hx.size)
              replace hown3 := own_call hown3 hbb
              generalize (v4).alloc (.cells #[.int .i64 0, .slice none 0 0, .slice none 0 0, .slice none 0 0] 25) = v5 at *
              generalize (v4).heap.size = bx at *
              refine hK' _ _ ⟨⟨⟨v5, HX.out hx⟩, rfl⟩, ?_⟩
              clear hK' K'
              clear hbb
              refine ways_1 15 (by kernel_rfl) ?_
              obtain ⟨z0, z1, z2, z3⟩ := hbx.c4
              have hfz := fun i => hbx.frozen i
              refine ⟨_, _, (by rfl), (by rfl), ?_⟩
              intro K' hK'
              go_wp2
              replace hown3 := own_grown hown3 (grown_put4 (w := v5) (g := bx) (o1 := 0) (o2 := 1) (o3 := 2) (o4 := 3) (.int .i64 l.n) (.slice A5 (l.links.length + 1) cap5) (.slice aa l.left.length ac) (.slice ba l.right.length bc)) (fun r e e2 => own_blk_ne hown3 hbx (by decide) (by rw [e2]; exact e))
              replace hbx := hbx.put4 (.int .i64 l.n) (.slice A5 (l.links.length + 1) cap5) (.slice aa l.left.length ac) (.slice ba l.right.length bc)
              replace hx := below_put4 (g := bx) (o1 := 0) (o2 := 1) (o3 := 2) (o4 := 3) hx hbw (.int .i64 l.n) (.slice A5 (l.links.length + 1) cap5) (.slice aa l.left.length ac) (.slice ba l.right.length bc)
              clear z0 z1 z2 z3 hfz
              generalize ((((v5).setCell ⟨bx, 0, none⟩ (.int .i64 l.n)).setCell ⟨bx, 1, none⟩ (.slice A5 (l.links.length + 1) cap5)).setCell ⟨bx, 2, none⟩ (.slice aa l.left.length ac)).setCell ⟨bx, 3, none⟩ (.slice ba l.right.length bc) = vz at *
              refine hK' _ _ ⟨⟨⟨vz, HX.out hx⟩, rfl⟩, ?_⟩
              clear hK' K'
              refine ways_end (by kernel_rfl) ?_
              go_wp2
              go_meet
              case rel => exact ⟨bx, A5, cap5, rfl, hbw, nb_add hbx (by simpa using hown3) (HNA.out hx), hx⟩
            · refine ⟨_, _, (by rfl), (by rfl), ?_⟩
              intro K' hK'
              go_wp2
              have hbx := Blk.new v3 25 #[.int .i64 0, .slice none 0 0, .slice none 0 0, .slice none 0 0]
              have hbw : wq.heap.size ≤ (v3).heap.size := hx.size
              have hbb := (Below.refl (v3).heap.size v3).alloc (Nat.le_refl _) (.cells #[.int .i64 0, .slice none 0 0, .slice none 0 0, .slice none 0 0] 25)
              have hgsbx : (v3).heap.size < ((v3).alloc (.cells #[.int .i64 0, .slice none 0 0, .slice none 0 0, .slice none 0 0] 25)).heap.size := by simp
              replace hx := hx.trans (hbb.mono hx.size)
              replace hown2 := own_call hown2 hbb
              replace hs1 := hs1.call hbb
              generalize (v3).alloc (.cells #[.int .i64 0, .slice none 0 0, .slice none 0 0, .slice none 0 0] 25) = v4 at *
              generalize (v3).heap.size = bx at *
              refine hK' _ _ ⟨⟨⟨v4, HX.out hx⟩, rfl⟩, ?_⟩
              clear hK' K'
              clear hbb
              refine ways_1 8 (by kernel_rfl) ?_
              refine ⟨_, _, (by rfl), (by rfl), ?_⟩
              intro K' hK'
              have harr1 : Arr v4 (v4).heap.size 3 (.slice (some ⟨sx, 0, none⟩) 1 1) [mo] lkcell := Arr.lit hs1 hs1.lt rfl (by simp) (by omega) (by simp [cellsOf, List.range_succ, lkcell])
              refine wpList_appArr (l := [mo]) slT_l3 rfl (.tmp 51) (.tmp 53) rfl rfl hown2 rfl harr1 (one_lks _) hx.size (by simp; omega) (by omega) ?_
              intro v5 v5 hown3 hb3 hgr3
              rw [← List.flatMap_append] at hown3
              obtain ⟨A5, cap5, rfl⟩ := own_form hown3
              replace hbx := hbx.grown hgr3 (own_blk_ne hown2 hbx (by decide))
              replace hx := hx.trans hb3
              clear hown2 hgr3 hb3 harr1 hs1
              go_wp2
              refine hK' _ _ ⟨⟨⟨v5, HX.out hx⟩, rfl⟩, ?_⟩
              clear hK' K'
              refine ways_q 13 (by rfl) (by rfl) (by kernel_rfl) (by kernel_rfl) (by kernel_rfl) (by rfl) ⟨⟨v5, HX.out hx⟩, rfl⟩ ?_
              intro K hK
              go_big_quiet_op
              go_big_quiet_on
              refine ways_1 15 (by kernel_rfl) ?_
              obtain ⟨z0, z1, z2, z3⟩ := hbx.c4
              have hfz := fun i => hbx.frozen i
              refine ⟨_, _, (by rfl), (by rfl), ?_⟩
              intro K' hK'
              go_wp2
              replace hown3 := own_grown hown3 (grown_put4 (w := v5) (g := bx) (o1 := 0) (o2 := 1) (o3 := 2) (o4 := 3) (.int .i64 l.n) (.slice A5 (l.links.length + 1) cap5) (.slice aa l.left.length ac) (.slice ba l.right.length bc)) (fun r e e2 => own_blk_ne hown3 hbx (by decide) (by rw [e2]; exact e))
              replace hbx := hbx.put4 (.int .i64 l.n) (.slice A5 (l.links.length + 1) cap5) (.slice aa l.left.length ac) (.slice ba l.right.length bc)
              replace hx := below_put4 (g := bx) (o1 := 0) (o2 := 1) (o3 := 2) (o4 := 3) hx hbw (.int .i64 l.n) (.slice A5 (l.links.length + 1) cap5) (.slice aa l.left.length ac) (.slice ba l.right.length bc)
              clear z0 z1 z2 z3 hfz
              generalize ((((v5).setCell ⟨bx, 0, none⟩ (.int .i64 l.n)).setCell ⟨bx, 1, none⟩ (.slice A5 (l.links.length + 1) cap5)).setCell ⟨bx, 2, none⟩ (.slice aa l.left.length ac)).setCell ⟨bx, 3, none⟩ (.slice ba l.right.length bc) = vz at *
              refine hK' _ _ ⟨⟨⟨vz, HX.out hx⟩, rfl⟩, ?_⟩
              clear hK' K'
              refine ways_end (by kernel_rfl) ?_
              go_wp2
              go_meet
              case rel => exact ⟨bx, A5, cap5, rfl, hbw, nb_add hbx (by simpa using hown3) (HNA.out hx), hx⟩
          · refine ⟨_, _, (by rfl), (by rfl), ?_⟩
            intro K' hK'
            go_wp2
            have hbx := Blk.new v2 25 #[.int .i64 0, .slice none 0 0, .slice none 0 0, .slice none 0 0]
            have hbw : wq.heap.size ≤ (v2).heap.size := hx.size
            have hbb := (Below.refl (v2).heap.size v2).alloc (Nat.le_refl _) (.cells #[.int .i64 0, .slice none 0 0, .slice none 0 0, .slice none 0 0] 25)
            have hgsbx : (v2).heap.size < ((v2).alloc (.cells #[.int .i64 0, .slice none 0 0, .slice none 0 0, .slice none 0 0] 25)).heap.size := by simp
            replace hx := hx.trans (hbb.mono hx.size)
            replace hown := own_call hown hbb
            replace hs1 := hs1.call hbb
            generalize (v2).alloc (.cells #[.int .i64 0, .slice none 0 0, .slice none 0 0, .slice none 0 0] 25) = v3 at *
            generalize (v2).heap.size = bx at *
            refine hK' _ _ ⟨⟨⟨v3, HX.out hx⟩, rfl⟩, ?_⟩
            clear hK' K'
            clear hbb
            refine ways_1 5 (by kernel_rfl) ?_
            refine ⟨_, _, (by rfl), (by rfl), ?_⟩
            intro K' hK'
            refine wpList_appArr (sv := .slice (some ⟨eb, 0, none⟩) 0 0) slT_l3 rfl (.tmp 48) (.tmp 50) rfl rfl hown rfl (hla3.below hx) HONE.out hx.size (by omega) (by omega) ?_
            intro v' v4 hown2 hb2 hgr
            rw [Nat.zero_add, List.nil_append] at hown2
            obtain ⟨A3, cap3, rfl⟩ := own_form hown2
            replace hx := hx.trans hb2
            replace hs1 := hs1.grown hgr (fun e => absurd (show sx = eb by simpa [Value.ownBlock] using e) (by omega))
            replace hbx := hbx.grown hgr (own_blk_ne hown hbx (by decide))
            clear hown hgr hb2
            go_wp2
            refine hK' _ _ ⟨⟨⟨v4, HX.out hx⟩, rfl⟩, ?_⟩
            clear hK' K'
            refine ways_1 8 (by kernel_rfl) ?_
            refine ⟨_, _, (by rfl), (by rfl), ?_⟩
            intro K' hK'
            have harr1 : Arr v4 (v4).heap.size 3 (.slice (some ⟨sx, 0, none⟩) 1 1) [mo] lkcell := Arr.lit hs1 hs1.lt rfl (by simp) (by omega) (by simp [cellsOf, List.range_succ, lkcell])
            refine wpList_appArr (l := [mo]) slT_l3 rfl (.tmp 51) (.tmp 53) rfl rfl hown2 rfl harr1 (one_lks _) hx.size (by simp; omega) (by omega) ?_
            intro v5 v5 hown3 hb3 hgr3
            rw [← List.flatMap_append] at hown3
            obtain ⟨A5, cap5, rfl⟩ := own_form hown3
            replace hbx := hbx.grown hgr3 (own_blk_ne hown2 hbx (by decide))
            replace hx := hx.trans hb3
            clear hown2 hgr3 hb3 harr1 hs1
            go_wp2
            refine hK' _ _ ⟨⟨⟨v5, HX.out hx⟩, rfl⟩, ?_⟩
            clear hK' K'
            refine ways_q 13 (by rfl) (by rfl) (by kernel_rfl) (by kernel_rfl) (by kernel_rfl) (by rfl) ⟨⟨v5, HX.out hx⟩, rfl⟩ ?_
            intro K hK
            go_big_quiet_op
            go_big_quiet_on
            refine ways_1 15 (by kernel_rfl) ?_
            obtain ⟨z0, z1, z2, z3⟩ := hbx.c4
            have hfz := fun i => hbx.frozen i
            refine ⟨_, _, (by rfl), (by rfl), ?_⟩
            intro K' hK'
            go_wp2
            replace hown3 := own_grown hown3 (grown_put4 (w := v5) (g := bx) (o1 := 0) (o2 := 1) (o3 := 2) (o4 := 3) (.int .i64 l.n) (.slice A5 (l.links.length + 1) cap5) (.slice aa l.left.length ac) (.slice ba l.right.length bc)) (fun r e e2 => own_blk_ne hown3 hbx (by decide) (by rw [e2]; exact e))
            replace hbx := hbx.put4 (.int .i64 l.n) (.slice A5 (l.links.length + 1) cap5) (.slice aa l.left.length ac) (.slice ba l.right.length bc)
            replace hx := below_put4 (g := bx) (o1 := 0) (o2 := 1) (o3 := 2) (o4 := 3) hx hbw (.int .i64 l.n) (.slice A5 (l.links.length + 1) cap5) (.slice aa l.left.length ac) (.slice ba l.right.length bc)
            clear z0 z1 z2 z3 hfz
            generalize ((((v5).setCell ⟨bx, 0, none⟩ (.int .i64 l.n)).setCell ⟨bx, 1, none⟩ (.slice A5 (l.links.length + 1) cap5)).setCell ⟨bx, 2, none⟩ (.slice aa l.left.length ac)).setCell ⟨bx, 3, none⟩ (.slice ba l.right.length bc) = vz at *
            refine hK' _ _ ⟨⟨⟨vz, HX.out hx⟩, rfl⟩, ?_⟩
            clear hK' K'
            refine ways_end (by kernel_rfl) ?_
            go_wp2
            go_meet
            case rel => exact ⟨bx, A5, cap5, rfl, hbw, nb_add hbx (by simpa using hown3) (HNA.out hx), hx⟩
        · refine ⟨_, _, (by rfl), (by rfl), ?_⟩
          intro K' hK'
          go_wp2
          have hbx := Blk.new v1 25 #[.int .i64 0, .slice none 0 0, .slice none 0 0, .slice none 0 0]
          have hbw : wq.heap.size ≤ (v1).heap.size := hx.size
          have hbb := (Below.refl (v1).heap.size v1).alloc (Nat.le_refl _) (.cells #[.int .i64 0, .slice none 0 0, .slice none 0 0, .slice none 0 0] 25)
          have hgsbx : (v1).heap.size < ((v1).alloc (.cells #[.int .i64 0, .slice none 0 0, .slice none 0 0, .slice none 0 0] 25)).heap.size := by simp
          replace hx := hx.trans (hbb.mono hx.size)
          replace hown := own_call hown hbb
          generalize (v1).alloc (.cells #[.int .i64 0, .slice none 0 0, .slice none 0 0, .slice none 0 0] 25) = v2 at *
          generalize (v1).heap.size = bx at *
          refine hK' _ _ ⟨⟨⟨v2, HX.out hx⟩, rfl⟩, ?_⟩
          clear hK' K'
          clear hbb
          refine ways_2 5 7 (by kernel_rfl) ?_ ?_
          · refine ⟨_, _, (by rfl), (by rfl), ?_⟩
            intro K' hK'
            refine wpList_appArr (sv := .slice (some ⟨eb, 0, none⟩) 0 0) slT_l3 rfl (.tmp 48) (.tmp 50) rfl rfl hown rfl (hla3.below hx) HONE.out hx.size (by omega) (by omega) ?_
            intro v' v3 hown2 hb2 hgr
            rw [Nat.zero_add, List.nil_append] at hown2
            obtain ⟨A3, cap3, rfl⟩ := own_form hown2
            replace hx := hx.trans hb2
            replace hbx := hbx.grown hgr (own_blk_ne hown hbx (by decide))
            clear hown hgr hb2
            go_wp2
            refine hK' _ _ ⟨⟨⟨v3, HX.out hx⟩, rfl⟩, ?_⟩
            clear hK' K'
            refine ways_1 7 (by kernel_rfl) ?_
            refine ⟨_, _, (by rfl), (by rfl), ?_⟩
            intro K' hK'
            go_wp2
            have hs1 := Blk.new v3 60 #[.int .i64 mo.one, .int .i64 mo.two, .int .i64 mo.trust]
            have hbb := (Below.refl (v3).heap.size v3).alloc (Nat.le_refl _) (.cells #[.int .i64 mo.one, .int .i64 mo.two, .int .i64 mo.trust] 60)
            have hgssx : (v3).heap.size < ((v3).alloc (.cells #[.int .i64 mo.one, .int .i64 mo.two, .int .i64 mo.trust] 60)).heap.size := by simp
            replace hx := hx.trans (hbb.mono hx.size)
            replace hown2 := own_call hown2 hbb
            replace hbx := hbx.call hbb
            generalize (v3).alloc (.cells #[.int .i64 mo.one, .int .i64 mo.two, .int .i64 mo.trust] 60) = v4 at *
            generalize (v3).heap.size = sx at *
            refine hK' _ _ ⟨⟨⟨v4, HX.out hx⟩, rfl⟩, ?_⟩
            clear hK' K'
            clear hbb
            refine ways_1 8 (by kernel_rfl) ?_
            refine ⟨_, _, (by rfl), (by rfl), ?_⟩
            intro K' hK'
            have harr1 : Arr v4 (v4).heap.size 3 (.slice (some ⟨sx, 0, none⟩) 1 1) [mo] lkcell := Arr.lit hs1 hs1.lt rfl (by simp) (by omega) (by simp [cellsOf, List.range_succ, lkcell])
            refine wpList_appArr (l := [mo]) slT_l3 rfl (.tmp 51) (.tmp 53) rfl rfl hown2 rfl harr1 (one_lks _) hx.size (by simp; omega) (by omega) ?_
            intro v5 v5 hown3 hb3 hgr3
            rw [← List.flatMap_append] at hown3
            obtain ⟨A5, cap5, rfl⟩ := own_form hown3
            replace hbx := hbx.grown hgr3 (own_blk_ne hown2 hbx (by decide))
            replace hx := hx.trans hb3
            clear hown2 hgr3 hb3 harr1 hs1
            go_wp2
            refine hK' _ _ ⟨⟨⟨v5, HX.out hx⟩, rfl⟩, ?_⟩
            clear hK' K'
            refine ways_q 13 (by rfl) (by rfl) (by kernel_rfl) (by kernel_rfl) (by kernel_rfl) (by rfl) ⟨⟨v5, HX.out hx⟩, rfl⟩ ?_
            intro K hK
            go_big_quiet_op
            go_big_quiet_on
            refine ways_1 15 (by kernel_rfl) ?_
            obtain ⟨z0, z1, z2, z3⟩ := hbx.c4
            have hfz := fun i => hbx.frozen i
            refine ⟨_, _, (by rfl), (by rfl), ?_⟩
            intro K' hK'
            go_wp2
            replace hown3 := own_grown hown3 (grown_put4 (w := v5) (g := bx) (o1 := 0) (o2 := 1) (o3 := 2) (o4 := 3) (.int .i64 l.n) (.slice A5 (l.links.length + 1) cap5) (.slice aa l.left.length ac) (.slice ba l.right.length bc)) (fun r e e2 => own_blk_ne hown3 hbx (by decide) (by rw [e2]; exact e))
            replace hbx := hbx.put4 (.int .i64 l.n) (.slice A5 (l.links.length + 1) cap5) (.slice aa l.left.length ac) (.slice ba l.right.length bc)
            replace hx := below_put4 (g := bx) (o1 := 0) (o2 := 1) (o3 := 2) (o4 := 3) hx hbw (.int .i64 l.n) (.slice A5 (l.links.length + 1) cap5) (.slice aa l.left.length ac) (.slice ba l.right.length bc)
            clear z0 z1 z2 z3 hfz
            generalize ((((v5).setCell ⟨bx, 0, none⟩ (.int .i64 l.n)).setCell ⟨bx, 1, none⟩ (.slice A5 (l.links.length + 1) cap5)).setCell ⟨bx, 2, none⟩ (.slice aa l.left.length ac)).setCell ⟨bx, 3, none⟩ (.slice ba l.right.length bc) = vz at *
            refine hK' _ _ ⟨⟨⟨vz, HX.out hx⟩, rfl⟩, ?_⟩
            clear hK' K'
            refine ways_end (by kernel_rfl) ?_
            go_wp2
            go_meet
            case rel => exact ⟨bx, A5, cap5, rfl, hbw, nb_add hbx (by simpa using hown3) (HNA.out hx), hx⟩
          · refine ⟨_, _, (by rfl), (by rfl), ?_⟩
            intro K' hK'
            go_wp2
            have hs1 := Blk.new v2 60 #[.int .i64 mo.one, .int .i64 mo.two, .int .i64 mo.trust]
            have hbb := (Below.refl (v2).heap.size v2).alloc (Nat.le_refl _) (.cells #[.int .i64 mo.one, .int .i64 mo.two, .int .i64 mo.trust] 60)
            have hgssx : (v2).heap.size < ((v2).alloc (.cells #[.int .i64 mo.one, .int .i64 mo.two, .int .i64 mo.trust] 60)).heap.size := by simp
            replace hx := hx.trans (hbb.mono hx.size)
            replace hown := own_call hown hbb
            replace hbx := hbx.call hbb
            generalize (v2).alloc (.cells #[.int .i64 mo.one, .int .i64 mo.two, .int .i64 mo.trust] 60) = v3 at *
            generalize (v2).heap.size = sx at *
            refine hK' _ _ ⟨⟨⟨v3, HX.out hx⟩, rfl⟩, ?_⟩
            clear hK' K'
            clear hbb
            refine ways_1 5 (by kernel_rfl) ?_
            refine ⟨_, _, (by rfl), (by rfl), ?_⟩
            intro K' hK'
            refine wpList_appArr (sv := .slice (some ⟨eb, 0, none⟩) 0 0) slT_l3 rfl (.tmp 48) (.tmp 50) rfl rfl hown rfl (hla3.below hx) HONE.out hx.size (by omega) (by omega) ?_
            intro v' v4 hown2 hb2 hgr
            rw [Nat.zero_add, List.nil_append] at hown2
            obtain ⟨A3, cap3, rfl⟩ := own_form hown2
            replace hx := hx.trans hb2
            replace hs1 := hs1.grown hgr (fun e => absurd (show sx = eb by simpa [Value.ownBlock] using e) (by omega))
            replace hbx := hbx.grown hgr (own_blk_ne hown hbx (by decide))
            clear hown hgr hb2
            go_wp2
            refine hK' _ _ ⟨⟨⟨v4, HX.out hx⟩, rfl⟩, ?_⟩
            clear hK' K'
            refine ways_1 8 (by kernel_rfl) ?_
            refine ⟨_, _, (by rfl), (by rfl), ?_⟩
            intro K' hK'
            have harr1 : Arr v4 (v4).heap.size 3 (.slice (some ⟨sx, 0, none⟩) 1 1) [mo] lkcell := Arr.lit hs1 hs1.lt rfl (by simp) (by omega) (by simp [cellsOf, List.range_succ, lkcell])
            refine wpList_appArr (l := [mo]) slT_l3 rfl (.tmp 51) (.tmp 53) rfl rfl hown2 rfl harr1 (one_lks _) hx.size (by simp; omega) (by omega) ?_
            intro v5 v5 hown3 hb3 hgr3
            rw [← List.flatMap_append] at hown3
            obtain ⟨A5, cap5, rfl⟩ := own_form hown3
            replace hbx := hbx.grown hgr3 (own_blk_ne hown2 hbx (by decide))
            replace hx := hx.trans hb3
            clear hown2 hgr3 hb3 harr1 hs1
            go_wp2
            refine hK' _ _ ⟨⟨⟨v5, HX.out hx⟩, rfl⟩, ?_⟩
            clear hK' K'
            refine ways_q 13 (by rfl) (by rfl) (by kernel_rfl) (by kernel_rfl) (by kernel_rfl) (by rfl) ⟨⟨v5, HX.out hx⟩, rfl⟩ ?_
            intro K hK
            go_big_quiet_op
            go_big_quiet_on
            refine ways_1 15 (by kernel_rfl) ?_
            obtain ⟨z0, z1, z2, z3⟩ := hbx.c4
            have hfz := fun i => hbx.frozen i
            refine ⟨_, _, (by rfl), (by rfl), ?_⟩
            intro K' hK'
            go_wp2
            replace hown3 := own_grown hown3 (grown_put4 (w := v5) (g := bx) (o1 := 0) (o2 := 1) (o3 := 2) (o4 := 3) (.int .i64 l.n) (.slice A5 (l.links.length + 1) cap5) (.slice aa l.left.length ac) (.slice ba l.right.length bc)) (fun r e e2 => own_blk_ne hown3 hbx (by decide) (by rw [e2]; exact e))
            replace hbx := hbx.put4 (.int .i64 l.n) (.slice A5 (l.links.length + 1) cap5) (.slice aa l.left.length ac) (.slice ba l.right.length bc)
            replace hx := below_put4 (g := bx) (o1 := 0) (o2 := 1) (o3 := 2) (o4 := 3) hx hbw (.int .i64 l.n) (.slice A5 (l.links.length + 1) cap5) (.slice aa l.left.length ac) (.slice ba l.right.length bc)
            clear z0 z1 z2 z3 hfz
            generalize ((((v5).setCell ⟨bx, 0, none⟩ (.int .i64 l.n)).setCell ⟨bx, 1, none⟩ (.slice A5 (l.links.length + 1) cap5)).setCell ⟨bx, 2, none⟩ (.slice aa l.left.length ac)).setCell ⟨bx, 3, none⟩ (.slice ba l.right.length bc) = vz at *
            refine hK' _ _ ⟨⟨⟨vz, HX.out hx⟩, rfl⟩, ?_⟩
            clear hK' K'
            refine ways_end (by kernel_rfl) ?_
            go_wp2
            go_meet
            case rel => exact ⟨bx, A5, cap5, rfl, hbw, nb_add hbx (by simpa using hown3) (HNA.out hx), hx⟩
      · refine ⟨_, _, (by rfl), (by rfl), ?_⟩
        intro K' hK'
        go_wp2
        have hs1 := Blk.new v0 60 #[.int .i64 mo.one, .int .i64 mo.two, .int .i64 mo.trust]
        have hbb := (Below.refl (v0).heap.size v0).alloc (Nat.le_refl _) (.cells #[.int .i64 mo.one, .int .i64 mo.two, .int .i64 mo.trust] 60)
        have hgssx : (v0).heap.size < ((v0).alloc (.cells #[.int .i64 mo.one, .int .i64 mo.two, .int .i64 mo.trust] 60)).heap.size := by simp
        replace hx := hx.trans (hbb.mono hx.size)
        generalize (v0).alloc (.cells #[.int .i64 mo.one, .int .i64 mo.two, .int .i64 mo.trust] 60) = v1 at *
        generalize (v0).heap.size = sx at *
        refine hK' _ _ ⟨⟨⟨v1, HX.out hx⟩, rfl⟩, ?_⟩
        clear hK' K'
        clear hbb
        refine ways_2 2 14 (by kernel_rfl) ?_ ?_
        · refine ⟨_, _, (by rfl), (by rfl), ?_⟩
          intro K' hK'
          go_wp2
          have hown := own_empty v1 wq.heap.size 60 3 hx.size
          have hbb := (Below.refl (v1).heap.size v1).alloc (Nat.le_refl _) (.cells #[] 60)
          have hgseb : (v1).heap.size < ((v1).alloc (.cells #[] 60)).heap.size := by simp
          replace hx := hx.trans (hbb.mono hx.size)
          replace hs1 := hs1.call hbb
          generalize (v1).alloc (.cells #[] 60) = v2 at *
          generalize (v1).heap.size = eb at *
          refine hK' _ _ ⟨⟨⟨v2, HX.out hx⟩, rfl⟩, ?_⟩
          clear hK' K'
          clear hbb
          refine ways_2 5 14 (by kernel_rfl) ?_ ?_
          · refine ⟨_, _, (by rfl), (by rfl), ?_⟩
            intro K' hK'
            refine wpList_appArr (sv := .slice (some ⟨eb, 0, none⟩) 0 0) slT_l3 rfl (.tmp 48) (.tmp 50) rfl rfl hown rfl (hla3.below hx) HONE.out hx.size (by omega) (by omega) ?_
            intro v' v3 hown2 hb2 hgr
            rw [Nat.zero_add, List.nil_append] at hown2
            obtain ⟨A3, cap3, rfl⟩ := own_form hown2
            replace hx := hx.trans hb2
            replace hs1 := hs1.grown hgr (fun e => absurd (show sx = eb by simpa [Value.ownBlock] using e) (by omega))
            clear hown hgr hb2
            go_wp2
            refine hK' _ _ ⟨⟨⟨v3, HX.out hx⟩, rfl⟩, ?_⟩
            clear hK' K'
            refine ways_2 8 14 (by kernel_rfl) ?_ ?_
            · refine ⟨_, _, (by rfl), (by rfl), ?_⟩
              intro K' hK'
              have harr1 : Arr v3 (v3).heap.size 3 (.slice (some ⟨sx, 0, none⟩) 1 1) [mo] lkcell := Arr.lit hs1 hs1.lt rfl (by simp) (by omega) (by simp [cellsOf, List.range_succ, lkcell])
              refine wpList_appArr (l := [mo]) slT_l3 rfl (.tmp 51) (.tmp 53) rfl rfl hown2 rfl harr1 (one_lks _) hx.size (by simp; omega) (by omega) ?_
              intro v5 v4 hown3 hb3 hgr3
              rw [← List.flatMap_append] at hown3
              obtain ⟨A5, cap5, rfl⟩ := own_form hown3
              replace hx := hx.trans hb3
              clear hown2 hgr3 hb3 harr1 hs1
              go_wp2
              refine hK' _ _ ⟨⟨⟨v4, HX.out hx⟩, rfl⟩, ?_⟩
              clear hK' K'
              refine ways_q 13 (by rfl) (by rfl) (by kernel_rfl) (by kernel_rfl) (by kernel_rfl) (by rfl) ⟨⟨v4, HX.out hx⟩, rfl⟩ ?_
              intro K hK
              go_big_quiet_op
              go_big_quiet_on
              refine ways_1 14 (by kernel_rfl) ?_
              refine ⟨_, _, (by rfl), (by rfl), ?_⟩
              intro K' hK'
              go_wp2
              have hbx := Blk.new v4 25 #[.int .i64 0, .slice none 0 0, .slice none 0 0, .slice none 0 0]
              have hbw : wq.heap.size ≤ (v4).heap.size := hx.size
              have hbb := (Below.refl (v4).heap.size v4).alloc (Nat.le_refl _) (.cells #[.int .i64 0, .slice none 0 0, .slice none 0 0, .slice none 0 0] 25)
              have hgsbx : (v4).heap.size < ((v4).alloc (.cells #[.int .i64 0, .slice none 0 0, .slice none 0 0, .slice none 0 0] 25)).heap.size := by simp
              replace hx := hx.trans (hbb.mono hx.size)
              replace hown3 := own_call hown3 hbb
              generalize (v4).alloc (.cells #[.int .i64 0, .slice none 0 0, .slice none 0 0, .slice none 0 0] 25) = v5 at *
              generalize (v4).heap.size = bx at *
              refine hK' _ _ ⟨⟨⟨v5, HX.out hx⟩, rfl⟩, ?_⟩
              clear hK' K'
              clear hbb
              refine ways_1 15 (by kernel_rfl) ?_
              obtain ⟨z0, z1, z2, z3⟩ := hbx.c4
              have hfz := fun i => hbx.frozen i
              refine ⟨_, _, (by rfl), (by rfl), ?_⟩
              intro K' hK'
              go_wp2
              replace hown3 := own_grown hown3 (grown_put4 (w := v5) (g := bx) (o1 := 0) (o2 := 1) (o3 := 2) (o4 := 3) (.int .i64 l.n) (.slice A5 (l.links.length + 1) cap5) (.slice aa l.left.length ac) (.slice ba l.right.length bc)) (fun r e e2 => own_blk_ne hown3 hbx (by decide) (by rw [e2]; exact e))
              replace hbx := hbx.put4 (.int .i64 l.n) (.slice A5 (l.links.length + 1) cap5) (.slice aa l.left.length ac) (.slice ba l.right.length bc)
              replace hx := below_put4 (g := bx) (o1 := 0) (o2 := 1) (o3 := 2) (o4 := 3) hx hbw (.int .i64 l.n) (.slice A5 (l.links.length + 1) cap5) (.slice aa l.left.length ac) (.slice ba l.right.length bc)
              clear z0 z1 z2 z3 hfz
              generalize ((((v5).setCell ⟨bx, 0, none⟩ (.int .i64 l.n)).setCell ⟨bx, 1, none⟩ (.slice A5 (l.links.length + 1) cap5)).setCell ⟨bx, 2, none⟩ (.slice aa l.left.length ac)).setCell ⟨bx, 3, none⟩ (.slice ba l.right.length bc) = vz at *
              refine hK' _ _ ⟨⟨⟨vz, HX.out hx⟩, rfl⟩, ?_⟩
              clear hK' K'
              refine ways_end (by kernel_rfl) ?_
              go_wp2
              go_meet
              case rel => exact ⟨bx, A5, cap5, rfl, hbw, nb_add hbx (by simpa using hown3) (HNA.out hx), hx⟩
            · refine ⟨_, _, (by rfl), (by rfl), ?_⟩
              intro K' hK'
              go_wp2
              have hbx := Blk.new v3 25 #[.int .i64 0, .slice none 0 0, .slice none 0 0, .slice none 0 0]
              have hbw : wq.heap.size ≤ (v3).heap.size := hx.size
              have hbb := (Below.refl (v3).heap.size v3).alloc (Nat.le_refl _) (.cells #[.int .i64 0, .slice none 0 0, .slice none 0 0, .slice none 0 0] 25)
              have hgsbx : (v3).heap.size < ((v3).alloc (.cells #[.int .i64 0, .slice none 0 0, .slice none 0 0, .slice none 0 0] 25)).heap.size := by simp
              replace hx := hx.trans (hbb.mono hx.size)
              replace hown2 := own_call hown2 hbb
              replace hs1 := hs1.call hbb
              generalize (v3).alloc (.cells #[.int .i64 0, .slice none 0 0, .slice none 0 0, .slice none 0 0] 25) = v4 at *
              generalize (v3).heap.size = bx at *
              refine hK' _ _ ⟨⟨⟨v4, HX.out hx⟩, rfl⟩, ?_⟩
              clear hK' K'
              clear hbb
              refine ways_1 8 (by kernel_rfl) ?_
              refine ⟨_, _, (by rfl), (by rfl), ?_⟩
              intro K' hK'
              have harr1 : Arr v4 (v4).heap.size 3 (.slice (some ⟨sx, 0, none⟩) 1 1) [mo] lkcell := Arr.lit hs1 hs1.lt rfl (by simp) (by omega) (by simp [cellsOf, List.range_succ, lkcell])
              refine wpList_appArr (l := [mo]) slT_l3 rfl (.tmp 51) (.tmp 53) rfl rfl hown2 rfl harr1 (one_lks _) hx.size (by simp; omega) (by omega) ?_
              intro v5 v5 hown3 hb3 hgr3
              rw [← List.flatMap_append] at hown3
              obtain ⟨A5, cap5, rfl⟩ := own_form hown3
              replace hbx := hbx.grown hgr3 (own_blk_ne hown2 hbx (by decide))
              replace hx := hx.trans hb3
              clear hown2 hgr3 hb3 harr1 hs1
              go_wp2
              refine hK' _ _ ⟨⟨⟨v5, HX.out hx⟩, rfl⟩, ?_⟩
              clear hK' K'
              refine ways_q 13 (by rfl) (by rfl) (by kernel_rfl) (by kernel_rfl) (by kernel_rfl) (by rfl) ⟨⟨v5, HX.out hx⟩, rfl⟩ ?_
              intro K hK
              go_big_quiet_op
              go_big_quiet_on
              refine ways_1 15 (by kernel_rfl) ?_
              obtain ⟨z0, z1, z2, z3⟩ := hbx.c4
              have hfz := fun i => hbx.frozen i
              refine ⟨_, _, (by rfl), (by rfl), ?_⟩
              intro K' hK'
              go_wp2
              replace hown3 := own_grown hown3 (grown_put4 (w := v5) (g := bx) (o1 := 0) (o2 := 1) (o3 := 2) (o4 := 3) (.int .i64 l.n) (.slice A5 (l.links.length + 1) cap5) (.slice aa l.left.length ac) (.slice ba l.right.length bc)) (fun r e e2 => own_blk_ne hown3 hbx (by decide) (by rw [e2]; exact e))
              replace hbx := hbx.put4 (.int .i64 l.n) (.slice A5 (l.links.length + 1) cap5) (.slice aa l.left.length ac) (.slice ba l.right.length bc)
              replace hx := below_put4 (g := bx) (o1 := 0) (o2 := 1) (o3 := 2) (o4 := 3) hx hbw (.int .i64 l.n) (.slice A5 (l.links.length + 1) cap5) (.slice aa l.left.length ac) (.slice ba l.right.length bc)
              clear z0 z1 z2 z3 hfz
              generalize ((((v5).setCell ⟨bx, 0, none⟩ (.int .i64 l.n)).setCell ⟨bx, 1, none⟩ (.slice A5 (l.links.length + 1) cap5)).setCell ⟨bx, 2, none⟩ (.slice aa l.left.length ac)).setCell ⟨bx, 3, none⟩ (.slice ba l.right.length bc) = vz at *
              refine hK' _ _ ⟨⟨⟨vz, HX.out hx⟩, rfl⟩, ?_⟩
              clear hK' K'
              refine ways_end (by kernel_rfl) ?_
              go_wp2
              go_meet
              case rel => exact ⟨bx, A5, cap5, rfl, hbw, nb_add hbx (by simpa using hown3) (HNA.out hx), hx⟩
          · refine ⟨_, _, (by rfl), (by rfl), ?_⟩
            intro K' hK'
            go_wp2
            have hbx := Blk.new v2 25 #[.int .i64 0, .slice none 0 0, .slice none 0 0, .slice none 0 0]
            have hbw : wq.heap.size ≤ (v2).heap.size := hx.size
            have hbb := (Below.refl (v2).heap.size v2).alloc (Nat.le_refl _) (.cells #[.int .i64 0, .slice none 0 0, .slice none 0 0, .slice none 0 0] 25)
            have hgsbx : (v2).heap.size < ((v2).alloc (.cells #[.int .i64 0, .slice none 0 0, .slice none 0 0, .slice none 0 0] 25)).heap.size := by simp
            replace hx := hx.trans (hbb.mono hx.size)
            replace hown := own_call hown hbb
            replace hs1 := hs1.call hbb
            generalize (v2).alloc (.cells #[.int .i64 0, .slice none 0 0, .slice none 0 0, .slice none 0 0] 25) = v3 at *
            generalize (v2).heap.size = bx at *
            refine hK' _ _ ⟨⟨⟨v3, HX.out hx⟩, rfl⟩, ?_⟩
            clear hK' K'
            clear hbb
            refine ways_1 5 (by kernel_rfl) ?_
            refine ⟨_, _, (by rfl), (by rfl), ?_⟩
            intro K' hK'
            refine wpList_appArr (sv := .slice (some ⟨eb, 0, none⟩) 0 0) slT_l3 rfl (.tmp 48) (.tmp 50) rfl rfl hown rfl (hla3.below hx) HONE.out hx.size (by omega) (by omega) ?_
            intro v' v4 hown2 hb2 hgr
            rw [Nat.zero_add, List.nil_append] at hown2
            obtain ⟨A3, cap3, rfl⟩ := own_form hown2
            replace hx := hx.trans hb2
            replace hs1 := hs1.grown hgr (fun e => absurd (show sx = eb by simpa [Value.ownBlock] using e) (by omega))
            replace hbx := hbx.grown hgr (own_blk_ne hown hbx (by decide))
            clear hown hgr hb2
            go_wp2
            refine hK' _ _ ⟨⟨⟨v4, HX.out hx⟩, rfl⟩, ?_⟩
            clear hK' K'
            refine ways_1 8 (by kernel_rfl) ?_
            refine ⟨_, _, (by rfl), (by rfl), ?_⟩
            intro K' hK'
            have harr1 : Arr v4 (v4).heap.size 3 (.slice (some ⟨sx, 0, none⟩) 1 1) [mo] lkcell := Arr.lit hs1 hs1.lt rfl (by simp) (by omega) (by simp [cellsOf, List.range_succ, lkcell])
            refine wpList_appArr (l := [mo]) slT_l3 rfl (.tmp 51) (.tmp 53) rfl rfl hown2 rfl harr1 (one_lks _) hx.size (by simp; omega) (by omega) ?_
            intro v5 v5 hown3 hb3 hgr3
            rw [← List.flatMap_append] at hown3
            obtain ⟨A5, cap5, rfl⟩ := own_form hown3
            replace hbx := hbx.grown hgr3 (own_blk_ne hown2 hbx (by decide))
            replace hx := hx.trans hb3
            clear hown2 hgr3 hb3 harr1 hs1
            go_wp2
            refine hK' _ _ ⟨⟨⟨v5, HX.out hx⟩, rfl⟩, ?_⟩
            clear hK' K'
            refine ways_q 13 (by rfl) (by rfl) (by kernel_rfl) (by kernel_rfl) (by kernel_rfl) (by rfl) ⟨⟨v5, HX.out hx⟩, rfl⟩ ?_
            intro K hK
            go_big_quiet_op
            go_big_quiet_on
            refine ways_1 15 (by kernel_rfl) ?_
            obtain ⟨z0, z1, z2, z3⟩ := hbx.c4
            have hfz := fun i => hbx.frozen i
            refine ⟨_, _, (by rfl), (by rfl), ?_⟩
            intro K' hK'
            go_wp2
            replace hown3 := own_grown hown3 (grown_put4 (w := v5) (g := bx) (o1 := 0) (o2 := 1) (o3 := 2) (o4 := 3) (.int .i64 l.n) (.slice A5 (l.links.length + 1) cap5) (.slice aa l.left.length ac) (.slice ba l.right.length bc)) (fun r e e2 => own_blk_ne hown3 hbx (by decide) (by rw [e2]; exact e))
            replace hbx := hbx.put4 (.int .i64 l.n) (.slice A5 (l.links.length + 1) cap5) (.slice aa l.left.length ac) (.slice ba l.right.length bc)
            replace hx := below_put4 (g := bx) (o1 := 0) (o2 := 1) (o3 := 2) (o4 := 3) hx hbw (.int .i64 l.n) (.slice A5 (l.links.length + 1) cap5) (.slice aa l.left.length ac) (.slice ba l.right.length bc)
            clear z0 z1 z2 z3 hfz
            generalize ((((v5).setCell ⟨bx, 0, none⟩ (.int .i64 l.n)).setCell ⟨bx, 1, none⟩ (.slice A5 (l.links.length + 1) cap5)).setCell ⟨bx, 2, none⟩ (.slice aa l.left.length ac)).setCell ⟨bx, 3, none⟩ (.slice ba l.right.length bc) = vz at *
            refine hK' _ _ ⟨⟨⟨vz, HX.out hx⟩, rfl⟩, ?_⟩
            clear hK' K'
            refine ways_end (by kernel_rfl) ?_
            go_wp2
            go_meet
            case rel => exact ⟨bx, A5, cap5, rfl, hbw, nb_add hbx (by simpa using hown3) (HNA.out hx), hx⟩
        · refine ⟨_, _, (by rfl), (by rfl), ?_⟩
          intro K' hK'
          go_wp2
          have hbx := Blk.new v1 25 #[.int .i64 0, .slice none 0 0, .slice none 0 0, .slice none 0 0]
          have hbw : wq.heap.size ≤ (v1).heap.size := hx.size
          have hbb := (Below.refl (v1).heap.size v1).alloc (Nat.le_refl _) (.cells #[.int .i64 0, .slice none 0 0, .slice none 0 0, .slice none 0 0] 25)
          have hgsbx : (v1).heap.size < ((v1).alloc (.cells #[.int .i64 0, .slice none 0 0, .slice none 0 0, .slice none 0 0] 25)).heap.size := by simp
          replace hx := hx.trans (hbb.mono hx.size)
          replace hs1 := hs1.call hbb
          generalize (v1).alloc (.cells #[.int .i64 0, .slice none 0 0, .slice none 0 0, .slice none 0 0] 25) = v2 at *
          generalize (v1).heap.size = bx at *
          refine hK' _ _ ⟨⟨⟨v2, HX.out hx⟩, rfl⟩, ?_⟩
          clear hK' K'
          clear hbb
          refine ways_1 2 (by kernel_rfl) ?_
          refine ⟨_, _, (by rfl), (by rfl), ?_⟩
          intro K' hK'
          go_wp2
          have hown := own_empty v2 wq.heap.size 60 3 hx.size
          have hbb := (Below.refl (v2).heap.size v2).alloc (Nat.le_refl _) (.cells #[] 60)
          have hgseb : (v2).heap.size < ((v2).alloc (.cells #[] 60)).heap.size := by simp
          replace hx := hx.trans (hbb.mono hx.size)
          replace hs1 := hs1.call hbb
          replace hbx := hbx.call hbb
          generalize (v2).alloc (.cells #[] 60) = v3 at *
          generalize (v2).heap.size = eb at *
          refine hK' _ _ ⟨⟨⟨v3, HX.out hx⟩, rfl⟩, ?_⟩
          clear hK' K'
          clear hbb
          refine ways_1 5 (by kernel_rfl) ?_
          refine ⟨_, _, (by rfl), (by rfl), ?_⟩
          intro K' hK'
          refine wpList_appArr (sv := .slice (some ⟨eb, 0, none⟩) 0 0) slT_l3 rfl (.tmp 48) (.tmp 50) rfl rfl hown rfl (hla3.below hx) HONE.out hx.size (by omega) (by omega) ?_
          intro v' v4 hown2 hb2 hgr
          rw [Nat.zero_add, List.nil_append] at hown2
          obtain ⟨A3, cap3, rfl⟩ := own_form hown2
          replace hx := hx.trans hb2
          replace hs1 := hs1.grown hgr (fun e => absurd (show sx = eb by simpa [Value.ownBlock] using e) (by omega))
          replace hbx := hbx.grown hgr (own_blk_ne hown hbx (by decide))
          clear hown hgr hb2
          go_wp2
          refine hK' _ _ ⟨⟨⟨v4, HX.out hx⟩, rfl⟩, ?_⟩
          clear hK' K'
          refine ways_1 8 (by kernel_rfl) ?_
          refine ⟨_, _, (by rfl), (by rfl), ?_⟩
          intro K' hK'
          have harr1 : Arr v4 (v4).heap.size 3 (.slice (some ⟨sx, 0, none⟩) 1 1) [mo] lkcell := Arr.lit hs1 hs1.lt rfl (by simp) (by omega) (by simp [cellsOf, List.range_succ, lkcell])
          refine wpList_appArr (l := [mo]) slT_l3 rfl (.tmp 51) (.tmp 53) rfl rfl hown2 rfl harr1 (one_lks _) hx.size (by simp; omega) (by omega) ?_
          intro v5 v5 hown3 hb3 hgr3
          rw [← List.flatMap_append] at hown3
          obtain ⟨A5, cap5, rfl⟩ := own_form hown3
          replace hbx := hbx.grown hgr3 (own_blk_ne hown2 hbx (by decide))
          replace hx := hx.trans hb3
          clear hown2 hgr3 hb3 harr1 hs1
          go_wp2
          refine hK' _ _ ⟨⟨⟨v5, HX.out hx⟩, rfl⟩, ?_⟩
          clear hK' K'
          refine ways_q 13 (by rfl) (by rfl) (by kernel_rfl) (by kernel_rfl) (by kernel_rfl) (by rfl) ⟨⟨v5, HX.out hx⟩, rfl⟩ ?_
          intro K hK
          go_big_quiet_op
          go_big_quiet_on
          refine ways_1 15 (by kernel_rfl) ?_
          obtain ⟨z0, z1, z2, z3⟩ := hbx.c4
          have hfz := fun i => hbx.frozen i
          refine ⟨_, _, (by rfl), (by rfl), ?_⟩
          intro K' hK'
          go_wp2
          replace hown3 := own_grown hown3 (grown_put4 (w := v5) (g := bx) (o1 := 0) (o2 := 1) (o3 := 2) (o4 := 3) (.int .i64 l.n) (.slice A5 (l.links.length + 1) cap5) (.slice aa l.left.length ac) (.slice ba l.right.length bc)) (fun r e e2 => own_blk_ne hown3 hbx (by decide) (by rw [e2]; exact e))
          replace hbx := hbx.put4 (.int .i64 l.n) (.slice A5 (l.links.length + 1) cap5) (.slice aa l.left.length ac) (.slice ba l.right.length bc)
          replace hx := below_put4 (g := bx) (o1 := 0) (o2 := 1) (o3 := 2) (o4 := 3) hx hbw (.int .i64 l.n) (.slice A5 (l.links.length + 1) cap5) (.slice aa l.left.length ac) (.slice ba l.right.length bc)
          clear z0 z1 z2 z3 hfz
          generalize ((((v5).setCell ⟨bx, 0, none⟩ (.int .i64 l.n)).setCell ⟨bx, 1, none⟩ (.slice A5 (l.links.length + 1) cap5)).setCell ⟨bx, 2, none⟩ (.slice aa l.left.length ac)).setCell ⟨bx, 3, none⟩ (.slice ba l.right.length bc) = vz at *
          refine hK' _ _ ⟨⟨⟨vz, HX.out hx⟩, rfl⟩, ?_⟩
          clear hK' K'
          refine ways_end (by kernel_rfl) ?_
          go_wp2
          go_meet
          case rel => exact ⟨bx, A5, cap5, rfl, hbw, nb_add hbx (by simpa using hown3) (HNA.out hx), hx⟩
      · refine ⟨_, _, (by rfl), (by rfl), ?_⟩
        intro K' hK'
        go_wp2
        have hbx := Blk.new v0 25 #[.int .i64 0, .slice none 0 0, .slice none 0 0, .slice none 0 0]
        have hbw : wq.heap.size ≤ (v0).heap.size := hx.size
        have hbb := (Below.refl (v0).heap.size v0).alloc (Nat.le_refl _) (.cells #[.int .i64 0, .slice none 0 0, .slice none 0 0, .slice none 0 0] 25)
        have hgsbx : (v0).heap.size < ((v0).alloc (.cells #[.int .i64 0, .slice none 0 0, .slice none 0 0, .slice none 0 0] 25)).heap.size := by simp
        replace hx := hx.trans (hbb.mono hx.size)
        generalize (v0).alloc (.cells #[.int .i64 0, .slice none 0 0, .slice none 0 0, .slice none 0 0] 25) = v1 at *
        generalize (v0).heap.size = bx at *
        refine hK' _ _ ⟨⟨⟨v1, HX.out hx⟩, rfl⟩, ?_⟩
        clear hK' K'
        clear hbb
        refine ways_2 2 7 (by kernel_rfl) ?_ ?_
        · refine ⟨_, _, (by rfl), (by rfl), ?_⟩
          intro K' hK'
          go_wp2
          have hown := own_empty v1 wq.heap.size 60 3 hx.size
          have hbb := (Below.refl (v1).heap.size v1).alloc (Nat.le_refl _) (.cells #[] 60)
          have hgseb : (v1).heap.size < ((v1).alloc (.cells #[] 60)).heap.size := by simp
          replace hx := hx.trans (hbb.mono hx.size)
          replace hbx := hbx.call hbb
          generalize (v1).alloc (.cells #[] 60) = v2 at *
          generalize (v1).heap.size = eb at *
          refine hK' _ _ ⟨⟨⟨v2, HX.out hx⟩, rfl⟩, ?_⟩
          clear hK' K'
          clear hbb
          refine ways_2 5 7 (by kernel_rfl) ?_ ?_
          · refine ⟨_, _, (by rfl), (by rfl), ?_⟩
            intro K' hK'
            refine wpList_appArr (sv := .slice (some ⟨eb, 0, none⟩) 0 0) slT_l3 rfl (.tmp 48) (.tmp 50) rfl rfl hown rfl (hla3.below hx) HONE.out hx.size (by omega) (by omega) ?_
            intro v' v3 hown2 hb2 hgr
            rw [Nat.zero_add, List.nil_append] at hown2
            obtain ⟨A3, cap3, rfl⟩ := own_form hown2
            replace hx := hx.trans hb2
            replace hbx := hbx.grown hgr (own_blk_ne hown hbx (by decide))
            clear hown hgr hb2
            go_wp2
            refine hK' _ _ ⟨⟨⟨v3, HX.out hx⟩, rfl⟩, ?_⟩
            clear hK' K'
            refine ways_1 7 (by kernel_rfl) ?_
            refine ⟨_, _, (by rfl), (by rfl), ?_⟩
            intro K' hK'
            go_wp2
            have hs1 := Blk.new v3 60 #[.int .i64 mo.one, .int .i64 mo.two, .int .i64 mo.trust]
            have hbb := (Below.refl (v3).heap.size v3).alloc (Nat.le_refl _) (.cells #[.int .i64 mo.one, .int .i64 mo.two, .int .i64 mo.trust] 60)
            have hgssx : (v3).heap.size < ((v3).alloc (.cells #[.int .i64 mo.one, .int .i64 mo.two, .int .i64 mo.trust] 60)).heap.size := by simp
            replace hx := hx.trans (hbb.mono hx.size)
            replace hown2 := own_call hown2 hbb
            replace hbx := hbx.call hbb
            generalize (v3).alloc (.cells #[.int .i64 mo.one, .int .i64 mo.two, .int .i64 mo.trust] 60) = v4 at *
            generalize (v3).heap.size = sx at *
            refine hK' _ _ ⟨⟨⟨v4, HX.out hx⟩, rfl⟩, ?_⟩
            clear hK' K'
            clear hbb
            refine ways_1 8 (by kernel_rfl) ?_
            refine ⟨_, _, (by rfl), (by rfl), ?_⟩
            intro K' hK'
            have harr1 : Arr v4 (v4).heap.size 3 (.slice (some ⟨sx, 0, none⟩) 1 1) [mo] lkcell := Arr.lit hs1 hs1.lt rfl (by simp) (by omega) (by simp [cellsOf, List.range_succ, lkcell])
            refine wpList_appArr (l := [mo]) slT_l3 rfl (.tmp 51) (.tmp 53) rfl rfl hown2 rfl harr1 (one_lks _) hx.size (by simp; omega) (by omega) ?_
            intro v5 v5 hown3 hb3 hgr3
            rw [← List.flatMap_append] at hown3
            obtain ⟨A5, cap5, rfl⟩ := own_form hown3
            replace hbx := hbx.grown hgr3 (own_blk_ne hown2 hbx (by decide))
            replace hx := hx.trans hb3
            clear hown2 hgr3 hb3 harr1 hs1
            go_wp2
            refine hK' _ _ ⟨⟨⟨v5, HX.out hx⟩, rfl⟩, ?_⟩
            clear hK' K'
            refine ways_q 13 (by rfl) (by rfl) (by kernel_rfl) (by kernel_rfl) (by kernel_rfl) (by rfl) ⟨⟨v5, HX.out hx⟩, rfl⟩ ?_
            intro K hK
            go_big_quiet_op
            go_big_quiet_on
            refine ways_1 15 (by kernel_rfl) ?_
            obtain ⟨z0, z1, z2, z3⟩ := hbx.c4
            have hfz := fun i => hbx.frozen i
            refine ⟨_, _, (by rfl), (by rfl), ?_⟩
            intro K' hK'
            go_wp2
            replace hown3 := own_grown hown3 (grown_put4 (w := v5) (g := bx) (o1 := 0) (o2 := 1) (o3 := 2) (o4 := 3) (.int .i64 l.n) (.slice A5 (l.links.length + 1) cap5) (.slice aa l.left.length ac) (.slice ba l.right.length bc)) (fun r e e2 => own_blk_ne hown3 hbx (by decide) (by rw [e2]; exact e))
            replace hbx := hbx.put4 (.int .i64 l.n) (.slice A5 (l.links.length + 1) cap5) (.slice aa l.left.length ac) (.slice ba l.right.length bc)
            replace hx := below_put4 (g := bx) (o1 := 0) (o2 := 1) (o3 := 2) (o4 := 3) hx hbw (.int .i64 l.n) (.slice A5 (l.links.length + 1) cap5) (.slice aa l.left.length ac) (.slice ba l.right.length bc)
            clear z0 z1 z2 z3 hfz
            generalize ((((v5).setCell ⟨bx, 0, none⟩ (.int .i64 l.n)).setCell ⟨bx, 1, none⟩ (.slice A5 (l.links.length + 1) cap5)).setCell ⟨bx, 2, none⟩ (.slice aa l.left.length ac)).setCell ⟨bx, 3, none⟩ (.slice ba l.right.length bc) = vz at *
            refine hK' _ _ ⟨⟨⟨vz, HX.out hx⟩, rfl⟩, ?_⟩
            clear hK' K'
            refine ways_end (by kernel_rfl) ?_
            go_wp2
            go_meet
            case rel => exact ⟨bx, A5, cap5, rfl, hbw, nb_add hbx (by simpa using hown3) (HNA.out hx), hx⟩
          · refine ⟨_, _, (by rfl), (by rfl), ?_⟩
            intro K' hK'
            go_wp2
            have hs1 := Blk.new v2 60 #[.int .i64 mo.one, .int .i64 mo.two, .int .i64 mo.trust]
            have hbb := (Below.refl (v2).heap.size v2).alloc (Nat.le_refl _) (.cells #[.int .i64 mo.one, .int .i64 mo.two, .int .i64 mo.trust] 60)
            have hgssx : (v2).heap.size < ((v2).alloc (.cells #[.int .i64 mo.one, .int .i64 mo.two, .int .i64 mo.trust] 60)).heap.size := by simp
            replace hx := hx.trans (hbb.mono hx.size)
            replace hown := own_call hown hbb
            replace hbx := hbx.call hbb
            generalize (v2).alloc (.cells #[.int .i64 mo.one, .int .i64 mo.two, .int .i64 mo.trust] 60) = v3 at *
            generalize (v2).heap.size = sx at *
            refine hK' _ _ ⟨⟨⟨v3, HX.out hx⟩, rfl⟩, ?_⟩
            clear hK' K'
            clear hbb
            refine ways_1 5 (by kernel_rfl) ?_
            refine ⟨_, _, (by rfl), (by rfl), ?_⟩
            intro K' hK'
            refine wpList_appArr (sv := .slice (some ⟨eb, 0, none⟩) 0 0) slT_l3 rfl (.tmp 48) (.tmp 50) rfl rfl hown rfl (hla3.below hx) HONE.out hx.size (by omega) (by omega) ?_
            intro v' v4 hown2 hb2 hgr
            rw [Nat.zero_add, List.nil_append] at hown2
            obtain ⟨A3, cap3, rfl⟩ := own_form hown2
            replace hx := hx.trans hb2
            replace hs1 := hs1.grown hgr (fun e => absurd (show sx = eb by simpa [Value.ownBlock] using e) (by omega))
            replace hbx := hbx.grown hgr (own_blk_ne hown hbx (by decide))
            clear hown hgr hb2
            go_wp2
            refine hK' _ _ ⟨⟨⟨v4, HX.out hx⟩, rfl⟩, ?_⟩
            clear hK' K'
            refine ways_1 8 (by kernel_rfl) ?_
            refine ⟨_, _, (by rfl), (by rfl), ?_⟩
            intro K' hK'
            have harr1 : Arr v4 (v4).heap.size 3 (.slice (some ⟨sx, 0, none⟩) 1 1) [mo] lkcell := Arr.lit hs1 hs1.lt rfl (by simp) (by omega) (by simp [cellsOf, List.range_succ, lkcell])
            refine wpList_appArr (l := [mo]) slT_l3 rfl (.tmp 51) (.tmp 53) rfl rfl hown2 rfl harr1 (one_lks _) hx.size (by simp; omega) (by omega) ?_
            intro v5 v5 hown3 hb3 hgr3
            rw [← List.flatMap_append] at hown3
            obtain ⟨A5, cap5, rfl⟩ := own_form hown3
            replace hbx := hbx.grown hgr3 (own_blk_ne hown2 hbx (by decide))
            replace hx := hx.trans hb3
            clear hown2 hgr3 hb3 harr1 hs1
            go_wp2
            refine hK' _ _ ⟨⟨⟨v5, HX.out hx⟩, rfl⟩, ?_⟩
            clear hK' K'
            refine ways_q 13 (by rfl) (by rfl) (by kernel_rfl) (by kernel_rfl) (by kernel_rfl) (by rfl) ⟨⟨v5, HX.out hx⟩, rfl⟩ ?_
            intro K hK
            go_big_quiet_op
            go_big_quiet_on
            refine ways_1 15 (by kernel_rfl) ?_
            obtain ⟨z0, z1, z2, z3⟩ := hbx.c4
            have hfz := fun i => hbx.frozen i
            refine ⟨_, _, (by rfl), (by rfl), ?_⟩
            intro K' hK'
            go_wp2
            replace hown3 := own_grown hown3 (grown_put4 (w := v5) (g := bx) (o1 := 0) (o2 := 1) (o3 := 2) (o4 := 3) (.int .i64 l.n) (.slice A5 (l.links.length + 1) cap5) (.slice aa l.left.length ac) (.slice ba l.right.length bc)) (fun r e e2 => own_blk_ne hown3 hbx (by decide) (by rw [e2]; exact e))
            replace hbx := hbx.put4 (.int .i64 l.n) (.slice A5 (l.links.length + 1) cap5) (.slice aa l.left.length ac) (.slice ba l.right.length bc)
            replace hx := below_put4 (g := bx) (o1 := 0) (o2 := 1) (o3 := 2) (o4 := 3) hx hbw (.int .i64 l.n) (.slice A5 (l.links.length + 1) cap5) (.slice aa l.left.length ac) (.slice ba l.right.length bc)
            clear z0 z1 z2 z3 hfz
            generalize ((((v5).setCell ⟨bx, 0, none⟩ (.int .i64 l.n)).setCell ⟨bx, 1, none⟩ (.slice A5 (l.links.length + 1) cap5)).setCell ⟨bx, 2, none⟩ (.slice aa l.left.length ac)).setCell ⟨bx, 3, none⟩ (.slice ba l.right.length bc) = vz at *
            refine hK' _ _ ⟨⟨⟨vz, HX.out hx⟩, rfl⟩, ?_⟩
            clear hK' K'
            refine ways_end (by kernel_rfl) ?_
            go_wp2
            go_meet
            case rel => exact ⟨bx, A5, cap5, rfl, hbw, nb_add hbx (by simpa using hown3) (HNA.out hx), hx⟩
        · refine ⟨_, _, (by rfl), (by rfl), ?_⟩
          intro K' hK'
          go_wp2
          have hs1 := Blk.new v1 60 #[.int .i64 mo.one, .int .i64 mo.two, .int .i64 mo.trust]
          have hbb := (Below.refl (v1).heap.size v1).alloc (Nat.le_refl _) (.cells #[.int .i64 mo.one, .int .i64 mo.two, .int .i64 mo.trust] 60)
          have hgssx : (v1).heap.size < ((v1).alloc (.cells #[.int .i64 mo.one, .int .i64 mo.two, .int .i64 mo.trust] 60)).heap.size := by simp
          replace hx := hx.trans (hbb.mono hx.size)
          replace hbx := hbx.call hbb
          generalize (v1).alloc (.cells #[.int .i64 mo.one, .int .i64 mo.two, .int .i64 mo.trust] 60) = v2 at *
          generalize (v1).heap.size = sx at *
          refine hK' _ _ ⟨⟨⟨v2, HX.out hx⟩, rfl⟩, ?_⟩
          clear hK' K'
          clear hbb
          refine ways_1 2 (by kernel_rfl) ?_
          refine ⟨_, _, (by rfl), (by rfl), ?_⟩
          intro K' hK'
          go_wp2
          have hown := own_empty v2 wq.heap.size 60 3 hx.size
          have hbb := (Below.refl (v2).heap.size v2).alloc (Nat.le_refl _) (.cells #[] 60)
          have hgseb : (v2).heap.size < ((v2).alloc (.cells #[] 60)).heap.size := by simp
          replace hx := hx.trans (hbb.mono hx.size)
          replace hs1 := hs1.call hbb
          replace hbx := hbx.call hbb
          generalize (v2).alloc (.cells #[] 60) = v3 at *
          generalize (v2).heap.size = eb at *
          refine hK' _ _ ⟨⟨⟨v3, HX.out hx⟩, rfl⟩, ?_⟩
          clear hK' K'
          clear hbb
          refine ways_1 5 (by kernel_rfl) ?_
          refine ⟨_, _, (by rfl), (by rfl), ?_⟩
          intro K' hK'
          refine wpList_appArr (sv := .slice (some ⟨eb, 0, none⟩) 0 0) slT_l3 rfl (.tmp 48) (.tmp 50) rfl rfl hown rfl (hla3.below hx) HONE.out hx.size (by omega) (by omega) ?_
          intro v' v4 hown2 hb2 hgr
          rw [Nat.zero_add, List.nil_append] at hown2
          obtain ⟨A3, cap3, rfl⟩ := own_form hown2
          replace hx := hx.trans hb2
          replace hs1 := hs1.grown hgr (fun e => absurd (show sx = eb by simpa [Value.ownBlock] using e) (by omega))
          replace hbx := hbx.grown hgr (own_blk_ne hown hbx (by decide))
          clear hown hgr hb2
          go_wp2
          refine hK' _ _ ⟨⟨⟨v4, HX.out hx⟩, rfl⟩, ?_⟩
          clear hK' K'
          refine ways_1 8 (by kernel_rfl) ?_
          refine ⟨_, _, (by rfl), (by rfl), ?_⟩
          intro K' hK'
          have harr1 : Arr v4 (v4).heap.size 3 (.slice (some ⟨sx, 0, none⟩) 1 1) [mo] lkcell := Arr.lit hs1 hs1.lt rfl (by simp) (by omega) (by simp [cellsOf, List.range_succ, lkcell])
          refine wpList_appArr (l := [mo]) slT_l3 rfl (.tmp 51) (.tmp 53) rfl rfl hown2 rfl harr1 (one_lks _) hx.size (by simp; omega) (by omega) ?_
          intro v5 v5 hown3 hb3 hgr3
          rw [← List.flatMap_append] at hown3
          obtain ⟨A5, cap5, rfl⟩ := own_form hown3
          replace hbx := hbx.grown hgr3 (own_blk_ne hown2 hbx (by decide))
          replace hx := hx.trans hb3
          clear hown2 hgr3 hb3 harr1 hs1
          go_wp2
          refine hK' _ _ ⟨⟨⟨v5, HX.out hx⟩, rfl⟩, ?_⟩
          clear hK' K'
          refine ways_q 13 (by rfl) (by rfl) (by kernel_rfl) (by kernel_rfl) (by kernel_rfl) (by rfl) ⟨⟨v5, HX.out hx⟩, rfl⟩ ?_
          intro K hK
          go_big_quiet_op
          go_big_quiet_on
          refine ways_1 15 (by kernel_rfl) ?_
          obtain ⟨z0, z1, z2, z3⟩ := hbx.c4
          have hfz := fun i => hbx.frozen i
          refine ⟨_, _, (by rfl), (by rfl), ?_⟩
          intro K' hK'
          go_wp2
          replace hown3 := own_grown hown3 (grown_put4 (w := v5) (g := bx) (o1 := 0) (o2 := 1) (o3 := 2) (o4 := 3) (.int .i64 l.n) (.slice A5 (l.links.length + 1) cap5) (.slice aa l.left.length ac) (.slice ba l.right.length bc)) (fun r e e2 => own_blk_ne hown3 hbx (by decide) (by rw [e2]; exact e))
          replace hbx := hbx.put4 (.int .i64 l.n) (.slice A5 (l.links.length + 1) cap5) (.slice aa l.left.length ac) (.slice ba l.right.length bc)
          replace hx := below_put4 (g := bx) (o1 := 0) (o2 := 1) (o3 := 2) (o4 := 3) hx hbw (.int .i64 l.n) (.slice A5 (l.links.length + 1) cap5) (.slice aa l.left.length ac) (.slice ba l.right.length bc)
          clear z0 z1 z2 z3 hfz
          generalize ((((v5).setCell ⟨bx, 0, none⟩ (.int .i64 l.n)).setCell ⟨bx, 1, none⟩ (.slice A5 (l.links.length + 1) cap5)).setCell ⟨bx, 2, none⟩ (.slice aa l.left.length ac)).setCell ⟨bx, 3, none⟩ (.slice ba l.right.length bc) = vz at *
          refine hK' _ _ ⟨⟨⟨vz, HX.out hx⟩, rfl⟩, ?_⟩
          clear hK' K'
          refine ways_end (by kernel_rfl) ?_
          go_wp2
          go_meet
          case rel => exact ⟨bx, A5, cap5, rfl, hbw, nb_add hbx (by simpa using hown3) (HNA.out hx), hx⟩
    case rest =>
      obtain ⟨bx, xA, xc, rfl, hbw, hNX, hb⟩ := hcut
      replace hE := hE.call hb
      replace hB := hB.trans ((hb).mono hB.size)
      replace hX := hX.call hb
      replace hM := hM.call hb
      obtain ⟨w3, hw3⟩ : ∃ w3 : World, w3 = wc := ⟨_, rfl⟩
      rw [← hw3] at hE hB hX hM hNX ⊢
      clear hb hw3 f0 f1 f2 f3 f4 f5 f6 hla3 HONE HX HNA HEQ hbw
      obtain ⟨FX, hFX⟩ : ∃ F, F = fineN (addN l mo) := ⟨_, rfl⟩
      have hfx := lfine_ok _ (addN l mo) w3 hNX.v
      rw [← hFX] at hfx
      have HFX := Lib.hid hFX
      clear hFX
      obtain ⟨k0, k1, k2, k3⟩ := (hNX).blk.c4
      go_wp2_with fail
      refine (hfx).mono ?_
      rintro e w4 hp
      clear k0 k1 k2 k3
      obtain ⟨rfl, hb⟩ := hp
      replace hE := hE.call hb
      replace hB := hB.trans ((hb).mono hB.size)
      replace hX := hX.call hb
      replace hM := hM.call hb
      replace hNX := hNX.call hb
      clear hb hfx
      go_upto_if 61 with (fail)
      go_cut [] from 62 to 83 (fun wx => Below w4.heap.size w4 wx)
      case first =>
        cases FX
        · go_wp2
          go_meet
          case rel => exact Below.refl _ _
        · have hgx := check_good.1 (fineN_iff.1 HFX.out.symm)
          obtain ⟨hle1, hle2⟩ := HCA.out hgx
          obtain ⟨hmo1, hmo2⟩ := (hgx.link mo (by show mo ∈ l.links ++ [mo]; simp)).2.2.2.2.2
          have h1 := least_ok _ (addN l mo) w4 hNX.v
          rw [lstC_eq hgx, check_good.2 hgx] at h1
          generalize costL (addN l mo) = cm at *
          have d1 : decide (cm < cn) = false := decide_eq_false (by omega)
          have wr1 : IntKind.i64.wrap (cn + mo.trust) = cn + mo.trust := wrap_id _ (by omega) (by omega)
          have wr2 : wrap64 (cn + mo.trust) = cn + mo.trust := IntWalk.wrap64_in _ ⟨by omega, by omega⟩
          have d2 : decide (cn + mo.trust < cm) = false := decide_eq_false (by omega)
          clear hgx hle1 hle2 hmo1 hmo2
          obtain ⟨k0, k1, k2, k3⟩ := (hNX).blk.c4
          go_wp2_with fail
          refine (h1).mono ?_
          rintro e w5 hp
          clear k0 k1 k2 k3
          obtain ⟨sv, rfl, hS, hb⟩ := hp
          obtain ⟨sA, sc, rfl, -⟩ := id hS
          replace hM := hM.call hb
          have m2 := hM.cell 2
          simp at m2
          clear h1 hS
          go_wp2
          go_meet
          case rel => exact hb
      case rest =>
        have hb := hcut
        replace hE := hE.call hb
        replace hB := hB.trans ((hb).mono hB.size)
        replace hX := hX.call hb
        obtain ⟨wq, hwq⟩ : ∃ wq : World, wq = wc := ⟨_, rfl⟩
        rw [← hwq] at hE hB hX ⊢
        clear hb hcut hwq hNX hM HFX HCA
        obtain ⟨k0, k1, k2, k3⟩ := hE.blk.c4
        rcases Nat.eq_zero_or_pos l.links.length with hz | hz
        · have ez : ((l.links.length : Int) == 0) = true := by rw [hz]; rfl
          clear hz
          go_wp2_with fail
          refine (lworks_ok _).mono ?_
          rintro e wz ⟨rfl, hbz⟩
          have hBz := hB.trans (hbz.mono hB.size)
          go_wp2
          try rw [Exit.noGoto_ret]
          go_ret
          exact ⟨rfl, hBz⟩
        · obtain ⟨kx, hkx⟩ : ∃ kx, kx = wh % l.links.length := ⟨_, rfl⟩
          have hkl : kx < l.links.length := by rw [hkx]; exact Nat.mod_lt _ hz
          have hki : (kx : Int) < (l.links.length : Int) := by omega
          have nz : ((l.links.length : Int) == 0) = false := beq_false_of_ne (by omega)
          have m1 : (wh : Int).tmod (l.links.length : Int) = (kx : Int) := by rw [hkx]; rfl
          have c1 : IntKind.i64.wrap (wh : Int) = wh := wrap_id _ (by omega) (by omega)
          have c3 : IntKind.i64.wrap (kx : Int) = kx := wrap_id _ (by omega) (by omega)
          clear hkx
          go_upto_region 14 with (fail)
          clear nz m1 c1 c3
          have f0 := Ext.of k0
          have f1 := Ext.of k1
          have f2 := Ext.of k2
          have f3 := Ext.of k3
          have hla3 := hE.na.ks
          have HONE := Lib.hid (one_lks l.links)
          have HX : Hid (∀ {w' : World}, Below wq.heap.size wq w' → Below wq.heap.size wq w') := fun {w'} h => h
          clear k0 k1 k2 k3
          go_cut [19] from 94 to 105 (fun g wx => ∃ bx xA xc, g = .pointer (some ⟨bx, 0, none⟩) ∧ wq.heap.size ≤ bx ∧ Blk wx bx 25 #[.int .i64 l.n, .slice xA l.links.length xc, .slice aa l.left.length ac, .slice ba l.right.length bc] ∧ wx.ownsRow wq.heap.size 60 3 (.slice xA l.links.length xc) l.links.length (l.links.flatMap (cellsOf 3 lkcell)) ∧ Below wq.heap.size wq wx)
          case first =>
            refine ways_start 13 (fun w' => ∃ x : Ext wq, w' = x.w) (by rfl) (by kernel_rfl) ?_
            have hx : Below wq.heap.size wq wq.drew := (Below.refl wq.heap.size wq).drew
            generalize wq.drew = v0 at *
            refine ways_q 0 (by rfl) (by rfl) (by kernel_rfl) (by kernel_rfl) (by kernel_rfl) (by rfl) ⟨⟨v0, HX.out hx⟩, rfl⟩ ?_
            intro K hK
            go_big_quiet_op
            go_big_quiet_on
            refine ways_q 1 (by rfl) (by rfl) (by kernel_rfl) (by kernel_rfl) (by kernel_rfl) (by rfl) ⟨⟨v0, HX.out hx⟩, rfl⟩ ?_
            intro K hK
            go_big_quiet_op
            go_big_quiet_on
            refine ways_q 3 (by rfl) (by rfl) (by kernel_rfl) (by kernel_rfl) (by kernel_rfl) (by rfl) ⟨⟨v0, HX.out hx⟩, rfl⟩ ?_
            intro K hK
            go_big_quiet_op
            go_big_quiet_on
            refine ways_q 4 (by rfl) (by rfl) (by kernel_rfl) (by kernel_rfl) (by kernel_rfl) (by rfl) ⟨⟨v0, HX.out hx⟩, rfl⟩ ?_
            intro K hK
            go_big_quiet_op
            go_big_quiet_on
            refine ways_q 6 (by rfl) (by rfl) (by kernel_rfl) (by kernel_rfl) (by kernel_rfl) (by rfl) ⟨⟨v0, HX.out hx⟩, rfl⟩ ?_
            intro K hK
            go_big_quiet_op
            go_big_quiet_on
            refine ways_q 7 (by rfl) (by rfl) (by kernel_rfl) (by kernel_rfl) (by kernel_rfl) (by rfl) ⟨⟨v0, HX.out hx⟩, rfl⟩ ?_
            intro K hK
            go_big_quiet_op
            go_big_quiet_on
            refine ways_q 8 (by rfl) (by rfl) (by kernel_rfl) (by kernel_rfl) (by kernel_rfl) (by rfl) ⟨⟨v0, HX.out hx⟩, rfl⟩ ?_
            intro K hK
            go_big_quiet_op
            go_big_quiet_on
            refine ways_q 9 (by rfl) (by rfl) (by kernel_rfl) (by kernel_rfl) (by kernel_rfl) (by rfl) ⟨⟨v0, HX.out hx⟩, rfl⟩ ?_
            intro K hK
            go_big_quiet_op
            go_big_quiet_on
            refine ways_2 2 11 (by kernel_rfl) ?_ ?_
            · refine ⟨_, _, (by rfl), (by rfl), ?_⟩
              intro K' hK'
              go_wp2
              have hown := own_empty v0 wq.heap.size 60 3 hx.size
              have hbb := (Below.refl (v0).heap.size v0).alloc (Nat.le_refl _) (.cells #[] 60)
              have hgseb : (v0).heap.size < ((v0).alloc (.cells #[] 60)).heap.size := by simp
              replace hx := hx.trans (hbb.mono hx.size)
              generalize (v0).alloc (.cells #[] 60) = v1 at *
              generalize (v0).heap.size = eb at *
              refine hK' _ _ ⟨⟨⟨v1, HX.out hx⟩, rfl⟩, ?_⟩
              clear hK' K'
              clear hbb
              refine ways_2 5 11 (by kernel_rfl) ?_ ?_
              · refine ⟨_, _, (by rfl), (by rfl), ?_⟩
                intro K' hK'
                refine wpList_appArr (sv := .slice (some ⟨eb, 0, none⟩) 0 0) slT_l3 rfl (.tmp 96) (.tmp 98) rfl rfl hown rfl (hla3.below hx) HONE.out hx.size (by omega) (by omega) ?_
                intro v' v2 hown2 hb2 hgr
                rw [Nat.zero_add, List.nil_append] at hown2
                obtain ⟨A3, cap3, rfl⟩ := own_form hown2
                replace hx := hx.trans hb2
                clear hown hgr hb2
                go_wp2
                refine hK' _ _ ⟨⟨⟨v2, HX.out hx⟩, rfl⟩, ?_⟩
                clear hK' K'
                refine ways_q 10 (by rfl) (by rfl) (by kernel_rfl) (by kernel_rfl) (by kernel_rfl) (by rfl) ⟨⟨v2, HX.out hx⟩, rfl⟩ ?_
                intro K hK
                go_big_quiet_op
                go_big_quiet_on
                refine ways_1 11 (by kernel_rfl) ?_
                refine ⟨_, _, (by rfl), (by rfl), ?_⟩
                intro K' hK'
                go_wp2
                have hbx := Blk.new v2 25 #[.int .i64 0, .slice none 0 0, .slice none 0 0, .slice none 0 0]
                have hbw : wq.heap.size ≤ (v2).heap.size := hx.size
                have hbb := (Below.refl (v2).heap.size v2).alloc (Nat.le_refl _) (.cells #[.int .i64 0, .slice none 0 0, .slice none 0 0, .slice none 0 0] 25)
                have hgsbx : (v2).heap.size < ((v2).alloc (.cells #[.int .i64 0, .slice none 0 0, .slice none 0 0, .slice none 0 0] 25)).heap.size := by simp
                replace hx := hx.trans (hbb.mono hx.size)
                replace hown2 := own_call hown2 hbb
                generalize (v2).alloc (.cells #[.int .i64 0, .slice none 0 0, .slice none 0 0, .slice none 0 0] 25) = v3 at *
                generalize (v2).heap.size = bx at *
                refine hK' _ _ ⟨⟨⟨v3, HX.out hx⟩, rfl⟩, ?_⟩
                clear hK' K'
                clear hbb
                refine ways_1 12 (by kernel_rfl) ?_
                obtain ⟨z0, z1, z2, z3⟩ := hbx.c4
                have hfz := fun i => hbx.frozen i
                refine ⟨_, _, (by rfl), (by rfl), ?_⟩
                intro K' hK'
                go_wp2
                replace hown2 := own_grown hown2 (grown_put4 (w := v3) (g := bx) (o1 := 0) (o2 := 1) (o3 := 2) (o4 := 3) (.int .i64 l.n) (.slice A3 l.links.length cap3) (.slice aa l.left.length ac) (.slice ba l.right.length bc)) (fun r e e2 => own_blk_ne hown2 hbx (by decide) (by rw [e2]; exact e))
                replace hbx := hbx.put4 (.int .i64 l.n) (.slice A3 l.links.length cap3) (.slice aa l.left.length ac) (.slice ba l.right.length bc)
                replace hx := below_put4 (g := bx) (o1 := 0) (o2 := 1) (o3 := 2) (o4 := 3) hx hbw (.int .i64 l.n) (.slice A3 l.links.length cap3) (.slice aa l.left.length ac) (.slice ba l.right.length bc)
                clear z0 z1 z2 z3 hfz
                generalize ((((v3).setCell ⟨bx, 0, none⟩ (.int .i64 l.n)).setCell ⟨bx, 1, none⟩ (.slice A3 l.links.length cap3)).setCell ⟨bx, 2, none⟩ (.slice aa l.left.length ac)).setCell ⟨bx, 3, none⟩ (.slice ba l.right.length bc) = vz at *
                refine hK' _ _ ⟨⟨⟨vz, HX.out hx⟩, rfl⟩, ?_⟩
                clear hK' K'
                refine ways_end (by kernel_rfl) ?_
                go_wp2
                go_meet
                case rel => exact ⟨bx, A3, cap3, rfl, hbw, hbx, hown2, hx⟩
              · refine ⟨_, _, (by rfl), (by rfl), ?_⟩
                intro K' hK'
                go_wp2
                have hbx := Blk.new v1 25 #[.int .i64 0, .slice none 0 0, .slice none 0 0, .slice none 0 0]
                have hbw : wq.heap.size ≤ (v1).heap.size := hx.size
                have hbb := (Below.refl (v1).heap.size v1).alloc (Nat.le_refl _) (.cells #[.int .i64 0, .slice none 0 0, .slice none 0 0, .slice none 0 0] 25)
                have hgsbx : (v1).heap.size < ((v1).alloc (.cells #[.int .i64 0, .slice none 0 0, .slice none 0 0, .slice none 0 0] 25)).heap.size := by simp
                replace hx := hx.trans (hbb.mono hx.size)
                replace hown := own_call hown hbb
                generalize (v1).alloc (.cells #[.int .i64 0, .slice none 0 0, .slice none 0 0, .slice none 0 0] 25) = v2 at *
                generalize (v1).heap.size = bx at *
                refine hK' _ _ ⟨⟨⟨v2, HX.out hx⟩, rfl⟩, ?_⟩
                clear hK' K'
                clear hbb
                refine ways_1 5 (by kernel_rfl) ?_
                refine ⟨_, _, (by rfl), (by rfl), ?_⟩
                intro K' hK'
                refine wpList_appArr (sv := .slice (some ⟨eb, 0, none⟩) 0 0) slT_l3 rfl (.tmp 96) (.tmp 98) rfl rfl hown rfl (hla3.below hx) HONE.out hx.size (by omega) (by omega) ?_
                intro v' v3 hown2 hb2 hgr
                rw [Nat.zero_add, List.nil_append] at hown2
                obtain ⟨A3, cap3, rfl⟩ := own_form hown2
                replace hx := hx.trans hb2
                replace hbx := hbx.grown hgr (own_blk_ne hown hbx (by decide))
                clear hown hgr hb2
                go_wp2
                refine hK' _ _ ⟨⟨⟨v3, HX.out hx⟩, rfl⟩, ?_⟩
                clear hK' K'
                refine ways_q 10 (by rfl) (by rfl) (by kernel_rfl) (by kernel_rfl) (by kernel_rfl) (by rfl) ⟨⟨v3, HX.out hx⟩, rfl⟩ ?_
                intro K hK
                go_big_quiet_op
                go_big_quiet_on
                refine ways_1 12 (by kernel_rfl) ?_
                obtain ⟨z0, z1, z2, z3⟩ := hbx.c4
                have hfz := fun i => hbx.frozen i
                refine ⟨_, _, (by rfl), (by rfl), ?_⟩
                intro K' hK'
                go_wp2
                replace hown2 := own_grown hown2 (grown_put4 (w := v3) (g := bx) (o1 := 0) (o2 := 1) (o3 := 2) (o4 := 3) (.int .i64 l.n) (.slice A3 l.links.length cap3) (.slice aa l.left.length ac) (.slice ba l.right.length bc)) (fun r e e2 => own_blk_ne hown2 hbx (by decide) (by rw [e2]; exact e))
                replace hbx := hbx.put4 (.int .i64 l.n) (.slice A3 l.links.length cap3) (.slice aa l.left.length ac) (.slice ba l.right.length bc)
                replace hx := below_put4 (g := bx) (o1 := 0) (o2 := 1) (o3 := 2) (o4 := 3) hx hbw (.int .i64 l.n) (.slice A3 l.links.length cap3) (.slice aa l.left.length ac) (.slice ba l.right.length bc)
                clear z0 z1 z2 z3 hfz
                generalize ((((v3).setCell ⟨bx, 0, none⟩ (.int .i64 l.n)).setCell ⟨bx, 1, none⟩ (.slice A3 l.links.length cap3)).setCell ⟨bx, 2, none⟩ (.slice aa l.left.length ac)).setCell ⟨bx, 3, none⟩ (.slice ba l.right.length bc) = vz at *
                refine hK' _ _ ⟨⟨⟨vz, HX.out hx⟩, rfl⟩, ?_⟩
                clear hK' K'
                refine ways_end (by kernel_rfl) ?_
                go_wp2
                go_meet
                case rel => exact ⟨bx, A3, cap3, rfl, hbw, hbx, hown2, hx⟩
            · refine ⟨_, _, (by rfl), (by rfl), ?_⟩
              intro K' hK'
              go_wp2
              have hbx := Blk.new v0 25 #[.int .i64 0, .slice none 0 0, .slice none 0 0, .slice none 0 0]
              have hbw : wq.heap.size ≤ (v0).heap.size := hx.size
              have hbb := (Below.refl (v0).heap.size v0).alloc (Nat.le_refl _) (.cells #[.int .i64 0, .slice none 0 0, .slice none 0 0, .slice none 0 0] 25)
              have hgsbx : (v0).heap.size < ((v0).alloc (.cells #[.int .i64 0, .slice none 0 0, .slice none 0 0, .slice none 0 0] 25)).heap.size := by simp
              replace hx := hx.trans (hbb.mono hx.size)
              generalize (v0).alloc (.cells #[.int .i64 0, .slice none 0 0, .slice none 0 0, .slice none 0 0] 25) = v1 at *
              generalize (v0).heap.size = bx at *
              refine hK' _ _ ⟨⟨⟨v1, HX.out hx⟩, rfl⟩, ?_⟩
              clear hK' K'
              clear hbb
              refine ways_1 2 (by kernel_rfl) ?_
              refine ⟨_, _, (by rfl), (by rfl), ?_⟩
              intro K' hK'
              go_wp2
              have hown := own_empty v1 wq.heap.size 60 3 hx.size
              have hbb := (Below.refl (v1).heap.size v1).alloc (Nat.le_refl _) (.cells #[] 60)
              have hgseb : (v1).heap.size < ((v1).alloc (.cells #[] 60)).heap.size := by simp
              replace hx := hx.trans (hbb.mono hx.size)
              replace hbx := hbx.call hbb
              generalize (v1).alloc (.cells #[] 60) = v2 at *
              generalize (v1).heap.size = eb at *
              refine hK' _ _ ⟨⟨⟨v2, HX.out hx⟩, rfl⟩, ?_⟩
              clear hK' K'
              clear hbb
              refine ways_1 5 (by kernel_rfl) ?_
              refine ⟨_, _, (by rfl), (by rfl), ?_⟩
              intro K' hK'
              refine wpList_appArr (sv := .slice (some ⟨eb, 0, none⟩) 0 0) slT_l3 rfl (.tmp 96) (.tmp 98) rfl rfl hown rfl (hla3.below hx) HONE.out hx.size (by omega) (by omega) ?_
              intro v' v3 hown2 hb2 hgr
              rw [Nat.zero_add, List.nil_append] at hown2
              obtain ⟨A3, cap3, rfl⟩ := own_form hown2
              replace hx := hx.trans hb2
              replace hbx := hbx.grown hgr (own_blk_ne hown hbx (by decide))
              clear hown hgr hb2
              go_wp2
              refine hK' _ _ ⟨⟨⟨v3, HX.out hx⟩, rfl⟩, ?_⟩
              clear hK' K'
              refine ways_q 10 (by rfl) (by rfl) (by kernel_rfl) (by kernel_rfl) (by kernel_rfl) (by rfl) ⟨⟨v3, HX.out hx⟩, rfl⟩ ?_
              intro K hK
              go_big_quiet_op
              go_big_quiet_on
              refine ways_1 12 (by kernel_rfl) ?_
              obtain ⟨z0, z1, z2, z3⟩ := hbx.c4
              have hfz := fun i => hbx.frozen i
              refine ⟨_, _, (by rfl), (by rfl), ?_⟩
              intro K' hK'
              go_wp2
              replace hown2 := own_grown hown2 (grown_put4 (w := v3) (g := bx) (o1 := 0) (o2 := 1) (o3 := 2) (o4 := 3) (.int .i64 l.n) (.slice A3 l.links.length cap3) (.slice aa l.left.length ac) (.slice ba l.right.length bc)) (fun r e e2 => own_blk_ne hown2 hbx (by decide) (by rw [e2]; exact e))
              replace hbx := hbx.put4 (.int .i64 l.n) (.slice A3 l.links.length cap3) (.slice aa l.left.length ac) (.slice ba l.right.length bc)
              replace hx := below_put4 (g := bx) (o1 := 0) (o2 := 1) (o3 := 2) (o4 := 3) hx hbw (.int .i64 l.n) (.slice A3 l.links.length cap3) (.slice aa l.left.length ac) (.slice ba l.right.length bc)
              clear z0 z1 z2 z3 hfz
              generalize ((((v3).setCell ⟨bx, 0, none⟩ (.int .i64 l.n)).setCell ⟨bx, 1, none⟩ (.slice A3 l.links.length cap3)).setCell ⟨bx, 2, none⟩ (.slice aa l.left.length ac)).setCell ⟨bx, 3, none⟩ (.slice ba l.right.length bc) = vz at *
              refine hK' _ _ ⟨⟨⟨vz, HX.out hx⟩, rfl⟩, ?_⟩
              clear hK' K'
              refine ways_end (by kernel_rfl) ?_
              go_wp2
              go_meet
              case rel => exact ⟨bx, A3, cap3, rfl, hbw, hbx, hown2, hx⟩
          case rest =>
            obtain ⟨bx, xA, xc, rfl, hbw, hY, hown, hb⟩ := hcut
            have hne := own_blk_ne hown hY (by decide)
            obtain ⟨rb, ro, rcur, rfl, hrb, hR⟩ := row_blk hown hz
            have hbr : bx ≠ rb := fun e => hne (by rw [e]; rfl)
            have hra : Arr wc wc.heap.size 3 (.slice (some ⟨rb, ro, none⟩) l.links.length xc) l.links lkcell := Arr.of_own hown
            obtain ⟨rb2, ro2, x, hq2, -, hx, -, -, c2⟩ := link_at hra hkl
            obtain ⟨rfl, rfl⟩ : rb = rb2 ∧ ro = ro2 := by simpa using hq2
            have hxt := (hgd.link x (List.mem_of_getElem? hx)).2.2.2.2.2
            have hy1 := hY.cell 1
            simp at hy1
            have hfz := hR.frozen (ro + kx * 3 + 2)
            have wr1 : IntKind.i64.wrap (x.trust + (tr : Int)) = x.trust + (tr : Int) := wrap_id _ (by omega) (by omega)
            have wr2 : wrap64 (x.trust + (tr : Int)) = x.trust + (tr : Int) := IntWalk.wrap64_in _ ⟨by omega, by omega⟩
            have c1 : IntKind.i64.wrap (tr : Int) = tr := wrap_id _ (by omega) (by omega)
            have hb2 : Below wq.heap.size wq (wc.setCell ⟨rb, ro + kx * 3 + 2, none⟩ (.int .i64 (x.trust + (tr : Int)))) := hb.setCell (p := ⟨rb, ro + kx * 3 + 2, none⟩) hrb _
            have HLL : Hid ((moreN l kx (tr : Int)).links.length = l.links.length) := by rw [Hid]; simp [moreN]
            have HLS : Hid ((moreN l kx (tr : Int)).links = l.links.set kx (moreK x (tr : Int))) := by
              rw [Hid]
              unfold moreN
              dsimp only
              rw [List.getD_eq_getElem?_getD, hx]
              rfl
            have hE2 := hE.call hb2
            have hY2 : NB (wc.setCell ⟨rb, ro + kx * 3 + 2, none⟩ (.int .i64 (x.trust + (tr : Int)))) bx (moreN l kx (tr : Int)) (some ⟨rb, ro, none⟩) xc aa ac ba bc := by
              refine ⟨by rw [HLL.out]; exact hY.far (p := ⟨rb, ro + kx * 3 + 2, none⟩) hbr _, ⟨?_, hE2.na.as_, hE2.na.bs⟩⟩
              rw [HLL.out, HLS.out]
              exact (arr_more (t := (tr : Int)) hra hx).more (by simp [World.setCell])
            have HCY := Lib.hid (HCM.out kx x hx)
            clear hra hR hown hY hne hq2 hx hE2 HLL HLS HCM f0 f1 f2 f3 hla3 HONE HX hb hxt
            go_upto_region 16 with (fail)
            replace hE := hE.call hb2
            replace hB := hB.trans ((hb2).mono hB.size)
            replace hX := hX.call hb2
            clear hb2 c2 hy1 hfz wr1 wr2
            generalize wc.setCell ⟨rb, ro + kx * 3 + 2, none⟩ (.int .i64 (x.trust + (tr : Int))) = w7 at *
            generalize moreN l kx (tr : Int) = ly at *
            obtain ⟨FY, hFY⟩ : ∃ F, F = fineN ly := ⟨_, rfl⟩
            have hfx := lfine_ok _ ly w7 hY2.v
            rw [← hFY] at hfx
            have HFY := Lib.hid hFY
            clear hFY
            obtain ⟨k0, k1, k2, k3⟩ := (hY2).blk.c4
            go_wp2_with fail
            refine (hfx).mono ?_
            rintro e w8 hp
            clear k0 k1 k2 k3
            obtain ⟨rfl, hb⟩ := hp
            replace hE := hE.call hb
            replace hB := hB.trans ((hb).mono hB.size)
            replace hX := hX.call hb
            replace hY2 := hY2.call hb
            clear hb hfx
            go_upto_if 117 with (fail)
            go_cut [] from 118 to 139 (fun wx => Below w8.heap.size w8 wx)
            case first =>
              cases FY
              · go_wp2
                go_meet
                case rel => exact Below.refl _ _
              · have hgy := check_good.1 (fineN_iff.1 HFY.out.symm)
                obtain ⟨hle1, hle2⟩ := HCY.out hgy
                have h1 := least_ok _ ly w8 hY2.v
                rw [lstC_eq hgy, check_good.2 hgy] at h1
                generalize costL ly = cm at *
                have d1 : decide (cm < cn) = false := decide_eq_false (by omega)
                have wr1 : IntKind.i64.wrap (cn + (tr : Int)) = cn + (tr : Int) := wrap_id _ (by omega) (by omega)
                have wr2 : wrap64 (cn + (tr : Int)) = cn + (tr : Int) := IntWalk.wrap64_in _ ⟨by omega, by omega⟩
                have d2 : decide (cn + (tr : Int) < cm) = false := decide_eq_false (by omega)
                clear hgy hle1 hle2
                obtain ⟨k0, k1, k2, k3⟩ := (hY2).blk.c4
                go_wp2_with fail
                refine (h1).mono ?_
                rintro e w9 hp
                clear k0 k1 k2 k3
                obtain ⟨sv, rfl, hS, hb⟩ := hp
                obtain ⟨sA, sc, rfl, -⟩ := id hS
                clear h1 hS
                go_wp2
                go_meet
                case rel => exact hb
            case rest =>
              have hb := hcut
              replace hE := hE.call hb
              replace hB := hB.trans ((hb).mono hB.size)
              replace hX := hX.call hb
              obtain ⟨w9, hw9⟩ : ∃ w9 : World, w9 = wc := ⟨_, rfl⟩
              rw [← hw9] at hE hB hX ⊢
              clear hb hcut hw9 hY2 HFY HCY c1 hcp
              have hnil := RowN.nil_ w9 w9.heap.size
              have hR0 : Rows3 w9 w9.heap.size (.slice none 0 0) (.slice none 0 0) (.slice none 0 0) 0 0 0 (dropU da db 0) (allU da db kx 0) [] := ⟨hnil, hnil, hnil, apart_nil _, apart_nil _, apart_nil _⟩
              clear hnil
              go_wp2
              go_loopw [23, 24, 25] (fun x y i wr => ∃ (k nx ny : Nat) (xA : Option Addr) (xc : Nat) (yA : Option Addr) (yc : Nat), k ≤ l.links.length ∧ i = .int .i64 k ∧ x = .slice xA nx xc ∧ y = .slice yA ny yc ∧ Rows3 wr w9.heap.size (.slice xA nx xc) (.slice yA ny yc) (.slice none 0 0) nx ny 0 (dropU da db k) (allU da db kx k) [] ∧ Below w9.heap.size w9 wr) (fun _ _ i _ => l.links.length - (intOf i).toNat)
              case atStart => exact ⟨0, 0, 0, none, 0, none, 0, Nat.zero_le _, rfl, rfl, rfl, hR0, Below.refl _ _⟩
              case round =>
                clear hR0
                obtain ⟨k, nx, ny, sA, sc, tA, tc, hk, rfl, rfl, rfl, hR, hbr⟩ := hrel
                obtain ⟨k0, k1, k2, k3⟩ := (hE.call hbr).blk.c4
                by_cases hlt : k < l.links.length
                · have d1 : decide (k < l.links.length) = true := decide_eq_true hlt
                  have d1' : decide ((k : Int) < (l.links.length : Int)) = true := decide_eq_true (by omega)
                  have hXr := hX.call hbr
                  have x0 := hXr.cell 0
                  have x1 := hXr.cell 1
                  simp at x0 x1
                  have hnx : nx ≤ k := by rw [hR.ox.2]; exact dropU_len _ _ _
                  have hny : ny ≤ k := by rw [hR.oy.2]; exact allU_len _ _ _ _
                  clear hXr
                  by_cases hk64 : k < 64
                  · have q1 : (k : Int).tdiv 64 = 0 := by rw [Int.tdiv_eq_ediv_of_nonneg (by omega)]; omega
                    have q2 : (k : Int).tmod 64 = (k : Int) := by rw [Int.tmod_eq_emod_of_nonneg (by omega)]; omega
                    have hbt := bit_u64B da k hda
                    rw [← dropB_lo (b := db) hk64] at hbt
                    cases hbi : dropB da db k
                    · rw [hbi] at hbt
                      have hst := dropU_no (a := da) (b := db) (k := k) hbi
                      rw [← hst] at hR
                      by_cases hkk : k = kx
                      · have HY := Lib.hid (allU_yes (a := da) (b := db) (k0 := kx) (k := k) (by rw [hbi, hkk]; simp))
                        have e1 : ((k : Int) == (kx : Int)) = true := by rw [hkk]; simp
                        have e2 : (k == kx) = true := by rw [hkk]; simp
                        clear hst hbi hkk
                        have hsz := hbr.size
                        go_wp2_with (at_builtin; refine wpList_app2 slT_int rfl (.tmp 166) (.tmp 168) rfl (sv := .slice tA ny tc) rfl hR.oy.1 rfl rfl one_1 hsz ?_ ?_ ?_)
                        any_goals omega
                        intro v4 w4 hown4 hg4 hat4
                        replace hbr := hbr.trans (hR.oy.below hg4 hsz)
                        replace hR := hR.app2 (k := k) hown4 hg4 hat4
                        clear hsz hown4 hg4 hat4
                        obtain ⟨tA, tc, rfl⟩ := hR.oy.form
                        rw [← HY.out] at hR
                        go_wp2
                        go_roundw
                        case rel => exact ⟨k + 1, _, _, _, _, _, _, by omega, by go_num, rfl, rfl, hR, hbr⟩
                        case measure => (simp [intOf]; try omega)
                      · have hsu := allU_no (a := da) (b := db) (k0 := kx) (k := k) (by rw [hbi]; simpa using hkk)
                        rw [← hsu] at hR
                        have e1 : ((k : Int) == (kx : Int)) = false := by simp; omega
                        have e2 : (k == kx) = false := by simpa using hkk
                        clear hst hsu hbi hkk
                        go_wp2
                        go_roundw
                        case rel => exact ⟨k + 1, _, _, _, _, _, _, by omega, by go_num, rfl, rfl, hR, hbr⟩
                        case measure => (simp [intOf]; try omega)
                    · rw [hbi] at hbt
                      have HX := Lib.hid (dropU_yes (a := da) (b := db) (k := k) hbi)
                      have HY := Lib.hid (allU_yes (a := da) (b := db) (k0 := kx) (k := k) (by rw [hbi]; simp))
                      clear hbi
                      have hsz := hbr.size
                      go_wp2_with (at_builtin; refine wpList_app2 slT_int rfl (.tmp 156) (.tmp 158) rfl (sv := .slice sA nx sc) rfl hR.ox.1 rfl rfl one_1 hsz ?_ ?_ ?_)
                      any_goals omega
                      intro v4 w4 hown4 hg4 hat4
                      replace hbr := hbr.trans (hR.ox.below hg4 hsz)
                      replace hR := hR.app1 (k := k) hown4 hg4 hat4
                      clear hsz hown4 hg4 hat4
                      obtain ⟨sA, sc, rfl⟩ := hR.ox.form
                      rw [← HX.out] at hR
                      have hsz := hbr.size
                      go_wp2_with (at_builtin; refine wpList_app2 slT_int rfl (.tmp 166) (.tmp 168) rfl (sv := .slice tA ny tc) rfl hR.oy.1 rfl rfl one_1 hsz ?_ ?_ ?_)
                      any_goals omega
                      intro v4 w4 hown4 hg4 hat4
                      replace hbr := hbr.trans (hR.oy.below hg4 hsz)
                      replace hR := hR.app2 (k := k) hown4 hg4 hat4
                      clear hsz hown4 hg4 hat4
                      obtain ⟨tA, tc, rfl⟩ := hR.oy.form
                      rw [← HY.out] at hR
                      go_wp2
                      go_roundw
                      case rel => exact ⟨k + 1, _, _, _, _, _, _, by omega, by go_num, rfl, rfl, hR, hbr⟩
                      case measure => (simp [intOf]; try omega)
                  · have q1 : (k : Int).tdiv 64 = 1 := by rw [Int.tdiv_eq_ediv_of_nonneg (by omega)]; omega
                    have q2 : (k : Int).tmod 64 = ((k - 64 : Nat) : Int) := by rw [Int.tmod_eq_emod_of_nonneg (by omega)]; omega
                    have hbt := bit_u64B db (k - 64) hdb
                    rw [← dropB_hi (a := da) (by omega) (by omega)] at hbt
                    have hk6b : k - 64 < 64 := by omega
                    generalize hk6 : k - 64 = k6 at *
                    clear hk6
                    cases hbi : dropB da db k
                    · rw [hbi] at hbt
                      have hst := dropU_no (a := da) (b := db) (k := k) hbi
                      rw [← hst] at hR
                      by_cases hkk : k = kx
                      · have HY := Lib.hid (allU_yes (a := da) (b := db) (k0 := kx) (k := k) (by rw [hbi, hkk]; simp))
                        have e1 : ((k : Int) == (kx : Int)) = true := by rw [hkk]; simp
                        have e2 : (k == kx) = true := by rw [hkk]; simp
                        clear hst hbi hkk
                        have hsz := hbr.size
                        go_wp2_with (at_builtin; refine wpList_app2 slT_int rfl (.tmp 166) (.tmp 168) rfl (sv := .slice tA ny tc) rfl hR.oy.1 rfl rfl one_1 hsz ?_ ?_ ?_)
                        any_goals omega
                        intro v4 w4 hown4 hg4 hat4
                        replace hbr := hbr.trans (hR.oy.below hg4 hsz)
                        replace hR := hR.app2 (k := k) hown4 hg4 hat4
                        clear hsz hown4 hg4 hat4
                        obtain ⟨tA, tc, rfl⟩ := hR.oy.form
                        rw [← HY.out] at hR
                        go_wp2
                        go_roundw
                        case rel => exact ⟨k + 1, _, _, _, _, _, _, by omega, by go_num, rfl, rfl, hR, hbr⟩
                        case measure => (simp [intOf]; try omega)
                      · have hsu := allU_no (a := da) (b := db) (k0 := kx) (k := k) (by rw [hbi]; simpa using hkk)
                        rw [← hsu] at hR
                        have e1 : ((k : Int) == (kx : Int)) = false := by simp; omega
                        have e2 : (k == kx) = false := by simpa using hkk
                        clear hst hsu hbi hkk
                        go_wp2
                        go_roundw
                        case rel => exact ⟨k + 1, _, _, _, _, _, _, by omega, by go_num, rfl, rfl, hR, hbr⟩
                        case measure => (simp [intOf]; try omega)
                    · rw [hbi] at hbt
                      have HX := Lib.hid (dropU_yes (a := da) (b := db) (k := k) hbi)
                      have HY := Lib.hid (allU_yes (a := da) (b := db) (k0 := kx) (k := k) (by rw [hbi]; simp))
                      clear hbi
                      have hsz := hbr.size
                      go_wp2_with (at_builtin; refine wpList_app2 slT_int rfl (.tmp 156) (.tmp 158) rfl (sv := .slice sA nx sc) rfl hR.ox.1 rfl rfl one_1 hsz ?_ ?_ ?_)
                      any_goals omega
                      intro v4 w4 hown4 hg4 hat4
                      replace hbr := hbr.trans (hR.ox.below hg4 hsz)
                      replace hR := hR.app1 (k := k) hown4 hg4 hat4
                      clear hsz hown4 hg4 hat4
                      obtain ⟨sA, sc, rfl⟩ := hR.ox.form
                      rw [← HX.out] at hR
                      have hsz := hbr.size
                      go_wp2_with (at_builtin; refine wpList_app2 slT_int rfl (.tmp 166) (.tmp 168) rfl (sv := .slice tA ny tc) rfl hR.oy.1 rfl rfl one_1 hsz ?_ ?_ ?_)
                      any_goals omega
                      intro v4 w4 hown4 hg4 hat4
                      replace hbr := hbr.trans (hR.oy.below hg4 hsz)
                      replace hR := hR.app2 (k := k) hown4 hg4 hat4
                      clear hsz hown4 hg4 hat4
                      obtain ⟨tA, tc, rfl⟩ := hR.oy.form
                      rw [← HY.out] at hR
                      go_wp2
                      go_roundw
                      case rel => exact ⟨k + 1, _, _, _, _, _, _, by omega, by go_num, rfl, rfl, hR, hbr⟩
                      case measure => (simp [intOf]; try omega)
                · obtain rfl : k = l.links.length := by omega
                  have d1 : decide (l.links.length < l.links.length) = false := by simp
                  have hnx : nx = (intL (dropU da db l.links.length)).length := by rw [hR.ox.2]; simp [intL]
                  have hny : ny = (intL (allU da db kx l.links.length)).length := by rw [hR.oy.2]; simp [intL]
                  have ha1 := hR.ox.arr
                  have ha2 := hR.oy.arr
                  subst hnx hny
                  clear hR
                  have hop1 := dropU_open hgd da db
                  have hop2 := allU_open hgd da db kx
                  obtain ⟨hn1, hn2, hn3, hn4⟩ := groups_more (a := da) (b := db) hgd hkl
                  have HIN := Lib.hid hn4
                  clear hn4
                  generalize intL (dropU da db l.links.length) = s1 at *
                  generalize intL (allU da db kx l.links.length) = s2 at *
                  replace hE := hE.call hbr
                  replace hB := hB.trans (hbr.mono hB.size)
                  obtain ⟨w10, hw10⟩ : ∃ w10 : World, w10 = wr := ⟨_, rfl⟩
                  rw [← hw10] at hE hB ha1 ha2 ⊢
                  clear hw10 hbr hX k0 k1 k2 k3
                  have h1 := groups_ok _ _ l s1 w10 hE.v ha1
                  rw [hop1] at h1
                  obtain ⟨k0, k1, k2, k3⟩ := hE.blk.c4
                  go_wp2_with fail
                  refine (h1).mono ?_
                  rintro e w11 hp
                  clear k0 k1 k2 k3
                  obtain ⟨gv, rfl, hG1, hb⟩ := hp
                  obtain ⟨gA, gc, rfl, -, -⟩ := hG1.form
                  replace hE := hE.call hb
                  replace hB := hB.trans ((hb).mono hB.size)
                  replace ha2 := ha2.call hb
                  clear hb h1 ha1 hop1 d1
                  have h1 := groups_ok _ _ l s2 w11 hE.v ha2
                  rw [hop2] at h1
                  obtain ⟨k0, k1, k2, k3⟩ := hE.blk.c4
                  go_wp2_with fail
                  refine (h1).mono ?_
                  rintro e w12 hp
                  clear k0 k1 k2 k3
                  obtain ⟨gv2, rfl, hG2, hb⟩ := hp
                  obtain ⟨gB, gd, rfl, -, -⟩ := hG2.form
                  replace hE := hE.call hb
                  replace hB := hB.trans ((hb).mono hB.size)
                  replace hG1 := hG1.call hb
                  clear hb h1 ha2 hop2
                  generalize grpL l s1 = g1 at *
                  generalize grpL l s2 = g2 at *
                  have d1 : decide (g2.length < g1.length) = false := decide_eq_false (by omega)
                  have d2 : decide ((g2.length : Int) < (g1.length : Int)) = false := decide_eq_false (by omega)
                  have d3 : decide ((g1.length : Int) + 1 < (g2.length : Int)) = false := decide_eq_false (by omega)
                  have d4 : decide (g1.length + 1 < g2.length) = false := decide_eq_false (by omega)
                  have wr1 : IntKind.i64.wrap ((g1.length : Int) + 1) = (g1.length : Int) + 1 := wrap_id _ (by omega) (by omega)
                  have wr2 : wrap64 ((g1.length : Int) + 1) = (g1.length : Int) + 1 := IntWalk.wrap64_in _ ⟨by omega, by omega⟩
                  go_upto_region 33 with (fail)
                  clear d1 d2 d3 d4 wr1 wr2
                  go_wp2
                  go_loopw [31] (fun i wr => ∃ k : Nat, k ≤ g2.length ∧ i = .int .i64 k ∧ Below w12.heap.size w12 wr) (fun i _ => g2.length - (intOf i).toNat)
                  case atStart => exact ⟨0, Nat.zero_le _, rfl, Below.refl _ _⟩
                  case round =>
                    obtain ⟨i, hi, rfl, hr⟩ := hrel
                    by_cases hil : i < g2.length
                    · have d1 : decide (i < g2.length) = true := decide_eq_true hil
                      have d1' : decide ((i : Int) < (g2.length : Int)) = true := decide_eq_true (by omega)
                      have hii : (i : Int) < (g2.length : Int) := by omega
                      obtain ⟨gi, hgi⟩ : ∃ gi, g2[i]? = some gi := ⟨_, List.getElem?_eq_getElem hil⟩
                      have HMI := Lib.hid (HIN.out gi (List.mem_of_getElem? hgi))
                      go_wp2
                      go_loopw [32, 33] (fun f i wr => ∃ k : Nat, k ≤ g1.length ∧ i = .int .i64 k ∧ f = .bool ((g1.take k).any fun gj => gi.all fun x => gj.contains x) ∧ Below w12.heap.size w12 wr) (fun _ i _ => g1.length - (intOf i).toNat)
                      case atStart => exact ⟨0, Nat.zero_le _, rfl, rfl, hr⟩
                      case round =>
                        clear hr
                        obtain ⟨k, hk, rfl, rfl, hr⟩ := hrel
                        by_cases hkl1 : k < g1.length
                        · have d2 : decide (k < g1.length) = true := decide_eq_true hkl1
                          have d2' : decide ((k : Int) < (g1.length : Int)) = true := decide_eq_true (by omega)
                          have hkk : (k : Int) < (g1.length : Int) := by omega
                          obtain ⟨gj, hgj⟩ : ∃ gj, g1[k]? = some gj := ⟨_, List.getElem?_eq_getElem hkl1⟩
                          obtain ⟨ab, ao, eA, ec, rfl, -, c0, hE1⟩ := (hG2.call hr).at_ hgi
                          obtain ⟨bb, bo, eB, ed, rfl, -, c1, hE2⟩ := (hG1.call hr).at_ hgj
                          have HS := Lib.hid (any_take (fun gj : List Int => gi.all fun x => gj.contains x) hgj)
                          have f0 := Ext.of c0
                          have f1 := Ext.of c1
                          have HI : Hid (∀ y : Ext wr, Calls Try.prog 39 #[.slice eA gi.length ec, .slice eB gj.length ed] y.w fun r w' => r = .returned (.bool (gi.all fun x => gj.contains x)) ∧ ∃ z : Ext wr, w' = z.w) := fun y => ext_call y ((linside_ok _ _ gi gj y.w (hE1.call y.h) (hE2.call y.h)).mono fun e w' h => ⟨h.1, by rw [h.2]; exact Below.refl _ _⟩)
                          clear hE1 hE2
                          generalize (gi.all fun x => gj.contains x) = q1 at *
                          generalize (g1.take k).any (fun gj => gi.all fun x => gj.contains x) = p1 at *
                          go_upto_region 40 with (fail)
                          clear c0 c1
                          cases p1
                          · refine wp_region_ext (by kernel_rfl) (by kernel_rfl) ?_
                            repeat (go_big_quiet_step ((go_at_call 39; with_reducible exact HI.out _)))
                            refine wpQuiet_nil ?_
                            intro _ hw'
                            obtain ⟨xr, hw''⟩ := hw'
                            subst hw''
                            have hr2 := hr.trans (xr.h.mono hr.size)
                            go_wp2
                            go_roundw
                            case rel => exact ⟨k + 1, by omega, by go_num, by rw [HS.out]; simp, hr2⟩
                            case measure => (simp [intOf]; try omega)
                          · refine wp_region_ext (by kernel_rfl) (by kernel_rfl) ?_
                            repeat (go_big_quiet_step (fail))
                            refine wpQuiet_nil ?_
                            intro _ hw'
                            obtain ⟨xr, hw''⟩ := hw'
                            subst hw''
                            have hr2 := hr.trans (xr.h.mono hr.size)
                            go_wp2
                            go_roundw
                            case rel => exact ⟨k + 1, by omega, by go_num, by rw [HS.out]; simp, hr2⟩
                            case measure => (simp [intOf]; try omega)
                        · obtain rfl : k = g1.length := by omega
                          have d2 : decide (g1.length < g1.length) = false := by simp
                          rw [List.take_length, HMI.out]
                          go_wp2
                          go_roundw
                          case rel => exact ⟨i + 1, by omega, by go_num, hr⟩
                          case measure => (simp [intOf]; try omega)
                    · obtain rfl : i = g2.length := by omega
                      have d1 : decide (g2.length < g2.length) = false := by simp
                      replace hB := hB.trans (hr.mono hB.size)
                      clear hr
                      go_wp2_with fail
                      refine (lworks_ok _).mono ?_
                      rintro e wz ⟨rfl, hbz⟩
                      have hBz := hB.trans (hbz.mono hB.size)
                      go_wp2
                      try rw [Exit.noGoto_ret]
                      go_ret
                      exact ⟨rfl, hBz⟩
end Go.Proofs.Ytpkccmohlcndgaa
