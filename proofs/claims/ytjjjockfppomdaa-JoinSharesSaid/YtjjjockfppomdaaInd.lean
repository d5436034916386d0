/- Contract: indexed. -/
import Derived.Test.YtjjjockfppomdaaOpn
import Derived.Test.YtjjjockfppomdaaRefH
namespace Go.Proofs.Ytjjjockfppomdaa
open Go.RowKit Go.Shelf
set_option linter.unusedVariables false

/-- the pieces of steps, by bits -/
def usedS (l : List St) : Nat := l.foldl (fun u s => u ||| 2 ^ s.p.toNat) 0
theorem usedS_snoc (l : List St) (s : St) : usedS (l ++ [s]) = usedS l ||| 2 ^ s.p.toNat := by simp [usedS]
theorem usedS_bit (p : Nat) (l : List St) : (usedS l).testBit p = l.any fun s => decide (s.p.toNat = p) := by
  have key : ∀ (l : List St) (u : Nat), (l.foldl (fun u s => u ||| 2 ^ s.p.toNat) u).testBit p = (u.testBit p || l.any fun s => decide (s.p.toNat = p)) := by
    intro l
    induction l with
    | nil => intro u; simp
    | cons s r ih => intro u; rw [List.foldl_cons, ih, Nat.testBit_or, Nat.testBit_two_pow, List.any_cons, Bool.or_assoc]
  have := key l 0
  unfold usedS
  rw [this]
  simp
theorem take_snoc {α : Type} {l : List α} {n : Nat} {x : α} (h : l[n]? = some x) : l.take (n + 1) = l.take n ++ [x] := by
  rw [List.take_add_one, h]; rfl
theorem twice_snoc {l : List St} {s : St} (h : twice l = false) (hs : ∀ x ∈ l, x.p ≠ s.p) : twice (l ++ [s]) = false := by
  rw [twice_pw] at h ⊢
  rw [List.pairwise_append]
  exact ⟨h, List.pairwise_singleton _ _, fun a ha b hb => by rw [List.mem_singleton.1 hb]; exact fun e => hs a ha e.symm⟩

/-- the numbers of steps, as the program has them -/
def numsI (c : Cyl) (l : List St) : List Int := l.map (numS c)
theorem slT_int : SlT 86 3 1 8 (.int .i64 0) := ⟨Try.underlying86, by kernel_rfl, rfl, by omega⟩

set_option maxRecDepth 100000 in
set_option maxHeartbeats 1600000 in
theorem indexed_ok (v lv : Value) (c : Cyl) (l : List St) (w : World) (hv : CylV w w.heap.size v c) (hl : Arr w w.heap.size 2 lv l stcell) :
    Calls Try.prog 49 #[v, lv] w fun r w' => Below w.heap.size w w' ∧ ((checkJoin c l ≠ 0 ∧ r = .returned (.tuple #[.pointer none, .slice none 0 0, .int .i64 (checkJoin c l)])) ∨
      (checkJoin c l = 0 ∧ checkCyl c = 0 ∧ ∃ (x : TX) (A : Option Addr) (cap : Nat), r = .returned (.tuple #[.pointer (some ⟨x.g, 0, none⟩), .slice A l.length cap, .int .i64 0]) ∧ TB w' x c ∧ Arr w' w'.heap.size 1 (.slice A l.length cap) (numsI c l) icell ∧ w.heap.size ≤ x.ga ∧ w.heap.size ≤ x.gu)) := by
  obtain ⟨la, lc, rfl, hl1, hl2, -⟩ := id hl
  obtain ⟨pa, pc, rfl, hp⟩ := hv.open_
  have hC := CB.new hp
  have hB := (Below.refl w.heap.size w).alloc (Nat.le_refl _) (.cells #[.slice pa c.pcs.length pc, .int .i64 c.off, .int .i64 c.slo, .int .i64 c.shi] 26)
  go_enter Try.func49, Try.ntmps49
  go_upto_region 1 with (fail)
  have HWS : Hid ((w.alloc (.cells #[.slice pa c.pcs.length pc, .int .i64 c.off, .int .i64 c.slo, .int .i64 c.shi] 26)).heap.size = w.heap.size + 1) := by simp [Hid]
  generalize hW : w.alloc (.cells #[.slice pa c.pcs.length pc, .int .i64 c.off, .int .i64 c.slo, .int .i64 c.shi] 26) = W at *
  clear hW hp
  obtain ⟨k0, k1, k2, k3⟩ := hC.c4
  go_wp2_with fail
  refine (open_ok _ _ c [] W hC.cyl Arr.nil_).mono ?_
  rintro e w1 ⟨hb1, hpost⟩
  have hC1 := hC.call hb1
  have hgx := hB.size
  have hB1 := hB.trans (hb1.mono hB.size)
  have HO : Hid (openE c [] = checkCyl c) := by
    unfold Hid openE
    by_cases h : checkCyl c ≠ 0
    · rw [if_pos h]
    · rw [if_neg h]; simp at h ⊢; exact h.symm
  rw [HO.out] at hpost
  clear k0 k1 k2 k3 hC hB hb1
  obtain ⟨k0, k1, k2, k3⟩ := hC1.c4
  rcases hpost with ⟨hne, rfl⟩ | ⟨-, h0, x, rfl, hT, hga, hgu⟩
  · have d0 : (checkCyl c != 0) = true := by simp [hne]
    have HE : Hid (checkJoin c l = checkCyl c) := if_pos hne
    have HN := Lib.hid hne
    clear hne
    go_wp2
    exact bodyPost_ret (v := .tuple #[.pointer none, .slice none 0 0, .int .i64 (checkCyl c)]) (by simp [results, Try.results49, go_sem]) rfl ⟨hB1, .inl ⟨by rw [HE.out]; exact HN.out, by rw [HE.out]⟩⟩
  · have n8 := hT.f.bounds.2
    have h16 := hT.f.small
    have HJ : Hid (checkJoin c l = if l.length ≠ c.pcs.length then 15 else if l.all (isStep c) = false then 2 else if twice l = true then 11 else if chain c l = false then 18 else 0) := by
      rw [Hid, checkJoin, if_neg (by simp [h0])]
    have H0 := Lib.hid h0
    clear h0
    by_cases hlen : l.length = c.pcs.length
    · have d1 : ((l.length : Int) != (c.pcs.length : Int)) = false := by simp [hlen]
      have HL := Lib.hid hlen
      have l8 : l.length ≤ 8 := by omega
      clear hlen
      go_upto_region 7 with (fail)
      go_wp2
      go_loopw [9, 32] (fun o i wr => ∃ (n : Nat) (A : Option Addr) (cap : Nat), n ≤ l.length ∧ i = .int .i64 n ∧ o = .slice A n cap ∧ wr.ownsRow w1.heap.size 3 1 (.slice A n cap) n ((numsI c (l.take n)).map (Value.int .i64)) ∧ Below w1.heap.size w1 wr) (fun _ i _ => l.length - (intOf i).toNat)
      case atStart => exact ⟨0, none, 0, Nat.zero_le _, rfl, rfl, by simpa [numsI] using World.ownsRow_nil _ _ _ _, Below.refl _ _⟩
      case round =>
        obtain ⟨n, A, cap, hn, rfl, rfl, hown, hbr⟩ := hrel
        have hTr := hT.call hbr
        have hBr := hB1.trans (hbr.mono hB1.size)
        have hlr := hl.below hBr
        by_cases hlt : n < l.length
        · have d3 : decide (n < l.length) = true := by simpa using hlt
          have d3' : decide ((n : Int) < (l.length : Int)) = true := by simp; omega
          obtain ⟨b, off, s, hA, hlb, hs1, hs2⟩ := hlr.at_ hlt
          subst hA
          have s0 : wr.cell? ⟨b, off + n * 2, none⟩ = some (.int .i64 s.p) := hs2 0 (by omega)
          have s1 : wr.cell? ⟨b, off + n * 2 + 1, none⟩ = some (.bool s.t) := hs2 1 (by omega)
          clear hs2
          go_upto_region 10 with (fail)
          have hX := Blk.new wr 28 #[.int .i64 s.p, .bool s.t]
          have hbA := (Below.refl wr.heap.size wr).alloc (Nat.le_refl _) (.cells #[.int .i64 s.p, .bool s.t] 28)
          have hown1 := own_call hown hbA
          have hTx := hTr.call hbA
          have hbx := hbr.trans (hbA.mono hbr.size)
          clear hown hbA s0 s1 hTr hBr hlr hbr
          generalize wr.alloc (.cells #[.int .i64 s.p, .bool s.t] 28) = w2 at *
          generalize wr.heap.size = xb at *
          obtain ⟨F, hF⟩ : ∃ F : World → Prop, (∀ w', F w' ↔ Blk w' xb 28 #[.int .i64 s.p, .bool s.t]) := ⟨_, fun _ => Iff.rfl⟩
          have hF0 : F w2.drew := (hF _).2 hX.drew
          haveI : Nonempty (SubW F) := ⟨⟨_, hF0⟩⟩
          have f0 : ∀ z : SubW F, z.w.cell? ⟨xb, 0, none⟩ = some (.int .i64 s.p) := fun z => by simpa using ((hF z.w).1 z.h).cell 0
          have f1 : ∀ z : SubW F, z.w.cell? ⟨xb, 1, none⟩ = some (.bool s.t) := fun z => by simpa using ((hF z.w).1 z.h).cell 1
          have hcap := own_cap hown1
          have HS1 : Hid (numsI c (l.take (n + 1)) = numsI c (l.take n) ++ [numS c s]) := by
            unfold Hid numsI
            rw [List.take_add_one, hs1, List.map_append]; rfl
          have k1 : (0 : Int) ≤ (n : Int) := by omega
          have k2 : (n : Int) ≤ (cap : Int) := by omega
          refine wp_region_sched (C := fun w' => ∃ z : SubW F, w' = z.w) [(0, true), (1, true), (2, true), (3, true), (4, true), (5, true), (6, true), (7, true), (8, false), (9, false), (10, false), (11, false)] (by kernel_rfl) (by kernel_rfl) ⟨⟨w2.drew, hF0⟩, rfl⟩ ?_
          refine sched_q (by rfl) (by rfl) ?_
          intro K hK
          go_big_quiet_op
          go_big_quiet_on
          refine sched_q (by rfl) (by rfl) ?_
          intro K hK
          go_big_quiet_op
          go_big_quiet_on
          refine sched_q (by rfl) (by rfl) ?_
          intro K hK
          go_big_quiet_op
          go_big_quiet_on
          refine sched_q (by rfl) (by rfl) ?_
          intro K hK
          go_big_quiet_op
          go_big_quiet_on
          refine sched_q (by rfl) (by rfl) ?_
          intro K hK
          go_big_quiet_op
          go_big_quiet_on
          refine sched_q (by rfl) (by rfl) ?_
          intro K hK
          go_big_quiet_op
          go_big_quiet_on
          refine sched_q (by rfl) (by rfl) ?_
          intro K hK
          go_big_quiet_op
          go_big_quiet_on
          refine sched_q (by rfl) (by rfl) ?_
          intro K hK
          go_big_quiet_op
          go_big_quiet_on
          refine sched_c (by rfl) (by rfl) ?_
          intro K hK
          have hX3 := hX.drew
          have hT3 := hTx.call (Below.refl _ w2).drew
          have hown3 := own_call hown1 (Below.refl _ w2).drew
          have hb3 := hbx.drew
          clear hX hown1 hTx hbx
          generalize w2.drew = w3 at *
          go_wp2_with fail
          refine (index_ok x c s w3 hT3.f).mono ?_
          rintro e w4 ⟨rfl, hb4⟩
          have hX4 := hX3.call hb4
          have hT4 := hT3.call hb4
          have hown4 := own_call hown3 hb4
          have hb5 := hb3.trans (hb4.mono hb3.size)
          clear hb4 hX3 hown3 hT3
          go_wp2
          refine hK _ _ ⟨.inr ⟨⟨w4, (hF _).2 hX4⟩, rfl⟩, ?_⟩
          clear hK K
          refine sched_c (by rfl) (by rfl) ?_
          intro K hK
          go_wp2
          refine hK _ _ ⟨.inr ⟨⟨_, (hF _).2 (hX4.alloc _)⟩, rfl⟩, ?_⟩
          clear hK K
          refine sched_c (by rfl) (by rfl) ?_
          intro K hK
          refine wpList_app1 slT_int rfl (.tmp 41) (.tmp 45) rfl (A := A) (cc := n) rfl ⟨cap, hown4, .inr rfl⟩ rfl rfl one_1 hb5.size ?_ ?_ ?_
          any_goals omega
          intro v' w6 hown6 hb6 hkeep
          have hX6 : Blk w6 xb 28 #[.int .i64 s.p, .bool s.t] := (hkeep _ hX4.lt (own_ad_ne (own_blk_ne hown4 hX4 (by decide)))).trans hX4
          have hb7 := hb5.trans hb6
          have hown7 : w6.ownsRow w1.heap.size 3 1 v' (n + 1) ((numsI c (l.take (n + 1))).map (Value.int .i64)) := by rw [HS1.out, List.map_append]; exact hown6
          obtain ⟨A', cap', rfl⟩ := own_form hown7
          clear hkeep hown6 hown4 hb6 hb5 hcap
          go_wp2
          refine hK _ _ ⟨.inr ⟨⟨w6, (hF _).2 hX6⟩, rfl⟩, ?_⟩
          clear hK K
          refine sched_c (by rfl) (by rfl) ?_
          intro K hK
          go_wp2
          refine hK _ _ ⟨(by first | exact .inl rfl | exact .inl trivial), ?_⟩
          clear hK K hF
          refine sched_nil ?_
          go_wp2
          go_roundw
          case rel => exact ⟨n + 1, A', cap', by omega, by go_num, rfl, hown7, hb7⟩
          case measure => (simp [intOf]; try omega)
        · obtain rfl : n = l.length := by omega
          have d3 : decide (l.length < l.length) = false := by simp
          rw [List.take_length] at hown
          have hlI : (numsI c l).length = l.length := by simp [numsI]
          have hsI : Arr wr wr.heap.size 1 (.slice A l.length cap) (numsI c l) icell := by
            have := Arr.of_own (cell := icell) (l := numsI c l) (v := .slice A l.length cap) (by rw [flat_int, hlI]; exact hown)
            exact this
          have hany : ((numsI c l).any fun x => (-1 : Int) == x) = !l.all (isStep c) := by
            unfold numsI
            rw [List.any_map, List.not_all_eq_any_not]
            congr 1
            funext s
            have h1 := numS_no (c := c) (s := s)
            rw [Bool.eq_iff_iff]
            simp only [Function.comp, beq_iff_eq, Bool.not_eq_true']
            rw [← h1]
            constructor
            · intro h; omega
            · intro h
              have h2 := idxOf_nonneg (fun x => x == s) (stepsOf c) 0
              unfold numS at h ⊢
              have h3 : ∀ (q : List St) (i : Nat), idxOf (fun x => x == s) i q < 0 → idxOf (fun x => x == s) i q = -1 := by
                intro q
                induction q with
                | nil => intro i _; rfl
                | cons y r ih => intro i; unfold idxOf; split <;> intro hh; omega; exact ih _ hh
              exact (h3 _ _ h).symm
          have hci := contains_int_ok (.slice A l.length cap) (numsI c l) (-1) wr hsI
          rw [hany] at hci
          clear hany
          cases hall : l.all (isStep c)
          · rw [hall] at hci
            simp only [Bool.not_false] at hci
            have HE : Hid (checkJoin c l = 2) := by rw [Hid, HJ.out, if_neg (by simp [HL.out]), if_pos hall]
            clear hall hlI
            go_wp2_with (go_at_call 69; refine hci.mono ?_; rintro e w5 ⟨rfl, hb5⟩)
            have hB := hBr.trans (hb5.mono hBr.size)
            exact bodyPost_ret (v := .tuple #[.pointer none, .slice none 0 0, .int .i64 2]) (by simp [results, Try.results49, go_sem]) rfl ⟨hB, .inl ⟨by rw [HE.out]; decide, by rw [HE.out]⟩⟩
          · rw [hall] at hci
            simp only [Bool.not_true] at hci
            have HJ2 : Hid (checkJoin c l = if twice l = true then 11 else if chain c l = false then 18 else 0) := by rw [Hid, HJ.out, if_neg (by simp [HL.out]), if_neg (by rw [hall]; simp)]
            have HALL : Hid (∀ (k : Nat) (s : St), l[k]? = some s → ∃ m : Nat, numS c s = (m : Int) ∧ (stepsOf c)[m]? = some s) := fun k s hs => numS_got (List.all_eq_true.1 hall s (List.mem_of_getElem? hs))
            clear hall HJ hown
            go_upto_region 14 with (go_at_call 69; refine hci.mono ?_; rintro e w5 ⟨rfl, hb5⟩)
            replace hT := hTr.call hb5
            replace hB := hBr.trans (hb5.mono hBr.size)
            replace hsI := (hsI.below hb5).more hb5.size
            replace hl := hl.below hB
            clear hTr hBr hlr hbr hb5 hci hC1 hB1 k0 k1 k2 k3
            go_wp2
            go_loopw [12, 52] (fun u i wr => ∃ (n U : Nat), n ≤ l.length ∧ i = .int .i64 n ∧ u = .int .i64 U ∧ U = usedS (l.take n) ∧ U < 2 ^ c.pcs.length ∧ twice (l.take n) = false ∧ Below w5.heap.size w5 wr) (fun _ i _ => l.length - (intOf i).toNat)
            case atStart => exact ⟨0, 0, Nat.zero_le _, rfl, rfl, rfl, Nat.two_pow_pos _, rfl, Below.refl _ _⟩
            case round =>
              obtain ⟨n, U, hn, rfl, rfl, hU, hU2, htw, hbr⟩ := hrel
              have hTr := hT.call hbr
              have hBr := hB.trans (hbr.mono hB.size)
              by_cases hlt : n < l.length
              · have d3 : decide (n < l.length) = true := by simpa using hlt
                have d3' : decide ((n : Int) < (l.length : Int)) = true := by simp; omega
                obtain ⟨b, off, ⟨sp, st⟩, hA, hlb, hs1, hs2⟩ := hl.at_ hlt
                subst hA
                have s0 : wr.cell? ⟨b, off + n * 2, none⟩ = some (.int .i64 sp) := (hbr.cell (p := ⟨b, off + n * 2, none⟩) (by have := hB.size; show b < _; omega)).trans (hs2 0 (by omega))
                have s1 : wr.cell? ⟨b, off + n * 2 + 1, none⟩ = some (.bool st) := (hbr.cell (p := ⟨b, off + n * 2 + 1, none⟩) (by have := hB.size; show b < _; omega)).trans (hs2 1 (by omega))
                obtain ⟨m, hm1, hm2⟩ := HALL.out n _ hs1
                have hml := (List.getElem?_eq_some_iff.1 hm2).1
                have hpm := pieceN_eq hm2
                simp only at hpm
                subst hpm
                have hp8 := pieceN_lt hml
                have hTS := take_snoc hs1
                have HS1 := Lib.hid hs1
                have HU := Lib.hid hU
                have HTW := Lib.hid htw
                have hU3 : U < 256 := Nat.lt_of_lt_of_le hU2 (pow8 n8)
                clear hs2 hm1 hm2 hs1 hU htw
                go_upto_region 18 with (fail)
                have hX := Blk.new wr 28 #[.int .i64 (pieceN c m : Int), .bool st]
                have hbA := hbr.alloc hbr.size (.cells #[.int .i64 (pieceN c m : Int), .bool st] 28)
                clear s0 s1 hTr hbr hBr
                generalize wr.alloc (.cells #[.int .i64 (pieceN c m : Int), .bool st] 28) = w6 at *
                generalize wr.heap.size = xb at *
                have x0 := hX.cell 0
                simp at x0
                have k1 : (0 : Int) ≤ (pieceN c m : Int) := by omega
                have k2 : (pieceN c m : Int) ≤ 64 := by omega
                have hbt := bit_one U (pieceN c m) hU3
                cases htb : U.testBit (pieceN c m)
                · rw [htb] at hbt
                  simp only [Bool.false_eq_true, if_false] at hbt
                  obtain ⟨pw, e3, e4, e5⟩ := pow_bit c m n8 hml
                  have e6 := bits_or U pw (by omega) (by omega)
                  have HTS := Lib.hid hTS
                  have HNU : Hid (usedS (l.take (n + 1)) = U ||| pw) := by
                    rw [Hid, HTS.out, usedS_snoc, ← HU.out]
                    show U ||| 2 ^ ((pieceN c m : Nat) : Int).toNat = _
                    rw [Int.toNat_natCast, e4]
                  have hlt2 : U ||| pw < 2 ^ c.pcs.length := by
                    rw [← e4]
                    exact Nat.or_lt_two_pow hU2 (Nat.pow_lt_pow_right (by omega) hp8)
                  have HNT : Hid (twice (l.take (n + 1)) = false) := by
                    rw [Hid, HTS.out]
                    refine twice_snoc HTW.out fun y hy he => ?_
                    have hh := usedS_bit (pieceN c m) (l.take n)
                    rw [← HU.out, htb] at hh
                    have := List.any_eq_false.1 hh.symm y hy
                    simp only [decide_eq_true_eq] at this
                    simp only at he
                    exact this (by rw [he]; exact Int.toNat_natCast _)
                  clear htb e4 hTS
                  go_wp2
                  go_roundw
                  case rel => exact ⟨n + 1, U ||| pw, by omega, by go_num, rfl, HNU.out.symm, hlt2, HNT.out, hbA⟩
                  case measure => (simp [intOf]; try omega)
                · rw [htb] at hbt
                  simp only [if_true] at hbt
                  have htw2 : twice l = true := by
                    have hh := usedS_bit (pieceN c m) (l.take n)
                    rw [← HU.out, htb] at hh
                    obtain ⟨y, hy, he⟩ := List.any_eq_true.1 hh.symm
                    obtain ⟨k, hk, hk2⟩ := List.mem_iff_getElem.1 hy
                    rw [List.length_take] at hk
                    have hyl : l[k]? = some y := by rw [← hk2, List.getElem_take]; exact List.getElem?_eq_getElem (by omega)
                    refine twice_at (show k < n by omega) HS1.out hyl ?_
                    obtain ⟨m', -, hm'⟩ := HALL.out k y hyl
                    have := pieceN_eq hm'
                    simp only [decide_eq_true_eq] at he
                    show (pieceN c m : Int) = y.p
                    omega
                  have HE : Hid (checkJoin c l = 11) := by rw [Hid, HJ2.out, if_pos htw2]
                  clear htb htw2 hTS
                  go_wp2
                  have hB9 := hB.trans (hbA.mono hB.size)
                  exact bodyPost_ret (v := .tuple #[.pointer none, .slice none 0 0, .int .i64 11]) (by simp [results, Try.results49, go_sem]) rfl ⟨hB9, .inl ⟨by rw [HE.out]; decide, by rw [HE.out]⟩⟩
              · obtain rfl : n = l.length := by omega
                have d3 : decide (l.length < l.length) = false := by simp
                rw [List.take_length] at htw
                have HJ3 : Hid (checkJoin c l = if chain c l = false then 18 else 0) := by rw [Hid, HJ2.out, htw]; simp
                replace hsI := (hsI.below hbr).more hbr.size
                clear hU htw HJ2 hT hB
                go_upto_region 22 with (fail)
                obtain ⟨wv, rfl⟩ : ∃ wv : World, wv = wr := ⟨wr, rfl⟩
                have hn1 := hTr.f.bounds.1
                have hl1' : 1 ≤ l.length := by rw [HL.out]; exact hn1
                obtain ⟨ob, oo, ocap, hov, hob, -, -, hoc⟩ := hsI.row (by omega)
                injection hov with hA hlq hcc
                clear hlq
                subst hA hcc
                have hNI : ∀ k s, l[k]? = some s → (numsI c l)[k]? = some (numS c s) := fun k s hs => by unfold numsI; rw [List.getElem?_map, hs]; rfl
                have HNI := Lib.hid hNI
                clear hNI
                go_wp2
                go_loopw [15] (fun i wq => ∃ q : Nat, 1 ≤ q ∧ q ≤ l.length ∧ i = .int .i64 q ∧ (∀ k x y, k + 1 < q → l[k]? = some x → l[k + 1]? = some y → fitsS c x y = true) ∧ Below wv.heap.size wv wq) (fun i _ => l.length - (intOf i).toNat)
                case atStart => exact ⟨1, Nat.le_refl _, hl1', rfl, fun k x y hk => by omega, Below.refl _ _⟩
                case round =>
                  obtain ⟨q, hq1, hq2, rfl, hfa, hbq⟩ := hrel
                  have hTq := hTr.call hbq
                  have hBq := hBr.trans (hbq.mono hBr.size)
                  by_cases hlt : q < l.length
                  · have d3 : decide ((q : Int) < (l.length : Int)) = true := by simp; omega
                    have d4 : decide (q < l.length) = true := by simpa using hlt
                    obtain ⟨j, hj⟩ : ∃ j, q = j + 1 := ⟨q - 1, by omega⟩
                    obtain ⟨s, hs⟩ : ∃ s, l[j]? = some s := ⟨l[j], List.getElem?_eq_getElem (by omega)⟩
                    obtain ⟨s', hs'⟩ : ∃ s', l[j + 1]? = some s' := ⟨l[j + 1], List.getElem?_eq_getElem (by omega)⟩
                    obtain ⟨m, hm1, hm2⟩ := HALL.out _ _ hs
                    obtain ⟨m', hm1', hm2'⟩ := HALL.out _ _ hs'
                    have o0 := (hbq.cell (p := ⟨ob, oo + j, none⟩) hob).trans (hoc j _ (HNI.out _ _ hs))
                    have o1 := (hbq.cell (p := ⟨ob, oo + (j + 1), none⟩) hob).trans (hoc (j + 1) _ (HNI.out _ _ hs'))
                    rw [← hj] at o1
                    rw [hm1] at o0
                    rw [hm1'] at o1
                    have hml := (List.getElem?_eq_some_iff.1 hm2).1
                    have hml' := (List.getElem?_eq_some_iff.1 hm2').1
                    have hff : fitN c m m' = fitsS c s s' := fitN_at hm2 hm2'
                    have o2 := hTq.f.tc.at_ (i := m) (k := m') (by omega) (by omega)
                    have k1 : (m : Int) < 16 := by omega
                    have k2 : (m' : Int) < 16 := by omega
                    have k3 : (j : Int) < (l.length : Int) := by omega
                    have k4 : (q : Int) < (l.length : Int) := by omega
                    have e1 : IntKind.i64.wrap (m : Int) = m := wrap_id _ (by omega) (by omega)
                    have e2 : IntKind.i64.wrap (m' : Int) = m' := wrap_id _ (by omega) (by omega)
                    have e3 : IntKind.i64.wrap ((q : Int) - 1) = j := by rw [wrap_id _ (by omega) (by omega)]; omega
                    have e4 : IntKind.i64.wrap (q : Int) = q := wrap_id _ (by omega) (by omega)
                    have e5 : IntKind.i64.wrap ((q : Int) + 1) = ((q + 1 : Nat) : Int) := by rw [wrap_id _ (by omega) (by omega)]; omega
                    have HJ := Lib.hid hj
                    have e6 : IntKind.i64.wrap (j : Int) = j := wrap_id _ (by omega) (by omega)
                    have HX := Lib.hid hs
                    have HY := Lib.hid hs'
                    have HFA := Lib.hid hfa
                    have f0 := Ext.of o0
                    have f1 := Ext.of o1
                    have f2 := Ext.of o2
                    clear hm1 hm1' hm2 hm2' hs hs' hfa o0 o1 o2 hsI hoc hj
                    cases hfi : fitN c m m'
                    · have hv : fitV c m m' = 0 := by unfold fitV; rw [hfi]; rfl
                      rw [hv] at f2
                      have HE : Hid (checkJoin c l = 18) := by rw [Hid, HJ3.out, chain_not HX.out HY.out (by rw [← hff, hfi])]; rfl
                      clear hfi hff hv
                      go_upto_region 25 with (fail)
                      refine wp_region_ext (by kernel_rfl) (by kernel_rfl) ?_
                      repeat (go_big_quiet_step (fail))
                      refine wpQuiet_nil ?_
                      intro _ hw'
                      obtain ⟨xr, hw''⟩ := hw'
                      subst hw''
                      go_wp2
                      have hBE := hBq.trans (xr.h.mono hBq.size)
                      exact bodyPost_ret (v := .tuple #[.pointer none, .slice none 0 0, .int .i64 18]) (by simp [results, Try.results49, go_sem]) rfl ⟨hBE, .inl ⟨by rw [HE.out]; decide, by rw [HE.out]⟩⟩
                    · have hv : fitV c m m' = 1 := by unfold fitV; rw [hfi]; rfl
                      rw [hv] at f2
                      have HF : Hid (fitsS c s s' = true) := by rw [Hid, ← hff, hfi]
                      clear hfi hff hv
                      go_upto_region 25 with (fail)
                      refine wp_region_ext (by kernel_rfl) (by kernel_rfl) ?_
                      repeat (go_big_quiet_step (fail))
                      refine wpQuiet_nil ?_
                      intro _ hw'
                      obtain ⟨xr, hw''⟩ := hw'
                      subst hw''
                      go_wp2
                      go_roundw
                      case rel =>
                        refine ⟨q + 1, by omega, by omega, by go_num, fun k a b hk ha hb => ?_, hbq.trans (xr.h.mono hbq.size)⟩
                        by_cases hkj : k = j
                        · have h1 := HX.out
                          have h2 := HY.out
                          rw [← hkj] at h1 h2
                          rw [ha] at h1
                          rw [hb] at h2
                          injection h1 with h1
                          injection h2 with h2
                          rw [h1, h2]
                          exact HF.out
                        · exact HFA.out k a b (by have := HJ.out; omega) ha hb
                      case measure => (simp [intOf]; try omega)
                  · have hqe : q = l.length := by omega
                    have d3 : decide ((q : Int) < (l.length : Int)) = false := by simp; omega
                    have d4 : decide (q < l.length) = false := by simp; omega
                    have HE : Hid (checkJoin c l = 0) := by
                      rw [Hid, HJ3.out, chain_all fun k a b ha hb => hfa k a b (by obtain ⟨h, -⟩ := List.getElem?_eq_some_iff.1 hb; omega) ha hb]; rfl
                    have hsQ := (hsI.below hbq).more hbq.size
                    clear hfa hoc hqe
                    go_wp2
                    exact bodyPost_ret (v := .tuple #[.pointer (some ⟨x.g, 0, none⟩), .slice (some ⟨ob, oo, none⟩) l.length cap, .int .i64 0]) (by simp [results, Try.results49, go_sem]) rfl ⟨hBq, .inr ⟨HE.out, H0.out, x, _, _, rfl, hTq, hsQ, by have := hgx; omega, by have := hgx; omega⟩⟩
    · have d1 : ((l.length : Int) != (c.pcs.length : Int)) = true := by simp; omega
      have HE : Hid (checkJoin c l = 15) := by rw [Hid, HJ.out, if_pos hlen]
      clear hlen
      go_wp2
      exact bodyPost_ret (v := .tuple #[.pointer none, .slice none 0 0, .int .i64 15]) (by simp [results, Try.results49, go_sem]) rfl ⟨hB1, .inl ⟨by rw [HE.out]; decide, by rw [HE.out]⟩⟩
end Go.Proofs.Ytjjjockfppomdaa
