/- Contract: play.Labels. -/
import Derived.Test.YthplabmbbfefeaaPlayG
namespace Go.Proofs.Ythplabmbbfefeaa
open Go.RowKit Go.Shelf
set_option linter.unusedVariables false

/-- append of all elements of a slice that lies somewhere -/
theorem wpList_appM {W : World} {ops : Array Oper} {rest : List Oper} {o : Oper} {a : Act} {Q : Exit → Act → World → Prop} {t e size bytes : Nat} {z : Value} (hT : SlT t e size bytes z)
    (hgd : o.guard = none) (s x : Operand) (ho : o.op = .call { callee := .builtin .append, args := #[s, x], argTypes := #[t, t] })
    {base n c m : Nat} {sv : Value} {xs : List Value} (hs : a.eval s = sv) (hown : W.ownsRow base e size sv n xs) (ad : Addr)
    (hx : a.eval x = .slice (some ad) m c) (news : List Value) (hlen : news.length = m * size) (hcell : ∀ j u, news[j]? = some u → W.cell? (ad.add j) = some u) (h1 : ∀ u ∈ news, u.oneCell' = true) (hbase : base ≤ W.heap.size)
    (h63 : n + m ≤ 1048576) (hby : bytes ≤ 1024)
    (h : ∀ v' w', w'.ownsRow base e size v' (n + m) (xs ++ news) → Below base W w' → W.grownBy w' sv.ownBlock → wpList Try.prog ops Q rest (a.put o.dst v') w') :
    wpList Try.prog ops Q (o :: rest) a W := by
  obtain ⟨hT1, hT2, hT3, hT4⟩ := hT
  obtain ⟨i0, hi, hz0, hz1, hz2⟩ := info_parts hT2
  have hbytes : (n + m) * bytes ≤ 140737488355328 := Nat.le_trans (Nat.mul_le_mul h63 hby) (by decide)
  refine wpList_append_own (P := Try.prog) W hgd s x t ho base e i0 z size bytes hT1 hi hz0 hz1 hz2 hT3 hT4 _ n xs hs hown ad m c news hx hlen hcell h1 (by simp only [maxLen]; omega) hbytes hbase ?_
  intro v' w' hown' hgrow _
  refine h v' w' hown' ((Below.refl _ _).grown hgrow hbase fun k hk => ?_) hgrow
  exact (hown.lt k hk).1

theorem flat_int (l : List Int) : l.flatMap (cellsOf 1 icell) = l.map (Value.int .i64) := by
  induction l with
  | nil => rfl
  | cons x r ih => rw [List.flatMap_cons, ih]; rfl

theorem slT_i64 : SlT 36 2 1 8 (.int .i64 0) := ⟨Try.underlying36, by kernel_rfl, rfl, by omega⟩

def LabelsPost (c : Cyl) (w : World) (r : Ending) (w' : World) : Prop :=
  ∃ ov, r = .returned (.tuple #[ov, .int .i64 (checkCyl c)]) ∧ Arr w' w'.heap.size 1 ov (labelsOf c) icell ∧ Below w.heap.size w w'

set_option maxRecDepth 100000 in
set_option maxHeartbeats 1600000 in
theorem labels_ok (v : Value) (c : Cyl) (w : World) (hv : CylV w w.heap.size v c) :
    Calls Try.prog 41 #[v] w (LabelsPost c w) := by
  obtain ⟨fa, fc, pa, pc, rfl, hf, hp⟩ := hv.open_
  have hC := CB.new hf hp
  have hB := (Below.refl w.heap.size w).alloc (Nat.le_refl _) (.cells #[.int .i64 c.turns, .int .i64 c.long, .int .i64 c.plays, .slice fa c.frag.length fc, .slice pa c.pas.length pc] 25)
  go_enter Try.func41, Try.ntmps41
  go_upto_region 1 with (fail)
  generalize hW : w.alloc (.cells #[.int .i64 c.turns, .int .i64 c.long, .int .i64 c.plays, .slice fa c.frag.length fc, .slice pa c.pas.length pc] 25) = W at *
  clear hW hf hp
  obtain ⟨k0, k1, k2, k3, k4⟩ := hC.c5
  go_wp2_with fail
  refine (checkCyl_ok _ c _ hC.cyl).mono ?_
  rintro e w1 ⟨rfl, hb1⟩
  have hB1 := hB.trans (hb1.mono hB.size)
  have hC1 := hC.call hb1
  clear k0 k1 k2 k3 k4
  obtain ⟨k0, k1, k2, k3, k4⟩ := hC1.c5
  by_cases h0 : checkCyl c = 0
  case neg =>
    have hn1 : (checkCyl c == 0) = false := by simpa using h0
    have hn2 : (checkCyl c != 0) = true := by simpa using h0
    have HC : Hid (labelsOf c = []) := by simp [Hid, labelsOf, h0]
    clear h0
    go_wp2
    go_ret2
    exact ⟨_, rfl, by rw [HC.out]; exact Arr.nil_, hB1⟩
  case pos =>
    have HC : Hid (labelsOf c = labL (tabC c (ownW c.pas)) (tK c) (tT c + 1)) := by simp [Hid, labelsOf, h0]
    have H0 := Lib.hid h0
    obtain ⟨_, _, hlen, hall⟩ := cyl_valid h0
    have HALL := Lib.hid hall
    clear hall
    rw [h0]
    clear h0
    go_wp2_with fail
    refine (newBoard_ok _ c _ hC1.cyl).mono ?_
    rintro e w2 ⟨rfl, hbd2, hsz2, hb2⟩
    have hB2 := hB1.trans (hb2.mono hB1.size)
    have hC2 := hC1.call hb2
    have hgle : w.heap.size < w1.heap.size + 1 := by have := hB1.size; omega
    have hgle1 : w1.heap.size + 1 < w2.heap.size := by omega
    clear k0 k1 k2 k3 k4 hsz2
    generalize w1.heap.size + 1 = g at *
    obtain ⟨n1, n2, n3, n4, n5, n6, n7⟩ := cyl_nat H0.out
    have N1 := Lib.hid n1
    have N2 := Lib.hid n2
    clear n1 n2
    go_wp2_with fail
    refine (fill_ok (tT c) (tK c) _ g c N1.out n4 (by have := N1.out; omega) N2.out n5 _ _ w2 hbd2 52 _ _ (ownW c.pas) (gives_own _ _ _ _) (fun i => by have := ownW_bound HALL.out i; omega) hlen).mono ?_
    rintro e w3 ⟨rfl, gm, hgm, hbd3, hm3, hgr3⟩
    have hb3 : Below g w2 w3 := (Below.refl g w2).grown hgr3 (Nat.le_of_lt hgle1) (fun k hk => by injection hk with hk; omega)
    have hB3 := hB2.trans (hb3.mono (Nat.le_of_lt hgle))
    have hC3 := hC2.belowB hb3 hgle
    obtain ⟨k0, k1, k2, k3, k4⟩ := hC3.c5
    rw [N1.out] at k0
    rw [N2.out] at k2
    clear hbd2 hgr3 hb3 hC2 hB2
    obtain ⟨fa', fc', pa', pc', hbd3⟩ := hbd3
    have hbd3 : Board w3 _ g c fa' fc' pa' pc' (tabC c (ownW c.pas)) _ := hbd3
    obtain ⟨V, hV⟩ : ∃ V, V = tabC c (ownW c.pas) := ⟨_, rfl⟩
    rw [← hV] at hbd3 HC
    clear hV hm3
    obtain ⟨T, hTT⟩ : ∃ T, T = tT c := ⟨_, rfl⟩
    obtain ⟨K, hKK⟩ : ∃ K, K = tK c := ⟨_, rfl⟩
    rw [← hTT] at n3 n4 N1 k0 HC
    rw [← hKK] at n5 N2 k2 HC
    clear hTT hKK
    go_wp2
    go_loopw [6, 22] (fun out i wr => ∃ (n : Nat) (A : Option Addr) (cap : Nat), n ≤ T + 1 ∧ i = .int .i64 n ∧ out = .slice A (n * (K + 1)) cap ∧ wr.ownsRow w3.heap.size 2 1 (.slice A (n * (K + 1)) cap) (n * (K + 1)) ((labL V K n).map (Value.int .i64)) ∧ Below w3.heap.size w3 wr) (fun _ i _ => T + 1 - (intOf i).toNat)
    case atStart => exact ⟨0, none, 0, by omega, rfl, by simp, by simpa [labL] using World.ownsRow_nil _ _ _ _, Below.refl _ _⟩
    case round =>
      obtain ⟨n, A, cap, hn, rfl, rfl, hown, hb⟩ := hrel
      have hCr := hC3.call hb
      have hbr := hbd3.call hb
      clear k0 k1 k2 k3 k4
      obtain ⟨k0, k1, k2, k3, k4⟩ := hCr.c5
      rw [N1.out] at k0
      rw [N2.out] at k2
      by_cases hlt : n < T + 1
      · have a0 : (n : Int) < (T : Int) + 1 := by omega
        have a1 : (n : Int) < 31 := by omega
        have a2 : IntKind.i64.wrap ((K : Int) + 1) = (K : Int) + 1 := wrap_id _ (by omega) (by omega)
        have a3 : (0 : Int) ≤ (K : Int) + 1 := by omega
        have a4 : (K : Int) + 1 ≤ 7 := by omega
        have a5 : ((K : Int) + 1).toNat = K + 1 := by omega
        have hnk : n * (K + 1) ≤ 31 * 7 := Nat.mul_le_mul (by omega) (by omega)
        have hnk2 : (n + 1) * (K + 1) = n * (K + 1) + (K + 1) := by rw [Nat.add_mul]; omega
        have HNK := Lib.hid hnk2
        clear hnk2
        go_wp2_with fail
        go_still_tail 10, (by kernel_rfl)
        change wpList _ _ _ _ _ (wr).drew
        have hbd := hb.drew
        refine wpList_appM slT_i64 rfl (.tmp 25) (.tmp 34) rfl rfl (show wr.drew.ownsRow _ _ _ _ _ _ from hown) ⟨g, 5 + n * 7, none⟩ rfl ((rowL V K n).map (Value.int .i64)) (by simp [rowL_length]) ?_ ?_ hb.size ?_ ?_ ?_
        · intro j u hu
          have hjl := (List.getElem?_eq_some_iff.1 hu).1
          simp only [List.length_map, rowL_length] at hjl
          rw [List.getElem?_map, rowL_get _ _ _ _ (by omega)] at hu
          injection hu with hu
          have ha : (⟨g, 5 + n * 7, none⟩ : Addr).add j = ⟨g, 5 + n * 7 + j, none⟩ := by unfold Addr.add; split <;> simp_all
          rw [ha, ← hu]
          exact hbr.at_ (by omega) (by omega)
        · intro u hu
          obtain ⟨x, _, rfl⟩ := List.mem_map.1 hu
          rfl
        · omega
        · omega
        intro v' w5 hown5 hb5 _
        rw [← List.map_append, show labL V K n ++ rowL V K n = labL V K (n + 1) from rfl, ← HNK.out] at hown5
        obtain ⟨A', cap', rfl⟩ := own_form hown5
        have hb6 := hbd.trans hb5
        go_wp2
        go_roundw
        case rel => exact ⟨n + 1, A', cap', by omega, by go_num, rfl, hown5, hb6⟩
        case measure => simp [intOf]; omega
      · obtain rfl : n = T + 1 := by omega
        go_wp2
        go_ret2
        refine ⟨.slice A ((T + 1) * (K + 1)) cap, ret_t2 rfl H0.out.symm, ?_, hB3.trans (hb.mono hB3.size)⟩
        rw [HC.out]
        rw [← flat_int, ← labL_length V K (T + 1)] at hown
        have harr := Arr.of_own hown
        rw [labL_length] at harr
        exact harr
end Go.Proofs.Ythplabmbbfefeaa
