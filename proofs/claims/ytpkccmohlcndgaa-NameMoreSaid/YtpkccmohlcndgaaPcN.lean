/- What a side cuts: the model, the marks' cells, the two closures of Cut. Contract: Cut. -/
import Derived.Test.YtpkccmohlcndgaaPcM
import Derived.BigQuiet
namespace Go.Proofs.Ytpkccmohlcndgaa
open Go.RowKit Go.Shelf
set_option linter.unusedVariables false

theorem slT_bool : SlT 87 4 1 1 (.bool false) := ⟨Try.underlying87, by kernel_rfl, rfl, by omega⟩
/-- the names of a side -/
def inS (S : List Int) (u : Nat) : Bool := (natL S).contains u
def sideE (l : NL) (S : List Int) : Bool := l.left.any (fun x => !inS S x.toNat) || l.right.any fun x => inS S x.toNat
def cutE (l : NL) (S : List Int) : Int := if checkL l ≠ 0 then checkL l else if rises l.n S = false then 3 else if sideE l S = true then 16 else 0
def cutsL (l : NL) (S : List Int) : List Int := if cutE l S = 0 then intL (cutL l (inS S)) else []
def cutsC (l : NL) (S : List Int) : Int := if cutE l S = 0 then cutC l.L (inS S) else 0
section
variable {l : NL} {S : List Int}
theorem cutE_bad (h : checkL l ≠ 0) : cutE l S = checkL l := if_pos h
theorem cutE_rises (h : checkL l = 0) (h1 : rises l.n S = false) : cutE l S = 3 := by unfold cutE; rw [if_neg (by simpa using h), if_pos h1]
theorem cutE_side (h : checkL l = 0) (h1 : rises l.n S = true) (h2 : sideE l S = true) : cutE l S = 16 := by unfold cutE; rw [if_neg (by simpa using h), if_neg (by simp [h1]), if_pos h2]
theorem cutE_ok (h : checkL l = 0) (h1 : rises l.n S = true) (h2 : sideE l S = false) : cutE l S = 0 := by unfold cutE; rw [if_neg (by simpa using h), if_neg (by simp [h1]), if_neg (by simp [h2])]
theorem cutE_inv (h : cutE l S = 0) : checkL l = 0 ∧ rises l.n S = true ∧ sideE l S = false := by
  unfold cutE at h
  by_cases h0 : checkL l = 0
  · rw [if_neg (by simpa using h0)] at h
    cases h1 : rises l.n S
    · rw [h1] at h; simp at h
    · cases h2 : sideE l S
      · exact ⟨h0, rfl, rfl⟩
      · rw [h1, h2] at h; simp at h
  · rw [if_pos h0] at h; exact absurd h h0
theorem cuts_bad (h : cutE l S ≠ 0) : cutsL l S = [] ∧ cutsC l S = 0 := ⟨if_neg h, if_neg h⟩
theorem cuts_go (h : cutE l S = 0) : cutsL l S = intL (cutL l (inS S)) ∧ cutsC l S = cutC l.L (inS S) := ⟨if_pos h, if_pos h⟩
theorem sideE_iff (g : Good l) : sideE l S = false ↔ Side l (inS S) := by
  unfold sideE Side
  rw [Bool.or_eq_false_iff, List.any_eq_false, List.any_eq_false]
  have hp := fun (ls : List Int) (p : Nat → Bool) (u : Nat) => show (u ∈ natL ls ↔ ∃ x ∈ ls, x.toNat = u) from List.mem_map
  constructor
  · rintro ⟨h1, h2⟩
    refine ⟨fun u hu => ?_, fun u hu => ?_⟩
    · obtain ⟨x, hx, rfl⟩ := List.mem_map.1 (NL.mA.1 hu)
      simpa using h1 x hx
    · obtain ⟨x, hx, rfl⟩ := List.mem_map.1 (NL.mB.1 hu)
      simpa using h2 x hx
  · rintro ⟨h1, h2⟩
    refine ⟨fun x hx => ?_, fun x hx => ?_⟩
    · have := h1 x.toNat (NL.mA.2 (List.mem_map.2 ⟨x, hx, rfl⟩))
      simpa using this
    · have := h2 x.toNat (NL.mB.2 (List.mem_map.2 ⟨x, hx, rfl⟩))
      simpa using this
end
/-- the marks after some names of the side -/
def markS (S : List Nat) (k u : Nat) : Bool := decide (u ∈ S.take k)
theorem markS_zero (S : List Nat) : markS S 0 = fun _ => false := by funext u; simp [markS]
theorem markS_succ {S : List Nat} {k x : Nat} (h : S[k]? = some x) (j : Nat) : markS S (k + 1) j = if j = x then true else markS S k j := by
  unfold markS
  rw [take_snoc h]
  by_cases h1 : j = x
  · simp [h1]
  · rw [if_neg h1]; simp [h1]
theorem markS_all (S : List Int) : markS (natL S) (natL S).length = inS S := by
  funext u
  unfold markS inS
  rw [List.take_length, Bool.eq_iff_iff]
  simp
/-- the links among the first ones, and what they cost -/
def cutTo (l : NL) (m : Nat → Bool) (k : Nat) : List Nat := (List.range k).filter fun i => m (lkAt l.L i).a != m (lkAt l.L i).b
def costTo (l : NL) (m : Nat → Bool) (k : Nat) : Int := isum (fun i => if m (lkAt l.L i).a ≠ m (lkAt l.L i).b then (lkAt l.L i).t else 0) (List.range k)
theorem cutTo_succ (l : NL) (m : Nat → Bool) (k : Nat) : cutTo l m (k + 1) = if (m (lkAt l.L k).a != m (lkAt l.L k).b) = true then cutTo l m k ++ [k] else cutTo l m k := by
  unfold cutTo
  rw [List.range_succ, List.filter_append]
  by_cases h : (m (lkAt l.L k).a != m (lkAt l.L k).b) = true
  · rw [if_pos h, List.filter_cons_of_pos (by exact h)]; rfl
  · rw [if_neg h, List.filter_cons_of_neg (by exact h)]; simp
theorem cutTo_len (l : NL) (m : Nat → Bool) (k : Nat) : (cutTo l m k).length ≤ k := by
  unfold cutTo
  exact Nat.le_trans (List.length_filter_le _ _) (by simp)
theorem costTo_succ (l : NL) (m : Nat → Bool) (k : Nat) : costTo l m (k + 1) = costTo l m k + (if (m (lkAt l.L k).a != m (lkAt l.L k).b) = true then (lkAt l.L k).t else 0) := by
  unfold costTo
  rw [List.range_succ, isum_append]
  have e : (m (lkAt l.L k).a ≠ m (lkAt l.L k).b) ↔ (m (lkAt l.L k).a != m (lkAt l.L k).b) = true := (bne_iff_ne).symm
  simp only [isum, List.map_cons, List.map_nil, List.sum_cons, List.sum_nil]
  by_cases h : (m (lkAt l.L k).a != m (lkAt l.L k).b) = true
  · rw [if_pos h, if_pos (e.2 h)]; omega
  · rw [if_neg h, if_neg (fun c => h (e.1 c))]; omega
/-- marks in memory -/
def BoolB (W : World) (b n : Nat) (m : Nat → Bool) : Prop := Blk W b 4 (rowA n fun u => .bool (m u))
section
variable {W : World} {b n : Nat} {m : Nat → Bool}
theorem BoolB.at_ (h : BoolB W b n m) {i : Nat} (hi : i < n) : W.cell? ⟨b, i, none⟩ = some (.bool (m i)) := (Blk.cell h i).trans (rowA_get hi)
theorem BoolB.put (h : BoolB W b n m) {i : Nat} {x : Bool} {g : Nat → Bool} (hg : ∀ j, j < n → g j = if j = i then x else m j) : BoolB (W.setCell ⟨b, i, none⟩ (.bool x)) b n g := by
  have := Blk.set_ h i (.bool x)
  rw [rowA_set (g := fun u => .bool (g u)) fun j hj => by rw [hg j hj]; split <;> rfl] at this
  exact this
end
theorem cut1_ok (x : Int) (hx : 0 ≤ x) (tb b n : Nat) (m : Nat → Bool) (hn : x.toNat < n) (w : World) (ht : w.cell? ⟨tb, 0, none⟩ = some (.slice (some ⟨b, 0, none⟩) n n)) (hm : BoolB w b n m) :
    Calls Try.prog 61 #[.int .i64 x, .pointer (some ⟨tb, 0, none⟩)] w fun r w' => r = .returned (.bool (!m x.toNat)) ∧ Below w.heap.size w w' := by
  obtain ⟨u, rfl⟩ : ∃ u : Nat, x = (u : Int) := ⟨x.toNat, by omega⟩
  have hu : u < n := by simpa using hn
  have hui : (u : Int) < (n : Int) := by omega
  have c0 := hm.at_ hu
  clear hm hn
  go_enter Try.func61, Try.ntmps61
  go_wp2
  go_ret
  exact ⟨ret_b (by simp), Below.refl _ _⟩
theorem cut2_ok (x : Int) (hx : 0 ≤ x) (tb b n : Nat) (m : Nat → Bool) (hn : x.toNat < n) (w : World) (ht : w.cell? ⟨tb, 0, none⟩ = some (.slice (some ⟨b, 0, none⟩) n n)) (hm : BoolB w b n m) :
    Calls Try.prog 62 #[.int .i64 x, .pointer (some ⟨tb, 0, none⟩)] w fun r w' => r = .returned (.bool (m x.toNat)) ∧ Below w.heap.size w w' := by
  obtain ⟨u, rfl⟩ : ∃ u : Nat, x = (u : Int) := ⟨x.toNat, by omega⟩
  have hu : u < n := by simpa using hn
  have hui : (u : Int) < (n : Int) := by omega
  have c0 := hm.at_ hu
  clear hm hn
  go_enter Try.func62, Try.ntmps62
  go_wp2
  go_ret
  exact ⟨ret_b (by simp), Below.refl _ _⟩
end Go.Proofs.Ytpkccmohlcndgaa

namespace Go.Proofs.Ytpkccmohlcndgaa
open Go.RowKit Go.Shelf
set_option linter.unusedVariables false

theorem own_block {w : World} {base n size cap : Nat} {e : TypeId} {A : Option Addr} {xs : List Value} (h : w.ownsRow base e size (.slice A n cap) n xs) : ∀ ad, A = some ad → ad.block < w.heap.size := by
  intro ad hA
  rcases h.2 with ⟨h1, -⟩ | ⟨g, c, cur, h1, -, h3, -⟩
  · injection h1 with h1
    rw [h1] at hA
    cases hA
  · injection h1 with h1
    rw [h1] at hA
    injection hA with hA
    rw [← hA]
    exact heap_lt h3
set_option maxHeartbeats 1600000 in
theorem cut_ok (v sv : Value) (l : NL) (S : List Int) (w : World) (hv : NLV w w.heap.size v l) (hs : Arr w w.heap.size 1 sv S icell) :
    Calls Try.prog 24 #[v, sv] w fun r w' => ∃ cv, r = .returned (.tuple #[cv, .int .i64 (cutsC l S), .int .i64 (cutE l S)]) ∧ Arr w' w'.heap.size 1 cv (cutsL l S) icell ∧ Below w.heap.size w w' := by
  obtain ⟨ka, kc, aa, ac, ba, bc, rfl, hna⟩ := hv
  obtain ⟨sa, sc, rfl⟩ : ∃ a c, sv = .slice a S.length c := by
    obtain ⟨a, c, h, -⟩ := hs
    exact ⟨a, c, h⟩
  have hSn : S.length ≤ 9223372036854775807 := by
    obtain ⟨a, c, h, h1, h2, -⟩ := hs
    omega
  have hC := NB.new hna
  have hB := (Below.refl w.heap.size w).alloc (Nat.le_refl _) (.cells #[.int .i64 l.n, .slice ka l.links.length kc, .slice aa l.left.length ac, .slice ba l.right.length bc] 25)
  go_enter Try.func24, Try.ntmps24
  go_upto_region 1 with (fail)
  generalize w.alloc (.cells #[.int .i64 l.n, .slice ka l.links.length kc, .slice aa l.left.length ac, .slice ba l.right.length bc] 25) = W at *
  obtain ⟨k0, k1, k2, k3⟩ := hC.blk.c4
  have ho := checkList_ok _ l W hC.v
  go_wp2_with fail
  refine ho.mono ?_
  rintro e w1 ⟨rfl, hb⟩
  replace hB := hB.trans (hb.mono hB.size)
  replace hC := hC.call hb
  clear ho k0 k1 k2 k3 hb
  by_cases h0 : checkL l = 0
  · have d0 : (checkL l != 0) = false := by simp [h0]
    have hg := check_good.1 h0
    have H0 := Lib.hid h0
    obtain ⟨k0, k1, k2, k3⟩ := hC.blk.c4
    go_upto_region 4 with (fail)
    have hP := Blk.new w1 23 #[.slice sa S.length sc]
    have hb1 := (Below.refl w1.heap.size w1).alloc (Nat.le_refl _) (.cells #[.slice sa S.length sc] 23)
    have hB1 := hB.trans (hb1.mono hB.size)
    have hS1 := hs.below hB1
    have hls : LLi (w1.alloc (.cells #[.slice sa S.length sc] 23)) (.slice (some ⟨w1.heap.size, 0, none⟩) 1 1) [S] := Arr.sole hP (by simp) (hS1.more hB1.size)
    have hrs := rising_ok l.n _ [S] _ hls
    simp only [List.all_cons, List.all_nil, Bool.and_true] at hrs
    have hC1 := hC.call hb1
    clear hP hls hb1 hS1 hB hC
    go_wp2_with fail
    refine hrs.mono ?_
    rintro e w2 ⟨rfl, hb2⟩
    have hB2 := hB1.trans (hb2.mono hB1.size)
    have hC2 := hC1.call hb2
    clear hrs hB1 hC1 hb2 k0 k1 k2 k3
    cases hr : rises l.n S
    · have d1 : (!rises l.n S) = true := by simp [hr]
      have HE := Lib.hid (cutE_rises H0.out hr)
      have HL := Lib.hid (cuts_bad (S := S) (l := l) (by rw [cutE_rises H0.out hr]; decide))
      clear hr
      go_wp2
      go_ret3
      exact ⟨_, by rw [HE.out, HL.out.2]; rfl, by rw [HL.out.1]; exact Arr.nil_, hB2⟩
    · have d1 : (!rises l.n S) = false := by simp [hr]
      obtain ⟨hsp, hslt, hsi⟩ := rises_nat hr
      have HSI := Lib.hid hsi
      clear hsi
      have HSl : Hid (S.length = (natL S).length) := by simp [Hid, natL]
      have hsk : ∀ u ∈ natL S, u < l.N := fun u hu => by have := hslt u hu; have := hg.nN; omega
      have hN40 : l.N ≤ 40 := by have := hg.forty; have := hg.nN; omega
      have HR := Lib.hid hr
      obtain ⟨k0, k1, k2, k3⟩ := hC2.blk.c4
      rw [← hg.nN] at k0
      have hmk := run_mk slT_bool l.N (by omega) (by omega)
      clear hr hslt hsp
      go_upto_region 7 with (fail)
      have hx := Blk.new w2 4 (madeCells #[.bool false] l.N)
      have hb3 := (Below.refl w2.heap.size w2).alloc (Nat.le_refl _) (.cells (madeCells #[.bool false] l.N) 4)
      generalize hw3 : w2.alloc (.cells (madeCells #[.bool false] l.N) 4) = w3 at *
      have hs3 : w3.heap.size = w2.heap.size + 1 := by rw [← hw3]; simp
      have hT := Blk.new w3 87 #[.slice (some ⟨w2.heap.size, 0, none⟩) l.N l.N]
      have hb4 := (Below.refl w3.heap.size w3).alloc (Nat.le_refl _) (.cells #[.slice (some ⟨w2.heap.size, 0, none⟩) l.N l.N] 87)
      have hx4 := hx.call hb4
      have hB3 := hB2.trans (hb3.mono hB2.size)
      have hC3 := hC2.call hb3
      have hB4 := hB3.trans (hb4.mono hB3.size)
      have hC4 := hC3.call hb4
      have hM : BoolB (w3.alloc (.cells #[.slice (some ⟨w2.heap.size, 0, none⟩) l.N l.N] 87)) w2.heap.size l.N (markS (natL S) 0) := by
        have e : (rowA l.N fun _ => Value.bool false) = madeCells #[.bool false] l.N := (made_one _ _).symm
        rw [markS_zero]
        unfold BoolB
        rw [e]
        exact hx4
      have hs4 := hb4.size
      have hww := hC2.blk.lt
      have hTl := hT.lt
      rw [hs3] at hT hTl
      clear k0 k1 k2 k3 hmk hx hx4 hb3 hb4 hw3 hC2 hC3 hB3 hs3
      generalize w3.alloc (.cells #[.slice (some ⟨w2.heap.size, 0, none⟩) l.N l.N] 87) = w4 at *
      go_wp2
      go_loopw [31] (fun i wr => ∃ k : Nat, k ≤ S.length ∧ i = .int .i64 k ∧ BoolB wr w2.heap.size l.N (markS (natL S) k) ∧ w4.grownBy wr (some w2.heap.size)) (fun i _ => S.length - (intOf i).toNat)
      case atStart => exact ⟨0, Nat.zero_le _, rfl, hM, World.grownBy.refl _ _⟩
      case round =>
        obtain ⟨k, hk, rfl, hMr, hgr⟩ := hrel
        have hBr : Below w.heap.size w wr := ⟨hgr.os.trans hB4.os, hgr.tape.trans hB4.tape, hgr.output.trans hB4.output, Nat.le_trans hB4.size hgr.size, fun q hq => (hgr.block q (Nat.lt_of_lt_of_le hq hB4.size) fun e => by injection e; have := hB2.size; omega).trans (hB4.block q hq)⟩
        have hTr : Blk wr (w2.heap.size + 1) 87 #[.slice (some ⟨w2.heap.size, 0, none⟩) l.N l.N] := hT.grown hgr fun e => by injection e; omega
        have t0 := hTr.cell 0
        simp at t0
        by_cases hlt : k < S.length
        · have d2 : decide (k < S.length) = true := decide_eq_true hlt
          have d2' : decide ((k : Int) < (S.length : Int)) = true := decide_eq_true (by omega)
          have hki : (k : Int) < (S.length : Int) := by omega
          obtain ⟨b, off, y, rfl, hb, hy, c0⟩ := numx_at (hs.below hBr) hlt
          obtain ⟨x, hxk⟩ : ∃ x, (natL S)[k]? = some x := ⟨_, List.getElem?_eq_getElem (by rw [← HSl.out]; exact hlt)⟩
          have hyx : y = (x : Int) := by
            rw [HSI.out, List.getElem?_map, hxk] at hy
            exact (Option.some.inj hy).symm
          subst hyx
          have hxN := hsk x (List.mem_of_getElem? hxk)
          have hxi : (x : Int) < (l.N : Int) := by omega
          have c1 := hMr.at_ hxN
          have c2 := Blk.frozen hMr x
          have hM2 := hMr.put (i := x) (x := true) (g := markS (natL S) (k + 1)) fun j _ => markS_succ hxk j
          have hgr2 : w4.grownBy (wr.setCell ⟨w2.heap.size, x, none⟩ (.bool true)) (some w2.heap.size) := grown_trans' hgr (grown_setCell _)
          clear hMr hgr hBr hTr hxk hy
          go_wp2
          go_roundw
          case rel => exact ⟨k + 1, by omega, by go_num, hM2, hgr2⟩
          case measure => (simp [intOf]; try omega)
        · obtain rfl : k = S.length := by omega
          have d2 : decide (S.length < S.length) = false := by simp
          rw [HSl.out, markS_all] at hMr
          have hCr : NB wr w.heap.size l ka kc aa ac ba bc := ⟨hC4.blk.grown hgr fun e => by injection e; omega, (hna.below hBr).more hBr.size⟩
          obtain ⟨k0, k1, k2, k3⟩ := hCr.blk.c4
          have hcl1 := containsFunc_int _ l.left 61 #[] #[.pointer (some ⟨w2.heap.size + 1, 0, none⟩)] (fun x => !inS S x.toNat) wr (enters_of Try.func61 (by kernel_rfl) rfl) hCr.na.as_ (fun x hx w5 hb5 => by
            have hp := hg.left_pos x hx
            have hxN := hg.ltA (NL.mA.2 (List.mem_map.2 ⟨x, hx, rfl⟩))
            have hT5 := (hTr.call hb5).cell 0
            simp at hT5
            exact cut1_ok x hp (w2.heap.size + 1) w2.heap.size l.N (inS S) hxN w5 hT5 (Blk.call hMr hb5))
          have hcl2 := fun w' (hb' : Below wr.heap.size wr w') => containsFunc_int _ l.right 62 #[] #[.pointer (some ⟨w2.heap.size + 1, 0, none⟩)] (fun x => inS S x.toNat) w' (enters_of Try.func62 (by kernel_rfl) rfl) (hCr.call hb').na.bs (fun x hx w5 hb5 => by
            have hp := hg.right_pos x hx
            have hxN := hg.ltB (NL.mB.2 (List.mem_map.2 ⟨x, hx, rfl⟩))
            have hT5 := ((hTr.call hb').call hb5).cell 0
            simp at hT5
            exact cut2_ok x hp (w2.heap.size + 1) w2.heap.size l.N (inS S) hxN w5 hT5 (Blk.call (Blk.call hMr hb') hb5))
          cases hl : l.left.any (fun x => !inS S x.toNat)
          · rw [hl] at hcl1
            cases hr2 : l.right.any (fun x => inS S x.toNat)
            · rw [hr2] at hcl2
              have he : sideE l S = false := by unfold sideE; rw [hl, hr2]; rfl
              have HE := Lib.hid (cutE_ok H0.out HR.out he)
              have HL := Lib.hid (cuts_go (cutE_ok H0.out HR.out he))
              clear hl hr2 he
              go_wp2_with fail
              refine hcl1.mono ?_
              rintro e w5 ⟨rfl, hb5⟩
              have hcl3 := hcl2 w5 hb5
              have hC5 := hCr.call hb5
              have hM5 : BoolB w5 w2.heap.size l.N (inS S) := Blk.call hMr hb5
              have hT5 := hTr.call hb5
              have hB5 := hBr.trans (hb5.mono hBr.size)
              clear hcl1 hcl2 k0 k1 k2 k3 hCr hMr hTr hBr t0 hb5 hgr
              obtain ⟨k0, k1, k2, k3⟩ := hC5.blk.c4
              go_wp2_with fail
              refine hcl3.mono ?_
              rintro e w6 ⟨rfl, hb6⟩
              have hC6 := hC5.call hb6
              have hM6 : BoolB w6 w2.heap.size l.N (inS S) := Blk.call hM5 hb6
              have hT6 := hT5.call hb6
              have hB6 := hB5.trans (hb6.mono hB5.size)
              clear hcl3 k0 k1 k2 k3 hC5 hM5 hT5 hB5 hb6
              obtain ⟨k0, k1, k2, k3⟩ := hC6.blk.c4
              have h120 := hg.few
              have HX := Lib.hid (show cutTo l (inS S) l.links.length = cutL l (inS S) from rfl)
              have HY := Lib.hid (show costTo l (inS S) l.links.length = cutC l.L (inS S) by unfold costTo cutC; rw [NL.len])
              obtain ⟨m, hm⟩ : ∃ m, m = inS S := ⟨_, rfl⟩
              rw [← hm] at HX HY hM6 HL
              clear hm
              go_wp2
              go_loopw [11, 12, 52] (fun sv cv i wr => ∃ (k : Nat) (A : Option Addr) (cap : Nat), k ≤ l.links.length ∧ i = .int .i64 k ∧ sv = .slice A (cutTo l m k).length cap ∧ cv = .int .i64 (costTo l m k) ∧ (0 ≤ costTo l m k ∧ costTo l m k ≤ 1000000 * (k : Int)) ∧ wr.ownsRow w6.heap.size 3 1 (.slice A (cutTo l m k).length cap) (cutTo l m k).length ((intL (cutTo l m k)).map (Value.int .i64)) ∧ Below w6.heap.size w6 wr) (fun _ _ i _ => l.links.length - (intOf i).toNat)
              case atStart => exact ⟨0, none, 0, Nat.zero_le _, rfl, rfl, rfl, by simp [costTo, isum], by simpa [cutTo, intL] using World.ownsRow_nil _ _ _ _, Below.refl _ _⟩
              case round =>
                obtain ⟨k, A, cap, hk, rfl, rfl, rfl, hcb, hown, hbw⟩ := hrel
                have hft := cutTo_succ l m k
                have hct := costTo_succ l m k
                have hfl := cutTo_len l m k
                have hCr := hC6.call hbw
                have hMr : BoolB wr w2.heap.size l.N m := Blk.call hM6 hbw
                have hTr := hT6.call hbw
                by_cases hlt : k < l.links.length
                · have d2 : decide (k < l.links.length) = true := decide_eq_true hlt
                  have d2' : decide ((k : Int) < (l.links.length : Int)) = true := decide_eq_true (by omega)
                  have hki : (k : Int) < (l.links.length : Int) := by omega
                  obtain ⟨a, b, t, h1, h2, h3, h4, h5, h6, h7⟩ := hg.lk_at hlt
                  obtain ⟨kb, ko, x, rfl, k2, kx, c0, c1, c2⟩ := link_at hCr.na.ks hlt
                  rw [h1] at kx
                  injection kx with kx
                  subst kx
                  simp only [h2] at hft hct
                  have hfa := hMr.at_ h3
                  have hfb := hMr.at_ h4
                  have ha2 : (a : Int) < (l.N : Int) := by omega
                  have hb2 : (b : Int) < (l.N : Int) := by omega
                  go_upto_region 19 with (fail)
                  have hX := Blk.new wr 60 #[.int .i64 (a : Int), .int .i64 (b : Int), .int .i64 t]
                  have hb1 := (Below.refl wr.heap.size wr).alloc (Nat.le_refl _) (.cells #[.int .i64 (a : Int), .int .i64 (b : Int), .int .i64 t] 60)
                  have hown1 := own_call hown hb1
                  have hAlt := own_block hown
                  have hbw1 := hbw.trans (hb1.mono hbw.size)
                  have hM1 : BoolB _ w2.heap.size l.N m := Blk.call hMr hb1
                  have hT1 := hTr.call hb1
                  clear hown hMr hTr hCr hfa hfb c0 c1 c2 hb1
                  generalize wr.alloc (.cells #[.int .i64 (a : Int), .int .i64 (b : Int), .int .i64 t] 60) = V at *
                  have hfa := hM1.at_ h3
                  have hfb := hM1.at_ h4
                  have t0 := hT1.cell 0
                  have x0 := hX.cell 0
                  have x1 := hX.cell 1
                  have x2 := hX.cell 2
                  simp at x0 x1 x2 t0
                  by_cases hqq : m a = m b
                  · have hq : (m a != m b) = false := by simp [hqq]
                    rw [hq] at hft hct
                    simp only [Bool.false_eq_true, if_false, Int.add_zero] at hft hct
                    rw [← hqq] at hfb
                    clear hq hqq
                    go_quiet (fail)
                    rw [← hft] at hown1
                    rw [← hft, ← hct]
                    rw [← hct] at hcb
                    clear hft hct
                    go_wp2
                    go_roundw
                    case rel => exact ⟨k + 1, _, _, by omega, by go_num, rfl, rfl, by omega, hown1, bdrewN hbw1 _⟩
                    case measure => (simp [intOf]; try omega)
                  · have hq : (m a != m b) = true := by simp [hqq]
                    rw [hq] at hft hct
                    simp only [if_true] at hft hct
                    have hqb : m b = !m a := by
                      cases h1 : m a <;> cases h2 : m b <;> simp_all
                    rw [hqb] at hfb
                    have HFT := Lib.hid hft
                    have wc : IntKind.i64.wrap (costTo l m k + t) = costTo l m (k + 1) := by rw [hct]; exact wrap_id _ (by omega) (by omega)
                    have hcb2 : 0 ≤ costTo l m (k + 1) ∧ costTo l m (k + 1) ≤ 1000000 * ((k + 1 : Nat) : Int) := by omega
                    clear hq hqq hqb hft hct hcb
                    go_quiet (fail)
                    have hx2 : (V.drewN nq).cell? ⟨wr.heap.size, 2, none⟩ = some (.int .i64 t) := x2
                    have hownq : (V.drewN nq).ownsRow w6.heap.size 3 1 (.slice A (cutTo l m k).length cap) (cutTo l m k).length ((intL (cutTo l m k)).map (Value.int .i64)) := hown1
                    have hbwq := bdrewN hbw1 nq
                    have hszq := hbwq.size
                    have hVw : wr.heap.size < (V.drewN nq).heap.size := Blk.lt hX
                    clear hown1 hbw1 x0 x1 x2 hfa hfb hM1 hT1 t0 hX
                    generalize V.drewN nq = Z at *
                    generalize hn0 : (cutTo l m k).length = n at *
                    have HN0 := Lib.hid hn0
                    clear hn0
                    obtain ⟨-, hnc, hncm⟩ := own_cap hownq
                    go_wp2_with (at_builtin; refine wpList_app1 slT_int rfl (.tmp 68) (.tmp 70) rfl (A := A) (cc := cap) rfl ⟨cap, hownq, .inl rfl⟩ rfl rfl one_1 hszq ?_ ?_ ?_)
                    any_goals omega
                    intro v4 w4' hown4 hb4' hkeep4
                    have hown5 : w4'.ownsRow w6.heap.size 3 1 v4 (cutTo l m (k + 1)).length ((intL (cutTo l m (k + 1))).map (Value.int .i64)) := by
                      rw [HFT.out, intL_append, List.map_append, List.length_append, HN0.out]
                      exact hown4
                    have hbw2 := hbwq.trans hb4'
                    obtain ⟨A4, c4, rfl⟩ := own_form hown5
                    have hx3 : w4'.cell? ⟨wr.heap.size, 2, none⟩ = some (.int .i64 t) := by
                      have hk := hkeep4 wr.heap.size hVw fun ad e => Nat.ne_of_lt (hAlt ad e)
                      unfold World.cell? at hx2 ⊢
                      rw [hk]
                      exact hx2
                    clear hown4 hb4' hkeep4 hownq hx2
                    go_wp2
                    go_roundw
                    case rel => exact ⟨k + 1, _, _, by omega, by go_num, rfl, rfl, by omega, hown5, hbw2⟩
                    case measure => (simp [intOf]; try omega)
                · obtain rfl : k = l.links.length := by omega
                  have d2 : decide (l.links.length < l.links.length) = false := by simp
                  rw [HX.out] at hown
                  rw [HX.out, HY.out]
                  have hB7 := hB6.trans (hbw.mono hB6.size)
                  have hia : (intL (cutL l m)).length = (cutL l m).length := by simp [intL]
                  have harr : Arr wr wr.heap.size 1 (.slice A (cutL l m).length cap) (intL (cutL l m)) icell := Arr.of_own (by rw [flat_int, hia]; exact hown)
                  clear hown hft hct hfl hia hcb
                  go_wp2
                  go_ret3
                  exact ⟨_, by rw [HL.out.2, HE.out]; rfl, by rw [HL.out.1]; exact harr, hB7⟩
            · rw [hr2] at hcl2
              have he : cutE l S = 16 := cutE_side H0.out HR.out (by unfold sideE; rw [hr2, Bool.or_true])
              have HE := Lib.hid he
              have HL := Lib.hid (cuts_bad (S := S) (l := l) (by rw [he]; decide))
              clear hl he hr2 hgr hC4 hM t0
              go_wp2_with fail
              refine hcl1.mono ?_
              rintro e w5 ⟨rfl, hb5⟩
              have hcl3 := hcl2 w5 hb5
              have hC5 := hCr.call hb5
              have hB5 := hBr.trans (hb5.mono hBr.size)
              clear hcl1 hcl2 k0 k1 k2 k3 hCr
              obtain ⟨k0, k1, k2, k3⟩ := hC5.blk.c4
              go_wp2_with fail
              refine hcl3.mono ?_
              rintro e w6 ⟨rfl, hb6⟩
              have hB6 := hB5.trans (hb6.mono hB5.size)
              clear hcl3 k0 k1 k2 k3
              go_wp2
              go_ret3
              exact ⟨_, by rw [HE.out, HL.out.2]; rfl, by rw [HL.out.1]; exact Arr.nil_, hB6⟩
          · rw [hl] at hcl1
            have he : cutE l S = 16 := cutE_side H0.out HR.out (by unfold sideE; rw [hl]; rfl)
            have HE := Lib.hid he
            have HL := Lib.hid (cuts_bad (S := S) (l := l) (by rw [he]; decide))
            clear hcl2 hl he hMr hgr hC4 hM t0
            go_wp2_with fail
            refine hcl1.mono ?_
            rintro e w5 ⟨rfl, hb5⟩
            have hB5 := hBr.trans (hb5.mono hBr.size)
            clear hcl1 k0 k1 k2 k3
            go_wp2
            go_ret3
            exact ⟨_, by rw [HE.out, HL.out.2]; rfl, by rw [HL.out.1]; exact Arr.nil_, hB5⟩
  · have d0 : (checkL l != 0) = true := by simpa using h0
    have HE := Lib.hid (cutE_bad (S := S) h0)
    have HL := Lib.hid (cuts_bad (S := S) (l := l) (by rw [cutE_bad h0]; exact h0))
    clear h0
    go_wp2
    go_ret3
    exact ⟨_, by rw [HE.out, HL.out.2]; rfl, by rw [HL.out.1]; exact Arr.nil_, hB⟩
end Go.Proofs.Ytpkccmohlcndgaa
