/- Contracts: isWord, CheckBook, CheckLines. -/
import Derived.Test.YtgngpdnppdbgoaaMem
namespace Go.Proofs.Ytgngpdnppdbgoaa
open Go.RowKit Go.Shelf
set_option linter.unusedVariables false

theorem isWord1_ok (n : Int) (w : World) : Calls Try.prog 78 #[.int .i64 n] w fun r w' => r = .returned (.bool (!isWordB n)) ∧ Below w.heap.size w w' := by
  go_enter Try.func78, Try.ntmps78
  by_cases h1 : n < 1
  · have d1 : decide (n < 1) = true := by simpa using h1
    have HE : Hid ((!isWordB n) = true) := by simp [Hid, isWordB]; omega
    go_wp2
    go_ret
    exact ⟨by rw [HE.out]; rfl, Below.refl _ _⟩
  · have d1 : decide (n < 1) = false := by simpa using h1
    have HE : Hid ((!isWordB n) = decide (100 < n)) := by
      rw [Hid, Bool.eq_iff_iff]
      simp [isWordB]
      omega
    go_wp2
    go_ret
    exact ⟨by rw [HE.out]; rfl, Below.refl _ _⟩

theorem isWord_ok (sv : Value) (l : List Int) (w : World) (hs : Arr w w.heap.size 1 sv l icell) :
    Calls Try.prog 47 #[sv] w fun r w' => r = .returned (.bool (l.all isWordB)) ∧ Below w.heap.size w w' := by
  have HA : Hid ((!(l.any fun x => !isWordB x)) = l.all isWordB) := by
    rw [Hid, List.any_eq_not_all_not]
    simp
  have hc := containsFunc_int sv l 78 #[] #[] (fun x => !isWordB x) w (enters_of Try.func78 (by kernel_rfl) rfl) hs (fun x _ w1 _ => isWord1_ok x w1)
  clear hs
  go_enter Try.func47, Try.ntmps47
  go_wp2_with fail
  refine hc.mono ?_
  rintro e w1 ⟨rfl, hb⟩
  go_wp2
  go_ret
  exact ⟨by rw [← HA.out]; try simp, hb⟩

theorem checkBook_go {b : List (Int × Int)} : (decide (40 < b.length) = true → checkBook b = 6) ∧ (decide (40 < b.length) = false → checkBook b = if (b.all fun p => isWordB p.1 && isWordB p.2) = true then 0 else 2) := by
  unfold checkBook
  constructor
  · intro h
    rw [if_pos (by simpa using h)]
  · intro h
    rw [if_neg (by simpa using h)]
    cases (b.all fun p => isWordB p.1 && isWordB p.2) <;> rfl

set_option maxHeartbeats 800000 in
theorem checkBook_ok (v : Value) (b : List (Int × Int)) (w : World) (hv : BookV w w.heap.size v b) :
    Calls Try.prog 19 #[v] w fun r w' => r = .returned (.int .i64 (checkBook b)) ∧ Below w.heap.size w w' := by
  obtain ⟨pa, pc, rfl, hp⟩ := hv.open_
  have hC := BB.new hp
  have hB := (Below.refl w.heap.size w).alloc (Nat.le_refl _) (.cells #[.slice pa b.length pc] 24)
  obtain ⟨g1, g2⟩ := checkBook_go (b := b)
  have HG1 := Lib.hid g1
  have HG2 := Lib.hid g2
  clear g1 g2
  have hcap := hp.len_
  go_enter Try.func19, Try.ntmps19
  go_upto_region 1 with (fail)
  generalize hW : w.alloc (.cells #[.slice pa b.length pc] 24) = W at *
  clear hW hp
  have k0 := hC.c0
  by_cases h1 : 40 < b.length
  · have d1 : decide (40 < b.length) = true := by simpa using h1
    have d1' : decide ((40 : Int) < (b.length : Int)) = true := by simp; omega
    have HE := Lib.hid (HG1.out d1)
    clear h1
    go_wp2
    go_ret
    exact ⟨by rw [HE.out]; rfl, hB⟩
  · have d1 : decide (40 < b.length) = false := by simpa using h1
    have d1' : decide ((40 : Int) < (b.length : Int)) = false := by simp; omega
    have HE := Lib.hid (HG2.out d1)
    have H40 : Hid (b.length ≤ 40) := by rw [Hid]; omega
    clear h1 HG1 HG2
    go_wp2
    go_loopw [12] (fun i wr => ∃ k : Nat, k ≤ b.length ∧ i = .int .i64 k ∧ (b.all fun p => isWordB p.1 && isWordB p.2) = ((b.drop k).all fun p => isWordB p.1 && isWordB p.2) ∧ Below W.heap.size W wr) (fun i _ => b.length - (intOf i).toNat)
    case atStart => exact ⟨0, Nat.zero_le _, rfl, rfl, Below.refl _ _⟩
    case round =>
      obtain ⟨k, hk, rfl, hal, hbr⟩ := hrel
      by_cases hlt : k < b.length
      · have d2 : decide (k < b.length) = true := by simpa using hlt
        have d2' : decide ((k : Int) < (b.length : Int)) = true := by simp; omega
        have hki : (k : Int) < (b.length : Int) := by omega
        have ek : IntKind.i64.wrap ((k : Int) + 1) = ((k + 1 : Nat) : Int) := by have := H40.out; rw [IntKind.wrap_i64]; omega
        obtain ⟨xb, xo, x, y, hxa, hxb, hx1, c0, c1⟩ := cell2_at (hC.call hbr).arr hlt
        subst hxa
        rw [drop_cons hx1, List.all_cons] at hal
        have HAL := Lib.hid hal
        clear hal hx1 k0
        go_upto_region 6 with (fail)
        have hP := Blk.new wr 57 #[.int .i64 x, .int .i64 y]
        have hb1 := hbr.alloc hbr.size (.cells #[.int .i64 x, .int .i64 y] 57)
        clear c0 c1
        generalize wr.alloc (.cells #[.int .i64 x, .int .i64 y] 57) = w1 at *
        have p0 := hP.cell 0
        have p1 := hP.cell 1
        simp at p0 p1
        go_wp2_with fail
        refine (isWord_ok _ [x, y] _ (Arr.lit (Blk.new w1 3 #[.int .i64 x, .int .i64 y]) (by simp) rfl (by simp) (by omega) (by simp [cellsOf, List.range_succ]))).mono ?_
        rintro e w2 ⟨rfl, hb2⟩
        have hb3 := hb1.trans ((((Below.refl w1.heap.size w1).alloc (Nat.le_refl _) _).trans (hb2.mono (by simp))).mono hb1.size)
        clear hb1 hb2 hP p0 p1
        have HX : Hid ([x, y].all isWordB = (isWordB x && isWordB y)) := by simp [Hid]
        cases hz : [x, y].all isWordB
        · have HZ : Hid (checkBook b = 2) := by rw [Hid, HE.out, HAL.out, ← HX.out, hz]; rfl
          clear hz
          go_wp2
          go_ret
          exact ⟨by rw [HZ.out]; rfl, hB.trans (hb3.mono hB.size)⟩
        · have HZ : Hid ((b.all fun p => isWordB p.1 && isWordB p.2) = ((b.drop (k + 1)).all fun p => isWordB p.1 && isWordB p.2)) := by rw [Hid, HAL.out, ← HX.out, hz]; rfl
          clear hz
          go_wp2
          go_roundw
          case rel => exact ⟨k + 1, by omega, by go_num, HZ.out, hb3⟩
          case measure => (simp [intOf]; try omega)
      · obtain rfl : k = b.length := by omega
        have d2 : decide (b.length < b.length) = false := by simp
        have HZ : Hid (checkBook b = 0) := by rw [Hid, HE.out, hal, List.drop_length]; rfl
        clear hal
        go_wp2
        go_ret
        exact ⟨by rw [HZ.out]; rfl, hB.trans (hbr.mono hB.size)⟩

theorem lines1_ok (sv : Value) (l : List Int) (w : World) (hs : Arr w w.heap.size 1 sv l icell) : Calls Try.prog 56 #[sv] w fun r w' => r = .returned (.bool (decide (8 < l.length))) ∧ Below w.heap.size w w' := by
  obtain ⟨A, c, rfl, -⟩ := hs
  go_enter Try.func56, Try.ntmps56
  go_wp2
  go_ret
  exact ⟨ret_b (by rw [Bool.eq_iff_iff]; simp; try omega), Below.refl _ _⟩
theorem lines2_ok (sv : Value) (l : List Int) (w : World) (hs : Arr w w.heap.size 1 sv l icell) : Calls Try.prog 57 #[sv] w fun r w' => r = .returned (.bool (!l.all isWordB)) ∧ Below w.heap.size w w' := by
  have hi := isWord_ok sv l w hs
  clear hs
  go_enter Try.func57, Try.ntmps57
  go_wp2_with fail
  refine hi.mono ?_
  rintro e w1 ⟨rfl, hb⟩
  go_wp2
  go_ret
  exact ⟨rfl, hb⟩
theorem LLB.any1 {w : World} {v : Value} {ls : List (List Int)} (h : LLi w v ls) (fn : FuncId) (p : List Int → Bool)
   (eg : ∀ args w, (callFunc fn args).run Try.prog w = .ok (.enter fn args) w)
   (hcall : ∀ sv l w1, Arr w1 w1.heap.size 1 sv l icell → Calls Try.prog fn #[sv] w1 fun e w2 => e = .returned (.bool (p l)) ∧ Below w1.heap.size w1 w2) :
    Calls Try.prog 55 #[v, .func (.func fn) #[] #[]] w fun r w' => r = .returned (.bool (ls.any p)) ∧ Below w.heap.size w w' := by
  obtain ⟨xs, rfl, h2, h3⟩ := h
  have := containsFunc_ls v xs fn #[] #[] (fun x => p x.2) w eg h2 (fun x hx w1 hb1 => hcall x.1 x.2 w1 ((h3 x hx).call hb1))
  rw [List.any_map]
  exact this

def linesE (b : List (Int × Int)) (ls : List (List Int)) : Int := checkLines b ls
theorem checkLines_go {b : List (Int × Int)} {ls : List (List Int)} (h : checkBook b = 0) : checkLines b ls = if ls.length < 2 ∨ 4 < ls.length then 6 else if (ls.any fun l => decide (8 < l.length)) = true then 6 else if (ls.any fun l => !l.all isWordB) = true then 2 else 0 := by
  unfold checkLines
  rw [if_neg (by simp [h])]
  have : (ls.any fun l => !l.all isWordB) = !(ls.all fun l => l.all isWordB) := by
    rw [List.any_eq_not_all_not]
    simp
  rw [this]
  cases (ls.all fun l => l.all isWordB) <;> simp

set_option maxHeartbeats 800000 in
theorem checkLines_ok (v lv : Value) (b : List (Int × Int)) (ls : List (List Int)) (w : World) (hv : BookV w w.heap.size v b) (hl : LLi w lv ls) :
    Calls Try.prog 21 #[v, lv] w fun r w' => r = .returned (.int .i64 (checkLines b ls)) ∧ Below w.heap.size w w' := by
  obtain ⟨pa, pc, rfl, hp⟩ := hv.open_
  obtain ⟨la, lc, rfl, hl1, hl2⟩ := hl.form
  have hC := BB.new hp
  have hB := (Below.refl w.heap.size w).alloc (Nat.le_refl _) (.cells #[.slice pa b.length pc] 24)
  replace hl := hl.call hB
  go_enter Try.func21, Try.ntmps21
  go_upto_region 1 with (fail)
  generalize hW : w.alloc (.cells #[.slice pa b.length pc] 24) = W at *
  clear hW hp hl1 hl2
  have k0 := hC.c0
  go_wp2_with fail
  refine (checkBook_ok _ b W hC.bv).mono ?_
  rintro e w1 ⟨rfl, hb⟩
  replace hl := hl.call hb
  replace hB := hB.trans (hb.mono hB.size)
  clear hb k0 hC
  by_cases h0 : checkBook b = 0
  · have HG := Lib.hid (checkLines_go (ls := ls) h0)
    rw [h0]
    clear h0
    by_cases h1 : ls.length < 2
    · have d1 : decide (ls.length < 2) = true := by simpa using h1
      have d1' : decide ((ls.length : Int) < 2) = true := by simp; omega
      have HE : Hid (checkLines b ls = 6) := by rw [Hid, HG.out, if_pos (.inl h1)]
      clear h1 hl
      go_wp2
      go_ret
      exact ⟨by rw [HE.out]; rfl, hB⟩
    · have d1 : decide (ls.length < 2) = false := by simpa using h1
      have d1' : decide ((ls.length : Int) < 2) = false := by simp; omega
      by_cases h2 : 4 < ls.length
      · have d2 : decide (4 < ls.length) = true := by simpa using h2
        have d2' : decide ((4 : Int) < (ls.length : Int)) = true := by simp; omega
        have HE : Hid (checkLines b ls = 6) := by rw [Hid, HG.out, if_pos (.inr h2)]
        clear h1 h2 hl
        go_wp2
        go_ret
        exact ⟨by rw [HE.out]; rfl, hB⟩
      · have d2 : decide (4 < ls.length) = false := by simpa using h2
        have d2' : decide ((4 : Int) < (ls.length : Int)) = false := by simp; omega
        have HG2 : Hid (checkLines b ls = if (ls.any fun l => decide (8 < l.length)) = true then 6 else if (ls.any fun l => !l.all isWordB) = true then 2 else 0) := by rw [Hid, HG.out, if_neg (by omega)]
        clear h1 h2 HG
        go_wp2_with fail
        refine (hl.any1 56 (fun l => decide (8 < l.length)) (enters_of Try.func56 (by kernel_rfl) rfl) (fun sv l w1 h => lines1_ok sv l w1 h)).mono ?_
        rintro e w2 ⟨rfl, hb⟩
        replace hl := hl.call hb
        replace hB := hB.trans (hb.mono hB.size)
        clear hb
        cases h3 : (ls.any fun l => decide (8 < l.length))
        · have HG3 : Hid (checkLines b ls = if (ls.any fun l => !l.all isWordB) = true then 2 else 0) := by rw [Hid, HG2.out, h3]; rfl
          clear h3 HG2
          go_wp2_with fail
          refine (hl.any1 57 (fun l => !l.all isWordB) (enters_of Try.func57 (by kernel_rfl) rfl) (fun sv l w1 h => lines2_ok sv l w1 h)).mono ?_
          rintro e w3 ⟨rfl, hb⟩
          replace hB := hB.trans (hb.mono hB.size)
          clear hb hl
          cases h4 : (ls.any fun l => !l.all isWordB)
          · have HE : Hid (checkLines b ls = 0) := by rw [Hid, HG3.out, h4]; rfl
            clear h4
            go_wp2
            go_ret
            exact ⟨by rw [HE.out]; rfl, hB⟩
          · have HE : Hid (checkLines b ls = 2) := by rw [Hid, HG3.out, h4]; rfl
            clear h4
            go_wp2
            go_ret
            exact ⟨by rw [HE.out]; rfl, hB⟩
        · have HE : Hid (checkLines b ls = 6) := by rw [Hid, HG2.out, h3]; rfl
          clear h3 hl
          go_wp2
          go_ret
          exact ⟨by rw [HE.out]; rfl, hB⟩
  · have HE : Hid (checkLines b ls = checkBook b) := if_pos h0
    have d0 : (checkBook b != 0) = true := by simpa using h0
    clear h0 hl
    go_wp2
    go_ret
    exact ⟨by rw [HE.out]; rfl, hB⟩
end Go.Proofs.Ytgngpdnppdbgoaa
