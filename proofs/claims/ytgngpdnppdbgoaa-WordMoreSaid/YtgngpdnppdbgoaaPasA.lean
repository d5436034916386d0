/- Contracts: the functions that CheckPassage hands on. -/
import Derived.Test.YtgngpdnppdbgoaaPub
namespace Go.Proofs.Ytgngpdnppdbgoaa
open Go.RowKit Go.Shelf
set_option linter.unusedVariables false

/-- the lines, boxed -/
structure LB (W : World) (g : Nat) (ls : List (List Int)) (la : Option Addr) (lc : Nat) : Prop where
  blk : Blk W g 25 #[.slice la ls.length lc]
  ln : LLB W W.heap.size (.slice la ls.length lc) ls
theorem LB.call {W W' : World} {g : Nat} {ls : List (List Int)} {la : Option Addr} {lc : Nat} (h : LB W g ls la lc) (hb : Below W.heap.size W W') : LB W' g ls la lc := ⟨h.blk.call hb, h.ln.call hb⟩
theorem pass2_ok (g : Nat) (ls : List (List Int)) (la : Option Addr) (lc : Nat) (sv : Value) (m : List Int) (w : World) (hL : LB w g ls la lc) (hm : Arr w w.heap.size 1 sv m icell) :
    Calls Try.prog 68 #[sv, .pointer (some ⟨g, 0, none⟩)] w fun r w' => r = .returned (.bool (decide (m.length ≠ ls.length))) ∧ Below w.heap.size w w' := by
  obtain ⟨A, c, rfl, h1, h2, -⟩ := hm
  have c0 := hL.blk.cell 0
  simp at c0
  go_enter Try.func68, Try.ntmps68
  by_cases h : m.length = ls.length
  · have d : ((m.length : Int) != (ls.length : Int)) = false := by simp; omega
    have HE : Hid (decide (m.length ≠ ls.length) = false) := by simp [Hid, h]
    clear h
    go_wp2
    go_ret
    exact ⟨by rw [HE.out]; rfl, Below.refl _ _⟩
  · have d : ((m.length : Int) != (ls.length : Int)) = true := by simp; omega
    have HE : Hid (decide (m.length ≠ ls.length) = true) := by simp [Hid, h]
    clear h
    go_wp2
    go_ret
    exact ⟨by rw [HE.out]; rfl, Below.refl _ _⟩
def outAt (ls : List (List Int)) (m : List Int) (h : Nat) : Bool := decide (m.getD h 0 < 0) || decide (((ls.getD h []).length : Int) ≤ m.getD h 0)
theorem outB_true {ls : List (List Int)} {m : List Int} {h : Nat} (hh : h < m.length) (ho : outAt ls m h = true) : outB ls m = true := by
  unfold outB
  rw [List.any_eq_true]
  exact ⟨h, List.mem_range.2 hh, ho⟩
theorem outB_falseP {ls : List (List Int)} {m : List Int} (h : ∀ j, j < m.length → outAt ls m j = false) : outB ls m = false := by
  unfold outB
  rw [List.any_eq_false]
  intro j hj
  have := h j (List.mem_range.1 hj)
  unfold outAt at this
  rw [this]
  exact Bool.false_ne_true

set_option maxRecDepth 100000 in
set_option maxHeartbeats 1600000 in
theorem pass1_ok (g : Nat) (ls : List (List Int)) (la : Option Addr) (lc : Nat) (sv : Value) (m : List Int) (w : World) (hL : LB w g ls la lc) (hm : Arr w w.heap.size 1 sv m icell) (hlen : m.length = ls.length) (hl4 : ls.length ≤ 4) :
    Calls Try.prog 66 #[sv, .pointer (some ⟨g, 0, none⟩)] w fun r w' => r = .returned (.bool (outB ls m)) ∧ Below w.heap.size w w' := by
  obtain ⟨A, c, rfl, -⟩ := id hm
  go_enter Try.func66, Try.ntmps66
  go_wp2
  go_loopw [8] (fun i wr => ∃ k : Nat, k ≤ m.length ∧ i = .int .i64 k ∧ Hid (∀ j, j < k → outAt ls m j = false) ∧ Below w.heap.size w wr) (fun i _ => m.length - (intOf i).toNat)
  case atStart => exact ⟨0, Nat.zero_le _, rfl, fun j hj => absurd hj (Nat.not_lt_zero _), Below.refl _ _⟩
  case round =>
    obtain ⟨k, hk, rfl, hok, hb⟩ := hrel
    by_cases hlt : k < m.length
    · have d1 : decide (k < m.length) = true := decide_eq_true hlt
      have d1' : decide ((k : Int) < (m.length : Int)) = true := decide_eq_true (by omega)
      have hki : (k : Int) < (m.length : Int) := by omega
      have hki2 : (k : Int) < (ls.length : Int) := by omega
      have ek : IntKind.i64.wrap ((k : Int) + 1) = ((k + 1 : Nat) : Int) := by rw [IntKind.wrap_i64]; omega
      obtain ⟨nb, no, rfl, hnb, hc⟩ := num_at (hm.below hb) hlt
      have hLr := hL.call hb
      obtain ⟨lb, lo, lA, lcc, rfl, hlb, hlc, -⟩ := hLr.ln.at_ (i := k) (l := ls.getD k []) (by rw [List.getD_eq_getElem?_getD, List.getElem?_eq_getElem (by omega)]; rfl)
      have b0 := hLr.blk.cell 0
      simp at b0
      obtain ⟨x, hx⟩ : ∃ x, x = m.getD k 0 := ⟨_, rfl⟩
      obtain ⟨T, hT⟩ : ∃ T, T = (ls.getD k []).length := ⟨_, rfl⟩
      rw [← hx] at hc
      rw [← hT] at hlc
      have HO : Hid (outAt ls m k = (decide (x < 0) || decide ((T : Int) ≤ x))) := by rw [Hid, hx, hT]; rfl
      clear hx hT hLr
      by_cases h0 : x < 0
      · have d2 : decide (x < 0) = true := by simpa using h0
        have HE : Hid (outB ls m = true) := outB_true hlt (by rw [HO.out, d2]; rfl)
        clear h0 hlc b0
        go_wp2
        go_ret
        exact ⟨by rw [HE.out]; rfl, hb⟩
      · have d2 : decide (x < 0) = false := by simpa using h0
        by_cases h1 : (T : Int) ≤ x
        · have d3 : decide ((T : Int) ≤ x) = true := by simpa using h1
          have HE : Hid (outB ls m = true) := outB_true hlt (by rw [HO.out, d2, d3]; rfl)
          clear h0 h1
          go_wp2
          go_ret
          exact ⟨by rw [HE.out]; rfl, hb⟩
        · have d3 : decide ((T : Int) ≤ x) = false := by simpa using h1
          have HOK : Hid (∀ j, j < k + 1 → outAt ls m j = false) := fun j hj => by
            by_cases e : j = k
            · rw [e, HO.out, d2, d3]; rfl
            · exact hok.out j (by omega)
          clear h0 h1 hok
          go_wp2
          go_roundw
          case rel => exact ⟨k + 1, by omega, by go_num, HOK, hb⟩
          case measure => (simp [intOf]; try omega)
    · obtain rfl : k = m.length := by omega
      have d1 : decide (m.length < m.length) = false := by simp
      have HE : Hid (outB ls m = false) := outB_falseP hok.out
      go_wp2
      go_ret
      exact ⟨by rw [HE.out]; rfl, hb⟩

set_option maxRecDepth 100000 in
set_option maxHeartbeats 1600000 in
theorem pass3_ok (B gs d : Nat) (b : List (Int × Int)) (ls : List (List Int)) (la : Option Addr) (lc : Nat) (av : Value) (fg : Nat) (m : List Nat) (w : World) (hs : Song w B gs d b ls la lc av) (hf : Blk w fg 92 #[.func (.func 69) #[.pointer (some ⟨gs, 0, none⟩)] #[]]) (hm : ∀ h, h < ls.length → at0 m h < (ls.getD h []).length) :
    Calls Try.prog 71 #[plV m, .pointer (some ⟨fg, 0, none⟩)] w fun r w' => r = .returned (.bool (!mtB b ls m)) ∧ Below w.heap.size w w' := by
  have HM := Lib.hid hm
  clear hm
  go_enter Try.func71, Try.ntmps71
  go_upto_region 1 with (fail)
  have e : w.alloc (.cells #[.int .i64 (at0 m 0 : Int), .int .i64 (at0 m 1 : Int), .int .i64 (at0 m 2 : Int), .int .i64 (at0 m 3 : Int)] 88) = w.alloc (.cells (plC m) 88) := rfl
  rw [e]
  clear e
  have hX := Blk.new w 88 (plC m)
  have hB := (Below.refl w.heap.size w).alloc (Nat.le_refl _) (.cells (plC m) 88)
  have hS := hs.call hB
  have hF := hf.call hB
  clear hs hf
  generalize w.alloc (.cells (plC m) 88) = W at *
  have p0 := hX.cell 0
  have p1 := hX.cell 1
  have p2 := hX.cell 2
  have p3 := hX.cell 3
  have q0 := hF.cell 0
  simp [plC] at p0 p1 p2 p3 q0
  have ht := matched_ok B gs d b ls la lc av m W hS HM.out
  go_wp2_with fail
  refine ht.mono ?_
  rintro e w2 ⟨rfl, hb2⟩
  have hb3 := hB.trans (hb2.mono hB.size)
  go_wp2
  go_ret
  exact ⟨by rfl, hb3⟩

set_option maxHeartbeats 400000 in
theorem indexFunc_pl (sv : Value) (l : List (List Nat)) (fn : FuncId) (fs cs : Array Value) (p : List Nat → Bool) (w : World)
   (eg : ∀ args w, (callFunc fn args).run Try.prog w = .ok (.enter fn args) w)
   (hs : Arr w w.heap.size 4 sv l plcell)
   (hcall : ∀ x ∈ l, ∀ w1, Below w.heap.size w w1 → Calls Try.prog fn (fs.push (plV x) ++ cs) w1 fun e w2 => e = .returned (.bool (p x)) ∧ Below w1.heap.size w1 w2) :
    Calls Try.prog 83 #[sv, .func (.func fn) fs cs] w fun r w' => r = .returned (.int .i64 (idxOf p 0 l)) ∧ Below w.heap.size w w' := by
  obtain ⟨A, c, rfl, hn, hc, hcell⟩ := hs
  go_enter Try.func83, Try.ntmps83
  go_wp2
  go_loopw [5, 8] (fun x i wr => ∃ k : Nat, k ≤ l.length ∧ i = .int .i64 k ∧ idxOf p 0 l = idxOf p k (l.drop k) ∧ Below w.heap.size w wr) (fun _ i _ => l.length - (intOf i).toNat)
  case atStart => exact ⟨0, Nat.zero_le _, rfl, rfl, Below.refl _ _⟩
  case round =>
    obtain ⟨k, hk, rfl, hf, hb⟩ := hrel
    by_cases hlt : k < l.length
    · obtain ⟨b, off, rfl, hB, hcc⟩ := hcell (by omega)
      obtain ⟨x, hx⟩ : ∃ x, l[k]? = some x := ⟨l[k], List.getElem?_eq_getElem hlt⟩
      have c0 := (hb.cell (p := ⟨b, off + k*4+0, none⟩) hB).trans (hcc k x hx 0 (by omega))
      have c1 := (hb.cell (p := ⟨b, off + k*4+1, none⟩) hB).trans (hcc k x hx 1 (by omega))
      have c2 := (hb.cell (p := ⟨b, off + k*4+2, none⟩) hB).trans (hcc k x hx 2 (by omega))
      have c3 := (hb.cell (p := ⟨b, off + k*4+3, none⟩) hB).trans (hcc k x hx 3 (by omega))
      simp only [Nat.add_zero, plcell] at c0 c1 c2 c3
      have hcl := hcall x (List.mem_of_getElem? hx) wr hb
      rw [idxOf_drop p l k x hx] at hf
      have H := Lib.hid hf; clear hf
      have HX := Lib.hid hx; clear hx
      clear hcall hcc hcell
      go_wp2_with (refine hcl.mono ?_; rintro e w1 ⟨rfl, hb1⟩)
      · go_ret
        exact ⟨by rw [H.out]; simp [*], bthen hb hb1⟩
      · go_roundw
        case rel => exact ⟨k+1, by omega, by go_num, by rw [H.out]; simp [*], bthen hb hb1⟩
        case measure => simp [intOf]; omega
    · obtain rfl : k = l.length := by omega
      have H := Lib.hid hf; clear hf
      go_wp2
      go_ret
      exact ⟨by rw [H.out]; simp [idxOf], hb⟩
theorem containsFunc_pl (sv : Value) (l : List (List Nat)) (fn : FuncId) (fs cs : Array Value) (p : List Nat → Bool) (w : World)
   (eg : ∀ args w, (callFunc fn args).run Try.prog w = .ok (.enter fn args) w)
   (hs : Arr w w.heap.size 4 sv l plcell)
   (hcall : ∀ x ∈ l, ∀ w1, Below w.heap.size w w1 → Calls Try.prog fn (fs.push (plV x) ++ cs) w1 fun e w2 => e = .returned (.bool (p x)) ∧ Below w1.heap.size w1 w2) :
    Calls Try.prog 70 #[sv, .func (.func fn) fs cs] w fun r w' => r = .returned (.bool (l.any p)) ∧ Below w.heap.size w w' := by
  have hi := indexFunc_pl sv l fn fs cs p w eg hs hcall
  have HD := Lib.hid (idxOf_nonneg p l 0)
  clear hcall hs
  go_enter Try.func70, Try.ntmps70
  go_wp2_with (go_at_call 83; refine hi.mono ?_; rintro e w1 ⟨rfl, hb1⟩)
  go_ret
  exact ⟨by rw [← HD.out]; simp, hb1⟩
end Go.Proofs.Ytgngpdnppdbgoaa
