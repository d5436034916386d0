/- Words that pairs join: CheckBook and Alike, and the reference's CheckBook. -/
import Derived.Test.YtbcpmmpakkaidaaGreatRfCM
namespace Go.Proofs.YtbcpmmpakkaidaaGreat
open Go.RowKit Go.Shelf
set_option linter.unusedVariables false
def isWordB (n : Int) : Bool := decide (1 ≤ n) && decide (n ≤ 100)
def checkBook (b : List (Int × Int)) : Int := if 40 < b.length then 6 else if (b.all fun p => isWordB p.1 && isWordB p.2) = false then 2 else 0
def nats (b : List (Int × Int)) : List (Nat × Nat) := b.map fun p => (p.1.toNat, p.2.toNat)
/-- the class of a word -/
def clsI (b : List (Int × Int)) (n : Int) : Nat := cls (nats b) n.toNat
def likeB (b : List (Int × Int)) (x y : Int) : Bool := clsI b x == clsI b y
def alikeM (b : List (Int × Int)) (x y : Int) : Bool × Int := if checkBook b ≠ 0 then (false, checkBook b) else if (isWordB x && isWordB y) = false then (false, 2) else (likeB b x y, 0)
theorem isWordB_iff {n : Int} : isWordB n = true ↔ 1 ≤ n ∧ n ≤ 100 := by simp [isWordB]
theorem book_len {b : List (Int × Int)} (h : checkBook b = 0) : b.length ≤ 40 ∧ ∀ p ∈ b, (1 ≤ p.1 ∧ p.1 ≤ 100) ∧ (1 ≤ p.2 ∧ p.2 ≤ 100) := by
  unfold checkBook at h
  split at h
  · cases h
  · split at h
    · cases h
    · rename_i h1 h2
      refine ⟨by omega, fun p hp => ?_⟩
      have := List.all_eq_true.1 (by simpa using h2 : (b.all fun p => isWordB p.1 && isWordB p.2) = true) p hp
      rw [Bool.and_eq_true, isWordB_iff, isWordB_iff] at this
      exact this
theorem nats_lt {b : List (Int × Int)} (h : checkBook b = 0) : ∀ p ∈ nats b, p.1 < 101 ∧ p.2 < 101 := by
  intro p hp
  obtain ⟨q, hq, rfl⟩ := List.mem_map.1 hp
  have := (book_len h).2 q hq
  simp only
  omega
/-- a pair of words -/
def p2cell (p : Int × Int) : Nat → Value
  | 0 => .int .i64 p.1
  | _ => .int .i64 p.2
/-- a dictionary as a value -/
def BookV (w : World) (B : Nat) (v : Value) (b : List (Int × Int)) : Prop := ∃ pv, v = .agg #[pv] ∧ Arr w B 2 pv b p2cell
theorem BookV.open_ {w : World} {B : Nat} {v : Value} {b : List (Int × Int)} (h : BookV w B v b) : ∃ pa pc, v = .agg #[.slice pa b.length pc] ∧ Arr w B 2 (.slice pa b.length pc) b p2cell := by
  obtain ⟨pv, rfl, hp⟩ := h
  obtain ⟨pa, pc, rfl, -⟩ := id hp
  exact ⟨pa, pc, rfl, hp⟩
theorem BookV.call {w w' : World} {v : Value} {b : List (Int × Int)} (h : BookV w w.heap.size v b) (hb : Below w.heap.size w w') : BookV w' w'.heap.size v b := by
  obtain ⟨pv, h1, h2⟩ := h
  exact ⟨pv, h1, (h2.below hb).more hb.size⟩
/-- a box of the call's own that holds a dictionary -/
structure BB (W : World) (g : Nat) (b : List (Int × Int)) (pa : Option Addr) (pc : Nat) : Prop where
  blk : Blk W g 24 #[.slice pa b.length pc]
  arr : Arr W W.heap.size 2 (.slice pa b.length pc) b p2cell
section
variable {w W W' : World} {g : Nat} {b : List (Int × Int)} {pa : Option Addr} {pc : Nat}
theorem BB.new (hp : Arr w w.heap.size 2 (.slice pa b.length pc) b p2cell) : BB (w.alloc (.cells #[.slice pa b.length pc] 24)) w.heap.size b pa pc :=
  ⟨Blk.new _ _ _, (hp.alloc (Nat.le_refl _) _).more (by simp)⟩
theorem BB.call (h : BB W g b pa pc) (hb : Below W.heap.size W W') : BB W' g b pa pc := ⟨h.blk.call hb, h.arr.call hb⟩
theorem BB.bv (h : BB W g b pa pc) : BookV W W.heap.size (.agg #[.slice pa b.length pc]) b := ⟨_, rfl, h.arr⟩
theorem BB.c0 (h : BB W g b pa pc) : W.cell? ⟨g, 0, none⟩ = some (.slice pa b.length pc) := by simp [h.blk.cell]
end
theorem cell2_at {w : World} {B n pc : Nat} {pa : Option Addr} {l : List (Int × Int)} (h : Arr w B 2 (.slice pa n pc) l p2cell) {k : Nat} (hk : k < l.length) :
    ∃ b off x y, pa = some ⟨b, off, none⟩ ∧ b < B ∧ l[k]? = some (x, y) ∧ w.cell? ⟨b, off + k * 2, none⟩ = some (.int .i64 x) ∧ w.cell? ⟨b, off + k * 2 + 1, none⟩ = some (.int .i64 y) := by
  obtain ⟨b, off, ⟨x, y⟩, h1, h2, h3, h4⟩ := h.at_ hk
  exact ⟨b, off, x, y, h1, h2, h3, h4 0 (by omega), h4 1 (by omega)⟩
theorem isWord1_ok (n : Int) (w : World) : Calls Tryz.prog 56 #[.int .i64 n] w fun r w' => r = .returned (.bool (!isWordB n)) ∧ Below w.heap.size w w' := by
  go_enter Tryz.func56, Tryz.ntmps56
  by_cases h1 : n < 1
  · have d1 : decide (n < 1) = true := by simpa using h1
    have HE : Hid ((!isWordB n) = true) := by simp [Hid, isWordB]; omega
    go_wp2
    go_ret
    exact ⟨by rw [HE.out]; rfl, Below.refl _ _⟩
  · have d1 : decide (n < 1) = false := by simpa using h1
    have HE : Hid ((!isWordB n) = decide (100 < n)) := by
      rw [Hid, Bool.eq_iff_iff]
      simp [isWordB]
      omega
    go_wp2
    go_ret
    exact ⟨by rw [HE.out]; rfl, Below.refl _ _⟩
theorem isWord_ok (sv : Value) (l : List Int) (w : World) (hs : Arr w w.heap.size 1 sv l icell) :
    Calls Tryz.prog 17 #[sv] w fun r w' => r = .returned (.bool (l.all isWordB)) ∧ Below w.heap.size w w' := by
  have HA : Hid ((!(l.any fun x => !isWordB x)) = l.all isWordB) := by
    rw [Hid, List.any_eq_not_all_not]
    simp
  have hc := containsFunc_int sv l 56 #[] #[] (fun x => !isWordB x) w (enters_of Tryz.func56 (by kernel_rfl) rfl) hs (fun x _ w1 _ => isWord1_ok x w1)
  clear hs
  go_enter Tryz.func17, Tryz.ntmps17
  go_wp2_with fail
  refine hc.mono ?_
  rintro e w1 ⟨rfl, hb⟩
  go_wp2
  go_ret
  exact ⟨by rw [← HA.out]; try simp, hb⟩
theorem checkBook_go {b : List (Int × Int)} : (decide (40 < b.length) = true → checkBook b = 6) ∧ (decide (40 < b.length) = false → checkBook b = if (b.all fun p => isWordB p.1 && isWordB p.2) = true then 0 else 2) := by
  unfold checkBook
  constructor
  · intro h
    rw [if_pos (by simpa using h)]
  · intro h
    rw [if_neg (by simpa using h)]
    cases (b.all fun p => isWordB p.1 && isWordB p.2) <;> rfl
set_option maxHeartbeats 800000 in
theorem checkBook_ok (v : Value) (b : List (Int × Int)) (w : World) (hv : BookV w w.heap.size v b) :
    Calls Tryz.prog 16 #[v] w fun r w' => r = .returned (.int .i64 (checkBook b)) ∧ Below w.heap.size w w' := by
  obtain ⟨pa, pc, rfl, hp⟩ := hv.open_
  have hC := BB.new hp
  have hB := (Below.refl w.heap.size w).alloc (Nat.le_refl _) (.cells #[.slice pa b.length pc] 24)
  obtain ⟨g1, g2⟩ := checkBook_go (b := b)
  have HG1 := Lib.hid g1
  have HG2 := Lib.hid g2
  clear g1 g2
  have hcap := hp.len_
  go_enter Tryz.func16, Tryz.ntmps16
  go_upto_region 1 with (fail)
  generalize hW : w.alloc (.cells #[.slice pa b.length pc] 24) = W at *
  clear hW hp
  have k0 := hC.c0
  by_cases h1 : 40 < b.length
  · have d1 : decide (40 < b.length) = true := by simpa using h1
    have d1' : decide ((40 : Int) < (b.length : Int)) = true := by simp; omega
    have HE := Lib.hid (HG1.out d1)
    clear h1
    go_wp2
    go_ret
    exact ⟨by rw [HE.out]; rfl, hB⟩
  · have d1 : decide (40 < b.length) = false := by simpa using h1
    have d1' : decide ((40 : Int) < (b.length : Int)) = false := by simp; omega
    have HE := Lib.hid (HG2.out d1)
    have H40 : Hid (b.length ≤ 40) := by rw [Hid]; omega
    clear h1 HG1 HG2
    go_wp2
    go_loopw [12] (fun i wr => ∃ k : Nat, k ≤ b.length ∧ i = .int .i64 k ∧ (b.all fun p => isWordB p.1 && isWordB p.2) = ((b.drop k).all fun p => isWordB p.1 && isWordB p.2) ∧ Below W.heap.size W wr) (fun i _ => b.length - (intOf i).toNat)
    case atStart => exact ⟨0, Nat.zero_le _, rfl, rfl, Below.refl _ _⟩
    case round =>
      obtain ⟨k, hk, rfl, hal, hbr⟩ := hrel
      by_cases hlt : k < b.length
      · have d2 : decide (k < b.length) = true := by simpa using hlt
        have d2' : decide ((k : Int) < (b.length : Int)) = true := by simp; omega
        have hki : (k : Int) < (b.length : Int) := by omega
        have ek : IntKind.i64.wrap ((k : Int) + 1) = ((k + 1 : Nat) : Int) := by have := H40.out; rw [IntKind.wrap_i64]; omega
        obtain ⟨xb, xo, x, y, hxa, hxb, hx1, c0, c1⟩ := cell2_at (hC.call hbr).arr hlt
        subst hxa
        rw [drop_cons hx1, List.all_cons] at hal
        have HAL := Lib.hid hal
        clear hal hx1 k0
        go_upto_region 6 with (fail)
        have hP := Blk.new wr 33 #[.int .i64 x, .int .i64 y]
        have hb1 := hbr.alloc hbr.size (.cells #[.int .i64 x, .int .i64 y] 33)
        clear c0 c1
        generalize wr.alloc (.cells #[.int .i64 x, .int .i64 y] 33) = w1 at *
        have p0 := hP.cell 0
        have p1 := hP.cell 1
        simp at p0 p1
        go_wp2_with fail
        refine (isWord_ok _ [x, y] _ (Arr.lit (Blk.new w1 3 #[.int .i64 x, .int .i64 y]) (by simp) rfl (by simp) (by omega) (by simp [cellsOf, List.range_succ]))).mono ?_
        rintro e w2 ⟨rfl, hb2⟩
        have hb3 := hb1.trans ((((Below.refl w1.heap.size w1).alloc (Nat.le_refl _) _).trans (hb2.mono (by simp))).mono hb1.size)
        clear hb1 hb2 hP p0 p1
        have HX : Hid ([x, y].all isWordB = (isWordB x && isWordB y)) := by simp [Hid]
        cases hz : [x, y].all isWordB
        · have HZ : Hid (checkBook b = 2) := by rw [Hid, HE.out, HAL.out, ← HX.out, hz]; rfl
          clear hz
          go_wp2
          go_ret
          exact ⟨by rw [HZ.out]; rfl, hB.trans (hb3.mono hB.size)⟩
        · have HZ : Hid ((b.all fun p => isWordB p.1 && isWordB p.2) = ((b.drop (k + 1)).all fun p => isWordB p.1 && isWordB p.2)) := by rw [Hid, HAL.out, ← HX.out, hz]; rfl
          clear hz
          go_wp2
          go_roundw
          case rel => exact ⟨k + 1, by omega, by go_num, HZ.out, hb3⟩
          case measure => (simp [intOf]; try omega)
      · obtain rfl : k = b.length := by omega
        have d2 : decide (b.length < b.length) = false := by simp
        have HZ : Hid (checkBook b = 0) := by rw [Hid, HE.out, hal, List.drop_length]; rfl
        clear hal
        go_wp2
        go_ret
        exact ⟨by rw [HZ.out]; rfl, hB.trans (hbr.mono hB.size)⟩
/-- block g is a dictionary with its classes -/
def DictB (W : World) (g : Nat) (lv : Value) (c : Nat → Nat) : Prop :=
  ∃ cs, Blk W g 101 cs ∧ cs.size = 102 ∧ cs[0]? = some lv ∧ ∀ n, n < 101 → cs[1 + n]? = some (.int .i64 (c n : Int))
section
variable {W W' : World} {g : Nat} {lv : Value} {c c' : Nat → Nat}
theorem DictB.lt (h : DictB W g lv c) : g < W.heap.size := by obtain ⟨cs, h1, -⟩ := h; exact h1.lt
theorem DictB.frozen (h : DictB W g lv c) (i : Nat) : W.frozen? ⟨g, i, none⟩ = false := by obtain ⟨cs, h1, -⟩ := h; exact h1.frozen i
theorem DictB.at_ (h : DictB W g lv c) {n : Nat} (hn : n < 101) : W.cell? ⟨g, 1 + n, none⟩ = some (.int .i64 (c n : Int)) := by
  obtain ⟨cs, h1, h2, h3, h4⟩ := h
  rw [h1.cell]
  exact h4 n hn
theorem DictB.c0 (h : DictB W g lv c) : W.cell? ⟨g, 0, none⟩ = some lv := by
  obtain ⟨cs, h1, h2, h3, h4⟩ := h
  rw [h1.cell]
  exact h3
theorem DictB.heap (h : DictB W g lv c) (hh : W'.heap[g]? = W.heap[g]?) : DictB W' g lv c := by
  obtain ⟨cs, h1, h2, h3, h4⟩ := h
  exact ⟨cs, hh.trans h1, h2, h3, h4⟩
theorem DictB.call (h : DictB W g lv c) (hb : Below W.heap.size W W') : DictB W' g lv c := h.heap (hb.block g h.lt)
theorem DictB.grown {row : Option Nat} (h : DictB W g lv c) (hb : W.grownBy W' row) (hg : some g ≠ row) : DictB W' g lv c := h.heap (hb.block g h.lt hg)
theorem DictB.put (h : DictB W g lv c) {n x : Nat} (hn : n < 101) (hc : ∀ m, m < 101 → c' m = if m = n then x else c m) : DictB (W.setCell ⟨g, 1 + n, none⟩ (.int .i64 (x : Int))) g lv c' := by
  obtain ⟨cs, h1, h2, h3, h4⟩ := h
  refine ⟨_, h1.set_ (1 + n) _, by simp [h2], ?_, fun m hm => ?_⟩
  · rw [Array.getElem?_setIfInBounds_ne (by omega)]
    exact h3
  · rw [hc m hm]
    by_cases e : m = n
    · subst e
      rw [if_pos rfl, Array.getElem?_setIfInBounds_self_of_lt (by omega)]
    · rw [if_neg e, Array.getElem?_setIfInBounds_ne (by omega)]
      exact h4 m hm
theorem DictB.same (h : DictB W g lv c) (hc : ∀ m, m < 101 → c' m = c m) : DictB W g lv c' := by
  obtain ⟨cs, h1, h2, h3, h4⟩ := h
  exact ⟨cs, h1, h2, h3, fun m hm => by rw [hc m hm]; exact h4 m hm⟩
end
theorem keyInt : KeyG 3 kI := ⟨keyI_find Tryz.underlying3, fun e a w => by kernel_rfl, keyI_stays⟩
/-- a list of words as numbers -/
def nL (l : List Nat) : List Value := l.map fun (n : Nat) => Value.int .i64 (n : Int)
theorem nL_append (l r : List Nat) : nL (l ++ r) = nL l ++ nL r := List.map_append ..
/-- the words of the classes: a row of its own for each -/
structure Rows (W : World) (base gm : Nat) (c : Nat → Nat) (M : Int → Option Value) (R : Nat → Value × List Nat) : Prop where
  mp : MapG kI W gm M
  at_ : ∀ n, n < 101 → c n = n → M (n : Int) = some (R n).1
  own : ∀ n, n < 101 → c n = n → W.ownsRow base 3 1 (R n).1 (R n).2.length (nL (R n).2)
  nd : ∀ n, n < 101 → c n = n → (R n).2.Nodup ∧ ∀ x, x ∈ (R n).2 ↔ x < 101 ∧ c x = n
  ap : ∀ n m, n < 101 → m < 101 → c n = n → c m = m → n ≠ m → Apart (R n).1 (R m).1
  gb : gm < base
theorem nodup_101 {l : List Nat} (hn : l.Nodup) (hl : ∀ x ∈ l, x < 101) : l.length ≤ 101 := by
  have key : ∀ {l m : List Nat}, l.Nodup → (∀ x ∈ l, x ∈ m) → l.length ≤ m.length := by
    intro l
    induction l with
    | nil => intro m _ _; exact Nat.zero_le _
    | cons x l ih =>
      intro m hnd hm
      rw [List.nodup_cons] at hnd
      have hx := hm x (List.mem_cons_self ..)
      have := ih (m := m.erase x) hnd.2 fun y hy => by
        refine (List.mem_erase_of_ne ?_).2 (hm y (List.mem_cons_of_mem _ hy))
        rintro rfl
        exact hnd.1 hy
      rw [List.length_erase_of_mem hx] at this
      have := List.length_pos_of_mem hx
      rw [List.length_cons]
      omega
  have := key hn (m := List.range 101) fun x hx => List.mem_range.2 (hl x hx)
  rwa [List.length_range] at this
section
variable {W W' : World} {base gm : Nat} {c : Nat → Nat} {M M' : Int → Option Value} {R : Nat → Value × List Nat}
theorem Rows.len (h : Rows W base gm c M R) {n : Nat} (hn : n < 101) (hc : c n = n) : (R n).2.length ≤ 101 :=
  nodup_101 (h.nd n hn hc).1 fun x hx => (((h.nd n hn hc).2 x).1 hx).1
theorem Rows.grown (h : Rows W base gm c M R) {row : Option Nat} (hg : W.grownBy W' row) (hr : ∀ r, row = some r → r < base ∧ r ≠ gm) : Rows W' base gm c M R := by
  refine ⟨h.mp.grown hg (fun e => (hr _ e.symm).2 rfl), h.at_, fun n hn hc => (h.own n hn hc).kept hg ?_, h.nd, h.ap, h.gb⟩
  cases ho : (R n).1.ownBlock with
  | none => exact .inl rfl
  | some b =>
    right
    intro e
    have := ((h.own n hn hc).lt b ho).1
    have := (hr b e.symm).1
    omega
theorem Rows.call (h : Rows W base gm c M R) (hb : Below W.heap.size W W') : Rows W' base gm c M R := h.grown (grown_call hb none) fun r e => by cases e
end
theorem Rows.same {W : World} {base gm : Nat} {c c' : Nat → Nat} {M : Int → Option Value} {R : Nat → Value × List Nat} (h : Rows W base gm c M R) (hc : ∀ n, n < 101 → c' n = c n) : Rows W base gm c' M R := by
  refine ⟨h.mp, fun n hn e => h.at_ n hn (by rw [← hc n hn]; exact e), fun n hn e => h.own n hn (by rw [← hc n hn]; exact e), fun n hn e => ?_, fun n m hn hm e1 e2 => h.ap n m hn hm (by rw [← hc n hn]; exact e1) (by rw [← hc m hm]; exact e2), h.gb⟩
  obtain ⟨h1, h2⟩ := h.nd n hn (by rw [← hc n hn]; exact e)
  refine ⟨h1, fun x => (h2 x).trans ⟨fun ⟨g1, g2⟩ => ⟨g1, by rw [hc x g1]; exact g2⟩, fun ⟨g1, g2⟩ => ⟨g1, by rw [← hc x g1]; exact g2⟩⟩⟩
/-- classes of the words so far: the others have none yet -/
def cK (k n : Nat) : Nat := if n < k then n else 1000
/-- rows of the call's own stay when the map changes -/
theorem own_map {W W' : World} {base gm : Nat} {v : Value} {n : Nat} {xs : List Value} (h : W.ownsRow base 3 1 v n xs) (hg : W.grownBy W' (some gm)) (hb : gm < base) : W'.ownsRow base 3 1 v n xs := by
  refine h.kept hg ?_
  cases ho : v.ownBlock with
  | none => exact .inl rfl
  | some b =>
    right
    intro e
    injection e with e
    have := (h.lt b ho).1
    omega
/-- one more word has a row -/
theorem Rows.next {W W' : World} {base gm k : Nat} {M M' : Int → Option Value} {R : Nat → Value × List Nat} {v : Value} (h : Rows W base gm (cK k) M R) (hk : k < 101) (hg : W.grownBy W' (some gm)) (hm : MapG kI W' gm M') (hM : ∀ x, M' x = if x = (k : Int) then some v else M x)
    (hv : W.ownsRow base 3 1 v 1 (nL [k])) (hap : ∀ n, n < 101 → cK k n = n → Apart (R n).1 v) : Rows W' base gm (cK (k + 1)) M' (fun n => if n = k then (v, [k]) else R n) := by
  have hc : ∀ n, n < 101 → cK (k + 1) n = n → n = k ∨ (n ≠ k ∧ cK k n = n) := by
    intro n hn e
    unfold cK at e ⊢
    split at e
    · by_cases h1 : n = k
      · exact .inl h1
      · exact .inr ⟨h1, if_pos (by omega)⟩
    · omega
  refine ⟨hm, fun n hn e => ?_, fun n hn e => ?_, fun n hn e => ?_, fun n m hn hm e1 e2 hne => ?_, h.gb⟩
  · rw [hM]
    rcases hc n hn e with rfl | ⟨h1, h2⟩
    · rw [if_pos rfl, if_pos rfl]
    · rw [if_neg (by omega), if_neg h1]
      exact h.at_ n hn h2
  · rcases hc n hn e with rfl | ⟨h1, h2⟩
    · simp only [if_true]
      exact own_map hv hg h.gb
    · simp only [if_neg h1]
      exact own_map (h.own n hn h2) hg h.gb
  · rcases hc n hn e with rfl | ⟨h1, h2⟩
    · simp only [if_true]
      refine ⟨by simp, fun x => ?_⟩
      rw [List.mem_singleton]
      unfold cK
      constructor
      · rintro rfl
        exact ⟨hn, if_pos (by omega)⟩
      · rintro ⟨g1, g2⟩
        split at g2
        · exact g2
        · omega
    · simp only [if_neg h1]
      obtain ⟨g1, g2⟩ := h.nd n hn h2
      refine ⟨g1, fun x => (g2 x).trans ?_⟩
      unfold cK
      constructor
      · rintro ⟨q1, q2⟩
        refine ⟨q1, ?_⟩
        split at q2
        · rw [if_pos (by omega)]; exact q2
        · omega
      · rintro ⟨q1, q2⟩
        refine ⟨q1, ?_⟩
        split at q2
        · by_cases hx : x < k
          · rw [if_pos hx]; exact q2
          · omega
        · omega
  · rcases hc n hn e1 with rfl | ⟨h1, h2⟩
    · rcases hc m hm e2 with rfl | ⟨h3, h4⟩
      · exact absurd rfl hne
      · simp only [if_true, if_neg h3]
        exact (hap m hm h4).symm
    · rcases hc m hm e2 with rfl | ⟨h3, h4⟩
      · simp only [if_true, if_neg h1]
        exact hap n hn h2
      · simp only [if_neg h1, if_neg h3]
        exact h.ap n m hn hm h2 h4 hne
/-- the words of one class come to another one, one after another -/
structure Move (w0 W : World) (base gm d : Nat) (lv : Value) (c : Nat → Nat) (a b k : Nat) (la lb : List Nat) (va : Value) (R : Nat → Value × List Nat) : Prop where
  db : DictB W d lv (fun x => if x ∈ lb.take k then a else c x)
  mp : ∃ M, MapG kI W gm M ∧ M (a : Int) = some va ∧ ∀ n, n < 101 → c n = n → n ≠ a → M (n : Int) = some (R n).1
  oa : W.ownsRow base 3 1 va (la ++ lb.take k).length (nL (la ++ lb.take k))
  ot : ∀ n, n < 101 → c n = n → n ≠ a → W.ownsRow base 3 1 (R n).1 (R n).2.length (nL (R n).2) ∧ Apart va (R n).1
  bl : Below w0.heap.size w0 W
  gb : gm < base
  dm : d < gm
  lo : w0.heap.size ≤ d
  sz : base ≤ W.heap.size
theorem take_mem {l : List Nat} {k : Nat} {x : Nat} (h : l[k]? = some x) (y : Nat) : y ∈ l.take (k + 1) ↔ y ∈ l.take k ∨ y = x := by
  rw [take_snoc h, List.mem_append, List.mem_singleton]
/-- before the first one -/
theorem Move.start {w0 W : World} {base gm d : Nat} {lv : Value} {c : Nat → Nat} {M : Int → Option Value} {R : Nat → Value × List Nat} (h : Rows W base gm c M R) (hd : DictB W d lv c) {a b : Nat} (ha : a < 101) (hca : c a = a) (hb : Below w0.heap.size w0 W) (hdm : d < gm) (hlo : w0.heap.size ≤ d) (hsz : base ≤ W.heap.size) :
    Move w0 W base gm d lv c a b 0 (R a).2 (R b).2 (R a).1 R := by
  refine ⟨hd.same fun m _ => by simp, ⟨M, h.mp, h.at_ a ha hca, fun n hn hc _ => h.at_ n hn hc⟩, by simpa using h.own a ha hca, fun n hn hc hne => ⟨h.own n hn hc, h.ap a n ha hn hca hc fun e => hne e.symm⟩, hb, h.gb, hdm, hlo, hsz⟩
section
variable {w0 W W' : World} {base gm d : Nat} {lv : Value} {c : Nat → Nat} {a b k : Nat} {la lb : List Nat} {va : Value} {R : Nat → Value × List Nat}
/-- the class of the next word changes -/
theorem Move.put (h : Move w0 W base gm d lv c a b k la lb va R) {x : Nat} (hx : lb[k]? = some x) (hx1 : x < 101) :
    DictB (W.setCell ⟨d, 1 + x, none⟩ (.int .i64 (a : Int))) d lv (fun y => if y ∈ lb.take (k + 1) then a else c y) ∧ W.grownBy (W.setCell ⟨d, 1 + x, none⟩ (.int .i64 (a : Int))) (some d) := by
  refine ⟨h.db.put hx1 fun y _ => ?_, grown_setCell _⟩
  by_cases e : y = x
  · rw [if_pos e, if_pos ((take_mem hx y).2 (.inr e))]
  · rw [if_neg e]
    by_cases h1 : y ∈ lb.take k
    · rw [if_pos h1, if_pos ((take_mem hx y).2 (.inl h1))]
    · rw [if_neg h1, if_neg fun h2 => ((take_mem hx y).1 h2).elim h1 e]
theorem row_far {W W' : World} {base d : Nat} {v : Value} {n : Nat} {xs : List Value} (h : W.ownsRow base 3 1 v n xs) (hg : W.grownBy W' (some d)) (hb : d < base) : W'.ownsRow base 3 1 v n xs := own_map h hg hb
theorem row_ne {W : World} {base g : Nat} {v : Value} {n : Nat} {xs : List Value} (h : W.ownsRow base 3 1 v n xs) (hg : g < base) : some g ≠ v.ownBlock := by
  intro e
  have := (h.lt g e.symm).1
  omega
/-- and it is put behind the other words of its new class -/
theorem Move.step (h : Move w0 W base gm d lv c a b k la lb va R) {x : Nat} (hx : lb[k]? = some x) (hx1 : x < 101) {Wp w4 w5 : World} {va' : Value}
    (hWp : W.grownBy Wp (some d)) (hdb : DictB Wp d lv (fun y => if y ∈ lb.take (k + 1) then a else c y)) (hbl : Below w0.heap.size w0 Wp)
    (hown : w4.ownsRow base 3 1 va' ((la ++ lb.take k).length + 1) (nL (la ++ lb.take k) ++ [.int .i64 (x : Int)])) (hg4 : Wp.grownBy w4 va.ownBlock) (hat : ∀ b, va'.ownBlock = some b → va.ownBlock = some b ∨ Wp.heap.size ≤ b)
    (hg5 : w4.grownBy w5 (some gm)) {M : Int → Option Value} (hm : MapG kI W gm M) (hMa : ∀ n, n < 101 → c n = n → n ≠ a → M (n : Int) = some (R n).1) (hm5 : MapG kI w5 gm (fun y => if y = (a : Int) then some va' else M y)) : Move w0 w5 base gm d lv c a b (k + 1) la lb va' R := by
  have h1 := h.gb
  have h2 := h.dm
  have h3 := h.lo
  have h4 := h.sz
  have hoa : Wp.ownsRow base 3 1 va (la ++ lb.take k).length (nL (la ++ lb.take k)) := row_far h.oa hWp (by omega)
  have hl : (la ++ lb.take (k + 1)).length = (la ++ lb.take k).length + 1 := by rw [take_snoc hx, ← List.append_assoc, List.length_append, List.length_singleton]
  have hn : nL (la ++ lb.take (k + 1)) = nL (la ++ lb.take k) ++ [.int .i64 (x : Int)] := by rw [take_snoc hx, ← List.append_assoc, nL_append]; rfl
  have hb4 : Below w0.heap.size w0 w4 := hbl.grown hg4 hbl.size (fun k hk => by have := (hoa.lt k hk).1; omega)
  refine ⟨(hdb.grown hg4 (row_ne hoa (by omega))).grown hg5 (fun e => by injection e; omega), ⟨_, hm5, if_pos rfl, fun n hn hc hne => ?_⟩, ?_, fun n hn hc hne => ?_, hb4.grown hg5 (Nat.le_trans hbl.size (by have := hg4.size; exact this)) (fun k hk => by injection hk; omega), h1, h2, h3, ?_⟩
  · rw [if_neg (by omega)]
    exact hMa n hn hc hne
  · rw [hl, hn]
    exact own_map hown hg5 h1
  · obtain ⟨q1, q2⟩ := h.ot n hn hc hne
    obtain ⟨q3, q4⟩ := own_apart (row_far q1 hWp (by omega)) hg4 hat q2
    exact ⟨own_map q3 hg5 h1, q4⟩
  · have := hWp.size
    have := hg4.size
    have := hg5.size
    omega
/-- all of them have come: the other class is struck -/
theorem Move.done (h : Move w0 W base gm d lv c a b k la lb va R) (hr : ∃ W0 M0, Rows W0 base gm c M0 R) (hla : la = (R a).2) (hlb : lb = (R b).2) (hk : k = lb.length) (ha : a < 101) (hb : b < 101) (hca : c a = a) (hcb : c b = b) (hab : a ≠ b)
    (hg : W.grownBy W' (some gm)) {M M' : Int → Option Value} (hm0 : MapG kI W gm M) (hMa : M (a : Int) = some va) (hMo : ∀ n, n < 101 → c n = n → n ≠ a → M (n : Int) = some (R n).1) (hm : MapG kI W' gm M') (hM : ∀ x, x ≠ (b : Int) → M' x = M x) (hc2 : ∀ n, n < 101 → c (c n) = c n) (hc3 : ∀ n, n < 101 → c n < 101) :
    Rows W' base gm (fun n => if c n = b then a else c n) M' (fun n => if n = a then (va, la ++ lb) else R n) ∧ DictB W' d lv (fun n => if c n = b then a else c n) := by
  obtain ⟨W0, M0, hR⟩ := hr
  have h1 := h.gb
  have h2 := h.dm
  have hlk : lb.take k = lb := by rw [hk, List.take_length]
  have hmb : ∀ x, x ∈ lb ↔ x < 101 ∧ c x = b := fun x => by rw [hlb]; exact (hR.nd b hb hcb).2 x
  have hma : ∀ x, x ∈ la ↔ x < 101 ∧ c x = a := fun x => by rw [hla]; exact (hR.nd a ha hca).2 x
  have hrep : ∀ n, n < 101 → (if c n = b then a else c n) = n → n = a ∨ (n ≠ a ∧ n ≠ b ∧ c n = n) := by
    intro n hn e
    by_cases h3 : c n = b
    · rw [if_pos h3] at e
      exact .inl e.symm
    · rw [if_neg h3] at e
      by_cases h4 : n = a
      · exact .inl h4
      · exact .inr ⟨h4, fun h5 => h3 (e.trans h5), e⟩
  have hoa := h.oa
  rw [hlk] at hoa
  refine ⟨⟨hm, fun n hn e => ?_, fun n hn e => ?_, fun n hn e => ?_, fun n m hn hm e1 e2 hne => ?_, h1⟩, ?_⟩
  · rcases hrep n hn e with rfl | ⟨h3, h4, h5⟩
    · rw [hM _ (by omega), if_pos rfl]
      exact hMa
    · rw [hM _ (by omega), if_neg h3]
      exact hMo n hn h5 h3
  · rcases hrep n hn e with rfl | ⟨h3, h4, h5⟩
    · simp only [if_true]
      exact own_map hoa hg h1
    · simp only [if_neg h3]
      exact own_map (h.ot n hn h5 h3).1 hg h1
  · rcases hrep n hn e with rfl | ⟨h3, h4, h5⟩
    · simp only [if_true]
      refine ⟨?_, fun x => ?_⟩
      · rw [List.nodup_append]
        refine ⟨by rw [hla]; exact (hR.nd n ha hca).1, by rw [hlb]; exact (hR.nd b hb hcb).1, fun x hx y hy e => ?_⟩
        subst e
        have g1 := ((hma x).1 hx).2
        have g2 := ((hmb x).1 hy).2
        exact hab (g1.symm.trans g2)
      · rw [List.mem_append, hma, hmb]
        constructor
        · rintro (⟨g1, g2⟩ | ⟨g1, g2⟩)
          · refine ⟨g1, ?_⟩
            rw [if_neg (by rw [g2]; exact hab)]
            exact g2
          · exact ⟨g1, if_pos g2⟩
        · rintro ⟨g1, g2⟩
          by_cases g3 : c x = b
          · exact .inr ⟨g1, g3⟩
          · rw [if_neg g3] at g2
            exact .inl ⟨g1, g2⟩
    · simp only [if_neg h3]
      obtain ⟨g1, g2⟩ := hR.nd n hn h5
      refine ⟨g1, fun x => (g2 x).trans ?_⟩
      constructor
      · rintro ⟨q1, q2⟩
        refine ⟨q1, ?_⟩
        rw [if_neg (by rw [q2]; exact h4)]
        exact q2
      · rintro ⟨q1, q2⟩
        refine ⟨q1, ?_⟩
        by_cases g3 : c x = b
        · rw [if_pos g3] at q2
          exact absurd q2.symm h3
        · rw [if_neg g3] at q2
          exact q2
  · rcases hrep n hn e1 with rfl | ⟨h3, h4, h5⟩
    · rcases hrep m hm e2 with rfl | ⟨h6, h7, h8⟩
      · exact absurd rfl hne
      · simp only [if_true, if_neg h6]
        exact (h.ot m hm h8 h6).2
    · rcases hrep m hm e2 with rfl | ⟨h6, h7, h8⟩
      · simp only [if_true, if_neg h3]
        exact (h.ot n hn h5 h3).2.symm
      · simp only [if_neg h3, if_neg h6]
        exact hR.ap n m hn hm h5 h8 hne
  · refine (h.db.grown hg (fun e => by injection e; omega)).same fun n hn => ?_
    rw [hlk]
    by_cases h3 : c n = b
    · rw [if_pos h3, if_pos ((hmb n).2 ⟨hn, h3⟩)]
    · rw [if_neg h3, if_neg fun h4 => h3 ((hmb n).1 h4).2]
end
theorem nats_take_succ {b : List (Int × Int)} {k x y : Nat} (h : b[k]? = some ((x : Int), (y : Int))) : nats (b.take (k + 1)) = nats (b.take k) ++ [(x, y)] := by
  unfold nats
  rw [take_snoc h, List.map_append]
  simp
set_option maxRecDepth 100000 in
set_option maxHeartbeats 3200000 in
theorem newDictionary_ok (v : Value) (b : List (Int × Int)) (w : World) (hv : BookV w w.heap.size v b) (h0 : checkBook b = 0) :
    Calls Tryz.prog 18 #[v] w fun r w' => ∃ d lv, r = .returned (.pointer (some ⟨d, 0, none⟩)) ∧ DictB w' d lv (cls (nats b)) ∧ w.heap.size ≤ d ∧ Below w.heap.size w w' := by
  obtain ⟨pa, pc, rfl, hp⟩ := hv.open_
  have hC := BB.new hp
  have hB := (Below.refl w.heap.size w).alloc (Nat.le_refl _) (.cells #[.slice pa b.length pc] 24)
  have hcap := hp.len_
  have HP := Lib.hid hp
  have HBL := Lib.hid (book_len h0)
  have HNL := Lib.hid (nats_lt h0)
  have hmm := @run_makeMap Tryz.prog
  go_enter Tryz.func18, Tryz.ntmps18
  go_upto_region 1 with (fail)
  have HWS : Hid ((w.alloc (.cells #[.slice pa b.length pc] 24)).heap.size = w.heap.size + 1) := by simp [Hid]
  generalize hW : w.alloc (.cells #[.slice pa b.length pc] 24) = W at *
  clear hW hp
  have k0 := hC.c0
  go_upto_region 2 with (fail)
  have hd0 : DictB (W.alloc (.cells (Tryz.zeroCells101.setIfInBounds 0 (.slice pa b.length pc)) 101)) W.heap.size (.slice pa b.length pc) (fun _ => 0) :=
    ⟨_, Blk.new _ _ _, by kernel_rfl, rfl, fun n hn => by
      have e : Tryz.zeroCells101 = #[.slice none 0 0] ++ Array.replicate 101 (.int .i64 0) := by kernel_rfl
      rw [Array.getElem?_setIfInBounds_ne (by omega), e, Array.getElem?_append_right (by simp)]
      simp [Array.getElem?_replicate, hn]⟩
  have hb1 := (Below.refl W.heap.size W).alloc (Nat.le_refl _) (.cells (Tryz.zeroCells101.setIfInBounds 0 (.slice pa b.length pc)) 101)
  have hz1 : Hid ((W.alloc (.cells (Tryz.zeroCells101.setIfInBounds 0 (.slice pa b.length pc)) 101)).heap.size = W.heap.size + 1) := by simp [Hid]
  replace hC := hC.call hb1
  replace hB := hB.trans (hb1.mono hB.size)
  clear hb1 k0
  generalize W.alloc (.cells (Tryz.zeroCells101.setIfInBounds 0 (.slice pa b.length pc)) 101) = W1 at *
  have HD : Hid (w.heap.size ≤ W.heap.size) := by have := HWS.out; rw [Hid]; omega
  generalize W.heap.size = d at *
  go_upto_region 3 with (fail)
  have hm0 := MapG.new (kf := kI) W1
  have hb1 := (Below.refl W1.heap.size W1).alloc (Nat.le_refl _) (.map #[] 0)
  have hz2 : Hid ((W1.alloc (.map #[] 0)).heap.size = W1.heap.size + 1) := by simp [Hid]
  replace hC := hC.call hb1
  replace hB := hB.trans (hb1.mono hB.size)
  replace hd0 := hd0.call hb1
  clear hb1 hmm
  generalize W1.alloc (.map #[] 0) = W2 at *
  have hdm : Hid (d < W1.heap.size) := by have := hz1.out; rw [Hid]; omega
  generalize W1.heap.size = gm at *
  have hsz : Hid (gm + 1 ≤ W2.heap.size) := by have := hz2.out; rw [Hid]; omega
  have hR0 : Rows W2 (gm + 1) gm (cK 0) (fun _ => none) (fun _ => (.slice none 0 0, [])) := by
    have hno : ∀ n, n < 101 → cK 0 n = n → False := by
      intro n hn e
      unfold cK at e
      rw [if_neg (by omega)] at e
      omega
    exact ⟨hm0, fun n hn e => (hno n hn e).elim, fun n hn e => (hno n hn e).elim, fun n hn e => (hno n hn e).elim, fun n m hn hm e => (hno n hn e).elim, by omega⟩
  clear hm0 hz1 hz2 HWS
  go_wp2
  go_loopw [16] (fun i wr => ∃ (k : Nat) (M : Int → Option Value) (R : Nat → Value × List Nat), k ≤ 101 ∧ i = .int .i64 k ∧ Rows wr (gm + 1) gm (cK k) M R ∧ DictB wr d (.slice pa b.length pc) (fun n => if n < k then n else 0) ∧ gm + 1 ≤ wr.heap.size ∧ Below w.heap.size w wr) (fun i _ => 101 - (intOf i).toNat)
  case atStart => exact ⟨0, _, _, by omega, rfl, hR0, hd0.same fun n _ => by simp, hsz.out, hB⟩
  case round =>
    obtain ⟨k, M, R, hk, rfl, hR, hd, hgw, hbr⟩ := hrel
    by_cases hlt : k < 101
    · have d1 : decide ((k : Int) < 101) = true := decide_eq_true (by omega)
      have hki : (k : Int) < 101 := by omega
      have c0 := hd.at_ hlt
      have z0 := hd.frozen (1 + k)
      have hgs : wr.grownBy (wr.setCell ⟨d, 1 + k, none⟩ (.int .i64 (k : Int))) (some d) := grown_setCell _
      have hd1 := hd.put (x := k) (c' := fun n => if n < k + 1 then n else 0) hlt fun m hm => by
        by_cases e : m = k
        · rw [if_pos e, if_pos (by omega), e]
        · rw [if_neg e]
          by_cases h1 : m < k
          · rw [if_pos h1, if_pos (by omega)]
          · rw [if_neg h1, if_neg (by omega)]
      have hR1 := hR.grown hgs fun r e => by have := hdm.out; injection e; omega
      have hs1 : (wr.setCell ⟨d, 1 + k, none⟩ (.int .i64 (k : Int))).heap.size = wr.heap.size := by simp [World.setCell]
      have hb1 := hbr.grown hgs hbr.size (fun r e => by injection e with e; have := HD.out; omega)
      clear hR hd hgs hbr
      go_upto_region 7 with (fail)
      clear c0 z0
      generalize wr.setCell ⟨d, 1 + k, none⟩ (.int .i64 (k : Int)) = w1 at *
      rw [← hs1] at hgw
      clear hs1 wr
      have hx := Blk.new w1 3 #[.int .i64 (k : Int)]
      have hbA := (Below.refl w1.heap.size w1).alloc (Nat.le_refl _) (.cells #[.int .i64 (k : Int)] 3)
      have hlit : (w1.alloc (.cells #[.int .i64 (k : Int)] 3)).ownsRow (gm + 1) 3 1 (.slice (some ⟨w1.heap.size, 0, none⟩) 1 1) 1 (nL [k]) :=
        ⟨by simp [nL], .inr ⟨_, 1, _, rfl, hgw, hx, by omega, by decide, by simp, by simp [nL]⟩⟩
      have hR2 := hR1.call hbA
      have hd2 := hd1.call hbA
      have hb2 := hb1.trans (hbA.mono hb1.size)
      have hap : ∀ n, n < 101 → cK k n = n → Apart (R n).1 (.slice (some ⟨w1.heap.size, 0, none⟩) 1 1) := fun n hn hc b' e1 e2 => by
        have := ((hR1.own n hn hc).lt b' e1).2
        simp only [Value.ownBlock, Option.some.injEq] at e2
        omega
      have hs2 : gm + 1 ≤ (w1.alloc (.cells #[.int .i64 (k : Int)] 3)).heap.size := by simp; omega
      have hw2d : (w1.alloc (.cells #[.int .i64 (k : Int)] 3)).heap.size = w1.heap.size + 1 := by simp
      obtain ⟨es, cl, hmu, hmo⟩ := hR2.mp.update keyInt Tryz.underlying102 (k : Int) (.slice (some ⟨w1.heap.size, 0, none⟩) 1 1)
      have hg5 := grown_put (w := w1.alloc (.cells #[.int .i64 (k : Int)] 3)) (g := gm) es cl
      have hR3 := hR2.next (k := k) hlt hg5 hmo (fun x => rfl) hlit hap
      have hd3 := hd2.grown hg5 (fun e => by injection e with e; have := hdm.out; omega)
      have hb3 := hb2.grown hg5 hb2.size (fun r e => by injection e with e; have := HD.out; have := hdm.out; omega)
      have hs3 := Nat.le_trans hs2 hg5.size
      clear hR1 hd1 hb1 hx hbA hlit hR2 hd2 hb2 hap hs2 hw2d hmo hg5
      go_wp2
      generalize putMap (w1.alloc (.cells #[.int .i64 (k : Int)] 3)) gm es cl = w5 at *
      go_roundw
      case rel => exact ⟨k + 1, _, _, by omega, by go_num, hR3, hd3, hs3, hb3⟩
      case measure => (simp [intOf]; try omega)
    · obtain rfl : k = 101 := by omega
      have hR1 := hR.same (c' := cls (nats (b.take 0))) fun n hn => by simp [cK, hn, nats, cls]
      have hd1 := hd.same (c' := cls (nats (b.take 0))) fun n hn => by simp [hn, nats, cls]
      have hbw := HD.out
      obtain ⟨WB, hWB⟩ : ∃ WB : World, WB = wr := ⟨_, rfl⟩
      rw [← hWB] at hR1 hd1 hgw hbr ⊢
      have c0 := hd1.c0
      clear hWB hR hd hB hC hd0 hR0
      go_wp2
      go_loopw [36] (fun i wr => ∃ (k : Nat) (M : Int → Option Value) (R : Nat → Value × List Nat), k ≤ b.length ∧ i = .int .i64 k ∧ Rows wr (gm + 1) gm (cls (nats (b.take k))) M R ∧ DictB wr d (.slice pa b.length pc) (cls (nats (b.take k))) ∧ gm + 1 ≤ wr.heap.size ∧ Below w.heap.size w wr) (fun i _ => b.length - (intOf i).toNat)
      case atStart => exact ⟨0, M, R, Nat.zero_le _, rfl, hR1, hd1, hgw, hbr⟩
      case round =>
        clear hR1 hd1 hgw hbr c0
        obtain ⟨k, M, R, hk, rfl, hR, hd, hgw, hbr⟩ := hrel
        by_cases hlt : k < b.length
        · have d1 : decide (k < b.length) = true := decide_eq_true hlt
          have d1' : decide ((k : Int) < (b.length : Int)) = true := decide_eq_true (by omega)
          have hki : (k : Int) < (b.length : Int) := by omega
          have ek : IntKind.i64.wrap ((k : Int) + 1) = ((k + 1 : Nat) : Int) := by have := HBL.out.1; rw [IntKind.wrap_i64]; omega
          obtain ⟨xb, xo, xi, yi, hpa, hxb, hx1, c0, c1⟩ := cell2_at (HP.out.below hbr) hlt
          subst hpa
          obtain ⟨hxw, hyw⟩ := HBL.out.2 (xi, yi) (List.mem_of_getElem? hx1)
          obtain ⟨x, rfl⟩ : ∃ x : Nat, xi = (x : Int) := ⟨xi.toNat, by simp only at hxw; omega⟩
          obtain ⟨y, rfl⟩ : ∃ y : Nat, yi = (y : Int) := ⟨yi.toNat, by simp only at hyw; omega⟩
          simp only at hxw hyw
          have hx101 : x < 101 := by omega
          have hy101 : y < 101 := by omega
          have HCS : Hid (cls (nats (b.take (k + 1))) = merge (cls (nats (b.take k))) (x, y)) := by rw [Hid, nats_take_succ hx1, cls_snoc]
          have hclt : ∀ n, n < 101 → cls (nats (b.take k)) n < 101 := fun n hn => cls_lt _ (fun p hp => HNL.out p (by
            unfold nats at hp ⊢
            rw [List.map_take] at hp
            exact List.mem_of_mem_take hp)) hn
          have hcid := cls_idem (nats (b.take k))
          obtain ⟨c, hcdef⟩ : ∃ c, c = cls (nats (b.take k)) := ⟨_, rfl⟩
          rw [← hcdef] at HCS hclt hcid hR hd
          clear hcdef hx1 hxw hyw
          have HCL := Lib.hid hclt
          have HCI := Lib.hid hcid
          go_upto_region 12 with (fail)
          have hX := Blk.new wr 33 #[.int .i64 (x : Int), .int .i64 (y : Int)]
          have hbA := (Below.refl wr.heap.size wr).alloc (Nat.le_refl _) (.cells #[.int .i64 (x : Int), .int .i64 (y : Int)] 33)
          have hR1 := hR.call hbA
          have hd1 := hd.call hbA
          have hb1 := hbr.trans (hbA.mono hbr.size)
          have hg1 := Nat.le_trans hgw hbA.size
          clear hR hd hbA hbr hgw c0 c1 hclt hcid
          generalize wr.alloc (.cells #[.int .i64 (x : Int), .int .i64 (y : Int)] 33) = w1 at *
          generalize wr.heap.size = xg at *
          have x0 := hX.cell 0
          have x1 := hX.cell 1
          simp at x0 x1
          have f0 := Ext.of x0
          have f1 := Ext.of x1
          have f2 := Ext.of (hd1.at_ hx101)
          have f3 := Ext.of (hd1.at_ hy101)
          have xi1 : (x : Int) < 101 := by omega
          have yi1 : (y : Int) < 101 := by omega
          clear x0 x1 hX
          refine wp_region_ext (by kernel_rfl) (by kernel_rfl) ?_
          repeat (go_big_quiet_step (fail))
          refine wpQuiet_nil ?_
          intro _ hw'
          obtain ⟨xr, hw''⟩ := hw'
          subst hw''
          replace hR1 := hR1.call xr.h
          replace hd1 := hd1.call xr.h
          replace hb1 := hb1.trans (xr.h.mono hb1.size)
          replace hg1 := Nat.le_trans hg1 xr.h.size
          obtain ⟨w2, hw2⟩ : ∃ w2 : World, w2 = xr.w := ⟨_, rfl⟩
          rw [← hw2] at hR1 hd1 hb1 hg1 ⊢
          clear f0 f1 f2 f3 hw2 xr
          have hca := HCL.out x hx101
          have hcb := HCL.out y hy101
          have hia := HCI.out x
          have hib := HCI.out y
          have HCM : Hid (∀ n, merge c (x, y) n = if c n = c y then c x else c n) := fun n => rfl
          generalize c x = a at *
          generalize c y = b' at *
          by_cases hab : a = b'
          · have d2 : ((a : Int) == (b' : Int)) = true := by simp [hab]
            have hsame : ∀ n, n < 101 → cls (nats (b.take (k + 1))) n = c n := by
              intro n _
              rw [HCS.out, HCM.out]
              split
              · rename_i h
                rw [h, hab]
              · rfl
            have hR2 := hR1.same hsame
            have hd2 := hd1.same hsame
            clear hR1 hd1 hab hia hib hca hcb hsame
            go_wp2
            go_roundw
            case rel => exact ⟨k + 1, M, R, by omega, by go_num, hR2, hd2, hg1, hb1⟩
            case measure => (simp [intOf]; try omega)
          · have d2 : ((a : Int) == (b' : Int)) = false := by simp; omega
            have hRW : Hid (∃ W0 M0, Rows W0 (gm + 1) gm c M0 R) := ⟨_, _, hR1⟩
            have hlook := hR1.mp.lookup1 keyInt Tryz.underlying102 (b' : Int) (z := .slice none 0 0) (by kernel_rfl)
            rw [hR1.at_ b' hcb hib] at hlook
            simp only [Option.getD_some] at hlook
            obtain ⟨bA, bcap, hbv⟩ := own_form (hR1.own b' hcb hib)
            have HLB := Lib.hid (hR1.len hcb hib)
            have HMB := Lib.hid (hR1.nd b' hcb hib).2
            have hmv : Move w w2 (gm + 1) gm d (.slice (some ⟨xb, xo, none⟩) b.length pc) c a b' 0 (R a).2 (R b').2 (R a).1 R := Move.start hR1 hd1 hca hia hb1 hdm.out hbw hg1
            have HLA := Lib.hid (hR1.len hca hia)
            rw [hbv] at hlook
            have HBV := Lib.hid hbv
            clear hbv
            obtain ⟨lb, hlb⟩ : ∃ lb, lb = (R b').2 := ⟨_, rfl⟩
            obtain ⟨la, hla⟩ : ∃ la, la = (R a).2 := ⟨_, rfl⟩
            rw [← hlb] at hlook HLB HMB hmv HBV
            rw [← hla] at hmv HLA
            have HLBE := Lib.hid hlb
            have HLAE := Lib.hid hla
            clear hlb hla hR1 hd1 hb1 hg1
            have HAB := Lib.hid hab
            clear hab
            go_wp2
            go_loopw [61] (fun i wr => ∃ (q : Nat) (va : Value), q ≤ lb.length ∧ i = .int .i64 q ∧ Move w wr (gm + 1) gm d (.slice (some ⟨xb, xo, none⟩) b.length pc) c a b' q la lb va R) (fun i _ => lb.length - (intOf i).toNat)
            case atStart => exact ⟨0, _, Nat.zero_le _, rfl, hmv⟩
            case round =>
              clear hmv hlook
              obtain ⟨q, va, hq, rfl, hm⟩ := hrel
              have hbA := (hm.ot b' hcb hib (fun e => HAB.out e.symm)).1
              rw [HBV.out, ← HLBE.out] at hbA
              by_cases hq1 : q < lb.length
              · have d3 : decide (q < lb.length) = true := decide_eq_true hq1
                have d3' : decide ((q : Int) < (lb.length : Int)) = true := decide_eq_true (by omega)
                have hqi : (q : Int) < (lb.length : Int) := by omega
                have eq1 : IntKind.i64.wrap ((q : Int) + 1) = ((q + 1 : Nat) : Int) := by have := HLB.out; rw [IntKind.wrap_i64]; omega
                obtain ⟨z, hz⟩ : ∃ z, lb[q]? = some z := ⟨_, List.getElem?_eq_getElem hq1⟩
                have hz1 := ((HMB.out z).1 (List.mem_of_getElem? hz)).1
                have hcell : ∃ ba, bA = some ⟨ba, 0, none⟩ ∧ wr.cell? ⟨ba, q, none⟩ = some (.int .i64 (z : Int)) := by
                  rcases hbA.2 with ⟨e1, e2⟩ | ⟨ba, bc, cur, e1, -⟩
                  · omega
                  · injection e1 with e1 _ _
                    subst e1
                    have hce := hbA.cells (g := ba) rfl q (.int .i64 (z : Int)) (by unfold nL; rw [List.getElem?_map, hz]; rfl)
                    rw [show (⟨ba, 0, none⟩ : Addr).add q = ⟨ba, q, none⟩ by unfold Addr.add; split <;> simp_all] at hce
                    exact ⟨ba, rfl, hce⟩
                obtain ⟨ba, hba, c0⟩ := hcell
                subst hba
                have HBV2 := Lib.hid HBV.out
                have hcap2 := own_cap hbA
                have zi1 : (z : Int) < 101 := by omega
                have c1 := hm.db.at_ hz1
                have z1 := hm.db.frozen (1 + z)
                obtain ⟨hdb, hgs⟩ := hm.put hz hz1
                have hbs := hm.bl.grown hgs hm.bl.size (fun r e => by injection e with e; have := hm.lo; omega)
                have hoa := row_far hm.oa hgs (by have := hm.gb; have := hm.dm; omega)
                obtain ⟨M1, hM1, hMa, hMo⟩ := id hm.mp
                have hM2 := hM1.grown hgs (fun e => by injection e with e; have := hm.dm; omega)
                have hss : (wr.setCell ⟨d, 1 + z, none⟩ (.int .i64 (a : Int))).heap.size = wr.heap.size := by simp [World.setCell]
                have hsz2 : gm + 1 ≤ (wr.setCell ⟨d, 1 + z, none⟩ (.int .i64 (a : Int))).heap.size := by rw [hss]; exact hm.sz
                have HHM := Lib.hid hm
                have HGS := Lib.hid hgs
                clear hm hbA hgs hss
                go_upto_region 18 with (fail)
                clear c0 c1 z1
                have hlook := hM2.lookup1 keyInt Tryz.underlying102 (a : Int) (z := .slice none 0 0) (by kernel_rfl)
                rw [hMa] at hlook
                simp only [Option.getD_some] at hlook
                have hln : (la ++ lb.take q).length ≤ 202 := by
                  rw [List.length_append, List.length_take]
                  have := HLA.out
                  have := HLB.out
                  omega
                obtain ⟨lq, hlq⟩ : ∃ lq, lq = la ++ lb.take q := ⟨_, rfl⟩
                rw [← hlq] at hln hoa
                have HLQ := Lib.hid hlq
                have HLN := Lib.hid hln
                clear hln hlq
                generalize hWp : wr.setCell ⟨d, 1 + z, none⟩ (.int .i64 (a : Int)) = wp at *
                have HWP := Lib.hid hWp
                clear hWp
                have hl202 := HLN.out
                go_wp2_with (at_builtin; refine wpList_app2 slT_int rfl (.tmp 75) (.tmp 77) rfl (sv := va) rfl hoa rfl rfl one_1 hsz2 ?_ ?_ ?_)
                any_goals omega
                intro v4 w4 hown4 hg4 hat4
                have hM4 := hM2.grown hg4 (row_ne hoa (by omega))
                obtain ⟨es, cl, hmu, hmo⟩ := hM4.update keyInt Tryz.underlying102 (a : Int) v4
                have hg5 := grown_put (w := w4) (g := gm) es cl
                rw [HLQ.out] at hown4
                have hfin := HHM.out.step hz hz1 HGS.out hdb hbs hown4 hg4 hat4 hg5 hM1 hMo hmo
                clear hM4 hg5 hown4 hg4 hat4 hmo hM2 hdb hbs hoa hlook hl202 hM1 hMa hMo hsz2
                go_wp2
                go_roundw
                case rel =>
                  have hr : ∃ (q' : Nat) (va : Value), q' ≤ lb.length ∧ Value.int .i64 ((q : Int) + 1) = .int .i64 (q' : Int) ∧ Move w (putMap w4 gm es cl) (gm + 1) gm d (.slice (some ⟨xb, xo, none⟩) b.length pc) c a b' q' la lb va R := ⟨q + 1, v4, by omega, by go_num, hfin⟩
                  first | exact hr | ((repeat apply Exists.intro); exact ⟨hr, rfl⟩)
                case measure => (simp [intOf]; try omega)
              · obtain rfl : q = lb.length := by omega
                have d3 : decide (lb.length < lb.length) = false := by simp
                obtain ⟨M1, hM1, hMa, hMo⟩ := id hm.mp
                obtain ⟨es, cl, B', hde, hmo, hagr⟩ := hM1.delete keyInt Tryz.underlying102 (b' : Int) 0 #[102, 3] rfl
                replace hde : ∀ ty, (Builtin.delete_ #[102, 3] ty #[.map (some gm), .int .i64 (b' : Int)]).run Tryz.prog wr = .ok (.tuple #[]) (putMap wr gm es cl) := fun ty => hde
                have hg5 := grown_put (w := wr) (g := gm) es cl
                obtain ⟨hRf, hdf⟩ := hm.done hRW.out HLAE.out HLBE.out rfl hca hcb hia hib HAB.out hg5 hM1 hMa hMo hmo hagr (fun n _ => HCI.out n) (fun n hn => HCL.out n hn)
                have hRf2 := hRf.same (c' := cls (nats (b.take (k + 1)))) fun n _ => by rw [HCS.out, HCM.out]
                have hdf2 := hdf.same (c' := cls (nats (b.take (k + 1)))) fun n _ => by rw [HCS.out, HCM.out]
                have hbf := hm.bl.grown hg5 hm.bl.size (fun r e => by injection e with e; have := hm.lo; have := hm.dm; omega)
                have hsf := Nat.le_trans hm.sz hg5.size
                clear hm hbA hM1 hMa hMo hmo hagr hg5 hRf hdf
                go_wp2
                generalize putMap wr gm es cl = w5 at *
                go_roundw
                case rel => exact ⟨k + 1, _, _, by omega, by go_num, hRf2, hdf2, hsf, hbf⟩
                case measure => (simp [intOf]; try omega)
        · obtain rfl : k = b.length := by omega
          have d1 : decide (b.length < b.length) = false := by simp
          rw [List.take_length] at hd
          have hdf := hd
          clear hd hR
          go_wp2
          go_ret
          exact ⟨d, _, rfl, hdf, hbw, hbr⟩
theorem alike_ok (d : Nat) (lv : Value) (c : Nat → Nat) (x y : Nat) (w : World) (hd : DictB w d lv c) (hx : x < 101) (hy : y < 101) :
    Calls Tryz.prog 19 #[.pointer (some ⟨d, 0, none⟩), .int .i64 (x : Int), .int .i64 (y : Int)] w fun r w' => r = .returned (.bool (c x == c y)) ∧ Below w.heap.size w w' := by
  have HE : Hid (((c x : Int) == (c y : Int)) = (c x == c y)) := by rw [Hid, Bool.eq_iff_iff]; simp; omega
  go_enter Tryz.func19, Tryz.ntmps19
  have f0 := Ext.of (hd.at_ hx)
  have f1 := Ext.of (hd.at_ hy)
  have xi : (x : Int) < 101 := by omega
  have yi : (y : Int) < 101 := by omega
  clear hd
  go_upto_region 1 with (fail)
  refine wp_region_ext (by kernel_rfl) (by kernel_rfl) ?_
  repeat (go_big_quiet_step (fail))
  refine wpQuiet_nil ?_
  intro _ hw'
  obtain ⟨xr, hw''⟩ := hw'
  subst hw''
  have hb := xr.h
  go_wp2
  go_ret
  exact ⟨by rw [← HE.out]; rfl, hb⟩
set_option maxHeartbeats 800000 in
theorem alikeP_ok (v : Value) (b : List (Int × Int)) (x y : Int) (w : World) (hv : BookV w w.heap.size v b) :
    Calls Tryz.prog 6 #[v, .int .i64 x, .int .i64 y] w fun r w' => r = .returned (.tuple #[.bool (alikeM b x y).1, .int .i64 (alikeM b x y).2]) ∧ Below w.heap.size w w' := by
  obtain ⟨pa, pc, rfl, hp⟩ := hv.open_
  have hC := BB.new hp
  have hB := (Below.refl w.heap.size w).alloc (Nat.le_refl _) (.cells #[.slice pa b.length pc] 24)
  go_enter Tryz.func6, Tryz.ntmps6
  go_upto_region 1 with (fail)
  generalize hW : w.alloc (.cells #[.slice pa b.length pc] 24) = W at *
  clear hW hp hv
  have k0 := hC.c0
  go_wp2_with fail
  refine (checkBook_ok _ b W hC.bv).mono ?_
  rintro e w1 ⟨rfl, hb⟩
  replace hC := hC.call hb
  replace hB := hB.trans (hb.mono hB.size)
  clear hb k0
  by_cases h0 : checkBook b = 0
  · have HG : Hid (alikeM b x y = if (isWordB x && isWordB y) = false then (false, 2) else (likeB b x y, 0)) := if_neg (by simp [h0])
    rw [h0]
    have H0 := Lib.hid h0
    clear h0
    have hx2 := Blk.new w1 3 #[.int .i64 x, .int .i64 y]
    have hbA := (Below.refl w1.heap.size w1).alloc (Nat.le_refl _) (.cells #[.int .i64 x, .int .i64 y] 3)
    have hC1 := hC.call hbA
    have hB1 := hB.trans (hbA.mono hB.size)
    have hiw := isWord_ok _ [x, y] _ (Arr.lit (cap := 2) (n := 2) hx2 (by simp) rfl (by simp) (by omega) (by simp [cellsOf, List.range_succ]))
    clear hx2 hbA
    go_wp2_with fail
    refine hiw.mono ?_
    rintro e w2 ⟨rfl, hb⟩
    replace hC := hC1.call hb
    replace hB := hB1.trans (hb.mono hB1.size)
    clear hb hiw hC1 hB1
    have HX : Hid ([x, y].all isWordB = (isWordB x && isWordB y)) := by simp [Hid]
    cases hz : [x, y].all isWordB
    · have HE : Hid (alikeM b x y = (false, 2)) := by rw [Hid, HG.out, if_pos (by rw [← HX.out]; exact hz)]
      clear hz
      go_wp2
      exact bodyPost_ret (v := .tuple #[.bool false, .int .i64 2]) (by simp [results, Tryz.results6, go_sem]) rfl ⟨by rw [HE.out], hB⟩
    · have HE : Hid (alikeM b x y = (likeB b x y, 0)) := by rw [Hid, HG.out, if_neg (by rw [← HX.out, hz]; simp)]
      have hw2 : isWordB x = true ∧ isWordB y = true := by rw [HX.out, Bool.and_eq_true] at hz; exact hz
      obtain ⟨hxx, hyy⟩ := hw2
      rw [isWordB_iff] at hxx hyy
      obtain ⟨xn, rfl⟩ : ∃ xn : Nat, x = (xn : Int) := ⟨x.toNat, by omega⟩
      obtain ⟨yn, rfl⟩ : ∃ yn : Nat, y = (yn : Int) := ⟨y.toNat, by omega⟩
      have hxn : xn < 101 := by omega
      have hyn : yn < 101 := by omega
      have HL : Hid (likeB b (xn : Int) (yn : Int) = (cls (nats b) xn == cls (nats b) yn)) := by unfold likeB clsI; rw [Hid, Int.toNat_natCast, Int.toNat_natCast]
      clear hz hxx hyy
      have k0 := hC.c0
      go_wp2_with fail
      refine (newDictionary_ok _ b w2 hC.bv H0.out).mono ?_
      rintro e w3 ⟨d, lv, rfl, hd, hdl, hb⟩
      replace hB := hB.trans (hb.mono hB.size)
      clear hb k0 hC
      go_wp2_with fail
      refine (alike_ok d lv _ xn yn w3 hd hxn hyn).mono ?_
      rintro e w4 ⟨rfl, hb⟩
      replace hB := hB.trans (hb.mono hB.size)
      clear hb hd hxn hyn hdl
      rw [← HL.out]
      go_wp2
      exact bodyPost_ret (v := .tuple #[.bool (likeB b (xn : Int) (yn : Int)), .int .i64 0]) (by simp [results, Tryz.results6, go_sem]) rfl ⟨by rw [HE.out], hB⟩
  · have HE : Hid (alikeM b x y = (false, checkBook b)) := if_pos h0
    have d0 : (checkBook b != 0) = true := by simpa using h0
    clear h0 hC
    go_wp2
    exact bodyPost_ret (v := .tuple #[.bool false, .int .i64 (checkBook b)]) (by simp [results, Tryz.results6, go_sem]) rfl ⟨by rw [HE.out], hB⟩
theorem risWord_ok (n : Int) (w : World) : Calls Tryz.prog 12 #[.int .i64 n] w fun r w' => r = .returned (.bool (isWordB n)) ∧ Below w.heap.size w w' := by
  go_enter Tryz.func12, Tryz.ntmps12
  by_cases h1 : 1 ≤ n
  · have d1 : decide (1 ≤ n) = true := by simpa using h1
    have HE : Hid (isWordB n = decide (n ≤ 100)) := by simp [Hid, isWordB, h1]
    clear h1
    go_wp2
    go_ret
    exact ⟨by rw [HE.out]; rfl, Below.refl _ _⟩
  · have d1 : decide (1 ≤ n) = false := by simpa using h1
    have HE : Hid (isWordB n = false) := by simp [Hid, isWordB]; omega
    clear h1
    go_wp2
    go_ret
    exact ⟨by rw [HE.out]; rfl, Below.refl _ _⟩
set_option maxRecDepth 100000 in
set_option maxHeartbeats 1600000 in
theorem rcheckBook_ok (v : Value) (b : List (Int × Int)) (w : World) (hv : BookV w w.heap.size v b) :
    Calls Tryz.prog 4 #[v] w fun r w' => r = .returned (.int .i64 (checkBook b)) ∧ Below w.heap.size w w' := by
  obtain ⟨pa, pc, rfl, hp⟩ := hv.open_
  have hC := BB.new hp
  have hB := (Below.refl w.heap.size w).alloc (Nat.le_refl _) (.cells #[.slice pa b.length pc] 24)
  obtain ⟨g1, g2⟩ := checkBook_go (b := b)
  have HG1 := Lib.hid g1
  have HG2 := Lib.hid g2
  clear g1 g2
  have hcap := hp.len_
  go_enter Tryz.func4, Tryz.ntmps4
  go_upto_region 1 with (fail)
  generalize hW : w.alloc (.cells #[.slice pa b.length pc] 24) = W at *
  clear hW hp hv
  have k0 := hC.c0
  by_cases h1 : 40 < b.length
  · have d1 : decide (40 < b.length) = true := by simpa using h1
    have d1' : decide ((40 : Int) < (b.length : Int)) = true := by simp; omega
    have HE := Lib.hid (HG1.out d1)
    clear h1
    go_wp2
    go_ret
    exact ⟨by rw [HE.out]; rfl, hB⟩
  · have d1 : decide (40 < b.length) = false := by simpa using h1
    have d1' : decide ((40 : Int) < (b.length : Int)) = false := by simp; omega
    have HE := Lib.hid (HG2.out d1)
    have H40 : Hid (b.length ≤ 40) := by rw [Hid]; omega
    clear h1 HG1 HG2
    go_wp2
    go_loopw [3] (fun i wr => ∃ k : Nat, k ≤ b.length ∧ i = .int .i64 k ∧ (b.all fun p => isWordB p.1 && isWordB p.2) = ((b.drop k).all fun p => isWordB p.1 && isWordB p.2) ∧ Below W.heap.size W wr) (fun i _ => b.length - (intOf i).toNat)
    case atStart => exact ⟨0, Nat.zero_le _, rfl, rfl, Below.refl _ _⟩
    case round =>
      obtain ⟨k, hk, rfl, hal, hbr⟩ := hrel
      clear k0
      have hCr := hC.call hbr
      have k0 := hCr.c0
      by_cases hlt : k < b.length
      · have d2 : decide (k < b.length) = true := by simpa using hlt
        have d2' : decide ((k : Int) < (b.length : Int)) = true := by simp; omega
        have hki : (k : Int) < (b.length : Int) := by omega
        have ek : IntKind.i64.wrap ((k : Int) + 1) = ((k + 1 : Nat) : Int) := by have := H40.out; rw [IntKind.wrap_i64]; omega
        obtain ⟨xb, xo, x, y, hxa, hxb, hx1, c0, c1⟩ := cell2_at hCr.arr hlt
        subst hxa
        rw [drop_cons hx1, List.all_cons] at hal
        have HAL := Lib.hid hal
        clear hal hx1
        have h1 := risWord_ok x wr
        cases hzx : isWordB x
        · have HZ : Hid (checkBook b = 2) := by rw [Hid, HE.out, HAL.out, hzx]; rfl
          rw [hzx] at h1
          clear hzx
          go_wp2_with fail
          refine h1.mono ?_
          rintro e w2 ⟨rfl, hb2⟩
          have hb3 := hB.trans ((hbr.trans (hb2.mono hbr.size)).mono hB.size)
          clear h1 k0 c0 c1
          go_wp2
          go_ret
          exact ⟨by rw [HZ.out]; rfl, hb3⟩
        · rw [hzx] at h1
          go_wp2_with fail
          refine h1.mono ?_
          rintro e w2 ⟨rfl, hb2⟩
          have hb3 := hbr.trans (hb2.mono hbr.size)
          have k1 := (hCr.call hb2).c0
          have c2 := (hb2.cell (p := ⟨xb, xo + k * 2 + 1, none⟩) hxb).trans c1
          have h2 := risWord_ok y w2
          clear h1 k0 c0 c1
          cases hzy : isWordB y
          · have HZ : Hid (checkBook b = 2) := by rw [Hid, HE.out, HAL.out, hzx, hzy]; rfl
            rw [hzy] at h2
            clear hzx hzy
            go_wp2_with fail
            refine h2.mono ?_
            rintro e w4 ⟨rfl, hb4⟩
            have hb5 := hB.trans ((hb3.trans (hb4.mono hb3.size)).mono hB.size)
            clear h2 k1 c2
            go_wp2
            go_ret
            exact ⟨by rw [HZ.out]; rfl, hb5⟩
          · have HZ : Hid ((b.all fun p => isWordB p.1 && isWordB p.2) = ((b.drop (k + 1)).all fun p => isWordB p.1 && isWordB p.2)) := by rw [Hid, HAL.out, hzx, hzy]; rfl
            rw [hzy] at h2
            clear hzx hzy
            go_wp2_with fail
            refine h2.mono ?_
            rintro e w4 ⟨rfl, hb4⟩
            have hb5 := hb3.trans (hb4.mono hb3.size)
            clear h2 k1 c2
            go_wp2
            go_roundw
            case rel => exact ⟨k + 1, by omega, by go_num, HZ.out, hb5⟩
            case measure => (simp [intOf]; try omega)
      · obtain rfl : k = b.length := by omega
        have d2 : decide (b.length < b.length) = false := by simp
        have HZ : Hid (checkBook b = 0) := by rw [Hid, HE.out, hal, List.drop_length]; rfl
        clear hal
        go_wp2
        go_ret
        exact ⟨by rw [HZ.out]; rfl, hB.trans (hbr.mono hB.size)⟩
end Go.Proofs.YtbcpmmpakkaidaaGreat
