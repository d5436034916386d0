/- Contract: Passages. -/
import Derived.Test.YtjjjockfppomdaaPrsW
import Derived.Test.YtjjjockfppomdaaPub
namespace Go.Proofs.Ytjjjockfppomdaa
open Go.RowKit Go.Shelf
open Go.ChangeMaps (setBlock)
set_option linter.unusedVariables false

/-- what is left of a map behind a filter by values -/
theorem readL_none {l : List Ent} {a b : Int} (h : ∀ x ∈ l, ¬ (x.a = a ∧ x.b = b)) : readL l a b = none := by
  unfold readL
  cases hh : findII a b (tri l) 0 with
  | none => rfl
  | some r =>
    obtain ⟨n, u⟩ := r
    obtain ⟨x, hx, h1, h2, -⟩ := find_at hh
    exact absurd ⟨h1, h2⟩ (h x (List.mem_of_getElem? hx))
theorem readL_cons (x : Ent) (l : List Ent) (a b : Int) : readL (x :: l) a b = if (a == x.a && b == x.b) = true then some x.v else readL l a b := by
  unfold readL
  rw [show tri (x :: l) = (x.a, x.b, x.v) :: tri l from rfl, findII]
  split
  · rfl
  · exact findII_none_shift _ _ _ _ _
theorem readL_filter {kp : Value → Bool} : ∀ {l : List Ent}, (l.map fun x => (x.a, x.b)).Nodup → ∀ a b, readL (l.filter fun x => kp x.v) a b = (readL l a b).bind fun v => if kp v = true then some v else none
  | [], _, a, b => rfl
  | x :: l, h, a, b => by
    rw [List.map_cons, List.nodup_cons] at h
    have ih := readL_filter (kp := kp) h.2 a b
    rw [readL_cons, List.filter_cons]
    by_cases hx : (a == x.a && b == x.b) = true
    · rw [if_pos hx]
      by_cases hk : kp x.v = true
      · rw [if_pos hk, readL_cons, if_pos hx]; simp [hk]
      · rw [if_neg hk, readL_none]
        · simp [hk]
        · intro y hy hyk
          simp only [Bool.and_eq_true, beq_iff_eq] at hx
          refine h.1 (List.mem_map.2 ⟨y, (List.mem_filter.1 hy).1, ?_⟩)
          rw [hyk.1, hyk.2, hx.1, hx.2]
    · rw [if_neg hx]
      by_cases hk : kp x.v = true
      · rw [if_pos hk, readL_cons, if_neg hx]; exact ih
      · rw [if_neg hk]; exact ih
/-- a count is kept -/
def keepV (all : Nat) (v : Value) : Bool := match v with
  | .int _ n => decide ((all : Int) ≤ n)
  | _ => false
def pKeep (P : Nat → Nat → Nat) (all i k : Nat) : Nat := if all ≤ P i k then P i k else 0
theorem mapP_keep (P : Nat → Nat → Nat) (all : Nat) (a b : Int) : ((mapP P a b).bind fun v => if keepV all v = true then some v else none) = mapP (pKeep P all) a b := by
  unfold mapP pKeep
  by_cases h : 0 ≤ a ∧ 0 ≤ b ∧ 0 < P a.toNat b.toNat
  · rw [if_pos h]
    by_cases hk : all ≤ P a.toNat b.toNat
    · rw [if_pos hk, if_pos h]
      simp [keepV, hk]
    · rw [if_neg hk, if_neg (by omega)]
      simp [keepV, hk]
  · rw [if_neg h]
    by_cases hk : all ≤ P a.toNat b.toNat
    · rw [if_pos hk, if_neg h]; rfl
    · rw [if_neg hk, if_neg (by omega)]; rfl
/-- each entry is a count -/
theorem ent_of {l : List Ent} {P : Nat → Nat → Nat} (hn : (l.map fun x => (x.a, x.b)).Nodup) (hr : ∀ x y, readL l x y = mapP P x y) {x : Ent} (hx : x ∈ l) : 0 ≤ x.a ∧ 0 ≤ x.b ∧ 0 < P x.a.toNat x.b.toNat ∧ x.v = .int .i64 (P x.a.toNat x.b.toNat : Int) := by
  have key : ∀ {l : List Ent}, (l.map fun x => (x.a, x.b)).Nodup → x ∈ l → readL l x.a x.b = some x.v := by
    intro l
    induction l with
    | nil => intro _ h; cases h
    | cons y r ih =>
      intro hn hx
      rw [List.map_cons, List.nodup_cons] at hn
      rw [readL_cons]
      rcases List.mem_cons.1 hx with rfl | hx
      · simp
      · rw [if_neg, ih hn.2 hx]
        intro hh
        simp only [Bool.and_eq_true, beq_iff_eq] at hh
        exact hn.1 (List.mem_map.2 ⟨x, hx, by rw [hh.1, hh.2]⟩)
  have h1 := key hn hx
  rw [hr] at h1
  unfold mapP at h1
  split at h1
  · rename_i hh
    injection h1 with h1
    exact ⟨hh.1, hh.2.1, hh.2.2, h1.symm⟩
  · cases h1
/-- the entries that are kept, or still to come -/
def Fs (all : Nat) (l : List Ent) (seen : Array Nat) : List Ent := l.filter fun x => !seen.contains x.s || keepV all x.v
/-- how many are still to come -/
def toCome (l : List Ent) (seen : Array Nat) : Nat := (l.filter fun x => !seen.contains x.s).length
theorem Fs_start (all : Nat) (l : List Ent) : Fs all l #[] = l := by
  unfold Fs
  rw [List.filter_eq_self]
  intro x _
  simp
theorem Fs_end {all : Nat} {l : List Ent} {seen : Array Nat} (h : toCome l seen = 0) : Fs all l seen = l.filter fun x => keepV all x.v := by
  unfold toCome at h
  have h := List.filter_eq_nil_iff.1 (List.length_eq_zero_iff.1 h)
  unfold Fs
  refine List.filter_congr fun x hx => ?_
  have := h x hx
  simp only [Bool.not_eq_true] at this
  rw [this, Bool.false_or]
theorem mem_seen_push (seen : Array Nat) (s t : Nat) : (seen.push s).contains t = (seen.contains t || t == s) := by
  rw [Array.contains_push, Bool.or_comm]
theorem Fs_stays {all : Nat} {l : List Ent} {seen : Array Nat} (hn : (l.map (·.s)).Nodup) {e : Ent} (he : e ∈ l) (hk : keepV all e.v = true) : Fs all l (seen.push e.s) = Fs all l seen := by
  unfold Fs
  refine List.filter_congr fun x hx => ?_
  rw [mem_seen_push]
  by_cases hs : x.s = e.s
  · have : x = e := by
      obtain ⟨i, hi⟩ := List.mem_iff_getElem?.1 hx
      obtain ⟨j, hj⟩ := List.mem_iff_getElem?.1 he
      have := nodup_idx hn (x := x.s) (by rw [List.getElem?_map, hi]; rfl) (by rw [List.getElem?_map, hj, hs]; rfl)
      subst this
      rw [hi] at hj
      injection hj
    subst this
    simp [hk]
  · have : (x.s == e.s) = false := by simpa using hs
    rw [this, Bool.or_false]
theorem Fs_goes {all : Nat} {l : List Ent} {seen : Array Nat} (hn : (l.map (·.s)).Nodup) {e : Ent} (he : e ∈ l) (hk : keepV all e.v = false) : Fs all l (seen.push e.s) = (Fs all l seen).filter fun y => !(y.s == e.s) := by
  unfold Fs
  rw [List.filter_filter]
  refine List.filter_congr fun x hx => ?_
  rw [mem_seen_push]
  by_cases hs : x.s = e.s
  · have : x = e := by
      obtain ⟨i, hi⟩ := List.mem_iff_getElem?.1 hx
      obtain ⟨j, hj⟩ := List.mem_iff_getElem?.1 he
      have := nodup_idx hn (x := x.s) (by rw [List.getElem?_map, hi]; rfl) (by rw [List.getElem?_map, hj, hs]; rfl)
      subst this
      rw [hi] at hj
      injection hj
    subst this
    simp [hk]
  · have : (x.s == e.s) = false := by simpa using hs
    simp [this]
theorem toCome_push {l : List Ent} {seen : Array Nat} {e : Ent} (he : e ∈ l) (hs : seen.contains e.s = false) : toCome l (seen.push e.s) < toCome l seen := by
  unfold toCome
  have h1 : l.filter (fun x => !(seen.push e.s).contains x.s) = (l.filter fun x => !seen.contains x.s).filter fun x => !(x.s == e.s) := by
    rw [List.filter_filter]
    refine List.filter_congr fun x _ => ?_
    rw [mem_seen_push]
    cases seen.contains x.s <;> cases (x.s == e.s) <;> rfl
  rw [h1]
  refine Nat.lt_of_le_of_ne (List.length_filter_le _ _) fun h => ?_
  have := List.length_filter_eq_length_iff.1 h e (List.mem_filter.2 ⟨he, by show (!seen.contains e.s) = true; rw [hs]; rfl⟩)
  simp at this
theorem leftOf_len (all : Nat) (l : List Ent) (seen : Array Nat) : (leftOf ((Fs all l seen).map entOf).toArray seen).size = toCome l seen := by
  unfold leftOf toCome Fs
  have h : (Array.filter (fun e : MapEntry => !seen.contains e.born) (((l.filter fun x => !seen.contains x.s || keepV all x.v).map entOf).toArray)) = ((l.filter fun x => !seen.contains x.s).map entOf).toArray := by
    rw [List.filter_toArray, List.filter_map, List.filter_filter]
    congr 2
    refine List.filter_congr fun x _ => ?_
    simp only [Function.comp, entOf]
    cases seen.contains x.s <;> simp
  rw [h]
  simp

/-- how many entries a range is still to hand out -/
def leftM (W : World) (g r : Nat) : Nat := match W.heap[g]?, W.heap[r]? with
  | some (.map es _), some (.mapIter _ _ seen _) => (leftOf es seen).size
  | _, _ => 0
theorem leftM_eq {W : World} {g r all cl : Nat} {l : List Ent} {seen : Array Nat} (hm : MapL W g (Fs all l seen) cl) (hr : W.heap[r]? = some (.mapIter (some g) cl seen cl)) : leftM W g r = toCome l seen := by
  unfold leftM
  rw [hm.1, hr]
  exact leftOf_len all l seen
theorem setBlock_grown {W : World} {r : Nat} (o : Obj) : W.grownBy (setBlock W r o) (some r) :=
  ⟨rfl, rfl, rfl, by simp [setBlock], fun k hk hne => by simp only [setBlock]; rw [Array.getElem?_setIfInBounds_ne (fun e => hne (by rw [e]))]⟩
theorem setBlock_at {W : World} {r : Nat} (h : r < W.heap.size) (o : Obj) : (setBlock W r o).heap[r]? = some o := by simp [setBlock, h]

def pcell (p : St × St) : Nat → Value
  | 0 => .int .i64 p.1.p
  | 1 => .bool p.1.t
  | 2 => .int .i64 p.2.p
  | _ => .bool p.2.t
/-- a list of pairs and an error are returned -/
def PrPost (w : World) (m : List (St × St) × Int) (r : Ending) (w' : World) : Prop :=
  ∃ A cap, r = .returned (.tuple #[.slice A m.1.length cap, .int .i64 m.2]) ∧ Arr w' w'.heap.size 4 (.slice A m.1.length cap) m.1 pcell ∧ Below w.heap.size w w'
theorem PrPost.nil_ {w w' : World} {e : Int} (h : Below w.heap.size w w') {m : List (St × St) × Int} (hm : m = ([], e)) : PrPost w m (.returned (.tuple #[.slice none 0 0, .int .i64 e])) w' := by
  subst hm
  exact ⟨none, 0, rfl, Arr.nil_, h⟩
/-- the pairs of a table of counts, as far as looked at -/
def rowL (c : Cyl) (Q : Nat → Nat → Nat) (i k : Nat) : List (St × St) := ((List.range k).filter fun k => decide (0 < Q i k)).map fun k => (stepAt c i, stepAt c k)
def passTo (c : Cyl) (Q : Nat → Nat → Nat) (i : Nat) : List (St × St) := (List.range i).flatMap fun i => rowL c Q i (stepsOf c).length
def passM (c : Cyl) : List (St × St) × Int := if checkCyl c ≠ 0 then ([], checkCyl c) else if (joinsN c).length = 0 then ([], 5) else (passTo c (pKeep (pOut c (stepsOf c).length) (joinsN c).length) (stepsOf c).length, 0)
theorem rowL_succ (c : Cyl) (Q : Nat → Nat → Nat) (i k : Nat) : rowL c Q i (k + 1) = rowL c Q i k ++ if 0 < Q i k then [(stepAt c i, stepAt c k)] else [] := by
  unfold rowL
  rw [List.range_succ, List.filter_append, List.map_append]
  congr 1
  simp only [List.filter_cons, List.filter_nil, decide_eq_true_eq]
  split <;> rfl
theorem passTo_succ (c : Cyl) (Q : Nat → Nat → Nat) (i : Nat) : passTo c Q (i + 1) = passTo c Q i ++ rowL c Q i (stepsOf c).length := by
  unfold passTo
  rw [List.range_succ, List.flatMap_append]
  simp
theorem rowL_len (c : Cyl) (Q : Nat → Nat → Nat) (i k : Nat) : (rowL c Q i k).length ≤ k := by
  unfold rowL
  rw [List.length_map]
  exact Nat.le_trans (List.length_filter_le _ _) (by simp)
theorem passTo_len (c : Cyl) (Q : Nat → Nat → Nat) : ∀ i, (passTo c Q i).length ≤ i * (stepsOf c).length
  | 0 => by simp [passTo]
  | i + 1 => by
    have h1 := passTo_len c Q i
    have h2 := rowL_len c Q i (stepsOf c).length
    rw [passTo_succ, List.length_append, Nat.succ_mul]
    omega
theorem TF.stepAt_ {W : World} {x : TX} {c : Cyl} (h : TF W x c) {k : Nat} (hk : k < (stepsOf c).length) :
    ∃ t : Bool, stepAt c k = ⟨(pieceN c k : Int), t⟩ ∧ W.cell? ⟨x.sb, x.so + k * 2, none⟩ = some (.int .i64 (pieceN c k : Int)) ∧ W.cell? ⟨x.sb, x.so + k * 2 + 1, none⟩ = some (.bool t) := by
  obtain ⟨s, h1, h2, h3, h4⟩ := h.step hk
  obtain ⟨a, b⟩ := s
  simp only at h2 h4
  subst h2
  exact ⟨b, by unfold stepAt; rw [h1]; rfl, h3, h4⟩
theorem slT_jp : SlT 46 57 4 32 (.agg #[.int .i64 0, .bool false, .int .i64 0, .bool false]) := ⟨Try.underlying46, by kernel_rfl, rfl, by omega⟩
theorem one_jp {k : IntKind} {n m : Int} {b d : Bool} : ∀ u ∈ (#[Value.int k n, Value.bool b, Value.int k m, Value.bool d] : Array Value).toList, u.oneCell' = true := by simp [Value.oneCell']

set_option maxRecDepth 100000 in
set_option maxHeartbeats 1600000 in
theorem passages_ok (v : Value) (c : Cyl) (w : World) (hv : CylV w w.heap.size v c) :
    Calls Try.prog 30 #[v] w (PrPost w (passM c)) := by
  obtain ⟨pa, pc, rfl, hp⟩ := hv.open_
  have hC := CB.new hp
  have hB := (Below.refl w.heap.size w).alloc (Nat.le_refl _) (.cells #[.slice pa c.pcs.length pc, .int .i64 c.off, .int .i64 c.slo, .int .i64 c.shi] 26)
  go_enter Try.func30, Try.ntmps30
  go_upto_region 1 with (fail)
  have HWS : Hid ((w.alloc (.cells #[.slice pa c.pcs.length pc, .int .i64 c.off, .int .i64 c.slo, .int .i64 c.shi] 26)).heap.size = w.heap.size + 1) := by simp [Hid]
  generalize hW : w.alloc (.cells #[.slice pa c.pcs.length pc, .int .i64 c.off, .int .i64 c.slo, .int .i64 c.shi] 26) = W at *
  clear hW hp
  obtain ⟨k0, k1, k2, k3⟩ := hC.c4
  go_wp2_with fail
  refine (open_ok _ _ c [] W hC.cyl Arr.nil_).mono ?_
  rintro e w1 ⟨hb1, hpost⟩
  rw [openE_nil] at hpost
  have hgx := hB.size
  have hB1 := hB.trans (hb1.mono hB.size)
  clear k0 k1 k2 k3 hC hB hb1
  rcases hpost with ⟨hne, rfl⟩ | ⟨-, h0, x, rfl, hT, hga, hgu⟩
  · have d0 : (checkCyl c != 0) = true := by simp [hne]
    have HE : Hid (passM c = ([], checkCyl c)) := if_pos hne
    clear hne
    go_wp2
    exact bodyPost_ret (v := .tuple #[.slice none 0 0, .int .i64 (checkCyl c)]) (by simp [results, Try.results30, go_sem]) rfl (PrPost.nil_ hB1 HE.out)
  · have HE : Hid (passM c = if (joinsN c).length = 0 then ([], 5) else (passTo c (pKeep (pOut c (stepsOf c).length) (joinsN c).length) (stepsOf c).length, 0)) := if_neg (by simp [h0])
    clear h0
    go_wp2_with fail
    refine (all_ok x c w1 hT).mono ?_
    rintro e w2 ⟨rfl, hT2, hC2⟩
    have hB2 : Below w.heap.size w w2 := hB1.trans (hC2.below hB1.size (by omega) (by omega))
    obtain ⟨all, hall⟩ : ∃ all, all = (joinsN c).length := ⟨_, rfl⟩
    rw [← hall] at HE ⊢
    have HALLN := Lib.hid hall
    clear hall hT hB1 hC2
    by_cases h1 : all = 0
    · have d1 : ((all : Int) == 0) = true := by simp [h1]
      have HE2 : Hid (passM c = ([], 5)) := by rw [Hid, HE.out, if_pos h1]
      clear h1
      go_wp2
      exact bodyPost_ret (v := .tuple #[.slice none 0 0, .int .i64 5]) (by simp [results, Try.results30, go_sem]) rfl (PrPost.nil_ hB2 HE2.out)
    · have d1 : ((all : Int) == 0) = false := by simp [h1]
      have HE2 : Hid (passM c = (passTo c (pKeep (pOut c (stepsOf c).length) all) (stepsOf c).length, 0)) := by rw [Hid, HE.out, if_neg h1]
      clear HE
      go_wp2_with fail
      refine (pairs_ok x c w2 hT2).mono ?_
      rintro e w3 ⟨rfl, ⟨l0, cl, hml, hmr⟩, hT3, hC3, hgm, hNg⟩
      have hB3 : Below w.heap.size w w3 := hB2.trans (hC3.below hB2.size (by omega) (by omega))
      have hwg := hB2.size
      clear hC3 hB2 hT2
      have hgN : x.N ≤ w2.heap.size + 1 ∧ w.heap.size ≤ w2.heap.size + 1 := ⟨by omega, by omega⟩
      generalize w2.heap.size + 1 = gm at *
      have hrg : (Instr.range 100 (.map (some gm))).run Try.prog w3 = .ok (.pointer (some ⟨w3.heap.size, 0, none⟩)) (w3.alloc (.mapIter (some gm) cl #[] cl)) := by
        simp [Instr.range, run_underlying Try.underlying100, MapKept.run_getObj_map hml.1, Result.andThen, newObj, Sem.run]
      go_wp2
      have hit0 : (w3.alloc (.mapIter (some gm) cl #[] cl)).heap[w3.heap.size]? = some (.mapIter (some gm) cl #[] cl) := World.alloc_heap_new _ _
      have hml0 := hml.heap (w' := w3.alloc (.mapIter (some gm) cl #[] cl)) (Below.heap_alloc _ _ _ hgm)
      have hg0 := World.grownBy_alloc w3 (.mapIter (some gm) cl #[] cl) none
      have hkn := hml.2.2.2
      have hsn := hml.2.2.1
      have HKN := Lib.hid hkn
      have HSN := Lib.hid hsn
      have HMR := Lib.hid hmr
      clear hkn hsn hmr hrg
      go_loopw [9] (fun _ wr => ∃ seen : Array Nat, wr.heap[w3.heap.size]? = some (.mapIter (some gm) cl seen cl) ∧ MapL wr gm (Fs all l0 seen) cl ∧ w3.grownBy wr (some gm)) (fun _ wr => leftM wr gm w3.heap.size)
      case atStart => exact ⟨#[], hit0, by rw [Fs_start]; exact hml0, ⟨hg0.os, hg0.tape, hg0.output, hg0.size, fun k hk _ => hg0.block k hk (by simp)⟩⟩
      case round =>
        obtain ⟨seen, hit, hmw, hgw⟩ := hrel
        clear hit0 hml0 hg0
        have hgwr : gm < wr.heap.size := hmw.lt
        have hitl : w3.heap.size < wr.heap.size := (Array.getElem?_eq_some_iff.1 hit).1
        have hmeas := leftM_eq hmw hit
        rcases run_next_at (P := Try.prog) wr 0 w3.heap.size gm cl cl seen _ cl hit hmw.1 (fun y hy => by
          obtain ⟨z, hz, rfl⟩ := List.mem_map.1 (by simpa using hy)
          exact hmw.2.1 z hz) (Nat.le_refl _) with ⟨hl0, hnx⟩ | ⟨e, he, v1, hv1, hnx⟩
        · rw [leftOf_len] at hl0
          rw [Fs_end hl0] at hmw
          clear hit hmeas hl0
          have hMP : MapPt wr gm (pKeep (pOut c (stepsOf c).length) all) := ⟨_, _, hmw, fun a b => by rw [readL_filter HKN.out, HMR.out, mapP_keep]⟩
          have hTr : TB wr x c := hT3.grown hgw (fun ρ e => by injection e; omega)
          have hBr : Below w.heap.size w wr := hB3.grown hgw hB3.size (fun ρ e => by injection e; omega)
          have h16 := hTr.f.small
          obtain ⟨Q, hQ⟩ : ∃ Q, Q = pKeep (pOut c (stepsOf c).length) all := ⟨_, rfl⟩
          rw [← hQ] at hMP HE2
          obtain ⟨wz, rfl⟩ : ∃ wz : World, wz = wr := ⟨wr, rfl⟩
          have q4 := hTr.f.tc.c5.2.2.2.2
          clear hmw hgw hQ hml HKN HSN HMR HALLN hT3 hB3
          go_wp2
          go_loopw [10, 46] (fun out i wr => ∃ (k : Nat) (A : Option Addr) (cap : Nat), k ≤ (stepsOf c).length ∧ i = .int .i64 k ∧ out = .slice A (passTo c Q k).length cap ∧ wr.ownsRow wz.heap.size 57 4 (.slice A (passTo c Q k).length cap) (passTo c Q k).length ((passTo c Q k).flatMap (cellsOf 4 pcell)) ∧ Below wz.heap.size wz wr) (fun _ i _ => (stepsOf c).length - (intOf i).toNat)
          case atStart => exact ⟨0, none, 0, Nat.zero_le _, rfl, rfl, by simpa [passTo] using World.ownsRow_nil _ _ _ _, Below.refl _ _⟩
          case round =>
            obtain ⟨i, A, cap, hi, rfl, rfl, hown, hb⟩ := hrel
            clear q4
            have hTi := hTr.call hb
            by_cases hlt : i < (stepsOf c).length
            · have d4 : decide (i < (stepsOf c).length) = true := by simpa using hlt
              have d4' : decide ((i : Int) < ((stepsOf c).length : Int)) = true := by simp; omega
              obtain ⟨ti, hsi, s0, s1⟩ := hTi.f.stepAt_ hlt
              have q4 := hTi.f.tc.c5.2.2.2.2
              have HSI := Lib.hid hsi
              clear hsi
              go_upto_region 17 with (fail)
              have hX := Blk.new wr 28 #[.int .i64 (pieceN c i : Int), .bool ti]
              have hbA := (Below.refl wr.heap.size wr).alloc (Nat.le_refl _) (.cells #[.int .i64 (pieceN c i : Int), .bool ti] 28)
              have hown1 := own_call hown hbA
              have hb1 := hb.trans (hbA.mono hb.size)
              have hsz := hb.size
              clear hown hb hbA hTi q4 s0 s1
              generalize wr.alloc (.cells #[.int .i64 (pieceN c i : Int), .bool ti] 28) = w2 at *
              generalize wr.heap.size = xb at *
              have q4 := (hTr.call hb1).f.tc.c5.2.2.2.2
              have hpl := passTo_len c Q i
              go_wp2
              go_loopw [10, 56] (fun out k' wr => ∃ (k : Nat) (A : Option Addr) (cap : Nat), k ≤ (stepsOf c).length ∧ k' = .int .i64 k ∧ out = .slice A (passTo c Q i ++ rowL c Q i k).length cap ∧ wr.ownsRow wz.heap.size 57 4 (.slice A (passTo c Q i ++ rowL c Q i k).length cap) (passTo c Q i ++ rowL c Q i k).length ((passTo c Q i ++ rowL c Q i k).flatMap (cellsOf 4 pcell)) ∧ Blk wr xb 28 #[.int .i64 (pieceN c i : Int), .bool ti] ∧ Below wz.heap.size wz wr) (fun _ k' _ => (stepsOf c).length - (intOf k').toNat)
              case atStart => exact ⟨0, A, cap, Nat.zero_le _, rfl, by simp [rowL], by simpa [rowL] using hown1, hX, hb1⟩
              case round =>
                obtain ⟨k, A, cap, hk, rfl, rfl, hown, hX, hb⟩ := hrel
                clear q4 hown1
                have hTk := hTr.call hb
                by_cases hlk : k < (stepsOf c).length
                · have d5 : decide (k < (stepsOf c).length) = true := by simpa using hlk
                  have d5' : decide ((k : Int) < ((stepsOf c).length : Int)) = true := by simp; omega
                  obtain ⟨tk, hsk, s0, s1⟩ := hTk.f.stepAt_ hlk
                  have q4 := hTk.f.tc.c5.2.2.2.2
                  have HSK := Lib.hid hsk
                  clear hsk
                  go_upto_region 20 with (fail)
                  have hY := Blk.new wr 28 #[.int .i64 (pieceN c k : Int), .bool tk]
                  have hbA := (Below.refl wr.heap.size wr).alloc (Nat.le_refl _) (.cells #[.int .i64 (pieceN c k : Int), .bool tk] 28)
                  have hown1 := own_call hown hbA
                  have hX1 := hX.call hbA
                  have hb2 := hb.trans (hbA.mono hb.size)
                  have hsz2 := hb.size
                  clear hown hb hbA hX hTk q4 s0 s1
                  generalize wr.alloc (.cells #[.int .i64 (pieceN c k : Int), .bool tk] 28) = w3' at *
                  generalize wr.heap.size = yb at *
                  have hMk := hMP.heap (hb2.block gm hgwr)
                  obtain ⟨lm, clm, hml, hmr⟩ := hMk
                  have hlk1 := hml.of.lookup1 keyPair Try.underlying100 (i : Int) (k : Int) (z := .int .i64 0) (by kernel_rfl)
                  rw [hmr, mapP_nat] at hlk1
                  have hrs := rowL_succ c Q i k
                  have hrl := rowL_len c Q i k
                  have hcap := own_cap hown1
                  clear hml hmr
                  by_cases hq : 0 < Q i k
                  · have d6 : decide ((0 : Int) < (Q i k : Int)) = true := by simp; omega
                    have d6' : decide (0 < Q i k) = true := by simpa using hq
                    rw [if_pos hq] at hrs
                    have HRS : Hid (passTo c Q i ++ rowL c Q i (k + 1) = (passTo c Q i ++ rowL c Q i k) ++ [(stepAt c i, stepAt c k)]) := by rw [Hid, hrs, List.append_assoc]
                    clear hrs hq
                    have hLl : (passTo c Q i ++ rowL c Q i k).length ≤ 1000 := by
                      rw [List.length_append]
                      have : i * (stepsOf c).length ≤ 16 * 16 := Nat.mul_le_mul (by omega) h16
                      omega
                    generalize passTo c Q i ++ rowL c Q i k = L at *
                    have x0 := hX1.cell 0
                    have x1 := hX1.cell 1
                    have y0 := hY.cell 0
                    have y1 := hY.cell 1
                    simp at x0 x1 y0 y1
                    clear hpl hrl
                    go_wp2_with (at_builtin; refine wpList_app1 slT_jp rfl (.tmp 67) (.tmp 71) rfl (A := A) (cc := cap) rfl ⟨cap, hown1, .inl rfl⟩ rfl rfl one_jp hb2.size ?_ ?_ ?_)
                    any_goals omega
                    intro v' w4 hown4 hb4 hkeep
                    have hown5 := own_snoc (cell := pcell) (x := (stepAt c i, stepAt c k)) (vals := #[.int .i64 (pieceN c i : Int), .bool ti, .int .i64 (pieceN c k : Int), .bool tk]) rfl (by rw [HSI.out, HSK.out]; simp [cellsOf, List.range_succ, pcell]) hown4
                    rw [← HRS.out] at hown5
                    obtain ⟨A', cap', rfl⟩ := own_form hown5
                    have hX4 : Blk w4 xb 28 #[.int .i64 (pieceN c i : Int), .bool ti] := (hkeep _ hX1.lt (own_ad_ne (own_blk_ne hown1 hX1 (by decide)))).trans hX1
                    have hb5 := hb2.trans hb4
                    clear hkeep hown4 hown1 hb4 hX1 hY hcap
                    go_wp2
                    go_roundw
                    case rel => exact ⟨k + 1, A', cap', by omega, by go_num, rfl, hown5, hX4, hb5⟩
                    case measure => (simp [intOf]; try omega)
                  · have d6 : decide ((0 : Int) < (Q i k : Int)) = false := by simp; omega
                    have d6' : decide (0 < Q i k) = false := by simpa using hq
                    rw [if_neg hq, List.append_nil] at hrs
                    have HRS := Lib.hid hrs
                    clear hrs hq
                    go_wp2
                    go_roundw
                    case rel => exact ⟨k + 1, A, cap, by omega, by go_num, by rw [HRS.out], by rw [HRS.out]; exact hown1, hX1, hb2⟩
                    case measure => (simp [intOf]; try omega)
                · obtain rfl : k = (stepsOf c).length := by omega
                  have d5 : decide ((stepsOf c).length < (stepsOf c).length) = false := by simp
                  have HPS := Lib.hid (passTo_succ c Q i)
                  go_wp2
                  go_roundw
                  case rel => exact ⟨i + 1, A, cap, by omega, by go_num, by rw [HPS.out], by rw [HPS.out]; exact hown, hb⟩
                  case measure => (simp [intOf]; try omega)
            · obtain rfl : i = (stepsOf c).length := by omega
              have d4 : decide ((stepsOf c).length < (stepsOf c).length) = false := by simp
              have hBf := hBr.trans (hb.mono hBr.size)
              go_wp2
              refine bodyPost_ret (v := .tuple #[.slice A (passTo c Q (stepsOf c).length).length cap, .int .i64 0]) (by simp [results, Try.results30, go_sem]) rfl ?_
              rw [HE2.out]
              exact ⟨A, cap, rfl, Arr.of_own hown, hBf⟩
        · obtain ⟨he1, he2⟩ := mem_left he
          obtain ⟨y, hy, rfl⟩ := List.mem_map.1 (by simpa using he1)
          have hyl : y ∈ l0 := (List.mem_filter.1 hy).1
          obtain ⟨hya, hyb, hyp, hyv⟩ := ent_of HKN.out HMR.out hyl
          obtain ⟨n, hn⟩ : ∃ n, n = pOut c (stepsOf c).length y.a.toNat y.b.toNat := ⟨_, rfl⟩
          rw [← hn] at hyv
          have hne : w3.heap.size ≠ gm := by omega
          have hv1s : w3.heap.size < v1.heap.size := by rcases hv1 with rfl | rfl <;> exact hitl
          have hg1 : wr.grownBy (setBlock v1 w3.heap.size (.mapIter (some gm) cl (seen.push (entOf y).born) cl)) (some w3.heap.size) := by
            rcases hv1 with rfl | rfl
            · exact setBlock_grown _
            · exact grown_trans' (grown_call (Below.refl _ wr).drew _) (setBlock_grown _)
          have hitV := setBlock_at hv1s (.mapIter (some gm) cl (seen.push (entOf y).born) cl)
          have hmV := hmw.heap (hg1.block gm hgwr (fun e => by injection e; omega))
          have hen := run_entry_at (P := Try.prog) _ w3.heap.size gm cl seen _ cl (entOf y) hitV hmV.1 (by simpa using ⟨y, hy, rfl⟩) (by
            have := hmV.2.2.1
            simpa [Function.comp_def, entOf] using this)
          have hgV : w3.grownBy (setBlock v1 w3.heap.size (.mapIter (some gm) cl (seen.push (entOf y).born) cl)) (some gm) := grown_new hgw hg1 (Nat.le_refl _)
          have hyF : y ∈ Fs all l0 seen := hy
          have hnx' : (Instr.next (.pointer (some ⟨w3.heap.size, 0, none⟩)) false 0).run Try.prog wr = .ok (.tuple #[.bool true, .agg #[.int .i64 y.a, .int .i64 y.b], .int .i64 (n : Int)]) (setBlock v1 w3.heap.size (.mapIter (some gm) cl (seen.push (entOf y).born) cl)) := by
            rw [hnx]; rw [← hyv]; rfl
          have hen' : (Instr.entry (.pointer (some ⟨w3.heap.size, 0, none⟩))).run Try.prog (setBlock v1 w3.heap.size (.mapIter (some gm) cl (seen.push (entOf y).born) cl)) = .ok (.tuple #[.agg #[.int .i64 y.a, .int .i64 y.b], .int .i64 (n : Int)]) (setBlock v1 w3.heap.size (.mapIter (some gm) cl (seen.push (entOf y).born) cl)) := by
            rw [hen]; rw [← hyv]; rfl
          have hkv : keepV all y.v = decide ((all : Int) ≤ (n : Int)) := by rw [hyv]; rfl
          have hseen : seen.contains y.s = false := he2
          have hpush := toCome_push hyl hseen
          have hsp : (entOf y).born = y.s := rfl
          rw [hsp] at hnx' hen' hitV hmV hgV
          clear hnx hen hg1 hv1 hv1s he he1 he2 hy hyv hn hmw hit hgw
          go_upto_region 11 with (fail)
          have hVs := hgV.size
          have hitVl := (Array.getElem?_eq_some_iff.1 hitV).1
          have hgVl := hmV.lt
          generalize setBlock v1 w3.heap.size (.mapIter (some gm) cl (seen.push y.s) cl) = V at *
          have hx8 := Blk.new V 103 #[.int .i64 y.a, .int .i64 y.b]
          have hbA := (Below.refl V.heap.size V).alloc (Nat.le_refl _) (.cells #[.int .i64 y.a, .int .i64 y.b] 103)
          have hit8 := (hbA.block _ hitVl).trans hitV
          have hm8 := hmV.heap (hbA.block _ hgVl)
          have hg8 := grown_trans' hgV (grown_call hbA (some gm))
          clear hitV hmV hgV hbA hnx' hen'
          generalize V.alloc (.cells #[.int .i64 y.a, .int .i64 y.b] 103) = W8 at *
          generalize V.heap.size = vb at *
          have x0 := hx8.cell 0
          have x1 := hx8.cell 1
          simp at x0 x1
          by_cases hc : n < all
          · have d5 : decide ((n : Int) < (all : Int)) = true := by simp; omega
            have d5' : decide (n < all) = true := by simpa using hc
            have hkf : keepV all y.v = false := by rw [hkv]; simp; omega
            obtain ⟨es9, hdel, hm9⟩ := hm8.del keyPair Try.underlying100 hyF 0 #[100, 103] rfl
            rw [← Fs_goes HSN.out hyl hkf] at hm9
            have hgr9 : W8.grownBy (putMap W8 gm es9 cl) (some gm) := grown_put es9 cl
            have hit9 := (hgr9.block w3.heap.size (Array.getElem?_eq_some_iff.1 hit8).1 (fun e => by injection e with e; omega)).trans hit8
            have hg9 := grown_trans' hg8 hgr9
            have hle9 := leftM_eq hm9 hit9
            clear hc hkv hkf hm8 hit8 hg8 hgr9
            go_wp2
            go_roundw
            case rel => exact ⟨seen.push y.s, hit9, hm9, hg9⟩
            case measure => rw [hle9, hmeas]; exact hpush
          · have d5 : decide ((n : Int) < (all : Int)) = false := by simp; omega
            have d5' : decide (n < all) = false := by simpa using hc
            have hkf : keepV all y.v = true := by rw [hkv]; simp; omega
            rw [← Fs_stays HSN.out hyl hkf] at hm8
            have hle8 := leftM_eq hm8 hit8
            clear hc hkv hkf
            go_wp2
            go_roundw
            case rel => exact ⟨seen.push y.s, hit8, hm8, hg8⟩
            case measure => rw [hle8, hmeas]; exact hpush
end Go.Proofs.Ytjjjockfppomdaa
