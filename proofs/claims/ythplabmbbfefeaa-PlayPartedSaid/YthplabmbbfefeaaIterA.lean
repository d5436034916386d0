/- Contracts: slices.Contains at []int; the method stretches, and the contract of its iterator. -/
import Derived.Test.YthplabmbbfefeaaBoardB
import Derived.Test.YthplabmbbfefeaaSched
namespace Go.Proofs.Ythplabmbbfefeaa
open Go.RowKit Go.Shelf
set_option linter.unusedVariables false

theorem index_int_ok (sv : Value) (l : List Int) (v : Int) (w : World) (hs : Arr w w.heap.size 1 sv l icell) :
    Calls Try.prog 77 #[sv, .int .i64 v] w fun r w' => r = .returned (.int .i64 (idxOf (fun x => v == x) 0 l)) ∧ Below w.heap.size w w' := by
  obtain ⟨A, c, rfl, hn, hc, hcell⟩ := hs
  go_enter Try.func77, Try.ntmps77
  go_wp2
  go_loopw [5, 8] (fun x i wr => ∃ k : Nat, k ≤ l.length ∧ i = .int .i64 k ∧ idxOf (fun x => v == x) 0 l = idxOf (fun x => v == x) k (l.drop k) ∧ Below w.heap.size w wr) (fun _ i _ => l.length - (intOf i).toNat)
  case atStart => exact ⟨0, Nat.zero_le _, rfl, rfl, Below.refl _ _⟩
  case round =>
    obtain ⟨k, hk, rfl, hf, hb⟩ := hrel
    by_cases hlt : k < l.length
    · obtain ⟨b, off, rfl, hB, hcc⟩ := hcell (by omega)
      obtain ⟨x, hx⟩ : ∃ x, l[k]? = some x := ⟨l[k], List.getElem?_eq_getElem hlt⟩
      have hce := (hb.cell (p := ⟨b, off + k*1+0, none⟩) hB).trans (hcc k x hx 0 (by omega))
      simp only [Nat.mul_one, Nat.add_zero] at hce
      rw [idxOf_drop _ l k x hx] at hf
      have H := Lib.hid hf; clear hf
      clear hcc hcell hx
      by_cases hv : v = x
      · have h1 : (v == x) = true := by simpa using hv
        have HV : Hid ((v == x) = true) := h1
        go_wp2
        go_ret
        exact ⟨ret_i (by rw [H.out]; simp [HV.out]), hb⟩
      · have h1 : (v == x) = false := by simpa using hv
        have HV : Hid ((v == x) = false) := h1
        go_wp2
        go_roundw
        case rel => exact ⟨k+1, by omega, by go_num, by rw [H.out]; simp [HV.out], hb⟩
        case measure => (simp [intOf]; try omega)
    · obtain rfl : k = l.length := by omega
      have H := Lib.hid hf; clear hf
      go_wp2
      go_ret
      exact ⟨by rw [H.out]; simp [idxOf], hb⟩

theorem contains_int_ok (sv : Value) (l : List Int) (v : Int) (w : World) (hs : Arr w w.heap.size 1 sv l icell) :
    Calls Try.prog 76 #[sv, .int .i64 v] w fun r w' => r = .returned (.bool (l.any fun x => v == x)) ∧ Below w.heap.size w w' := by
  have hi := index_int_ok sv l v w hs
  have HD := Lib.hid (idxOf_nonneg (fun x => v == x) l 0)
  clear hs
  go_enter Try.func76, Try.ntmps76
  go_wp2_with (go_at_call 77; refine hi.mono ?_; rintro e w1 ⟨rfl, hb1⟩)
  go_ret
  exact ⟨by rw [← HD.out]; simp, hb1⟩

theorem stretches_ok (g : Nat) (w : World) :
    Calls Try.prog 65 #[.pointer (some ⟨g, 0, none⟩)] w fun r w' => r = .returned (.func (.func 75) #[] #[.pointer (some ⟨w.heap.size, 0, none⟩)]) ∧ w.alloc (.cells #[.pointer (some ⟨g, 0, none⟩)] 78) = w' := by
  go_enter Try.func65, Try.ntmps65
  go_wp2
  go_ret
  exact ⟨rfl, rfl⟩

/-- what a round of a range over the stretches keeps: the board, the box that points to it, and what lay before them -/
def KeepsBoard (g gb : Nat) (W W' : World) : Prop := ∀ k, k ≤ g ∨ k = gb → W'.heap[k]? = W.heap[k]?

theorem grown_of_below {w w' : World} (h : Below w.heap.size w w') : w.grownBy w' none := ⟨h.os, h.tape, h.output, h.size, fun k hk _ => h.block k hk⟩

def encStr (T : Nat) (s : VStr T) : Array Value := #[.agg #[.int .i64 s.1.a, .int .i64 s.1.b]]

attribute [local go_sem] Oper.semAt_some
set_option maxRecDepth 100000 in
set_option maxHeartbeats 1600000 in
theorem stretches_stops (n B g gb : Nat) (c : Cyl) (fa pa : Option Addr) (fc pc : Nat) (V : Nat → Nat → Int) (m : Value) (T : Nat) (hT : c.turns = T) (hT2 : T ≤ 30) (hL : c.long ≤ 30) (w : World)
    (hbd : Board w B g c fa fc pa pc V m) (hx : Blk w gb 78 #[.pointer (some ⟨g, 0, none⟩)]) :
    SeqStopsK Fence.wide (n + 3) Try.prog 75 #[.pointer (some ⟨gb, 0, none⟩)] (encStr T) (KeepsBoard g gb) (fun xs => xs.map (·.1) = allStr c T) (fun pre => pre.map (·.1) <+: allStr c T) (allStr c T).length w := by
  intro l J Jx W hW hJ hJx hY h0
  have hbW := hbd.call hW
  have hxW := hx.call hW
  have HT := Lib.hid hT
  refine callsIn_of_wp Try.func75 rfl trivial ?_ rfl
  simp only [Try.ntmps75, List.size_toArray, List.length_cons, List.length_nil, Nat.reduceAdd, Nat.reduceSub, Array.replicate_succ, Array.replicate_zero, List.push_toArray, List.append_toArray, List.nil_append, List.cons_append]
  obtain ⟨k0, k1, k2, k3, k4⟩ := hbW.c5
  have kx := hxW.cell 0
  simp at kx
  rw [hT] at k0
  clear hT
  have hfn : Fence.wide.fn 76 := trivial
  gi_wp2
  gi_loopw [3, 4, 10] (fun a b i wr => ∃ (k : Nat) (pre : List (VStr T)), k ≤ T ∧ i = .int .i64 k ∧ pre.map (·.1) = allStr c k ∧ J pre wr ∧ Board wr B g c fa fc pa pc V m ∧ Blk wr gb 78 #[.pointer (some ⟨g, 0, none⟩)]) (fun _ _ i _ => T - (intOf i).toNat)
  case atStart => exact ⟨0, [], by omega, rfl, rfl, h0, hbW, hxW⟩
  case round =>
    obtain ⟨k, pre0, hk, rfl, hp0, hJ0, hbr, hxr⟩ := hrel
    have HP0 := Lib.hid hp0
    clear hp0
    clear k0 k1 k2 k3 k4 kx
    obtain ⟨k0, k1, k2, k3, k4⟩ := hbr.c5
    rw [HT.out] at k0
    have kx := hxr.cell 0
    simp at kx
    by_cases hlt : k < T
    · obtain ⟨wo, rfl⟩ : ∃ wo : World, wo = wr := ⟨_, rfl⟩
      have hpre := allStr_le c (show k + 1 ≤ T by omega)
      gi_wp2
      gi_loopw [4] (fun f wr => ∃ (q : Nat) (pre : List (VStr T)), q ≤ k + 1 ∧ f = .int .i64 ((q : Int) - 1) ∧ pre.map (·.1) ++ strFrom c k q = allStr c (k + 1) ∧ J pre wr ∧ Board wr B g c fa fc pa pc V m ∧ Blk wr gb 78 #[.pointer (some ⟨g, 0, none⟩)]) (fun f _ => (intOf f + 1).toNat)
      case atStart => exact ⟨k + 1, pre0, by omega, by congr 1; omega, by rw [HP0.out]; rfl, hJ0, hbr, hxr⟩
      case round =>
        obtain ⟨q, pre, hq, rfl, hp, hJ1, hb1, hx1⟩ := hrel
        clear k0 k1 k2 k3 k4 kx
        obtain ⟨k0, k1, k2, k3, k4⟩ := hb1.c5
        have kx := hx1.cell 0
        simp at kx
        have HP := Lib.hid hp
        clear hp
        rcases q with _ | q
        · have hA : Hid (pre.map (·.1) = allStr c (k + 1)) := by rw [Hid, ← HP.out]; simp [strFrom]
          gi_wp2
          go_roundw
          case rel => exact ⟨k + 1, pre, by omega, by go_num, hA.out, hJ1, hb1, hx1⟩
          case measure => (simp [intOf]; try omega)
        · rw [show ((q + 1 : Nat) : Int) - 1 = (q : Int) by omega]
          by_cases hlg : (k : Int) - q < c.long
          · have hcon := contains_int_ok (.slice fa c.frag.length fc) c.frag q wr (hb1.fr.more (by have := hb1.le; have := hb1.blk.lt; omega))
            gi_wp2_with fail
            refine (callsIn_wide.2 hcon).mono ?_
            rintro e w2 ⟨rfl, hb2⟩
            have hJ2 := hJ pre wr w2 none hJ1 (grown_of_below hb2) (by simp)
            have hbd2 := hb1.call hb2
            have hx2 := hx1.call hb2
            clear k0 k1 k2 k3 k4 kx hcon
            obtain ⟨k0, k1, k2, k3, k4⟩ := hbd2.c5
            have kx := hx2.cell 0
            simp at kx
            cases hc : c.frag.any fun x => (q : Int) == x
            · have hA : Hid ((pre.map (·.1) ++ [⟨q, k⟩]) ++ strFrom c k q = allStr c (k + 1)) := by
                rw [Hid, ← HP.out]
                simp only [strFrom, hc]
                simp [hlg]
              have hlen : pre.length < (allStr c T).length := by
                have h1 := hpre.length_le
                rw [← hA.out] at h1
                simp at h1
                omega
              obtain ⟨fn, tmps, assign, body, hy, hR⟩ := hY pre ⟨⟨q, k⟩, by simp, by simp; omega, by simp; omega⟩ w2 hJ2 hlen
              dsimp only [encStr] at hy
              clear hc
              gi_wp2
              refine hR.mono ?_
              rintro e W3 (⟨rfl, hJ3, hk3⟩ | ⟨rfl, hJx3⟩)
              · have hbd3 := hbd2.same (W' := W3) (fun j hj => hk3 j (.inl hj))
                have hx3 : Blk W3 gb 78 #[.pointer (some ⟨g, 0, none⟩)] := (hk3 gb (.inr rfl)).trans hx2
                gi_wp2
                go_roundw
                case rel => exact ⟨q, _, by omega, rfl, by rw [List.map_append]; exact hA.out, hJ3, hbd3, hx3⟩
                case measure => (simp [intOf]; try omega)
              · gi_wp2
                refine bodyPost_ret (results_none rfl _ _ _) rfl ?_
                refine ⟨⟨_, rfl⟩, .inr ⟨_, List.IsPrefix.trans ⟨strFrom c k q, by rw [List.map_append]; exact hA.out⟩ hpre, hJx3⟩⟩
            · have hA : Hid (pre.map (·.1) = allStr c (k + 1)) := by
                rw [Hid, ← HP.out]
                simp only [strFrom, hc]
                simp
              clear hc
              gi_wp2
              go_roundw
              case rel => exact ⟨k + 1, pre, by omega, by go_num, hA.out, hJ2, hbd2, hx2⟩
              case measure => (simp [intOf]; try omega)
          · have hA : Hid (pre.map (·.1) = allStr c (k + 1)) := by
              rw [Hid, ← HP.out]
              simp only [strFrom]
              simp [hlg]
            gi_wp2
            go_roundw
            case rel => exact ⟨k + 1, pre, by omega, by go_num, hA.out, hJ1, hb1, hx1⟩
            case measure => (simp [intOf]; try omega)
    · obtain rfl : k = T := by omega
      gi_wp2
      go_end0
      exact ⟨⟨_, rfl⟩, .inl ⟨_, HP0.out, hJ0⟩⟩
end Go.Proofs.Ythplabmbbfefeaa
