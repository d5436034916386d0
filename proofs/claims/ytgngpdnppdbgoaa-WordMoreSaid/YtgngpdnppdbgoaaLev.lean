/- Contracts: levels, Matches, Levels. -/
import Derived.Test.YtgngpdnppdbgoaaWth
namespace Go.Proofs.Ytgngpdnppdbgoaa
open Go.RowKit Go.Shelf
set_option linter.unusedVariables false

theorem slT_i : SlT 38 3 1 8 (.int .i64 0) := ⟨Try.underlying38, by kernel_rfl, rfl, by omega⟩
theorem one_i (x : Int) : ∀ u ∈ (#[Value.int .i64 x] : Array Value).toList, u.oneCell' = true := by simp [Value.oneCell']
theorem flat_i (l : List Int) : l.flatMap (cellsOf 1 icell) = l.map (Value.int .i64) := by
  induction l with
  | nil => rfl
  | cons a r ih => rw [List.flatMap_cons, ih]; rfl
/-- the cells of a place in a row -/
theorem pl_at {w W : World} {B n c : Nat} {A : Option Addr} {ms : List (List Nat)} (h : Arr w B 4 (.slice A n c) ms plcell) (hb : ∀ p : Addr, p.block < B → W.cell? p = w.cell? p) {k : Nat} (hk : k < ms.length) :
    ∃ xb xo m, A = some ⟨xb, xo, none⟩ ∧ ms[k]? = some m ∧ xb < B ∧ W.cell? ⟨xb, xo + k * 4, none⟩ = some (.int .i64 (at0 m 0 : Int)) ∧ W.cell? ⟨xb, xo + k * 4 + 1, none⟩ = some (.int .i64 (at0 m 1 : Int)) ∧ W.cell? ⟨xb, xo + k * 4 + 2, none⟩ = some (.int .i64 (at0 m 2 : Int)) ∧ W.cell? ⟨xb, xo + k * 4 + 3, none⟩ = some (.int .i64 (at0 m 3 : Int)) := by
  obtain ⟨xb, xo, m, hA, hxb, hx1, hx2⟩ := h.at_ hk
  exact ⟨xb, xo, m, hA, hx1, hxb, (hb _ hxb).trans (hx2 0 (by omega)), (hb _ hxb).trans (hx2 1 (by omega)), (hb _ hxb).trans (hx2 2 (by omega)), (hb _ hxb).trans (hx2 3 (by omega))⟩
def lvsI (b : List (Int × Int)) (ls : List (List Int)) (ms : List (List Nat)) : List Int := ms.map fun m => (lvOf b ls m : Int)
theorem mats_ind {b : List (Int × Int)} {ls : List (List Int)} {m : List Nat} (hm : m ∈ matsOf b ls) : InDs (dsOf ls) m := by
  obtain ⟨⟨h1, h2⟩, -⟩ := mem_mats.1 hm
  exact ⟨h1, fun h hh => Nat.le_of_lt (h2 h hh)⟩
/-- what levels holds of the world -/
structure LevI (w : World) (B gs d gm : Nat) (b : List (Int × Int)) (ls : List (List Int)) (la : Option Addr) (lc : Nat) (av : Value) (W : World) : Prop where
  song : Song W B gs d b ls la lc av
  memo : MemoW b ls gm W
  bl : Below w.heap.size w W
section
variable {w W W' : World} {B gs d gm : Nat} {b : List (Int × Int)} {ls : List (List Int)} {la : Option Addr} {lc : Nat} {av : Value}
theorem LevI.call (h : LevI w B gs d gm b ls la lc av W) (hb : Below W.heap.size W W') : LevI w B gs d gm b ls la lc av W' := ⟨h.song.call hb, h.memo.call hb, h.bl.trans (hb.mono h.bl.size)⟩
theorem LevI.grown {row : Option Nat} (h : LevI w B gs d gm b ls la lc av W) (hg : W.grownBy W' row) (hr : ∀ r, row = some r → w.heap.size ≤ r) (hlo : B ≤ w.heap.size ∧ gs < w.heap.size ∧ d < w.heap.size) (hm : MemoW b ls gm W') : LevI w B gs d gm b ls la lc av W' :=
  ⟨h.song.grown hg fun r e => by have := hr r e; omega, hm, h.bl.grown hg h.bl.size fun k hk => hr k hk⟩
end

attribute [local go_sem] Oper.semAt_some
set_option maxRecDepth 100000 in
set_option maxHeartbeats 1600000 in
theorem levels_ok (B gs d : Nat) (b : List (Int × Int)) (ls : List (List Int)) (la : Option Addr) (lc : Nat) (A : Option Addr) (c : Nat) (w : World) (hs : SongM w B gs d b ls la lc A c) :
    Calls Try.prog 60 #[.pointer (some ⟨gs, 0, none⟩)] w fun r w' => ∃ A' c', r = .returned (.slice A' (matsOf b ls).length c') ∧ Arr w' w'.heap.size 1 (.slice A' (matsOf b ls).length c') (lvsI b ls (matsOf b ls)) icell ∧ Below w.heap.size w w' := by
  obtain ⟨hs, ha⟩ := hs
  have hgd := hs.good
  have hms := mats_len hgd.ds8 (by rw [dsOf_len]; exact hgd.four : (dsOf ls).length ≤ 4) (mt := mtB b ls)
  change (matsOf b ls).length ≤ 4096 at hms
  have hlt := hs.lt
  have HG := Lib.hid hgd
  have hmm := @run_makeMap Try.prog
  have HIN : Hid (∀ m ∈ matsOf b ls, InDs (dsOf ls) m ∧ lvOf b ls m ≤ 8) := fun m hm => ⟨mats_ind hm, lvOf_le hgd hm⟩
  clear hgd
  generalize matsOf b ls = ms at *
  go_enter Try.func60, Try.ntmps60
  go_upto_region 2 with (fail)
  have hi0 : LevI w B gs d w.heap.size b ls la lc (.slice A ms.length c) (w.alloc (.map #[] 0)) := by
    have hb := (Below.refl w.heap.size w).alloc (Nat.le_refl _) (.map #[] 0)
    exact ⟨hs.call hb, MemoW.new b ls w, hb⟩
  clear hmm hs
  generalize w.alloc (.map #[] 0) = W at *
  obtain ⟨q0, q1, q2⟩ := hi0.song.c3
  go_wp2
  go_loopw [4, 13] (fun o i wr => ∃ k : Nat, k ≤ ms.length ∧ i = .int .i64 k ∧ LevI w B gs d w.heap.size b ls la lc (.slice A ms.length c) wr ∧ wr.ownsRow (w.heap.size + 1) 3 1 o k ((lvsI b ls (ms.take k)).map (Value.int .i64))) (fun _ i _ => ms.length - (intOf i).toNat)
  case atStart => exact ⟨0, Nat.zero_le _, rfl, hi0, by simpa [lvsI] using World.ownsRow_nil _ _ _ _⟩
  case round =>
    obtain ⟨k, hk, rfl, hi, hown⟩ := hrel
    clear q0 q1 q2
    by_cases hlt2 : k < ms.length
    · have d1 : decide (k < ms.length) = true := decide_eq_true hlt2
      have d1' : decide ((k : Int) < (ms.length : Int)) = true := decide_eq_true (by omega)
      have hki : (k : Int) < (ms.length : Int) := by omega
      have ek : IntKind.i64.wrap ((k : Int) + 1) = ((k + 1 : Nat) : Int) := by rw [IntKind.wrap_i64]; omega
      obtain ⟨xb, xo, m, rfl, hx1, hxb, c0, c1, c2, c3⟩ := pl_at ha (fun p hp => hi.bl.cell hp) hlt2
      obtain ⟨hmi, hm8⟩ := HIN.out m (List.mem_of_getElem? hx1)
      have HT : Hid ((lvsI b ls (ms.take (k + 1))).map (Value.int .i64) = (lvsI b ls (ms.take k)).map (Value.int .i64) ++ [.int .i64 (lvOf b ls m : Int)]) := by rw [Hid, take_snoc hx1]; simp [lvsI]
      have hl1 : lvOf b ls m = 1 + wthN (mtB b ls) m := rfl
      clear hx1
      go_upto_region 6 with (fail)
      have e : wr.alloc (.cells #[.int .i64 (at0 m 0 : Int), .int .i64 (at0 m 1 : Int), .int .i64 (at0 m 2 : Int), .int .i64 (at0 m 3 : Int)] 88) = wr.alloc (.cells (plC m) 88) := rfl
      rw [e]
      clear e c0 c1 c2 c3
      have hX := Blk.new wr 88 (plC m)
      have hb := (Below.refl wr.heap.size wr).alloc (Nat.le_refl _) (.cells (plC m) 88)
      have hi1 := hi.call hb
      have hown1 := own_call hown hb
      clear hi hown hb
      generalize wr.alloc (.cells (plC m) 88) = w1 at *
      generalize wr.heap.size = pb at *
      have p0 := hX.cell 0
      have p1 := hX.cell 1
      have p2 := hX.cell 2
      have p3 := hX.cell 3
      simp [plC] at p0 p1 p2 p3
      have hwi := within_ok B gs d w.heap.size b ls la lc (.slice (some ⟨xb, xo, none⟩) ms.length c) m.sum m w1 rfl hmi hi1.song hi1.memo (by omega)
      obtain ⟨L, hL⟩ : ∃ L, L = wthN (mtB b ls) m := ⟨_, rfl⟩
      rw [← hL] at hwi hl1
      have HL := Lib.hid hl1
      have e1 : IntKind.i64.wrap (1 + (L : Int)) = 1 + (L : Int) := wrap_id _ (by omega) (by omega)
      clear hL hl1 hmi hm8 hX
      go_wp2_with fail
      refine hwi.mono ?_
      rintro e w2 ⟨rfl, hm2, hg2⟩
      have hi2 := hi1.grown hg2 (fun r e => by injection e with e; omega) ⟨by omega, by omega, by omega⟩ hm2
      have hown2 := own_grown hown1 hg2 (fun r e e2 => by injection e with e; have := (hown1.lt r e2).1; omega)
      have hsz := hi2.memo.lt
      have hsz2 : w.heap.size + 1 ≤ w2.heap.size := by omega
      clear hwi p0 p1 p2 p3 hi1 hown1 hg2 hm2
      go_wp2_with (at_builtin; refine wpList_app2 slT_i rfl (.tmp 17) (.tmp 23) rfl (sv := u4) rfl hown2 rfl rfl (one_i _) hsz2 ?_ ?_ ?_)
      any_goals omega
      intro v4 w4 hown4 hg4 hat4
      have hi4 := hi2.grown hg4 (fun r e => by have := (hown2.lt r e).1; omega) ⟨by omega, by omega, by omega⟩ (hi2.memo.grown hg4 fun e => by have := (hown2.lt _ e).1; omega)
      have hl9 : (1 + (L : Int)) = (lvOf b ls m : Int) := by have := HL.out; omega
      rw [hl9] at hown4
      have hown5 : w4.ownsRow (w.heap.size + 1) 3 1 v4 (k + 1) ((lvsI b ls (ms.take (k + 1))).map (Value.int .i64)) := by rw [HT.out]; simpa using hown4
      clear hown4 hg4 hat4 hi2 hown2 hsz hsz2 hl9
      go_wp2
      go_roundw
      case rel => exact ⟨k + 1, by omega, by go_num, hi4, hown5⟩
      case measure => (simp [intOf]; try omega)
    · obtain rfl : k = ms.length := by omega
      have d1 : decide (ms.length < ms.length) = false := by simp
      rw [List.take_length] at hown
      obtain ⟨A', cap, rfl⟩ := own_form hown
      have hbl := hi.bl
      have harr : Arr wr wr.heap.size 1 (.slice A' ms.length cap) (lvsI b ls ms) icell := by
        have hl : ms.length = (lvsI b ls ms).length := by simp [lvsI]
        rw [hl] at hown ⊢
        exact Arr.of_own (by rw [flat_i]; exact hown)
      go_wp2
      go_ret
      exact ⟨A', cap, by rfl, harr, hbl⟩
end Go.Proofs.Ytgngpdnppdbgoaa
