/- Contracts: places, and its iterator. -/
import Derived.Test.YtgngpdnppdbgoaaSongB
import Derived.Test.YtgngpdnppdbgoaaRngX
namespace Go.Proofs.Ytgngpdnppdbgoaa
open Go.RowKit Go.Shelf
set_option linter.unusedVariables false

theorem places_ok (gs : Nat) (w : World) :
    Calls Try.prog 79 #[.pointer (some ⟨gs, 0, none⟩)] w fun r w' => r = .returned (.func (.func 86) #[] #[.pointer (some ⟨w.heap.size, 0, none⟩)]) ∧ w.alloc (.cells #[.pointer (some ⟨gs, 0, none⟩)] 72) = w' := by
  go_enter Try.func79, Try.ntmps79
  go_wp2
  go_ret
  exact ⟨rfl, rfl⟩
/-- what a round of a range over the places keeps: all cells but those of the song and of the row of its places -/
structure KeepS (gs : Nat) (lv : Value) (W W' : World) : Prop where
  song : ∀ p av, Blk W gs 78 #[p, lv, av] → ∃ av', Blk W' gs 78 #[p, lv, av'] ∧ (∀ r, av'.ownBlock = some r → av.ownBlock = some r ∨ W.heap.size ≤ r) ∧
    ∀ k o, W.heap[k]? = some o → o.isCells = true → k ≠ gs → av.ownBlock ≠ some k → W'.heap[k]? = some o
  size : W.heap.size ≤ W'.heap.size
theorem heap_lt {W : World} {k : Nat} {o : Obj} (h : W.heap[k]? = some o) : k < W.heap.size := (Array.getElem?_eq_some_iff.1 h).1
theorem KeepS.trans {gs : Nat} {lv : Value} {W W' W'' : World} (h : KeepS gs lv W W') (k : KeepS gs lv W' W'') : KeepS gs lv W W'' := by
  refine ⟨fun p av hb => ?_, Nat.le_trans h.size k.size⟩
  obtain ⟨av', h1, h2, h3⟩ := h.song p av hb
  obtain ⟨av'', k1, k2, k3⟩ := k.song p av' h1
  refine ⟨av'', k1, fun r hr => ?_, fun i o hi ho hg ha => ?_⟩
  · rcases k2 r hr with q | q
    · exact h2 r q
    · have := h.size; omega
  · refine k3 i o (h3 i o hi ho hg ha) ho hg fun e => ?_
    rcases h2 i e with q | q
    · exact ha q
    · have := heap_lt hi; omega
abbrev VPl (ds : List Nat) := {m : List Nat // m ∈ placesL ds}
def encPl (ds : List Nat) (x : VPl ds) : Array Value := #[plV x.1]
theorem grown_of_below {w w' : World} (h : Below w.heap.size w w') : w.grownBy w' none := ⟨h.os, h.tape, h.output, h.size, fun k hk _ => h.block k hk⟩
theorem cell_obj {W : World} {q : Addr} {u : Value} (h : W.cell? q = some u) : ∃ o, W.heap[q.block]? = some o ∧ o.isCells = true := by
  unfold World.cell? at h
  split at h
  · rename_i hh
    exact ⟨_, hh, rfl⟩
  · cases h
theorem Arr.keepS {α : Type} {w w' : World} {B size : Nat} {v : Value} {l : List α} {cell : α → Nat → Value} (h : Arr w B size v l cell) (hk : ∀ (p : Addr) (u : Value), p.block < B → w.cell? p = some u → w'.cell? p = some u) : Arr w' B size v l cell := by
  obtain ⟨A, c, hv, h1, h2, h3⟩ := h
  refine ⟨A, c, hv, h1, h2, fun hl => ?_⟩
  obtain ⟨b, off, ha, hb, hc⟩ := h3 hl
  exact ⟨b, off, ha, hb, fun i x hx j hj => hk ⟨b, off + i * size + j, none⟩ _ hb (hc i x hx j hj)⟩
theorem LLB.keepS {w w' : World} {B : Nat} {v : Value} {ls : List (List Int)} (h : LLB w B v ls) (hk : ∀ (p : Addr) (u : Value), p.block < B → w.cell? p = some u → w'.cell? p = some u) : LLB w' B v ls := by
  obtain ⟨xs, h1, h2, h3⟩ := h
  exact ⟨xs, h1, h2.keepS hk, fun x hx => (h3 x hx).keepS hk⟩
theorem Song.keep {W W' : World} {B gs d : Nat} {b : List (Int × Int)} {ls : List (List Int)} {la : Option Addr} {lc : Nat} {av : Value} (h : Song W B gs d b ls la lc av) (hk : KeepS gs (.slice la ls.length lc) W W') (ha : ∀ r, av.ownBlock = some r → B ≤ r ∧ r ≠ d) :
    ∃ av', Song W' B gs d b ls la lc av' ∧ ∀ r, av'.ownBlock = some r → av.ownBlock = some r ∨ W.heap.size ≤ r := by
  obtain ⟨av', h1, h2, h3⟩ := hk.song _ _ h.sb
  obtain ⟨lv, cs, hd, hd2⟩ := h.db
  have hlo := h.lo
  refine ⟨av', ⟨h1, ⟨lv, cs, h3 d _ hd rfl (fun e => hlo.2.2 e.symm) fun e => (ha d e).2 rfl, hd2⟩, ?_, hlo, h.good⟩, h2⟩
  refine h.ln.keepS fun p u hp hc => ?_
  obtain ⟨o, ho, hoc⟩ := cell_obj hc
  exact (World.cell?_of_block ((h3 p.block o ho hoc (by omega) fun e => by have := (ha _ e).1; omega).trans ho.symm)).trans hc
theorem Blk.keepS {W W' : World} {gs g : Nat} {lv p av : Value} {t : TypeId} {cs : Array Value} (h : Blk W g t cs) (hk : KeepS gs lv W W') (hs : Blk W gs 78 #[p, lv, av]) (h1 : g ≠ gs) (h2 : av.ownBlock ≠ some g) : Blk W' g t cs := by
  obtain ⟨av', -, -, h3⟩ := hk.song p av hs
  exact h3 g _ h rfl h1 h2
theorem anyE_iff {ls : List (List Int)} : (ls.any fun l => decide (l.length = 0)) = true ↔ ∃ d ∈ dsOf ls, d = 0 := by
  unfold dsOf
  rw [List.any_eq_true]
  constructor
  · rintro ⟨l, hl, h⟩
    exact ⟨_, List.mem_map.2 ⟨l, hl, rfl⟩, by simpa using h⟩
  · rintro ⟨d, hd, h⟩
    obtain ⟨l, hl, rfl⟩ := List.mem_map.1 hd
    exact ⟨l, hl, by simpa using h⟩

attribute [local go_sem] Oper.semAt_some
set_option maxRecDepth 100000 in
set_option maxHeartbeats 1600000 in
theorem places_stops (n : Nat) (B gs d gb : Nat) (b : List (Int × Int)) (ls : List (List Int)) (la : Option Addr) (lc : Nat) (w : World) (hs : Song w B gs d b ls la lc (.slice none 0 0)) (hgb : gb ≠ gs) (hx : Blk w gb 72 #[.pointer (some ⟨gs, 0, none⟩)]) :
    SeqX Fence.wide (n + 3) Try.prog 86 #[.pointer (some ⟨gb, 0, none⟩)] (encPl (dsOf ls)) (KeepS gs (.slice la ls.length lc)) (fun xs => xs.map (·.1) = placesL (dsOf ls)) (placesL (dsOf ls)).length w := by
  intro l J W hW hJ hY h0
  have hS := hs.call hW
  have hX := hx.call hW
  have h2 := hs.good.two
  have h4 := hs.good.four
  clear hs hx
  refine callsIn_of_wp Try.func86 rfl trivial ?_ rfl
  simp only [Try.ntmps86, List.size_toArray, List.length_cons, List.length_nil, Nat.reduceAdd, Nat.reduceSub, Array.replicate_succ, Array.replicate_zero, List.push_toArray, List.append_toArray, List.nil_append, List.cons_append]
  refine wpIn_wide.2 ?_
  obtain ⟨q0, q1, q2⟩ := hS.c3
  have x0 := hX.cell 0
  simp at x0
  go_wp2
  go_loopw [12] (fun i wr => ∃ k : Nat, k ≤ ls.length ∧ i = .int .i64 k ∧ Hid (∀ j, j < k → 0 < (ls.getD j []).length) ∧ wr = W) (fun i _ => ls.length - (intOf i).toNat)
  case atStart => exact ⟨0, Nat.zero_le _, rfl, fun j hj => absurd hj (Nat.not_lt_zero _), rfl⟩
  case round =>
    obtain ⟨k, hk, rfl, hok, rfl⟩ := hrel
    by_cases hlt : k < ls.length
    · have d1 : decide (k < ls.length) = true := decide_eq_true hlt
      have d1' : decide ((k : Int) < (ls.length : Int)) = true := decide_eq_true (by omega)
      have hki : (k : Int) < (ls.length : Int) := by omega
      obtain ⟨l1, lb, lo, A, c, hl1, hla, hlb, hc, harr⟩ := hS.line hlt
      subst hla
      by_cases hz : l1.length = 0
      · have d2 : ((l1.length : Int) == 0) = true := by simp [hz]
        have hnil : placesL (dsOf ls) = [] := places_empty ⟨0, by rw [← hz, ← hl1]; unfold dsOf; exact List.mem_map.2 ⟨ls.getD k [], by rw [List.getD_eq_getElem?_getD, List.getElem?_eq_getElem hlt]; exact List.getElem_mem hlt, rfl⟩, rfl⟩
        have HNIL := Lib.hid hnil
        clear hz hl1 hnil
        go_wp2
        refine bodyPost_ret (results_none rfl _ _ _) rfl ?_
        exact ⟨⟨_, rfl⟩, [], HNIL.out.symm, h0⟩
      · have d2 : ((l1.length : Int) == 0) = false := beq_false_of_ne (by omega)
        have HOK : Hid (∀ j, j < k + 1 → 0 < (ls.getD j []).length) := fun j hj => by
          by_cases e : j = k
          · rw [e, hl1]; omega
          · exact hok.out j (by omega)
        clear hz hl1 hok
        go_wp2
        go_roundw
        case rel => exact ⟨k + 1, by omega, by go_num, HOK, by trivial⟩
        case measure => (simp [intOf]; try omega)
    · obtain rfl : k = ls.length := by omega
      have d1 : decide (ls.length < ls.length) = false := by simp
      have hpos : Hid (∀ d ∈ dsOf ls, 0 < d) := by
        intro d hd
        obtain ⟨l1, hl1, rfl⟩ := List.mem_map.1 hd
        obtain ⟨i, hi, rfl⟩ := List.getElem_of_mem hl1
        have := hok.out i hi
        rw [List.getD_eq_getElem?_getD, List.getElem?_eq_getElem hi] at this
        exact this
      clear hok q0 q1 q2 x0
      obtain ⟨wa, hwa⟩ : ∃ wa : World, wa = wr := ⟨_, rfl⟩
      rw [← hwa] at h0 hS hX hJ ⊢
      clear hwa hW
      go_upto_region 6 with (fail)
      have hz : plC (zeroP (dsOf ls)) = #[.int .i64 0, .int .i64 0, .int .i64 0, .int .i64 0] := by simp [plC, at0_zeroP]
      have hP := Blk.new wa 88 (plC (zeroP (dsOf ls)))
      have hbA := (Below.refl wa.heap.size wa).alloc (Nat.le_refl _) (.cells (plC (zeroP (dsOf ls))) 88)
      rw [← hz]
      have hJ1 := hJ [] _ _ none h0 (grown_of_below hbA) (by simp)
      have hgbl := hX.lt
      have hgsl := hS.lt
      have hSl := hS.lo
      have hSr := hS.call hbA
      have hXr := hX.call hbA
      clear hz h0 hbA hS hX
      generalize wa.alloc (.cells (plC (zeroP (dsOf ls))) 88) = wb at *
      generalize wa.heap.size = ab at *
      have HDL := Lib.hid (dsOf_len ls)
      have HDA : Hid (∀ j, at0 (dsOf ls) j = (ls.getD j []).length) := fun j => at0_ds ls j
      have HZ := Lib.hid (places_zero hpos.out)
      clear hlt hk d1
      go_loopg [6] ((afterP (dsOf ls) (zeroP (dsOf ls))).length) (fun g u wr => ∃ (m : List Nat) (pre : List (VPl (dsOf ls))) (av : Value), m ∈ placesL (dsOf ls) ∧ Hid (pre.map (·.1) ++ m :: afterP (dsOf ls) m = placesL (dsOf ls)) ∧ Hid ((afterP (dsOf ls) m).length = g) ∧ J pre wr ∧ Song wr B gs d b ls la lc av ∧ (∀ r, av.ownBlock = some r → ab < r) ∧ Blk wr gb 72 #[.pointer (some ⟨gs, 0, none⟩)] ∧ Blk wr ab 88 (plC m))
      case atStart => exact ⟨zeroP (dsOf ls), [], .slice none 0 0, by rw [HZ.out]; exact List.mem_cons_self .., HZ.out.symm, rfl, hJ1, hSr, (fun r e => by simp [Value.ownBlock] at e), hXr, hP⟩
      case round =>
        clear hJ1 hSr hXr hP
        obtain ⟨m, pre, av, hm, hpre, hgk, hJm, hSm, ham, hXm, hPm⟩ := hrel
        obtain ⟨hml, hmi⟩ := mem_places.1 hm
        rw [dsOf_len] at hml
        have HML := Lib.hid hml
        have HMI : Hid (∀ h, h < ls.length → at0 m h < (ls.getD h []).length) := fun h hh => by
          have := hmi h (by rw [dsOf_len]; exact hh)
          rw [at0_ds] at this
          exact this
        have hlen : Hid (pre.length < (placesL (dsOf ls)).length) := by
          have := congrArg List.length hpre.out
          rw [List.length_append, List.length_map, List.length_cons] at this
          rw [Hid]
          omega
        have HPR : Hid ((pre ++ [(⟨m, hm⟩ : VPl (dsOf ls))]).map (·.1) ++ afterP (dsOf ls) m = placesL (dsOf ls)) := by
          have := hpre.out
          rw [Hid, List.map_append]
          simpa using this
        have x0 := hXm.cell 0
        have p0 := hPm.cell 0
        have p1 := hPm.cell 1
        have p2 := hPm.cell 2
        have p3 := hPm.cell 3
        simp [plC] at x0 p0 p1 p2 p3
        clear hml hmi hpre
        refine (wpIn_wide (n := n + 3)).1 ?_
        obtain ⟨fn, tmps, assign, body, hy, hR⟩ := hY pre ⟨m, hm⟩ wr hJm hlen.out
        dsimp only [encPl] at hy
        gi_wp2
        refine hR.mono ?_
        rintro e W3 ⟨rfl, hJ3, hk3⟩
        have hP3 := hPm.keepS hk3 hSm.sb (by omega) (fun e => by have := ham _ e; omega)
        have hX3 := hXm.keepS hk3 hSm.sb hgb (fun e => by have := ham _ e; omega)
        obtain ⟨av3, hS3, ha3⟩ := hSm.keep hk3 (fun r e => by have := ham _ e; omega)
        have hab3 : ∀ r, av3.ownBlock = some r → ab < r := fun r e => by
          rcases ha3 r e with q | q
          · exact ham r q
          · have := hPm.lt; omega
        clear hPm hXm hSm ham hJm hR hy x0 p0 p1 p2 p3 ha3 hk3
        have x0 := hX3.cell 0
        simp at x0
        obtain ⟨q0, q1, q2⟩ := hS3.c3
        obtain ⟨xs, hxs⟩ : ∃ xs, xs = pre ++ [(⟨m, hm⟩ : VPl (dsOf ls))] := ⟨_, rfl⟩
        rw [← hxs] at HPR hJ3
        clear hxs hlen
        gi_wp2
        refine wpIn_wide.2 ?_
        go_wp2
        go_loopw [6] (fun u wr => ∃ (j : Nat) (m' : List Nat), j ≤ ls.length ∧ u = .int .i64 ((j : Int) - 1) ∧ Hid (∀ i, i < 4 → at0 m' i = if i < j then at0 m i else 0) ∧ Hid (∀ i, j ≤ i → i < ls.length → at0 m i + 1 = (ls.getD i []).length) ∧ J xs wr ∧ Song wr B gs d b ls la lc av3 ∧ Blk wr gb 72 #[.pointer (some ⟨gs, 0, none⟩)] ∧ Blk wr ab 88 (plC m')) (fun u _ => (intOf u + 1).toNat)
        case atStart => exact ⟨ls.length, m, Nat.le_refl _, rfl, (fun i _ => by
          by_cases hi : i < ls.length
          · rw [if_pos hi]
          · rw [if_neg hi]
            unfold at0
            rw [List.getD_eq_getElem?_getD, List.getElem?_eq_none (by rw [HML.out]; omega)]
            rfl), (fun i h1 h2 => absurd h2 (by omega)), hJ3, hS3, hX3, hP3⟩
        case round =>
          clear hJ3 hS3 hX3 hP3 x0 q0 q1 q2
          obtain ⟨j, m', hj, rfl, hm', hlast, hJj, hSj, hXj, hPj⟩ := hrel
          have x0 := hXj.cell 0
          simp at x0
          obtain ⟨q0, q1, q2⟩ := hSj.c3
          rcases j with _ | q
          · -- all of them were at their ends
            have HEND := Lib.hid (nextP_none (ds := dsOf ls) (x := m) (by rw [dsOf_len, HML.out]) fun i hi => by
              rw [dsOf_len] at hi
              rw [at0_ds]
              exact hlast.out i (Nat.zero_le _) hi)
            have hfin := HPR.out
            rw [HEND.out.2, List.append_nil] at hfin
            have HFIN := Lib.hid hfin
            clear hfin hm' hlast
            have f0 := Ext.of x0
            clear x0 q0 q1 q2
            go_upto_region 8 with (fail)
            have d5 : decide ((0 : Int) ≤ ((0 : Nat) : Int) - 1) = false := by decide
            refine wp_region_ext (by kernel_rfl) (by kernel_rfl) ?_
            repeat (go_big_quiet_step (fail))
            refine wpQuiet_nil ?_
            intro _ hw'
            obtain ⟨xr, hw''⟩ := hw'
            subst hw''
            have hJz := hJ xs _ _ none hJj (grown_of_below xr.h) (by simp)
            clear hJj hSj hXj hPj
            go_wp2
            refine wpIn_wide.2 ?_
            go_wp2
            refine bodyPost_ret (results_none rfl _ _ _) rfl ?_
            exact ⟨⟨_, rfl⟩, xs, HFIN.out, hJz⟩
          · have hq : q < ls.length := by omega
            have hq4 : q < 4 := by omega
            have hqi : (q : Int) < 4 := by omega
            have hqi2 : (q : Int) < (ls.length : Int) := by omega
            have eq1 : ((q + 1 : Nat) : Int) - 1 = (q : Int) := by omega
            rw [eq1]
            have hmq : at0 m' q = at0 m q := by rw [hm'.out q hq4, if_pos (by omega)]
            obtain ⟨l1, lb, lo, A, c, hl1, hla, hlb, hc, harr⟩ := hSj.line hq
            subst hla
            have cq : wr.cell? ⟨ab, q, none⟩ = some (.int .i64 (at0 m q : Int)) := by rw [hPj.cell, plC_at m' hq4, hmq]
            have zq := hPj.frozen q
            have hlq : at0 m q < l1.length := by rw [← hl1]; exact HMI.out q hq
            have f0 := Ext.of x0
            have f1 := Ext.of cq
            have f2 := Ext.of q1
            have f3 := Ext.of hc
            obtain ⟨v, hv⟩ : ∃ v, v = at0 m q := ⟨_, rfl⟩
            rw [← hv] at cq f1 hlq
            have h8 : l1.length ≤ 8 := hSj.good.eight l1 (by rw [← hl1, List.getD_eq_getElem?_getD, List.getElem?_eq_getElem hq]; exact List.getElem_mem hq)
            have dw : wrap64 ((l1.length : Int) - 1) = (l1.length : Int) - 1 := IntWalk.wrap64_in _ ⟨by omega, by omega⟩
            have HV := Lib.hid hv
            have HL1 := Lib.hid hl1
            clear x0 q0 q1 q2 hc harr hv hl1 hmq eq1
            go_upto_region 8 with (fail)
            have d5 : decide ((0 : Int) ≤ (q : Int)) = true := decide_eq_true (by omega)
            by_cases heq : v + 1 = l1.length
            · have d6 : ((v : Int) == (l1.length : Int) - 1) = true := by simp; omega
              have HLQ : Hid (∀ i, q ≤ i → i < ls.length → at0 m i + 1 = (ls.getD i []).length) := fun i h1 h2 => by
                by_cases e : i = q
                · rw [e, HL1.out, ← HV.out]; exact heq
                · exact hlast.out i (by omega) h2
              clear heq hlq
              refine wp_region_ext (by kernel_rfl) (by kernel_rfl) ?_
              repeat (go_big_quiet_step (fail))
              refine wpQuiet_nil ?_
              intro _ hw'
              obtain ⟨xr, hw''⟩ := hw'
              subst hw''
              have hJz := hJ xs _ _ none hJj (grown_of_below xr.h) (by simp)
              have hSz := hSj.call xr.h
              have hXz := hXj.call xr.h
              have hPz := hPj.call xr.h
              clear hJj hSj hXj hPj f0 f1 f2 f3 cq zq
              obtain ⟨wz, hwz⟩ : ∃ wz : World, wz = xr.w := ⟨_, rfl⟩
              rw [← hwz] at hJz hSz hXz hPz ⊢
              clear hwz xr
              have cq : wz.cell? ⟨ab, q, none⟩ = some (.int .i64 (at0 m' q : Int)) := by rw [hPz.cell, plC_at m' hq4]
              have zq := hPz.frozen q
              have hgs : wz.grownBy (wz.setCell ⟨ab, q, none⟩ (.int .i64 0)) (some ab) := grown_setCell _
              have hJy := hJ xs _ _ (some ab) hJz hgs (fun r e => by injection e with e; exact .inl e.symm)
              have hSy := hSz.grown hgs (fun r e => by injection e; omega)
              have hXy := hXz.grown hgs (fun e => by injection e; omega)
              have hPy := hPz.set_ q (.int .i64 ((0 : Nat) : Int))
              rw [plC_set (y := m'.set q 0) hq4 (fun i hi => by
                unfold at0
                simp only [List.getD_eq_getElem?_getD, List.getElem?_set]
                by_cases e : q = i
                · subst e
                  rw [if_pos rfl, if_pos rfl]
                  split <;> rfl
                · rw [if_neg e, if_neg fun e2 => e e2.symm])] at hPy
              have HM2 : Hid (∀ i, i < 4 → at0 (m'.set q 0) i = if i < q then at0 m i else 0) := fun i hi => by
                have h1 : at0 (m'.set q 0) i = if i = q then 0 else at0 m' i := by
                  unfold at0
                  simp only [List.getD_eq_getElem?_getD, List.getElem?_set]
                  by_cases e : q = i
                  · subst e
                    rw [if_pos rfl, if_pos rfl]
                    split <;> rfl
                  · rw [if_neg e, if_neg fun e2 => e e2.symm]
                rw [h1, hm'.out i hi]
                by_cases e : i = q
                · rw [if_pos e, if_neg (by omega)]
                · rw [if_neg e]
                  by_cases e2 : i < q
                  · rw [if_pos (by omega), if_pos e2]
                  · rw [if_neg (by omega), if_neg e2]
              clear hJz hSz hXz hPz hgs
              go_wp2
              go_roundw
              case rel => exact ⟨q, m'.set q 0, by omega, rfl, HM2, HLQ, hJy, hSy, hXy, hPy⟩
              case measure => (simp [intOf]; try omega)
            · have d6 : ((v : Int) == (l1.length : Int) - 1) = false := beq_false_of_ne (by omega)
              obtain ⟨r, hr1, hr2, hr3, hr4⟩ := nextP_some (ds := dsOf ls) (x := m) (j := q) (by rw [dsOf_len, HML.out]) hpos.out (by rw [dsOf_len]; exact hq) (fun i h1 h2 => by
                rw [dsOf_len] at h2
                rw [at0_ds]
                exact hlast.out i (by omega) h2) (by rw [at0_ds, HL1.out, ← HV.out]; omega)
              have hgn := HPR.out
              rw [hr2] at hgn
              have HGN : Hid (xs.map (·.1) ++ r :: afterP (dsOf ls) r = placesL (dsOf ls)) := hgn
              have HRM : Hid (r ∈ placesL (dsOf ls)) := by rw [Hid, ← hgn]; simp
              have HGL : Hid ((afterP (dsOf ls) r).length + 1 = gk) := by
                have := hgk.out
                rw [hr2, List.length_cons] at this
                exact this
              have HR4 : Hid (∀ i, i < 4 → at0 r i = if i = q then v + 1 else at0 m' i) := fun i hi => by
                rw [hm'.out i hi]
                by_cases hil : i < ls.length
                · rw [hr4 i (by rw [dsOf_len]; exact hil)]
                  by_cases e : i = q
                  · have c1 : ¬ i < q := by omega
                    rw [if_neg c1, if_pos e, if_pos e, HV.out]
                  · by_cases e2 : i < q
                    · have c1 : i < q + 1 := by omega
                      rw [if_pos e2, if_neg e, if_pos c1]
                    · have c1 : ¬ i < q + 1 := by omega
                      rw [if_neg e2, if_neg e, if_neg e, if_neg c1]
                · have c1 : ¬ i = q := by omega
                  have c2 : i < q + 1 → False := by omega
                  rw [if_neg c1, if_neg c2]
                  unfold at0
                  rw [List.getD_eq_getElem?_getD, List.getElem?_eq_none (by rw [hr3, dsOf_len]; omega)]
                  rfl
              clear heq hr1 hr2 hr3 hr4 hgn
              refine wp_region_ext (by kernel_rfl) (by kernel_rfl) ?_
              repeat (go_big_quiet_step (fail))
              refine wpQuiet_nil ?_
              intro _ hw'
              obtain ⟨xr, hw''⟩ := hw'
              subst hw''
              have hJz := hJ xs _ _ none hJj (grown_of_below xr.h) (by simp)
              have hSz := hSj.call xr.h
              have hXz := hXj.call xr.h
              have hPz := hPj.call xr.h
              clear hJj hSj hXj hPj f0 f1 f2 f3 cq zq hlq
              obtain ⟨wz, hwz⟩ : ∃ wz : World, wz = xr.w := ⟨_, rfl⟩
              rw [← hwz] at hJz hSz hXz hPz ⊢
              clear hwz xr
              have hmq : at0 m' q = v := by rw [HV.out, hm'.out q hq4, if_pos (by omega)]
              have cq : wz.cell? ⟨ab, q, none⟩ = some (.int .i64 (v : Int)) := by rw [hPz.cell, plC_at m' hq4, hmq]
              have zq := hPz.frozen q
              have hgs : wz.grownBy (wz.setCell ⟨ab, q, none⟩ (.int .i64 ((v : Int) + 1))) (some ab) := grown_setCell _
              have hJy := hJ xs _ _ (some ab) hJz hgs (fun r e => by injection e with e; exact .inl e.symm)
              have hSy := hSz.grown hgs (fun r e => by injection e; omega)
              have hXy := hXz.grown hgs (fun e => by injection e; omega)
              have hPy := hPz.set_ q (.int .i64 ((v + 1 : Nat) : Int))
              rw [plC_set (y := r) hq4 HR4.out, show ((v + 1 : Nat) : Int) = (v : Int) + 1 by omega] at hPy
              have hv8 : v < 8 := by
                have h1 := HMI.out q hq
                have h2 := HL1.out
                have h3 := hSz.good.eight l1 (by rw [← h2, List.getD_eq_getElem?_getD, List.getElem?_eq_getElem hq]; exact List.getElem_mem hq)
                have h4 := HV.out
                rw [h2] at h1
                omega
              clear hJz hSz hXz hPz hgs hmq
              have d7 : decide ((q : Int) < 0) = false := decide_eq_false (by omega)
              go_wp2
              refine wpIn_wide.2 ?_
              go_wp2
              go_roundg (gk - 1)
              case measure => have := HGL.out; omega
              case rel => exact ⟨r, xs, av3, HRM.out, HGN, by have := HGL.out; rw [Hid]; omega, hJy, hSy, hab3, hXy, hPy⟩
end Go.Proofs.Ytgngpdnppdbgoaa
