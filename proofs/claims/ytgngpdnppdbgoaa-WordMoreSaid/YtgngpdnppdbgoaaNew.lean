/- Contract: newSong. -/
import Derived.Test.YtgngpdnppdbgoaaIter
import Derived.Test.YtgngpdnppdbgoaaSchedZ
namespace Go.Proofs.Ytgngpdnppdbgoaa
open Go.RowKit Go.Shelf
set_option linter.unusedVariables false

theorem slT_pl : SlT 76 88 4 32 (.agg #[.int .i64 0, .int .i64 0, .int .i64 0, .int .i64 0]) := ⟨Try.underlying76, by kernel_rfl, rfl, by omega⟩
theorem one_pl (m : List Nat) : ∀ u ∈ (plC m).toList, u.oneCell' = true := by simp [plC, Value.oneCell']
theorem cells_pl (m : List Nat) : (plC m).toList = cellsOf 4 plcell m := by simp [plC, cellsOf, plcell, List.range_succ]
theorem own_grown {W W' : World} {base : Nat} {e : TypeId} {size n : Nat} {v : Value} {xs : List Value} {row : Option Nat} (h : W.ownsRow base e size v n xs) (hg : W.grownBy W' row) (hr : ∀ r, row = some r → v.ownBlock ≠ some r) : W'.ownsRow base e size v n xs := by
  refine h.kept hg ?_
  cases ho : v.ownBlock with
  | none => exact .inl rfl
  | some b => exact .inr fun e => hr b e.symm ho
/-- the song while its places are picked -/
structure NewI (w0 W : World) (B gs d sb base : Nat) (b : List (Int × Int)) (ls : List (List Int)) (la : Option Addr) (lc : Nat) (av : Value) (ms : List (List Nat)) : Prop where
  song : Song W B gs d b ls la lc av
  own : W.ownsRow base 88 4 av ms.length (ms.flatMap (cellsOf 4 plcell))
  var : Blk W sb 72 #[.pointer (some ⟨gs, 0, none⟩)]
  bl : Below B w0 W
  lo : gs < base ∧ d < base ∧ sb < base ∧ B ≤ sb ∧ sb ≠ gs
section
variable {w0 W W' : World} {B gs d sb base : Nat} {b : List (Int × Int)} {ls : List (List Int)} {la : Option Addr} {lc : Nat} {av : Value} {ms : List (List Nat)}
theorem NewI.grown {row : Option Nat} (h : NewI w0 W B gs d sb base b ls la lc av ms) (hg : W.grownBy W' row) (hr : ∀ r, row = some r → B ≤ r ∧ r ≠ gs ∧ r ≠ d ∧ r ≠ sb ∧ av.ownBlock ≠ some r) : NewI w0 W' B gs d sb base b ls la lc av ms := by
  have h1 := h.lo
  have h2 := h.song.lt
  exact ⟨h.song.grown hg fun r e => ⟨(hr r e).1, (hr r e).2.1, (hr r e).2.2.1⟩, own_grown h.own hg fun r e => (hr r e).2.2.2.2, h.var.grown hg fun e => (hr _ e.symm).2.2.2.1 rfl,
    ⟨hg.os.trans h.bl.os, hg.tape.trans h.bl.tape, hg.output.trans h.bl.output, Nat.le_trans h.bl.size hg.size, fun k hk => (hg.block k (by omega) fun e => by have := (hr k e.symm).1; omega).trans (h.bl.block k hk)⟩, h1⟩
theorem NewI.call (h : NewI w0 W B gs d sb base b ls la lc av ms) (hb : Below W.heap.size W W') : NewI w0 W' B gs d sb base b ls la lc av ms :=
  h.grown (grown_call hb none) fun r e => by cases e
end
theorem keepS_of_song {W W' : World} {gs : Nat} {lv : Value} {d : Value} {av av' : Value} (hs : Blk W gs 78 #[d, lv, av]) (hs' : Blk W' gs 78 #[d, lv, av']) (h1 : ∀ r, av'.ownBlock = some r → av.ownBlock = some r ∨ W.heap.size ≤ r)
    (h2 : ∀ k o, W.heap[k]? = some o → o.isCells = true → k ≠ gs → av.ownBlock ≠ some k → W'.heap[k]? = some o) (h3 : W.heap.size ≤ W'.heap.size) : KeepS gs lv W W' := by
  refine ⟨fun p a hb => ?_, h3⟩
  unfold Blk at hs hb
  rw [hs] at hb
  injection hb with hb
  injection hb with hb
  obtain ⟨rfl, rfl⟩ : p = d ∧ a = av := by
    injection hb with hb
    injection hb with e1 hb
    injection hb with _ hb
    injection hb with e2
    exact ⟨e1.symm, e2.symm⟩
  exact ⟨av', hs', h1, h2⟩
theorem keepS_same {W W' : World} {gs : Nat} {lv : Value} (h : ∀ (k : Nat) (o : Obj), W.heap[k]? = some o → o.isCells = true → W'.heap[k]? = some o) (h3 : W.heap.size ≤ W'.heap.size) : KeepS gs lv W W' :=
  ⟨fun p a hb => ⟨a, h gs _ hb rfl, fun r e => .inl e, fun k o hk ho _ _ => h k o hk ho⟩, h3⟩
/-- the frame in which a round's body runs: the loop variable boxed in block Bx -/
def AxS (tm : Array Value) (base gs d : Nat) (lv : Value) (ds : List Nat) (x : VPl ds) (a' : Act) (W : World) : Prop :=
  ∃ Bx, base ≤ Bx ∧ Blk W Bx 88 (plC x.1) ∧ a' = { tmps := (tm.setIfInBounds 22 (plV x.1)).setIfInBounds 8 (.pointer (some ⟨Bx, 0, none⟩)), defers := [] } ∧
    ∃ av, Blk W gs 78 #[.pointer (some ⟨d, 0, none⟩), lv, av] ∧ av.ownBlock ≠ some Bx
/-- a song with its matches -/
def SongM (W : World) (B gs d : Nat) (b : List (Int × Int)) (ls : List (List Int)) (la : Option Addr) (lc : Nat) (A : Option Addr) (c : Nat) : Prop :=
  Song W B gs d b ls la lc (.slice A (matsOf b ls).length c) ∧ Arr W W.heap.size 4 (.slice A (matsOf b ls).length c) (matsOf b ls) plcell
theorem SongM.call {W W' : World} {B gs d : Nat} {b : List (Int × Int)} {ls : List (List Int)} {la : Option Addr} {lc : Nat} {A : Option Addr} {c : Nat} (h : SongM W B gs d b ls la lc A c) (hb : Below W.heap.size W W') : SongM W' B gs d b ls la lc A c :=
  ⟨h.1.call hb, (h.2.below hb).more hb.size⟩

attribute [local go_sem] Oper.semAt_some
set_option maxRecDepth 100000 in
set_option maxHeartbeats 1600000 in
theorem newSong_ok (v : Value) (b : List (Int × Int)) (ls : List (List Int)) (la : Option Addr) (lc : Nat) (w : World) (hv : BookV w w.heap.size v b) (hl : LLi w (.slice la ls.length lc) ls) :
    Calls Try.prog 52 #[v, .slice la ls.length lc] w fun r w' => Below w.heap.size w w' ∧ ((checkLines b ls ≠ 0 ∧ r = .returned (.tuple #[.pointer none, .int .i64 (checkLines b ls)])) ∨
      (checkLines b ls = 0 ∧ ∃ gs d A c, r = .returned (.tuple #[.pointer (some ⟨gs, 0, none⟩), .int .i64 0]) ∧ SongM w' w.heap.size gs d b ls la lc A c)) := by
  obtain ⟨pa, pc, rfl, hp⟩ := hv.open_
  have hC := BB.new hp
  have hB := (Below.refl w.heap.size w).alloc (Nat.le_refl _) (.cells #[.slice pa b.length pc] 24)
  refine (callsIn_wide (n := 8)).1 ?_
  refine callsIn_of_wp_marks Try.func52 rfl trivial ?_ rfl
  simp only [Try.ntmps52, List.size_toArray, List.length_cons, List.length_nil, Nat.reduceAdd, Nat.reduceSub, Array.replicate_succ, Array.replicate_zero, List.push_toArray, List.append_toArray, List.nil_append, List.cons_append]
  refine wpIn_wide.2 ?_
  go_upto_region 1 with (fail)
  generalize w.alloc (.cells #[.slice pa b.length pc] 24) = W at *
  have k0 := hC.c0
  go_wp2_with fail
  refine (checkLines_ok _ _ b ls W hC.bv ((hl.below hB).more hB.size)).mono ?_
  rintro e w1 ⟨rfl, hb1⟩
  have hB1 := hB.trans (hb1.mono hB.size)
  have hC1 := hC.call hb1
  clear hC hB hb1 k0 hp
  have k0 := hC1.c0
  by_cases he : checkLines b ls = 0
  · have d0 : (checkLines b ls != 0) = false := by simp [he]
    have HE := Lib.hid he
    have HG := Lib.hid (good_of he)
    go_wp2_with fail
    refine (newDictionary_ok _ b w1 hC1.bv HG.out.book).mono ?_
    rintro e w2 ⟨d, lv, rfl, hd, hdl, hb2⟩
    have hB2 := hB1.trans (hb2.mono hB1.size)
    have hl0 := hl
    have hB1s := hB1.size
    have hnw := hB2.size
    clear hC1 k0 hB1 hl
    go_upto_region 5 with (fail)
    have x1 := Blk.new w2 78 #[.pointer (some ⟨d, 0, none⟩), .slice la ls.length lc, .slice none 0 0]
    have q1 := (Below.refl w2.heap.size w2).alloc (Nat.le_refl _) (.cells #[.pointer (some ⟨d, 0, none⟩), .slice la ls.length lc, .slice none 0 0] 78)
    have z1 : (w2.alloc (.cells #[.pointer (some ⟨d, 0, none⟩), .slice la ls.length lc, .slice none 0 0] 78)).heap.size = w2.heap.size + 1 := by simp
    generalize w2.alloc (.cells #[.pointer (some ⟨d, 0, none⟩), .slice la ls.length lc, .slice none 0 0] 78) = v1 at *
    have x2 := Blk.new v1 72 #[.pointer (some ⟨w2.heap.size, 0, none⟩)]
    have q2 := (Below.refl v1.heap.size v1).alloc (Nat.le_refl _) (.cells #[.pointer (some ⟨w2.heap.size, 0, none⟩)] 72)
    have z2 : (v1.alloc (.cells #[.pointer (some ⟨w2.heap.size, 0, none⟩)] 72)).heap.size = w2.heap.size + 2 := by simp [z1]
    generalize v1.alloc (.cells #[.pointer (some ⟨w2.heap.size, 0, none⟩)] 72) = v2 at *
    have hdl2 := hd.lt
    have hS : Song v2 w.heap.size w2.heap.size d b ls la lc (.slice none 0 0) := by
      have hb : Below w2.heap.size w2 v2 := q1.trans (q2.mono (by omega))
      have h1 := hB1s
      exact ⟨x1.call q2, ⟨lv, hd.call hb⟩, (LLB.below hl0 (hB2.trans (hb.mono hnw))), ⟨by omega, by omega, by omega⟩, HG.out⟩
    have hB3 : Below w.heap.size w v2 := hB2.trans ((q1.mono hnw).trans (q2.mono (by omega)))
    rw [z1] at x2
    clear q1 q2 x1 z1 hd hl0 hB2 hb2
    generalize w2.heap.size = gs at *
    have t0 := x2.cell 0
    simp at t0
    go_wp2_with fail
    refine (places_ok gs v2).mono ?_
    rintro e w' ⟨rfl, rfl⟩
    have x3 := Blk.new v2 72 #[.pointer (some ⟨gs, 0, none⟩)]
    have q3 := (Below.refl v2.heap.size v2).alloc (Nat.le_refl _) (.cells #[.pointer (some ⟨gs, 0, none⟩)] 72)
    have z3 : (v2.alloc (.cells #[.pointer (some ⟨gs, 0, none⟩)] 72)).heap.size = gs + 3 := by simp [z2]
    have hS3 := hS.call q3
    have x2c := x2.call q3
    have hB4 := hB3.trans (q3.mono (by omega))
    clear x2 hS hB3 q3 t0
    generalize v2.alloc (.cells #[.pointer (some ⟨gs, 0, none⟩)] 72) = v3 at *
    rw [z2] at x3
    rw [z2]
    have hgd := hS3.good
    have h2 := hgd.two
    have h4 := hgd.four
    have hN : (placesL (dsOf ls)).length ≤ 4096 := Nat.le_trans (places_len (ds := dsOf ls) (fun a ha => by obtain ⟨l, hl, rfl⟩ := List.mem_map.1 ha; exact hgd.eight l hl)) (Nat.le_trans (Nat.pow_le_pow_right (by omega) (show (dsOf ls).length ≤ 4 by rw [dsOf_len]; exact h4)) (by decide))
    have hsz3 := hS3.lt
    have hlo := hS3.lo
    go_wp2
    have hinv : NewI w v3 w.heap.size gs d (gs + 1) (gs + 6) b ls la lc (.slice none 0 0) [] :=
      ⟨hS3, by simpa using World.ownsRow_nil _ _ _ _, x2c, hB4, by omega, by omega, by omega, by omega, by omega⟩
    refine (wpIn_wide (n := 8)).1 ?_
    refine wpIn_range_box (F := Fence.wide) (n := 8) (a := ?aa) rfl (by omega) (gf := 86) (lb := #[.pointer (some ⟨gs + 2, 0, none⟩)]) ?hgg trivial (enters_of Try.func86 (by kernel_rfl) rfl)
      (places_stops 4 w.heap.size gs d (gs + 2) b ls la lc v3 hS3 (by omega) x3) ?hKt ?hKb (Below.refl _ _) ?hps
      (fun pre W => ∃ av, NewI w W w.heap.size gs d (gs + 1) (gs + 6) b ls la lc av ((pre.map (·.1)).filter (mtB b ls))) ?hI ?hIb ⟨_, hinv⟩ (AxS (Act.tmps ?aa) (gs + 5) gs d (.slice la ls.length lc) (dsOf ls)) ?hAx ?assign ?body ?done
    case hKt => exact fun h1 h2 => h1.trans h2
    case hKb =>
      intro W l o o' hl ho hc _
      refine keepS_same (fun k u hk hu => (World.putObj_heap_other fun e => ?_).trans hk) (by simp [World.putObj])
      subst e
      rw [ho] at hk
      injection hk with hk
      subst hk
      rw [hu] at hc
      cases hc
    case hgg => rfl
    case hps => exact fun _ => rfl
    case hI =>
      rintro s W W' row ⟨av, hs⟩ hg hr
      refine ⟨av, hs.grown hg fun r e => ?_⟩
      obtain ⟨h1, o, ho, hc⟩ := hr r e
      refine ⟨by omega, by omega, by omega, by omega, fun e2 => ?_⟩
      rcases hs.own.2 with ⟨rfl, _⟩ | ⟨g', cap, cur, rfl, _, hh, _⟩
      · simp [Value.ownBlock] at e2
      · simp only [Value.ownBlock, Option.some.injEq] at e2
        subst e2
        rw [hh] at ho
        injection ho with ho
        subst ho
        simp [Obj.isCells] at hc
    case hIb =>
      rintro s W W' ⟨av, hs⟩ hg
      refine ⟨av, hs.grown hg fun r e => ?_⟩
      injection e with e
      exact ⟨by omega, by omega, by omega, by omega, fun e2 => by have := (hs.own.lt r e2).1; omega⟩
    case hAx =>
      rintro x a' _ W W' row ⟨Bx, h1, h2, h3, av, h4, h5⟩ hg hr
      have key : ∀ (k : Nat) (t : TypeId) (cs : Array Value), Blk W k t cs → Blk W' k t cs := fun k t cs hk => hk.grown hg fun e => by
        obtain ⟨_, o, ho, hc⟩ := hr k e.symm
        rw [hk] at ho
        injection ho with ho
        subst ho
        simp [Obj.isCells] at hc
      exact ⟨Bx, h1, key _ _ _ h2, h3, av, key _ _ _ h4, h5⟩
    case assign =>
      rintro l pre x W K ⟨av, hi⟩ hsz hK
      have hx := Blk.new W 88 (plC x.1)
      have hk := hK ({ tmps := (_ : Array Value), defers := [] }) (W.alloc (.cells (plC x.1) 88)) ((KeepsOthers.alloc _ _).from _) (keepS_same (fun k u hk hu => (Below.heap_alloc W _ k (heap_lt hk)).trans hk) (by simp)) ⟨av, hi.grown (World.grownBy_alloc _ _ none) (fun r e => by cases e)⟩
        ⟨W.heap.size, by omega, hx, rfl, av, hi.song.sb.alloc _, fun e => by have := (hi.own.lt _ e).2; omega⟩
      simp [encPl]
      gi_wp2
      exact hk
    case body =>
      rintro l pre x a' W ⟨av, hi⟩ ⟨Bx, hBx, bX, rfl, av0, hav0, hne0⟩ hlt
      obtain rfl : av0 = av := by
        have h1 := hi.song.sb
        unfold Blk at h1 hav0
        rw [hav0] at h1
        injection h1 with h1
        injection h1 with h1
        injection h1 with h1
        injection h1 with _ h1
        injection h1 with _ h1
        injection h1 with h1
      simp only [List.setIfInBounds_toArray, List.set_cons_succ, List.set_cons_zero]
      have hms := (mem_places.1 x.2).2
      have hmm := matched_ok w.heap.size gs d b ls la lc av0 x.1 W hi.song (fun h hh => by
        have := hms h (by rw [dsOf_len]; exact hh)
        rw [at0_ds] at this
        exact this)
      obtain ⟨m, hm⟩ : ∃ m, m = x.1 := ⟨_, rfl⟩
      have hpre : ((pre ++ [x]).map (·.1)).filter (mtB b ls) = (pre.map (·.1)).filter (mtB b ls) ++ [m].filter (mtB b ls) := by rw [List.map_append, hm, List.filter_append]; rfl
      have HPRE := Lib.hid hpre
      rw [← hm] at bX hmm
      rw [← hm]
      have hml : ((pre.map (·.1)).filter (mtB b ls)).length ≤ 4096 := Nat.le_trans (List.length_filter_le _ _) (by rw [List.length_map]; omega)
      clear hm hpre hms hav0 hlt
      generalize (pre.map (·.1)).filter (mtB b ls) = ms at *
      have t0 := hi.var.cell 0
      have p0 := bX.cell 0
      have p1 := bX.cell 1
      have p2 := bX.cell 2
      have p3 := bX.cell 3
      simp [plC] at t0 p0 p1 p2 p3
      cases hmt : mtB b ls m
      · rw [hmt] at hmm
        have hfl : [m].filter (mtB b ls) = [] := by simp [hmt]
        rw [hfl, List.append_nil] at HPRE
        gi_wp2_with fail
        refine ⟨trivial, (CallsIn.inRound _ (callsIn_wide.2 hmm)).mono ?_⟩
        rintro e W3 ⟨rfl, hb3⟩
        gi_wp2
        exact ⟨⟨hb3.size, fun k o _ hk _ => (hb3.block k (heap_lt hk)).trans hk⟩, keepS_same (fun k o hk _ => (hb3.block k (heap_lt hk)).trans hk) hb3.size, _, by rw [HPRE.out]; exact hi.call hb3⟩
      · rw [hmt] at hmm
        have hfl : [m].filter (mtB b ls) = [m] := by simp [hmt]
        rw [hfl] at HPRE
        gi_wp2_with fail
        refine ⟨trivial, (CallsIn.inRound _ (callsIn_wide.2 hmm)).mono ?_⟩
        rintro e W3 ⟨rfl, hb3⟩
        have hi3 := hi.call hb3
        have bX3 := bX.call hb3
        have hsz := hb3.size
        clear hmm t0 p0 p1 p2 p3 hfl hmt
        obtain ⟨F, hF⟩ : ∃ F : World → Prop, (∀ w', F w' ↔ (Blk w' (gs + 1) 72 #[.pointer (some ⟨gs, 0, none⟩)] ∧ Blk w' gs 78 #[.pointer (some ⟨d, 0, none⟩), .slice la ls.length lc, av0] ∧ Blk w' Bx 88 (plC m))) := ⟨_, fun _ => Iff.rfl⟩
        have hF0 : F W3.drew := (hF _).2 ⟨hi3.var.drew, hi3.song.sb.drew, bX3.drew⟩
        haveI : Nonempty (SubW F) := ⟨⟨_, hF0⟩⟩
        have f0 : ∀ z : SubW F, z.w.cell? ⟨gs + 1, 0, none⟩ = some (.pointer (some ⟨gs, 0, none⟩)) := fun z => by simpa using ((hF z.w).1 z.h).1.cell 0
        have f1 : ∀ z : SubW F, z.w.cell? ⟨gs, 2, none⟩ = some av0 := fun z => by simpa using ((hF z.w).1 z.h).2.1.cell 2
        have f2 : ∀ z : SubW F, z.w.cell? ⟨Bx, 0, none⟩ = some (.int .i64 (at0 m 0 : Int)) := fun z => by simpa [plC] using ((hF z.w).1 z.h).2.2.cell 0
        have f3 : ∀ z : SubW F, z.w.cell? ⟨Bx, 1, none⟩ = some (.int .i64 (at0 m 1 : Int)) := fun z => by simpa [plC] using ((hF z.w).1 z.h).2.2.cell 1
        have f4 : ∀ z : SubW F, z.w.cell? ⟨Bx, 2, none⟩ = some (.int .i64 (at0 m 2 : Int)) := fun z => by simpa [plC] using ((hF z.w).1 z.h).2.2.cell 2
        have f5 : ∀ z : SubW F, z.w.cell? ⟨Bx, 3, none⟩ = some (.int .i64 (at0 m 3 : Int)) := fun z => by simpa [plC] using ((hF z.w).1 z.h).2.2.cell 3
        have HF := Lib.hid hF
        clear hF
        gi_wp2
        refine wpIn_region_schedW (C := fun w' => ∃ z : SubW F, w' = z.w) [(0, true), (1, true), (2, true), (3, true), (4, true), (5, true), (6, false), (7, false), (8, false), (9, false), (10, false)] (by kernel_rfl) (by kernel_rfl) (by kernel_rfl) ⟨⟨W3.drew, hF0⟩, rfl⟩ ?_
        refine sched_q (by rfl) (by rfl) ?_
        intro K hK
        go_big_quiet_op
        go_big_quiet_on
        refine sched_q (by rfl) (by rfl) ?_
        intro K hK
        go_big_quiet_op
        go_big_quiet_on
        refine sched_q (by rfl) (by rfl) ?_
        intro K hK
        go_big_quiet_op
        go_big_quiet_on
        refine sched_q (by rfl) (by rfl) ?_
        intro K hK
        go_big_quiet_op
        go_big_quiet_on
        refine sched_q (by rfl) (by rfl) ?_
        intro K hK
        go_big_quiet_op
        go_big_quiet_on
        refine sched_q (by rfl) (by rfl) ?_
        intro K hK
        go_big_quiet_op
        go_big_quiet_on
        refine sched_c (by rfl) (by rfl) ?_
        intro K hK
        go_wp2
        have hg0 : W3.drew.grownBy (W3.drew.alloc (.cells (plC m) 88)) none := World.grownBy_alloc _ _ none
        have hF4 : F (W3.drew.alloc (.cells (plC m) 88)) := (HF.out _).2 ⟨hi3.var.drew.alloc _, hi3.song.sb.drew.alloc _, bX3.drew.alloc _⟩
        refine hK _ _ ⟨.inr ⟨⟨_, hF4⟩, rfl⟩, ?_⟩
        clear hK K
        refine sched_c (by rfl) (by rfl) ?_
        intro K hK
        refine wpList_app2 slT_pl rfl (.tmp 30) (.tmp 32) rfl (sv := av0) rfl (own_drew hi3.own) rfl rfl (one_pl m) ?_ ?_ ?_ ?_
        · have := bX3.lt
          show gs + 6 ≤ W3.heap.size
          omega
        · omega
        · omega
        intro v' w4 hown4 hg4 hat
        obtain ⟨nn, A', cap', rfl⟩ : ∃ nn A' cap', v' = .slice A' nn cap' := by obtain ⟨A', cap', h⟩ := own_form hown4; exact ⟨_, A', cap', h⟩
        have hlow : ∀ k, k < gs + 6 → some k ≠ av0.ownBlock := fun k hk e => by have := (hi3.own.lt k e.symm).1; omega
        have hlow' : ∀ k, k < gs + 6 → (Value.slice A' nn cap').ownBlock ≠ some k := fun k hk e => by have := (hown4.lt k e).1; omega
        have hF5 : F w4 := (HF.out _).2 ⟨hi3.var.drew.grown hg4 (hlow _ (by omega)), hi3.song.sb.drew.grown hg4 (hlow _ (by omega)), bX3.drew.grown hg4 fun e => hne0 e.symm⟩
        go_wp2
        refine hK _ _ ⟨.inr ⟨⟨w4, hF5⟩, rfl⟩, ?_⟩
        clear hK K
        refine sched_c (by rfl) (by rfl) ?_
        intro K hK
        go_wp2
        refine hK _ _ ⟨.inr ⟨⟨w4, hF5⟩, rfl⟩, ?_⟩
        clear hK K
        refine sched_c (by rfl) (by rfl) ?_
        intro K hK
        go_wp2
        refine hK _ _ ⟨.inr ⟨⟨w4, hF5⟩, rfl⟩, ?_⟩
        clear hK K
        refine sched_c (by rfl) (by rfl) ?_
        intro K hK
        have hfz := ((HF.out w4).1 hF5).2.1.frozen 2
        have hce := ((HF.out w4).1 hF5).2.1.cell 2
        simp at hce
        go_wp2
        refine hK _ _ ⟨(by first | exact .inl rfl | exact .inl trivial), ?_⟩
        clear hK K
        refine sched_nil ?_
        have hsb5 : Blk (w4.setCell ⟨gs, 2, none⟩ (.slice A' nn cap')) gs 78 #[.pointer (some ⟨d, 0, none⟩), .slice la ls.length lc, .slice A' nn cap'] := by simpa using (((HF.out w4).1 hF5).2.1).set_ 2 (.slice A' nn cap')
        have hown5 := own_snoc rfl (cells_pl m) hown4
        have hd3 := hi3.song.lt
        have hlo3 := hi3.song.lo
        have hsong4 : Song w4 w.heap.size gs d b ls la lc av0 := (hi3.song.call (Below.refl W3.heap.size W3).drew).grown hg4 (fun r e => by have := (hi3.own.lt r e).1; omega)
        have hvar4 := ((HF.out w4).1 hF5).1
        have hgs : w4.grownBy (w4.setCell ⟨gs, 2, none⟩ (.slice A' nn cap')) (some gs) := grown_setCell _
        have hbl3 := hi3.bl
        have hown3 := hi3.own
        have hblk : ∀ k, k < W3.heap.size → some k ≠ av0.ownBlock → k ≠ gs → (w4.setCell ⟨gs, 2, none⟩ (.slice A' nn cap')).heap[k]? = W3.heap[k]? :=
          fun k hk h1 h2 => (hgs.block k (Nat.lt_of_lt_of_le hk hg4.size) (fun e => h2 (by injection e))).trans (hg4.block k hk h1)
        have hnew : NewI w (w4.setCell ⟨gs, 2, none⟩ (.slice A' nn cap')) w.heap.size gs d (gs + 1) (gs + 6) b ls la lc (.slice A' nn cap') (ms ++ [m]) :=
          ⟨hsong4.put _, own_grown hown5 hgs (fun r e => by injection e with e; subst e; exact hlow' _ (by omega)), hvar4.grown hgs (fun e => by injection e; omega),
            ⟨hgs.os.trans (hg4.os.trans hbl3.os), hgs.tape.trans (hg4.tape.trans hbl3.tape), hgs.output.trans (hg4.output.trans hbl3.output), Nat.le_trans hbl3.size (Nat.le_trans hg4.size hgs.size), fun k hk => (hblk k (by omega) (hlow k (by omega)) (by omega)).trans (hbl3.block k hk)⟩, hi3.lo⟩
        refine ⟨⟨?_, ?_⟩, ?_, _, by rw [HPRE.out]; exact hnew⟩
        · exact Nat.le_trans hb3.size (Nat.le_trans hg4.size hgs.size)
        · intro k o hk ho hc
          have hkl : k < W.heap.size := heap_lt ho
          have h3 : W3.heap[k]? = some o := (hb3.block k hkl).trans ho
          refine (hblk k (Nat.lt_of_lt_of_le hkl hb3.size) ?_ (by omega)).trans h3
          intro he
          rcases hown3.2 with ⟨rfl, _⟩ | ⟨g', cap, cur, rfl, _, hh, _⟩
          · simp [Value.ownBlock] at he
          · simp only [Value.ownBlock, Option.some.injEq] at he
            subst he
            rw [hh] at h3
            injection h3 with h3
            subst h3
            simp [Obj.isCells] at hc
        · refine keepS_of_song hi.song.sb hsb5 (fun r e => ?_) (fun k o hk ho h1 h2 => ?_) (Nat.le_trans hb3.size (Nat.le_trans hg4.size hgs.size))
          · rcases hat r e with q | q
            · exact .inl q
            · exact .inr (Nat.le_trans hsz q)
          · have hkl := heap_lt hk
            exact (hblk k (by omega) (fun e => h2 e.symm) h1).trans ((hb3.block k hkl).trans hk)
    case done =>
      rintro D xs W hD hS ⟨av, hi⟩ hdf
      rw [hS] at hi
      have hm : (placesL (dsOf ls)).filter (mtB b ls) = matsOf b ls := rfl
      rw [hm] at hi
      have hin := hi.grown (grownBy_putObj' W D (.deferred none)) (fun r e => by
        injection e with e
        subst e
        refine ⟨by omega, by omega, by omega, by omega, fun e2 => ?_⟩
        rcases hi.own.2 with ⟨rfl, _⟩ | ⟨g', cap, cur, rfl, _, hh, _⟩
        · simp [Value.ownBlock] at e2
        · simp only [Value.ownBlock, Option.some.injEq] at e2
          subst e2
          rw [hh] at hdf
          cases hdf)
      have t0 := hi.var.cell 0
      simp at t0
      obtain ⟨A, cap, rfl⟩ := own_form hi.own
      go_wp2
      refine ⟨by simp, .inl ⟨_, _, rfl, run_takeDeferred hdf, ?_⟩⟩
      exact ⟨.tuple #[.pointer (some ⟨gs, 0, none⟩), .int .i64 0], by simp [results, Try.results52, go_sem], hin.bl, .inr ⟨HE.out, gs, d, A, cap, rfl, hin.song, Arr.of_own hin.own⟩⟩
  · have d0 : (checkLines b ls != 0) = true := by simp [he]
    have HE := Lib.hid he
    go_wp2
    exact ⟨.tuple #[.pointer none, .int .i64 (checkLines b ls)], by simp [results, Try.results52, go_sem], hB1, .inl ⟨HE.out, rfl⟩⟩
end Go.Proofs.Ytgngpdnppdbgoaa
