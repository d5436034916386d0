/- Contract: play.Kinds. -/
import Derived.Test.YthplabmbbfefeaaPlayH
import Derived.Test.YthplabmbbfefeaaKnd
import Derived.Laws.EntriesVeiled
namespace Go.Proofs.Ythplabmbbfefeaa
open Go.RowKit Go.Shelf
set_option linter.unusedVariables false

theorem kindLit_ok (k i : Nat) (x : Int) (B g ib bb yb : Nat) (c : Cyl) (p : Pas) (V : Nat → Nat → Int) (m : Value) (w : World) (h : BoardAt w B g c V m) (hp : c.pas[k]? = some p) (hx : -100000 ≤ x ∧ x ≤ 100000) (hw : 0 ≤ p.w ∧ p.w ≤ 1000) (hi : i ≤ 1000) (hk : k ≤ 1000)
    (h0 : w.cell? ⟨ib, 0, none⟩ = some (.int .i64 i)) (h1 : w.cell? ⟨bb, 0, none⟩ = some (.pointer (some ⟨g, 0, none⟩))) (h2 : w.cell? ⟨yb, 0, none⟩ = some (.int .i64 x)) :
    Calls Try.prog 60 #[.int .i64 k, .pointer (some ⟨ib, 0, none⟩), .pointer (some ⟨bb, 0, none⟩), .pointer (some ⟨yb, 0, none⟩)] w fun r w' => r = .returned (.int .i64 (addW (ownW c.pas) i x k)) ∧ Below w.heap.size w w' := by
  obtain ⟨hx1, hx2⟩ := hx
  obtain ⟨hw1, hw2⟩ := hw
  have hown : Hid (ownW c.pas k = p.w) := ownW_get hp
  by_cases hki : k = i
  · have hA : Hid (addW (ownW c.pas) i x k = p.w + x) := by rw [Hid, addW, if_pos hki, hown.out]
    have d1 : ((k : Int) == (i : Int)) = true := by simp; omega
    have d2 : (k == i) = true := by simpa using hki
    have f0 := Ext.of h0
    have f1 := Ext.of h1
    have f2 := Ext.of h2
    have e1 : IntKind.i64.wrap (p.w + x) = p.w + x := wrap_id _ (by omega) (by omega)
    have hob : ∀ y : Ext w, BoardAt y.w B g c V m := fun y => h.elim fun a h => h.elim fun b h => h.elim fun d h => h.elim fun e h => ⟨a, b, d, e, h.call y.h⟩
    have HO := Lib.hid (fun y : Ext w => ext_call y (own_ok k B g c p V m y.w (hob y) hp))
    clear hp hob hki
    go_enter Try.func60, Try.ntmps60
    go_upto_region 2 with (fail)
    refine wp_region_ext (by kernel_rfl) (by kernel_rfl) ?_
    repeat (go_big_quiet_step ((go_at_call 52; exact HO.out _)))
    refine wpQuiet_nil ?_
    intro _ hw'
    obtain ⟨xr, hw''⟩ := hw'
    subst hw''
    go_wp2
    go_ret
    exact ⟨by rw [hA.out]; rfl, xr.h⟩
  · have hA : Hid (addW (ownW c.pas) i x k = p.w) := by rw [Hid, addW, if_neg hki, hown.out]
    have d1 : ((k : Int) == (i : Int)) = false := by simp; omega
    have d2 : (k == i) = false := by simpa using hki
    have HO := Lib.hid (own_ok k B g c p V m w h hp)
    clear hp hki
    go_enter Try.func60, Try.ntmps60
    go_wp2_with fail
    refine (HO.out).mono ?_
    rintro e w1 ⟨rfl, hb1⟩
    go_wp2
    go_ret
    exact ⟨by rw [hA.out]; rfl, hb1⟩

theorem gives_lit (w : World) (B g ib bb yb i : Nat) (x : Int) (c : Cyl) (hall : c.pas.all (pasOk c.turns) = true) (hlen : c.pas.length ≤ 12) (hx : -100000 ≤ x ∧ x ≤ 100000) (hi : i ≤ 1000) (h1 : ib ≠ g) (h2 : bb ≠ g) (h3 : yb ≠ g)
    (b1 : Blk w ib 3 #[.int .i64 i]) (b2 : Blk w bb 78 #[.pointer (some ⟨g, 0, none⟩)]) (b3 : Blk w yb 2 #[.int .i64 x]) :
    Gives w B g c 60 #[] #[.pointer (some ⟨ib, 0, none⟩), .pointer (some ⟨bb, 0, none⟩), .pointer (some ⟨yb, 0, none⟩)] c.pas.length (addW (ownW c.pas) i x) := by
  refine ⟨enters_of Try.func60 (by kernel_rfl) rfl, fun k hk w1 V m hg hb => ?_⟩
  obtain ⟨p, hp⟩ : ∃ p, c.pas[k]? = some p := ⟨c.pas[k], List.getElem?_eq_getElem hk⟩
  have hf := pas_fit hall p (List.mem_of_getElem? hp)
  exact kindLit_ok k i x B g ib bb yb c p V m w1 hb hp hx ⟨hf.2.2.2.1, hf.2.2.2.2⟩ hi (by omega) ((b1.grown hg (by simp; exact h1)).cell 0) ((b2.grown hg (by simp; exact h2)).cell 0) ((b3.grown hg (by simp; exact h3)).cell 0)

set_option maxRecDepth 100000 in
set_option maxHeartbeats 1600000 in
theorem changed_ok (x : Int) (B g ib bb i : Nat) (c : Cyl) (V : Nat → Nat → Int) (m : Value) (w : World) (h : BoardAt w B g c V m) (h0 : checkCyl c = 0) (hx : -90000 ≤ x ∧ x ≤ 90000) (hi : i ≤ 1000) (h1 : ib ≠ g) (h2 : bb ≠ g)
    (b1 : Blk w ib 3 #[.int .i64 i]) (b2 : Blk w bb 78 #[.pointer (some ⟨g, 0, none⟩)]) :
    Calls Try.prog 59 #[.int .i64 x, .pointer (some ⟨bb, 0, none⟩), .pointer (some ⟨ib, 0, none⟩)] w fun r w' => r = .returned (.int .i64 (tabC c (addW (ownW c.pas) i x) (tT c) (tK c))) ∧ (∃ V' m', BoardAt w' B g c V' m') ∧ w.grownBy w' (some g) := by
  obtain ⟨_, _, hlen, hall⟩ := cyl_valid h0
  obtain ⟨n1, n2, n3, n4, n5, n6, n7⟩ := cyl_nat h0
  have N1 := Lib.hid n1
  have N2 := Lib.hid n2
  have HALL := Lib.hid hall
  have hgl : g < w.heap.size := h.elim fun a h => h.elim fun b h => h.elim fun d h => h.elim fun e h => h.blk.lt
  have hy := Blk.new w 2 #[.int .i64 x]
  have hby := (Below.refl w.heap.size w).alloc (Nat.le_refl _) (.cells #[.int .i64 x] 2)
  have c1 := b1.call hby
  have c2 := b2.call hby
  have hbd : BoardAt (w.alloc (.cells #[.int .i64 x] 2)) B g c V m := h.elim fun a h => h.elim fun b h => h.elim fun d h => h.elim fun e h => ⟨a, b, d, e, h.call hby⟩
  clear n1 n2 hall h0
  go_enter Try.func59, Try.ntmps59
  go_upto_region 1 with (fail)
  generalize w.alloc (.cells #[.int .i64 x] 2) = w1 at *
  have hg := gives_lit w1 B g ib bb w.heap.size i x c HALL.out hlen (by omega) hi h1 h2 (by omega) c1 c2 hy
  have HG := Lib.hid hg
  clear hg
  have z1 := c2.cell 0
  simp at z1
  go_wp2_with fail
  refine (fill_ok (tT c) (tK c) B g c N1.out n4 (by have := N1.out; omega) N2.out n5 V m w1 hbd 60 _ _ (addW (ownW c.pas) i x) HG.out (fun j => by have := ownW_bound HALL.out j; unfold addW; split <;> omega) hlen).mono ?_
  rintro e w2 ⟨rfl, gm, hgm, hbd2, hm2, hgr2⟩
  have c3 := c2.grown hgr2 (by simp; exact h2)
  have z2 := c3.cell 0
  simp at z2
  clear z1
  go_wp2_with fail
  refine (most_ok B g (tT c) (tK c) c _ _ w2 hbd2 (by omega) (by omega) N1.out N2.out).mono ?_
  rintro e w3 ⟨rfl, hb3⟩
  go_wp2
  go_ret
  refine ⟨rfl, ⟨_, _, hbd2.elim fun a h => h.elim fun b h => h.elim fun d h => h.elim fun e h => ⟨a, b, d, e, h.call hb3⟩⟩, ?_⟩
  exact grown_trans' (grown_trans' (grown_call hby _) hgr2) (grown_call hb3 _)
end Go.Proofs.Ythplabmbbfefeaa
