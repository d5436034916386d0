/- The table: its cells. Contracts of the table: end, meets. Maps whose keys are structs of two ints. How joins go on: lists of step numbers, in order; how many there are. Nothing of the program is imported here. The join with a number; the number of a join. Nothing of the program is imported here. The lists that go on from a state: what they are, their order, how many have a pair. Nothing of the program is imported here. The table with its lists and its maps, as the methods see it. Two rows of sixteen numbers, compared. Contracts of the table: on, behind. Contracts of the table: behind, and its first inner function. The iterator that behind returns. -/
import Derived.Test.YtibmeigdjghkcaaGreatSl2
import Derived.Test.YtibmeigdjghkcaaGreatRf2
import Derived.Test.YtibmeigdjghkcaaGreatSch
import Derived.Test.YtibmeigdjghkcaaGreatGenM
import Derived.Laws.StructEq
import Derived.Test.YtibmeigdjghkcaaGreatPure
import Derived.Laws.EntriesVeiled
namespace Go.Proofs.YtibmeigdjghkcaaGreat.J
open Go.RowKit Go.Shelf
set_option linter.unusedVariables false
def fcell (V:Nat→Nat→Int) (i:Nat):Value := .int .i64 (V (i / 16) (i % 16))
def tcells (c:Cyl) (pa:Option Addr) (pc:Nat) (sv:Value) (V:Nat→Nat→Int) (ga gu:Nat):Array Value :=
 #[.slice pa c.pcs.length pc,.int .i64 c.off,.int .i64 c.slo,.int .i64 c.shi,sv]++((List.range 256).map (fcell V)).toArray++#[.map (some ga),.map (some gu)]
theorem tcells_zero (p:Value) (o l h:Int) (a u:Value) :
  ((((((Tryz.zeroCells227.setIfInBounds 0 p).setIfInBounds 1 (.int .i64 o)).setIfInBounds 2 (.int .i64 l)).setIfInBounds 3 (.int .i64 h)).setIfInBounds 261 a).setIfInBounds 262 u) =
  #[p,.int .i64 o,.int .i64 l,.int .i64 h,.slice none 0 0]++((List.range 256).map (fcell fun _ _=>0)).toArray++#[a,u]:=by
 kernel_rfl
section
variable {c:Cyl} {pa:Option Addr} {pc ga gu:Nat} {sv sv':Value} {V V':Nat→Nat→Int}
theorem tcells_size:(tcells c pa pc sv V ga gu).size=263:=by simp [tcells]
theorem tget (i:Nat) :
  (tcells c pa pc sv V ga gu)[i]? = if i < 5 then (#[.slice pa c.pcs.length pc,.int .i64 c.off,.int .i64 c.slo,.int .i64 c.shi,sv]:Array Value)[i]? else if i < 261 then some (fcell V (i-5)) else if i=261 then some (.map (some ga)) else if i=262 then some (.map (some gu)) else none:=by
 have hs1:(#[.slice pa c.pcs.length pc,.int .i64 c.off,.int .i64 c.slo,.int .i64 c.shi,sv]:Array Value).size=5:=rfl
 have hs2:(((List.range 256).map (fcell V)).toArray).size=256:=by simp
 unfold tcells
 by_cases h5:i < 5
 ·rw [if_pos h5,Array.getElem?_append_left (by rw [Array.size_append,hs1,hs2]; omega),Array.getElem?_append_left (by rw [hs1]; omega)]
 ·rw [if_neg h5]
  by_cases h6:i < 261
  ·rw [if_pos h6,Array.getElem?_append_left (by rw [Array.size_append,hs1,hs2]; omega),Array.getElem?_append_right (by rw [hs1]; omega),hs1]
   simp only [List.getElem?_toArray,List.getElem?_map]
   rw [List.getElem?_range (by omega)]
   rfl
  ·rw [if_neg h6,Array.getElem?_append_right (by rw [Array.size_append,hs1,hs2]; omega),Array.size_append,hs1,hs2]
   by_cases h7:i=261
   ·rw [if_pos h7,h7]; rfl
   ·rw [if_neg h7]
    by_cases h8:i=262
    ·rw [if_pos h8,h8]; rfl
    ·rw [if_neg h8]
     exact Array.getElem?_eq_none (by simp; omega)
theorem tc_row (i k:Nat) (hi:i < 16) (hk:k < 16):(tcells c pa pc sv V ga gu)[5+i * 16+k]? = some (.int .i64 (V i k)):=by
 have h2:(5+i * 16+k-5) / 16=i:=by omega
 have h3:(5+i * 16+k-5) % 16=k:=by omega
 rw [tget,if_neg (by omega),if_pos (by omega),fcell,h2,h3]
theorem tc_set (i k:Nat) (x:Int) (hi:i < 16) (hk:k < 16) (hV:∀ i' k',i' < 16→k' < 16→V' i' k'=if i'=i∧k'=k then x else V i' k') :
  (tcells c pa pc sv V ga gu).setIfInBounds (5+i * 16+k) (.int .i64 x)=tcells c pa pc sv V' ga gu:=by
 apply Array.ext_getElem?
 intro j
 rw [Array.getElem?_setIfInBounds,tget,tget,tcells_size]
 by_cases hj:5+i * 16+k=j
 ·subst hj
  have h2:(5+i * 16+k-5) / 16=i:=by omega
  have h3:(5+i * 16+k-5) % 16=k:=by omega
  rw [if_pos rfl,if_pos (by omega),if_neg (by omega),if_pos (by omega),fcell,h2,h3,hV i k hi hk,if_pos ⟨rfl,rfl⟩]
 ·rw [if_neg hj]
  by_cases h5:j < 5
  ·rw [if_pos h5,if_pos h5]
  ·rw [if_neg h5,if_neg h5]
   by_cases h6:j < 261
   ·rw [if_pos h6,if_pos h6,fcell,fcell,hV _ _ (by omega) (by omega),if_neg (by omega)]
   ·rw [if_neg h6,if_neg h6]
theorem tc_sets:(tcells c pa pc sv V ga gu).setIfInBounds 4 sv'=tcells c pa pc sv' V ga gu:=by
 apply Array.ext_getElem?
 intro j
 rw [Array.getElem?_setIfInBounds,tget,tget,tcells_size]
 by_cases hj:4=j
 ·subst hj
  rw [if_pos rfl,if_pos (by omega),if_pos (by omega)]; rfl
 ·rw [if_neg hj]
  by_cases h5:j < 5
  ·rw [if_pos h5,if_pos h5]
   rcases j with _ | _ | _ | _ | _ | j
   ·rfl
   ·rfl
   ·rfl
   ·rfl
   ·omega
   ·omega
  ·rw [if_neg h5,if_neg h5]
end
def TC (W:World) (g:Nat) (c:Cyl) (pa:Option Addr) (pc:Nat) (sv:Value) (V:Nat→Nat→Int) (ga gu:Nat):Prop:=Blk W g 227 (tcells c pa pc sv V ga gu)
section
variable {W W':World} {g pc ga gu:Nat} {c:Cyl} {pa:Option Addr} {sv sv':Value} {V V':Nat→Nat→Int}
theorem TC.c5 (h:TC W g c pa pc sv V ga gu) :
  W.cell? ⟨g,0,none⟩=some (.slice pa c.pcs.length pc)∧W.cell? ⟨g,1,none⟩=some (.int .i64 c.off)∧W.cell? ⟨g,2,none⟩=some (.int .i64 c.slo)∧W.cell? ⟨g,3,none⟩=some (.int .i64 c.shi)∧W.cell? ⟨g,4,none⟩=some sv:=by
 refine ⟨?_,?_,?_,?_,?_⟩ <;> (rw [Blk.cell h,tget]; rfl)
theorem TC.at_ (h:TC W g c pa pc sv V ga gu) {i k:Nat} (hi:i < 16) (hk:k < 16):W.cell? ⟨g,5+i * 16+k,none⟩=some (.int .i64 (V i k)):=by
 rw [Blk.cell h]; exact tc_row i k hi hk
theorem TC.ma (h:TC W g c pa pc sv V ga gu):W.cell? ⟨g,261,none⟩=some (.map (some ga)):=by
 rw [Blk.cell h,tget]; rfl
theorem TC.mu (h:TC W g c pa pc sv V ga gu):W.cell? ⟨g,262,none⟩=some (.map (some gu)):=by
 rw [Blk.cell h,tget]; rfl
theorem TC.frozen (h:TC W g c pa pc sv V ga gu) (i:Nat):W.frozen? ⟨g,i,none⟩=false:=Blk.frozen h i
theorem TC.lt (h:TC W g c pa pc sv V ga gu):g < W.heap.size:=Blk.lt h
theorem TC.call (h:TC W g c pa pc sv V ga gu) (hb:Below W.heap.size W W'):TC W' g c pa pc sv V ga gu:=Blk.call h hb
theorem TC.belowB {B:Nat} (h:TC W g c pa pc sv V ga gu) (hb:Below B W W') (hg:g < B):TC W' g c pa pc sv V ga gu:=Blk.below h hb hg
theorem TC.set_ (h:TC W g c pa pc sv V ga gu) {i k:Nat} {x:Int} (hi:i < 16) (hk:k < 16) (hV:∀ i' k',i' < 16→k' < 16→V' i' k'=if i'=i∧k'=k then x else V i' k') :
  TC (W.setCell ⟨g,5+i * 16+k,none⟩ (.int .i64 x)) g c pa pc sv V' ga gu:=by
 unfold TC
 rw [← tc_set (V:=V) i k x hi hk hV]
 exact Blk.set_ h _ _
theorem TC.sets (h:TC W g c pa pc sv V ga gu) (sv':Value):TC (W.setCell ⟨g,4,none⟩ sv') g c pa pc sv' V ga gu:=by
 unfold TC
 rw [← tc_sets (sv:=sv)]
 exact Blk.set_ h _ _
theorem TC.far (h:TC W g c pa pc sv V ga gu) {p:Addr} (hp:g≠p.block) (u:Value):TC (W.setCell p u) g c pa pc sv V ga gu:=Blk.far h hp u
end
end Go.Proofs.YtibmeigdjghkcaaGreat.J
namespace Go.Proofs.YtibmeigdjghkcaaGreat.J
open Go.RowKit Go.Shelf
set_option linter.unusedVariables false
def endOf (c:Cyl) (s:St) (wb:Bool):En:=if wb then fin c s else beg c s
theorem endOf_eq (c:Cyl) (k:Nat) (t wb:Bool) {p:Pc} (h:c.pcs[k]? = some p):endOf c ⟨k,t⟩ wb=if (t==wb)=true then p.a else p.b:=by
 have hp:pcAt c (k:Int)=p:=by unfold pcAt; rw [Int.toNat_natCast,h]; rfl
 unfold endOf beg fin
 rw [hp]
 cases t <;> cases wb <;> rfl
set_option maxRecDepth 100000 in
set_option maxHeartbeats 1600000 in
theorem end_ok (c:Cyl) (k:Nat) (t wb:Bool) (g B pc ga gu:Nat) (pa:Option Addr) (sv:Value) (V:Nat→Nat→Int) (w:World) (hT:TC w g c pa pc sv V ga gu) (hp:Arr w B 7 (.slice pa c.pcs.length pc) c.pcs pccell) (hB:B≤w.heap.size) (hk:k < c.pcs.length) (hlen:c.pcs.length≤8) :
  Calls Tryz.prog 219 #[.pointer (some ⟨g,0,none⟩),.agg #[.int .i64 (k:Int),.bool t],.int .i64 (if wb then 1 else 0)] w fun r w'=>r = .returned (enV (endOf c ⟨k,t⟩ wb))∧Below w.heap.size w w':=by
 have hb:=(Below.refl w.heap.size w).alloc (Nat.le_refl _) (.cells #[.int .i64 (k:Int),.bool t] 53)
 have hS:=Blk.new w 53 #[.int .i64 (k:Int),.bool t]
 have hT1:=hT.call hb
 have hp1:=(hp.more hB).below hb
 have hz:(w.alloc (.cells #[.int .i64 (k:Int),.bool t] 53)).heap.size=w.heap.size+1:=by simp
 have hg:=hT.lt
 clear hT hp
 go_enter Tryz.func219,Tryz.ntmps219
 go_upto_region 1 with (fail)
 generalize w.alloc (.cells #[.int .i64 (k:Int),.bool t] 53)=W at *
 have hbA:=(Below.refl W.heap.size W).alloc (Nat.le_refl _) (.cells #[.int .i64 0,.int .i64 0,.int .i64 0] 193)
 have hR:=Blk.new W 193 #[.int .i64 0,.int .i64 0,.int .i64 0]
 rw [hz] at hR
 replace hT1:=hT1.call hbA
 replace hS:=hS.call hbA
 replace hp1:=hp1.below (hbA.mono hb.size)
 replace hb:=hb.trans (hbA.mono hb.size)
 clear hbA hz
 generalize W.alloc (.cells #[.int .i64 0,.int .i64 0,.int .i64 0] 193)=W2 at *
 obtain ⟨b,off,p,hpa,hpb,hp1',c0,c1,c2,c3,c4,c5,c6⟩:=piece_at hp1 hk
 subst hpa
 have HE:Hid (endOf c ⟨k,t⟩ wb=if (t==wb)=true then p.a else p.b):=endOf_eq c k t wb hp1'
 obtain ⟨q0,q1,q2,q3,q4⟩:=hT1.c5
 have s0:=hS.cell 0
 have s1:=hS.cell 1
 simp at s0 s1
 have r0:=hR.cell 0
 have r1:=hR.cell 1
 have r2:=hR.cell 2
 simp at r0 r1 r2
 have hrz:=fun i=>hR.frozen i
 have a1:(k:Int) < (c.pcs.length:Int):=by omega
 clear hp1 hp1'
 cases t
 ·cases wb
  ·simp only [if_true,if_false,Bool.false_eq_true,reduceIte]
   go_upto_region 3 with (fail)
   go_wp2_with fail
   go_still_tail 12,(by kernel_rfl)
   change wpList _ _ _ _ _ (W2).drew
   go_wp2
   have hR2:=hR.put3 (.int .i64 p.a.lo) (.int .i64 p.a.hi) (.int .i64 p.a.pl)
   have hb2:=below_put3 (g:=w.heap.size+1) hb (by omega) (.int .i64 p.a.lo) (.int .i64 p.a.hi) (.int .i64 p.a.pl)
   replace hR2:=hR2.drew
   replace hb2:=hb2.drew
   clear hR hrz r0 r1 r2
   generalize (((W2.setCell ⟨w.heap.size+1,0,none⟩ (.int .i64 p.a.lo)).setCell ⟨w.heap.size+1,1,none⟩ (.int .i64 p.a.hi)).setCell ⟨w.heap.size+1,2,none⟩ (.int .i64 p.a.pl)).drew=W3 at *
   have t0:=hR2.cell 0
   have t1:=hR2.cell 1
   have t2:=hR2.cell 2
   simp at t0 t1 t2
   exact bodyPost_ret (v:=enV p.a) (by simp [results,Tryz.results219,go_sem,t0,t1,t2,enV]) rfl ⟨by rw [HE.out]; rfl,hb2⟩
  ·simp only [if_true,if_false,Bool.false_eq_true,reduceIte]
   go_upto_region 3 with (fail)
   go_wp2_with fail
   go_still_tail 12,(by kernel_rfl)
   change wpList _ _ _ _ _ (W2).drew
   go_wp2
   have hR2:=hR.put3 (.int .i64 p.b.lo) (.int .i64 p.b.hi) (.int .i64 p.b.pl)
   have hb2:=below_put3 (g:=w.heap.size+1) hb (by omega) (.int .i64 p.b.lo) (.int .i64 p.b.hi) (.int .i64 p.b.pl)
   replace hR2:=hR2.drew
   replace hb2:=hb2.drew
   clear hR hrz r0 r1 r2
   generalize (((W2.setCell ⟨w.heap.size+1,0,none⟩ (.int .i64 p.b.lo)).setCell ⟨w.heap.size+1,1,none⟩ (.int .i64 p.b.hi)).setCell ⟨w.heap.size+1,2,none⟩ (.int .i64 p.b.pl)).drew=W3 at *
   have t0:=hR2.cell 0
   have t1:=hR2.cell 1
   have t2:=hR2.cell 2
   simp at t0 t1 t2
   exact bodyPost_ret (v:=enV p.b) (by simp [results,Tryz.results219,go_sem,t0,t1,t2,enV]) rfl ⟨by rw [HE.out]; rfl,hb2⟩
 ·cases wb
  ·simp only [if_true,if_false,Bool.false_eq_true,reduceIte]
   go_upto_region 3 with (fail)
   go_wp2_with fail
   go_still_tail 12,(by kernel_rfl)
   change wpList _ _ _ _ _ (W2).drew
   go_wp2
   have hR2:=hR.put3 (.int .i64 p.b.lo) (.int .i64 p.b.hi) (.int .i64 p.b.pl)
   have hb2:=below_put3 (g:=w.heap.size+1) hb (by omega) (.int .i64 p.b.lo) (.int .i64 p.b.hi) (.int .i64 p.b.pl)
   replace hR2:=hR2.drew
   replace hb2:=hb2.drew
   clear hR hrz r0 r1 r2
   generalize (((W2.setCell ⟨w.heap.size+1,0,none⟩ (.int .i64 p.b.lo)).setCell ⟨w.heap.size+1,1,none⟩ (.int .i64 p.b.hi)).setCell ⟨w.heap.size+1,2,none⟩ (.int .i64 p.b.pl)).drew=W3 at *
   have t0:=hR2.cell 0
   have t1:=hR2.cell 1
   have t2:=hR2.cell 2
   simp at t0 t1 t2
   exact bodyPost_ret (v:=enV p.b) (by simp [results,Tryz.results219,go_sem,t0,t1,t2,enV]) rfl ⟨by rw [HE.out]; rfl,hb2⟩
  ·simp only [if_true,if_false,Bool.false_eq_true,reduceIte]
   go_upto_region 3 with (fail)
   go_wp2_with fail
   go_still_tail 12,(by kernel_rfl)
   change wpList _ _ _ _ _ (W2).drew
   go_wp2
   have hR2:=hR.put3 (.int .i64 p.a.lo) (.int .i64 p.a.hi) (.int .i64 p.a.pl)
   have hb2:=below_put3 (g:=w.heap.size+1) hb (by omega) (.int .i64 p.a.lo) (.int .i64 p.a.hi) (.int .i64 p.a.pl)
   replace hR2:=hR2.drew
   replace hb2:=hb2.drew
   clear hR hrz r0 r1 r2
   generalize (((W2.setCell ⟨w.heap.size+1,0,none⟩ (.int .i64 p.a.lo)).setCell ⟨w.heap.size+1,1,none⟩ (.int .i64 p.a.hi)).setCell ⟨w.heap.size+1,2,none⟩ (.int .i64 p.a.pl)).drew=W3 at *
   have t0:=hR2.cell 0
   have t1:=hR2.cell 1
   have t2:=hR2.cell 2
   simp at t0 t1 t2
   exact bodyPost_ret (v:=enV p.a) (by simp [results,Tryz.results219,go_sem,t0,t1,t2,enV]) rfl ⟨by rw [HE.out]; rfl,hb2⟩
set_option maxRecDepth 100000 in
set_option maxHeartbeats 1600000 in
theorem meets_ok (c:Cyl) (x y:En) (g pc ga gu:Nat) (pa:Option Addr) (sv:Value) (V:Nat→Nat→Int) (w:World) (hT:TC w g c pa pc sv V ga gu) (hx:BdE x) (hy:BdE y) :
  Calls Tryz.prog 218 #[.pointer (some ⟨g,0,none⟩),enV x,enV y] w fun r w'=>r = .returned (.bool (meets c x y))∧Below w.heap.size w w':=by
 obtain ⟨⟨hx1,hx2,hx3⟩,hx4,hx5⟩:=hx
 obtain ⟨⟨hy1,hy2,hy3⟩,hy4,hy5⟩:=hy
 have hb:=(Below.refl w.heap.size w).alloc (Nat.le_refl _) (.cells #[.int .i64 x.lo,.int .i64 x.hi,.int .i64 x.pl] 193)
 have hX:=Blk.new w 193 #[.int .i64 x.lo,.int .i64 x.hi,.int .i64 x.pl]
 have hT1:=hT.call hb
 have hz:(w.alloc (.cells #[.int .i64 x.lo,.int .i64 x.hi,.int .i64 x.pl] 193)).heap.size=w.heap.size+1:=by simp
 have hg:=hT.lt
 clear hT
 go_enter Tryz.func218,Tryz.ntmps218
 go_upto_region 1 with (fail)
 generalize w.alloc (.cells #[.int .i64 x.lo,.int .i64 x.hi,.int .i64 x.pl] 193)=W at *
 have hbA:=(Below.refl W.heap.size W).alloc (Nat.le_refl _) (.cells #[.int .i64 y.lo,.int .i64 y.hi,.int .i64 y.pl] 193)
 have hY:=Blk.new W 193 #[.int .i64 y.lo,.int .i64 y.hi,.int .i64 y.pl]
 rw [hz] at hY
 replace hT1:=hT1.call hbA
 replace hX:=hX.call hbA
 replace hb:=hb.trans (hbA.mono hb.size)
 clear hbA hz
 generalize W.alloc (.cells #[.int .i64 y.lo,.int .i64 y.hi,.int .i64 y.pl] 193)=W2 at *
 obtain ⟨q0,q1,q2,q3,q4⟩:=hT1.c5
 have x0:=hX.cell 0
 have x1:=hX.cell 1
 have x2:=hX.cell 2
 have y0:=hY.cell 0
 have y1:=hY.cell 1
 have y2:=hY.cell 2
 simp at x0 x1 x2 y0 y1 y2
 have e1:IntKind.i64.wrap (y.pl-x.pl)=y.pl-x.pl:=by rw [IntKind.wrap_i64]; omega
 have e2:IntKind.i64.wrap (x.lo-y.hi)=x.lo-y.hi:=by rw [IntKind.wrap_i64]; omega
 have e3:IntKind.i64.wrap (y.lo-x.hi)=y.lo-x.hi:=by rw [IntKind.wrap_i64]; omega
 have HQ:Hid (meets c x y=true↔((x.lo-y.hi≤c.off∧y.lo-x.hi≤c.off)∧c.slo≤y.pl-x.pl)∧y.pl-x.pl≤c.shi):=by
  rw [Hid,meets]
  simp only [Bool.and_eq_true,decide_eq_true_eq]
 clear hX hY hT1 hx1 hx2 hx3 hx4 hx5 hy1 hy2 hy3 hy4 hy5
 go_wp2
 all_goals go_ret
 all_goals refine ⟨ret_b ?_,hb⟩
 all_goals (rw [Bool.eq_iff_iff,HQ.out]; simp; omega)
end Go.Proofs.YtibmeigdjghkcaaGreat.J
namespace Go.Proofs.YtibmeigdjghkcaaGreat.J
open Go.RowKit Go.Shelf
set_option linter.unusedVariables false
abbrev kv (a b:Int):Value := .agg #[.int .i64 a,.int .i64 b]
structure KeyII (k:TypeId):Prop where
 und:∃ fs,Tryz.prog.underlying k=some (.struct fs)
 eq:∀ a b c d w,(Op.equal k (kv a b) (kv c d)).run Tryz.prog w = .ok (a==c&&b==d) w
 ck:∀ e a b w,(Instr.checkKey e 10000 k (kv a b)).run Tryz.prog w = .ok () w
def findII (a b:Int):List (Int×Int×Value)→Nat→Option (Nat×Value)
 | [],_=>none
 | x::l,i=>if (a==x.1&&b==x.2.1)=true then some (i,x.2.2) else findII a b l (i+1)
def entriesOf (es:List MapEntry) (l:List (Int×Int×Value)):Prop:=es.map (fun e=>(e.key,e.val))=l.map fun x=>(kv x.1 x.2.1,x.2.2)
theorem run_findAsking {k:TypeId} (K:KeyII k) (a b:Int) (w:World):∀ (es:List MapEntry) (l:List (Int×Int×Value)) (i:Nat),entriesOf es l →
  (Instr.findAsking k (kv a b) es i).run Tryz.prog w = .ok (findII a b l i) w
 | [],[],i,_=>by simp [Instr.findAsking,findII]
 | [],x::l,i,h=>by simp [entriesOf] at h
 | e::es,[],i,h=>by simp [entriesOf] at h
 | e::es,x::l,i,h=>by
   simp only [entriesOf,List.map_cons,List.cons.injEq,Prod.mk.injEq] at h
   obtain ⟨⟨h1,h2⟩,h3⟩:=h
   have ih:=run_findAsking K a b w es l (i+1) h3
   simp only [Instr.findAsking,Sem.run_bind,h1,K.eq,Result.andThen_ok,findII]
   cases hh:(a==x.1&&b==x.2.1)
   ·simpa [hh] using ih
   ·simp [h2]
theorem run_findKey {k:TypeId} (K:KeyII k) (a b:Int) (w:World) (es:List MapEntry) (l:List (Int×Int×Value)) (h:entriesOf es l) :
  (Instr.findKey k (kv a b) es).run Tryz.prog w = .ok (findII a b l 0) w:=by
 obtain ⟨fs,hu⟩:=K.und
 simp only [Instr.findKey,Sem.run_bind,run_underlying hu,Result.andThen_ok]
 cases es with
 | nil =>
   cases l with
   | nil=>simp [Instr.findNow,findII]
   | cons x l=>simp [entriesOf] at h
 | cons e es =>
   have:Instr.findNow (.struct fs) (kv a b) (e::es) 0=none:=by simp [Instr.findNow,Instr.sameNow]
   rw [this]
   exact run_findAsking K a b w (e::es) l 0 h
def MapOf (w:World) (g:Nat) (B:Int→Int→Option Value):Prop :=
 ∃ es clock l,w.heap[g]? = some (.map es clock)∧entriesOf es.toList l∧∀ a b,(findII a b l 0).map (·.2)=B a b
def putMap (w:World) (g:Nat) (es:Array MapEntry) (clock:Nat):World:={ w with heap:=w.heap.setIfInBounds g (.map es clock) }
theorem MapOf.lt {w:World} {g:Nat} {B:Int→Int→Option Value} (h:MapOf w g B):g < w.heap.size:=by
 obtain ⟨es,clock,l,h1,_⟩:=h
 rcases Nat.lt_or_ge g w.heap.size with hl | hl
 ·exact hl
 ·rw [Array.getElem?_eq_none hl] at h1; cases h1
theorem MapOf.heap {w w':World} {g:Nat} {B:Int→Int→Option Value} (h:MapOf w g B) (hh:w'.heap[g]? = w.heap[g]?):MapOf w' g B:=by
 obtain ⟨es,clock,l,h1,h2⟩:=h
 exact ⟨es,clock,l,hh.trans h1,h2⟩
theorem MapOf.new (w:World):MapOf (w.alloc (.map #[] 0)) w.heap.size fun _ _=>none :=
 ⟨#[],0,[],by unfold World.alloc; simp,rfl,fun _ _=>rfl⟩
theorem findII_append (a b:Int) (y:Int×Int×Value):∀ (l:List (Int×Int×Value)) (i:Nat),findII a b l i=none→(findII a b (l++[y]) i).map (·.2)=if (a==y.1&&b==y.2.1)=true then some y.2.2 else none
 | [],i,_=>by simp only [List.nil_append,findII]; split <;> rfl
 | x::l,i,h=>by
   simp only [List.cons_append,findII] at h ⊢
   split at h
   ·cases h
   ·rename_i hx
    rw [if_neg hx]
    exact findII_append a b y l _ h
theorem findII_append_other (a b:Int) (y:Int×Int×Value) (hy:(a==y.1&&b==y.2.1)=false):∀ (l:List (Int×Int×Value)) (i:Nat),findII a b (l++[y]) i=findII a b l i
 | [],i=>by simp [findII,hy]
 | x::l,i=>by simp only [List.cons_append,findII,findII_append_other a b y hy l]
theorem findII_some (a b:Int):∀ (l:List (Int×Int×Value)) (i n:Nat) (v:Value),findII a b l i=some (n,v)→i≤n∧n-i < l.length∧l[n-i]? = some (a,b,v)
 | [],i,n,v,h=>by simp [findII] at h
 | x::l,i,n,v,h=>by
   unfold findII at h
   split at h
   ·rename_i hx
    simp only [Option.some.injEq,Prod.mk.injEq] at h
    simp only [Bool.and_eq_true,beq_iff_eq] at hx
    obtain ⟨rfl,rfl⟩:=h
    refine ⟨Nat.le_refl _,by simp,?_⟩
    simp [hx.1,hx.2]
   ·obtain ⟨h1,h2,h3⟩:=findII_some a b l (i+1) n v h
    refine ⟨by omega,by simp; omega,?_⟩
    rw [show n-i=(n-(i+1))+1 by omega,List.getElem?_cons_succ]
    exact h3
theorem findII_set (a b a' b':Int) (v v':Value):∀ (l:List (Int×Int×Value)) (i n:Nat),findII a b l i=some (n,v) →
  (findII a' b' (l.set (n-i) (a,b,v')) i).map (·.2)=if (a'==a&&b'==b)=true then some v' else (findII a' b' l i).map (·.2)
 | [],i,n,h=>by simp [findII] at h
 | x::l,i,n,h=>by
   unfold findII at h
   split at h
   ·rename_i hx
    simp only [Option.some.injEq,Prod.mk.injEq] at h
    obtain ⟨rfl,rfl⟩:=h
    simp only [Bool.and_eq_true,beq_iff_eq] at hx
    simp only [Nat.sub_self,List.set_cons_zero,findII,← hx.1,← hx.2]
    split <;> rfl
   ·rename_i hx
    have h1:=(findII_some a b l (i+1) n v h).1
    rw [show n-i=(n-(i+1))+1 by omega,List.set_cons_succ]
    have ih:=findII_set a b a' b' v v' l (i+1) n h
    by_cases hx':(a'==x.1&&b'==x.2.1)=true
    ·simp only [findII,hx',if_true]
     have:(a'==a&&b'==b)=false:=by
      simp only [Bool.and_eq_true,beq_iff_eq] at hx' hx
      simp only [Bool.and_eq_false_iff,beq_eq_false_iff_ne]
      rw [hx'.1,hx'.2]
      by_cases e:a=x.1
      ·right; intro e2; exact hx ⟨e,e2.symm⟩
      ·left; exact fun e2=>e e2.symm
     simp [this]
    ·simp only [findII,hx',if_false,Bool.false_eq_true]
     exact ih
theorem MapOf.lookup {t k e:TypeId} (K:KeyII k) (ht:Tryz.prog.underlying t=some (.map k e)) {w:World} {g:Nat} {B:Int→Int→Option Value} (h:MapOf w g B) (a b:Int) {z:Value} (hz:(zeroValue e).run Tryz.prog w = .ok z w) :
  (Instr.lookup t (.map (some g)) (kv a b) true).run Tryz.prog w = .ok (match B a b with | some v => .tuple #[v,.bool true] | none => .tuple #[z,.bool false]) w:=by
 obtain ⟨es,clock,l,h1,h2,h3⟩:=h
 have hf:=run_findKey K a b w es.toList l h2
 have hb:=h3 a b
 simp only [Instr.lookup,Sem.run_bind,run_underlying ht,Result.andThen_ok,MapKept.run_getObj_map h1,Sem.run_pure,K.ck,hf]
 cases hh:findII a b l 0 with
 | none =>
   rw [hh] at hb
   simp only [Option.map_none] at hb
   simp [← hb,hz]
 | some r =>
   rw [hh] at hb
   simp only [Option.map_some] at hb
   simp [← hb]
theorem keyStays (a b:Int) (w:World):(Instr.keyThatStays (kv a b) (kv a b)).run Tryz.prog w = .ok (kv a b) w:=by
 simp [Instr.keyThatStays,Instr.sameBits]
theorem MapOf.update {t k e:TypeId} (K:KeyII k) (ht:Tryz.prog.underlying t=some (.map k e)) {w:World} {g:Nat} {B:Int→Int→Option Value} (h:MapOf w g B) (a b:Int) (v:Value) :
  ∃ es clock,(Instr.mapUpdate t (.map (some g)) (kv a b) v).run Tryz.prog w = .ok () (putMap w g es clock)∧MapOf (putMap w g es clock) g fun x y=>if (x==a&&y==b)=true then some v else B x y:=by
 have hlt:=h.lt
 obtain ⟨es,clock,l,h1,h2,h3⟩:=h
 have hf:=run_findKey K a b w es.toList l h2
 cases hh:findII a b l 0 with
 | none =>
   refine ⟨es.push { key:=kv a b,val:=v,born:=clock },clock+1,?_,es.push { key:=kv a b,val:=v,born:=clock },clock+1,l++[(a,b,v)],?_,?_,fun x y=>?_⟩
   ·simp [Instr.mapUpdate,run_underlying ht,MapKept.run_getObj_map h1,K.ck,hf,hh,MapKept.run_setObj_map _ h1,Result.andThen,putMap]
   ·simp [putMap,hlt]
   ·unfold entriesOf at h2 ⊢
    simp [h2]
   ·show _=if (x==a&&y==b)=true then some v else B x y
    by_cases hxy:(x==a&&y==b)=true
    ·rw [if_pos hxy]
     simp only [Bool.and_eq_true,beq_iff_eq] at hxy
     rw [hxy.1,hxy.2,findII_append a b _ l 0 hh]
     simp
    ·rw [if_neg hxy,findII_append_other x y _ (by simpa using hxy)]
     exact h3 x y
 | some r =>
   obtain ⟨n,u⟩:=r
   obtain ⟨_,h5,h6⟩:=findII_some a b l 0 n u hh
   simp only [Nat.sub_zero] at h5 h6
   have hlen:es.toList.length=l.length:=by
    have:=congrArg List.length h2
    simpa using this
   have hen:n < es.size:=by simpa using (by omega:n < es.toList.length)
   have hkey:es[n].key=kv a b:=by
    have:=congrArg (fun q=>q[n]?) h2
    simp [h6,hen] at this
    exact this.1
   refine ⟨es.modify n fun e=>{ e with key:=kv a b,val:=v },clock,?_,es.modify n (fun e=>{ e with key:=kv a b,val:=v }),clock,l.set n (a,b,v),?_,?_,fun x y=>?_⟩
   ·simp [Instr.mapUpdate,run_underlying ht,MapKept.run_getObj_map h1,K.ck,hf,hh,hen,hkey,keyStays,MapKept.run_setObj_map _ h1,Result.andThen,putMap]
   ·simp [putMap,hlt]
   ·unfold entriesOf at h2 ⊢
    apply List.ext_getElem?
    intro i
    have:=congrArg (fun q=>q[i]?) h2
    simp only [List.getElem?_map,Array.getElem?_toList] at this ⊢
    rw [Array.getElem?_modify,List.getElem?_set]
    by_cases hi:n=i
    ·subst hi
     simp [hen,h5]
    ·simpa [hi] using this
   ·have:=findII_set a b x y u v l 0 n hh
    simp only [Nat.sub_zero] at this
    show _=if (x==a&&y==b)=true then some v else B x y
    rw [this]
    split
    ·rfl
    ·exact h3 x y
end Go.Proofs.YtibmeigdjghkcaaGreat.J
namespace Go.Proofs.YtibmeigdjghkcaaGreat.J
set_option linter.unusedVariables false
def pieceN (c:Cyl) (k:Nat):Nat:=(((stepsOf c)[k]?).map fun s=>s.p.toNat).getD 0
def fitN (c:Cyl) (i k:Nat):Bool:=match (stepsOf c)[i]?,(stepsOf c)[k]? with
 | some x,some y=>fitsS c x y
 | _,_=>false
def canGo (c:Cyl) (used:Nat) (last:Option Nat) (k:Nat):Bool:=!used.testBit (pieceN c k)&&(match last with | none=>true | some i=>fitN c i k)
def onN (c:Cyl) (used k:Nat):Nat:=used ||| 2 ^ pieceN c k
def nextN (c:Cyl) (used:Nat) (last:Option Nat):List Nat:=(List.range (stepsOf c).length).filter (canGo c used last)
def goOn (c:Cyl):Nat→Nat→Option Nat→List (List Nat)
 | 0,_,_=>[[]]
 | f+1,used,last=>(nextN c used last).flatMap fun k=>(goOn c f (onN c used k) (some k)).map (k::·)
def cnt:Nat→Nat→Nat
 | 0,_=>0
 | n+1,u=>cnt n u+if u.testBit n=true then 1 else 0
def leftN (c:Cyl) (used:Nat) (last:Option Nat):Nat:=(goOn c (c.pcs.length-cnt c.pcs.length used) used last).length
def joinsN (c:Cyl):List (List Nat):=goOn c c.pcs.length 0 none
def lastI:Option Nat→Int
 | none => -1
 | some k=>(k:Int)
theorem lastI_inj {a b:Option Nat} (h:lastI a=lastI b):a=b:=by
 cases a <;> cases b <;> simp only [lastI] at h
 ·rfl
 ·omega
 ·omega
 ·congr 1; omega
theorem pieceN_lt {c:Cyl} {k:Nat} (h:k < (stepsOf c).length):pieceN c k < c.pcs.length:=by
 unfold pieceN
 rw [List.getElem?_eq_getElem h]
 have:=(isStep_iff c (stepsOf c)[k]).2 (List.getElem_mem h)
 unfold isStep at this
 simp only [Bool.and_eq_true,decide_eq_true_eq] at this
 simp only [Option.map_some,Option.getD_some]
 omega
theorem pieceN_eq {c:Cyl} {k:Nat} {s:St} (h:(stepsOf c)[k]? = some s):s.p=(pieceN c k:Int):=by
 unfold pieceN
 rw [h]
 have:=(isStep_iff c s).2 (List.mem_of_getElem? h)
 unfold isStep at this
 simp only [Bool.and_eq_true,decide_eq_true_eq] at this
 simp only [Option.map_some,Option.getD_some]
 omega
theorem fitN_at {c:Cyl} {i k:Nat} {s t:St} (h:(stepsOf c)[i]? = some s) (h':(stepsOf c)[k]? = some t):fitN c i k=fitsS c s t:=by
 unfold fitN
 rw [h,h']
theorem steps_le (c:Cyl) (h:c.pcs.length≤8):(stepsOf c).length≤16:=by
 have:=(stepsGo_len c.pcs 0).2
 unfold stepsOf
 omega
theorem testBit_on (c:Cyl) (used k i:Nat):(onN c used k).testBit i=(used.testBit i||decide (pieceN c k=i)):=by
 unfold onN
 rw [Nat.testBit_or,Nat.testBit_two_pow]
theorem on_lt {c:Cyl} {u k:Nat} (hu:u < 2 ^ c.pcs.length) (hk:k < (stepsOf c).length):onN c u k < 2 ^ c.pcs.length :=
 Nat.or_lt_two_pow hu (Nat.pow_lt_pow_right (by omega) (pieceN_lt hk))
theorem cnt_le (u:Nat):∀ n,cnt n u≤n
 | 0=>Nat.le_refl _
 | n+1=>by have:=cnt_le u n; unfold cnt; split <;> omega
theorem cnt_congr {u v:Nat}:∀ n,(∀ i,i < n→u.testBit i=v.testBit i)→cnt n u=cnt n v
 | 0,_=>rfl
 | n+1,h=>by unfold cnt; rw [cnt_congr n fun i hi=>h i (by omega),h n (by omega)]
theorem cnt_set {u v p:Nat} (hu:u.testBit p=false) (hv:∀ i,v.testBit i=(u.testBit i||decide (p=i))):∀ n,p < n→cnt n v=cnt n u+1
 | 0,h=>by omega
 | n+1,h=>by
   unfold cnt
   by_cases hp:p=n
   ·subst hp
    rw [cnt_congr p (u:=v) (v:=u) fun i hi=>by rw [hv]; simp; omega,hv,hu]
    simp
   ·rw [cnt_set hu hv n (by omega),hv n]
    have:decide (p=n)=false:=by simpa using hp
    rw [this,Bool.or_false]
    omega
theorem cnt_on {c:Cyl} {u k:Nat} (hk:k < (stepsOf c).length) (h:u.testBit (pieceN c k)=false):cnt c.pcs.length (onN c u k)=cnt c.pcs.length u+1 :=
 cnt_set h (testBit_on c u k) _ (pieceN_lt hk)
theorem cnt_full (m:Nat):∀ n,n≤m→cnt n (2 ^ m-1)=n
 | 0,_=>rfl
 | n+1,h=>by
   unfold cnt
   rw [cnt_full m n (by omega),Nat.testBit_two_pow_sub_one]
   simp
   omega
theorem cnt_all {u:Nat}:∀ n,cnt n u=n→∀ i,i < n→u.testBit i=true
 | 0,_,i,hi=>by omega
 | n+1,h,i,hi=>by
   unfold cnt at h
   have:=cnt_le u n
   by_cases hb:u.testBit n=true
   ·rw [if_pos hb] at h
    by_cases hin:i=n
    ·subst hin; exact hb
    ·exact cnt_all n (by omega) i (by omega)
   ·rw [if_neg hb] at h
    omega
theorem cnt_lt {n u:Nat} (hu:u < 2 ^ n) (hne:u≠2 ^ n-1):cnt n u < n:=by
 have h1:=cnt_le u n
 rcases Nat.lt_or_ge (cnt n u) n with h | h
 ·exact h
 ·refine absurd (Nat.eq_of_testBit_eq fun i=>?_) hne
  rw [Nat.testBit_two_pow_sub_one]
  by_cases hi:i < n
  ·rw [cnt_all n (by omega) i hi]; simp [hi]
  ·rw [Nat.testBit_lt_two_pow (Nat.lt_of_lt_of_le hu (Nat.pow_le_pow_right (by omega) (by omega)))]; simp [hi]
theorem cnt_zero:∀ n,cnt n 0=0
 | 0=>rfl
 | n+1=>by unfold cnt; rw [cnt_zero n]; simp
theorem mem_next {c:Cyl} {u k:Nat} {o:Option Nat}:k∈nextN c u o↔k < (stepsOf c).length∧canGo c u o k=true:=by
 unfold nextN
 rw [List.mem_filter,List.mem_range]
theorem canGo_free {c:Cyl} {u k:Nat} {o:Option Nat} (h:canGo c u o k=true):u.testBit (pieceN c k)=false:=by
 unfold canGo at h
 simp only [Bool.and_eq_true,Bool.not_eq_true'] at h
 exact h.1
theorem left_full (c:Cyl) (o:Option Nat):leftN c (2 ^ c.pcs.length-1) o=1:=by
 unfold leftN
 rw [cnt_full _ _ (Nat.le_refl _),Nat.sub_self]
 rfl
theorem sum_congr {α:Type} {f g:α→Nat}:∀ {l:List α},(∀ x∈l,f x=g x)→(l.map f).sum=(l.map g).sum
 | [],_=>rfl
 | x::r,h=>by
   rw [List.map_cons,List.map_cons,List.sum_cons,List.sum_cons,h x List.mem_cons_self,sum_congr fun y hy=>h y (List.mem_cons_of_mem _ hy)]
theorem left_step {c:Cyl} {u:Nat} {o:Option Nat} (hu:u < 2 ^ c.pcs.length) (hne:u≠2 ^ c.pcs.length-1) :
  leftN c u o=((nextN c u o).map fun k=>leftN c (onN c u k) (some k)).sum:=by
 have h1:=cnt_lt hu hne
 unfold leftN
 obtain ⟨f,hf⟩:∃ f,c.pcs.length-cnt c.pcs.length u=f+1:=⟨c.pcs.length-cnt c.pcs.length u-1,by omega⟩
 rw [hf,goOn,List.length_flatMap]
 refine sum_congr fun k hk=>?_
 obtain ⟨h2,h3⟩:=mem_next.1 hk
 rw [List.length_map,cnt_on h2 (canGo_free h3)]
 congr 2
 omega
theorem sum_le {α:Type} {f:α→Nat} {b:Nat}:∀ {l:List α},(∀ x∈l,f x≤b)→(l.map f).sum≤l.length * b
 | [],_=>by simp
 | x::r,h=>by
   have h1:=h x List.mem_cons_self
   have h2:=sum_le (l:=r) fun y hy=>h y (List.mem_cons_of_mem _ hy)
   rw [List.map_cons,List.sum_cons,List.length_cons,Nat.succ_mul]
   omega
theorem next_len (c:Cyl) (u:Nat) (o:Option Nat):(nextN c u o).length≤(stepsOf c).length:=by
 unfold nextN
 exact Nat.le_trans (List.length_filter_le _ _) (by simp)
theorem goOn_len {c:Cyl} (hm:(stepsOf c).length≤16):∀ (f u:Nat) (o:Option Nat),(goOn c f u o).length≤16 ^ f
 | 0,_,_=>by simp [goOn]
 | f+1,u,o=>by
   rw [goOn,List.length_flatMap]
   refine Nat.le_trans (sum_le (b:=16 ^ f) fun k _=>?_) ?_
   ·rw [List.length_map]; exact goOn_len hm f _ _
   ·rw [Nat.pow_succ,Nat.mul_comm]
    exact Nat.mul_le_mul_left _ (Nat.le_trans (next_len c u o) hm)
theorem left_le {c:Cyl} (hm:(stepsOf c).length≤16) (u:Nat) (o:Option Nat):leftN c u o≤16 ^ (c.pcs.length-cnt c.pcs.length u):=goOn_len hm _ _ _
theorem left_small {c:Cyl} (h8:c.pcs.length≤8) (u:Nat) (o:Option Nat):leftN c u o≤4294967296:=by
 refine Nat.le_trans (left_le (steps_le c h8) u o) ?_
 exact Nat.le_trans (Nat.pow_le_pow_right (by omega) (show c.pcs.length-cnt c.pcs.length u≤8 by omega)) (by decide)
def offN (c:Cyl) (u k:Nat):Nat:=onN c u k ^^^ 2 ^ pieceN c k
def prevN (c:Cyl) (old i:Nat):List Nat:=(List.range (stepsOf c).length).filter fun k=>old.testBit (pieceN c k)&&fitN c k i
def comeF (c:Cyl):Nat→Nat→Nat→Nat
 | 0,_,_=>0
 | f+1,u,i=>if offN c u i=0 then 1 else ((prevN c (offN c u i) i).map fun k=>comeF c f (offN c u i) k).sum
def comeN (c:Cyl) (u i:Nat):Nat:=comeF c (cnt c.pcs.length u) u i
theorem pow8 {n:Nat} (h:n≤8):2 ^ n≤256:=Nat.le_trans (Nat.pow_le_pow_right (by omega) h) (by decide)
end Go.Proofs.YtibmeigdjghkcaaGreat.J
namespace Go.Proofs.YtibmeigdjghkcaaGreat.J
set_option linter.unusedVariables false
def stepAt (c:Cyl) (k:Nat):St:=((stepsOf c)[k]?).getD default
def sumL (c:Cyl) (u:Nat) (l:List Nat):Nat:=(l.map fun k=>leftN c (onN c u k) (some k)).sum
theorem sumL_snoc (c:Cyl) (u:Nat) (l:List Nat) (k:Nat):sumL c u (l++[k])=sumL c u l+leftN c (onN c u k) (some k):=by simp [sumL]
theorem sumL_le {c:Cyl} (h8:c.pcs.length≤8) (u:Nat) (l:List Nat):sumL c u l≤l.length * 4294967296:=sum_le fun k _=>left_small h8 _ _
theorem left_len {c:Cyl} {u k f:Nat} {o:Option Nat} (hf:c.pcs.length-cnt c.pcs.length u=f+1) (hk:k∈nextN c u o):leftN c (onN c u k) (some k)=(goOn c f (onN c u k) (some k)).length:=by
 obtain ⟨h1,h2⟩:=mem_next.1 hk
 unfold leftN
 rw [cnt_on h1 (canGo_free h2)]
 congr 2
 omega
theorem flat_sum {c:Cyl} {u f:Nat} {o:Option Nat} (hf:c.pcs.length-cnt c.pcs.length u=f+1) (l:List Nat) (hl:∀ k∈l,k∈nextN c u o) :
  (l.flatMap fun k=>(goOn c f (onN c u k) (some k)).map (k::·)).length=sumL c u l:=by
 rw [List.length_flatMap]
 exact sum_congr fun k hk=>by rw [List.length_map,left_len hf (hl k hk)]
theorem nth_hit {c:Cyl} {u f r y:Nat} {o:Option Nat} {pre:List Nat} (hf:c.pcs.length-cnt c.pcs.length u=f+1) (hp:pre++[y] <+: nextN c u o) (h1:sumL c u pre≤r) (h2:r < sumL c u pre+leftN c (onN c u y) (some y)) :
  (goOn c (f+1) u o)[r]? = ((goOn c f (onN c u y) (some y))[r-sumL c u pre]?).map (y::·):=by
 obtain ⟨rest,hr⟩:=hp
 have hmem:∀ k∈pre++[y],k∈nextN c u o:=fun k hk=>by rw [← hr]; exact List.mem_append_left _ hk
 rw [left_len hf (hmem y (by simp))] at h2
 rw [goOn,← hr,List.append_assoc,List.flatMap_append,List.getElem?_append_right (by rw [flat_sum hf pre fun k hk=>hmem k (List.mem_append_left _ hk)]; exact h1),flat_sum hf pre fun k hk=>hmem k (List.mem_append_left _ hk)]
 rw [List.singleton_append,List.flatMap_cons,List.getElem?_append_left (by rw [List.length_map]; omega),List.getElem?_map]
theorem sum_next {c:Cyl} {u f:Nat} {o:Option Nat} (hf:c.pcs.length-cnt c.pcs.length u=f+1):sumL c u (nextN c u o)=(goOn c (f+1) u o).length:=by
 rw [← flat_sum hf (nextN c u o) fun k hk=>hk]
 rfl
end Go.Proofs.YtibmeigdjghkcaaGreat.J
namespace Go.Proofs.YtibmeigdjghkcaaGreat.J
set_option linter.unusedVariables false
def walk (c:Cyl):Nat→Option Nat→List Nat→Prop
 | _,_,[]=>True
 | u,o,k::r=>k∈nextN c u o∧walk c (onN c u k) (some k) r
theorem mem_goOn {c:Cyl}:∀ {f u:Nat} {o:Option Nat} {l:List Nat},l∈goOn c f u o↔l.length=f∧walk c u o l
 | 0,u,o,l=>by
   rw [goOn,List.mem_singleton]
   constructor
   ·rintro rfl; exact ⟨rfl,trivial⟩
   ·intro h; exact List.length_eq_zero_iff.1 h.1
 | f+1,u,o,l=>by
   rw [goOn,List.mem_flatMap]
   constructor
   ·rintro ⟨k,hk,hl⟩
    obtain ⟨r,hr,rfl⟩:=List.mem_map.1 hl
    obtain ⟨h1,h2⟩:=mem_goOn.1 hr
    exact ⟨by simp [h1],hk,h2⟩
   ·rintro ⟨h1,h2⟩
    cases l with
    | nil=>simp at h1
    | cons k r =>
      exact ⟨k,h2.1,List.mem_map.2 ⟨r,mem_goOn.2 ⟨by simpa using h1,h2.2⟩,rfl⟩⟩
theorem walk_lt {c:Cyl}:∀ {l:List Nat} {u:Nat} {o:Option Nat},walk c u o l→∀ k∈l,k < (stepsOf c).length
 | [],_,_,_,k,hk=>by cases hk
 | j::r,u,o,h,k,hk=>by
   rcases List.mem_cons.1 hk with rfl | hk
   ·exact (mem_next.1 h.1).1
   ·exact walk_lt h.2 k hk
theorem mem_joins {c:Cyl} {l:List Nat}:l∈joinsN c↔l.length=c.pcs.length∧walk c 0 none l:=mem_goOn
end Go.Proofs.YtibmeigdjghkcaaGreat.J
namespace Go.Proofs.YtibmeigdjghkcaaGreat.J
open Go.RowKit Go.Shelf
set_option linter.unusedVariables false
def fitV (c:Cyl) (i k:Nat):Int:=if fitN c i k=true then 1 else 0
structure TX where
 N:Nat
 g:Nat
 pb:Nat
 po:Nat
 pc:Nat
 sb:Nat
 so:Nat
 sc:Nat
 ga:Nat
 gu:Nat
structure TF (W:World) (x:TX) (c:Cyl):Prop where
 tc:TC W x.g c (some ⟨x.pb,x.po,none⟩) x.pc (.slice (some ⟨x.sb,x.so,none⟩) (stepsOf c).length x.sc) (fitV c) x.ga x.gu
 pcs:∀ k p,c.pcs[k]? = some p→∀ j,j < 7→W.cell? ⟨x.pb,x.po+k * 7+j,none⟩=some (pccell p j)
 sts:∀ k s,(stepsOf c)[k]? = some s→∀ j,j < 2→W.cell? ⟨x.sb,x.so+k * 2+j,none⟩=some (stcell s j)
 le:x.N≤W.heap.size
 gl:x.g < x.N
 pl:x.pb < x.N
 sl:x.sb < x.N
 al:x.ga < x.N
 ul:x.gu < x.N
 ga1:x.g≠x.ga
 gu1:x.g≠x.gu
 pa1:x.pb≠x.ga
 pu1:x.pb≠x.gu
 sa1:x.sb≠x.ga
 su1:x.sb≠x.gu
 au1:x.ga≠x.gu
 ok:checkCyl c=0
 pcap:c.pcs.length≤x.pc∧x.pc≤9223372036854775807
 scap:(stepsOf c).length≤x.sc∧x.sc≤9223372036854775807
structure KeepT (N ga gu:Nat) (W W':World):Prop where
 size:W.heap.size≤W'.heap.size
 block:∀ k,k < N→k≠ga→k≠gu→W'.heap[k]? = W.heap[k]?
theorem KeepT.refl {N ga gu:Nat} (A:World):KeepT N ga gu A A:=⟨Nat.le_refl _,fun _ _ _ _=>rfl⟩
theorem KeepT.trans {N ga gu:Nat} {A B C:World} (h:KeepT N ga gu A B) (k:KeepT N ga gu B C):KeepT N ga gu A C:=⟨Nat.le_trans h.size k.size,fun j h1 h2 h3=>(k.block j h1 h2 h3).trans (h.block j h1 h2 h3)⟩
theorem KeepT.blk {N ga gu:Nat} {A B:World} (h:KeepT N ga gu A B) {b:Nat} {t:TypeId} {cs:Array Value} (hb:Blk A b t cs) (h1:b < N) (h2:b≠ga) (h3:b≠gu):Blk B b t cs:=(h.block b h1 h2 h3).trans hb
theorem KeepT.of_below {N ga gu B:Nat} {w w':World} (h:Below B w w') (hN:N≤B):KeepT N ga gu w w':=⟨h.size,fun k hk _ _=>h.block k (by omega)⟩
theorem KeepT.putObj {N ga gu:Nat} (W:World) (l:Nat) (o':Obj) (hl:N≤l):KeepT N ga gu W (W.putObj l o'):=⟨by simp [World.putObj],fun k hk _ _=>World.putObj_heap_other (by omega)⟩
structure KeepB (N bt ga gu:Nat) (W W':World):Prop where
 size:W.heap.size≤W'.heap.size
 block:∀ k,(k < N∨bt≤k∧k < bt+3)→k≠ga→k≠gu→W'.heap[k]? = W.heap[k]?
theorem KeepB.tab {N bt ga gu:Nat} {A B:World} (h:KeepB N bt ga gu A B):KeepT N ga gu A B:=⟨h.size,fun k h1 h2 h3=>h.block k (.inl h1) h2 h3⟩
theorem KeepB.trans {N bt ga gu:Nat} {A B C:World} (h:KeepB N bt ga gu A B) (k:KeepB N bt ga gu B C):KeepB N bt ga gu A C:=⟨Nat.le_trans h.size k.size,fun j h1 h2 h3=>(k.block j h1 h2 h3).trans (h.block j h1 h2 h3)⟩
theorem KeepB.putObj {N bt ga gu:Nat} (W:World) (l:Nat) (o':Obj) (hl:bt+3≤l) (hN:N≤l):KeepB N bt ga gu W (W.putObj l o'):=⟨by simp [World.putObj],fun k hk _ _=>World.putObj_heap_other (by omega)⟩
theorem KeepB.refl {N bt ga gu:Nat} (A:World):KeepB N bt ga gu A A:=⟨Nat.le_refl _,fun _ _ _ _=>rfl⟩
theorem KeepB.of_below {N bt ga gu B:Nat} {w w':World} (h:Below B w w') (hN:N≤B) (hB:bt+3≤B):KeepB N bt ga gu w w':=⟨h.size,fun k hk _ _=>h.block k (by omega)⟩
structure Chg (ga gu:Nat) (w w':World):Prop where
 os:w'.os=w.os
 tape:w'.tape=w.tape
 output:w'.output=w.output
 size:w.heap.size≤w'.heap.size
 block:∀ k,k < w.heap.size→k≠ga→k≠gu→w'.heap[k]? = w.heap[k]?
section
variable {ga gu N:Nat} {w w' w'':World}
theorem Chg.refl (w:World):Chg ga gu w w:=⟨rfl,rfl,rfl,Nat.le_refl _,fun _ _ _ _=>rfl⟩
theorem Chg.trans (h:Chg ga gu w w') (k:Chg ga gu w' w''):Chg ga gu w w'' :=
 ⟨k.os.trans h.os,k.tape.trans h.tape,k.output.trans h.output,Nat.le_trans h.size k.size,fun i h1 h2 h3=>(k.block i (Nat.lt_of_lt_of_le h1 h.size) h2 h3).trans (h.block i h1 h2 h3)⟩
theorem Chg.of_below (h:Below w.heap.size w w'):Chg ga gu w w':=⟨h.os,h.tape,h.output,h.size,fun k hk _ _=>h.block k hk⟩
theorem Chg.of_grown {row:Option Nat} (h:w.grownBy w' row) (hr:row=some ga∨row=some gu∨row=none):Chg ga gu w w' :=
 ⟨h.os,h.tape,h.output,h.size,fun k hk h1 h2=>h.block k hk (fun e=>by rcases hr with hr | hr | hr <;> rw [hr] at e <;> simp at e <;> omega)⟩
theorem Chg.below {B:Nat} (h:Chg ga gu w w') (hB:B≤w.heap.size) (h1:B≤ga) (h2:B≤gu):Below B w w' :=
 ⟨h.os,h.tape,h.output,h.size,fun k hk=>h.block k (by omega) (by omega) (by omega)⟩
theorem Chg.grown_ge {row:Option Nat} (h:Chg ga gu w w') (hg:w'.grownBy w'' row) (hr:∀ r,row=some r→w.heap.size≤r):Chg ga gu w w'' :=
 ⟨hg.os.trans h.os,hg.tape.trans h.tape,hg.output.trans h.output,Nat.le_trans h.size hg.size,fun k h1 h2 h3=>(hg.block k (Nat.lt_of_lt_of_le h1 h.size) (fun e=>by have:=hr k e.symm; omega)).trans (h.block k h1 h2 h3)⟩
theorem Chg.keep (h:Chg ga gu w w') (hN:N≤w.heap.size):KeepT N ga gu w w':=⟨h.size,fun k h1 h2 h3=>h.block k (by omega) h2 h3⟩
theorem Chg.blk (h:Chg ga gu w w') {b:Nat} {t:TypeId} {cs:Array Value} (hb:Blk w b t cs) (h2:b≠ga) (h3:b≠gu):Blk w' b t cs:=(h.block b hb.lt h2 h3).trans hb
end
def AfterOk (c:Cyl) (M:Int→Int→Option Value):Prop:=∀ a b v,M a b=some v→∃ (u:Nat) (o:Option Nat),a=(u:Int)∧b=lastI o∧v = .int .i64 (leftN c u o:Int)
def UntilOk (c:Cyl) (M:Int→Int→Option Value):Prop:=∀ a b v,M a b=some v→∃ (u i:Nat),a=(u:Int)∧b=(i:Int)∧v = .int .i64 (comeN c u i:Int)
structure TB (W:World) (x:TX) (c:Cyl):Prop where
 f:TF W x c
 af:∃ M,MapOf W x.ga M∧AfterOk c M
 un:∃ M,MapOf W x.gu M∧UntilOk c M
section
variable {W W':World} {x:TX} {c:Cyl}
theorem TF.keep (h:TF W x c) (hk:KeepT x.N x.ga x.gu W W'):TF W' x c:=by
 have hc:∀ b o,b < x.N→b≠x.ga→b≠x.gu→W'.cell? ⟨b,o,none⟩=W.cell? ⟨b,o,none⟩:=fun b o h1 h2 h3=>World.cell?_of_block (a:=⟨b,o,none⟩) (hk.block b h1 h2 h3)
 exact { h with
  tc:=hk.blk h.tc h.gl h.ga1 h.gu1
  pcs:=fun k p hp j hj=>(hc _ _ h.pl h.pa1 h.pu1).trans (h.pcs k p hp j hj)
  sts:=fun k s hs j hj=>(hc _ _ h.sl h.sa1 h.su1).trans (h.sts k s hs j hj)
  le:=Nat.le_trans h.le hk.size }
theorem TF.call (h:TF W x c) (hb:Below W.heap.size W W'):TF W' x c:=h.keep ⟨hb.size,fun k hk _ _=>hb.block k (Nat.lt_of_lt_of_le hk h.le)⟩
theorem TF.chg (h:TF W x c) (hb:Chg x.ga x.gu W W'):TF W' x c:=h.keep (hb.keep h.le)
theorem TB.same (h:TB W x c) (hk:∀ k,k < x.N→W'.heap[k]? = W.heap[k]?) (hs:W.heap.size≤W'.heap.size):TB W' x c:=by
 obtain ⟨M,hM,hA⟩:=h.af
 obtain ⟨U,hU,hV⟩:=h.un
 exact ⟨h.f.keep ⟨hs,fun k h1 _ _=>hk k h1⟩,⟨M,hM.heap (hk _ h.f.al),hA⟩,⟨U,hU.heap (hk _ h.f.ul),hV⟩⟩
theorem TB.call (h:TB W x c) (hb:Below W.heap.size W W'):TB W' x c:=h.same (fun k hk=>hb.block k (Nat.lt_of_lt_of_le hk h.f.le)) hb.size
theorem TB.belowB {B:Nat} (h:TB W x c) (hb:Below B W W') (hB:x.N≤B):TB W' x c:=h.same (fun k hk=>hb.block k (by omega)) hb.size
theorem TB.grown {row:Option Nat} (h:TB W x c) (hg:W.grownBy W' row) (hr:∀ r,row=some r→x.N≤r):TB W' x c :=
 h.same (fun k hk=>hg.block k (Nat.lt_of_lt_of_le hk h.f.le) (fun e=>by have:=hr k e.symm; omega)) hg.size
theorem TF.bounds (h:TF W x c):1≤c.pcs.length∧c.pcs.length≤8:=(cyl_bounds h.ok).1
theorem TF.small (h:TF W x c):(stepsOf c).length≤16:=steps_le c h.bounds.2
theorem TF.step (h:TF W x c) {k:Nat} (hk:k < (stepsOf c).length) :
  ∃ s,(stepsOf c)[k]? = some s∧s.p=(pieceN c k:Int)∧W.cell? ⟨x.sb,x.so+k * 2,none⟩=some (.int .i64 (pieceN c k:Int))∧W.cell? ⟨x.sb,x.so+k * 2+1,none⟩=some (.bool s.t):=by
 have hs:(stepsOf c)[k]? = some (stepsOf c)[k]:=List.getElem?_eq_getElem hk
 have h0:=h.sts k _ hs 0 (by omega)
 have h1:=h.sts k _ hs 1 (by omega)
 have hp:=pieceN_eq hs
 simp only [Nat.add_zero,stcell,hp] at h0 h1
 exact ⟨_,hs,hp,h0,h1⟩
end
theorem ofInt_bit (x:Nat) (hx:x < 2 ^ 62) (i:Nat):(BitVec.ofInt 64 (x:Int)).toNat.testBit i=x.testBit i:=by
 rw [BitVec.ofInt_natCast,BitVec.toNat_ofNat,Nat.mod_eq_of_lt (by omega)]
theorem bits_or (x y:Nat) (hx:x < 2 ^ 62) (hy:y < 2 ^ 62):bits .or .i64 (x:Int) (y:Int)=((x ||| y:Nat):Int):=by
 show IntKind.i64.wrap (((BitVec.ofInt 64 (x:Int) ||| BitVec.ofInt 64 (y:Int)).toNat:Nat):Int)=_
 have h1:x ||| y < 2 ^ 62:=Nat.or_lt_two_pow hx hy
 have h:(BitVec.ofInt 64 (x:Int) ||| BitVec.ofInt 64 (y:Int)).toNat=x ||| y:=by
  refine Nat.eq_of_testBit_eq fun i=>?_
  rw [BitVec.toNat_or,Nat.testBit_or,Nat.testBit_or,ofInt_bit x hx,ofInt_bit y hy]
 rw [h,wrap_id _ (by omega) (by omega)]
theorem bits_and (x y:Nat) (hx:x < 2 ^ 62) (hy:y < 2 ^ 62):bits .and .i64 (x:Int) (y:Int)=((x &&& y:Nat):Int):=by
 show IntKind.i64.wrap (((BitVec.ofInt 64 (x:Int) &&& BitVec.ofInt 64 (y:Int)).toNat:Nat):Int)=_
 have h1:x &&& y≤x:=Nat.and_le_left
 have h:(BitVec.ofInt 64 (x:Int) &&& BitVec.ofInt 64 (y:Int)).toNat=x &&& y:=by
  refine Nat.eq_of_testBit_eq fun i=>?_
  rw [BitVec.toNat_and,Nat.testBit_and,Nat.testBit_and,ofInt_bit x hx,ofInt_bit y hy]
 rw [h,wrap_id _ (by omega) (by omega)]
theorem and_one (u p:Nat):(u >>> p) &&& 1=if u.testBit p=true then 1 else 0:=by
 rw [Nat.and_one_is_mod]
 have:u.testBit p=decide ((u >>> p) % 2=1):=by rw [Nat.testBit,Nat.and_comm,Nat.and_one_is_mod]; cases h:(u >>> p) % 2 with
  | zero=>rfl
  | succ k=>have:k=0:=by omega
            subst this; rfl
 rw [this]
 by_cases h:(u >>> p) % 2=1
 ·simp [h]
 ·have:(u >>> p) % 2=0:=by omega
  simp [this]
theorem bit_one (u p:Nat) (hu:u < 256):bits .and .i64 ((u:Int) / 2 ^ p) 1=if u.testBit p=true then 1 else 0:=by
 have h1:(u:Int) / 2 ^ p=((u >>> p:Nat):Int):=by
  rw [Nat.shiftRight_eq_div_pow]; simp
 have h2:u >>> p≤u:=by rw [Nat.shiftRight_eq_div_pow]; exact Nat.div_le_self _ _
 rw [h1,show (1:Int)=((1:Nat):Int) from rfl,bits_and _ _ (by omega) (by omega),and_one]
 split <;> rfl
end Go.Proofs.YtibmeigdjghkcaaGreat.J
namespace Go.Proofs.YtibmeigdjghkcaaGreat.J
open Go.RowKit Go.Shelf
set_option linter.unusedVariables false
theorem pow_bit (c:Cyl) (k:Nat) (h8:c.pcs.length≤8) (hk:k < (stepsOf c).length):∃ pw:Nat,IntKind.i64.wrap (2 ^ pieceN c k)=(pw:Int)∧2 ^ pieceN c k=pw∧pw≤256:=by
 have h:=pieceN_lt hk
 have hpw:2 ^ pieceN c k≤256:=pow8 (by omega)
 refine ⟨2 ^ pieceN c k,?_,rfl,hpw⟩
 have h1:(2:Int) ^ pieceN c k=((2 ^ pieceN c k:Nat):Int):=by simp
 generalize 2 ^ pieceN c k=q at *
 rw [h1,wrap_id _ (by omega) (by omega)]
abbrev stateV (u:Nat) (o:Int):Value := .agg #[.int .i64 (u:Int),.int .i64 o]
set_option maxRecDepth 100000 in
set_option maxHeartbeats 1600000 in
theorem on_ok (x:TX) (c:Cyl) (u k:Nat) (o:Int) (w:World) (hT:TF w x c) (hk:k < (stepsOf c).length) (hu:u < 2 ^ c.pcs.length) :
  Calls Tryz.prog 232 #[.pointer (some ⟨x.g,0,none⟩),stateV u o,.int .i64 (k:Int)] w fun r w'=>r = .returned (stateV (onN c u k) (k:Int))∧Below w.heap.size w w':=by
 have hp8:=pieceN_lt hk
 have h8:=hT.bounds.2
 have h16:=hT.small
 have hu2:u < 256:=Nat.lt_of_lt_of_le hu (pow8 h8)
 have hb1:=(Below.refl w.heap.size w).alloc (Nat.le_refl _) (.cells #[.int .i64 (u:Int),.int .i64 o] 218)
 have hS:=Blk.new w 218 #[.int .i64 (u:Int),.int .i64 o]
 have hT1:=hT.call hb1
 have hz:(w.alloc (.cells #[.int .i64 (u:Int),.int .i64 o] 218)).heap.size=w.heap.size+1:=by simp
 clear hT
 go_enter Tryz.func232,Tryz.ntmps232
 go_upto_region 1 with (fail)
 generalize w.alloc (.cells #[.int .i64 (u:Int),.int .i64 o] 218)=W at *
 have hbA:=(Below.refl W.heap.size W).alloc (Nat.le_refl _) (.cells #[.int .i64 0,.int .i64 0] 218)
 have hR:=Blk.new W 218 #[.int .i64 0,.int .i64 0]
 rw [hz] at hR
 replace hT1:=hT1.call hbA
 replace hS:=hS.call hbA
 replace hb:=hb1.trans (hbA.mono hb1.size)
 clear hbA hz hb1
 generalize W.alloc (.cells #[.int .i64 0,.int .i64 0] 218)=W2 at *
 obtain ⟨st,hs1,hs2,s0,s1⟩:=hT1.step hk
 obtain ⟨q0,q1,q2,q3,q4⟩:=hT1.tc.c5
 have a0:=hS.cell 0
 have a1:=hS.cell 1
 have r0:=hR.cell 0
 have r1:=hR.cell 1
 simp at a0 a1 r0 r1
 have hrz:=fun i=>hR.frozen i
 have hgl:=hT1.gl
 have hgL:=hT1.le
 have k1:(k:Int) < ((stepsOf c).length:Int):=by omega
 have e1:IntKind.i64.wrap (k:Int)=k:=wrap_id _ (by omega) (by omega)
 obtain ⟨pw,e3,e4,e5⟩:=pow_bit c k h8 hk
 have e2:bits .or .i64 (u:Int) (pw:Int)=(onN c u k:Int):=by rw [bits_or u pw (by omega) (by omega),← e4]; rfl
 have HE4:=Lib.hid e4
 clear e4
 clear hT1 hS hs1 hs2
 go_wp2_with fail
 go_still_tail 14,(by kernel_rfl)
 change wpList _ _ _ _ _ (W2).drew
 go_wp2
 have hR2:=((hR.set_ 0 (.int .i64 (onN c u k:Int))).set_ 1 (.int .i64 (k:Int))).drew
 have hb2:=((hb.setCell (p:=⟨w.heap.size+1,0,none⟩) (by simp) (.int .i64 (onN c u k:Int))).setCell (p:=⟨w.heap.size+1,1,none⟩) (by simp) (.int .i64 (k:Int))).drew
 clear r0 r1
 generalize ((W2.setCell ⟨w.heap.size+1,0,none⟩ (.int .i64 (onN c u k:Int))).setCell ⟨w.heap.size+1,1,none⟩ (.int .i64 (k:Int))).drew=W3 at *
 have r0:=hR2.cell 0
 have r1:=hR2.cell 1
 simp at r0 r1
 exact bodyPost_ret (v:=stateV (onN c u k) (k:Int)) (by simp [results,Tryz.results232,go_sem,r0,r1]) rfl ⟨rfl,hb2⟩
end Go.Proofs.YtibmeigdjghkcaaGreat.J
namespace Go.Proofs.YtibmeigdjghkcaaGreat.J
open Go.RowKit Go.Shelf
set_option linter.unusedVariables false
theorem part_int (xs:Array Value) (i:Nat) (x:Int) (h:xs[i]? = some (.int .i64 x)) (w:World):(Go.part 3 xs (i * 1)).run Tryz.prog w = .ok (.int .i64 x) w:=by
 have hu:Tryz.prog.underlying 3=some (.int .i64):=Tryz.underlying3
 have hi:(Tryz.prog.info? 3).map (·.size)=some 1:=by kernel_rfl
 cases hq:Tryz.prog.info? 3 with
 | none=>simp [hq] at hi
 | some ii =>
   have hs:ii.size=1:=by simpa [hq] using hi
   unfold Go.part
   simp only [Sem.run_bind,sizeOf,typeInfo,run_program,Result.andThen_ok,hq,Nat.mul_one,Sem.run_pure]
   simp [isAgg,run_underlying hu,hs,h]
theorem row_loop (xs ys:Array Value) (f g:Nat→Int) (hx:∀ i,i < 16→xs[i]? = some (.int .i64 (f i))) (hy:∀ i,i < 16→ys[i]? = some (.int .i64 (g i))) (w:World):∀ l:List Nat,(∀ i∈l,i < 16) →
  (forIn l (none,()) fun i (__s:Option Bool×Unit)=>do
            let __do_lift ← Go.part 3 xs (i * 1)
            let __do_lift_1 ← Go.part 3 ys (i * 1)
            let __do_lift ← Op.equalIn 9999 3 __do_lift __do_lift_1
            if (!__do_lift)=true then pure (ForInStep.done (some false,())) else pure (ForInStep.yield (none,())):Sem (Option Bool×Unit)).run Tryz.prog w = .ok (if l.all (fun i=>f i==g i)=true then (none,()) else (some false,())) w
 | [],_=>by simp
 | i::r,h=>by
   have hi:=h i List.mem_cons_self
   have he:(Op.equalIn 9999 3 (.int .i64 (f i)) (.int .i64 (g i))).run Tryz.prog w = .ok (f i==g i) w:=by simp [go_sem]
   rw [List.forIn_cons]
   simp only [Sem.run_bind,part_int xs i _ (hx i hi),part_int ys i _ (hy i hi),he,Result.andThen_ok]
   cases hq:(f i==g i)
   ·simp [hq]
   ·simp only [Bool.not_true,Bool.false_eq_true,if_false,Sem.run_pure,Result.andThen_ok,List.all_cons,hq,Bool.true_and]
    exact row_loop xs ys f g hx hy w r fun j hj=>h j (List.mem_cons_of_mem _ hj)
theorem eq_row (xs ys:Array Value) (f g:Nat→Int) (hx:∀ i,i < 16→xs[i]? = some (.int .i64 (f i))) (hy:∀ i,i < 16→ys[i]? = some (.int .i64 (g i))) (w:World):(Op.equalIn 10000 223 (.agg xs) (.agg ys)).run Tryz.prog w = .ok ((List.range 16).all fun i=>f i==g i) w:=by
 show (Op.equalIn (9999+1) 223 _ _).run _ _=_
 unfold Op.equalIn
 have hu:=Tryz.underlying223
 have hi:(Tryz.prog.info? 3).map (·.size)=some 1:=by kernel_rfl
 cases hq:Tryz.prog.info? 3 with
 | none=>simp [hq] at hi
 | some ii =>
   have hs:ii.size=1:=by simpa [hq] using hi
   have hsz:(sizeOf 3).run Tryz.prog w = .ok 1 w:=by simp [sizeOf,typeInfo,hq,hs]
   simp only [Sem.run_bind,run_underlying hu,Result.andThen_ok,hsz,Std.Legacy.Range.forIn_eq_forIn_range']
   have hl:=row_loop xs ys f g hx hy w (List.range' 0 16) (by simp)
   have h16:(List.range 16)=List.range' 0 16:=by decide
   rw [h16]
   simp only [Std.Legacy.Range.size,Nat.sub_zero,Nat.add_sub_cancel,Nat.div_one]
   rw [hl]
   cases (List.range' 0 16).all fun i=>f i==g i <;> simp
end Go.Proofs.YtibmeigdjghkcaaGreat.J
namespace Go.Proofs.YtibmeigdjghkcaaGreat.J
open Go.RowKit Go.Shelf
set_option linter.unusedVariables false
abbrev behV (bt:Nat):Value := .func (.func 231) #[] #[.pointer (some ⟨bt+1,0,none⟩),.pointer (some ⟨bt,0,none⟩),.pointer (some ⟨bt+2,0,none⟩)]
structure BehB (W:World) (g bt u:Nat) (o:Int):Prop where
 t:Blk W bt 118 #[.pointer (some ⟨g,0,none⟩)]
 s:Blk W (bt+1) 218 #[.int .i64 (u:Int),.int .i64 o]
 f:Blk W (bt+2) 126 #[.func (.func 230) #[] #[.pointer (some ⟨bt+1,0,none⟩),.pointer (some ⟨bt,0,none⟩)]]
theorem BehB.keep {W W':World} {g bt u N ga gu:Nat} {o:Int} (h:BehB W g bt u o) (hk:KeepB N bt ga gu W W') (h1:ga < bt) (h2:gu < bt):BehB W' g bt u o :=
 ⟨(hk.block _ (by omega) (by omega) (by omega)).trans h.t,(hk.block _ (by omega) (by omega) (by omega)).trans h.s,(hk.block _ (by omega) (by omega) (by omega)).trans h.f⟩
theorem BehB.grown {W W':World} {g bt u:Nat} {o:Int} {row:Option Nat} (h:BehB W g bt u o) (hg:W.grownBy W' row) (hr:∀ r,row=some r→bt+3≤r):BehB W' g bt u o :=
 ⟨h.t.grown hg (fun e=>by have:=hr _ e.symm; omega),h.s.grown hg (fun e=>by have:=hr _ e.symm; omega),h.f.grown hg (fun e=>by have:=hr _ e.symm; omega)⟩
theorem BehB.call {W W':World} {g bt u:Nat} {o:Int} (h:BehB W g bt u o) (hb:Below W.heap.size W W'):BehB W' g bt u o:=⟨h.t.call hb,h.s.call hb,h.f.call hb⟩
theorem BehB.chg {W W':World} {g bt u ga gu:Nat} {o:Int} (h:BehB W g bt u o) (hb:Chg ga gu W W') (h1:ga < bt) (h2:gu < bt):BehB W' g bt u o :=
 ⟨hb.blk h.t (by omega) (by omega),hb.blk h.s (by omega) (by omega),hb.blk h.f (by omega) (by omega)⟩
theorem BehB.lt {W:World} {g bt u:Nat} {o:Int} (h:BehB W g bt u o):bt+2 < W.heap.size:=h.f.lt
set_option maxRecDepth 100000 in
set_option maxHeartbeats 1600000 in
theorem behind_ok (g u:Nat) (o:Int) (w:World) :
  Calls Tryz.prog 136 #[.pointer (some ⟨g,0,none⟩),stateV u o] w fun r w'=>r = .returned (behV w.heap.size)∧BehB w' g w.heap.size u o∧w'.heap.size=w.heap.size+3∧Below w.heap.size w w':=by
 have hx1:=Blk.new w 118 #[.pointer (some ⟨g,0,none⟩)]
 have hb1:=(Below.refl w.heap.size w).alloc (Nat.le_refl _) (.cells #[.pointer (some ⟨g,0,none⟩)] 118)
 have hz1:(w.alloc (.cells #[.pointer (some ⟨g,0,none⟩)] 118)).heap.size=w.heap.size+1:=by simp
 go_enter Tryz.func136,Tryz.ntmps136
 go_upto_region 1 with (fail)
 generalize w.alloc (.cells #[.pointer (some ⟨g,0,none⟩)] 118)=w1 at *
 have hx2:=Blk.new w1 218 #[.int .i64 (u:Int),.int .i64 o]
 have hbA:=(Below.refl w1.heap.size w1).alloc (Nat.le_refl _) (.cells #[.int .i64 (u:Int),.int .i64 o] 218)
 have hz2:(w1.alloc (.cells #[.int .i64 (u:Int),.int .i64 o] 218)).heap.size=w.heap.size+2:=by simp [hz1]
 rw [hz1] at hx2
 replace hx1:=hx1.call hbA
 have hb2:=hb1.trans (hbA.mono hb1.size)
 clear hbA hb1 hz1
 generalize w1.alloc (.cells #[.int .i64 (u:Int),.int .i64 o] 218)=w2 at *
 have hx3:=Blk.new w2 126 #[.func (.func 230) #[] #[.pointer (some ⟨w.heap.size+1,0,none⟩),.pointer (some ⟨w.heap.size,0,none⟩)]]
 have hbA:=(Below.refl w2.heap.size w2).alloc (Nat.le_refl _) (.cells #[.func (.func 230) #[] #[.pointer (some ⟨w.heap.size+1,0,none⟩),.pointer (some ⟨w.heap.size,0,none⟩)]] 126)
 have hz3:(w2.alloc (.cells #[.func (.func 230) #[] #[.pointer (some ⟨w.heap.size+1,0,none⟩),.pointer (some ⟨w.heap.size,0,none⟩)]] 126)).heap.size=w.heap.size+3:=by simp [hz2]
 rw [hz2] at hx3
 replace hx1:=hx1.call hbA
 replace hx2:=hx2.call hbA
 have hb3:=hb2.trans (hbA.mono hb2.size)
 go_wp2
 go_ret
 exact ⟨rfl,⟨hx1,hx2,hx3⟩,hz3,hb3⟩
set_option maxRecDepth 100000 in
set_option maxHeartbeats 1600000 in
theorem free_ok (x:TX) (c:Cyl) (u k bt:Nat) (o:Int) (w:World) (hT:TF w x c) (hB:BehB w x.g bt u o) (hk:k < (stepsOf c).length) (hu:u < 2 ^ c.pcs.length) :
  Calls Tryz.prog 230 #[.int .i64 (k:Int),.pointer (some ⟨bt+1,0,none⟩),.pointer (some ⟨bt,0,none⟩)] w fun r w'=>r = .returned (.bool (!u.testBit (pieceN c k)))∧Below w.heap.size w w':=by
 have hp8:=pieceN_lt hk
 have h8:=hT.bounds.2
 have h16:=hT.small
 have hu2:u < 256:=Nat.lt_of_lt_of_le hu (pow8 h8)
 obtain ⟨st,hs1,hs2,s0,s1⟩:=hT.step hk
 obtain ⟨q0,q1,q2,q3,q4⟩:=hT.tc.c5
 have t0:=hB.t.cell 0
 have a0:=hB.s.cell 0
 simp at t0 a0
 have k1:(k:Int) < ((stepsOf c).length:Int):=by omega
 have e1:IntKind.i64.wrap (k:Int)=k:=wrap_id _ (by omega) (by omega)
 have f0:=Ext.of s0
 have f1:=Ext.of q4
 have f2:=Ext.of t0
 have f3:=Ext.of a0
 go_enter Tryz.func230,Tryz.ntmps230
 go_upto_region 1 with (fail)
 clear hT hB hs1 hs2 s0 s1 q0 q1 q2 q3 q4 t0 a0
 have hbt:=bit_one u (pieceN c k) hu2
 cases htb:u.testBit (pieceN c k)
 ·rw [htb] at hbt
  simp only [Bool.false_eq_true,if_false] at hbt
  have HTB:=Lib.hid htb
  clear htb
  refine wp_region_ext (by kernel_rfl) (by kernel_rfl) ?_
  repeat (go_big_quiet_step (fail))
  refine wpQuiet_nil ?_
  intro _ hw'
  obtain ⟨xr,hw''⟩:=hw'
  subst hw''
  go_wp2
  go_ret
  exact ⟨by rw [HTB.out]; rfl,xr.h⟩
 ·rw [htb] at hbt
  simp only [if_true] at hbt
  have HTB:=Lib.hid htb
  clear htb
  refine wp_region_ext (by kernel_rfl) (by kernel_rfl) ?_
  repeat (go_big_quiet_step (fail))
  refine wpQuiet_nil ?_
  intro _ hw'
  obtain ⟨xr,hw''⟩:=hw'
  subst hw''
  go_wp2
  go_ret
  exact ⟨by rw [HTB.out]; rfl,xr.h⟩
end Go.Proofs.YtibmeigdjghkcaaGreat.J
namespace Go.Proofs.YtibmeigdjghkcaaGreat.J
open Go.RowKit Go.Shelf
set_option linter.unusedVariables false
theorem row_eq (c:Cyl) (i:Nat) (w:World):(Op.equalIn 10000 223 (.agg #[.int .i64 (fitV c i 0),.int .i64 (fitV c i 1),.int .i64 (fitV c i 2),.int .i64 (fitV c i 3),.int .i64 (fitV c i 4),.int .i64 (fitV c i 5),.int .i64 (fitV c i 6),.int .i64 (fitV c i 7),.int .i64 (fitV c i 8),.int .i64 (fitV c i 9),.int .i64 (fitV c i 10),.int .i64 (fitV c i 11),.int .i64 (fitV c i 12),.int .i64 (fitV c i 13),.int .i64 (fitV c i 14),.int .i64 (fitV c i 15)]) (.agg #[.int .i64 0,.int .i64 0,.int .i64 0,.int .i64 0,.int .i64 0,.int .i64 0,.int .i64 0,.int .i64 0,.int .i64 0,.int .i64 0,.int .i64 0,.int .i64 0,.int .i64 0,.int .i64 0,.int .i64 0,.int .i64 0])).run Tryz.prog w = .ok ((List.range 16).all fun k=>fitV c i k==0) w:=by
 refine eq_row _ _ (fitV c i) (fun _=>0) (fun k hk=>?_) (fun k hk=>?_) w
 ·rcases k with _ | _ | _ | _ | _ | _ | _ | _ | _ | _ | _ | _ | _ | _ | _ | _ | k <;> first | rfl | omega
 ·rcases k with _ | _ | _ | _ | _ | _ | _ | _ | _ | _ | _ | _ | _ | _ | _ | _ | k <;> first | rfl | omega
theorem range_pre {k m:Nat} (h:k≤m):List.range k <+: List.range m:=by
 have:=List.take_prefix k (List.range m)
 rwa [List.take_range,Nat.min_eq_left h] at this
abbrev VNx (c:Cyl) (u:Nat) (o:Option Nat):={k:Nat // k∈nextN c u o}
def encNx (c:Cyl) (u:Nat) (o:Option Nat) (s:VNx c u o):Array Value:=#[stateV (onN c u s.1) (s.1:Int)]
theorem row_none {c:Cyl} {i:Nat} (h:((List.range 16).all fun k=>fitV c i k==0)=true) (hm:(stepsOf c).length≤16) (u:Nat):nextN c u (some i)=[]:=by
 unfold nextN
 rw [List.filter_eq_nil_iff]
 intro k hk
 rw [List.mem_range] at hk
 have:=List.all_eq_true.1 h k (List.mem_range.2 (by omega))
 simp only [fitV,beq_iff_eq] at this
 intro hc
 simp only [canGo,Bool.and_eq_true] at hc
 rw [if_pos hc.2] at this
 omega
attribute [local go_sem] Oper.semAt_some
set_option maxRecDepth 100000 in
set_option maxHeartbeats 1600000 in
theorem behind2_stops (n:Nat) (x:TX) (c:Cyl) (u bt:Nat) (o:Option Nat) (w:World) (hT:TF w x c) (hB:BehB w x.g bt u (lastI o)) (hu:u < 2 ^ c.pcs.length) (ho:∀ i,o=some i→i < (stepsOf c).length) (hxN:x.N≤bt) :
  SeqStopsK Fence.wide (n+3) Tryz.prog 231 #[.pointer (some ⟨bt+1,0,none⟩),.pointer (some ⟨bt,0,none⟩),.pointer (some ⟨bt+2,0,none⟩)] (encNx c u o) (KeepB x.N bt x.ga x.gu) (fun xs=>xs.map (·.1)=nextN c u o) (fun pre=>pre.map (·.1) <+: nextN c u o) (nextN c u o).length w:=by
 intro l J Jx W hW hJ hJx hY h0
 have hT1:=hT.call hW
 have hB1:=hB.call hW
 have h8:=hT.bounds.2
 have h16:=hT.small
 have hu2:u < 256:=Nat.lt_of_lt_of_le hu (pow8 h8)
 have hga:=hT.al
 have hgu:=hT.ul
 clear hT hB
 refine callsIn_of_wp Tryz.func231 rfl trivial ?_ rfl
 simp only [Tryz.ntmps231,List.size_toArray,List.length_cons,List.length_nil,Nat.reduceAdd,Nat.reduceSub,Array.replicate_succ,Array.replicate_zero,List.push_toArray,List.append_toArray,List.nil_append,List.cons_append]
 refine wpIn_wide.2 ?_
 have t0:=hB1.t.cell 0
 have a0:=hB1.s.cell 0
 have a1:=hB1.s.cell 1
 have b0:=hB1.f.cell 0
 simp at t0 a0 a1 b0
 obtain ⟨q0,q1,q2,q3,q4⟩:=hT1.tc.c5
 have k1:0≤((stepsOf c).length:Int):=by omega
 have f0:=Ext.of t0
 have f1:=Ext.of a1
 by_cases hz:∃ i,o=some i∧((List.range 16).all fun k=>fitV c i k==0)=true
 ·obtain ⟨i,rfl,hz⟩:=hz
  have hi:=ho i rfl
  have hnx:=row_none hz h16 u
  have hq:=row_eq c i
  rw [hz] at hq
  simp only [lastI] at f1
  go_upto_region 0 with (fail)
  have r0:=Ext.of (hT1.tc.at_ (i:=i) (k:=0) (by omega) (by omega))
  have r1:=Ext.of (hT1.tc.at_ (i:=i) (k:=1) (by omega) (by omega))
  have r2:=Ext.of (hT1.tc.at_ (i:=i) (k:=2) (by omega) (by omega))
  have r3:=Ext.of (hT1.tc.at_ (i:=i) (k:=3) (by omega) (by omega))
  have r4:=Ext.of (hT1.tc.at_ (i:=i) (k:=4) (by omega) (by omega))
  have r5:=Ext.of (hT1.tc.at_ (i:=i) (k:=5) (by omega) (by omega))
  have r6:=Ext.of (hT1.tc.at_ (i:=i) (k:=6) (by omega) (by omega))
  have r7:=Ext.of (hT1.tc.at_ (i:=i) (k:=7) (by omega) (by omega))
  have r8:=Ext.of (hT1.tc.at_ (i:=i) (k:=8) (by omega) (by omega))
  have r9:=Ext.of (hT1.tc.at_ (i:=i) (k:=9) (by omega) (by omega))
  have r10:=Ext.of (hT1.tc.at_ (i:=i) (k:=10) (by omega) (by omega))
  have r11:=Ext.of (hT1.tc.at_ (i:=i) (k:=11) (by omega) (by omega))
  have r12:=Ext.of (hT1.tc.at_ (i:=i) (k:=12) (by omega) (by omega))
  have r13:=Ext.of (hT1.tc.at_ (i:=i) (k:=13) (by omega) (by omega))
  have r14:=Ext.of (hT1.tc.at_ (i:=i) (k:=14) (by omega) (by omega))
  have r15:=Ext.of (hT1.tc.at_ (i:=i) (k:=15) (by omega) (by omega))
  rw [Nat.add_zero] at r0
  have k2:((i:Int) != -1)=true:=by simp
  have k3:(i:Int) < 16:=by omega
  have e1:IntKind.i64.wrap (i:Int)=i:=wrap_id _ (by omega) (by omega)
  have HNX:=Lib.hid hnx
  clear t0 a0 a1 b0 q0 q1 q2 q3 q4 hz hnx
  refine wp_region_ext (by kernel_rfl) (by kernel_rfl) ?_
  repeat (go_big_quiet_step (fail))
  refine wpQuiet_nil ?_
  intro _ hw'
  obtain ⟨xr,hw''⟩:=hw'
  subst hw''
  go_wp2
  refine bodyPost_ret (results_none rfl _ _ _) rfl ?_
  exact ⟨⟨_,rfl⟩,.inl ⟨[],HNX.out.symm,hJ [] _ _ none h0 (grown_call xr.h _) (by simp)⟩⟩
 ·go_upto_region 0 with (fail)
  go_cut [19] from 58 (fun p wx=>p = .bool false∧Below W.heap.size W wx)
  case first =>
   cases o with
   | none =>
     simp only [lastI] at f1
     clear t0 a0 a1 b0 q0 q1 q2 q3 q4
     refine wp_region_ext (by kernel_rfl) (by kernel_rfl) ?_
     repeat (go_big_quiet_step (fail))
     refine wpQuiet_nil ?_
     intro _ hw'
     obtain ⟨xr,hw''⟩:=hw'
     subst hw''
     go_wp2
     go_meet
     case rel=>exact ⟨rfl,xr.h⟩
   | some i =>
     have hi:=ho i rfl
     have hzf:((List.range 16).all fun k=>fitV c i k==0)=false:=by
      cases hh:(List.range 16).all fun k=>fitV c i k==0
      ·rfl
      ·exact absurd ⟨i,rfl,hh⟩ hz
     have hq:=row_eq c i
     rw [hzf] at hq
     simp only [lastI] at f1
     have r0:=Ext.of (hT1.tc.at_ (i:=i) (k:=0) (by omega) (by omega))
     have r1:=Ext.of (hT1.tc.at_ (i:=i) (k:=1) (by omega) (by omega))
     have r2:=Ext.of (hT1.tc.at_ (i:=i) (k:=2) (by omega) (by omega))
     have r3:=Ext.of (hT1.tc.at_ (i:=i) (k:=3) (by omega) (by omega))
     have r4:=Ext.of (hT1.tc.at_ (i:=i) (k:=4) (by omega) (by omega))
     have r5:=Ext.of (hT1.tc.at_ (i:=i) (k:=5) (by omega) (by omega))
     have r6:=Ext.of (hT1.tc.at_ (i:=i) (k:=6) (by omega) (by omega))
     have r7:=Ext.of (hT1.tc.at_ (i:=i) (k:=7) (by omega) (by omega))
     have r8:=Ext.of (hT1.tc.at_ (i:=i) (k:=8) (by omega) (by omega))
     have r9:=Ext.of (hT1.tc.at_ (i:=i) (k:=9) (by omega) (by omega))
     have r10:=Ext.of (hT1.tc.at_ (i:=i) (k:=10) (by omega) (by omega))
     have r11:=Ext.of (hT1.tc.at_ (i:=i) (k:=11) (by omega) (by omega))
     have r12:=Ext.of (hT1.tc.at_ (i:=i) (k:=12) (by omega) (by omega))
     have r13:=Ext.of (hT1.tc.at_ (i:=i) (k:=13) (by omega) (by omega))
     have r14:=Ext.of (hT1.tc.at_ (i:=i) (k:=14) (by omega) (by omega))
     have r15:=Ext.of (hT1.tc.at_ (i:=i) (k:=15) (by omega) (by omega))
     rw [Nat.add_zero] at r0
     have k2:((i:Int) != -1)=true:=by simp
     have k3:(i:Int) < 16:=by omega
     have e1:IntKind.i64.wrap (i:Int)=i:=wrap_id _ (by omega) (by omega)
     clear t0 a0 a1 b0 q0 q1 q2 q3 q4 hz hzf
     refine wp_region_ext (by kernel_rfl) (by kernel_rfl) ?_
     repeat (go_big_quiet_step (fail))
     refine wpQuiet_nil ?_
     intro _ hw'
     obtain ⟨xr,hw''⟩:=hw'
     subst hw''
     go_wp2
     go_meet
     case rel=>exact ⟨rfl,xr.h⟩
  case rest =>
   obtain ⟨rfl,hb1⟩:=hcut
   replace hT1:=hT1.call hb1
   replace hB1:=hB1.call hb1
   replace h0:=hJ [] _ _ none h0 (grown_call hb1 _) (by simp)
   obtain ⟨wd,hwd⟩:∃ wd:World,wd=wc:=⟨_,rfl⟩
   rw [← hwd] at hT1 hB1 h0 hb1 ⊢
   clear hwd wc t0 a0 a1 b0 q0 q1 q2 q3 q4 f0 f1 hz
   have t0:=hB1.t.cell 0
   simp at t0
   obtain ⟨q0,q1,q2,q3,q4⟩:=hT1.tc.c5
   go_wp2
   go_loopw [5,25] (fun s i wr=>∃ (k:Nat) (pre:List (VNx c u o)),k≤(stepsOf c).length∧i = .int .i64 k∧pre.map (·.1)=(List.range k).filter (canGo c u o)∧J pre wr∧TF wr x c∧BehB wr x.g bt u (lastI o)) (fun _ i _=>(stepsOf c).length-(intOf i).toNat)
   case atStart=>exact ⟨0,[],by omega,rfl,rfl,h0,hT1,hB1⟩
   case round =>
    obtain ⟨k,pre,hk,rfl,hpre,hJ0,hTr,hBr⟩:=hrel
    have HPRE:=Lib.hid hpre
    clear hpre t0 q0 q1 q2 q3 q4 hT1 hB1
    by_cases hlt:k < (stepsOf c).length
    ·have d3:decide (k < (stepsOf c).length)=true:=by simpa using hlt
     have d3':decide ((k:Int) < ((stepsOf c).length:Int))=true:=by simp; omega
     have HN:Hid ((List.range (k+1)).filter (canGo c u o)=(List.range k).filter (canGo c u o)++if canGo c u o k=true then [k] else []):=by
      rw [Hid,List.range_succ,List.filter_append]
      simp only [List.filter_cons,List.filter_nil]
     have HO:Hid (∀ y:Ext wr,Calls Tryz.prog 232 #[.pointer (some ⟨x.g,0,none⟩),stateV u (lastI o),.int .i64 (k:Int)] y.w fun r w'=>r = .returned (stateV (onN c u k) (k:Int))∧∃ z:Ext wr,w'=z.w):=fun y=>ext_call y (on_ok x c u k (lastI o) y.w (hTr.call y.h) hlt hu)
     have t0:=hBr.t.cell 0
     have a0:=hBr.s.cell 0
     have a1:=hBr.s.cell 1
     have b0:=hBr.f.cell 0
     simp at t0 a0 a1 b0
     have f0:=Ext.of t0
     have f1:=Ext.of a0
     have f2:=Ext.of a1
     have f3:=Ext.of b0
     have hgab:x.ga < bt:=by omega
     have hgub:x.gu < bt:=by omega
     clear t0 a0 a1 b0
     go_upto_region 4 with (fail)
     refine (wpIn_wide (n:=n+3)).1 ?_
     cases htb:u.testBit (pieceN c k)
     ·have HF:Hid (∀ y:Ext wr,Calls Tryz.prog 230 #[.int .i64 (k:Int),.pointer (some ⟨bt+1,0,none⟩),.pointer (some ⟨bt,0,none⟩)] y.w fun r w'=>r = .returned (.bool true)∧∃ z:Ext wr,w'=z.w):=fun y=>ext_call y (by have:=free_ok x c u k bt (lastI o) y.w (hTr.call y.h) (hBr.call y.h) hlt hu; rwa [htb] at this)
      by_cases hof:(o.map fun i=>fitN c i k)=none∨(o.map fun i=>fitN c i k)=some true
      ·have hcg:canGo c u o k=true:=by
        unfold canGo
        rw [htb]
        cases o with
        | none=>rfl
        | some i =>
          rcases hof with h | h
          ·cases h
          ·simpa using h
       have HC:Hid (canGo c u o k=true):=hcg
       have HM:Hid (k∈nextN c u o):=mem_next.2 ⟨hlt,hcg⟩
       have hpf:(pre.map (·.1))++[k] <+: nextN c u o:=by
        rw [HPRE.out]
        have h1:(List.range k).filter (canGo c u o)++[k]=(List.range (k+1)).filter (canGo c u o):=by rw [HN.out,if_pos hcg]
        rw [h1]
        unfold nextN
        exact List.IsPrefix.filter _ (range_pre (by omega))
       have HP:Hid ((pre++[(⟨k,HM.out⟩:VNx c u o)]).map (·.1) <+: nextN c u o):=by rw [Hid,List.map_append]; exact hpf
       have HL:Hid (pre.length < (nextN c u o).length):=by
        have:=hpf.length_le
        simp at this
        exact this
       clear hcg hpf htb
       cases o with
       | none =>
         simp only [lastI] at f2 HO HF
         refine wide_region_tail (C:=fun w'=>∃ x:Ext wr,w'=x.w) 26 (by kernel_rfl) (by kernel_rfl) ⟨⟨(wr).drew,⟨rfl,rfl,rfl,Nat.le_refl _,fun _ _=>rfl⟩⟩,rfl⟩ ?_
         simp only [List.take_succ_cons,List.take_zero,List.drop_succ_cons,List.drop_zero]
         repeat (go_big_quiet_step (first | (go_at_call 230; with_reducible exact HF.out _) | (go_at_call 232; with_reducible exact HO.out _)))
         refine wpQuiet_nil ?_
         intro _ hw'
         obtain ⟨xr,hw''⟩:=hw'
         subst hw''
         have hJ1:=hJ pre wr xr.w none hJ0 (grown_call xr.h _) (by simp)
         have hT1:=hTr.call xr.h
         have hB1:=hBr.call xr.h
         obtain ⟨fn,tmps,assign,body,hy,hR⟩:=hY pre ⟨k,HM.out⟩ xr.w hJ1 HL.out
         dsimp only [encNx] at hy
         gi_wp2
         refine hR.mono ?_
         rintro e W3 (⟨rfl,hJ3,hk3⟩ | ⟨rfl,hJx3⟩)
         ·have hT3:=hT1.keep hk3.tab
          have hB3:=hB1.keep hk3 hgab hgub
          gi_wp2
          go_wp2
          go_roundw
          case rel=>exact ⟨k+1,pre++[⟨k,HM.out⟩],by omega,by go_num,by rw [List.map_append,HPRE.out,HN.out,HC.out]; simp,hJ3,hT3,hB3⟩
          case measure=>(simp [intOf]; try omega)
         ·gi_wp2
          go_wp2
          refine bodyPost_ret (results_none rfl _ _ _) rfl ?_
          exact ⟨⟨_,rfl⟩,.inr ⟨pre++[⟨k,HM.out⟩],HP.out,hJx3⟩⟩
       | some i =>
         have hi:=ho i rfl
         have hfi:fitN c i k=true:=by
          rcases hof with h | h
          ·cases h
          ·simpa using h
         have hv:fitV c i k=1:=by unfold fitV; rw [if_pos hfi]
         have f4:=Ext.of (hTr.tc.at_ (i:=i) (k:=k) (by omega) (by omega))
         rw [hv] at f4
         have k2:((i:Int) == -1)=false:=by simp
         have k3:(i:Int) < 16:=by omega
         have k4:(k:Int) < 16:=by omega
         have e1:IntKind.i64.wrap (i:Int)=i:=wrap_id _ (by omega) (by omega)
         have e2:IntKind.i64.wrap (k:Int)=k:=wrap_id _ (by omega) (by omega)
         simp only [lastI] at f2 HO HF
         clear hof hfi hv
         refine wide_region_tail (C:=fun w'=>∃ x:Ext wr,w'=x.w) 26 (by kernel_rfl) (by kernel_rfl) ⟨⟨(wr).drew,⟨rfl,rfl,rfl,Nat.le_refl _,fun _ _=>rfl⟩⟩,rfl⟩ ?_
         simp only [List.take_succ_cons,List.take_zero,List.drop_succ_cons,List.drop_zero]
         repeat (go_big_quiet_step (first | (go_at_call 230; with_reducible exact HF.out _) | (go_at_call 232; with_reducible exact HO.out _)))
         refine wpQuiet_nil ?_
         intro _ hw'
         obtain ⟨xr,hw''⟩:=hw'
         subst hw''
         have hJ1:=hJ pre wr xr.w none hJ0 (grown_call xr.h _) (by simp)
         have hT1:=hTr.call xr.h
         have hB1:=hBr.call xr.h
         obtain ⟨fn,tmps,assign,body,hy,hR⟩:=hY pre ⟨k,HM.out⟩ xr.w hJ1 HL.out
         dsimp only [encNx] at hy
         gi_wp2
         refine hR.mono ?_
         rintro e W3 (⟨rfl,hJ3,hk3⟩ | ⟨rfl,hJx3⟩)
         ·have hT3:=hT1.keep hk3.tab
          have hB3:=hB1.keep hk3 hgab hgub
          gi_wp2
          go_wp2
          go_roundw
          case rel=>exact ⟨k+1,pre++[⟨k,HM.out⟩],by omega,by go_num,by rw [List.map_append,HPRE.out,HN.out,HC.out]; simp,hJ3,hT3,hB3⟩
          case measure=>(simp [intOf]; try omega)
         ·gi_wp2
          go_wp2
          refine bodyPost_ret (results_none rfl _ _ _) rfl ?_
          exact ⟨⟨_,rfl⟩,.inr ⟨pre++[⟨k,HM.out⟩],HP.out,hJx3⟩⟩
      ·obtain ⟨i,rfl⟩:∃ i,o=some i:=by
        cases o with
        | none=>exact absurd (.inl rfl) hof
        | some i=>exact ⟨i,rfl⟩
       have hi:=ho i rfl
       have hfi:fitN c i k=false:=by
        cases h:fitN c i k
        ·rfl
        ·exact absurd (.inr (by simp [h])) hof
       have HC:Hid (canGo c u (some i) k=false):=by unfold canGo; simp [Hid,hfi]
       have hv:fitV c i k=0:=by unfold fitV; rw [hfi]; rfl
       have f4:=Ext.of (hTr.tc.at_ (i:=i) (k:=k) (by omega) (by omega))
       rw [hv] at f4
       have k2:((i:Int) == -1)=false:=by simp
       have k3:(i:Int) < 16:=by omega
       have k4:(k:Int) < 16:=by omega
       have e1:IntKind.i64.wrap (i:Int)=i:=wrap_id _ (by omega) (by omega)
       have e2:IntKind.i64.wrap (k:Int)=k:=wrap_id _ (by omega) (by omega)
       simp only [lastI] at f2 HO HF
       clear hof hfi hv htb
       refine wide_region_tail (C:=fun w'=>∃ x:Ext wr,w'=x.w) 26 (by kernel_rfl) (by kernel_rfl) ⟨⟨(wr).drew,⟨rfl,rfl,rfl,Nat.le_refl _,fun _ _=>rfl⟩⟩,rfl⟩ ?_
       simp only [List.take_succ_cons,List.take_zero,List.drop_succ_cons,List.drop_zero]
       repeat (go_big_quiet_step (first | (go_at_call 230; with_reducible exact HF.out _) | (go_at_call 232; with_reducible exact HO.out _)))
       refine wpQuiet_nil ?_
       intro _ hw'
       obtain ⟨xr,hw''⟩:=hw'
       subst hw''
       refine wide_skip (by rfl) ?_
       refine wide_skip (by rfl) ?_
       gi_wp2
       have hJ1:=hJ pre wr xr.w none hJ0 (grown_call xr.h _) (by simp)
       have hT1:=hTr.call xr.h
       have hB1:=hBr.call xr.h
       go_wp2
       go_roundw
       case rel=>exact ⟨k+1,pre,by omega,by go_num,by rw [HPRE.out,HN.out,HC.out]; simp,hJ1,hT1,hB1⟩
       case measure=>(simp [intOf]; try omega)
     ·have HF:Hid (∀ y:Ext wr,Calls Tryz.prog 230 #[.int .i64 (k:Int),.pointer (some ⟨bt+1,0,none⟩),.pointer (some ⟨bt,0,none⟩)] y.w fun r w'=>r = .returned (.bool false)∧∃ z:Ext wr,w'=z.w):=fun y=>ext_call y (by have:=free_ok x c u k bt (lastI o) y.w (hTr.call y.h) (hBr.call y.h) hlt hu; rwa [htb] at this)
      have HC:Hid (canGo c u o k=false):=by unfold canGo; simp [Hid,htb]
      clear htb
      refine wide_region_tail (C:=fun w'=>∃ x:Ext wr,w'=x.w) 26 (by kernel_rfl) (by kernel_rfl) ⟨⟨(wr).drew,⟨rfl,rfl,rfl,Nat.le_refl _,fun _ _=>rfl⟩⟩,rfl⟩ ?_
      simp only [List.take_succ_cons,List.take_zero,List.drop_succ_cons,List.drop_zero]
      repeat (go_big_quiet_step (first | (go_at_call 230; with_reducible exact HF.out _) | (go_at_call 232; with_reducible exact HO.out _)))
      refine wpQuiet_nil ?_
      intro _ hw'
      obtain ⟨xr,hw''⟩:=hw'
      subst hw''
      refine wide_skip (by rfl) ?_
      refine wide_skip (by rfl) ?_
      gi_wp2
      have hJ1:=hJ pre wr xr.w none hJ0 (grown_call xr.h _) (by simp)
      have hT1:=hTr.call xr.h
      have hB1:=hBr.call xr.h
      go_wp2
      go_roundw
      case rel=>exact ⟨k+1,pre,by omega,by go_num,by rw [HPRE.out,HN.out,HC.out]; simp,hJ1,hT1,hB1⟩
      case measure=>(simp [intOf]; try omega)
    ·obtain rfl:k=(stepsOf c).length:=by omega
     have d3:decide ((stepsOf c).length < (stepsOf c).length)=false:=by simp
     go_wp2
     go_end0
     exact ⟨⟨_,rfl⟩,.inl ⟨pre,HPRE.out,hJ0⟩⟩
end Go.Proofs.YtibmeigdjghkcaaGreat.J
