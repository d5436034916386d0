/- Contract: raise. -/
import Derived.Test.YtibmeigdjghkcaaGreatRea
import Derived.Test.YtibmeigdjghkcaaGreatKepM
namespace Go.Proofs.YtibmeigdjghkcaaGreat
open Go.RowKit Go.Shelf
set_option linter.unusedVariables false
theorem lowOf_snoc (L:List Lk) (f:Nat→Int) (h:Nat→Nat) (k:Nat) (p:Nat×Nat):∀ (l:List (Nat×Nat)) (n:Nat),lowOf L f h k (l++[p]) n=if 0 < resF L f k p.2 then min (lowOf L f h k l n) (h p.1) else lowOf L f h k l n
 | [],n=>by simp [lowOf]
 | q::l,n=>by
   rw [List.cons_append]
   unfold lowOf
   rw [lowOf_snoc L f h k p l]
structure RaiI (W0 W:World) (B G:Nat) (l:NL) (ka:Option Addr) (kc:Nat) (aa:Option Addr) (ac:Nat) (ba:Option Addr) (bc:Nat) (da:Option Addr) (dc:Nat) (drop:List Int) (fb:Nat) (f:Nat→Int) (h:Nat→Nat) (s:Nat) (low:Nat):Prop where
 net:NetF W B G l ka kc aa ac ba bc da dc drop fb f h
 bl:Below s W0 W
 nb:Blk W s 122 #[.pointer (some ⟨G,0,none⟩)]
 lb:Blk W (s+1) 3 #[.int .i64 (low:Int)]
 lo:G < s∧fb < s∧B≤s
section
variable {W0 W W':World} {B G:Nat} {l:NL} {ka aa ba da:Option Addr} {kc ac bc dc:Nat} {drop:List Int} {fb:Nat} {f:Nat→Int} {h:Nat→Nat} {s low:Nat}
theorem RaiI.grown (r:RaiI W0 W B G l ka kc aa ac ba bc da dc drop fb f h s low) {row:Option Nat} (hg:W.grownBy W' row) (hr:∀ ρ,row=some ρ→s+2≤ρ):RaiI W0 W' B G l ka kc aa ac ba bc da dc drop fb f h s low:=by
 have h1:=r.lo
 have h2:=r.lb.lt
 exact ⟨r.net.grown hg fun ρ e=>by have:=hr ρ e; omega,⟨hg.os.trans r.bl.os,hg.tape.trans r.bl.tape,hg.output.trans r.bl.output,Nat.le_trans r.bl.size hg.size,fun k hk=>(hg.block k (by omega) fun e=>by have:=hr k e.symm; omega).trans (r.bl.block k hk)⟩,
  r.nb.grown hg fun e=>by have:=hr _ e.symm; omega,r.lb.grown hg fun e=>by have:=hr _ e.symm; omega,h1⟩
theorem RaiI.call (r:RaiI W0 W B G l ka kc aa ac ba bc da dc drop fb f h s low) (hb:Below W.heap.size W W'):RaiI W0 W' B G l ka kc aa ac ba bc da dc drop fb f h s low:=r.grown (grown_call hb none) fun ρ e=>by cases e
theorem RaiI.put (r:RaiI W0 W B G l ka kc aa ac ba bc da dc drop fb f h s low) (n:Nat):RaiI W0 (W.setCell ⟨s+1,0,none⟩ (.int .i64 (n:Int))) B G l ka kc aa ac ba bc da dc drop fb f h s n:=by
 have h1:=r.lo
 have h2:=r.lb.lt
 have hg:W.grownBy (W.setCell ⟨s+1,0,none⟩ (.int .i64 (n:Int))) (some (s+1)):=grown_setCell _
 exact ⟨r.net.grown hg fun ρ e=>by injection e; omega,⟨hg.os.trans r.bl.os,hg.tape.trans r.bl.tape,hg.output.trans r.bl.output,Nat.le_trans r.bl.size hg.size,fun k hk=>(hg.block k (by omega) fun e=>by injection e; omega).trans (r.bl.block k hk)⟩,
  r.nb.grown hg fun e=>by injection e; omega,by simpa using r.lb.set_ 0 (.int .i64 (n:Int)),h1⟩
end
def RaiIn (W0:World) (B G:Nat) (l:NL) (ka:Option Addr) (kc:Nat) (aa:Option Addr) (ac:Nat) (ba:Option Addr) (bc:Nat) (da:Option Addr) (dc:Nat) (drop:List Int) (fb:Nat) (f:Nat→Int) (h:Nat→Nat) (s k b1:Nat) (pre:List (Nat×Nat)) (W:World):Prop :=
 b1+2≤W.heap.size∧RaiI W0 W B G l ka kc aa ac ba bc da dc drop fb f h s (lowOf l.L f h k pre (2 * l.N))
attribute [local go_sem] Oper.semAt_some
set_option maxRecDepth 100000 in
set_option maxHeartbeats 1600000 in
theorem raise_ok {W0:World} {B G:Nat} {l:NL} {ka aa ba da:Option Addr} {kc ac bc dc:Nat} {drop:List Int} {fb:Nat} {f:Nat→Int} {h:Nat→Nat} (m:NetF W0 B G l ka kc aa ac ba bc da dc drop fb f h) (g:Good l) (hd:∀ x∈drop,0≤x)
  (hf:Fits l.L f) (k:Nat) (hk:k < l.N) (hh:∀ u,h u≤2 * l.N+1) :
  Calls Tryz.prog 229 #[.pointer (some ⟨G,0,none⟩),.int .i64 (k:Int)] W0 fun r w'=>r = .returned (.tuple #[])∧NetF w' B G l ka kc aa ac ba bc da dc drop fb f (raiseH h k (lowOf l.L f h k (waysL l.L (natL drop) k) (2 * l.N)+1))∧W0.grownBy w' (some G):=by
 have hnN:(l.N:Int)=l.n:=g.nN
 have hN40:l.N≤40:=by have:=g.forty; omega
 refine (callsIn_wide (n:=8)).1 ?_
 refine callsIn_of_wp_marks Tryz.func229 rfl trivial ?_ rfl
 simp only [Tryz.ntmps229,List.size_toArray,List.length_cons,List.length_nil,Nat.reduceAdd,Nat.reduceSub,Array.replicate_succ,Array.replicate_zero,List.push_toArray,List.append_toArray,List.nil_append,List.cons_append]
 refine wpIn_wide.2 ?_
 go_upto_region 1 with (fail)
 have b1:=(Below.refl W0.heap.size W0).alloc (Nat.le_refl _) (.cells #[.pointer (some ⟨G,0,none⟩)] 122)
 have x1:=Blk.new W0 122 #[.pointer (some ⟨G,0,none⟩)]
 have z1:(W0.alloc (.cells #[.pointer (some ⟨G,0,none⟩)] 122)).heap.size=W0.heap.size+1:=by simp
 have m1:=m.call b1
 generalize W0.alloc (.cells #[.pointer (some ⟨G,0,none⟩)] 122)=W1 at *
 obtain ⟨n0, -⟩:=m1.net.c6
 rw [← hnN] at n0
 have HNN:=Lib.hid hnN
 clear hnN
 have t0:=x1.cell 0
 simp at t0
 obtain ⟨tN,htN⟩:∃ tN,tN=2 * l.N:=⟨_,rfl⟩
 have w1:IntKind.i64.wrap (2 * (l.N:Int))=(tN:Int):=by rw [IntKind.wrap_i64]; omega
 have w1':wrap64 (2 * (l.N:Int))=(tN:Int):=by rw [IntWalk.wrap64_in _ ⟨by omega,by omega⟩]; omega
 have HTN:=Lib.hid htN
 clear htN
 go_upto_region 2 with (fail)
 have x2:=Blk.new W1 3 #[.int .i64 (tN:Int)]
 have b2:=(Below.refl W1.heap.size W1).alloc (Nat.le_refl _) (.cells #[.int .i64 (tN:Int)] 3)
 have z2:(W1.alloc (.cells #[.int .i64 (tN:Int)] 3)).heap.size=W0.heap.size+2:=by simp [z1]
 rw [z1] at x2
 have hI:RaiI W0 (W1.alloc (.cells #[.int .i64 (tN:Int)] 3)) B G l ka kc aa ac ba bc da dc drop fb f h W0.heap.size tN :=
  ⟨m1.call b2,b1.trans (b2.mono b1.size),x1.call b2,x2,m.lt.1,m.lt.2,by have:=m.net.le; have:=m.lt.1; omega⟩
 clear b1 b2 x1 x2 m1 n0 t0 w1 w1' z1
 generalize W1.alloc (.cells #[.int .i64 (tN:Int)] 3)=v1 at *
 have t0:=hI.nb.cell 0
 simp at t0
 go_wp2_with fail
 refine (ways_ok G k v1).mono ?_
 rintro e v2 ⟨rfl,hP,hQ,hz2,hb2⟩
 have hI2:=hI.call hb2
 clear hI t0 hb2
 rw [z2] at hP hQ hz2
 rw [z2]
 rw [HTN.out] at hI2
 have hin:RaiIn W0 B G l ka kc aa ac ba bc da dc drop fb f h W0.heap.size k (W0.heap.size+2) [] v2:=⟨by omega,hI2⟩
 have hnm:=hI2.net.net
 have hlo:=hI2.lo
 clear hI2
 go_wp2
 refine (wpIn_wide (n:=8)).1 ?_
 refine wpIn_range_list (F:=Fence.wide) (n:=8) (a:=?aa) rfl (by omega) (gf:=139) (lb:=#[.pointer (some ⟨W0.heap.size+2,0,none⟩),.pointer (some ⟨W0.heap.size+2+1,0,none⟩)]) ?hgg trivial (enters_of Tryz.func139 (by kernel_rfl) rfl)
  (ways_seq 4 (W0.heap.size+2) (W0.heap.size+2+1) k v2 g hd hnm hP hQ) ?hKt ?hKb (Below.refl _ _) ?hps (RaiIn W0 B G l ka kc aa ac ba bc da dc drop fb f h W0.heap.size k (W0.heap.size+2)) ?hI hin (WayAx (Act.tmps ?aa) 15 5 (W0.heap.size+4) k) WayAx.own ?assign ?body ?done
 case hKt=>exact fun h1 h2=>h1.trans h2
 case hKb=>exact fun W y o o' hl _ _ _ k hk=>World.putObj_heap_other (by omega)
 case hgg=>rfl
 case hps=>exact fun _=>rfl
 case hI =>
  intro pre W W' row hs hg hr
  exact ⟨Nat.le_trans hs.1 hg.size,hs.2.grown hg fun ρ e=>by have:=(hr ρ e).1; omega⟩
 case assign =>
  intro y pre x post W K hi hpre hsz hK
  have hx:=Blk.new W 131 #[.int .i64 (k:Int),.int .i64 (x.1:Int),.int .i64 (x.2:Int)]
  have hgA:=World.grownBy_alloc W (.cells #[.int .i64 (k:Int),.int .i64 (x.1:Int),.int .i64 (x.2:Int)] 131) none
  have hk':=hK ({ tmps:=(_:Array Value),defers:=[] }) (W.alloc (.cells #[.int .i64 (k:Int),.int .i64 (x.1:Int),.int .i64 (x.2:Int)] 131)) ((KeepsOthers.alloc _ _).from _) (KeepN.of_grown hgA (by omega) fun r e=>by cases e) ⟨Nat.le_trans hi.1 hgA.size,hi.2.grown hgA fun r e=>by cases e⟩ ⟨W.heap.size,by omega,hx,rfl⟩
  simp [encW]
  gi_wp2
  exact hk'
 case body =>
  rintro y pre ⟨v,i⟩ post a' W ⟨hsz,hr⟩ ⟨Bx,hBx,bX,rfl⟩ hpre
  simp only [List.setIfInBounds_toArray,List.set_cons_succ,List.set_cons_zero]
  dsimp only at bX
  have hmem:(v,i)∈waysL l.L (natL drop) k:=by rw [← hpre]; simp
  have hway:=((mem_waysL g.net).1 hmem).1
  have hvN:=(way_lt g.net hway).2
  have hil:i < l.links.length:=by rw [← NL.len]; exact hway.1
  have hst:lowOf l.L f h k (pre++[(v,i)]) (2 * l.N)=if 0 < resF l.L f k i then min (lowOf l.L f h k pre (2 * l.N)) (h v) else lowOf l.L f h k pre (2 * l.N):=lowOf_snoc l.L f h k (v,i) pre (2 * l.N)
  have hcl:=left_ok hr.net g hf k v i hil
  have hlow:=(lowOf_le l.L f h k pre (2 * l.N)).1
  generalize lowOf l.L f h k pre (2 * l.N)=low at *
  generalize resF l.L f k i=y6 at *
  have t0:=hr.nb.cell 0
  have p0:=bX.cell 0
  have p1:=bX.cell 1
  have p2:=bX.cell 2
  simp at t0 p0 p1 p2
  have HST:=Lib.hid hst
  clear hst hpre hmem hway
  gi_wp2_with fail
  refine ⟨trivial,(CallsIn.inRound _ (callsIn_wide.2 hcl)).mono ?_⟩
  rintro e W6 ⟨rfl,hb6⟩
  have hr6:=hr.call hb6
  have bX6:=bX.call hb6
  have hs6:=hb6.size
  clear hr bX t0 p0 p1 p2 hcl
  by_cases hy0:0 < y6
  ·have d1:decide (0 < y6)=true:=decide_eq_true hy0
   have hlo6:=HST.out
   rw [if_pos hy0] at hlo6
   have HLO:=Lib.hid hlo6
   clear hlo6 hy0 HST
   have hv40:v < 40:=by omega
   have hvi:(v:Int) < 40:=by omega
   have hhv:=hh v
   have t0:=hr6.nb.cell 0
   have l0:=hr6.lb.cell 0
   have p1:=bX6.cell 1
   simp at t0 l0 p1
   have h0:=hr6.net.net.hi hv40
   have f0:=Ext.of t0
   have f1:=Ext.of l0
   have f2:=Ext.of p1
   have f3:=Ext.of h0
   gi_upto_region 5 with fail
   refine wpIn_region_tail (C:=fun w'=>∃ x:Ext W6,w'=x.w) 9 (by kernel_rfl) (by kernel_rfl) (by kernel_rfl) ⟨⟨(W6).drew,⟨rfl,rfl,rfl,Nat.le_refl _,fun _ _=>rfl⟩⟩,rfl⟩ ?_
   simp only [List.take_succ_cons,List.take_zero,List.drop_succ_cons,List.drop_zero]
   repeat (go_big_quiet_step (fail))
   refine wpQuiet_nil ?_
   intro _ hw'
   obtain ⟨xr,hw''⟩:=hw'
   subst hw''
   intro K' hK'
   have emin:(if h v < low then (h v:Int) else (low:Int))=((min low (h v):Nat):Int):=by split <;> omega
   rw [emin]
   have z0:=f1 xr
   have z1:=(xr.h.frozen (p:=⟨W0.heap.size+1,0,none⟩) hr6.lb.lt).trans (hr6.lb.frozen 0)
   have hr7:=hr6.call xr.h
   have hb7:=hb6.trans (xr.h.mono hb6.size)
   have hg8:xr.w.grownBy (xr.w.setCell ⟨W0.heap.size+1,0,none⟩ (.int .i64 ((min low (h v):Nat):Int))) (some (W0.heap.size+1)):=grown_setCell _
   have hr8:=hr7.put (min low (h v))
   rw [← HLO.out] at hr8 hg8
   rw [← HLO.out]
   have hs8:=Nat.le_trans hb7.size hg8.size
   clear f0 f1 f2 f3 t0 l0 p1 h0 hr6 hr7 bX6 emin
   go_wp2
   refine hK' _ _ ?_
   clear hK' K'
   gi_wp2
   exact ⟨(keepsFrom_cells (grown_call hb7 none) fun r e=>by cases e).trans (keepsFrom_cells hg8 fun r e=>by injection e; exact .inl (by omega)),
    (KeepN.of_grown (grown_call hb7 none) (by omega) fun r e=>by cases e).trans (KeepN.of_grown hg8 (by have:=hb7.size; omega) fun r e=>by injection e; omega),by omega,hr8⟩
  ·have d1:decide (0 < y6)=false:=decide_eq_false hy0
   have hlo6:=HST.out
   rw [if_neg hy0] at hlo6
   have HLO:=Lib.hid hlo6
   clear hlo6 hy0 HST
   gi_wp2
   exact ⟨keepsFrom_cells (grown_call hb6 none) (fun r e=>by cases e),KeepN.of_grown (grown_call hb6 none) (by omega) (fun r e=>by cases e),by omega,by rw [HLO.out]; exact hr6⟩
 case done =>
  rintro D W hD ⟨hsz,hr⟩ hdf
  have hlow:=(lowOf_le l.L f h k (waysL l.L (natL drop) k) (2 * l.N)).1
  obtain ⟨low,hlw⟩:∃ low,low=lowOf l.L f h k (waysL l.L (natL drop) k) (2 * l.N):=⟨_,rfl⟩
  rw [← hlw] at hlow hr
  have HLW:=Lib.hid hlw
  clear hlw
  have t0:=hr.nb.cell 0
  have l0:=hr.lb.cell 0
  simp at t0 l0
  have hk40:k < 40:=by omega
  have hki:(k:Int) < 40:=by omega
  have w2:IntKind.i64.wrap ((low:Int)+1)=(low:Int)+1:=by rw [IntKind.wrap_i64]; omega
  have hl80:(low:Int)≤80:=by omega
  have hl81:(0:Int)≤(low:Int):=by omega
  have f0:=Ext.of t0
  have f1:=Ext.of l0
  go_upto_region 6 with (fail)
  refine wp_region_schedW (C:=fun w'=>∃ x:Ext W,w'=x.w) [(0,true),(1,true),(2,true),(3,true),(4,false),(5,false),(6,false),(7,false)] (by kernel_rfl) (by kernel_rfl) ⟨⟨W.drew,(Below.refl _ W).drew⟩,rfl⟩ ?_
  refine sched_q (by rfl) (by rfl) ?_
  intro K hK
  go_big_quiet_op
  go_big_quiet_on
  refine sched_q (by rfl) (by rfl) ?_
  intro K hK
  go_big_quiet_op
  go_big_quiet_on
  refine sched_q (by rfl) (by rfl) ?_
  intro K hK
  go_big_quiet_op
  go_big_quiet_on
  refine sched_q (by rfl) (by rfl) ?_
  intro K hK
  go_big_quiet_op
  go_big_quiet_on
  refine sched_c (by rfl) (by rfl) ?_
  intro K' hK'
  go_wp2
  refine hK' _ _ ⟨.inr ⟨⟨W.drew,(Below.refl _ W).drew⟩,rfl⟩,?_⟩
  clear hK' K'
  refine sched_c (by rfl) (by rfl) ?_
  intro K' hK'
  go_wp2
  refine hK' _ _ ⟨.inr ⟨⟨W.drew,(Below.refl _ W).drew⟩,rfl⟩,?_⟩
  clear hK' K'
  refine sched_c (by rfl) (by rfl) ?_
  intro K' hK'
  go_wp2
  refine hK' _ _ ⟨.inr ⟨⟨W.drew,(Below.refl _ W).drew⟩,rfl⟩,?_⟩
  clear hK' K'
  refine sched_c (by rfl) (by rfl) ?_
  intro K' hK'
  clear f0 f1 w2
  have z0:=hr.net.net.hi hk40
  have z1:=hr.net.net.blk.frozen (6+k)
  have hn:=hr.net.raise hk40 (low+1)
  have hg1:W0.grownBy (W.setCell ⟨G,6+k,none⟩ (.int .i64 ((low+1:Nat):Int))) (some G):=by
   have hs:W.grownBy (W.setCell ⟨G,6+k,none⟩ (.int .i64 ((low+1:Nat):Int))) (some G):=grown_setCell _
   have hb:=hr.bl
   exact grown_trans' ⟨hb.os,hb.tape,hb.output,hb.size,fun q hq _=>hb.block q hq⟩ hs
  have hdf2:(W.setCell ⟨G,6+k,none⟩ (.int .i64 ((low+1:Nat):Int))).heap[D]? = some (.deferred (some [])):=((grown_setCell (w:=W) (g:=G) (o:=6+k) (.int .i64 ((low+1:Nat):Int))).block D (heap_lt hdf) (fun e=>by injection e; omega)).trans hdf
  have hw:W.cell? ⟨G,6+k,none⟩=W.drew.cell? ⟨G,6+k,none⟩:=rfl
  have ec:((low+1:Nat):Int)=(low:Int)+1:=by omega
  rw [ec] at hn hg1 hdf2
  have hn':NetF (W.setCell ⟨G,6+k,none⟩ (.int .i64 ((low:Int)+1))) B G l ka kc aa ac ba bc da dc drop fb f (raiseH h k (lowOf l.L f h k (waysL l.L (natL drop) k) (2 * l.N)+1)):=by rw [← HLW.out]; exact hn
  go_wp2
  refine hK' _ _ ⟨(by first | exact .inl rfl | exact .inl trivial),?_⟩
  clear hK' K'
  refine sched_nil ?_
  go_wp2
  refine ⟨by simp,.inl ⟨_,_,rfl,run_takeDeferred (w:=(W.setCell ⟨G,6+k,none⟩ (.int .i64 ((low:Int)+1))).drew) hdf2,?_⟩⟩
  have hgp:=grownBy_putObj' (W.setCell ⟨G,6+k,none⟩ (.int .i64 ((low:Int)+1))).drew D (.deferred none)
  exact ⟨.tuple #[],by simp [results,Tryz.results229,go_sem],rfl,hn'.drew.grown hgp (fun r e=>by injection e; omega),by
   have hg2:W0.grownBy (W.setCell ⟨G,6+k,none⟩ (.int .i64 ((low:Int)+1))).drew (some G):=grown_trans' hg1 (grown_call (Below.refl _ _).drew _)
   exact ⟨hgp.os.trans hg2.os,hgp.tape.trans hg2.tape,hgp.output.trans hg2.output,Nat.le_trans hg2.size hgp.size,fun q hq hne=>(hgp.block q (Nat.lt_of_lt_of_le hq hg2.size) fun e=>by injection e; omega).trans (hg2.block q hq hne)⟩⟩
end Go.Proofs.YtibmeigdjghkcaaGreat
