/- Contracts: there, left, back, push, ways. Contracts: back, push, ways. Contract of the iterator of ways. -/
import Derived.Test.YtibmeigdjghkcaaGreatRfCM
import Derived.Test.YtibmeigdjghkcaaGreatSch
namespace Go.Proofs.YtibmeigdjghkcaaGreat
open Go.RowKit Go.Shelf
set_option linter.unusedVariables false
theorem Good.lk_at {l:NL} (g:Good l) {i:Nat} (hi:i < l.links.length):∃ (a b:Nat) (t:Int),l.links[i]? = some ⟨(a:Int),(b:Int),t⟩∧lkAt l.L i=⟨a,b,t⟩∧a < l.N∧b < l.N∧a≠b∧1≤t∧t≤1000000:=by
 obtain ⟨x,hx⟩:∃ x,l.links[i]? = some x:=⟨_,List.getElem?_eq_getElem hi⟩
 obtain ⟨h1,h2,h3,h4,h5,h6,h7⟩:=g.link x (List.mem_of_getElem? hx)
 have hN:=g.nN
 have e1:((x.one.toNat:Nat):Int)=x.one:=by omega
 have e2:((x.two.toNat:Nat):Int)=x.two:=by omega
 refine ⟨x.one.toNat,x.two.toNat,x.trust,?_,NL.at_ hx,by omega,by omega,by omega,h6,h7⟩
 rw [hx,e1,e2]
theorem NetF.link {W:World} {B G:Nat} {l:NL} {ka aa ba da:Option Addr} {kc ac bc dc:Nat} {drop:List Int} {fb:Nat} {f:Nat→Int} {h:Nat→Nat} (m:NetF W B G l ka kc aa ac ba bc da dc drop fb f h) (g:Good l) {i:Nat} (hi:i < l.links.length) :
  ∃ (kb ko a b:Nat) (t:Int),ka=some ⟨kb,ko,none⟩∧kb < B∧lkAt l.L i=⟨a,b,t⟩∧a < l.N∧b < l.N∧a≠b∧1≤t∧t≤1000000 ∧
   W.cell? ⟨kb,ko+i * 3,none⟩=some (.int .i64 (a:Int))∧W.cell? ⟨kb,ko+i * 3+1,none⟩=some (.int .i64 (b:Int))∧W.cell? ⟨kb,ko+i * 3+2,none⟩=some (.int .i64 t):=by
 obtain ⟨a,b,t,h1,h2,h3,h4,h5,h6,h7⟩:=g.lk_at hi
 obtain ⟨kb,ko,x,k1,k2,k3,k4,k5,k6⟩:=link_at m.net.na.ks hi
 rw [h1] at k3
 injection k3 with k3
 subst k3
 exact ⟨kb,ko,a,b,t,k1,k2,h2,h3,h4,h5,h6,h7,k4,k5,k6⟩
theorem NetF.fl {W:World} {B G:Nat} {l:NL} {ka aa ba da:Option Addr} {kc ac bc dc:Nat} {drop:List Int} {fb:Nat} {f:Nat→Int} {h:Nat→Nat} (m:NetF W B G l ka kc aa ac ba bc da dc drop fb f h) {i:Nat} (hi:i < l.links.length) :
  W.cell? ⟨fb,i,none⟩=some (.int .i64 (f i)):=m.flow.at_ hi
theorem Blk.put3 {w:World} {g:Nat} {t:TypeId} {x0 x1 x2:Value} (h:Blk w g t #[x0,x1,x2]) (a b c:Value) :
  Blk (((w.setCell ⟨g,0,none⟩ a).setCell ⟨g,1,none⟩ b).setCell ⟨g,2,none⟩ c) g t #[a,b,c]:=by
 have:=((h.set_ 0 a).set_ 1 b).set_ 2 c
 simpa using this
theorem below_put3 {B:Nat} {v w:World} {g o1 o2 o3:Nat} (h:Below B v w) (hB:B≤g) (a b c:Value) :
  Below B v (((w.setCell ⟨g,o1,none⟩ a).setCell ⟨g,o2,none⟩ b).setCell ⟨g,o3,none⟩ c) :=
 ((h.setCell (p:=⟨g,o1,none⟩) hB a).setCell (p:=⟨g,o2,none⟩) hB b).setCell (p:=⟨g,o3,none⟩) hB c
theorem there_ok (g:Nat) (u v i:Int) (w:World) :
  Calls Tryz.prog 55 #[.pointer (some ⟨g,0,none⟩),.agg #[.int .i64 u,.int .i64 v,.int .i64 i]] w fun r w'=>r = .returned (.int .i64 1)∧Below w.heap.size w w':=by
 go_enter Tryz.func55,Tryz.ntmps55
 have hB:=(Below.refl w.heap.size w).alloc (Nat.le_refl _) (.cells #[.int .i64 u,.int .i64 v,.int .i64 i] 131)
 go_wp2
 go_ret
 exact ⟨rfl,hB⟩
section
variable {W:World} {B G:Nat} {l:NL} {ka aa ba da:Option Addr} {kc ac bc dc:Nat} {drop:List Int} {fb:Nat} {f:Nat→Int} {h:Nat→Nat}
set_option maxHeartbeats 1600000 in
theorem left_ok (m:NetF W B G l ka kc aa ac ba bc da dc drop fb f h) (g:Good l) (hf:Fits l.L f) (u v i:Nat) (hi:i < l.links.length) :
  Calls Tryz.prog 57 #[.pointer (some ⟨G,0,none⟩),.agg #[.int .i64 (u:Int),.int .i64 (v:Int),.int .i64 (i:Int)]] W fun r w'=>r = .returned (.int .i64 (resF l.L f u i))∧Below W.heap.size W w':=by
 obtain ⟨kb,ko,a,b,t,rfl, -,hlk, -, -, -,ht1,ht2,c0,c1,c2⟩:=m.link g hi
 have hfi:=g.flow_bound hf hi
 have hc:=m.fl hi
 obtain ⟨-,n1, -, -, -,n5⟩:=m.net.c6
 have HR:Hid (resF l.L f u i=if a=u then t-f i else t+f i):=by rw [Hid,resF,hlk]
 generalize f i=y at *
 have hii:(i:Int) < (l.links.length:Int):=by omega
 clear m hlk hf
 go_enter Tryz.func57,Tryz.ntmps57
 go_upto_region 1 with (fail)
 have hX:=Blk.new W 131 #[.int .i64 (u:Int),.int .i64 (v:Int),.int .i64 (i:Int)]
 have hB:=(Below.refl W.heap.size W).alloc (Nat.le_refl _) (.cells #[.int .i64 (u:Int),.int .i64 (v:Int),.int .i64 (i:Int)] 131)
 replace c0:=(hB.cell (p:=⟨_,_,none⟩) (cell_lt c0)).trans c0
 replace c1:=(hB.cell (p:=⟨_,_,none⟩) (cell_lt c1)).trans c1
 replace c2:=(hB.cell (p:=⟨_,_,none⟩) (cell_lt c2)).trans c2
 replace hc:=(hB.cell (p:=⟨_,_,none⟩) (cell_lt hc)).trans hc
 replace n1:=(hB.cell (p:=⟨_,_,none⟩) (cell_lt n1)).trans n1
 replace n5:=(hB.cell (p:=⟨_,_,none⟩) (cell_lt n5)).trans n5
 generalize W.alloc (.cells #[.int .i64 (u:Int),.int .i64 (v:Int),.int .i64 (i:Int)] 131)=V at *
 have x0:=hX.cell 0
 have x2:=hX.cell 2
 simp at x0 x2
 have f0:=Ext.of c0
 have f1:=Ext.of c1
 have f2:=Ext.of c2
 have f3:=Ext.of n1
 have f4:=Ext.of x2
 refine wp_region_schedH (C:=fun w'=>∃ x:Ext V,w'=x.w) [(0,true),(1,true),(2,true),(3,true),(4,true),(5,true),(6,true),(7,true),(8,true),(9,false),(10,false)] (by kernel_rfl) (by kernel_rfl) ⟨⟨V.drew,(Below.refl _ V).drew⟩,rfl⟩ ?_
 refine schedH_q (by rfl) (by rfl) ?_
 intro K hK
 go_big_quiet_op
 go_big_quiet_on
 refine schedH_q (by rfl) (by rfl) ?_
 intro K hK
 go_big_quiet_op
 go_big_quiet_on
 refine schedH_q (by rfl) (by rfl) ?_
 intro K hK
 go_big_quiet_op
 go_big_quiet_on
 refine schedH_q (by rfl) (by rfl) ?_
 intro K hK
 go_big_quiet_op
 go_big_quiet_on
 refine schedH_q (by rfl) (by rfl) ?_
 intro K hK
 go_big_quiet_op
 go_big_quiet_on
 refine schedH_q (by rfl) (by rfl) ?_
 intro K hK
 go_big_quiet_op
 go_big_quiet_on
 refine schedH_q (by rfl) (by rfl) ?_
 intro K hK
 go_big_quiet_op
 go_big_quiet_on
 refine schedH_q (by rfl) (by rfl) ?_
 intro K hK
 go_big_quiet_op
 go_big_quiet_on
 refine schedH_q (by rfl) (by rfl) ?_
 intro K hK
 go_big_quiet_op
 go_big_quiet_on
 clear f0 f1 f2 f3 f4
 refine schedH_c (by rfl) (by rfl) ?_
 intro K' hK'
 go_wp2
 have hU:=(Blk.new V 36 #[.int .i64 0,.int .i64 0,.int .i64 0]).drew
 have hbU:=((Below.refl V.heap.size V).alloc (Nat.le_refl _) (.cells #[.int .i64 0,.int .i64 0,.int .i64 0] 36)).drew
 refine hK' _ _ ⟨⟨⟨_,hbU⟩,rfl⟩,?_⟩
 clear hK' K'
 generalize (V.alloc (.cells #[.int .i64 0,.int .i64 0,.int .i64 0] 36)).drew=U at *
 have z0:=hU.cell 0
 have z1:=hU.cell 1
 have z2:=hU.cell 2
 have y0:=hU.frozen 0
 have y1:=hU.frozen 1
 have y2:=hU.frozen 2
 simp at z0 z1 z2
 refine schedH_c (by rfl) (by rfl) ?_
 intro K' hK'
 go_wp2
 have hL:=hU.put3 (.int .i64 (a:Int)) (.int .i64 (b:Int)) (.int .i64 t)
 have hbL:=below_put3 (o1:=0) (o2:=1) (o3:=2) hbU (Nat.le_refl _) (.int .i64 (a:Int)) (.int .i64 (b:Int)) (.int .i64 t)
 refine hK' _ _ ⟨⟨⟨_,hbL⟩,rfl⟩,?_⟩
 clear hK' K' hU hbU z0 z1 z2 y0 y1 y2
 generalize ((U.setCell ⟨V.heap.size,0,none⟩ (.int .i64 (a:Int))).setCell ⟨V.heap.size,1,none⟩ (.int .i64 (b:Int))).setCell ⟨V.heap.size,2,none⟩ (.int .i64 t)=Z at *
 refine schedH_nil ?_
 have hBZ:=hB.trans (hbL.mono hB.size)
 replace n5:=(hbL.cell (p:=⟨_,_,none⟩) (cell_lt n5)).trans n5
 replace hc:=(hbL.cell (p:=⟨_,_,none⟩) (cell_lt hc)).trans hc
 replace hX:=hX.call hbL
 clear c0 c1 c2 n1 x0 x2 hB hbL
 have x0:=hX.cell 0
 have x2:=hX.cell 2
 have z0:=hL.cell 0
 have z2:=hL.cell 2
 simp at x0 x2 z0 z2
 have f0:=Ext.of n5
 have f1:=Ext.of hc
 have f2:=Ext.of x2
 have f3:=Ext.of z2
 have w1:IntKind.i64.wrap (t-y)=t-y:=wrap_id _ (by omega) (by omega)
 have w2:IntKind.i64.wrap (t+y)=t+y:=wrap_id _ (by omega) (by omega)
 by_cases hau:a=u
 ·subst hau
  rw [Hid,if_pos rfl] at HR
  have HE:Hid (resF l.L f a i=t-y):=HR
  have d1:(((a:Nat):Int)==((a:Nat):Int))=true:=by simp
  clear HR
  go_upto_region 3 with (fail)
  refine wp_region_ext (by kernel_rfl) (by kernel_rfl) ?_
  repeat (go_big_quiet_step (fail))
  refine wpQuiet_nil ?_
  intro _ hw'
  obtain ⟨xr,hw''⟩:=hw'
  subst hw''
  go_wp2
  go_ret
  exact ⟨by rw [HE.out]; simp [w1],hBZ.trans (xr.h.mono hBZ.size)⟩
 ·rw [Hid,if_neg hau] at HR
  have HE:Hid (resF l.L f u i=t+y):=HR
  have d1:(((a:Nat):Int)==((u:Nat):Int))=false:=by
   rw [beq_eq_false_iff_ne]; omega
  have d1':(a==u)=false:=by simpa using hau
  clear HR hau
  go_upto_region 4 with (fail)
  refine wp_region_ext (by kernel_rfl) (by kernel_rfl) ?_
  repeat (go_big_quiet_step (fail))
  refine wpQuiet_nil ?_
  intro _ hw'
  obtain ⟨xr,hw''⟩:=hw'
  subst hw''
  go_wp2
  go_ret
  exact ⟨by rw [HE.out]; simp [w2],hBZ.trans (xr.h.mono hBZ.size)⟩
end
end Go.Proofs.YtibmeigdjghkcaaGreat
namespace Go.Proofs.YtibmeigdjghkcaaGreat
open Go.RowKit Go.Shelf
set_option linter.unusedVariables false
section
variable {W:World} {B G:Nat} {l:NL} {ka aa ba da:Option Addr} {kc ac bc dc:Nat} {drop:List Int} {fb:Nat} {f:Nat→Int} {h:Nat→Nat}
set_option maxHeartbeats 1600000 in
theorem push_ok (m:NetF W B G l ka kc aa ac ba bc da dc drop fb f h) (g:Good l) (hf:Fits l.L f) (u v i:Nat) (hi:i < l.links.length) (much:Int) (hm : -4000000≤much∧much≤4000000) :
  Calls Tryz.prog 228 #[.pointer (some ⟨G,0,none⟩),.agg #[.int .i64 (u:Int),.int .i64 (v:Int),.int .i64 (i:Int)],.int .i64 much] W fun r w'=>r = .returned (.tuple #[])∧NetF w' B G l ka kc aa ac ba bc da dc drop fb (pushF l.L f u i much) h∧W.grownBy w' (some fb):=by
 obtain ⟨kb,ko,a,b,t,rfl, -,hlk, -, -, -,ht1,ht2,c0,c1,c2⟩:=m.link g hi
 have hfi:=g.flow_bound hf hi
 have hc:=m.fl hi
 obtain ⟨-,n1, -, -, -,n5⟩:=m.net.c6
 have HP:Hid (∀ j,pushF l.L f u i much j=if j=i then (if a=u then f i+much else f i-much) else f j):=by
  intro j
  rw [pushF,hlk]
 have hii:(i:Int) < (l.links.length:Int):=by omega
 clear hlk hf
 go_enter Tryz.func228,Tryz.ntmps228
 go_upto_region 1 with (fail)
 have hX:=Blk.new W 131 #[.int .i64 (u:Int),.int .i64 (v:Int),.int .i64 (i:Int)]
 have hB:=(Below.refl W.heap.size W).alloc (Nat.le_refl _) (.cells #[.int .i64 (u:Int),.int .i64 (v:Int),.int .i64 (i:Int)] 131)
 replace c0:=(hB.cell (p:=⟨_,_,none⟩) (cell_lt c0)).trans c0
 replace hc:=(hB.cell (p:=⟨_,_,none⟩) (cell_lt hc)).trans hc
 replace n1:=(hB.cell (p:=⟨_,_,none⟩) (cell_lt n1)).trans n1
 replace n5:=(hB.cell (p:=⟨_,_,none⟩) (cell_lt n5)).trans n5
 replace m:=m.call hB
 clear c1 c2
 generalize W.alloc (.cells #[.int .i64 (u:Int),.int .i64 (v:Int),.int .i64 (i:Int)] 131)=V at *
 have x0:=hX.cell 0
 have x2:=hX.cell 2
 simp at x0 x2
 have f0:=Ext.of c0
 have f1:=Ext.of x0
 have f2:=Ext.of x2
 have f3:=Ext.of n1
 refine wp_region_ext (by kernel_rfl) (by kernel_rfl) ?_
 repeat (go_big_quiet_step (fail))
 refine wpQuiet_nil ?_
 intro _ hw'
 obtain ⟨xr,hw''⟩:=hw'
 subst hw''
 clear f0 f1 f2 f3
 have hB1:=hB.trans (xr.h.mono hB.size)
 replace m:=m.call xr.h
 replace hX:=hX.call xr.h
 replace hc:=(xr.h.cell (p:=⟨_,_,none⟩) (cell_lt hc)).trans hc
 replace n5:=(xr.h.cell (p:=⟨_,_,none⟩) (cell_lt n5)).trans n5
 obtain ⟨Z,hZ⟩:∃ Z:World,Z=xr.w:=⟨_,rfl⟩
 rw [← hZ] at m hX hc n5 hB1 ⊢
 clear hZ xr hB c0 n1 x0 x2
 have x2:=hX.cell 2
 simp at x2
 have f0:=Ext.of n5
 have f1:=Ext.of hc
 have f2:=Ext.of x2
 have hfz:∀ x:Ext Z,x.w.frozen? ⟨fb,i,none⟩=false:=fun x=>(x.h.frozen (p:=⟨fb,i,none⟩) m.lt.2).trans (m.flow.fz i)
 by_cases hau:a=u
 ·subst hau
  have d1:(((a:Nat):Int)==((a:Nat):Int))=true:=by simp
  have w1:IntKind.i64.wrap (f i+much)=f i+much:=wrap_id _ (by omega) (by omega)
  go_upto_region 2 with (fail)
  refine wp_region_tail (C:=fun w'=>∃ x:Ext Z,w'=x.w) 10 (by kernel_rfl) (by kernel_rfl) ⟨⟨(Z).drew,⟨rfl,rfl,rfl,Nat.le_refl _,fun _ _=>rfl⟩⟩,rfl⟩ ?_
  simp only [List.take_succ_cons,List.take_zero,List.drop_succ_cons,List.drop_zero]
  repeat (go_big_quiet_step (fail))
  refine wpQuiet_nil ?_
  intro _ hw'
  obtain ⟨xr,hw''⟩:=hw'
  subst hw''
  have z0:=f1 xr
  have z1:=hfz xr
  go_wp2
  have hm2:=(m.call xr.h).push (i:=i) (x:=f i+much) (g:=pushF l.L f a i much) (fun j _=>by rw [HP.out j]; simp)
  have hg2:W.grownBy (xr.w.setCell ⟨fb,i,none⟩ (.int .i64 (f i+much))) (some fb):=grown_trans' (grown_call (hB1.trans (xr.h.mono hB1.size)) _) (grown_setCell _)
  go_end0
  exact ⟨rfl,hm2,hg2⟩
 ·have d1:(((a:Nat):Int)==((u:Nat):Int))=false:=by
   rw [beq_eq_false_iff_ne]; omega
  have d1':(a==u)=false:=by simpa using hau
  have w1:IntKind.i64.wrap (f i-much)=f i-much:=wrap_id _ (by omega) (by omega)
  go_upto_region 3 with (fail)
  refine wp_region_tail (C:=fun w'=>∃ x:Ext Z,w'=x.w) 10 (by kernel_rfl) (by kernel_rfl) ⟨⟨(Z).drew,⟨rfl,rfl,rfl,Nat.le_refl _,fun _ _=>rfl⟩⟩,rfl⟩ ?_
  simp only [List.take_succ_cons,List.take_zero,List.drop_succ_cons,List.drop_zero]
  repeat (go_big_quiet_step (fail))
  refine wpQuiet_nil ?_
  intro _ hw'
  obtain ⟨xr,hw''⟩:=hw'
  subst hw''
  have z0:=f1 xr
  have z1:=hfz xr
  go_wp2
  have hm2:=(m.call xr.h).push (i:=i) (x:=f i-much) (g:=pushF l.L f u i much) (fun j _=>by rw [HP.out j,if_neg hau])
  have hg2:W.grownBy (xr.w.setCell ⟨fb,i,none⟩ (.int .i64 (f i-much))) (some fb):=grown_trans' (grown_call (hB1.trans (xr.h.mono hB1.size)) _) (grown_setCell _)
  go_end0
  exact ⟨rfl,hm2,hg2⟩
theorem ways_ok (G u:Nat) (w:World) :
  Calls Tryz.prog 68 #[.pointer (some ⟨G,0,none⟩),.int .i64 (u:Int)] w fun r w'=>r = .returned (.func (.func 139) #[] #[.pointer (some ⟨w.heap.size,0,none⟩),.pointer (some ⟨w.heap.size+1,0,none⟩)])∧Blk w' w.heap.size 122 #[.pointer (some ⟨G,0,none⟩)]∧Blk w' (w.heap.size+1) 3 #[.int .i64 (u:Int)]∧w'.heap.size=w.heap.size+2∧Below w.heap.size w w':=by
 go_enter Tryz.func68,Tryz.ntmps68
 have h1:=Blk.new w 122 #[.pointer (some ⟨G,0,none⟩)]
 have b1:=(Below.refl w.heap.size w).alloc (Nat.le_refl _) (.cells #[.pointer (some ⟨G,0,none⟩)] 122)
 have s1:(w.alloc (.cells #[.pointer (some ⟨G,0,none⟩)] 122)).heap.size=w.heap.size+1:=by simp
 have h2:=Blk.new (w.alloc (.cells #[.pointer (some ⟨G,0,none⟩)] 122)) 3 #[.int .i64 (u:Int)]
 have b2:=(Below.refl (w.alloc (.cells #[.pointer (some ⟨G,0,none⟩)] 122)).heap.size (w.alloc (.cells #[.pointer (some ⟨G,0,none⟩)] 122))).alloc (Nat.le_refl _) (.cells #[.int .i64 (u:Int)] 3)
 have s2:((w.alloc (.cells #[.pointer (some ⟨G,0,none⟩)] 122)).alloc (.cells #[.int .i64 (u:Int)] 3)).heap.size=w.heap.size+2:=by simp
 rw [s1] at h2
 go_wp2
 go_ret
 exact ⟨rfl,h1.call b2,h2,s2,b1.trans (b2.mono (by omega))⟩
end
end Go.Proofs.YtibmeigdjghkcaaGreat
namespace Go.Proofs.YtibmeigdjghkcaaGreat
open Go.RowKit Go.Shelf
set_option linter.unusedVariables false
def waysTo (L:List Lk) (drop:List Nat) (u k:Nat):List (Nat×Nat):=((List.range k).filter (touches L drop u)).map fun i=>(otherE L u i,i)
theorem waysTo_all (L:List Lk) (drop:List Nat) (u:Nat):waysTo L drop u L.length=waysL L drop u:=rfl
theorem waysTo_yes {L:List Lk} {drop:List Nat} {u k:Nat} (h:touches L drop u k=true):waysTo L drop u (k+1)=waysTo L drop u k++[(otherE L u k,k)]:=by
 unfold waysTo
 rw [List.range_succ,List.filter_append,List.map_append]
 simp [h]
theorem waysTo_no {L:List Lk} {drop:List Nat} {u k:Nat} (h:touches L drop u k=false):waysTo L drop u (k+1)=waysTo L drop u k:=by
 unfold waysTo
 rw [List.range_succ,List.filter_append,List.map_append]
 simp [h]
theorem waysTo_split (L:List Lk) (drop:List Nat) (u k:Nat):∀ d,∃ post,waysTo L drop u k++post=waysTo L drop u (k+d)
 | 0=>⟨[],by simp⟩
 | d+1=>by
   obtain ⟨post,h⟩:=waysTo_split L drop u k d
   cases ht:touches L drop u (k+d)
   ·exact ⟨post,by rw [h,← Nat.add_assoc,waysTo_no ht]⟩
   ·exact ⟨post++[(otherE L u (k+d),k+d)],by rw [← List.append_assoc,h,← Nat.add_assoc,waysTo_yes ht]⟩
theorem waysTo_next {L:List Lk} {drop:List Nat} {u k:Nat} (hk:k < L.length) (h:touches L drop u k=true):∃ post,waysTo L drop u k++(otherE L u k,k)::post=waysL L drop u:=by
 obtain ⟨post,hp⟩:=waysTo_split L drop u (k+1) (L.length-(k+1))
 rw [show k+1+(L.length-(k+1))=L.length by omega,waysTo_all,waysTo_yes h] at hp
 exact ⟨post,by simpa using hp⟩
theorem drop_any {drop:List Int} (hd:∀ x∈drop,0≤x) (i:Nat):(drop.any fun y=>(i:Int)==y)=(natL drop).contains i:=by
 rw [Bool.eq_iff_iff]
 unfold natL
 simp only [List.any_eq_true,beq_iff_eq,List.contains_iff_mem,List.mem_map]
 constructor
 ·rintro ⟨x,hx,rfl⟩; exact ⟨_,hx,by omega⟩
 ·rintro ⟨x,hx,e⟩; have:=hd x hx; exact ⟨x,hx,by omega⟩
def KeepN (B G b1 b2:Nat) (W W':World):Prop:=∀ k,(k < B∨k=G∨k=b1∨k=b2)→W'.heap[k]? = W.heap[k]?
def encW (u:Nat) (x:Nat×Nat):Array Value:=#[.agg #[.int .i64 (u:Int),.int .i64 (x.1:Int),.int .i64 (x.2:Int)]]
attribute [local go_sem] Oper.semAt_some
set_option maxRecDepth 100000 in
set_option maxHeartbeats 1600000 in
theorem ways_seq {B G:Nat} {l:NL} {ka aa ba da:Option Addr} {kc ac bc dc:Nat} {drop:List Int} {fv:Value} {h:Nat→Nat} (n b1 b2 u:Nat) (w:World) (g:Good l) (hd:∀ x∈drop,0≤x)
  (hM:NetM w B G l ka kc aa ac ba bc da dc drop fv h) (hP:Blk w b1 122 #[.pointer (some ⟨G,0,none⟩)]) (hQ:Blk w b2 3 #[.int .i64 (u:Int)]) :
  SeqN Fence.wide (n+3) Tryz.prog 139 #[.pointer (some ⟨b1,0,none⟩),.pointer (some ⟨b2,0,none⟩)] (encW u) (KeepN B G b1 b2) (waysL l.L (natL drop) u) w:=by
 intro y J W hW hJ hY h0
 replace hM:=hM.call hW
 replace hP:=hP.call hW
 replace hQ:=hQ.call hW
 have h120:=g.few
 have HD:=Lib.hid hd
 refine callsIn_of_wp Tryz.func139 rfl trivial ?_ rfl
 simp only [Tryz.ntmps139,List.size_toArray,List.length_cons,List.length_nil,Nat.reduceAdd,Nat.reduceSub,Array.replicate_succ,Array.replicate_zero,List.push_toArray,List.append_toArray,List.nil_append,List.cons_append]
 have p0:=hP.cell 0
 simp at p0
 obtain ⟨-,n1, -, -, -, -⟩:=hM.c6
 have hfn:Fence.wide.fn 67:=trivial
 refine wpIn_wide.2 ?_
 go_wp2
 go_loopw [13] (fun i wr=>∃ k:Nat,k≤l.links.length∧i = .int .i64 k∧J (waysTo l.L (natL drop) u k) wr∧NetM wr B G l ka kc aa ac ba bc da dc drop fv h∧Blk wr b1 122 #[.pointer (some ⟨G,0,none⟩)]∧Blk wr b2 3 #[.int .i64 (u:Int)]) (fun i _=>l.links.length-(intOf i).toNat)
 case atStart=>exact ⟨0,by omega,rfl,h0,hM,hP,hQ⟩
 case round =>
  clear h0 hM hP hQ p0 n1
  obtain ⟨k,hk,rfl,hJ0,hM,hP,hQ⟩:=hrel
  by_cases hlt:k < l.links.length
  ·have d1:decide (k < l.links.length)=true:=decide_eq_true hlt
   have d1':decide ((k:Int) < (l.links.length:Int))=true:=decide_eq_true (by omega)
   have hki:(k:Int) < (l.links.length:Int):=by omega
   obtain ⟨a,b,t,h1,hlk, -, -,hab, -, -⟩:=g.lk_at hlt
   obtain ⟨kb,ko,x,rfl,hkb,k3,c0,c1,c2⟩:=link_at hM.na.ks hlt
   rw [h1] at k3
   injection k3 with k3
   subst k3
   dsimp only at c0 c1 c2
   have HLK:=Lib.hid hlk
   have HAB:=Lib.hid hab
   clear hlk h1 hab
   go_upto_region 3 with (fail)
   have hb1:=(Below.refl wr.heap.size wr).alloc (Nat.le_refl _) (.cells #[.int .i64 (a:Int),.int .i64 (b:Int),.int .i64 t] 36)
   have hX:=Blk.new wr 36 #[.int .i64 (a:Int),.int .i64 (b:Int),.int .i64 t]
   replace hM:=hM.call hb1
   replace hP:=hP.call hb1
   replace hQ:=hQ.call hb1
   have hJ1:=hJ _ _ _ none hJ0 (grown_of_below hb1) (by simp)
   clear c0 c1 c2 hJ0 hb1
   generalize wr.alloc (.cells #[.int .i64 (a:Int),.int .i64 (b:Int),.int .i64 t] 36)=w1 at *
   have p0:=hP.cell 0
   simp at p0
   obtain ⟨-, -, -, -,n4, -⟩:=hM.c6
   have hcn:=contains_int_ok _ drop (k:Int) w1 (hM.dr.more (by have:=hM.le; have:=hM.lt; omega))
   rw [drop_any HD.out] at hcn
   go_wp2_with fail
   refine hcn.mono ?_
   rintro e w2 ⟨rfl,hb⟩
   have hM2:=hM.call hb
   have hP2:=hP.call hb
   have hQ2:=hQ.call hb
   have hX2:=hX.call hb
   have hJ2:=hJ _ _ _ none hJ1 (grown_of_below hb) (by simp)
   clear hM hP hQ hX hJ1 hcn p0 n4
   have HT:Hid (touches l.L (natL drop) u k=(!(natL drop).contains k&&(decide (a=u)||decide (b=u)))):=by rw [Hid,touches,HLK.out]
   have HO:Hid (otherE l.L u k=if b=u then a else b):=by rw [Hid,otherE,HLK.out]
   have q0:=hQ2.cell 0
   have x0:=hX2.cell 0
   have x1:=hX2.cell 1
   simp at q0 x0 x1
   cases hdr:(natL drop).contains k
   ·rw [Hid,hdr,Bool.not_false,Bool.true_and] at HT
    clear hdr
    by_cases hbu:b=u
    ·have hau:a≠u:=by have:=HAB.out; omega
     have d2:(((b:Nat):Int)==((u:Nat):Int))=true:=by rw [beq_iff_eq]; omega
     have d3:(((a:Nat):Int)==((u:Nat):Int))=false:=by rw [beq_eq_false_iff_ne]; omega
     have HTT:Hid (touches l.L (natL drop) u k=true):=by rw [Hid,HT]; simp [hbu]
     rw [Hid,if_pos hbu] at HO
     obtain ⟨post,hpo⟩:=waysTo_next (by rw [NL.len]; exact hlt) HTT.out
     rw [HO] at hpo
     have HPO:=Lib.hid hpo
     have hto:=waysTo_yes HTT.out
     rw [HO] at hto
     have HTO:=Lib.hid hto
     clear hto hpo HO HT hbu hau
     go_upto_region 7 with (fail)
     refine (wpIn_wide (n:=n+3)).1 ?_
     obtain ⟨fn,tmps,assign,body,hy,hR⟩:=hY (waysTo l.L (natL drop) u k) (a,k) post w2 hJ2 HPO.out
     dsimp only [encW] at hy
     gi_wp2
     refine hR.mono ?_
     rintro e W3 ⟨rfl,hJ3,hk3⟩
     have hM3:=hM2.keep fun q hq=>hk3 q (by rcases hq with hq | hq <;> simp [hq])
     have hP3:Blk W3 b1 122 #[.pointer (some ⟨G,0,none⟩)]:=(hk3 b1 (by simp)).trans hP2
     have hQ3:Blk W3 b2 3 #[.int .i64 (u:Int)]:=(hk3 b2 (by simp)).trans hQ2
     rw [← HTO.out] at hJ3
     clear hR hy hM2 hP2 hQ2 hJ2 hk3
     gi_wp2
     go_wp2
     go_roundw
     case rel=>exact ⟨k+1,by omega,by go_num,hJ3,hM3,hP3,hQ3⟩
     case measure=>(simp [intOf]; try omega)
    ·by_cases hau:a=u
     ·have d2:(((b:Nat):Int)==((u:Nat):Int))=false:=by rw [beq_eq_false_iff_ne]; omega
      have d3:(((a:Nat):Int)==((u:Nat):Int))=true:=by rw [beq_iff_eq]; omega
      have HTT:Hid (touches l.L (natL drop) u k=true):=by rw [Hid,HT]; simp [hau]
      rw [Hid,if_neg hbu] at HO
      obtain ⟨post,hpo⟩:=waysTo_next (by rw [NL.len]; exact hlt) HTT.out
      rw [HO] at hpo
      have HPO:=Lib.hid hpo
      have hto:=waysTo_yes HTT.out
      rw [HO] at hto
      have HTO:=Lib.hid hto
      clear hto hpo HO HT hbu hau
      go_upto_region 7 with (fail)
      refine (wpIn_wide (n:=n+3)).1 ?_
      obtain ⟨fn,tmps,assign,body,hy,hR⟩:=hY (waysTo l.L (natL drop) u k) (b,k) post w2 hJ2 HPO.out
      dsimp only [encW] at hy
      gi_wp2
      refine hR.mono ?_
      rintro e W3 ⟨rfl,hJ3,hk3⟩
      have hM3:=hM2.keep fun q hq=>hk3 q (by rcases hq with hq | hq <;> simp [hq])
      have hP3:Blk W3 b1 122 #[.pointer (some ⟨G,0,none⟩)]:=(hk3 b1 (by simp)).trans hP2
      have hQ3:Blk W3 b2 3 #[.int .i64 (u:Int)]:=(hk3 b2 (by simp)).trans hQ2
      rw [← HTO.out] at hJ3
      clear hR hy hM2 hP2 hQ2 hJ2 hk3
      gi_wp2
      go_wp2
      go_roundw
      case rel=>exact ⟨k+1,by omega,by go_num,hJ3,hM3,hP3,hQ3⟩
      case measure=>(simp [intOf]; try omega)
     ·have d2:(((b:Nat):Int)==((u:Nat):Int))=false:=by rw [beq_eq_false_iff_ne]; omega
      have d3:(((a:Nat):Int)==((u:Nat):Int))=false:=by rw [beq_eq_false_iff_ne]; omega
      have HTO:Hid (waysTo l.L (natL drop) u (k+1)=waysTo l.L (natL drop) u k):=waysTo_no (by rw [HT]; simp [hau,hbu])
      rw [← HTO.out] at hJ2
      clear HT HO hau hbu
      go_wp2
      go_roundw
      case rel=>exact ⟨k+1,by omega,by go_num,hJ2,hM2,hP2,hQ2⟩
      case measure=>(simp [intOf]; try omega)
   ·have HTO:Hid (waysTo l.L (natL drop) u (k+1)=waysTo l.L (natL drop) u k):=waysTo_no (by rw [HT.out,hdr]; rfl)
    rw [← HTO.out] at hJ2
    clear HT HO hdr
    go_wp2
    go_roundw
    case rel=>exact ⟨k+1,by omega,by go_num,hJ2,hM2,hP2,hQ2⟩
    case measure=>(simp [intOf]; try omega)
  ·obtain rfl:k=l.links.length:=by omega
   have d1:decide (l.links.length < l.links.length)=false:=by simp
   have HA:Hid (waysTo l.L (natL drop) u l.links.length=waysL l.L (natL drop) u):=by rw [Hid,← waysTo_all,NL.len]
   rw [HA.out] at hJ0
   go_wp2
   go_end0
   exact ⟨⟨_,rfl⟩,hJ0⟩
end Go.Proofs.YtibmeigdjghkcaaGreat
