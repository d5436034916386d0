/- Contract: CheckChain. -/
import Derived.Test.YtibmeigdjghkcaaGreatFil
import Derived.Test.YtibmeigdjghkcaaGreatRfJM
namespace Go.Proofs.YtibmeigdjghkcaaGreat
open Go.RowKit Go.Shelf
set_option linter.unusedVariables false
theorem frame89 {tm:Array Value} (h:tm.size=89) {v5 v6 v7 v9:Value} (h5:tm.getD 5 undef=v5) (h6:tm.getD 6 undef=v6) (h7:tm.getD 7 undef=v7) (h9:tm.getD 9 undef=v9) :
  ∃ u:Nat→Value,tm=#[u 0,u 1,u 2,u 3,u 4,v5,v6,v7,u 8,v9,u 10,u 11,u 12,u 13,u 14,u 15,u 16,u 17,u 18,u 19,u 20,u 21,u 22,u 23,u 24,u 25,u 26,u 27,u 28,u 29,u 30,u 31,u 32,u 33,u 34,u 35,u 36,u 37,u 38,u 39,u 40,u 41,u 42,u 43,u 44,u 45,u 46,u 47,u 48,u 49,u 50,u 51,u 52,u 53,u 54,u 55,u 56,u 57,u 58,u 59,u 60,u 61,u 62,u 63,u 64,u 65,u 66,u 67,u 68,u 69,u 70,u 71,u 72,u 73,u 74,u 75,u 76,u 77,u 78,u 79,u 80,u 81,u 82,u 83,u 84,u 85,u 86,u 87,u 88]:=by
 subst h5 h6 h7 h9
 exact ⟨fun i=>tm.getD i undef,arr_range tm 89 h⟩
theorem all_inN {n:Int} {c:List Int} (h:c≠[]):c.all (inN n)=(!decide (minL c < 0)&&!decide (n≤maxL c)):=by
 have h1:=minL_lt 0 c h
 have h2:=maxL_gt (n-1) c h
 rw [show decide (n≤maxL c)=decide (n-1 < maxL c) from decide_eq_decide.2 (by omega),h1,h2,Bool.eq_iff_iff,List.all_eq_true,Bool.and_eq_true,Bool.not_eq_true',Bool.not_eq_true',List.any_eq_false,List.any_eq_false]
 unfold inN
 simp only [Bool.and_eq_true,decide_eq_true_eq]
 constructor
 ·intro hh
  exact ⟨fun x hx=>by have:=hh x hx; omega,fun x hx=>by have:=hh x hx; omega⟩
 ·rintro ⟨ha,hb⟩ x hx
  have:=ha x hx
  have:=hb x hx
  omega
structure CcI (W0 W:World) (B G:Nat) (l:NL) (ka:Option Addr) (kc:Nat) (aa:Option Addr) (ac:Nat) (ba:Option Addr) (bc:Nat) (da:Option Addr) (dc:Nat) (drop:List Int) (fb s m g:Nat) (cv:Value) (j:Nat):Prop where
 net:NetF W B G l ka kc aa ac ba bc da dc drop fb (fun _=>0) (fun _=>0)
 bl:Below s W0 W
 cb:Blk W (s+1) 30 #[cv]
 ib:Blk W g 3 #[.int .i64 (j:Int)]
 lo:G < m∧fb < m∧s+1 < m∧B≤m∧m≤g
section
variable {W0 W W':World} {B G:Nat} {l:NL} {ka aa ba da:Option Addr} {kc ac bc dc:Nat} {drop:List Int} {fb s m g j:Nat} {cv:Value}
theorem CcI.grown (r:CcI W0 W B G l ka kc aa ac ba bc da dc drop fb s m g cv j) {row:Option Nat} (hg:W.grownBy W' row) (hr:∀ ρ,row=some ρ→m≤ρ∧ρ≠g):CcI W0 W' B G l ka kc aa ac ba bc da dc drop fb s m g cv j:=by
 have h1:=r.lo
 have h2:=r.ib.lt
 exact ⟨r.net.grown hg fun ρ e=>by have:=hr ρ e; omega,⟨hg.os.trans r.bl.os,hg.tape.trans r.bl.tape,hg.output.trans r.bl.output,Nat.le_trans r.bl.size hg.size,fun k hk=>(hg.block k (by omega) fun e=>by have:=hr k e.symm; omega).trans (r.bl.block k hk)⟩,
  r.cb.grown hg fun e=>by have:=hr _ e.symm; omega,r.ib.grown hg fun e=>by have:=hr _ e.symm; omega,h1⟩
theorem CcI.call (r:CcI W0 W B G l ka kc aa ac ba bc da dc drop fb s m g cv j) (hb:Below W.heap.size W W'):CcI W0 W' B G l ka kc aa ac ba bc da dc drop fb s m g cv j:=r.grown (grown_call hb none) fun ρ e=>by cases e
end
def CcIn (W0:World) (B G:Nat) (l:NL) (ka:Option Addr) (kc:Nat) (aa:Option Addr) (ac:Nat) (ba:Option Addr) (bc:Nat) (da:Option Addr) (dc:Nat) (drop:List Int) (fb s m g:Nat) (cv:Value) (j b1 T:Nat) (ds:List Deferred) (y:Nat) (q:Nat) (pre:List (Nat×Nat)) (W:World):Prop :=
 b1+2≤W.heap.size∧Marks m T W ds∧CcI W0 W B G l ka kc aa ac ba bc da dc drop fb s m g cv j∧Blk W q 4 #[.bool (pre.any fun p=>p.1==y)]
theorem linked_any {l:NL} {D:List Nat} (g:Good l) {x y:Nat} (hx:inN l.n (x:Int)=true) (hy:inN l.n (y:Int)=true):(waysL l.L D x).any (fun p=>p.1==y)=linkedB l D (x:Int) (y:Int):=by
 rw [Bool.eq_iff_iff,linked_way g hx hy,List.any_eq_true]
 constructor
 ·rintro ⟨⟨v,i⟩,h,e⟩
  have e:v=y:=by simpa using e
  exact ⟨i,by rw [show ((y:Nat):Int).toNat=y by omega,show ((x:Nat):Int).toNat=x by omega,← e]; exact h⟩
 ·rintro ⟨i,h⟩
  rw [show ((y:Nat):Int).toNat=y by omega,show ((x:Nat):Int).toNat=x by omega] at h
  exact ⟨_,h,by simp⟩
attribute [local go_sem] Oper.semAt_some
set_option maxRecDepth 100000 in
set_option maxHeartbeats 3200000 in
theorem checkChain_ok (v dv cv:Value) (l:NL) (drop c:List Int) (w:World) (hv:NLV w w.heap.size v l) (hd:Arr w w.heap.size 1 dv drop icell) (hc:Arr w w.heap.size 1 cv c icell) :
  Calls Tryz.prog 18 #[v,dv,cv] w fun r w'=>r = .returned (.int .i64 (chkC l drop c))∧Below w.heap.size w w':=by
 obtain ⟨ka,kc,aa,ac,ba,bc,rfl,hna⟩:=hv
 obtain ⟨ca,cc,rfl,hc1,hc2, -⟩:=id hc
 have hC:=NB.new hna
 have hB:=(Below.refl w.heap.size w).alloc (Nat.le_refl _) (.cells #[.int .i64 l.n,.slice ka l.links.length kc,.slice aa l.left.length ac,.slice ba l.right.length bc] 33)
 refine (callsIn_wide (n:=8)).1 ?_
 refine callsIn_of_wp_marks Tryz.func18 rfl trivial ?_ rfl
 simp only [Tryz.ntmps18,List.size_toArray,List.length_cons,List.length_nil,Nat.reduceAdd,Nat.reduceSub,Array.replicate_succ,Array.replicate_zero,List.push_toArray,List.append_toArray,List.nil_append,List.cons_append]
 refine wpIn_wide.2 ?_
 go_upto_region 1 with (fail)
 generalize hW:w.alloc (.cells #[.int .i64 l.n,.slice ka l.links.length kc,.slice aa l.left.length ac,.slice ba l.right.length bc] 33)=W at *
 have hX:=Blk.new W 30 #[.slice ca c.length cc]
 have hb1:=(Below.refl W.heap.size W).alloc (Nat.le_refl _) (.cells #[.slice ca c.length cc] 30)
 replace hB:=hB.trans (hb1.mono hB.size)
 replace hC:=hC.call hb1
 rw [show W.heap.size=w.heap.size+1 by rw [← hW]; simp] at hX
 clear hW hb1
 generalize W.alloc (.cells #[.slice ca c.length cc] 30)=V at *
 replace hd:=(hd.below hB).more hB.size
 have HCA:=Lib.hid (fun (W':World) (hb:Below w.heap.size w W')=>(hc.below hb).more hb.size)
 obtain ⟨k0,k1,k2,k3⟩:=hC.blk.c4
 have ho:=open_ok _ dv l drop V hC.v hd
 go_wp2_with fail
 refine ho.mono ?_
 rintro e w1 ⟨hb,hcase⟩
 replace hB:=hB.trans (hb.mono hB.size)
 replace hC:=hC.call hb
 replace hX:=hX.call hb
 clear ho k0 k1 k2 k3
 rcases hcase with ⟨h0,rfl⟩ | ⟨h0,G,fb,ka',kc',aa',ac',ba',bc',da,dc,rfl,hveq,hdv,hN⟩
 ·have d0:(openE l drop != 0)=true:=by simpa using h0
  have HX:=Lib.hid (chkC_bad (c:=c) h0)
  clear h0
  go_wp2
  exact ⟨.int .i64 (openE l drop),by simp [results,Tryz.results18,go_sem],ret_i HX.out.symm,hB⟩
 ·obtain ⟨rfl,rfl,rfl,rfl,rfl,rfl⟩:ka=ka'∧kc=kc'∧aa=aa'∧ac=ac'∧ba=ba'∧bc=bc':=by simpa [and_assoc] using hveq
  obtain ⟨hc0,hrd⟩:=openE_inv h0
  have hg:=check_good.1 hc0
  have hdp:∀ x∈drop,0≤x:=fun x hx=>by have:=(rises_lo hrd x hx).1; omega
  have H0:=Lib.hid h0
  have x0:=hX.cell 0
  simp at x0
  obtain ⟨k0,k1,k2,k3⟩:=hC.blk.c4
  clear hveq hdv h0 hc0 hrd hb
  by_cases h1:c.length < 2
  ·have d1:decide (c.length < 2)=true:=decide_eq_true h1
   have d1':decide ((c.length:Int) < 2)=true:=decide_eq_true (by omega)
   have HX:=Lib.hid (chkC_many H0.out (.inl h1))
   clear h1
   go_wp2
   exact ⟨.int .i64 6,by simp [results,Tryz.results18,go_sem],ret_i HX.out.symm,hB⟩
  ·have d1:decide (c.length < 2)=false:=decide_eq_false h1
   have d1':decide ((c.length:Int) < 2)=false:=decide_eq_false (by omega)
   by_cases h2:40 < c.length
   ·have d2:decide (40 < c.length)=true:=decide_eq_true h2
    have d2':decide ((40:Int) < (c.length:Int))=true:=decide_eq_true (by omega)
    have HX:=Lib.hid (chkC_many H0.out (.inr h2))
    clear h1 h2
    go_wp2
    exact ⟨.int .i64 6,by simp [results,Tryz.results18,go_sem],ret_i HX.out.symm,hB⟩
   ·have d2:decide (40 < c.length)=false:=decide_eq_false h2
    have d2':decide ((40:Int) < (c.length:Int))=false:=decide_eq_false (by omega)
    have HR:=Lib.hid (fun h3=>chkC_range H0.out (show ¬ (c.length < 2∨40 < c.length) by omega) h3)
    have HG:=Lib.hid (fun h3=>chkC_go H0.out (show ¬ (c.length < 2∨40 < c.length) by omega) h3)
    have HL:=Lib.hid (show 2≤c.length∧c.length≤40 by omega)
    have hne:c≠[]:=fun h=>by rw [h] at h1; simp at h1
    have hall:=all_inN (n:=l.n) hne
    have HM1:Hid (∀ z:Ext w1,Calls Tryz.prog 65 #[.slice ca c.length cc] z.w fun r w'=>r = .returned (.int .i64 (minL c))∧∃ u:Ext w1,w'=u.w):=fun z=>ext_call z (min_ok _ c z.w hne (HCA.out z.w (hB.trans (z.h.mono hB.size))))
    have HM2:Hid (∀ z:Ext w1,Calls Tryz.prog 66 #[.slice ca c.length cc] z.w fun r w'=>r = .returned (.int .i64 (maxL c))∧∃ u:Ext w1,w'=u.w):=fun z=>ext_call z (max_ok _ c z.w hne (HCA.out z.w (hB.trans (z.h.mono hB.size))))
    have f0:=Ext.of x0
    have f1:=Ext.of k0
    generalize minL c=m1 at *
    generalize maxL c=m2 at *
    clear h1 h2 hne
    by_cases q1:m1 < 0
    ·have e1:decide (m1 < 0)=true:=decide_eq_true q1
     have HX:=Lib.hid (HR.out (by rw [hall,e1]; rfl))
     clear q1 hall
     go_upto_region 6 with (fail)
     refine wp_region_ext (by kernel_rfl) (by kernel_rfl) ?_
     repeat (go_big_quiet_step ((first | (go_at_call 65; with_reducible exact HM1.out _) | (go_at_call 66; with_reducible exact HM2.out _))))
     refine wpQuiet_nil ?_
     intro _ hw'
     obtain ⟨xr,hw''⟩:=hw'
     subst hw''
     have hB2:=hB.trans (xr.h.mono hB.size)
     go_wp2
     exact ⟨.int .i64 3,by simp [results,Tryz.results18,go_sem],ret_i HX.out.symm,hB2⟩
    ·have e1:decide (m1 < 0)=false:=decide_eq_false q1
     by_cases q2:l.n≤m2
     ·have e2:decide (l.n≤m2)=true:=decide_eq_true q2
      have HX:=Lib.hid (HR.out (by rw [hall,e1,e2]; rfl))
      clear q1 q2 hall
      go_upto_region 6 with (fail)
      refine wp_region_ext (by kernel_rfl) (by kernel_rfl) ?_
      repeat (go_big_quiet_step ((first | (go_at_call 65; with_reducible exact HM1.out _) | (go_at_call 66; with_reducible exact HM2.out _))))
      refine wpQuiet_nil ?_
      intro _ hw'
      obtain ⟨xr,hw''⟩:=hw'
      subst hw''
      have hB2:=hB.trans (xr.h.mono hB.size)
      go_wp2
      exact ⟨.int .i64 3,by simp [results,Tryz.results18,go_sem],ret_i HX.out.symm,hB2⟩
     ·have e2:decide (l.n≤m2)=false:=decide_eq_false q2
      have HGG:=Lib.hid (HG.out (by rw [hall,e1,e2]; rfl))
      have HIN:Hid (∀ x∈c,inN l.n x=true):=List.all_eq_true.1 (by rw [hall,e1,e2]; rfl)
      clear q1 q2 hall HR HG
      go_upto_region 6 with (fail)
      refine wp_region_ext (by kernel_rfl) (by kernel_rfl) ?_
      repeat (go_big_quiet_step ((first | (go_at_call 65; with_reducible exact HM1.out _) | (go_at_call 66; with_reducible exact HM2.out _))))
      refine wpQuiet_nil ?_
      intro _ hw'
      obtain ⟨xr,hw''⟩:=hw'
      subst hw''
      replace hB:=hB.trans (xr.h.mono hB.size)
      replace hC:=hC.call xr.h
      replace hX:=hX.call xr.h
      replace hN:=hN.call xr.h
      obtain ⟨w2,hw2⟩:∃ w2:World,w2=xr.w:=⟨_,rfl⟩
      rw [← hw2] at hB hC hX hN ⊢
      clear hw2 xr f0 f1 HM1 HM2 k0 k1 k2 k3 x0
      obtain ⟨k0,k1,k2,k3⟩:=hC.blk.c4
      have hcr:=HCA.out w2 hB
      have hcl:=HL.out
      obtain ⟨k,hkl⟩:∃ k,c.length=k+1:=⟨c.length-1,by omega⟩
      obtain ⟨b,off,x,rfl,hbl,hx,c0⟩:=numx_at hcr (show 0 < c.length by omega)
      obtain ⟨b2,o2,y,hAe, -,hy,c1⟩:=numx_at hcr (show k < c.length by omega)
      obtain ⟨rfl,rfl⟩:b=b2∧off=o2:=by simpa using hAe
      rw [Nat.add_zero] at c0
      have hen:endsC l c=(l.left.contains x&&l.right.contains y):=by
       unfold endsC
       rw [List.headD_eq_head?_getD,List.head?_eq_getElem?,hx,List.getLastD_eq_getLast?,List.getLast?_eq_getElem?,hkl,Nat.add_sub_cancel,hy]
       rfl
      have HB1:Hid (∀ z:Ext w2,Calls Tryz.prog 67 #[.slice aa l.left.length ac,.int .i64 x] z.w fun r w'=>r = .returned (.bool (l.left.contains x))∧∃ u:Ext w2,w'=u.w):=fun z=>by
       have:=contains_int_ok _ l.left x z.w (hC.call z.h).na.as_
       rw [contains_any] at this
       exact ext_call z this
      have HB2:Hid (∀ z:Ext w2,Calls Tryz.prog 67 #[.slice ba l.right.length bc,.int .i64 y] z.w fun r w'=>r = .returned (.bool (l.right.contains y))∧∃ u:Ext w2,w'=u.w):=fun z=>by
       have:=contains_int_ok _ l.right y z.w (hC.call z.h).na.bs
       rw [contains_any] at this
       exact ext_call z this
      have wk:IntKind.i64.wrap ((c.length:Int)-1)=(k:Int):=by rw [IntKind.wrap_i64]; omega
      have wk':wrap64 ((c.length:Int)-1)=(k:Int):=by rw [IntWalk.wrap64_in _ ⟨by omega,by omega⟩]; omega
      have hk0:(0:Int) < (c.length:Int):=by omega
      have hki:(k:Int) < (c.length:Int):=by omega
      have x0:=hX.cell 0
      simp at x0
      have f0:=Ext.of k2
      have f1:=Ext.of k3
      have f2:=Ext.of c0
      have f3:=Ext.of c1
      have f4:=Ext.of x0
      have hge:=HGG.out
      rw [hen] at hge
      have HE:=Lib.hid hge
      clear hen hge HGG hx hy hAe hkl hcr hcl
      generalize l.left.contains x=e3 at *
      generalize l.right.contains y=e4 at *
      cases e3
      ·have HX:Hid (chkC l drop c=14):=by rw [Hid,HE.out]; rfl
       clear HE
       go_upto_region 8 with (fail)
       refine wp_region_ext (by kernel_rfl) (by kernel_rfl) ?_
       repeat (go_big_quiet_step ((go_at_call 67; first | with_reducible exact HB1.out _ | with_reducible exact HB2.out _)))
       refine wpQuiet_nil ?_
       intro _ hw'
       obtain ⟨xr,hw''⟩:=hw'
       subst hw''
       have hB2:=hB.trans (xr.h.mono hB.size)
       go_wp2
       exact ⟨.int .i64 14,by simp [results,Tryz.results18,go_sem],ret_i HX.out.symm,hB2⟩
      ·cases e4
       ·have HX:Hid (chkC l drop c=14):=by rw [Hid,HE.out]; rfl
        clear HE
        go_upto_region 8 with (fail)
        refine wp_region_ext (by kernel_rfl) (by kernel_rfl) ?_
        repeat (go_big_quiet_step ((go_at_call 67; first | with_reducible exact HB1.out _ | with_reducible exact HB2.out _)))
        refine wpQuiet_nil ?_
        intro _ hw'
        obtain ⟨xr,hw''⟩:=hw'
        subst hw''
        have hB2:=hB.trans (xr.h.mono hB.size)
        go_wp2
        exact ⟨.int .i64 14,by simp [results,Tryz.results18,go_sem],ret_i HX.out.symm,hB2⟩
       ·have HGG:Hid (chkC l drop c=if chainB l (natL drop) c=true then 0 else 14):=by rw [Hid,HE.out]; rfl
        clear HE
        go_upto_region 8 with (fail)
        refine wp_region_ext (by kernel_rfl) (by kernel_rfl) ?_
        repeat (go_big_quiet_step ((go_at_call 67; first | with_reducible exact HB1.out _ | with_reducible exact HB2.out _)))
        refine wpQuiet_nil ?_
        intro _ hw'
        obtain ⟨xr,hw''⟩:=hw'
        subst hw''
        replace hB:=hB.trans (xr.h.mono hB.size)
        replace hX:=hX.call xr.h
        replace hN:=hN.call xr.h
        have hWl:=hB.size
        clear hC
        obtain ⟨w3,hw3⟩:∃ w3:World,w3=xr.w:=⟨_,rfl⟩
        rw [← hw3] at hB hX hN hWl ⊢
        clear hw3 xr f0 f1 f2 f3 f4 HB1 HB2 k0 k1 k2 k3 x0 c0 c1 wk wk' hk0 hki
        go_upto_region 11 with (fail)
        have hB9:V.heap.size≤w3.heap.size∧w.heap.size+1 < w3.heap.size∧G < w3.heap.size∧fb < w3.heap.size:=⟨by have:=hN.net.le; have:=hN.lt; omega,hX.lt,hN.lt.1,hN.lt.2⟩
        have hP1:=Blk.new w3 3 #[.int .i64 1]
        have hb1:=(Below.refl w3.heap.size w3).alloc (Nat.le_refl _) (.cells #[.int .i64 1] 3)
        have hI:CcI w (w3.alloc (.cells #[.int .i64 1] 3)) V.heap.size G l ka kc aa ac ba bc da dc drop fb w.heap.size w3.heap.size w3.heap.size (.slice (some ⟨b,off,none⟩) c.length cc) 1 :=
         ⟨hN.call hb1,hB.trans (hb1.mono hB.size),hX.call hb1,hP1,by omega⟩
        have hsz:w3.heap.size < (w3.alloc (.cells #[.int .i64 1] 3)).heap.size:=by simp
        have hC0:Hid (chainB l (natL drop) c=chainB l (natL drop) (c.drop 0)):=rfl
        clear hN hB hX hP1 hb1
        generalize w3.alloc (.cells #[.int .i64 1] 3)=w4 at *
        generalize w3.heap.size=m at *
        generalize V.heap.size=Bn at *
        generalize hs0:w.heap.size=s at *
        refine wp_loop_ghost_k (fun (gk:Nat) (a':Act) (w':World)=>∃ (k g9 T:Nat),gk=c.length-(k+1)∧k+1≤c.length∧T≤w'.heap.size∧m≤T∧Marks m T w' a'.defers∧Hid (chainB l (natL drop) c=chainB l (natL drop) (c.drop k))∧CcI w w' Bn G l ka kc aa ac ba bc da dc drop fb s m g9 (.slice (some ⟨b,off,none⟩) c.length cc) (k+1) ∧
         a'.tmps.size=89∧a'.tmps.getD 5 undef = .pointer (some ⟨s+1,0,none⟩)∧a'.tmps.getD 6 undef = .int .i64 0∧a'.tmps.getD 7 undef = .pointer (some ⟨G,0,none⟩)∧a'.tmps.getD 9 undef = .pointer (some ⟨g9,0,none⟩))
         (c.length-1) ⟨0,m,m,rfl,by have:=HL.out; omega,by omega,Nat.le_refl _,trivial,hC0,hI,rfl,rfl,rfl,rfl,rfl⟩ ?_
        clear hI hC0 hsz hWl
        intro gk a' wq hI J K hJ hK
        obtain ⟨tm,ds⟩:=a'
        obtain ⟨k,g9,T,rfl,hk,hTs,hTl,hM,hq,hI,hz0,hz5,hz6,hz7,hz9⟩:=hI
        obtain ⟨u,rfl⟩:=frame89 hz0 hz5 hz6 hz7 hz9
        clear hz0 hz5 hz6 hz7 hz9
        have HJ:=Lib.hid hJ
        clear hJ
        dsimp only at hM ⊢
        obtain ⟨j,hj⟩:∃ j,j=k+1:=⟨_,rfl⟩
        rw [← hj] at hk hI
        have HJK:=Lib.hid hj
        have i0:=hI.ib.cell 0
        have x0:=hI.cb.cell 0
        simp at i0 x0
        by_cases hlt:j < c.length
        ·have d4:decide (j < c.length)=true:=decide_eq_true hlt
         have d4':decide ((j:Int) < (c.length:Int))=true:=decide_eq_true (by omega)
         have hji:(j:Int) < (c.length:Int):=by omega
         have hbl9:Below s w wq:=hI.bl
         have hcr:=HCA.out wq hbl9
         obtain ⟨b2,o2,x,hAe,hxb,hx,c0⟩:=numx_at hcr (show k < c.length by omega)
         obtain ⟨rfl,rfl⟩:b=b2∧off=o2:=by simpa using hAe
         obtain ⟨b3,o3,y,hAe2,hyb,hy,c1⟩:=numx_at hcr hlt
         have hyk:=hy
         rw [hj] at hyk
         have hst:=chain_step (l:=l) (D:=natL drop) hx hyk
         have hxi:=HIN.out x (List.mem_of_getElem? hx)
         have hyi:=HIN.out y (List.mem_of_getElem? hy)
         obtain ⟨xn,rfl⟩:∃ xn:Nat,x=(xn:Int):=⟨x.toNat,by unfold inN at hxi; simp at hxi; omega⟩
         obtain ⟨yn,rfl⟩:∃ yn:Nat,y=(yn:Int):=⟨y.toNat,by unfold inN at hyi; simp at hyi; omega⟩
         have hla:=linked_any (D:=natL drop) hg hxi hyi
         rw [← hla] at hst
         have HST:=Lib.hid hst
         have HY:=Lib.hid hy
         have wk:IntKind.i64.wrap ((j:Int)-1)=(k:Int):=by rw [IntKind.wrap_i64]; omega
         have wk':wrap64 ((j:Int)-1)=(k:Int):=by rw [IntWalk.wrap64_in _ ⟨by omega,by omega⟩]; omega
         have hki:(k:Int) < (c.length:Int):=by omega
         clear hst hla hxi hyi hy hyk hx hAe hAe2 hj c1 hyb
         go_upto_region 14 with (fail)
         have hL:=Blk.new wq 4 #[.bool false]
         have hb1:=(Below.refl wq.heap.size wq).alloc (Nat.le_refl _) (.cells #[.bool false] 4)
         have hIa:=hI.call hb1
         have hMa:=hM.call hb1
         have hTa:=Nat.le_trans hTs hb1.size
         have hcc:=(hb1.cell (p:=⟨b,off+k,none⟩) hxb).trans c0
         have hgl:=hI.ib.lt
         have hlo:=hI.lo
         clear hI hM hTs i0 x0 c0 hb1 hcr hbl9
         generalize wq.alloc (.cells #[.bool false] 4)=v1 at *
         generalize wq.heap.size=q at *
         have i0:=hIa.ib.cell 0
         have x0:=hIa.cb.cell 0
         simp at i0 x0
         go_wp2_with fail
         refine (ways_ok G xn v1).mono ?_
         rintro e v2 ⟨rfl,hP,hQ,hz2,hb2⟩
         have hI2:=hIa.call hb2
         have hM2:=hMa.call hb2
         have hL2:=hL.call hb2
         have hLl:=hL.lt
         have hgv:=hIa.ib.lt
         clear hIa hMa hL hcc i0 x0
         have hT2:=Nat.le_trans hTa hb2.size
         generalize hv1:v1.heap.size=b1 at *
         have hin:CcIn w Bn G l ka kc aa ac ba bc da dc drop fb s m g9 (.slice (some ⟨b,off,none⟩) c.length cc) j b1 T ds yn q [] v2:=⟨by omega,hM2,hI2,hL2⟩
         have hnm:=hI2.net.net
         clear hM2 hI2 hL2 hb2
         go_wp2
         refine (wpIn_wide (n:=8)).1 ?_
         refine wpIn_range_list (F:=Fence.wide) (n:=8) (a:=?aa) rfl (by omega) (gf:=139) (lb:=#[.pointer (some ⟨b1,0,none⟩),.pointer (some ⟨b1+1,0,none⟩)]) ?hgg trivial (enters_of Tryz.func139 (by kernel_rfl) rfl)
          (ways_seq 4 b1 (b1+1) xn v2 hg hdp hnm hP hQ) ?hKt ?hKb (Below.refl _ _) ?hps (CcIn w Bn G l ka kc aa ac ba bc da dc drop fb s m g9 (.slice (some ⟨b,off,none⟩) c.length cc) j b1 T ds yn q) ?hI hin (WayAx (Act.tmps ?aa) 75 11 (b1+2) xn) WayAx.own ?assign ?body ?done
         case hKt=>exact fun h1 h2=>h1.trans h2
         case hKb=>exact fun W y o o' hl _ _ _ k hk=>World.putObj_heap_other (by omega)
         case hgg=>rfl
         case hps=>exact fun _=>rfl
         case hI =>
          intro pre W W' row hs hg hr
          obtain ⟨h1,h2,h3,h4⟩:=hs
          refine ⟨Nat.le_trans h1 hg.size,h2.grown hg fun ρ e=>?_,h3.grown hg fun ρ e=>?_,h4.grown hg fun e=>?_⟩
          ·have:=(hr ρ e).1; exact .inl (by omega)
          ·have:=(hr ρ e).1; omega
          ·have:=(hr _ e.symm).1; omega
         case assign =>
          intro y pre x post W K hi hpre hsz hK
          have hx:=Blk.new W 131 #[.int .i64 (xn:Int),.int .i64 (x.1:Int),.int .i64 (x.2:Int)]
          have hgA:=World.grownBy_alloc W (.cells #[.int .i64 (xn:Int),.int .i64 (x.1:Int),.int .i64 (x.2:Int)] 131) none
          have hk:=hK ({ tmps:=(_:Array Value),defers:=[] }) (W.alloc (.cells #[.int .i64 (xn:Int),.int .i64 (x.1:Int),.int .i64 (x.2:Int)] 131)) ((KeepsOthers.alloc _ _).from _) (KeepN.of_grown hgA (by omega) fun r e=>by cases e) ⟨Nat.le_trans hi.1 hgA.size,hi.2.1.grown hgA fun r e=>(by cases e),hi.2.2.1.grown hgA fun r e=>(by cases e),hi.2.2.2.grown hgA fun e=>(by cases e)⟩ ⟨W.heap.size,by omega,hx,rfl⟩
          simp [encW]
          gi_wp2
          exact hk
         case body =>
          rintro z pre ⟨v,i⟩ post a' W ⟨hsz,hM,hI,hL⟩ ⟨Bx,hBx,bX,rfl⟩ hpre
          simp only [List.setIfInBounds_toArray,List.set_cons_succ,List.set_cons_zero]
          dsimp only at bX
          have hst:(pre++[(v,i)]).any (fun p=>p.1==yn)=(pre.any (fun p=>p.1==yn)||v==yn):=by rw [List.any_append]; simp
          have HS:=Lib.hid hst
          clear hst
          have l0:=hL.cell 0
          have p1:=bX.cell 1
          have i0:=hI.ib.cell 0
          have x0:=hI.cb.cell 0
          simp at l0 p1 i0 x0
          obtain ⟨b3,o3,y3,hAe2,hyb,hy3,c1⟩:=numx_at (HCA.out W hI.bl) hlt
          obtain ⟨rfl,rfl⟩:b=b3∧off=o3:=by simpa using hAe2
          rw [HY.out] at hy3
          injection hy3 with hy3
          subst hy3
          have f0:=Ext.of l0
          have f1:=Ext.of p1
          have f2:=Ext.of i0
          have f3:=Ext.of x0
          have f4:=Ext.of c1
          clear hAe2 hyb hpre
          cases hpa:pre.any (fun p=>p.1==yn)
          ·rw [hpa] at HS f0 hL l0
           cases hvy:(v==yn)
           ·rw [hvy] at HS
            have ee:((v:Int)==(yn:Int))=false:=by
             rw [beq_eq_false_iff_ne]
             have:v≠yn:=by simpa using hvy
             omega
            clear hpa hvy
            gi_upto_region 16 with fail
            refine wpIn_region_tail (C:=fun w'=>∃ x:Ext W,w'=x.w) 10 (by kernel_rfl) (by kernel_rfl) (by kernel_rfl) ⟨⟨(W).drew,⟨rfl,rfl,rfl,Nat.le_refl _,fun _ _=>rfl⟩⟩,rfl⟩ ?_
            simp only [List.take_succ_cons,List.take_zero,List.drop_succ_cons,List.drop_zero]
            repeat (go_big_quiet_step (fail))
            refine wpQuiet_nil ?_
            intro _ hw'
            obtain ⟨xr,hw''⟩:=hw'
            subst hw''
            intro K' hK'
            have z0:=f0 xr
            have z1:=(xr.h.frozen (p:=⟨q,0,none⟩) hL.lt).trans (hL.frozen 0)
            have hI7:=hI.call xr.h
            have hM7:=hM.call xr.h
            have hg8:xr.w.grownBy (xr.w.setCell ⟨q,0,none⟩ (.bool false)) (some q):=grown_setCell _
            have hL8:=(hL.call xr.h).set_ 0 (.bool false)
            have hI8:=hI7.grown hg8 fun ρ e=>by injection e; omega
            have hM8:=hM7.grown hg8 fun ρ e=>by injection e with e; subst e; exact .inr (.inr ⟨_,_,_,hL.call xr.h⟩)
            have hs8:=Nat.le_trans (Nat.le_trans hsz xr.h.size) hg8.size
            have hxs:=xr.h.size
            have hKF:KeepsFrom (b1+2) W (xr.w.setCell ⟨q,0,none⟩ (.bool false)):=(keepsFrom_cells (grown_call xr.h none) fun r e=>by cases e).trans (keepsFrom_cells hg8 fun r e=>by injection e; exact .inl (by omega))
            have hlo2:=hI.net.lt
            have hKN:KeepN Bn G b1 (b1+1) W (xr.w.setCell ⟨q,0,none⟩ (.bool false)):=(KeepN.of_grown (grown_call xr.h none) (by omega) fun r e=>by cases e).trans (KeepN.of_grown hg8 (by omega) fun r e=>by injection e; omega)
            clear f0 f1 f2 f3 f4 hI hM hL hI7 hM7 l0 p1 i0 x0 c1 bX hg8
            go_wp2
            refine hK' _ _ ?_
            clear hK' K'
            gi_wp2
            exact ⟨by rw [hz2]; exact hKF,hKN,hs8,hM8,hI8,by rw [HS.out]; exact hL8⟩
           ·rw [hvy] at HS
            have ee:((v:Int)==(yn:Int))=true:=by
             rw [beq_iff_eq]
             have:v=yn:=by simpa using hvy
             omega
            clear hpa hvy
            gi_upto_region 16 with fail
            refine wpIn_region_tail (C:=fun w'=>∃ x:Ext W,w'=x.w) 10 (by kernel_rfl) (by kernel_rfl) (by kernel_rfl) ⟨⟨(W).drew,⟨rfl,rfl,rfl,Nat.le_refl _,fun _ _=>rfl⟩⟩,rfl⟩ ?_
            simp only [List.take_succ_cons,List.take_zero,List.drop_succ_cons,List.drop_zero]
            repeat (go_big_quiet_step (fail))
            refine wpQuiet_nil ?_
            intro _ hw'
            obtain ⟨xr,hw''⟩:=hw'
            subst hw''
            intro K' hK'
            have z0:=f0 xr
            have z1:=(xr.h.frozen (p:=⟨q,0,none⟩) hL.lt).trans (hL.frozen 0)
            have hI7:=hI.call xr.h
            have hM7:=hM.call xr.h
            have hg8:xr.w.grownBy (xr.w.setCell ⟨q,0,none⟩ (.bool true)) (some q):=grown_setCell _
            have hL8:=(hL.call xr.h).set_ 0 (.bool true)
            have hI8:=hI7.grown hg8 fun ρ e=>by injection e; omega
            have hM8:=hM7.grown hg8 fun ρ e=>by injection e with e; subst e; exact .inr (.inr ⟨_,_,_,hL.call xr.h⟩)
            have hs8:=Nat.le_trans (Nat.le_trans hsz xr.h.size) hg8.size
            have hxs:=xr.h.size
            have hKF:KeepsFrom (b1+2) W (xr.w.setCell ⟨q,0,none⟩ (.bool true)):=(keepsFrom_cells (grown_call xr.h none) fun r e=>by cases e).trans (keepsFrom_cells hg8 fun r e=>by injection e; exact .inl (by omega))
            have hlo2:=hI.net.lt
            have hKN:KeepN Bn G b1 (b1+1) W (xr.w.setCell ⟨q,0,none⟩ (.bool true)):=(KeepN.of_grown (grown_call xr.h none) (by omega) fun r e=>by cases e).trans (KeepN.of_grown hg8 (by omega) fun r e=>by injection e; omega)
            clear f0 f1 f2 f3 f4 hI hM hL hI7 hM7 l0 p1 i0 x0 c1 bX hg8
            go_wp2
            refine hK' _ _ ?_
            clear hK' K'
            gi_wp2
            exact ⟨by rw [hz2]; exact hKF,hKN,hs8,hM8,hI8,by rw [HS.out]; exact hL8⟩
          ·rw [hpa] at HS f0 hL l0
           clear hpa
           gi_upto_region 16 with fail
           refine wpIn_region_tail (C:=fun w'=>∃ x:Ext W,w'=x.w) 10 (by kernel_rfl) (by kernel_rfl) (by kernel_rfl) ⟨⟨(W).drew,⟨rfl,rfl,rfl,Nat.le_refl _,fun _ _=>rfl⟩⟩,rfl⟩ ?_
           simp only [List.take_succ_cons,List.take_zero,List.drop_succ_cons,List.drop_zero]
           repeat (go_big_quiet_step (fail))
           refine wpQuiet_nil ?_
           intro _ hw'
           obtain ⟨xr,hw''⟩:=hw'
           subst hw''
           intro K' hK'
           have z0:=f0 xr
           have z1:=(xr.h.frozen (p:=⟨q,0,none⟩) hL.lt).trans (hL.frozen 0)
           have hI7:=hI.call xr.h
           have hM7:=hM.call xr.h
           have hg8:xr.w.grownBy (xr.w.setCell ⟨q,0,none⟩ (.bool true)) (some q):=grown_setCell _
           have hL8:=(hL.call xr.h).set_ 0 (.bool true)
           have hI8:=hI7.grown hg8 fun ρ e=>by injection e; omega
           have hM8:=hM7.grown hg8 fun ρ e=>by injection e with e; subst e; exact .inr (.inr ⟨_,_,_,hL.call xr.h⟩)
           have hs8:=Nat.le_trans (Nat.le_trans hsz xr.h.size) hg8.size
           have hxs:=xr.h.size
           have hKF:KeepsFrom (b1+2) W (xr.w.setCell ⟨q,0,none⟩ (.bool true)):=(keepsFrom_cells (grown_call xr.h none) fun r e=>by cases e).trans (keepsFrom_cells hg8 fun r e=>by injection e; exact .inl (by omega))
           have hlo2:=hI.net.lt
           have hKN:KeepN Bn G b1 (b1+1) W (xr.w.setCell ⟨q,0,none⟩ (.bool true)):=(KeepN.of_grown (grown_call xr.h none) (by omega) fun r e=>by cases e).trans (KeepN.of_grown hg8 (by omega) fun r e=>by injection e; omega)
           clear f0 f1 f2 f3 f4 hI hM hL hI7 hM7 l0 p1 i0 x0 c1 bX hg8
           go_wp2
           refine hK' _ _ ?_
           clear hK' K'
           gi_wp2
           exact ⟨by rw [hz2]; exact hKF,hKN,hs8,hM8,hI8,by rw [HS.out]; exact hL8⟩
         case done =>
          rintro D W hD ⟨hsz,hM,hI,hL⟩ hdf
          have hMk:=hM.cons (D:=D) (T':=W.heap.size) (by omega) (by omega) (heap_lt hdf) hdf
          have hDl:=heap_lt hdf
          have l0:=hL.cell 0
          simp at l0
          obtain ⟨lk,hlk⟩:∃ lk,lk=(waysL l.L (natL drop) xn).any fun p=>p.1==yn:=⟨_,rfl⟩
          rw [← hlk] at l0 
          have hst:=HST.out
          rw [← hlk] at hst
          cases lk
          ·have HX:Hid (chkC l drop c=14):=by rw [Hid,HGG.out,hq.out,hst]; rfl
           clear hlk hst hq hM hK
           go_wp2
           refine Marks.leave (B:=m) (T:=W.heap.size) (fun W'=>CcI w W' Bn G l ka kc aa ac ba bc da dc drop fb s m g9 (.slice (some ⟨b,off,none⟩) c.length cc) j) ?_ ?_ _ W hMk hI
           ·rintro W' D hD1 hD2 h1
            refine h1.grown (grownBy_putObj' W' D (.deferred none)) (fun ρ e=>?_)
            injection e with e
            subst e
            refine ⟨hD1,fun e2=>?_⟩
            have h3:=h1.ib
            unfold Blk at h3
            rw [← e2,hD2] at h3
            cases h3
           ·rintro W' h1
            exact ⟨.int .i64 14,by simp [results,Tryz.results18,go_sem],ret_i HX.out.symm,by rw [hs0]; exact h1.bl⟩
          ·have HN:Hid (chainB l (natL drop) c=chainB l (natL drop) (c.drop (k+1))):=by rw [Hid,hq.out,hst]; rfl
           have i0:=hI.ib.cell 0
           simp at i0
           clear hlk hst hq hM
           have hcl:=HL.out
           have wj:IntKind.i64.wrap ((j:Int)+1)=((j+1:Nat):Int):=by rw [IntKind.wrap_i64]; omega
           go_upto_region 12 with (fail)
           have hP9:=Blk.new W 3 #[.int .i64 (j:Int)]
           have hb9:=(Below.refl W.heap.size W).alloc (Nat.le_refl _) (.cells #[.int .i64 (j:Int)] 3)
           have hI9:=hI.call hb9
           have hM9:=hMk.call hb9
           have hlo9:=hI.lo
           have hml:m≤W.heap.size:=by have:=hI.ib.lt; omega
           have hgl9:=hI.ib.lt
           clear hI hMk i0 l0 hL hb9
           generalize W.alloc (.cells #[.int .i64 (j:Int)] 3)=W2 at *
           generalize W.heap.size=g8 at *
           have i0:=hP9.cell 0
           have iz:=hP9.frozen 0
           simp at i0
           have hg8:W2.grownBy (W2.setCell ⟨g8,0,none⟩ (.int .i64 ((j+1:Nat):Int))) (some g8):=grown_setCell _
           have hP8:=hP9.set_ 0 (.int .i64 ((j+1:Nat):Int))
           have hI8:=hI9.grown hg8 fun ρ e=>by injection e; omega
           have hM8:=hM9.grown hg8 fun ρ e=>by injection e with e; subst e; exact .inl (Nat.le_refl _)
           have hs8:=hP9.lt
           have hI7:CcI w (W2.setCell ⟨g8,0,none⟩ (.int .i64 ((j+1:Nat):Int))) Bn G l ka kc aa ac ba bc da dc drop fb s m g8 (.slice (some ⟨b,off,none⟩) c.length cc) (j+1) :=
            ⟨hI8.net,hI8.bl,hI8.cb,hP8,by omega⟩
           clear hP9 hI9 hM9 hg8 hP8 hI8
           go_wp2
           refine ⟨c.length-(k+1+1),?_,HJ.out _ _ _ ⟨k+1,g8,g8,rfl,?_,?_,hml,hM8,HN,?_,rfl,rfl,rfl,rfl,rfl⟩⟩
           ·have:=HJK.out; omega
           ·have:=HJK.out; omega
           ·simp; omega
           ·rw [← HJK.out]; exact hI7
        ·have d4:decide (j < c.length)=false:=decide_eq_false hlt
         have d4':decide ((j:Int) < (c.length:Int))=false:=decide_eq_false (by omega)
         have HX:Hid (chkC l drop c=0):=by rw [Hid,HGG.out,hq.out,chain_last (by omega)]; rfl
         clear hj hlt hq hK
         go_wp2
         show LeavesInM Fence.wide 8 Tryz.prog _ _ _ ds .returning wq
         refine Marks.leave (B:=m) (T:=T) (fun W'=>CcI w W' Bn G l ka kc aa ac ba bc da dc drop fb s m g9 (.slice (some ⟨b,off,none⟩) c.length cc) j) ?_ ?_ ds wq hM hI
         ·rintro W' D hD1 hD2 h1
          refine h1.grown (grownBy_putObj' W' D (.deferred none)) (fun ρ e=>?_)
          injection e with e
          subst e
          refine ⟨hD1,fun e2=>?_⟩
          have h3:=h1.ib
          unfold Blk at h3
          rw [← e2,hD2] at h3
          cases h3
         ·rintro W' h1
          exact ⟨.int .i64 0,by simp [results,Tryz.results18,go_sem],ret_i HX.out.symm,by rw [hs0]; exact h1.bl⟩
end Go.Proofs.YtibmeigdjghkcaaGreat
