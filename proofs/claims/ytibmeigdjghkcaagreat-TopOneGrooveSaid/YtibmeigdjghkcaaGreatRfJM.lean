/- Contracts of the reference: Joined, ChainError. Contract of the reference: CheckChain. -/
import Derived.Test.YtibmeigdjghkcaaGreatRfHM
import Derived.Test.YtibmeigdjghkcaaGreatPe1
namespace Go.Proofs.YtibmeigdjghkcaaGreat
open Go.RowKit Go.Shelf
set_option linter.unusedVariables false
end Go.Proofs.YtibmeigdjghkcaaGreat
namespace Go.Proofs.YtibmeigdjghkcaaGreat
open Go.RowKit Go.Shelf
set_option linter.unusedVariables false
theorem linked_eq {l:NL} {drop:List Int} (hd:∀ x∈drop,0≤x) (x y:Int):(List.range l.links.length).any (linkR l drop x y)=linkedB l (natL drop) x y:=by
 unfold linkedB
 congr 1
 funext i
 exact linkR_eq hd x y i
theorem all_drop {α:Type} (p:α→Bool) {l:List α} {k:Nat} {x:α} (h:l[k]? = some x):(l.drop k).all p=(p x&&(l.drop (k+1)).all p):=by
 rw [drop_cons h,List.all_cons]
theorem chkC_bad {l:NL} {drop c:List Int} (h:openE l drop≠0):chkC l drop c=openE l drop:=by unfold chkC; rw [if_pos h]
theorem chkC_many {l:NL} {drop c:List Int} (h:openE l drop=0) (h2:c.length < 2∨40 < c.length):chkC l drop c=6:=by unfold chkC; rw [if_neg (by simpa using h),if_pos h2]
theorem chkC_range {l:NL} {drop c:List Int} (h:openE l drop=0) (h2:¬ (c.length < 2∨40 < c.length)) (h3:c.all (inN l.n)=false):chkC l drop c=3:=by unfold chkC; rw [if_neg (by simpa using h),if_neg h2,if_pos h3]
theorem chkC_go {l:NL} {drop c:List Int} (h:openE l drop=0) (h2:¬ (c.length < 2∨40 < c.length)) (h3:c.all (inN l.n)=true):chkC l drop c=if (endsC l c&&chainB l (natL drop) c)=true then 0 else 14:=by unfold chkC; rw [if_neg (by simpa using h),if_neg h2,if_neg (by rw [h3]; simp)]
theorem chain_step {l:NL} {D:List Nat} {c:List Int} {k:Nat} {x y:Int} (h:c[k]? = some x) (h2:c[k+1]? = some y):chainB l D (c.drop k)=(linkedB l D x y&&chainB l D (c.drop (k+1))):=by
 rw [drop_cons h,drop_cons h2]
 rfl
theorem chain_last {l:NL} {D:List Nat} {c:List Int} {k:Nat} (h:c.length=k+1):chainB l D (c.drop k)=true:=by
 have h1:(c.drop k).length=1:=by rw [List.length_drop]; omega
 obtain ⟨z,hz⟩:=List.length_eq_one_iff.1 h1
 rw [hz]
 rfl
set_option maxRecDepth 100000 in
set_option maxHeartbeats 3200000 in
theorem rcheckChain_ok (v dv cv:Value) (l:NL) (drop c:List Int) (w:World) (hv:NLV w w.heap.size v l) (hd:Arr w w.heap.size 1 dv drop icell) (hc:Arr w w.heap.size 1 cv c icell) :
  Calls Tryz.prog 15 #[v,dv,cv] w fun r w'=>r = .returned (.int .i64 (chkC l drop c))∧Below w.heap.size w w':=by
 obtain ⟨ka,kc,aa,ac,ba,bc,rfl,hna⟩:=hv
 obtain ⟨ca,cc,rfl,hc1,hc2, -⟩:=id hc
 have hC:=NB.new hna
 have hB:=(Below.refl w.heap.size w).alloc (Nat.le_refl _) (.cells #[.int .i64 l.n,.slice ka l.links.length kc,.slice aa l.left.length ac,.slice ba l.right.length bc] 33)
 go_enter Tryz.func15,Tryz.ntmps15
 go_upto_region 1 with (fail)
 generalize hW:w.alloc (.cells #[.int .i64 l.n,.slice ka l.links.length kc,.slice aa l.left.length ac,.slice ba l.right.length bc] 33)=W at *
 clear hW
 replace hd:=(hd.below hB).more hB.size
 replace hc:=(hc.below hB).more hB.size
 obtain ⟨k0,k1,k2,k3⟩:=hC.blk.c4
 have ho:=risDrop_ok _ dv l drop W hC.v hd
 go_wp2_with fail
 refine ho.mono ?_
 rintro e w1 ⟨rfl,hb⟩
 replace hB:=hB.trans (hb.mono hB.size)
 replace hC:=hC.call hb
 replace hd:=hd.call hb
 replace hc:=hc.call hb
 clear ho k0 k1 k2 k3 hb
 obtain ⟨k0,k1,k2,k3⟩:=hC.blk.c4
 by_cases h0:openE l drop=0
 ·have d0:(openE l drop != 0)=false:=by simpa using h0
  obtain ⟨hc0,hrd⟩:=openE_inv h0
  have hg:=check_good.1 hc0
  have hdp:∀ x∈drop,0≤x:=fun x hx=>by have:=(rises_lo hrd x hx).1; omega
  have H0:=Lib.hid h0
  have hgn:=hg.two
  clear h0 hc0 hrd
  by_cases h1:c.length < 2
  ·have d1:decide (c.length < 2)=true:=decide_eq_true h1
   have d1':decide ((c.length:Int) < 2)=true:=decide_eq_true (by omega)
   have HX:=Lib.hid (chkC_many H0.out (.inl h1))
   clear h1
   go_wp2
   go_ret
   exact ⟨ret_i HX.out.symm,hB⟩
  ·have d1:decide (c.length < 2)=false:=decide_eq_false h1
   have d1':decide ((c.length:Int) < 2)=false:=decide_eq_false (by omega)
   by_cases h2:40 < c.length
   ·have d2:decide (40 < c.length)=true:=decide_eq_true h2
    have d2':decide ((40:Int) < (c.length:Int))=true:=decide_eq_true (by omega)
    have HX:=Lib.hid (chkC_many H0.out (.inr h2))
    clear h1 h2
    go_wp2
    go_ret
    exact ⟨ret_i HX.out.symm,hB⟩
   ·have d2:decide (40 < c.length)=false:=decide_eq_false h2
    have d2':decide ((40:Int) < (c.length:Int))=false:=decide_eq_false (by omega)
    have HR:=Lib.hid (fun h3=>chkC_range H0.out (show ¬ (c.length < 2∨40 < c.length) by omega) h3)
    have HG:=Lib.hid (fun h3=>chkC_go H0.out (show ¬ (c.length < 2∨40 < c.length) by omega) h3)
    have HL:=Lib.hid (show 2≤c.length∧c.length≤40 by omega)
    clear h1 h2
    go_wp2
    go_loopw [7] (fun i wr=>∃ k:Nat,k≤c.length∧i = .int .i64 k∧Hid (c.all (inN l.n)=(c.drop k).all (inN l.n))∧Below w1.heap.size w1 wr) (fun i _=>c.length-(intOf i).toNat)
    case atStart=>exact ⟨0,Nat.zero_le _,rfl,rfl,Below.refl _ _⟩
    case round =>
     obtain ⟨k,hk,rfl,hq,hr⟩:=hrel
     obtain ⟨q0,q1,q2,q3⟩:=(hC.call hr).blk.c4
     clear k0 k1 k2 k3
     by_cases hlt:k < c.length
     ·have d3:decide (k < c.length)=true:=decide_eq_true hlt
      have d3':decide ((k:Int) < (c.length:Int))=true:=decide_eq_true (by omega)
      have hki:(k:Int) < (c.length:Int):=by omega
      obtain ⟨b,off,x,rfl,hbl,hx,c0⟩:=numx_at (hc.call hr) hlt
      have hst:=all_drop (inN l.n) hx
      have f0:=Ext.of q0
      have f1:=Ext.of c0
      have hxx:inN l.n x=(decide (0≤x)&&decide (x < l.n)):=rfl
      clear hx
      by_cases z1:x < 0
      ·have e1:decide (x < 0)=true:=decide_eq_true z1
       have HX:Hid (chkC l drop c=3):=HR.out (by rw [hq.out,hst,hxx,decide_eq_false (show ¬ 0≤x by omega)]; rfl)
       clear z1 hst hxx hq
       go_upto_region 8 with (fail)
       clear c0 q0 q1 q2 q3
       refine wp_region_ext (by kernel_rfl) (by kernel_rfl) ?_
       repeat (go_big_quiet_step (fail))
       refine wpQuiet_nil ?_
       intro _ hw'
       obtain ⟨xr,hw''⟩:=hw'
       subst hw''
       have hr2:=hr.trans (xr.h.mono hr.size)
       go_wp2
       go_ret
       exact ⟨ret_i HX.out.symm,hB.trans (hr2.mono hB.size)⟩
      ·have e1:decide (x < 0)=false:=decide_eq_false z1
       by_cases z2:l.n≤x
       ·have e2:decide (l.n≤x)=true:=decide_eq_true z2
        have HX:Hid (chkC l drop c=3):=HR.out (by rw [hq.out,hst,hxx,decide_eq_false (show ¬ x < l.n by omega)]; simp)
        clear z1 z2 hst hxx hq
        go_upto_region 8 with (fail)
        clear c0 q0 q1 q2 q3
        refine wp_region_ext (by kernel_rfl) (by kernel_rfl) ?_
        repeat (go_big_quiet_step (fail))
        refine wpQuiet_nil ?_
        intro _ hw'
        obtain ⟨xr,hw''⟩:=hw'
        subst hw''
        have hr2:=hr.trans (xr.h.mono hr.size)
        go_wp2
        go_ret
        exact ⟨ret_i HX.out.symm,hB.trans (hr2.mono hB.size)⟩
       ·have e2:decide (l.n≤x)=false:=decide_eq_false z2
        have HN:Hid (c.all (inN l.n)=(c.drop (k+1)).all (inN l.n)):=by rw [Hid,hq.out,hst,hxx,decide_eq_true (show 0≤x by omega),decide_eq_true (show x < l.n by omega)]; rfl
        clear z1 z2 hst hxx hq
        go_upto_region 8 with (fail)
        clear c0 q0 q1 q2 q3
        refine wp_region_ext (by kernel_rfl) (by kernel_rfl) ?_
        repeat (go_big_quiet_step (fail))
        refine wpQuiet_nil ?_
        intro _ hw'
        obtain ⟨xr,hw''⟩:=hw'
        subst hw''
        have hr2:=hr.trans (xr.h.mono hr.size)
        go_wp2
        go_roundw
        case rel=>exact ⟨k+1,by omega,by go_num,HN,hr2⟩
        case measure=>(simp [intOf]; try omega)
     ·obtain rfl:k=c.length:=by omega
      have d3:decide (c.length < c.length)=false:=by simp
      have HGG:=Lib.hid (HG.out (by rw [hq.out,List.drop_length]; rfl))
      replace hB:=hB.trans (hr.mono hB.size)
      replace hC:=hC.call hr
      replace hd:=hd.call hr
      replace hc:=hc.call hr
      obtain ⟨w2,hw2⟩:∃ w2:World,w2=wr:=⟨_,rfl⟩
      rw [← hw2] at hB hC hd hc q0 q1 q2 q3 ⊢
      clear hw2 hr hq HR HG hlt hk
      have hC2:Hid (chainB l (natL drop) c=chainB l (natL drop) (c.drop 0)):=rfl
      go_wp2
      go_loopw [8] (fun i wr=>∃ k:Nat,k+1≤c.length∧i = .int .i64 ((k+1:Nat):Int)∧Hid (chainB l (natL drop) c=chainB l (natL drop) (c.drop k))∧Below w2.heap.size w2 wr) (fun i _=>c.length-(intOf i).toNat)
      case atStart=>exact ⟨0,by have:=HL.out; omega,rfl,hC2.out,Below.refl _ _⟩
      case round =>
       clear hC2 q0 q1 q2 q3
       obtain ⟨k,hk,rfl,hq,hr⟩:=hrel
       have hCr:=hC.call hr
       obtain ⟨q0,q1,q2,q3⟩:=hCr.blk.c4
       have hdr:=hd.call hr
       have hcr:=hc.call hr
       obtain ⟨j,hj⟩:∃ j,j=k+1:=⟨_,rfl⟩
       rw [← hj] at hk ⊢
       have HJ:=Lib.hid hj
       by_cases hlt:j < c.length
       ·have d4:decide (j < c.length)=true:=decide_eq_true hlt
        have d4':decide ((j:Int) < (c.length:Int))=true:=decide_eq_true (by omega)
        have hji:(j:Int) < (c.length:Int):=by omega
        obtain ⟨b,off,x,rfl,hbl,hx,c0⟩:=numx_at hcr (show k < c.length by omega)
        obtain ⟨b2,o2,y,hAe, -,hy,c1⟩:=numx_at hcr hlt
        obtain ⟨rfl,rfl⟩:b=b2∧off=o2:=by simpa using hAe
        rw [hj] at hy
        have hst:=chain_step (l:=l) (D:=natL drop) hx hy
        have wk:IntKind.i64.wrap ((j:Int)-1)=(k:Int):=by rw [IntKind.wrap_i64]; omega
        have wk':wrap64 ((j:Int)-1)=(k:Int):=by rw [IntWalk.wrap64_in _ ⟨by omega,by omega⟩]; omega
        have hki2:(k:Int) < (c.length:Int):=by omega
        have f0:=Ext.of q0
        have f1:=Ext.of q1
        have f2:=Ext.of q2
        have f3:=Ext.of q3
        have f4:=Ext.of c0
        have f5:=Ext.of c1
        have HA:Hid (∀ z:Ext wr,Calls Tryz.prog 61 #[nlV l ka kc aa ac ba bc,dv,.int .i64 x,.int .i64 y] z.w fun r w'=>r = .returned (.bool (linkedB l (natL drop) x y))∧∃ u:Ext wr,w'=u.w):=fun z=>by
         have:=rlinked_ok _ dv l drop x y z.w (hCr.call z.h).v (hdr.call z.h)
         rw [linked_eq hdp] at this
         exact ext_call z this
        generalize linkedB l (natL drop) x y=lk at *
        clear hx hy hAe hj
        cases lk
        ·have HX:Hid (chkC l drop c=14):=by rw [Hid,HGG.out,hq.out,hst]; simp
         clear hst hq
         go_upto_region 13 with (fail)
         clear q0 q1 q2 q3 c0 c1
         refine wp_region_ext (by kernel_rfl) (by kernel_rfl) ?_
         repeat (go_big_quiet_step ((go_at_call 61; with_reducible exact HA.out _)))
         refine wpQuiet_nil ?_
         intro _ hw'
         obtain ⟨xr,hw''⟩:=hw'
         subst hw''
         have hr2:=hr.trans (xr.h.mono hr.size)
         go_wp2
         go_ret
         exact ⟨ret_i HX.out.symm,hB.trans (hr2.mono hB.size)⟩
        ·have HN:Hid (chainB l (natL drop) c=chainB l (natL drop) (c.drop (k+1))):=by rw [Hid,hq.out,hst]; rfl
         clear hst hq
         go_upto_region 13 with (fail)
         clear q0 q1 q2 q3 c0 c1
         refine wp_region_ext (by kernel_rfl) (by kernel_rfl) ?_
         repeat (go_big_quiet_step ((go_at_call 61; with_reducible exact HA.out _)))
         refine wpQuiet_nil ?_
         intro _ hw'
         obtain ⟨xr,hw''⟩:=hw'
         subst hw''
         have hr2:=hr.trans (xr.h.mono hr.size)
         go_wp2
         go_roundw
         case rel=>exact ⟨k+1,by have:=HJ.out; omega,by rw [← HJ.out]; go_num,HN,hr2⟩
         case measure=>(simp [intOf]; try omega)
       ·have hkl:c.length=k+1:=by omega
        have d4:decide (j < c.length)=false:=decide_eq_false hlt
        have d4':decide ((j:Int) < (c.length:Int))=false:=decide_eq_false (by omega)
        have hE:chainB l (natL drop) c=true:=by rw [hq.out]; exact chain_last hkl
        have HE:Hid (chkC l drop c=if endsC l c=true then 0 else 14):=by rw [Hid,HGG.out,hE,Bool.and_true]
        obtain ⟨b,off,x,rfl,hbl,hx,c0⟩:=numx_at hcr (show 0 < c.length by omega)
        obtain ⟨b2,o2,y,hAe, -,hy,c1⟩:=numx_at hcr (show k < c.length by omega)
        obtain ⟨rfl,rfl⟩:b=b2∧off=o2:=by simpa using hAe
        rw [Nat.add_zero] at c0
        have hen:endsC l c=(l.left.contains x&&l.right.contains y):=by
         unfold endsC
         rw [List.headD_eq_head?_getD,List.head?_eq_getElem?,hx,List.getLastD_eq_getLast?,List.getLast?_eq_getElem?,hkl,Nat.add_sub_cancel,hy]
         rfl
        have HB1:Hid (∀ z:Ext wr,Calls Tryz.prog 29 #[.slice aa l.left.length ac,.int .i64 x] z.w fun r w'=>r = .returned (.bool (l.left.contains x))∧∃ u:Ext wr,w'=u.w):=fun z=>ext_call z ((rin_ok _ l.left x z.w (hCr.call z.h).na.as_).mono fun e w' h=>⟨h.1,by rw [h.2]; exact Below.refl _ _⟩)
        have HB2:Hid (∀ z:Ext wr,Calls Tryz.prog 29 #[.slice ba l.right.length bc,.int .i64 y] z.w fun r w'=>r = .returned (.bool (l.right.contains y))∧∃ u:Ext wr,w'=u.w):=fun z=>ext_call z ((rin_ok _ l.right y z.w (hCr.call z.h).na.bs).mono fun e w' h=>⟨h.1,by rw [h.2]; exact Below.refl _ _⟩)
        have wk:IntKind.i64.wrap ((c.length:Int)-1)=(k:Int):=by rw [IntKind.wrap_i64]; omega
        have wk':wrap64 ((c.length:Int)-1)=(k:Int):=by rw [IntWalk.wrap64_in _ ⟨by omega,by omega⟩]; omega
        have hk0:(0:Int) < (c.length:Int):=by omega
        have hki:(k:Int) < (c.length:Int):=by omega
        have f0:=Ext.of q2
        have f1:=Ext.of q3
        have f2:=Ext.of c0
        have f3:=Ext.of c1
        rw [hen] at HE
        clear hen hE hq hx hy hAe hkl hlt hj hk
        generalize c.length=n at *
        generalize l.left.contains x=e1 at *
        generalize l.right.contains y=e2 at *
        cases e1
        ·have HX:Hid (chkC l drop c=14):=by rw [Hid,HE.out]; rfl
         clear HE
         go_upto_region 15 with (fail)
         clear q0 q1 q2 q3 c0 c1
         refine wp_region_ext (by kernel_rfl) (by kernel_rfl) ?_
         repeat (go_big_quiet_step ((go_at_call 29; first | with_reducible exact HB1.out _ | with_reducible exact HB2.out _)))
         refine wpQuiet_nil ?_
         intro _ hw'
         obtain ⟨xr,hw''⟩:=hw'
         subst hw''
         have hr2:=hr.trans (xr.h.mono hr.size)
         go_wp2
         go_ret
         exact ⟨ret_i HX.out.symm,hB.trans (hr2.mono hB.size)⟩
        ·cases e2
         ·have HX:Hid (chkC l drop c=14):=by rw [Hid,HE.out]; rfl
          clear HE
          go_upto_region 15 with (fail)
          clear q0 q1 q2 q3 c0 c1
          refine wp_region_ext (by kernel_rfl) (by kernel_rfl) ?_
          repeat (go_big_quiet_step ((go_at_call 29; first | with_reducible exact HB1.out _ | with_reducible exact HB2.out _)))
          refine wpQuiet_nil ?_
          intro _ hw'
          obtain ⟨xr,hw''⟩:=hw'
          subst hw''
          have hr2:=hr.trans (xr.h.mono hr.size)
          go_wp2
          go_ret
          exact ⟨ret_i HX.out.symm,hB.trans (hr2.mono hB.size)⟩
         ·have HX:Hid (chkC l drop c=0):=by rw [Hid,HE.out]; rfl
          clear HE
          go_upto_region 15 with (fail)
          clear q0 q1 q2 q3 c0 c1
          refine wp_region_ext (by kernel_rfl) (by kernel_rfl) ?_
          repeat (go_big_quiet_step ((go_at_call 29; first | with_reducible exact HB1.out _ | with_reducible exact HB2.out _)))
          refine wpQuiet_nil ?_
          intro _ hw'
          obtain ⟨xr,hw''⟩:=hw'
          subst hw''
          have hr2:=hr.trans (xr.h.mono hr.size)
          go_wp2
          go_ret
          exact ⟨ret_i HX.out.symm,hB.trans (hr2.mono hB.size)⟩
 ·have d0:(openE l drop != 0)=true:=by simpa using h0
  have HX:=Lib.hid (chkC_bad (c:=c) h0)
  have ho2:=risDrop_ok _ dv l drop w1 hC.v hd
  clear h0
  go_wp2_with fail
  refine ho2.mono ?_
  rintro e w2 ⟨rfl,hb⟩
  replace hB:=hB.trans (hb.mono hB.size)
  clear ho2
  go_wp2
  go_ret
  exact ⟨ret_i HX.out.symm,hB⟩
end Go.Proofs.YtibmeigdjghkcaaGreat
