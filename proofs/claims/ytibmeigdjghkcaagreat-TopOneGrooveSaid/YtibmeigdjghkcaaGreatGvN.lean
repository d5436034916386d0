/- Contracts: whether a cylinder is valid, whether some step of a piece fits behind some step of another one. -/
import Derived.Test.YtibmeigdjghkcaaGreatGvQ2
import Derived.Test.YtibmeigdjghkcaaGreatRf2
namespace Go.Proofs.YtibmeigdjghkcaaGreat.J
open Go.RowKit Go.Shelf
set_option linter.unusedVariables false
theorem any_not {α:Type} {p:α→Bool} {l:List α} (h:∀ (i:Nat) (x:α),l[i]? = some x→p x=false):l.any p=false:=by
 rw [List.any_eq_false]
 intro x hx
 obtain ⟨k,hk,rfl⟩:=List.getElem_of_mem hx
 rw [h k _ (List.getElem?_eq_getElem hk)]
 simp
theorem any_yes {α:Type} {p:α→Bool} {l:List α} {i:Nat} {x:α} (h:l[i]? = some x) (hp:p x=true):l.any p=true:=List.any_eq_true.2 ⟨x,List.mem_of_getElem? h,hp⟩
set_option maxRecDepth 100000 in
set_option maxHeartbeats 1600000 in
theorem cyl03_ok (v:Value) (c:Cyl) (w:World) (hv:CylV w w.heap.size v c) :
  Calls Tryz.prog 8 #[v] w fun r w'=>r = .returned (.bool (decide (checkCyl c=0)))∧Below w.heap.size w w':=by
 obtain ⟨pa,pc,rfl,hp⟩:=hv.open_
 have hC:=CB.new hp
 have hB:=(Below.refl w.heap.size w).alloc (Nat.le_refl _) (.cells #[.slice pa c.pcs.length pc,.int .i64 c.off,.int .i64 c.slo,.int .i64 c.shi] 26)
 go_enter Tryz.func8,Tryz.ntmps8
 go_upto_region 1 with (fail)
 have HWS:Hid ((w.alloc (.cells #[.slice pa c.pcs.length pc,.int .i64 c.off,.int .i64 c.slo,.int .i64 c.shi] 26)).heap.size=w.heap.size+1):=by simp [Hid]
 generalize hW:w.alloc (.cells #[.slice pa c.pcs.length pc,.int .i64 c.off,.int .i64 c.slo,.int .i64 c.shi] 26)=W at *
 clear hW hp
 obtain ⟨k0,k1,k2,k3⟩:=hC.c4
 by_cases h20:c.pcs.length≤20
 ·have d1:decide (c.pcs.length≤20)=true:=decide_eq_true h20
  have d1':decide ((c.pcs.length:Int)≤20)=true:=decide_eq_true (by omega)
  go_wp2_with fail
  refine (rcheckCyl_ok _ c W hC.cyl).mono ?_
  rintro e w1 ⟨rfl,hb1⟩
  replace hB:=hB.trans (hb1.mono hB.size)
  by_cases h0:checkCyl c=0
  ·have d0:(checkCyl c==0)=true:=by simp [h0]
   have HE:Hid (decide (checkCyl c=0)=true):=decide_eq_true h0
   clear h0
   go_wp2
   go_ret
   exact ⟨by rw [HE.out]; rfl,hB⟩
  ·have d0:(checkCyl c==0)=false:=by simp [h0]
   have HE:Hid (decide (checkCyl c=0)=false):=decide_eq_false h0
   clear h0
   go_wp2
   go_ret
   exact ⟨by rw [HE.out]; rfl,hB⟩
 ·have d1:decide (c.pcs.length≤20)=false:=decide_eq_false h20
  have d1':decide ((c.pcs.length:Int)≤20)=false:=decide_eq_false (by omega)
  have HE:Hid (decide (checkCyl c=0)=false):=decide_eq_false fun h=>by have:=(cyl_bounds h).1.2; omega
  clear h20
  go_wp2
  go_ret
  exact ⟨by rw [HE.out]; rfl,hB⟩
set_option maxRecDepth 100000 in
set_option maxHeartbeats 3200000 in
theorem near06_ok (v:Value) (c:Cyl) (i k:Nat) (w:World) (hv:CylV w w.heap.size v c) (h0:checkCyl c=0) :
  Calls Tryz.prog 10 #[v,.int .i64 (i:Int),.int .i64 (k:Int)] w fun r w'=>r = .returned (.bool (nearB c i k))∧Below w.heap.size w w':=by
 obtain ⟨pa,pc,rfl,hp⟩:=hv.open_
 have hC:=CB.new hp
 have hB:=(Below.refl w.heap.size w).alloc (Nat.le_refl _) (.cells #[.slice pa c.pcs.length pc,.int .i64 c.off,.int .i64 c.slo,.int .i64 c.shi] 26)
 go_enter Tryz.func10,Tryz.ntmps10
 go_upto_region 1 with (fail)
 have HWS:Hid ((w.alloc (.cells #[.slice pa c.pcs.length pc,.int .i64 c.off,.int .i64 c.slo,.int .i64 c.shi] 26)).heap.size=w.heap.size+1):=by simp [Hid]
 generalize hW:w.alloc (.cells #[.slice pa c.pcs.length pc,.int .i64 c.off,.int .i64 c.slo,.int .i64 c.shi] 26)=W at *
 clear hW hp
 obtain ⟨k0,k1,k2,k3⟩:=hC.c4
 go_wp2_with fail
 refine (rsteps_ok _ c W hC.cyl (cyl_bounds h0).1.2).mono ?_
 rintro e w1 ⟨A,cap,rfl,hl,hb1⟩
 replace hC:=hC.call hb1
 replace hB:=hB.trans (hb1.mono hB.size)
 have hlen:=(stepsGo_len c.pcs 0).2
 have hl8:=(cyl_bounds h0).1.2
 replace hlen:(stepsOf c).length≤16:=by unfold stepsOf; omega
 have HE:Hid (nearB c i k=(stepsOf c).any fun x=>(stepsOf c).any fun y=>fitPc c i k x y):=rfl
 have HF:Hid (∀ x y,x∈stepsOf c→y∈stepsOf c→fitsOf c x y=(fitsS c x y,0)):=fun x y hx hy=>by
  unfold fitsOf
  rw [if_neg (by simp [h0]),if_neg (by rw [(isStep_iff c x).2 hx,(isStep_iff c y).2 hy]; simp)]
 clear k0 k1 k2 k3 hl8
 generalize stepsOf c=l at *
 obtain ⟨xa,xc,hsl,hn',hc', -⟩:=id hl
 injection hsl with e1 e2 e3
 subst e1 e3
 clear e2
 go_wp2
 go_loopw [8] (fun j wr=>∃ n:Nat,n≤l.length∧j = .int .i64 n∧Below w1.heap.size w1 wr∧Hid (∀ q x,q < n→l[q]? = some x→(l.any fun y=>fitPc c i k x y)=false)) (fun j _=>l.length-(intOf j).toNat)
 case atStart=>exact ⟨0,Nat.zero_le _,rfl,Below.refl _ _,fun q x hq=>absurd hq (Nat.not_lt_zero _)⟩
 case round =>
  obtain ⟨n,hn,rfl,hb,HALL⟩:=hrel
  have hCr:=hC.call hb
  have hBr:=hB.trans (hb.mono hB.size)
  by_cases hn1:n < l.length
  ·have d3:decide (n < l.length)=true:=by simpa using hn1
   have d3':decide ((n:Int) < (l.length:Int))=true:=by simp; omega
   have hln:=hl.below hb
   obtain ⟨xb,xo,x,hxa,hxb,hx1,hx2⟩:=hln.at_ hn1
   subst hxa
   obtain ⟨xp,xt⟩:=x
   have c0:=hx2 0 (by omega)
   have c1:=hx2 1 (by omega)
   simp only [Nat.add_zero,stcell] at c0 c1
   have HX:=Lib.hid hx1
   clear hx2 hx1
   go_wp2
   go_loopw [9] (fun j wy=>∃ m:Nat,m≤l.length∧j = .int .i64 m∧Below wr.heap.size wr wy∧Hid (∀ q y,q < m→l[q]? = some y→fitPc c i k ⟨xp,xt⟩ y=false)) (fun j _=>l.length-(intOf j).toNat)
   case atStart=>exact ⟨0,Nat.zero_le _,rfl,Below.refl _ _,fun q y hq=>absurd hq (Nat.not_lt_zero _)⟩
   case round =>
    obtain ⟨m,hm,rfl,hbj,HIN⟩:=hrel
    have hCy:=hCr.call hbj
    have hBy:=hBr.trans (hbj.mono hBr.size)
    have hby:=hb.trans (hbj.mono hb.size)
    by_cases hm1:m < l.length
    ·have d4:decide (m < l.length)=true:=by simpa using hm1
     have d4':decide ((m:Int) < (l.length:Int))=true:=by simp; omega
     obtain ⟨yb,yo,y,hya,hyb,hy1,hy2⟩:=hln.at_ hm1
     simp only [Option.some.injEq,Addr.mk.injEq,and_true] at hya
     obtain ⟨rfl,rfl⟩:=hya
     obtain ⟨yp,yt⟩:=y
     have e0:=(hbj.cell (p:=⟨xb,xo+m * 2,none⟩) (cell_lt (hy2 0 (by omega)))).trans (hy2 0 (by omega))
     have e1:=(hbj.cell (p:=⟨xb,xo+m * 2+1,none⟩) (cell_lt (hy2 1 (by omega)))).trans (hy2 1 (by omega))
     have c0':=(hbj.cell (p:=⟨xb,xo+n * 2,none⟩) (cell_lt c0)).trans c0
     have c1':=(hbj.cell (p:=⟨xb,xo+n * 2+1,none⟩) (cell_lt c1)).trans c1
     simp only [stcell] at e0 e1
     have HY:=Lib.hid hy1
     clear hy2 hy1
     have hml:(m:Int) < (l.length:Int):=by omega
     have hnl:(n:Int) < (l.length:Int):=by omega
     have HN0:Hid (fitPc c i k ⟨xp,xt⟩ ⟨yp,yt⟩=false→∀ q y,q < m+1→l[q]? = some y→fitPc c i k ⟨xp,xt⟩ y=false):=fun hf q z hq hz=>by
      by_cases hqm:q=m
      ·subst hqm
       rw [HY.out] at hz
       cases hz
       exact hf
      ·exact HIN.out q z (by omega) hz
     by_cases hxi:xp=(i:Int)
     rotate_left
     ·have d5:(xp==(i:Int))=false:=by simpa using hxi
      have HN:=Lib.hid (HN0.out (by unfold fitPc; simp [hxi]))
      clear hxi
      go_wp2
      go_roundw
      case rel=>exact ⟨m+1,by omega,by go_num,hbj,HN.out⟩
      case measure=>(simp [intOf]; try omega)
     have d5:(xp==(i:Int))=true:=by simpa using hxi
     by_cases hyk:yp=(k:Int)
     rotate_left
     ·have d6:(yp==(k:Int))=false:=by simpa using hyk
      have HN:=Lib.hid (HN0.out (by unfold fitPc; simp [hyk]))
      clear hxi hyk
      go_wp2
      go_roundw
      case rel=>exact ⟨m+1,by omega,by go_num,hbj,HN.out⟩
      case measure=>(simp [intOf]; try omega)
     have d6:(yp==(k:Int))=true:=by simpa using hyk
     subst hxi hyk
     obtain ⟨k0,k1,k2,k3⟩:=hCy.c4
     have HA:Hid (∀ y:Ext wr,Calls Tryz.prog 48 #[_,.agg #[.int .i64 (i:Int),.bool xt],.agg #[.int .i64 (k:Int),.bool yt]] y.w fun r w'=>r = .returned (.tuple #[.bool (fitsOf c ⟨(i:Int),xt⟩ ⟨(k:Int),yt⟩).1,.int .i64 (fitsOf c ⟨(i:Int),xt⟩ ⟨(k:Int),yt⟩).2])∧∃ z:Ext wr,w'=z.w):=fun y=>ext_call y (rfits_ok _ c ⟨(i:Int),xt⟩ ⟨(k:Int),yt⟩ y.w (hCy.call y.h).cyl)
     rw [HF.out _ _ (List.mem_of_getElem? HX.out) (List.mem_of_getElem? HY.out)] at HA
     go_upto_region 9 with (fail)
     have f0:=Ext.of c0'
     have f1:=Ext.of c1'
     have f2:=Ext.of k0
     have f3:=Ext.of k1
     have f4:=Ext.of k2
     have f5:=Ext.of k3
     have f6:=Ext.of e0
     have f7:=Ext.of e1
     clear c0' c1' e0 e1 k0 k1 k2 k3 d5 d6
     cases hs:fitsS c ⟨(i:Int),xt⟩ ⟨(k:Int),yt⟩
     ·rw [hs] at HA
      have HN:=Lib.hid (HN0.out (by unfold fitPc; simp [hs]))
      refine wp_region_ext (by kernel_rfl) (by kernel_rfl) ?_
      repeat (go_big_quiet_step ((go_at_call 48; with_reducible exact HA.out _)))
      refine wpQuiet_nil ?_
      intro _ hw'
      obtain ⟨xr,hw''⟩:=hw'
      subst hw''
      have hbz:=hbj.trans (xr.h.mono hbj.size)
      clear f0 f1 f2 f3 f4 f5 f6 f7 HA
      go_wp2
      go_roundw
      case rel=>exact ⟨m+1,by omega,by go_num,hbz,HN.out⟩
      case measure=>(simp [intOf]; try omega)
     ·rw [hs] at HA
      have HZ:Hid (nearB c i k=true):=by
       rw [Hid,HE.out]
       exact any_yes HX.out (any_yes HY.out (by unfold fitPc; rw [hs]; simp))
      refine wp_region_ext (by kernel_rfl) (by kernel_rfl) ?_
      repeat (go_big_quiet_step ((go_at_call 48; with_reducible exact HA.out _)))
      refine wpQuiet_nil ?_
      intro _ hw'
      obtain ⟨xr,hw''⟩:=hw'
      subst hw''
      have hbz:=hBy.trans (xr.h.mono hBy.size)
      clear f0 f1 f2 f3 f4 f5 f6 f7 HA
      go_wp2
      go_ret
      exact ⟨by rw [HZ.out]; rfl,hbz⟩
    ·obtain rfl:m=l.length:=by omega
     have d4:decide (l.length < l.length)=false:=by simp
     have HN:Hid (∀ q x,q < n+1→l[q]? = some x→(l.any fun y=>fitPc c i k x y)=false):=fun q z hq hz=>by
      by_cases hqn:q=n
      ·subst hqn
       rw [HX.out] at hz
       cases hz
       exact any_not fun q y hy=>HIN.out q y (by obtain ⟨h, -⟩:=List.getElem?_eq_some_iff.1 hy; exact h) hy
      ·exact HALL.out q z (by omega) hz
     go_wp2
     go_roundw
     case rel=>exact ⟨n+1,by omega,by go_num,hby,HN.out⟩
     case measure=>(simp [intOf]; try omega)
  ·obtain rfl:n=l.length:=by omega
   have d3:decide (l.length < l.length)=false:=by simp
   have HZ:Hid (nearB c i k=false):=by
    rw [Hid,HE.out]
    exact any_not fun q y hy=>HALL.out q y (by obtain ⟨h, -⟩:=List.getElem?_eq_some_iff.1 hy; exact h) hy
   go_wp2
   go_ret
   exact ⟨by rw [HZ.out]; rfl,hBr⟩
end Go.Proofs.YtibmeigdjghkcaaGreat.J
