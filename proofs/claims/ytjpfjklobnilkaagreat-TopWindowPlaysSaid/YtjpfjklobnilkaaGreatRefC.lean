/- Contracts of the reference: CheckPlan, Saves. -/
import Derived.Test.YtjpfjklobnilkaaGreatRefB
import Derived.Test.YtjpfjklobnilkaaGreatPlayE
namespace Go.Proofs.YtjpfjklobnilkaaGreat
open Go.RowKit Go.Shelf
set_option linter.unusedVariables false
set_option maxRecDepth 100000 in
set_option maxHeartbeats 1600000 in
theorem rcheckPlan_ok (v sv:Value) (c:Cyl) (plan:List Str) (w:World) (hv:CylV w w.heap.size v c) (hs:Arr w w.heap.size 2 sv plan scell) :
  Calls Tryz.prog 11 #[v,sv] w fun r w'=>r = .returned (.int .i64 (checkPlan c plan))∧Below w.heap.size w w':=by
 obtain ⟨sa,sc,rfl,hs'⟩:=id hs
 clear hs'
 obtain ⟨fa,fc,pa,pc,rfl,hf,hp⟩:=hv.open_
 have hC:=CB.new hf hp
 have hB:=(Below.refl w.heap.size w).alloc (Nat.le_refl _) (.cells #[.int .i64 c.turns,.int .i64 c.long,.int .i64 c.plays,.slice fa c.frag.length fc,.slice pa c.pas.length pc] 25)
 go_enter Tryz.func11,Tryz.ntmps11
 go_upto_region 1 with (fail)
 generalize hW:w.alloc (.cells #[.int .i64 c.turns,.int .i64 c.long,.int .i64 c.plays,.slice fa c.frag.length fc,.slice pa c.pas.length pc] 25)=W at *
 clear hW hf hp
 obtain ⟨k0,k1,k2,k3,k4⟩:=hC.c5
 go_wp2_with fail
 refine (rcheckCyl_ok _ c _ hC.cyl).mono ?_
 rintro e w1 ⟨rfl,hb1⟩
 have hB1:=hB.trans (hb1.mono hB.size)
 have hC1:=hC.call hb1
 clear k0 k1 k2 k3 k4
 obtain ⟨k0,k1,k2,k3,k4⟩:=hC1.c5
 by_cases h0:checkCyl c=0
 case neg =>
  have hn1:(checkCyl c==0)=false:=by simpa using h0
  have hn2:(checkCyl c != 0)=true:=by simpa using h0
  have HC:Hid (checkPlan c plan=checkCyl c):=by simp [Hid,checkPlan,h0]
  clear h0
  go_wp2_with fail
  refine (rcheckCyl_ok _ c _ hC1.cyl).mono ?_
  rintro e w2 ⟨rfl,hb2⟩
  go_wp2
  go_ret
  exact ⟨ret_i HC.out.symm,hB1.trans (hb2.mono hB1.size)⟩
 case pos =>
  have H0:=Lib.hid h0
  obtain ⟨a1,a2,a3,a4,a5,a6⟩:=cyl_bounds h0
  rw [h0]
  clear h0
  have hl:=hs.len_.2
  by_cases hm:c.plays < plan.length
  ·have HC:Hid (checkPlan c plan=6):=by simp [Hid,checkPlan,H0.out,hm]
   go_wp2
   go_ret
   exact ⟨ret_i HC.out.symm,hB1⟩
  ·have HC:Hid (checkPlan c plan=planGo c (-1) plan):=by simp [Hid,checkPlan,H0.out,hm]
   go_wp2
   go_loopw [5] (fun i wr=>∃ (k:Nat) (last:Int),k≤plan.length∧i = .int .i64 k∧((k=0∧last = -1)∨(0 < k∧∃ q,plan[k-1]? = some q∧last=q.b))∧planGo c (-1) plan=planGo c last (plan.drop k)∧Below w1.heap.size w1 wr) (fun i _=>plan.length-(intOf i).toNat)
   case atStart=>exact ⟨0, -1,Nat.zero_le _,rfl,.inl ⟨rfl,rfl⟩,rfl,Below.refl _ _⟩
   case round =>
    obtain ⟨k,last,hk,rfl,hlast,hpr,hb⟩:=hrel
    have hBr:=hB1.trans (hb.mono hB1.size)
    have hCr:=hC1.call hb
    clear k0 k1 k2 k3 k4
    obtain ⟨k0,k1,k2,k3,k4⟩:=hCr.c5
    by_cases hlt:k < plan.length
    ·obtain ⟨b,off,s,rfl,hBb,ht,hcc⟩:=hs.at_ hlt
     have c0:=(hBr.cell (p:=⟨b,off+k*2+0,none⟩) hBb).trans (hcc 0 (by omega))
     have c1:=(hBr.cell (p:=⟨b,off+k*2+1,none⟩) hBb).trans (hcc 1 (by omega))
     simp only [Nat.add_zero,scell] at c0 c1
     have hprev:0 < k→wr.cell? ⟨b,off+(k-1)*2+1,none⟩=some (.int .i64 last):=by
      intro h0k
      rcases hlast with ⟨h,_⟩ | ⟨_,q,hq,rfl⟩
      ·omega
      ·obtain ⟨b',off',q',hA',hB',hq',hcc'⟩:=hs.at_ (k:=k-1) (by omega)
       simp only [Option.some.injEq,Addr.mk.injEq,and_true] at hA'
       obtain ⟨rfl,rfl⟩:=hA'
       rw [hq] at hq'
       injection hq' with hq'
       subst hq'
       exact (hBr.cell (p:=⟨b,off+(k-1)*2+1,none⟩) hBb).trans (hcc' 1 (by omega))
     have hl0:k=0→last = -1:=by
      rintro rfl
      rcases hlast with ⟨_,h⟩ | ⟨h,_⟩
      ·exact h
      ·omega
     rw [planGo_drop c last plan k s ht] at hpr
     have HP:=Lib.hid hpr
     have HT:=Lib.hid ht
     have HPR:=Lib.hid hprev
     have HL0:=Lib.hid hl0
     clear hpr ht hcc hlast hprev hl0
     have q1:=hCr.blk.lt
     have q2:b < wr.heap.size:=by have:=hBr.size; omega
     have hBa:=hb.alloc hb.size (.cells #[.int .i64 s.a,.int .i64 s.b] 48)
     have hBwa:=hB1.trans (hBa.mono hB1.size)
     cases hin:(inR 0 (c.turns-1) s.a&&inR 0 (c.turns-1) s.b&&decide (s.a≤s.b))
     ·have HQ:Hid (checkPlan c plan=3):=by rw [Hid,HC.out,HP.out,hin]; rfl
      have HIN:=Lib.hid hin
      clear hin
      go_wp2
      all_goals first
       | (go_ret
          exact ⟨ret_i HQ.out.symm,hBwa⟩)
       | (exfalso; have:=HIN.out; simp [inR] at this; omega)
     have HIN:=Lib.hid hin
     simp only [inR,Bool.and_eq_true,decide_eq_true_eq] at hin
     obtain ⟨⟨⟨n1,n2⟩,n3,n4⟩,n5⟩:=hin
     by_cases hlg:c.long≤s.b-s.a
     ·have HQ:Hid (checkPlan c plan=2):=by rw [Hid,HC.out,HP.out,HIN.out]; simp [hlg]
      go_wp2
      go_ret
      exact ⟨ret_i HQ.out.symm,hBwa⟩
     have hCa:=hCr.alloc (.cells #[.int .i64 s.a,.int .i64 s.b] 48)
     have hxa:=Blk.new wr 48 #[.int .i64 s.a,.int .i64 s.b]
     have hca2:(wr.alloc (.cells #[.int .i64 s.a,.int .i64 s.b] 48)).cell? ⟨b,off+k * 2,none⟩=some (.int .i64 s.a):=by rw [World.cell?_alloc_lt _ _ _ (by simpa using q2)]; exact c0
     have hca3:0 < k→(wr.alloc (.cells #[.int .i64 s.a,.int .i64 s.b] 48)).cell? ⟨b,off+(k-1) * 2+1,none⟩=some (.int .i64 last):=fun h=>by rw [World.cell?_alloc_lt _ _ _ (by simpa using q2)]; exact HPR.out h
     have HCA3:=Lib.hid hca3
     clear hca3
     go_wp2_with fail
     generalize hWa:wr.alloc (.cells #[.int .i64 s.a,.int .i64 s.b] 48)=Wa at *
     clear hWa
     have f0:=Ext.of hCa.c5.1
     have f1:=Ext.of hCa.c5.2.1
     have f2:=Ext.of hCa.c5.2.2.1
     have f3:=Ext.of hCa.c5.2.2.2.1
     have f4:=Ext.of hCa.c5.2.2.2.2
     have s0:=hxa.cell 0
     have s1:=hxa.cell 1
     simp at s0 s1
     have g0:=Ext.of s0
     have g1:=Ext.of s1
     have hworn:∀ x:Ext Wa,Calls Tryz.prog 33 #[.agg #[.int .i64 c.turns,.int .i64 c.long,.int .i64 c.plays,.slice fa c.frag.length fc,.slice pa c.pas.length pc],.int .i64 s.a,.int .i64 s.b] x.w fun e w''=>e = .returned (.bool (worn c s.a s.b))∧∃ y:Ext Wa,w''=y.w :=
      fun x=>ext_call x (worn_ok _ c s.a s.b x.w (hCa.call x.h).cyl)
     have hi1:(k:Int) < (plan.length:Int):=by omega
     clear k0 k1 k2 k3 k4
     cases hwn:worn c s.a s.b
     ·rw [hwn] at hworn
      have HWN:=Lib.hid hwn
      have HW:=Lib.hid hworn
      clear hwn hworn
      by_cases h0k:0 < k
      ·have d1:decide (0 < (k:Int))=true:=by simpa using h0k
       have g3:=Ext.of (HCA3.out h0k)
       have i2:(0:Int)≤(k:Int)-1:=by omega
       have i3:(k:Int)-1 < (plan.length:Int):=by omega
       by_cases hla:s.a≤last
       ·have d2:decide (s.a≤last)=true:=by simpa using hla
        have HQ:Hid (checkPlan c plan=22):=by rw [Hid,HC.out,HP.out,HIN.out,if_neg (by simp),if_neg (by omega),if_pos hla]
        refine wp_region_ext (by kernel_rfl) (by kernel_rfl) ?_
        repeat (go_big_quiet_step ((go_at_call 33; exact HW.out _)))
        refine wpQuiet_nil ?_
        intro _ hw'
        obtain ⟨xr,hw''⟩:=hw'
        subst hw''
        go_wp2
        go_ret
        exact ⟨ret_i HQ.out.symm,hBwa.trans (xr.h.mono hBwa.size)⟩
       ·have d2:decide (s.a≤last)=false:=by simpa using hla
        have HQ:Hid (checkPlan c plan=planGo c s.b (plan.drop (k+1))):=by rw [Hid,HC.out,HP.out,HIN.out,if_neg (by simp),if_neg (by omega),if_neg hla,HWN.out]; rfl
        refine wp_region_ext (by kernel_rfl) (by kernel_rfl) ?_
        repeat (go_big_quiet_step ((go_at_call 33; exact HW.out _)))
        refine wpQuiet_nil ?_
        intro _ hw'
        obtain ⟨xr,hw''⟩:=hw'
        subst hw''
        go_wp2
        go_roundw
        case rel=>exact ⟨k+1,s.b,by omega,by go_num,.inr ⟨by omega,s,HT.out,rfl⟩,HC.out.symm.trans HQ.out,hBa.trans (xr.h.mono hBa.size)⟩
        case measure=>simp [intOf]; omega
      ·have d1:decide (0 < (k:Int))=false:=by simp; omega
       have hl0:=HL0.out (by omega)
       have HQ:Hid (checkPlan c plan=planGo c s.b (plan.drop (k+1))):=by rw [Hid,HC.out,HP.out,HIN.out,if_neg (by simp),if_neg (by omega),if_neg (by omega),HWN.out]; rfl
       have HL:=Lib.hid hl0
       clear hl0
       refine wp_region_ext (by kernel_rfl) (by kernel_rfl) ?_
       repeat (go_big_quiet_step ((go_at_call 33; exact HW.out _)))
       refine wpQuiet_nil ?_
       intro _ hw'
       obtain ⟨xr,hw''⟩:=hw'
       subst hw''
       go_wp2
       go_roundw
       case rel=>exact ⟨k+1,s.b,by omega,by go_num,.inr ⟨by omega,s,HT.out,rfl⟩,HC.out.symm.trans HQ.out,hBa.trans (xr.h.mono hBa.size)⟩
       case measure=>simp [intOf]; omega
     ·rw [hwn] at hworn
      have HWN:=Lib.hid hwn
      have HW:=Lib.hid hworn
      clear hwn hworn
      have HQ:Hid (checkPlan c plan=22):=by
       rw [Hid,HC.out,HP.out,HIN.out,if_neg (by simp),if_neg (by omega)]
       split
       ·rfl
       ·rw [HWN.out]; rfl
      refine wp_region_ext (by kernel_rfl) (by kernel_rfl) ?_
      repeat (go_big_quiet_step ((go_at_call 33; exact HW.out _)))
      refine wpQuiet_nil ?_
      intro _ hw'
      obtain ⟨xr,hw''⟩:=hw'
      subst hw''
      go_wp2
      go_ret
      exact ⟨ret_i HQ.out.symm,hBwa.trans (xr.h.mono hBwa.size)⟩
    ·obtain rfl:k=plan.length:=by omega
     have HQ:Hid (checkPlan c plan=0):=by rw [Hid,HC.out,hpr]; simp [planGo]
     clear hpr
     go_wp2
     go_ret
     exact ⟨ret_i HQ.out.symm,hBr⟩
end Go.Proofs.YtjpfjklobnilkaaGreat
