/- Contracts of the reference: IsStep, Before. Contract of the reference: Steps. Contract of the reference: Same. Contract of the reference: CheckCylinder. Contract of the reference: ends. Contract of the reference: fits. Contracts of the reference: Fits, CheckJoin. Contract of the reference: CheckJoin. -/
import Derived.Test.YtibmeigdjghkcaaGreatSl2
import Derived.Laws.StructEq
namespace Go.Proofs.YtibmeigdjghkcaaGreat.J
open Go.RowKit Go.Shelf
set_option linter.unusedVariables false
theorem ret_b {a a':Bool} (h1:a=a'):Ending.returned (.bool a)=Ending.returned (.bool a'):=by rw [h1]
set_option maxRecDepth 100000 in
set_option maxHeartbeats 1600000 in
theorem isStep_ok (v:Value) (c:Cyl) (sp:Int) (st:Bool) (w:World) (hv:CylV w w.heap.size v c) :
  Calls Tryz.prog 63 #[v,.agg #[.int .i64 sp,.bool st]] w fun r w'=>r = .returned (.bool (isStep c ⟨sp,st⟩))∧Below w.heap.size w w':=by
 obtain ⟨pa,pc,rfl,hp⟩:=hv.open_
 have hC:=CB.new hp
 have hB:=(Below.refl w.heap.size w).alloc (Nat.le_refl _) (.cells #[.slice pa c.pcs.length pc,.int .i64 c.off,.int .i64 c.slo,.int .i64 c.shi] 26)
 go_enter Tryz.func63,Tryz.ntmps63
 go_upto_region 1 with (fail)
 have HWS:Hid ((w.alloc (.cells #[.slice pa c.pcs.length pc,.int .i64 c.off,.int .i64 c.slo,.int .i64 c.shi] 26)).heap.size=w.heap.size+1):=by simp [Hid]
 generalize hW:w.alloc (.cells #[.slice pa c.pcs.length pc,.int .i64 c.off,.int .i64 c.slo,.int .i64 c.shi] 26)=W at *
 clear hW hp
 have hbA:=(Below.refl W.heap.size W).alloc (Nat.le_refl _) (.cells #[.int .i64 sp,.bool st] 53)
 have hS:=Blk.new W 53 #[.int .i64 sp,.bool st]
 rw [HWS.out] at hS
 replace hC:=hC.call hbA
 replace hB:=hB.trans (hbA.mono hB.size)
 clear hbA
 generalize W.alloc (.cells #[.int .i64 sp,.bool st] 53)=V at *
 obtain ⟨k0,k1,k2,k3⟩:=hC.c4
 have s0:=hS.cell 0
 have s1:=hS.cell 1
 simp at s0 s1
 by_cases h1:0≤sp
 ·have d1:decide (0≤sp)=true:=by simpa using h1
  by_cases h2:sp < (c.pcs.length:Int)
  ·have d2:decide (sp < (c.pcs.length:Int))=true:=by simpa using h2
   obtain ⟨k,rfl⟩:∃ k:Nat,sp=(k:Int):=⟨sp.toNat,by omega⟩
   have hk:k < c.pcs.length:=by omega
   have ek:IntKind.i64.wrap (k:Int)=k∨True := .inr trivial
   obtain ⟨b,off,p,hpa,hpb,hp1,c0,c1,c2,c3,c4,c5,c6⟩:=piece_at hC.ps hk
   subst hpa
   cases st
   ·have HE:Hid (isStep c ⟨k,false⟩=true):=by simp [Hid,isStep]; omega
    go_wp2
    go_ret
    exact ⟨by rw [HE.out]; rfl,hB⟩
   ·have HE:Hid (isStep c ⟨k,true⟩=p.loose):=by
     unfold isStep pcAt
     rw [Hid,Int.toNat_natCast,hp1]
     simp
     omega
    clear hp1
    go_wp2
    go_ret
    exact ⟨by rw [HE.out]; rfl,hB⟩
  ·have d2:decide (sp < (c.pcs.length:Int))=false:=by simpa using h2
   have HE:Hid (isStep c ⟨sp,st⟩=false):=by simp [Hid,isStep]; omega
   go_wp2
   go_ret
   exact ⟨by rw [HE.out]; rfl,hB⟩
 ·have d1:decide (0≤sp)=false:=by simpa using h1
  have HE:Hid (isStep c ⟨sp,st⟩=false):=by simp [Hid,isStep]; omega
  go_wp2
  go_ret
  exact ⟨by rw [HE.out]; rfl,hB⟩
end Go.Proofs.YtibmeigdjghkcaaGreat.J
namespace Go.Proofs.YtibmeigdjghkcaaGreat.J
open Go.RowKit Go.Shelf
set_option linter.unusedVariables false
theorem slT_st:SlT 48 53 2 16 (.agg #[.int .i64 0,.bool false]):=⟨Tryz.underlying48,by kernel_rfl,rfl,by omega⟩
theorem one_st {k:IntKind} {n:Int} {b:Bool}:∀ u∈(#[Value.int k n,Value.bool b]:Array Value).toList,u.oneCell'=true:=by simp [Value.oneCell']
theorem stepsGo_drop {c:Cyl} {n:Nat} {p:Pc} (h:c.pcs[n]? = some p):stepsGo n (c.pcs.drop n)=if p.loose=true then ⟨(n:Int),false⟩::⟨(n:Int),true⟩::stepsGo (n+1) (c.pcs.drop (n+1)) else ⟨(n:Int),false⟩::stepsGo (n+1) (c.pcs.drop (n+1)):=by
 obtain ⟨hk,hx⟩:=List.getElem?_eq_some_iff.1 h
 rw [List.drop_eq_getElem_cons hk,hx,stepsGo]
set_option maxRecDepth 100000 in
set_option maxHeartbeats 1600000 in
theorem rsteps_ok (v:Value) (c:Cyl) (w:World) (hv:CylV w w.heap.size v c) (hlen:c.pcs.length≤8) :
  Calls Tryz.prog 47 #[v] w fun r w'=>∃ A cap,r = .returned (.slice A (stepsOf c).length cap)∧Arr w' w'.heap.size 2 (.slice A (stepsOf c).length cap) (stepsOf c) stcell∧Below w.heap.size w w':=by
 obtain ⟨pa,pc,rfl,hp⟩:=hv.open_
 have hC:=CB.new hp
 have hB:=(Below.refl w.heap.size w).alloc (Nat.le_refl _) (.cells #[.slice pa c.pcs.length pc,.int .i64 c.off,.int .i64 c.slo,.int .i64 c.shi] 26)
 go_enter Tryz.func47,Tryz.ntmps47
 go_upto_region 1 with (fail)
 have HWS:Hid ((w.alloc (.cells #[.slice pa c.pcs.length pc,.int .i64 c.off,.int .i64 c.slo,.int .i64 c.shi] 26)).heap.size=w.heap.size+1):=by simp [Hid]
 generalize hW:w.alloc (.cells #[.slice pa c.pcs.length pc,.int .i64 c.off,.int .i64 c.slo,.int .i64 c.shi] 26)=W at *
 clear hW hp
 obtain ⟨k0,k1,k2,k3⟩:=hC.c4
 go_wp2
 go_loopw [3,4] (fun o i wr=>∃ (n:Nat) (L:List St) (A:Option Addr) (cap:Nat),n≤c.pcs.length∧i = .int .i64 n∧o = .slice A L.length cap∧wr.ownsRow W.heap.size 53 2 (.slice A L.length cap) L.length (L.flatMap (cellsOf 2 stcell)) ∧
  L.length≤2 * n∧stepsOf c=L++stepsGo n (c.pcs.drop n)∧Below W.heap.size W wr) (fun _ i _=>c.pcs.length-(intOf i).toNat)
 case atStart=>exact ⟨0,[],none,0,Nat.zero_le _,rfl,rfl,by simpa using World.ownsRow_nil _ _ _ _,by simp,rfl,Below.refl _ _⟩
 case round =>
  obtain ⟨n,L,A,cap,hn,rfl,rfl,hown,hL,hst,hb⟩:=hrel
  have hCr:=hC.call hb
  have hBr:=hB.trans (hb.mono hB.size)
  clear k0 k1 k2 k3
  obtain ⟨k0,k1,k2,k3⟩:=hCr.c4
  have hcap:=own_cap hown
  by_cases hn1:n < c.pcs.length
  ·have d3:decide (n < c.pcs.length)=true:=by simpa using hn1
   have d3':decide ((n:Int) < (c.pcs.length:Int))=true:=by simp; omega
   obtain ⟨b,off,p,hpa,hpb,hp1,c0,c1,c2,c3,c4,c5,c6⟩:=piece_at hCr.ps hn1
   subst hpa
   rw [stepsGo_drop hp1] at hst
   have HST:=Lib.hid hst
   have hL2:(L++[(⟨(n:Int),false⟩:St)]).length=L.length+1:=by simp
   clear hp1 hst c0 c1 c2 c3 c4 c5
   go_wp2_with (at_builtin; refine wpList_app1 slT_st rfl (.tmp 12) (.tmp 15) rfl (A:=A) (cc:=cap) rfl ⟨cap,hown,.inl rfl⟩ rfl rfl one_st hb.size ?_ ?_ ?_)
   any_goals omega
   intro v' w4 hown4 hb4 hkeep
   have hown5:=own_snoc (cell:=stcell) (x:=⟨(n:Int),false⟩) (vals:=#[.int .i64 (n:Int),.bool false]) rfl (by simp [cellsOf,List.range_succ,stcell]) hown4
   rw [hL2] at hown5
   obtain ⟨A',cap',rfl⟩:=own_form hown5
   have hb5:=hb.trans hb4
   have hC4:=hC.call hb5
   have c6':=(hb4.cell (p:=⟨b,off+n * 7+6,none⟩) (by have:=hC.blk.lt; have:=hC.le; show b < _; omega)).trans c6
   clear hkeep hown4 hown k0 k1 k2 k3 hcap c6
   obtain ⟨k0,k1,k2,k3⟩:=hC4.c4
   have hcap5:=own_cap hown5
   obtain ⟨L1,hL1⟩:∃ L1,L1=L++[(⟨(n:Int),false⟩:St)]:=⟨_,rfl⟩
   have HL1:=Lib.hid hL1
   rw [← hL1] at hown5 hL2
   clear hL1
   cases hlo:p.loose
   ·rw [hlo] at c6'
    have HQ:Hid (stepsOf c=L1++stepsGo (n+1) (c.pcs.drop (n+1))):=by rw [Hid,HST.out,hlo,HL1.out]; simp
    clear hlo
    go_wp2
    go_roundw
    case rel=>exact ⟨n+1,L1,A',cap',by omega,by go_num,by rw [hL2],by rw [hL2]; exact hown5,by omega,HQ.out,hb5⟩
    case measure=>(simp [intOf]; try omega)
   ·rw [hlo] at c6'
    have HQ:Hid (stepsOf c=(L1++[⟨(n:Int),true⟩])++stepsGo (n+1) (c.pcs.drop (n+1))):=by rw [Hid,HST.out,hlo,HL1.out]; simp
    have hL3:(L1++[(⟨(n:Int),true⟩:St)]).length=L1.length+1:=by simp
    rw [← hL2] at hown5
    rw [← hL2]
    have hL4:L1.length≤2 * n+1:=by omega
    have HL2:=Lib.hid hL2
    clear hlo hL2
    go_wp2_with (at_builtin; refine wpList_app1 slT_st rfl (.tmp 23) (.tmp 26) rfl (A:=A') (cc:=cap') rfl ⟨cap',hown5,.inl rfl⟩ rfl rfl one_st hb5.size ?_ ?_ ?_)
    any_goals omega
    intro v' w6 hown6 hb6 hkeep
    have hown7:=own_snoc (cell:=stcell) (x:=⟨(n:Int),true⟩) (vals:=#[.int .i64 (n:Int),.bool true]) rfl (by simp [cellsOf,List.range_succ,stcell]) hown6
    rw [hL3] at hown7
    obtain ⟨A2,cap2,rfl⟩:=own_form hown7
    have hb7:=hb5.trans hb6
    clear hkeep hown6 hown5
    go_wp2
    go_roundw
    case rel=>exact ⟨n+1,L1++[⟨(n:Int),true⟩],A2,cap2,by omega,by go_num,by rw [hL3],by rw [hL3]; exact hown7,by omega,HQ.out,hb7⟩
    case measure=>(simp [intOf]; try omega)
  ·obtain rfl:n=c.pcs.length:=by omega
   have d3:decide (c.pcs.length < c.pcs.length)=false:=by simp
   have HQ:Hid (stepsOf c=L):=by rw [Hid,hst]; simp [stepsGo]
   clear hst
   go_wp2
   go_ret
   exact ⟨A,cap,by rw [HQ.out]; rfl,by rw [HQ.out]; exact Arr.of_own hown,hBr⟩
end Go.Proofs.YtibmeigdjghkcaaGreat.J
namespace Go.Proofs.YtibmeigdjghkcaaGreat.J
open Go.RowKit Go.Shelf
set_option linter.unusedVariables false
theorem eq_st (a c:Int) (b d:Bool) (w:World):(Op.equalIn 10000 53 (.agg #[.int .i64 a,.bool b]) (.agg #[.int .i64 c,.bool d])).run Tryz.prog w = .ok (a==c&&b==d) w:=by
 show (Op.equalIn (9999+1) 53 _ _).run _ _=_
 rw [run_equalIn_struct w 9999 53 _ _ (by kernel_rfl) (by kernel_rfl)]
 cases h:(a==c)
 ·simp [Op.eqFields,go_sem,h]
 ·cases h2:(b==d) <;> simp [Op.eqFields,go_sem,h,h2]
end Go.Proofs.YtibmeigdjghkcaaGreat.J
namespace Go.Proofs.YtibmeigdjghkcaaGreat.J
open Go.RowKit Go.Shelf
set_option linter.unusedVariables false
set_option maxRecDepth 100000 in
set_option maxHeartbeats 1600000 in
theorem rcheckCyl_ok (v:Value) (c:Cyl) (w:World) (hv:CylV w w.heap.size v c) :
  Calls Tryz.prog 43 #[v] w fun r w'=>r = .returned (.int .i64 (checkCyl c))∧Below w.heap.size w w':=by
 obtain ⟨pa,pc,rfl,hp⟩:=hv.open_
 have hC:=CB.new hp
 have hB:=(Below.refl w.heap.size w).alloc (Nat.le_refl _) (.cells #[.slice pa c.pcs.length pc,.int .i64 c.off,.int .i64 c.slo,.int .i64 c.shi] 26)
 go_enter Tryz.func43,Tryz.ntmps43
 go_upto_region 1 with (fail)
 have HWS:Hid ((w.alloc (.cells #[.slice pa c.pcs.length pc,.int .i64 c.off,.int .i64 c.slo,.int .i64 c.shi] 26)).heap.size=w.heap.size+1):=by simp [Hid]
 generalize hW:w.alloc (.cells #[.slice pa c.pcs.length pc,.int .i64 c.off,.int .i64 c.slo,.int .i64 c.shi] 26)=W at *
 clear hW hp
 obtain ⟨k0,k1,k2,k3⟩:=hC.c4
 by_cases h1:c.pcs.length < 1
 ·have d1:decide (c.pcs.length < 1)=true:=by simpa using h1
  have d1':decide ((c.pcs.length:Int) < 1)=true:=by simp; omega
  have HE:Hid (checkCyl c=6):=by unfold checkCyl; rw [if_pos (by omega)]; exact rfl
  go_wp2
  go_ret
  exact ⟨by rw [HE.out]; rfl,hB⟩
 ·have d1':decide ((c.pcs.length:Int) < 1)=false:=by simp; omega
  by_cases h2:8 < c.pcs.length
  ·have d2':decide ((8:Int) < (c.pcs.length:Int))=true:=by simp; omega
   have HE:Hid (checkCyl c=6):=by unfold checkCyl; rw [if_neg (by omega),if_pos h2]; exact rfl
   go_wp2
   go_ret
   exact ⟨by rw [HE.out]; rfl,hB⟩
  ·have d2':decide ((8:Int) < (c.pcs.length:Int))=false:=by simp; omega
   have HE:Hid (checkCyl c=if ((okR 0 1000 c.off c.off&&okR (-100000) 100000 c.slo c.shi)&&c.pcs.all okP)=false then 2 else 0):=by unfold checkCyl; rw [if_neg (by omega),if_neg h2]; exact rfl
   have hn8:c.pcs.length≤8:=by omega
   go_wp2
   go_loopw [3] (fun i wr=>∃ n:Nat,n≤c.pcs.length∧i = .int .i64 n∧Below W.heap.size W wr∧c.pcs.all okP=(c.pcs.drop n).all okP) (fun i _=>c.pcs.length-(intOf i).toNat)
   case atStart=>exact ⟨0,Nat.zero_le _,rfl,Below.refl _ _,rfl⟩
   case round =>
    obtain ⟨n,hn,rfl,hb,hall⟩:=hrel
    have hCr:=hC.call hb
    clear k0 k1 k2 k3
    obtain ⟨k0,k1,k2,k3⟩:=hCr.c4
    by_cases hn1:n < c.pcs.length
    ·have d3:decide (n < c.pcs.length)=true:=by simpa using hn1
     have d3':decide ((n:Int) < (c.pcs.length:Int))=true:=by simp; omega
     have hp0:c.pcs[n]? = some c.pcs[n]:=List.getElem?_eq_getElem hn1
     obtain ⟨p,hpe⟩:∃ p,p=c.pcs[n]:=⟨_,rfl⟩
     rw [← hpe] at hp0
     have hdr:c.pcs.drop n=p::c.pcs.drop (n+1):=by rw [List.drop_eq_getElem_cons hn1,hpe]
     have HBAD:Hid (∀ {e:En},okE e=false→(e=p.a∨e=p.b)→checkCyl c=2):=fun {e} h1 h2=>by
      rw [HE.out,hall,hdr,List.all_cons,okP_eq]
      have:(okE p.a&&okE p.b)=false:=by
       rcases h2 with rfl | rfl
       ·rw [h1]; rfl
       ·rw [h1]; simp
      rw [this]
      simp
     have HNEXT:Hid (okE p.a=true→okE p.b=true→c.pcs.all okP=(c.pcs.drop (n+1)).all okP):=fun h1 h2=>by
      rw [hall,hdr,List.all_cons,okP_eq,h1,h2]; rfl
     have HP0:=Lib.hid hp0
     clear hall hdr hpe hp0
     obtain ⟨wo,hwo⟩:∃ wo:World,wo=wr:=⟨_,rfl⟩
     rw [← hwo] at hb hCr
     go_wp2
     rw [← hwo]
     clear hwo
     go_loopw [4] (fun i wr=>∃ k:Nat,k≤2∧i = .int .i64 k∧Below wo.heap.size wo wr∧(1≤k→okE p.a=true)∧(2≤k→okE p.b=true)) (fun i _=>2-(intOf i).toNat)
     case atStart=>exact ⟨0,by omega,rfl,Below.refl _ _,fun h=>by omega,fun h=>by omega⟩
     case round =>
      obtain ⟨k,hk,rfl,hbj,ha1,ha2⟩:=hrel
      have hCj:=hCr.call hbj
      clear k0 k1 k2 k3
      obtain ⟨k0,k1,k2,k3⟩:=hCj.c4
      obtain ⟨b,off,p',hpa,hpb,hp1,c0,c1,c2,c3,c4,c5,c6⟩:=piece_at hCj.ps hn1
      rw [HP0.out] at hp1
      injection hp1 with hp1
      subst hpa
      subst hp1
      have hk3:k=0∨k=1∨k=2:=by omega
      rcases hk3 with rfl | rfl | rfl
      ·have HBAD:=Lib.hid (fun h=>HBAD.out (e:=p.a) h (.inl rfl))
       go_upto_region 10 with (fail)
       have hbA:=(Below.refl wr.heap.size wr).alloc (Nat.le_refl _) (.cells #[.int .i64 p.a.lo,.int .i64 p.a.hi,.int .i64 p.a.pl] 193)
       have hxs:=Blk.new wr 193 #[.int .i64 p.a.lo,.int .i64 p.a.hi,.int .i64 p.a.pl]
       have hbjA:=hbj.trans (hbA.mono hbj.size)
       clear c0 c1 c2 c3 c4 c5 c6
       generalize wr.alloc (.cells #[.int .i64 p.a.lo,.int .i64 p.a.hi,.int .i64 p.a.pl] 193)=wv at *
       generalize wr.heap.size=eb at *
       have s0:=hxs.cell 0
       have s1:=hxs.cell 1
       simp at s0 s1
       go_wp2_with fail
       refine (valid_ok p.a.lo p.a.hi 0 1000 _).mono ?_
       rintro e wq ⟨rfl,hbq⟩
       have s2:=(hxs.call hbq).cell 2
       simp at s2
       have hbj2:=hbjA.trans (hbq.mono hbjA.size)
       have hbz:=hb.trans (hbj2.mono hb.size)
       clear s0 s1
       cases hv1:okR 0 1000 p.a.lo p.a.hi
       ·have HZ:Hid (checkCyl c=2):=HBAD.out (by unfold okE; rw [hv1]; simp)
        go_wp2
        go_ret
        exact ⟨by rw [HZ.out]; rfl,hB.trans (hbz.mono hB.size)⟩
       ·by_cases g1:p.a.pl < 0
        ·have d5:decide (p.a.pl < 0)=true:=by simpa using g1
         have HZ:Hid (checkCyl c=2):=HBAD.out (by unfold okE; simp; omega)
         go_wp2
         go_ret
         exact ⟨by rw [HZ.out]; rfl,hB.trans (hbz.mono hB.size)⟩
        ·have d5:decide (p.a.pl < 0)=false:=by simpa using g1
         by_cases g2:100000 < p.a.pl
         ·have d6:decide (100000 < p.a.pl)=true:=by simpa using g2
          have HZ:Hid (checkCyl c=2):=HBAD.out (by unfold okE; simp; omega)
          go_wp2
          go_ret
          exact ⟨by rw [HZ.out]; rfl,hB.trans (hbz.mono hB.size)⟩
         ·have d6:decide (100000 < p.a.pl)=false:=by simpa using g2
          have hok:okE p.a=true:=by unfold okE; rw [hv1]; simp; omega
          have HOK:=Lib.hid hok
          clear hok hv1
          go_wp2
          go_roundw
          case rel=>exact ⟨1,by omega,by go_num,hbj2,fun _=>HOK.out,fun h=>by omega⟩
          case measure=>(simp [intOf]; try omega)
      ·have HBAD:=Lib.hid (fun h=>HBAD.out (e:=p.b) h (.inr rfl))
       have HA1:=Lib.hid (ha1 (by omega))
       clear ha1 ha2
       go_upto_region 10 with (fail)
       have hbA:=(Below.refl wr.heap.size wr).alloc (Nat.le_refl _) (.cells #[.int .i64 p.b.lo,.int .i64 p.b.hi,.int .i64 p.b.pl] 193)
       have hxs:=Blk.new wr 193 #[.int .i64 p.b.lo,.int .i64 p.b.hi,.int .i64 p.b.pl]
       have hbjA:=hbj.trans (hbA.mono hbj.size)
       clear c0 c1 c2 c3 c4 c5 c6
       generalize wr.alloc (.cells #[.int .i64 p.b.lo,.int .i64 p.b.hi,.int .i64 p.b.pl] 193)=wv at *
       generalize wr.heap.size=eb at *
       have s0:=hxs.cell 0
       have s1:=hxs.cell 1
       simp at s0 s1
       go_wp2_with fail
       refine (valid_ok p.b.lo p.b.hi 0 1000 _).mono ?_
       rintro e wq ⟨rfl,hbq⟩
       have s2:=(hxs.call hbq).cell 2
       simp at s2
       have hbj2:=hbjA.trans (hbq.mono hbjA.size)
       have hbz:=hb.trans (hbj2.mono hb.size)
       clear s0 s1
       cases hv1:okR 0 1000 p.b.lo p.b.hi
       ·have HZ:Hid (checkCyl c=2):=HBAD.out (by unfold okE; rw [hv1]; simp)
        go_wp2
        go_ret
        exact ⟨by rw [HZ.out]; rfl,hB.trans (hbz.mono hB.size)⟩
       ·by_cases g1:p.b.pl < 0
        ·have d5:decide (p.b.pl < 0)=true:=by simpa using g1
         have HZ:Hid (checkCyl c=2):=HBAD.out (by unfold okE; simp; omega)
         go_wp2
         go_ret
         exact ⟨by rw [HZ.out]; rfl,hB.trans (hbz.mono hB.size)⟩
        ·have d5:decide (p.b.pl < 0)=false:=by simpa using g1
         by_cases g2:100000 < p.b.pl
         ·have d6:decide (100000 < p.b.pl)=true:=by simpa using g2
          have HZ:Hid (checkCyl c=2):=HBAD.out (by unfold okE; simp; omega)
          go_wp2
          go_ret
          exact ⟨by rw [HZ.out]; rfl,hB.trans (hbz.mono hB.size)⟩
         ·have d6:decide (100000 < p.b.pl)=false:=by simpa using g2
          have hok:okE p.b=true:=by unfold okE; rw [hv1]; simp; omega
          have HOK:=Lib.hid hok
          clear hok hv1
          go_wp2
          go_roundw
          case rel=>exact ⟨2,by omega,by go_num,hbj2,fun _=>HA1.out,fun _=>HOK.out⟩
          case measure=>(simp [intOf]; try omega)
      ·have HA1:=Lib.hid (HNEXT.out (ha1 (by omega)) (ha2 (by omega)))
       clear ha1 ha2
       have hbq:=hb.trans (hbj.mono hb.size)
       go_wp2
       go_roundw
       case rel=>exact ⟨n+1,by omega,by go_num,hbq,HA1.out⟩
       case measure=>(simp [intOf]; try omega)
    ·obtain rfl:n=c.pcs.length:=by omega
     have d3:decide (c.pcs.length < c.pcs.length)=false:=by simp
     rw [List.drop_length] at hall
     have HF:Hid (checkCyl c=if (okR 0 1000 c.off c.off&&okR (-100000) 100000 c.slo c.shi)=false then 2 else 0):=by
      rw [Hid,HE.out,hall]; simp
     clear hall
     have hBr:=hB.trans (hb.mono hB.size)
     by_cases g1:c.off < 0
     ·have d4:decide (c.off < 0)=true:=by simpa using g1
      have HZ:Hid (checkCyl c=2):=by rw [Hid,HF.out,if_pos (by simp [okR]; omega)]
      go_wp2
      go_ret
      exact ⟨by rw [HZ.out]; rfl,hBr⟩
     ·have d4:decide (c.off < 0)=false:=by simpa using g1
      by_cases g2:1000 < c.off
      ·have d5:decide (1000 < c.off)=true:=by simpa using g2
       have HZ:Hid (checkCyl c=2):=by rw [Hid,HF.out,if_pos (by simp [okR]; omega)]
       go_wp2
       go_ret
       exact ⟨by rw [HZ.out]; rfl,hBr⟩
      ·have d5:decide (1000 < c.off)=false:=by simpa using g2
       have HQ:Hid (checkCyl c=if okR (-100000) 100000 c.slo c.shi=false then 2 else 0):=by
        have:okR 0 1000 c.off c.off=true:=by simp [okR]; omega
        rw [Hid,HF.out,this,Bool.true_and]
       go_wp2_with fail
       refine (valid_ok c.slo c.shi (-100000) 100000 _).mono ?_
       rintro e wq ⟨rfl,hbq⟩
       cases hv1:okR (-100000) 100000 c.slo c.shi
       ·have HZ:Hid (checkCyl c=2):=by rw [Hid,HQ.out,if_pos hv1]
        go_wp2
        go_ret
        exact ⟨by rw [HZ.out]; rfl,hBr.trans (hbq.mono hBr.size)⟩
       ·have HZ:Hid (checkCyl c=0):=by rw [Hid,HQ.out,if_neg (by rw [hv1]; simp)]
        go_wp2
        go_ret
        exact ⟨by rw [HZ.out]; rfl,hBr.trans (hbq.mono hBr.size)⟩
end Go.Proofs.YtibmeigdjghkcaaGreat.J
namespace Go.Proofs.YtibmeigdjghkcaaGreat.J
open Go.RowKit Go.Shelf
set_option linter.unusedVariables false
abbrev enV (e:En):Value := .agg #[.int .i64 e.lo,.int .i64 e.hi,.int .i64 e.pl]
set_option maxRecDepth 100000 in
set_option maxHeartbeats 1600000 in
theorem ends_ok (v:Value) (c:Cyl) (k:Nat) (st:Bool) (w:World) (hv:CylV w w.heap.size v c) (hk:k < c.pcs.length) (hlen:c.pcs.length≤8) :
  Calls Tryz.prog 137 #[v,.agg #[.int .i64 (k:Int),.bool st]] w fun r w'=>r = .returned (.tuple #[enV (beg c ⟨k,st⟩),enV (fin c ⟨k,st⟩)])∧Below w.heap.size w w':=by
 obtain ⟨pa,pc,rfl,hp⟩:=hv.open_
 have hC:=CB.new hp
 have hB:=(Below.refl w.heap.size w).alloc (Nat.le_refl _) (.cells #[.slice pa c.pcs.length pc,.int .i64 c.off,.int .i64 c.slo,.int .i64 c.shi] 26)
 go_enter Tryz.func137,Tryz.ntmps137
 go_upto_region 1 with (fail)
 have HWS:Hid ((w.alloc (.cells #[.slice pa c.pcs.length pc,.int .i64 c.off,.int .i64 c.slo,.int .i64 c.shi] 26)).heap.size=w.heap.size+1):=by simp [Hid]
 generalize hW:w.alloc (.cells #[.slice pa c.pcs.length pc,.int .i64 c.off,.int .i64 c.slo,.int .i64 c.shi] 26)=W at *
 clear hW hp
 have hbA:=(Below.refl W.heap.size W).alloc (Nat.le_refl _) (.cells #[.int .i64 (k:Int),.bool st] 53)
 have hS:=Blk.new W 53 #[.int .i64 (k:Int),.bool st]
 have hz1:(W.alloc (.cells #[.int .i64 (k:Int),.bool st] 53)).heap.size=W.heap.size+1:=by simp
 rw [HWS.out] at hS hz1
 replace hC:=hC.call hbA
 replace hB:=hB.trans (hbA.mono hB.size)
 clear hbA
 generalize W.alloc (.cells #[.int .i64 (k:Int),.bool st] 53)=V at *
 have hbA:=(Below.refl V.heap.size V).alloc (Nat.le_refl _) (.cells #[.int .i64 0,.int .i64 0,.int .i64 0] 193)
 have h4:=Blk.new V 193 #[.int .i64 0,.int .i64 0,.int .i64 0]
 have hz2:(V.alloc (.cells #[.int .i64 0,.int .i64 0,.int .i64 0] 193)).heap.size=V.heap.size+1:=by simp
 rw [hz1] at h4 hz2
 replace hC:=hC.call hbA
 replace hS:=hS.call hbA
 replace hB:=hB.trans (hbA.mono hB.size)
 clear hbA
 generalize V.alloc (.cells #[.int .i64 0,.int .i64 0,.int .i64 0] 193)=V2 at *
 have hbA:=(Below.refl V2.heap.size V2).alloc (Nat.le_refl _) (.cells #[.int .i64 0,.int .i64 0,.int .i64 0] 193)
 have h5:=Blk.new V2 193 #[.int .i64 0,.int .i64 0,.int .i64 0]
 have hz3:(V2.alloc (.cells #[.int .i64 0,.int .i64 0,.int .i64 0] 193)).heap.size=V2.heap.size+1:=by simp
 rw [hz2] at h5 hz3
 replace hC:=hC.call hbA
 replace hS:=hS.call hbA
 replace h4:=h4.call hbA
 replace hB:=hB.trans (hbA.mono hB.size)
 clear hbA
 generalize V2.alloc (.cells #[.int .i64 0,.int .i64 0,.int .i64 0] 193)=V3 at *
 clear hz1 hz2
 obtain ⟨k0,k1,k2,k3⟩:=hC.c4
 have s0:=hS.cell 0
 have s1:=hS.cell 1
 simp at s0 s1
 obtain ⟨b,off,p,hpa,hpb,hp1,c0,c1,c2,c3,c4,c5,c6⟩:=piece_at hC.ps hk
 subst hpa
 have HBE:Hid (beg c ⟨k,st⟩=if st=true then p.b else p.a):=by unfold beg pcAt; rw [Hid,Int.toNat_natCast,hp1]; rfl
 have HFI:Hid (fin c ⟨k,st⟩=if st=true then p.a else p.b):=by unfold fin pcAt; rw [Hid,Int.toNat_natCast,hp1]; rfl
 have d1:(k:Int) < (c.pcs.length:Int):=by omega
 clear hp1
 go_upto_region 2 with (fail)
 have hbA:=(Below.refl V3.heap.size V3).alloc (Nat.le_refl _) (.cells #[.int .i64 p.a.lo,.int .i64 p.a.hi,.int .i64 p.a.pl,.int .i64 p.b.lo,.int .i64 p.b.hi,.int .i64 p.b.pl] 194)
 have h6:=Blk.new V3 194 #[.int .i64 p.a.lo,.int .i64 p.a.hi,.int .i64 p.a.pl,.int .i64 p.b.lo,.int .i64 p.b.hi,.int .i64 p.b.pl]
 rw [hz3] at h6
 replace hS:=hS.call hbA
 replace h4:=h4.call hbA
 replace h5:=h5.call hbA
 replace hB:=hB.trans (hbA.mono hB.size)
 clear hbA k0 k1 k2 k3 s0 s1 c0 c1 c2 c3 c4 c5 c6 hC hz3
 generalize V3.alloc (.cells #[.int .i64 p.a.lo,.int .i64 p.a.hi,.int .i64 p.a.pl,.int .i64 p.b.lo,.int .i64 p.b.hi,.int .i64 p.b.pl] 194)=V4 at *
 have k0:=hS.cell 0
 have k1:=hS.cell 1
 have f0:=h6.cell 0
 have f1:=h6.cell 1
 have f2:=h6.cell 2
 have f3:=h6.cell 3
 have f4:=h6.cell 4
 have f5:=h6.cell 5
 simp at k0 k1 f0 f1 f2 f3 f4 f5
 have k2:=True.intro
 have k3:=True.intro
 have s0:=True.intro
 have s1:=True.intro
 cases st
 ·rw [if_neg (by simp)] at HBE HFI
  go_upto_region 4 with (fail)
  generalize hgg:w.heap.size+1+1+1+1=g6 at h6 f0 f1 f2 f3 f4 f5
  obtain ⟨F,hF⟩:∃ F:World→Prop,(∀ w',F w'↔Blk w' g6 194 #[.int .i64 p.a.lo,.int .i64 p.a.hi,.int .i64 p.a.pl,.int .i64 p.b.lo,.int .i64 p.b.hi,.int .i64 p.b.pl]):=⟨_,fun _=>Iff.rfl⟩
  have hFd:F V4.drew:=(hF _).2 h6.drew
  haveI:Nonempty (SubW F):=⟨⟨_,hFd⟩⟩
  have f0:∀ y:SubW F,y.w.cell? ⟨g6,0,none⟩=some (.int .i64 p.a.lo):=fun y=>by have:=((hF y.w).1 y.h).cell 0; simpa using this
  have f1:∀ y:SubW F,y.w.cell? ⟨g6,1,none⟩=some (.int .i64 p.a.hi):=fun y=>by have:=((hF y.w).1 y.h).cell 1; simpa using this
  have f2:∀ y:SubW F,y.w.cell? ⟨g6,2,none⟩=some (.int .i64 p.a.pl):=fun y=>by have:=((hF y.w).1 y.h).cell 2; simpa using this
  have f3:∀ y:SubW F,y.w.cell? ⟨g6,3,none⟩=some (.int .i64 p.b.lo):=fun y=>by have:=((hF y.w).1 y.h).cell 3; simpa using this
  have f4:∀ y:SubW F,y.w.cell? ⟨g6,4,none⟩=some (.int .i64 p.b.hi):=fun y=>by have:=((hF y.w).1 y.h).cell 4; simpa using this
  have f5:∀ y:SubW F,y.w.cell? ⟨g6,5,none⟩=some (.int .i64 p.b.pl):=fun y=>by have:=((hF y.w).1 y.h).cell 5; simpa using this
  have hFx:F ((((V4.drew).setCell ⟨w.heap.size+1+1,0,none⟩ (.int .i64 p.a.lo)).setCell ⟨w.heap.size+1+1,1,none⟩ (.int .i64 p.a.hi)).setCell ⟨w.heap.size+1+1,2,none⟩ (.int .i64 p.a.pl)):=(hF _).2 (h6.drew.far3 (by omega) _ _ _)
  replace h4:=h4.drew
  replace h5:=h5.drew
  replace hB:=hB.drew
  clear s0 s1 k0 k1 k2 k3 hF h6 hgg
  refine wp_region_sched (C:=fun w'=>∃ y:SubW F,w'=y.w) [(0,true),(1,true),(2,true),(3,true),(4,false),(5,false)] (by kernel_rfl) (by kernel_rfl) ⟨⟨_,hFd⟩,rfl⟩ ?_
  generalize V4.drew=V5 at *
  have t0:=h4.cell 0
  have t1:=h4.cell 1
  have t2:=h4.cell 2
  have u0:=h5.cell 0
  have u1:=h5.cell 1
  have u2:=h5.cell 2
  simp at t0 t1 t2 u0 u1 u2
  have z4:=fun i=>h4.frozen i
  have z5:=fun i=>h5.frozen i
  have hne:w.heap.size+1+1≠w.heap.size+1+1+1:=by omega
  refine sched_q (by rfl) (by rfl) ?_
  intro K hK
  go_big_quiet_op
  go_big_quiet_on
  refine sched_q (by rfl) (by rfl) ?_
  intro K hK
  go_big_quiet_op
  go_big_quiet_on
  refine sched_q (by rfl) (by rfl) ?_
  intro K hK
  go_big_quiet_op
  go_big_quiet_on
  refine sched_q (by rfl) (by rfl) ?_
  intro K hK
  go_big_quiet_op
  go_big_quiet_on
  refine sched_c (by rfl) (by rfl) ?_
  intro K' hK'
  go_wp2
  refine hK' _ _ ⟨.inr ⟨⟨_,hFx⟩,rfl⟩,?_⟩
  clear hK' K' f0 f1 f2 f3 f4 f5
  have m4:=h4.put3 (.int .i64 p.a.lo) (.int .i64 p.a.hi) (.int .i64 p.a.pl)
  have m5:=h5.far3 (g:=w.heap.size+1+1) (by omega) (.int .i64 p.a.lo) (.int .i64 p.a.hi) (.int .i64 p.a.pl)
  have mB:=below_put3 (g:=w.heap.size+1+1) hB (by omega) (.int .i64 p.a.lo) (.int .i64 p.a.hi) (.int .i64 p.a.pl)
  clear t0 t1 t2 u0 u1 u2 z4 z5 h4 h5 hB hFx hFd
  generalize (((V5.setCell ⟨w.heap.size+1+1,0,none⟩ (.int .i64 p.a.lo)).setCell ⟨w.heap.size+1+1,1,none⟩ (.int .i64 p.a.hi)).setCell ⟨w.heap.size+1+1,2,none⟩ (.int .i64 p.a.pl))=V6 at *
  have u0:=m5.cell 0
  have u1:=m5.cell 1
  have u2:=m5.cell 2
  simp at u0 u1 u2
  have z5:=fun i=>m5.frozen i
  refine sched_c (by rfl) (by rfl) ?_
  intro K' hK'
  go_wp2
  refine hK' _ _ ⟨(by first | exact .inl rfl | exact .inl trivial),?_⟩
  clear hK' K'
  refine sched_nil ?_
  have n5:=m5.put3 (.int .i64 p.b.lo) (.int .i64 p.b.hi) (.int .i64 p.b.pl)
  have n4:=m4.far3 (g:=w.heap.size+1+1+1) (by omega) (.int .i64 p.b.lo) (.int .i64 p.b.hi) (.int .i64 p.b.pl)
  have nB:=below_put3 (g:=w.heap.size+1+1+1) mB (by omega) (.int .i64 p.b.lo) (.int .i64 p.b.hi) (.int .i64 p.b.pl)
  clear u0 u1 u2 z5 m4 m5 mB this
  generalize (((V6.setCell ⟨w.heap.size+1+1+1,0,none⟩ (.int .i64 p.b.lo)).setCell ⟨w.heap.size+1+1+1,1,none⟩ (.int .i64 p.b.hi)).setCell ⟨w.heap.size+1+1+1,2,none⟩ (.int .i64 p.b.pl))=V7 at *
  have t0:=n4.cell 0
  have t1:=n4.cell 1
  have t2:=n4.cell 2
  have u0:=n5.cell 0
  have u1:=n5.cell 1
  have u2:=n5.cell 2
  simp at t0 t1 t2 u0 u1 u2
  go_wp2
  exact bodyPost_ret (v := .tuple #[enV p.a,enV p.b]) (by simp [results,Tryz.results137,go_sem,t0,t1,t2,u0,u1,u2,enV]) rfl ⟨by rw [HBE.out,HFI.out],nB⟩
 ·rw [if_pos rfl] at HBE HFI
  go_upto_region 3 with (fail)
  generalize hgg:w.heap.size+1+1+1+1=g6 at h6 f0 f1 f2 f3 f4 f5
  obtain ⟨F,hF⟩:∃ F:World→Prop,(∀ w',F w'↔Blk w' g6 194 #[.int .i64 p.a.lo,.int .i64 p.a.hi,.int .i64 p.a.pl,.int .i64 p.b.lo,.int .i64 p.b.hi,.int .i64 p.b.pl]):=⟨_,fun _=>Iff.rfl⟩
  have hFd:F V4.drew:=(hF _).2 h6.drew
  haveI:Nonempty (SubW F):=⟨⟨_,hFd⟩⟩
  have f0:∀ y:SubW F,y.w.cell? ⟨g6,0,none⟩=some (.int .i64 p.a.lo):=fun y=>by have:=((hF y.w).1 y.h).cell 0; simpa using this
  have f1:∀ y:SubW F,y.w.cell? ⟨g6,1,none⟩=some (.int .i64 p.a.hi):=fun y=>by have:=((hF y.w).1 y.h).cell 1; simpa using this
  have f2:∀ y:SubW F,y.w.cell? ⟨g6,2,none⟩=some (.int .i64 p.a.pl):=fun y=>by have:=((hF y.w).1 y.h).cell 2; simpa using this
  have f3:∀ y:SubW F,y.w.cell? ⟨g6,3,none⟩=some (.int .i64 p.b.lo):=fun y=>by have:=((hF y.w).1 y.h).cell 3; simpa using this
  have f4:∀ y:SubW F,y.w.cell? ⟨g6,4,none⟩=some (.int .i64 p.b.hi):=fun y=>by have:=((hF y.w).1 y.h).cell 4; simpa using this
  have f5:∀ y:SubW F,y.w.cell? ⟨g6,5,none⟩=some (.int .i64 p.b.pl):=fun y=>by have:=((hF y.w).1 y.h).cell 5; simpa using this
  have hFx:F ((((V4.drew).setCell ⟨w.heap.size+1+1,0,none⟩ (.int .i64 p.b.lo)).setCell ⟨w.heap.size+1+1,1,none⟩ (.int .i64 p.b.hi)).setCell ⟨w.heap.size+1+1,2,none⟩ (.int .i64 p.b.pl)):=(hF _).2 (h6.drew.far3 (by omega) _ _ _)
  replace h4:=h4.drew
  replace h5:=h5.drew
  replace hB:=hB.drew
  clear s0 s1 k0 k1 k2 k3 hF h6 hgg
  refine wp_region_sched (C:=fun w'=>∃ y:SubW F,w'=y.w) [(0,true),(1,true),(2,true),(3,true),(4,false),(5,false)] (by kernel_rfl) (by kernel_rfl) ⟨⟨_,hFd⟩,rfl⟩ ?_
  generalize V4.drew=V5 at *
  have t0:=h4.cell 0
  have t1:=h4.cell 1
  have t2:=h4.cell 2
  have u0:=h5.cell 0
  have u1:=h5.cell 1
  have u2:=h5.cell 2
  simp at t0 t1 t2 u0 u1 u2
  have z4:=fun i=>h4.frozen i
  have z5:=fun i=>h5.frozen i
  have hne:w.heap.size+1+1≠w.heap.size+1+1+1:=by omega
  refine sched_q (by rfl) (by rfl) ?_
  intro K hK
  go_big_quiet_op
  go_big_quiet_on
  refine sched_q (by rfl) (by rfl) ?_
  intro K hK
  go_big_quiet_op
  go_big_quiet_on
  refine sched_q (by rfl) (by rfl) ?_
  intro K hK
  go_big_quiet_op
  go_big_quiet_on
  refine sched_q (by rfl) (by rfl) ?_
  intro K hK
  go_big_quiet_op
  go_big_quiet_on
  refine sched_c (by rfl) (by rfl) ?_
  intro K' hK'
  go_wp2
  refine hK' _ _ ⟨.inr ⟨⟨_,hFx⟩,rfl⟩,?_⟩
  clear hK' K' f0 f1 f2 f3 f4 f5
  have m4:=h4.put3 (.int .i64 p.b.lo) (.int .i64 p.b.hi) (.int .i64 p.b.pl)
  have m5:=h5.far3 (g:=w.heap.size+1+1) (by omega) (.int .i64 p.b.lo) (.int .i64 p.b.hi) (.int .i64 p.b.pl)
  have mB:=below_put3 (g:=w.heap.size+1+1) hB (by omega) (.int .i64 p.b.lo) (.int .i64 p.b.hi) (.int .i64 p.b.pl)
  clear t0 t1 t2 u0 u1 u2 z4 z5 h4 h5 hB hFx hFd
  generalize (((V5.setCell ⟨w.heap.size+1+1,0,none⟩ (.int .i64 p.b.lo)).setCell ⟨w.heap.size+1+1,1,none⟩ (.int .i64 p.b.hi)).setCell ⟨w.heap.size+1+1,2,none⟩ (.int .i64 p.b.pl))=V6 at *
  have u0:=m5.cell 0
  have u1:=m5.cell 1
  have u2:=m5.cell 2
  simp at u0 u1 u2
  have z5:=fun i=>m5.frozen i
  refine sched_c (by rfl) (by rfl) ?_
  intro K' hK'
  go_wp2
  refine hK' _ _ ⟨(by first | exact .inl rfl | exact .inl trivial),?_⟩
  clear hK' K'
  refine sched_nil ?_
  have n5:=m5.put3 (.int .i64 p.a.lo) (.int .i64 p.a.hi) (.int .i64 p.a.pl)
  have n4:=m4.far3 (g:=w.heap.size+1+1+1) (by omega) (.int .i64 p.a.lo) (.int .i64 p.a.hi) (.int .i64 p.a.pl)
  have nB:=below_put3 (g:=w.heap.size+1+1+1) mB (by omega) (.int .i64 p.a.lo) (.int .i64 p.a.hi) (.int .i64 p.a.pl)
  clear u0 u1 u2 z5 m4 m5 mB this
  generalize (((V6.setCell ⟨w.heap.size+1+1+1,0,none⟩ (.int .i64 p.a.lo)).setCell ⟨w.heap.size+1+1+1,1,none⟩ (.int .i64 p.a.hi)).setCell ⟨w.heap.size+1+1+1,2,none⟩ (.int .i64 p.a.pl))=V7 at *
  have t0:=n4.cell 0
  have t1:=n4.cell 1
  have t2:=n4.cell 2
  have u0:=n5.cell 0
  have u1:=n5.cell 1
  have u2:=n5.cell 2
  simp at t0 t1 t2 u0 u1 u2
  go_wp2
  exact bodyPost_ret (v := .tuple #[enV p.b,enV p.a]) (by simp [results,Tryz.results137,go_sem,t0,t1,t2,u0,u1,u2,enV]) rfl ⟨by rw [HBE.out,HFI.out],nB⟩
end Go.Proofs.YtibmeigdjghkcaaGreat.J
namespace Go.Proofs.YtibmeigdjghkcaaGreat.J
open Go.RowKit Go.Shelf
set_option linter.unusedVariables false
theorem cyl_bounds {c:Cyl} (h:checkCyl c=0):(1≤c.pcs.length∧c.pcs.length≤8)∧(0≤c.off∧c.off≤1000)∧(-100000≤c.slo∧c.slo≤c.shi∧c.shi≤100000)∧∀ p∈c.pcs,okE p.a=true∧okE p.b=true:=by
 unfold checkCyl at h
 split at h
 ·simp at h
 ·split at h
  ·simp at h
  ·split at h
   ·simp at h
   ·rename_i h1 h2 h3
    simp only [Bool.not_eq_false,Bool.and_eq_true] at h3
    obtain ⟨⟨h3,h4⟩,h5⟩:=h3
    simp only [okR,Bool.and_eq_true,decide_eq_true_eq] at h3 h4
    refine ⟨⟨by omega,by omega⟩,⟨by omega,by omega⟩,⟨by omega,by omega,by omega⟩,fun p hp=>?_⟩
    have:=(List.all_eq_true.1 h5) p hp
    rw [okP_eq,Bool.and_eq_true] at this
    exact this
def BdE (e:En):Prop:=(0≤e.lo∧e.lo≤e.hi∧e.hi≤1000)∧0≤e.pl∧e.pl≤100000
theorem bdE_of {e:En} (h:okE e=true):BdE e:=by
 simp only [okE,okR,Bool.and_eq_true,decide_eq_true_eq] at h
 exact ⟨⟨by omega,by omega,by omega⟩,by omega,by omega⟩
theorem bd_at {c:Cyl} (h:checkCyl c=0) {k:Nat} (hk:k < c.pcs.length) (t:Bool):BdE (beg c ⟨k,t⟩)∧BdE (fin c ⟨k,t⟩):=by
 have:=(cyl_bounds h).2.2.2 c.pcs[k] (List.getElem_mem hk)
 have hp:pcAt c (k:Int)=c.pcs[k]:=by unfold pcAt; rw [Int.toNat_natCast,List.getElem?_eq_getElem hk]; rfl
 unfold beg fin
 rw [hp]
 cases t
 ·exact ⟨bdE_of this.1,bdE_of this.2⟩
 ·exact ⟨bdE_of this.2,bdE_of this.1⟩
set_option maxRecDepth 100000 in
set_option maxHeartbeats 1600000 in
theorem fits_ok (v:Value) (c:Cyl) (k i:Nat) (st u:Bool) (w:World) (hv:CylV w w.heap.size v c) (h0:checkCyl c=0) (hk:k < c.pcs.length) (hi:i < c.pcs.length) :
  Calls Tryz.prog 64 #[v,.agg #[.int .i64 (k:Int),.bool st],.agg #[.int .i64 (i:Int),.bool u]] w fun r w'=>r = .returned (.bool (fitsS c ⟨k,st⟩ ⟨i,u⟩))∧Below w.heap.size w w':=by
 have hlen:=(cyl_bounds h0).1.2
 obtain ⟨hx0,hx1,hx2⟩:=(bd_at h0 hk st).2
 obtain ⟨hy0,hy1,hy2⟩:=(bd_at h0 hi u).1
 have HQ:Hid (fitsS c ⟨k,st⟩ ⟨i,u⟩=(decide ((k:Int)≠(i:Int))&&meets c (fin c ⟨k,st⟩) (beg c ⟨i,u⟩))):=rfl
 obtain ⟨pa,pc,rfl,hp⟩:=hv.open_
 have hC:=CB.new hp
 have hB:=(Below.refl w.heap.size w).alloc (Nat.le_refl _) (.cells #[.slice pa c.pcs.length pc,.int .i64 c.off,.int .i64 c.slo,.int .i64 c.shi] 26)
 go_enter Tryz.func64,Tryz.ntmps64
 go_upto_region 1 with (fail)
 have HWS:Hid ((w.alloc (.cells #[.slice pa c.pcs.length pc,.int .i64 c.off,.int .i64 c.slo,.int .i64 c.shi] 26)).heap.size=w.heap.size+1):=by simp [Hid]
 generalize hW:w.alloc (.cells #[.slice pa c.pcs.length pc,.int .i64 c.off,.int .i64 c.slo,.int .i64 c.shi] 26)=W at *
 clear hW hp
 have hbA:=(Below.refl W.heap.size W).alloc (Nat.le_refl _) (.cells #[.int .i64 (k:Int),.bool st] 53)
 have hS:=Blk.new W 53 #[.int .i64 (k:Int),.bool st]
 have hz1:(W.alloc (.cells #[.int .i64 (k:Int),.bool st] 53)).heap.size=W.heap.size+1:=by simp
 rw [HWS.out] at hS hz1
 replace hC:=hC.call hbA
 replace hB:=hB.trans (hbA.mono hB.size)
 clear hbA
 generalize W.alloc (.cells #[.int .i64 (k:Int),.bool st] 53)=V at *
 have hbA:=(Below.refl V.heap.size V).alloc (Nat.le_refl _) (.cells #[.int .i64 (i:Int),.bool u] 53)
 have hU:=Blk.new V 53 #[.int .i64 (i:Int),.bool u]
 rw [hz1] at hU
 replace hC:=hC.call hbA
 replace hS:=hS.call hbA
 replace hB:=hB.trans (hbA.mono hB.size)
 clear hbA hz1
 generalize V.alloc (.cells #[.int .i64 (i:Int),.bool u] 53)=V2 at *
 obtain ⟨k0,k1,k2,k3⟩:=hC.c4
 have s0:=hS.cell 0
 have s1:=hS.cell 1
 have u0:=hU.cell 0
 have u1:=hU.cell 1
 simp at s0 s1 u0 u1
 have HX:=Lib.hid (rfl:fin c ⟨k,st⟩=fin c ⟨k,st⟩)
 generalize hfx:fin c ⟨k,st⟩=x at *
 generalize hfy:beg c ⟨i,u⟩=y at *
 go_wp2_with fail
 refine (ends_ok _ c k st V2 hC.cyl hk hlen).mono ?_
 rintro e w1 ⟨rfl,hb1⟩
 replace hC:=hC.call hb1
 replace hS:=hS.call hb1
 replace hU:=hU.call hb1
 replace hB:=hB.trans (hb1.mono hB.size)
 clear hb1 k0 k1 k2 k3 s0 s1 u0 u1
 go_upto_region 2 with (fail)
 generalize beg c ⟨k,st⟩=x0 at *
 have hbA:=(Below.refl w1.heap.size w1).alloc (Nat.le_refl _) (.cells #[.int .i64 x0.lo,.int .i64 x0.hi,.int .i64 x0.pl] 193)
 have hz1:(w1.alloc (.cells #[.int .i64 x0.lo,.int .i64 x0.hi,.int .i64 x0.pl] 193)).heap.size=w1.heap.size+1:=by simp
 replace hC:=hC.call hbA
 replace hS:=hS.call hbA
 replace hU:=hU.call hbA
 replace hB:=hB.trans (hbA.mono hB.size)
 clear hbA
 generalize w1.alloc (.cells #[.int .i64 x0.lo,.int .i64 x0.hi,.int .i64 x0.pl] 193)=w2 at *
 have hbA:=(Below.refl w2.heap.size w2).alloc (Nat.le_refl _) (.cells #[.int .i64 x.lo,.int .i64 x.hi,.int .i64 x.pl] 193)
 have hXb:=Blk.new w2 193 #[.int .i64 x.lo,.int .i64 x.hi,.int .i64 x.pl]
 rw [hz1] at hXb
 replace hC:=hC.call hbA
 replace hS:=hS.call hbA
 replace hU:=hU.call hbA
 replace hB:=hB.trans (hbA.mono hB.size)
 clear hbA hz1
 generalize w2.alloc (.cells #[.int .i64 x.lo,.int .i64 x.hi,.int .i64 x.pl] 193)=w3 at *
 generalize w1.heap.size=g1 at *
 obtain ⟨k0,k1,k2,k3⟩:=hC.c4
 have s0:=hS.cell 0
 have s1:=hS.cell 1
 have u0:=hU.cell 0
 have u1:=hU.cell 1
 simp at s0 s1 u0 u1
 go_wp2_with fail
 refine (ends_ok _ c i u w3 hC.cyl hi hlen).mono ?_
 rintro e w4 ⟨rfl,hb4⟩
 replace hC:=hC.call hb4
 replace hS:=hS.call hb4
 replace hU:=hU.call hb4
 replace hXb:=hXb.call hb4
 replace hB:=hB.trans (hb4.mono hB.size)
 clear hb4 k0 k1 k2 k3 s0 s1 u0 u1
 go_upto_region 3 with (fail)
 generalize fin c ⟨i,u⟩=y0 at *
 have hbA:=(Below.refl w4.heap.size w4).alloc (Nat.le_refl _) (.cells #[.int .i64 y.lo,.int .i64 y.hi,.int .i64 y.pl] 193)
 have hYb:=Blk.new w4 193 #[.int .i64 y.lo,.int .i64 y.hi,.int .i64 y.pl]
 replace hC:=hC.call hbA
 replace hS:=hS.call hbA
 replace hU:=hU.call hbA
 replace hXb:=hXb.call hbA
 replace hB:=hB.trans (hbA.mono hB.size)
 clear hbA
 generalize w4.alloc (.cells #[.int .i64 y.lo,.int .i64 y.hi,.int .i64 y.pl] 193)=w5 at *
 generalize w4.heap.size=g4 at *
 have hbA:=(Below.refl w5.heap.size w5).alloc (Nat.le_refl _) (.cells #[.int .i64 y0.lo,.int .i64 y0.hi,.int .i64 y0.pl] 193)
 replace hC:=hC.call hbA
 replace hS:=hS.call hbA
 replace hU:=hU.call hbA
 replace hXb:=hXb.call hbA
 replace hYb:=hYb.call hbA
 replace hB:=hB.trans (hbA.mono hB.size)
 clear hbA
 generalize w5.alloc (.cells #[.int .i64 y0.lo,.int .i64 y0.hi,.int .i64 y0.pl] 193)=w6 at *
 obtain ⟨k0,k1,k2,k3⟩:=hC.c4
 have s0:=hS.cell 0
 have u0:=hU.cell 0
 have x0:=hXb.cell 0
 have x1:=hXb.cell 1
 have x2:=hXb.cell 2
 have y0:=hYb.cell 0
 have y1:=hYb.cell 1
 have y2:=hYb.cell 2
 simp at s0 u0 x0 x1 x2 y0 y1 y2
 have e1:IntKind.i64.wrap (y.pl-x.pl)=y.pl-x.pl:=by rw [IntKind.wrap_i64]; omega
 have e2:IntKind.i64.wrap (x.lo-y.hi)=x.lo-y.hi:=by rw [IntKind.wrap_i64]; omega
 have e3:IntKind.i64.wrap (y.lo-x.hi)=y.lo-x.hi:=by rw [IntKind.wrap_i64]; omega
 clear hC hS hU hXb hYb hx0 hx1 hx2 hy0 hy1 hy2
 by_cases g0:(k:Int)=(i:Int)
 ·have d0:((k:Int) != (i:Int))=false:=by simpa using g0
  have HE:Hid (fitsS c ⟨k,st⟩ ⟨i,u⟩=false):=by rw [Hid,HQ.out]; simp [g0]
  go_wp2
  go_ret
  exact ⟨by rw [HE.out]; rfl,hB⟩
 ·have d0:((k:Int) != (i:Int))=true:=by simpa using g0
  replace HQ:Hid (fitsS c ⟨k,st⟩ ⟨i,u⟩=meets c x y):=by rw [Hid,HQ.out]; simp [g0]
  by_cases g1:x.lo-y.hi≤c.off
  ·have d1:decide (x.lo-y.hi≤c.off)=true:=by simpa using g1
   by_cases g2:y.lo-x.hi≤c.off
   ·have d2:decide (y.lo-x.hi≤c.off)=true:=by simpa using g2
    by_cases g3:c.slo≤y.pl-x.pl
    ·have d3:decide (c.slo≤y.pl-x.pl)=true:=by simpa using g3
     have HE:Hid (fitsS c ⟨k,st⟩ ⟨i,u⟩=decide (y.pl-x.pl≤c.shi)):=by rw [Hid,HQ.out,meets,d1,d2,d3]; rfl
     clear g0 g1 g2 g3
     go_wp2
     go_ret
     exact ⟨by rw [HE.out]; rfl,hB⟩
    ·have d3:decide (c.slo≤y.pl-x.pl)=false:=by simpa using g3
     have HE:Hid (fitsS c ⟨k,st⟩ ⟨i,u⟩=false):=by rw [Hid,HQ.out,meets,d1,d2,d3]; rfl
     clear g0 g1 g2 g3
     go_wp2
     go_ret
     exact ⟨by rw [HE.out]; rfl,hB⟩
   ·have d2:decide (y.lo-x.hi≤c.off)=false:=by simpa using g2
    have HE:Hid (fitsS c ⟨k,st⟩ ⟨i,u⟩=false):=by rw [Hid,HQ.out,meets,d1,d2]; rfl
    clear g0 g1 g2
    go_wp2
    go_ret
    exact ⟨by rw [HE.out]; rfl,hB⟩
  ·have d1:decide (x.lo-y.hi≤c.off)=false:=by simpa using g1
   have HE:Hid (fitsS c ⟨k,st⟩ ⟨i,u⟩=false):=by rw [Hid,HQ.out,meets,d1]; rfl
   clear g0 g1
   go_wp2
   go_ret
   exact ⟨by rw [HE.out]; rfl,hB⟩
end Go.Proofs.YtibmeigdjghkcaaGreat.J
namespace Go.Proofs.YtibmeigdjghkcaaGreat.J
open Go.RowKit Go.Shelf
set_option linter.unusedVariables false
abbrev stV (x:St):Value := .agg #[.int .i64 x.p,.bool x.t]
theorem isStep_num {c:Cyl} {x:St} (h:isStep c x=true):∃ k:Nat,x.p=(k:Int)∧k < c.pcs.length:=by
 simp only [isStep,Bool.and_eq_true,decide_eq_true_eq] at h
 exact ⟨x.p.toNat,by omega,by omega⟩
set_option maxRecDepth 100000 in
set_option maxHeartbeats 1600000 in
theorem rfits_ok (v:Value) (c:Cyl) (x y:St) (w:World) (hv:CylV w w.heap.size v c) :
  Calls Tryz.prog 48 #[v,stV x,stV y] w fun r w'=>r = .returned (.tuple #[.bool (fitsOf c x y).1,.int .i64 (fitsOf c x y).2])∧Below w.heap.size w w':=by
 obtain ⟨xp,xt⟩:=x
 obtain ⟨yp,yt⟩:=y
 obtain ⟨pa,pc,rfl,hp⟩:=hv.open_
 have hC:=CB.new hp
 have hB:=(Below.refl w.heap.size w).alloc (Nat.le_refl _) (.cells #[.slice pa c.pcs.length pc,.int .i64 c.off,.int .i64 c.slo,.int .i64 c.shi] 26)
 go_enter Tryz.func48,Tryz.ntmps48
 go_upto_region 1 with (fail)
 have HWS:Hid ((w.alloc (.cells #[.slice pa c.pcs.length pc,.int .i64 c.off,.int .i64 c.slo,.int .i64 c.shi] 26)).heap.size=w.heap.size+1):=by simp [Hid]
 generalize hW:w.alloc (.cells #[.slice pa c.pcs.length pc,.int .i64 c.off,.int .i64 c.slo,.int .i64 c.shi] 26)=W at *
 clear hW hp
 have hbA:=(Below.refl W.heap.size W).alloc (Nat.le_refl _) (.cells #[.int .i64 xp,.bool xt] 53)
 have hS:=Blk.new W 53 #[.int .i64 xp,.bool xt]
 have hz1:(W.alloc (.cells #[.int .i64 xp,.bool xt] 53)).heap.size=W.heap.size+1:=by simp
 rw [HWS.out] at hS hz1
 replace hC:=hC.call hbA
 replace hB:=hB.trans (hbA.mono hB.size)
 clear hbA
 generalize W.alloc (.cells #[.int .i64 xp,.bool xt] 53)=V at *
 have hbA:=(Below.refl V.heap.size V).alloc (Nat.le_refl _) (.cells #[.int .i64 yp,.bool yt] 53)
 have hU:=Blk.new V 53 #[.int .i64 yp,.bool yt]
 rw [hz1] at hU
 replace hC:=hC.call hbA
 replace hS:=hS.call hbA
 replace hB:=hB.trans (hbA.mono hB.size)
 clear hbA hz1
 generalize V.alloc (.cells #[.int .i64 yp,.bool yt] 53)=V2 at *
 obtain ⟨k0,k1,k2,k3⟩:=hC.c4
 go_wp2_with fail
 refine (rcheckCyl_ok _ c V2 hC.cyl).mono ?_
 rintro e w1 ⟨rfl,hb1⟩
 replace hC:=hC.call hb1
 replace hS:=hS.call hb1
 replace hU:=hU.call hb1
 replace hB:=hB.trans (hb1.mono hB.size)
 clear hb1 k0 k1 k2 k3
 obtain ⟨k0,k1,k2,k3⟩:=hC.c4
 have s0:=hS.cell 0
 have s1:=hS.cell 1
 have u0:=hU.cell 0
 have u1:=hU.cell 1
 simp at s0 s1 u0 u1
 by_cases h0:checkCyl c=0
 ·have d0:(checkCyl c != 0)=false:=by simp [h0]
  cases hx:isStep c ⟨xp,xt⟩
  ·have HE:Hid (fitsOf c ⟨xp,xt⟩ ⟨yp,yt⟩=(false,2)):=by rw [Hid,fitsOf,if_neg (by simp [h0]),hx]; rfl
   go_wp2_with fail
   refine (isStep_ok _ c xp xt w1 hC.cyl).mono ?_
   rintro e w2 ⟨rfl,hb2⟩
   rw [hx]
   replace hB:=hB.trans (hb2.mono hB.size)
   go_wp2
   exact bodyPost_ret (v := .tuple #[.bool false,.int .i64 2]) (by simp [results,Tryz.results48,go_sem]) rfl ⟨by rw [HE.out],hB⟩
  ·go_wp2_with fail
   refine (isStep_ok _ c xp xt w1 hC.cyl).mono ?_
   rintro e w2 ⟨rfl,hb2⟩
   rw [hx]
   replace hC:=hC.call hb2
   replace hS:=hS.call hb2
   replace hU:=hU.call hb2
   replace hB:=hB.trans (hb2.mono hB.size)
   clear hb2 k0 k1 k2 k3 s0 s1 u0 u1
   obtain ⟨k0,k1,k2,k3⟩:=hC.c4
   have s0:=hS.cell 0
   have s1:=hS.cell 1
   have u0:=hU.cell 0
   have u1:=hU.cell 1
   simp at s0 s1 u0 u1
   cases hy:isStep c ⟨yp,yt⟩
   ·have HE:Hid (fitsOf c ⟨xp,xt⟩ ⟨yp,yt⟩=(false,2)):=by rw [Hid,fitsOf,if_neg (by simp [h0]),hx,hy]; rfl
    go_wp2_with fail
    refine (isStep_ok _ c yp yt w2 hC.cyl).mono ?_
    rintro e w3 ⟨rfl,hb3⟩
    rw [hy]
    replace hB:=hB.trans (hb3.mono hB.size)
    go_wp2
    exact bodyPost_ret (v := .tuple #[.bool false,.int .i64 2]) (by simp [results,Tryz.results48,go_sem]) rfl ⟨by rw [HE.out],hB⟩
   ·have HE:Hid (fitsOf c ⟨xp,xt⟩ ⟨yp,yt⟩=(fitsS c ⟨xp,xt⟩ ⟨yp,yt⟩,0)):=by rw [Hid,fitsOf,if_neg (by simp [h0]),hx,hy]; rfl
    obtain ⟨kx,rfl,hkx⟩:=isStep_num hx
    obtain ⟨ky,rfl,hky⟩:=isStep_num hy
    go_wp2_with fail
    refine (isStep_ok _ c ky yt w2 hC.cyl).mono ?_
    rintro e w3 ⟨rfl,hb3⟩
    rw [hy]
    replace hC:=hC.call hb3
    replace hS:=hS.call hb3
    replace hU:=hU.call hb3
    replace hB:=hB.trans (hb3.mono hB.size)
    clear hb3 k0 k1 k2 k3 s0 s1 u0 u1
    obtain ⟨k0,k1,k2,k3⟩:=hC.c4
    have s0:=hS.cell 0
    have s1:=hS.cell 1
    have u0:=hU.cell 0
    have u1:=hU.cell 1
    simp at s0 s1 u0 u1
    go_wp2_with fail
    refine (fits_ok _ c kx ky xt yt w3 hC.cyl h0 hkx hky).mono ?_
    rintro e w4 ⟨rfl,hb4⟩
    replace hB:=hB.trans (hb4.mono hB.size)
    go_wp2
    exact bodyPost_ret (v := .tuple #[.bool (fitsS c ⟨kx,xt⟩ ⟨ky,yt⟩),.int .i64 0]) (by simp [results,Tryz.results48,go_sem]) rfl ⟨by rw [HE.out],hB⟩
 ·have d0:(checkCyl c != 0)=true:=by simp [h0]
  have HE:Hid (fitsOf c ⟨xp,xt⟩ ⟨yp,yt⟩=(false,checkCyl c)):=by rw [Hid,fitsOf,if_pos h0]
  go_wp2_with fail
  refine (rcheckCyl_ok _ c w1 hC.cyl).mono ?_
  rintro e w2 ⟨rfl,hb2⟩
  replace hB:=hB.trans (hb2.mono hB.size)
  go_wp2
  exact bodyPost_ret (v := .tuple #[.bool false,.int .i64 (checkCyl c)]) (by simp [results,Tryz.results48,go_sem]) rfl ⟨by rw [HE.out],hB⟩
end Go.Proofs.YtibmeigdjghkcaaGreat.J
namespace Go.Proofs.YtibmeigdjghkcaaGreat.J
open Go.RowKit Go.Shelf
set_option linter.unusedVariables false
theorem twice_pw:∀ l:List St,twice l=false↔l.Pairwise fun a b=>b.p≠a.p
 | []=>by simp [twice]
 | s::r=>by
   rw [twice,Bool.or_eq_false_iff,twice_pw r,List.pairwise_cons,List.any_eq_false]
   simp
theorem twice_at {l:List St} {k i:Nat} {x y:St} (hk:k < i) (hx:l[i]? = some x) (hy:l[k]? = some y) (h:x.p=y.p):twice l=true:=by
 cases ht:twice l
 ·obtain ⟨h1,e1⟩:=List.getElem?_eq_some_iff.1 hx
  obtain ⟨h2,e2⟩:=List.getElem?_eq_some_iff.1 hy
  have:=List.pairwise_iff_getElem.1 ((twice_pw l).1 ht) k i h2 h1 hk
  rw [e1,e2] at this
  exact absurd h this
 ·rfl
theorem twice_not {l:List St} (h:∀ (i:Nat) (x:St),l[i]? = some x→∀ (k:Nat) (y:St),k < i→l[k]? = some y→x.p≠y.p):twice l=false:=by
 rw [twice_pw,List.pairwise_iff_getElem]
 intro i j hi hj hij
 exact h j l[j] (List.getElem?_eq_getElem hj) i l[i] hij (List.getElem?_eq_getElem hi)
theorem chain_all {c:Cyl}:∀ {l:List St},(∀ i x y,l[i]? = some x→l[i+1]? = some y→fitsS c x y=true)→chain c l=true
 | [],_=>rfl
 | [_],_=>rfl
 | x::y::r,h=>by
   rw [chain,h 0 x y rfl rfl,Bool.true_and]
   exact chain_all fun i a b ha hb=>h (i+1) a b (by simpa using ha) (by simpa using hb)
theorem chain_not {c:Cyl}:∀ {l:List St} {i:Nat} {x y:St},l[i]? = some x→l[i+1]? = some y→fitsS c x y=false→chain c l=false
 | [],i,x,y,hx,hy,h=>by simp at hx
 | [_],i,x,y,hx,hy,h=>by simp at hy
 | a::b::r,0,x,y,hx,hy,h=>by
   simp at hx hy
   subst hx hy
   rw [chain,h]; rfl
 | a::b::r,i+1,x,y,hx,hy,h=>by
   rw [chain,chain_not (l:=b::r) (i:=i) (by simpa using hx) (by simpa using hy) h,Bool.and_false]
set_option maxRecDepth 100000 in
set_option maxHeartbeats 1600000 in
theorem rcheckJoin_ok (v lv:Value) (c:Cyl) (l:List St) (w:World) (hv:CylV w w.heap.size v c) (hl:Arr w w.heap.size 2 lv l stcell) :
  Calls Tryz.prog 17 #[v,lv] w fun r w'=>r = .returned (.int .i64 (checkJoin c l))∧Below w.heap.size w w':=by
 obtain ⟨la,lc,rfl,hl1,hl2, -⟩:=id hl
 obtain ⟨pa,pc,rfl,hp⟩:=hv.open_
 have hC:=CB.new hp
 have hB:=(Below.refl w.heap.size w).alloc (Nat.le_refl _) (.cells #[.slice pa c.pcs.length pc,.int .i64 c.off,.int .i64 c.slo,.int .i64 c.shi] 26)
 go_enter Tryz.func17,Tryz.ntmps17
 go_upto_region 1 with (fail)
 have HWS:Hid ((w.alloc (.cells #[.slice pa c.pcs.length pc,.int .i64 c.off,.int .i64 c.slo,.int .i64 c.shi] 26)).heap.size=w.heap.size+1):=by simp [Hid]
 generalize hW:w.alloc (.cells #[.slice pa c.pcs.length pc,.int .i64 c.off,.int .i64 c.slo,.int .i64 c.shi] 26)=W at *
 clear hW hp
 replace hl:=hl.below hB
 obtain ⟨k0,k1,k2,k3⟩:=hC.c4
 go_wp2_with fail
 refine (rcheckCyl_ok _ c W hC.cyl).mono ?_
 rintro e w1 ⟨rfl,hb1⟩
 replace hC:=hC.call hb1
 have hx1:=hb1.mono hB.size
 replace hl:=hl.below hx1
 replace hB:=hB.trans hx1
 clear hb1 hx1 k0 k1 k2 k3
 obtain ⟨k0,k1,k2,k3⟩:=hC.c4
 by_cases h0:checkCyl c=0
 ·have d0:(checkCyl c != 0)=false:=by simp [h0]
  by_cases h1:l.length=c.pcs.length
  ·have d1:((l.length:Int) != (c.pcs.length:Int))=false:=by simp [h1]
   have HE:Hid (checkJoin c l=if l.all (isStep c)=false then 2 else if twice l=true then 11 else if chain c l=false then 18 else 0):=by
    rw [Hid,checkJoin,if_neg (by simp [h0]),if_neg (by simp [h1])]
   have hn8:l.length≤8:=by rw [h1]; exact (cyl_bounds h0).1.2
   go_wp2
   go_loopw [5] (fun i wr=>∃ n:Nat,n≤l.length∧i = .int .i64 n∧Below w1.heap.size w1 wr∧∀ k x,k < n→l[k]? = some x→isStep c x=true) (fun i _=>l.length-(intOf i).toNat)
   case atStart=>exact ⟨0,Nat.zero_le _,rfl,Below.refl _ _,fun k x hk=>absurd hk (Nat.not_lt_zero _)⟩
   case round =>
    obtain ⟨n,hn,rfl,hb,hall⟩:=hrel
    have hCr:=hC.call hb
    have hBr:=hB.trans (hb.mono hB.size)
    have HALL:=Lib.hid hall
    clear k0 k1 k2 k3 hall
    obtain ⟨k0,k1,k2,k3⟩:=hCr.c4
    by_cases hn1:n < l.length
    ·have d3:decide (n < l.length)=true:=by simpa using hn1
     have d3':decide ((n:Int) < (l.length:Int))=true:=by simp; omega
     obtain ⟨xb,xo,x,hxa,hxb,hx1,hx2⟩:=(hl.below (hb.mono hB.size)).at_ hn1
     subst hxa
     obtain ⟨xp,xt⟩:=x
     have c0:=hx2 0 (by omega)
     have c1:=hx2 1 (by omega)
     simp only [Nat.add_zero,stcell] at c0 c1
     have f0:=Ext.of c0
     have f1:=Ext.of c1
     have f2:=Ext.of k0
     have f3:=Ext.of k1
     have f4:=Ext.of k2
     have f5:=Ext.of k3
     have HX:=Lib.hid hx1
     have HA:Hid (∀ y:Ext wr,Calls Tryz.prog 63 #[_,.agg #[.int .i64 xp,.bool xt]] y.w fun r w'=>r = .returned (.bool (isStep c ⟨xp,xt⟩))∧∃ z:Ext wr,w'=z.w):=fun y=>ext_call y (isStep_ok _ c xp xt y.w (hCr.call y.h).cyl)
     clear c0 c1 hx1 hx2
     go_upto_region 8 with (fail)
     cases hs:isStep c ⟨xp,xt⟩
     ·rw [hs] at HA
      have HZ:Hid (checkJoin c l=2):=by
       rw [Hid,HE.out,if_pos]
       rw [List.all_eq_false]
       exact ⟨⟨xp,xt⟩,List.mem_of_getElem? HX.out,by rw [hs]; simp⟩
      refine wp_region_ext (by kernel_rfl) (by kernel_rfl) ?_
      repeat (go_big_quiet_step ((go_at_call 63; with_reducible exact HA.out _)))
      refine wpQuiet_nil ?_
      intro _ hw'
      obtain ⟨xr,hw''⟩:=hw'
      subst hw''
      have hbz:=hBr.trans (xr.h.mono hBr.size)
      go_wp2
      go_ret
      exact ⟨by rw [HZ.out]; rfl,hbz⟩
     ·rw [hs] at HA
      have HN:Hid (∀ k x,k < n+1→l[k]? = some x→isStep c x=true):=fun k x hk hx=>by
       by_cases hkn:k=n
       ·subst hkn
        rw [HX.out] at hx
        cases hx
        exact hs
       ·exact HALL.out k x (by omega) hx
      refine wp_region_ext (by kernel_rfl) (by kernel_rfl) ?_
      repeat (go_big_quiet_step ((go_at_call 63; with_reducible exact HA.out _)))
      refine wpQuiet_nil ?_
      intro _ hw'
      obtain ⟨xr,hw''⟩:=hw'
      subst hw''
      have hbz:=hb.trans (xr.h.mono hb.size)
      go_wp2
      go_roundw
      case rel=>exact ⟨n+1,by omega,by go_num,hbz,HN.out⟩
      case measure=>(simp [intOf]; try omega)
    ·obtain rfl:n=l.length:=by omega
     have d3:decide (l.length < l.length)=false:=by simp
     replace HE:Hid (checkJoin c l=if twice l=true then 11 else if chain c l=false then 18 else 0):=by
      rw [Hid,HE.out,if_neg]
      rw [Bool.not_eq_false,List.all_eq_true]
      intro x hx
      obtain ⟨k,hk,rfl⟩:=List.getElem_of_mem hx
      exact HALL.out k _ hk (List.getElem?_eq_getElem hk)
     replace hl:=hl.below (hb.mono hB.size)
     have HALL0:Hid (∀ (k:Nat) (x:St),l[k]? = some x→isStep c x=true):=fun k x hx=>HALL.out k x (by obtain ⟨h, -⟩:=List.getElem?_eq_some_iff.1 hx; exact h) hx
     clear hC hB hb HALL
     have HIS:Hid (∀ (k:Nat) (x:St),l[k]? = some x→∃ m:Nat,x.p=(m:Int)∧m < c.pcs.length):=fun k x hx=>isStep_num (HALL0.out k x hx)
     go_wp2
     go_loopw [6] (fun i wz=>∃ n:Nat,n≤l.length∧i = .int .i64 n∧Below wr.heap.size wr wz∧∀ (i:Nat) (x:St),l[i]? = some x→i < n→∀ (k:Nat) (y:St),k < i→l[k]? = some y→x.p≠y.p) (fun i _=>l.length-(intOf i).toNat)
     case atStart=>exact ⟨0,Nat.zero_le _,rfl,Below.refl _ _,fun i x _ hi=>absurd hi (Nat.not_lt_zero _)⟩
     case round =>
      obtain ⟨n,hn,rfl,hb,hall⟩:=hrel
      have hCz:=hCr.call hb
      have hBz:=hBr.trans (hb.mono hBr.size)
      have HALL:=Lib.hid hall
      clear k0 k1 k2 k3 hall
      obtain ⟨k0,k1,k2,k3⟩:=hCz.c4
      by_cases hn1:n < l.length
      ·have d3:decide (n < l.length)=true:=by simpa using hn1
       have d3':decide ((n:Int) < (l.length:Int))=true:=by simp; omega
       have hln:=hl.below (hb.mono hBr.size)
       obtain ⟨xb,xo,x,hxa,hxb,hx1,hx2⟩:=hln.at_ hn1
       have c0:=hx2 0 (by omega)
       simp only [Nat.add_zero,stcell] at c0
       have HX:=Lib.hid hx1
       clear hx2 hx1
       go_wp2
       go_loopw [7] (fun j wy=>∃ m:Nat,m≤n∧j = .int .i64 m∧Below wr.heap.size wr wy∧∀ (k:Nat) (y:St),k < m→l[k]? = some y→x.p≠y.p) (fun j _=>n-(intOf j).toNat)
       case atStart=>exact ⟨0,Nat.zero_le _,rfl,Below.refl _ _,fun k y hk=>absurd hk (Nat.not_lt_zero _)⟩
       case round =>
        obtain ⟨m,hm,rfl,hbj,hin⟩:=hrel
        have hCy:=hCz.call hbj
        have hBy:=hBz.trans (hbj.mono hBz.size)
        have hby:=hb.trans (hbj.mono hb.size)
        have HIN:=Lib.hid hin
        clear k0 k1 k2 k3 hin
        by_cases hm1:m < n
        ·have d4:decide (m < n)=true:=by simpa using hm1
         have d4':decide ((m:Int) < (n:Int))=true:=by simp; omega
         obtain ⟨yb,yo,y,hya,hyb,hy1,hy2⟩:=hln.at_ (show m < l.length by omega)
         have e0:=(hbj.cell (p:=⟨yb,yo+m * 2,none⟩) (cell_lt (hy2 0 (by omega)))).trans (hy2 0 (by omega))
         have c0':=(hbj.cell (p:=⟨xb,xo+n * 2,none⟩) (cell_lt c0)).trans c0
         subst hxa
         simp only [Option.some.injEq,Addr.mk.injEq,and_true] at hya
         obtain ⟨rfl,rfl⟩:=hya
         simp only [stcell] at e0
         have HY:=Lib.hid hy1
         clear hy2 hy1
         have f0:=Ext.of c0'
         have f1:=Ext.of e0
         have hml:(m:Int) < (l.length:Int):=by omega
         clear c0 c0' e0
         go_upto_region 16 with (fail)
         by_cases hq:x.p=y.p
         ·have d5:(x.p==y.p)=true:=by simpa using hq
          have HZ:Hid (checkJoin c l=11):=by rw [Hid,HE.out,if_pos (twice_at hm1 HX.out HY.out hq)]
          refine wp_region_ext (by kernel_rfl) (by kernel_rfl) ?_
          repeat (go_big_quiet_step (fail))
          refine wpQuiet_nil ?_
          intro _ hw'
          obtain ⟨xr,hw''⟩:=hw'
          subst hw''
          have hbz:=hBy.trans (xr.h.mono hBy.size)
          go_wp2
          go_ret
          exact ⟨by rw [HZ.out]; rfl,hbz⟩
         ·have d5:(x.p==y.p)=false:=by simpa using hq
          have HN:Hid (∀ (k:Nat) (y:St),k < m+1→l[k]? = some y→x.p≠y.p):=fun k z hk hz=>by
           by_cases hkm:k=m
           ·subst hkm
            rw [HY.out] at hz
            cases hz
            exact hq
           ·exact HIN.out k z (by omega) hz
          refine wp_region_ext (by kernel_rfl) (by kernel_rfl) ?_
          repeat (go_big_quiet_step (fail))
          refine wpQuiet_nil ?_
          intro _ hw'
          obtain ⟨xr,hw''⟩:=hw'
          subst hw''
          have hbz:=hbj.trans (xr.h.mono hbj.size)
          go_wp2
          go_roundw
          case rel=>exact ⟨m+1,by omega,by go_num,hbz,HN.out⟩
          case measure=>(simp [intOf]; try omega)
        ·obtain rfl:m=n:=by omega
         have d4:decide (m < m)=false:=by simp
         have HN:Hid (∀ (i:Nat) (x:St),l[i]? = some x→i < m+1→∀ (k:Nat) (y:St),k < i→l[k]? = some y→x.p≠y.p):=fun i z hz hi=>by
          by_cases him:i=m
          ·subst him
           rw [HX.out] at hz
           cases hz
           exact HIN.out
          ·exact HALL.out i z hz (by omega)
         clear hbj
         go_wp2
         go_roundw
         case rel=>exact ⟨m+1,by omega,by go_num,hby,HN.out⟩
         case measure=>(simp [intOf]; try omega)
      ·obtain rfl:n=l.length:=by omega
       have d3:decide (l.length < l.length)=false:=by simp
       replace HE:Hid (checkJoin c l=if chain c l=false then 18 else 0):=by
        rw [Hid,HE.out,if_neg]
        rw [twice_not fun i x hx k y hk hy=>HALL.out i x hx (by obtain ⟨h, -⟩:=List.getElem?_eq_some_iff.1 hx; exact h) k y hk hy]
        simp
       replace hl:=hl.below (hb.mono hBr.size)
       clear hCr hBr hb HALL
       go_wp2
       go_loopw [8] (fun i wz=>∃ n:Nat,n≤l.length∧i = .int .i64 ((n+1:Nat):Int)∧Below wr.heap.size wr wz∧∀ (i:Nat) (x y:St),i < n→l[i]? = some x→l[i+1]? = some y→fitsS c x y=true) (fun i _=>l.length-(intOf i).toNat)
       case atStart=>exact ⟨0,Nat.zero_le _,rfl,Below.refl _ _,fun i x y hi=>absurd hi (Nat.not_lt_zero _)⟩
       case round =>
        obtain ⟨n,hn,rfl,hb,hall⟩:=hrel
        have hCy:=hCz.call hb
        have hBy:=hBz.trans (hb.mono hBz.size)
        have HALL:=Lib.hid hall
        clear k0 k1 k2 k3 hall
        obtain ⟨k0,k1,k2,k3⟩:=hCy.c4
        by_cases hn1:n+1 < l.length
        ·have d3:decide (n+1 < l.length)=true:=by simpa using hn1
         have d3':decide (((n+1:Nat):Int) < (l.length:Int))=true:=by simp; omega
         have d3'':decide ((n:Int)+1 < (l.length:Int))=true:=by simp; omega
         have hln:=hl.below (hb.mono hBz.size)
         obtain ⟨xb,xo,x,hxa,hxb,hx1,hx2⟩:=hln.at_ (show n < l.length by omega)
         obtain ⟨yb,yo,y,hya,hyb,hy1,hy2⟩:=hln.at_ hn1
         subst hxa
         simp only [Option.some.injEq,Addr.mk.injEq,and_true] at hya
         obtain ⟨rfl,rfl⟩:=hya
         obtain ⟨kx,hkx,hkx'⟩:=HIS.out n x hx1
         obtain ⟨ky,hky,hky'⟩:=HIS.out (n+1) y hy1
         obtain ⟨xp,xt⟩:=x
         obtain ⟨yp,yt⟩:=y
         subst hkx
         subst hky
         have c0:=hx2 0 (by omega)
         have c1:=hx2 1 (by omega)
         have e0:=hy2 0 (by omega)
         have e1:=hy2 1 (by omega)
         simp only [Nat.add_zero,stcell] at c0 c1 e0 e1
         have f0:=Ext.of c0
         have f1:=Ext.of c1
         have f2:=Ext.of k0
         have f3:=Ext.of k1
         have f4:=Ext.of k2
         have f5:=Ext.of k3
         have f6:=Ext.of e0
         have f7:=Ext.of e1
         have HX:=Lib.hid hx1
         have HY:=Lib.hid hy1
         have HA:Hid (∀ y:Ext wr,Calls Tryz.prog 64 #[_,.agg #[.int .i64 (kx:Int),.bool xt],.agg #[.int .i64 (ky:Int),.bool yt]] y.w fun r w'=>r = .returned (.bool (fitsS c ⟨kx,xt⟩ ⟨ky,yt⟩))∧∃ z:Ext wr,w'=z.w):=fun y=>ext_call y (fits_ok _ c kx ky xt yt y.w (hCy.call y.h).cyl h0 hkx' hky')
         have w1n:IntKind.i64.wrap (((n+1:Nat):Int)-1)=n:=by rw [IntKind.wrap_i64]; omega
         have w1n':IntKind.i64.wrap ((n:Int)+1-1)=n:=by rw [IntKind.wrap_i64]; omega
         have hnl:(n:Int) < (l.length:Int):=by omega
         have hnl':(n:Int)+1 < (l.length:Int):=by omega
         clear c0 c1 e0 e1 hx1 hx2 hy1 hy2
         go_upto_region 21 with (fail)
         cases hs:fitsS c ⟨kx,xt⟩ ⟨ky,yt⟩
         ·rw [hs] at HA
          have HZ:Hid (checkJoin c l=18):=by
           rw [Hid,HE.out,if_pos]
           exact chain_not HX.out HY.out hs
          refine wp_region_ext (by kernel_rfl) (by kernel_rfl) ?_
          repeat (go_big_quiet_step ((go_at_call 64; with_reducible exact HA.out _)))
          refine wpQuiet_nil ?_
          intro _ hw'
          obtain ⟨xr,hw''⟩:=hw'
          subst hw''
          have hbz:=hBy.trans (xr.h.mono hBy.size)
          go_wp2
          go_ret
          exact ⟨by rw [HZ.out]; rfl,hbz⟩
         ·rw [hs] at HA
          have HN:Hid (∀ (i:Nat) (x y:St),i < n+1→l[i]? = some x→l[i+1]? = some y→fitsS c x y=true):=fun k a b hk ha hb=>by
           by_cases hkn:k=n
           ·subst hkn
            rw [HX.out] at ha
            rw [HY.out] at hb
            cases ha
            cases hb
            exact hs
           ·exact HALL.out k a b (by omega) ha hb
          refine wp_region_ext (by kernel_rfl) (by kernel_rfl) ?_
          repeat (go_big_quiet_step ((go_at_call 64; with_reducible exact HA.out _)))
          refine wpQuiet_nil ?_
          intro _ hw'
          obtain ⟨xr,hw''⟩:=hw'
          subst hw''
          have hbz:=hb.trans (xr.h.mono hb.size)
          go_wp2
          go_roundw
          case rel=>exact ⟨n+1,by omega,by go_num,hbz,HN.out⟩
          case measure=>(simp [intOf]; try omega)
        ·have d3:decide (n+1 < l.length)=false:=by simpa using hn1
         have d3':decide (((n+1:Nat):Int) < (l.length:Int))=false:=by simp; omega
         have d3'':decide ((n:Int)+1 < (l.length:Int))=false:=by simp; omega
         have HZ:Hid (checkJoin c l=0):=by
          rw [Hid,HE.out,if_neg]
          rw [chain_all fun i x y hx hy=>HALL.out i x y (by obtain ⟨h, -⟩:=List.getElem?_eq_some_iff.1 hy; omega) hx hy]
          simp
         go_wp2
         go_ret
         exact ⟨by rw [HZ.out]; rfl,hBy⟩
  ·have d1:((l.length:Int) != (c.pcs.length:Int))=true:=by simp; omega
   have HE:Hid (checkJoin c l=15):=by rw [Hid,checkJoin,if_neg (by simp [h0]),if_pos h1]
   go_wp2
   go_ret
   exact ⟨by rw [HE.out]; rfl,hB⟩
 ·have d0:(checkCyl c != 0)=true:=by simp [h0]
  have HE:Hid (checkJoin c l=checkCyl c):=by rw [Hid,checkJoin,if_pos h0]
  go_wp2_with fail
  refine (rcheckCyl_ok _ c w1 hC.cyl).mono ?_
  rintro e w2 ⟨rfl,hb2⟩
  replace hB:=hB.trans (hb2.mono hB.size)
  go_wp2
  go_ret
  exact ⟨by rw [HE.out]; rfl,hB⟩
end Go.Proofs.YtibmeigdjghkcaaGreat.J
