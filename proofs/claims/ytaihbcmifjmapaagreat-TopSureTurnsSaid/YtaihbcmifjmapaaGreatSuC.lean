/- Contract of the law TopSureTurns. -/
import Derived.Test.YtaihbcmifjmapaaGreatSuB
import Derived.Test.YtaihbcmifjmapaaGreatSuA
import Derived.Test.YtaihbcmifjmapaaGreatSpZ
import Derived.Test.YtaihbcmifjmapaaGreatSuP
import Derived.Test.YtaihbcmifjmapaaGreatWrk7P
namespace Go.Proofs.YtaihbcmifjmapaaGreat
open Go.RowKit Go.Shelf Sp
set_option linter.unusedVariables false
def thcell (x:Th):Nat→Value
 | 0 => .int .u8 x.1.val
 | 1 => .int .u8 x.2.1.val
 | _ => .int .u8 x.2.2.val
theorem slT_psg:SlT 32 37 3 24 (.agg #[.int .i64 0,.int .i64 0,.int .i64 0]):=⟨Tryz.underlying32,by kernel_rfl,rfl,by omega⟩
set_option maxRecDepth 100000 in
set_option maxHeartbeats 6400000 in
theorem topSure_ok (sv pv:Value) (T:Int) (l:List Ru) (wide:Fin 65536) (r:Ru) (ps:List Th) (long:Fin 256) (w:World) (hs:SheetV w w.heap.size sv T l) (hp:Arr w w.heap.size 3 pv ps thcell) :
  Calls Tryz.prog 3 #[sv,.int .u16 wide.val,.agg #[.int .i64 r.f,.int .i64 r.t,.int .i64 r.m],pv,.int .u8 long.val] w fun e w'=>e = .returned (.bool true)∧Below w.heap.size w w':=by
 obtain ⟨A0,sc,rfl,ha⟩:=hs
 obtain ⟨pA,pc,rfl, -⟩:=id hp
 obtain ⟨Bs,hBs⟩:∃ Bs,Bs=w.heap.size:=⟨_,rfl⟩
 rw [← hBs] at ha hp ⊢
 have hwd:=wide.isLt
 have hlg:=long.isLt
 obtain ⟨wd,hwv⟩:∃ wd:Int,((wide.val:Nat):Int)=wd:=⟨_,rfl⟩
 obtain ⟨lv,hlv⟩:∃ lv:Int,((long.val:Nat):Int)=lv:=⟨_,rfl⟩
 have hwd1:0≤wd∧wd≤65535:=by omega
 have hlg1:0≤lv∧lv≤255:=by omega
 rw [hwv,hlv]
 clear hwv hlv hwd hlg wide long
 go_enter Tryz.func3,Tryz.ntmps3
 go_upto_region 1 with (fail)
 have x5:=Blk.new w 24 #[.int .i64 T,.slice A0 l.length sc]
 have b1:=(Below.refl w.heap.size w).alloc (Nat.le_refl _) (.cells #[.int .i64 T,.slice A0 l.length sc] 24)
 have z1:(w.alloc (.cells #[.int .i64 T,.slice A0 l.length sc] 24)).heap.size=Bs+1:=by simp [hBs]
 rw [← hBs] at x5 b1
 have HBs:=Lib.hid hBs
 rw [← hBs]
 clear hBs
 generalize w.alloc (.cells #[.int .i64 T,.slice A0 l.length sc] 24)=W1 at *
 have x7:=Blk.new W1 27 #[.int .i64 r.f,.int .i64 r.t,.int .i64 r.m]
 have b2:=(Below.refl W1.heap.size W1).alloc (Nat.le_refl _) (.cells #[.int .i64 r.f,.int .i64 r.t,.int .i64 r.m] 27)
 have z2:(W1.alloc (.cells #[.int .i64 r.f,.int .i64 r.t,.int .i64 r.m] 27)).heap.size=Bs+2:=by simp [z1]
 replace x5:=x5.call b2
 have hB:=b1.trans (b2.mono (by omega))
 rw [z1] at x7
 try rw [z1]
 clear b1 b2 z1
 generalize W1.alloc (.cells #[.int .i64 r.f,.int .i64 r.t,.int .i64 r.m] 27)=W at *
 have p0:=x5.cell 0
 have p1:=x5.cell 1
 simp at p0 p1
 go_wp2_with fail
 refine (sheet03_ok _ T l W ⟨A0,sc,rfl,(ha.below hB).more (by omega)⟩).mono ?_
 rintro e w1 ⟨bb,rfl,hbb,hb1⟩
 replace x5:=x5.call hb1
 replace x7:=x7.call hb1
 have s1:Bs+2≤w1.heap.size:=by have:=hb1.size; omega
 replace hB:=hB.trans (hb1.mono (by omega))
 clear p0 p1 hb1 z2
 cases bb
 ·clear hbb x5 x7 hp ha
  go_wp2_with fail
  refine (w07_ok _).mono ?_
  rintro e wz ⟨rfl,hbz⟩
  have hBz:=hB.trans (hbz.mono (by omega))
  go_wp2
  go_ret
  exact ⟨rfl,hBz⟩
 ·obtain ⟨hT,hk,hf⟩:=hbb rfl
  obtain ⟨T,rfl⟩:∃ n:Nat,T=n:=⟨_,hT⟩
  simp only [Int.toNat_natCast] at hk hf
  clear hT hbb
  by_cases hps:ps.length≤12
  ·have hpi:¬ (12:Int) < (ps.length:Int):=by omega
   have HK:=Lib.hid hk
   have HF:=Lib.hid hf
   have h1T:=hk.t1
   have hT20:=hk.t20
   have hl60:=hk.few
   clear hk hf
   go_upto_region 3 with (fail)
   have p0:=x5.cell 0
   have p1:=x5.cell 1
   have q0:=x7.cell 0
   have q1:=x7.cell 1
   have q2:=x7.cell 2
   simp at p0 p1 q0 q1 q2
   have f0:=Ext.of p0
   have f1:=Ext.of p1
   have f2:=Ext.of q0
   have f3:=Ext.of q1
   have f4:=Ext.of q2
   clear p0 p1 q0 q1 q2
   refine ways_start 12 (fun w'=>∃ x:Ext w1,w'=x.w) (by rfl) (by kernel_rfl) ?_
   have hx:Below w1.heap.size w1 w1.drew:=(Below.refl w1.heap.size w1).drew
   obtain ⟨v0,hv0⟩:∃ v0,v0=w1.drew:=⟨_,rfl⟩
   rw [← hv0] at hx ⊢
   clear hv0
   refine ways_qr 0 (by rfl) (by rfl) (by kernel_rfl) (by kernel_rfl) (by kernel_rfl) (by rfl) ⟨⟨v0,hx⟩,rfl⟩ ?_
   intro K hK
   go_big_quiet_op
   go_big_quiet_on
   refine ways_qr 1 (by rfl) (by rfl) (by kernel_rfl) (by kernel_rfl) (by kernel_rfl) (by rfl) ⟨⟨v0,hx⟩,rfl⟩ ?_
   intro K hK
   go_big_quiet_op
   go_big_quiet_on
   refine ways_qr 3 (by rfl) (by rfl) (by kernel_rfl) (by kernel_rfl) (by kernel_rfl) (by rfl) ⟨⟨v0,hx⟩,rfl⟩ ?_
   intro K hK
   go_big_quiet_op
   go_big_quiet_on
   refine ways_qr 4 (by rfl) (by rfl) (by kernel_rfl) (by kernel_rfl) (by kernel_rfl) (by rfl) ⟨⟨v0,hx⟩,rfl⟩ ?_
   intro K hK
   go_big_quiet_op
   go_big_quiet_on
   refine ways_qr 6 (by rfl) (by rfl) (by kernel_rfl) (by kernel_rfl) (by kernel_rfl) (by rfl) ⟨⟨v0,hx⟩,rfl⟩ ?_
   intro K hK
   go_big_quiet_op
   go_big_quiet_on
   clear f0 f1 f2 f3 f4
   refine any_inv1 (SuJ w1 T l r) (by decide) ?init ?cls ?step ?fin
   case init=>exact ⟨false,false,false,false,false,false,false,rfl,undef,undef,undef,undef,undef,undef,0,0,rfl,SuF.init hx undef⟩
   case cls =>
    rintro ls a wq ⟨b2,b5,b7,b8,b9,b10,b11, -,v35,v38,v40,v41,v42,v11,g7,g10, -,hb⟩
    exact ⟨⟨wq,hb.bw⟩,rfl⟩
   case step =>
    rintro ls a wq i ⟨b2,b5,b7,b8,b9,b10,b11,rfl,v35,v38,v40,v41,v42,v11,g7,g10,rfl,HJ⟩ hi
    have key:=su_key (by decide +kernel) hi
    clear hi
    simp only [suChk,Bool.or_eq_true,Bool.and_eq_true,beq_iff_eq,Bool.not_eq_true'] at key
    replace HJ:=Lib.hid HJ
    rcases key with (((((⟨rfl,c2⟩ | ⟨⟨rfl,c5⟩,c2⟩) | ⟨rfl,c7⟩) | ⟨⟨⟨rfl,c8⟩,c5⟩,c7⟩) | ⟨⟨rfl,c9⟩,c8⟩) | ⟨rfl,c10⟩) | ⟨⟨⟨rfl,c11⟩,c9⟩,c10⟩
    ·refine ⟨_,_,(by rfl),(by rfl),?_⟩
     intro K' hK'
     have hn:=HJ.out.op2 c2
     replace hn:=Lib.hid hn
     clear HJ c2
     go_wp2
     exact hK' _ _ ⟨_,_,_,_,_,_,_,rfl,_,_,_,_,_,_,_,_,rfl,hn.out⟩
    ·refine ⟨_,_,(by rfl),(by rfl),?_⟩
     intro K' hK'
     have hown:=HJ.out.o35 c2 c5
     have hbw:=HJ.out.bw
     have har:=(ha.below (hB.trans (hbw.mono (by omega))))
     simp only [Act.put,List.setIfInBounds_toArray,List.set_cons_succ,List.set_cons_zero]
     refine wpList_appArrA slT_ru rfl (.tmp 35) (.tmp 37) rfl rfl hown rfl har (one_ru l) hbw.size ?_ ?_ ?_
     ·omega
     ·omega
     intro v' w' ho hb hg hat
     rw [Nat.zero_add,List.nil_append] at ho
     have hn:=Lib.hid (HJ.out.op5 c2 c5 ho hb hg hat)
     clear HJ hown hbw har ho hb hg hat c2 c5
     go_wp2
     exact hK' _ _ ⟨_,_,_,_,_,_,_,rfl,_,_,_,_,_,_,_,_,rfl,hn.out⟩
    ·refine ⟨_,_,(by rfl),(by rfl),?_⟩
     intro K' hK'
     have hn:=Lib.hid (HJ.out.op7 c7)
     clear HJ c7
     go_wp2
     exact hK' _ _ ⟨_,_,_,_,_,_,_,rfl,_,_,_,_,_,_,_,_,rfl,hn.out⟩
    ·refine ⟨_,_,(by rfl),(by rfl),?_⟩
     intro K' hK'
     have hown:=HJ.out.o38 c5 c8
     have hbw:=HJ.out.bw
     have hk7:=(HJ.out.k7 c7 c8).1
     obtain rfl:=HJ.out.e40 c7
     simp only [Act.put,List.setIfInBounds_toArray,List.set_cons_succ,List.set_cons_zero]
     refine wpList_appMA slT_ru rfl (.tmp 38) (.tmp 40) rfl (m:=1) rfl hown ⟨g7,0,none⟩ rfl ([r].flatMap (cellsOf 3 rucell)) (by rfl) ?_ (one_ru _) hbw.size ?_ ?_ ?_
     ·intro j u hu
      have e2:(⟨g7,0,none⟩:Addr).add j=⟨g7,j,none⟩:=by
       rcases j with _ | j
       ·rfl
       ·simp [Addr.add]
      rw [e2,hk7.cell j]
      have e3:[r].flatMap (cellsOf 3 rucell)=[.int .i64 r.f,.int .i64 r.t,.int .i64 r.m]:=rfl
      rw [e3] at hu
      simpa [ruA] using hu
     ·omega
     ·omega
     intro v' w' ho hb hg hat
     rw [← List.flatMap_append] at ho
     have hn:=Lib.hid (HJ.out.op8 c5 c7 c8 ho hb hg)
     clear HJ hown hbw hk7 ho hb hg hat c5 c7 c8
     go_wp2
     exact hK' _ _ ⟨_,_,_,_,_,_,_,rfl,_,_,_,_,_,_,_,_,rfl,hn.out⟩
    ·refine ⟨_,_,(by rfl),(by rfl),?_⟩
     intro K' hK'
     obtain ⟨A41,c41,rfl⟩:=own_form (HJ.out.o41 c8)
     have hn:=Lib.hid (HJ.out.op9 c8)
     clear HJ c8 c9
     go_wp2
     exact hK' _ _ ⟨_,_,_,_,_,_,_,rfl,_,_,_,_,_,_,_,_,rfl,hn.out⟩
    ·refine ⟨_,_,(by rfl),(by rfl),?_⟩
     intro K' hK'
     have hn:=Lib.hid (HJ.out.op10 c10)
     clear HJ c10
     go_wp2
     exact hK' _ _ ⟨_,_,_,_,_,_,_,rfl,_,_,_,_,_,_,_,_,rfl,hn.out⟩
    ·refine ⟨_,_,(by rfl),(by rfl),?_⟩
     intro K' hK'
     have hx:=HJ.out.k10 c10 c11
     obtain ⟨A41,c41,rfl⟩:=own_form (HJ.out.o41 (HJ.out.n9 c9))
     obtain rfl:=HJ.out.e42 c9
     obtain ⟨rfl, -⟩:=HJ.out.e11 c10
     have hn:=Lib.hid (HJ.out.op11 c9 c10 c11)
     have k0:=hx.cell 0
     have k1:=hx.cell 1
     have z0:=hx.frozen 0
     have z1:=hx.frozen 1
     simp at k0 k1
     clear HJ hx c9 c10 c11
     go_wp2
     exact hK' _ _ ⟨_,_,_,_,_,_,_,rfl,_,_,_,_,_,_,_,_,rfl,hn.out⟩
   case fin =>
    rintro ls a wq ⟨b2,b5,b7,b8,b9,b10,b11,rfl,v35,v38,v40,v41,v42,v11,g7,g10,rfl,HJ⟩ hr
    obtain rfl:=su_end (by decide +kernel) hr
    clear hr
    obtain ⟨c9,c10⟩:=HJ.n11 rfl
    have c8:=HJ.n9 c9
    have hxo:=HJ.o41 c8
    obtain ⟨A41,c41,rfl⟩:=own_form hxo
    obtain rfl:=HJ.e42 c9
    obtain ⟨rfl,hg10⟩:=HJ.e11 c10
    have x11:=HJ.k11 rfl
    have hbw:=HJ.bw
    have hxl:(l++[r]).length=l.length+1:=by simp
    have hxa:Arr wq wq.heap.size 3 (.slice A41 (l.length+1) c41) (l++[r]) rucell:=by
     rw [← hxl] at hxo ⊢
     exact Arr.of_own hxo
    simp only [Act.put,List.setIfInBounds_toArray,List.set_cons_succ,List.set_cons_zero]
    replace x5:=x5.call hbw
    replace hB:=hB.trans (hbw.mono (by omega))
    have s2:Bs+2≤wq.heap.size:=by have:=hbw.size; omega
    clear HJ hxo c8 c9 c10 hbw x7 hx hg10
    have p0:=x5.cell 0
    simp at p0
    have hTpos:(0:Int) < (T:Int):=by omega
    have hm1:=Int.emod_nonneg lv (by omega:(T:Int)≠0)
    have hm2:=Int.emod_lt_of_pos lv hTpos
    have htm:lv.tmod (T:Int)=lv % (T:Int):=Int.tmod_eq_emod_of_nonneg (by omega)
    have wl1:IntKind.i64.wrap (lv % (T:Int))=lv % (T:Int):=wrap_id _ (by omega) (by omega)
    have wl2:IntKind.i64.wrap (1+lv % (T:Int))=1+lv % (T:Int):=wrap_id _ (by omega) (by omega)
    have wl3:IntKind.i64.wrap lv=lv:=wrap_id _ (by omega) (by omega)
    have dT:((T:Int)==0)=false:=by rw [beq_eq_false_iff_ne]; omega
    have f0:=Ext.of p0
    have hxd:Below wq.heap.size wq wq.drew:=(Below.refl _ wq).drew
    go_upto_region 4 with (fail)
    refine wp_region_schedW (C:=fun w'=>∃ x:Ext wq,w'=x.w) [(0,true),(1,true),(2,true),(3,true),(4,true),(5,true),(6,true),(7,true),(8,true),(9,false),(10,false)] (by kernel_rfl) (by kernel_rfl) ⟨⟨wq.drew,hxd⟩,rfl⟩ ?_
    refine sched_q (by rfl) (by rfl) ?_
    intro K hK
    go_big_quiet_op
    go_big_quiet_on
    refine sched_q (by rfl) (by rfl) ?_
    intro K hK
    go_big_quiet_op
    go_big_quiet_on
    refine sched_q (by rfl) (by rfl) ?_
    intro K hK
    go_big_quiet_op
    go_big_quiet_on
    refine sched_q (by rfl) (by rfl) ?_
    intro K hK
    go_big_quiet_op
    go_big_quiet_on
    refine sched_q (by rfl) (by rfl) ?_
    intro K hK
    go_big_quiet_op
    go_big_quiet_on
    refine sched_q (by rfl) (by rfl) ?_
    intro K hK
    go_big_quiet_op
    go_big_quiet_on
    refine sched_q (by rfl) (by rfl) ?_
    intro K hK
    go_big_quiet_op
    go_big_quiet_on
    refine sched_q (by rfl) (by rfl) ?_
    intro K hK
    go_big_quiet_op
    go_big_quiet_on
    refine sched_q (by rfl) (by rfl) ?_
    intro K hK
    go_big_quiet_op
    go_big_quiet_on
    clear f0 p0
    have hbz:=(Below.refl wq.heap.size wq.drew).alloc hxd.size (.cells #[.int .i64 0,.int .i64 0,.int .i64 0,.slice none 0 0,.slice none 0 0] 34)
    have hz:=Blk.new wq.drew 34 #[.int .i64 0,.int .i64 0,.int .i64 0,.slice none 0 0,.slice none 0 0]
    have hby:=hxd.trans hbz
    refine sched_c (by rfl) (by rfl) ?_
    intro K hK
    go_wp2
    refine hK _ _ ⟨.inr ⟨⟨_,hby⟩,rfl⟩,?_⟩
    clear hK K hbz hxd
    refine sched_c (by rfl) (by rfl) ?_
    intro K hK
    have hsz:wq.drew.heap.size=wq.heap.size:=rfl
    rw [hsz] at hz
    obtain ⟨g12,hg12⟩:∃ g12,g12=wq.heap.size:=⟨_,rfl⟩
    have hzl:=hz.lt
    change wpList _ _ _ _ _ (wq.drew.alloc (.cells #[.int .i64 0,.int .i64 0,.int .i64 0,.slice none 0 0,.slice none 0 0] 34))
    rw [← hg12] at hz hzl ⊢
    clear hsz
    generalize wq.drew.alloc (.cells #[.int .i64 0,.int .i64 0,.int .i64 0,.slice none 0 0,.slice none 0 0] 34)=wc at *
    have z0:=hz.cell 0
    have z1:=hz.cell 1
    have z2:=hz.cell 2
    have z3:=hz.cell 3
    have z4:=hz.cell 4
    have y0:=hz.frozen 0
    have y1:=hz.frozen 1
    have y2:=hz.frozen 2
    have y3:=hz.frozen 3
    have y4:=hz.frozen 4
    simp at z0 z1 z2 z3 z4
    have HG12:=Lib.hid hg12
    clear hg12
    go_wp2
    refine hK _ _ ⟨(by first | exact .inl rfl | exact .inl trivial),?_⟩
    clear hK K
    refine sched_nil ?_
    have hz2:=((((hz.set_ 0 (.int .i64 T)).set_ 1 (.int .i64 (1+lv % (T:Int)))).set_ 2 (.int .i64 6)).set_ 3 (.slice none 0 0)).set_ 4 (.slice none 0 0)
    simp at hz2
    have hgq:wq.heap.size≤g12:=by rw [HG12.out]; exact Nat.le_refl _
    have hbm:=((((hby.setCell (p:=⟨g12,0,none⟩) hgq (.int .i64 T)).setCell (p:=⟨g12,1,none⟩) hgq (.int .i64 (1+lv % (T:Int)))).setCell (p:=⟨g12,2,none⟩) hgq (.int .i64 6)).setCell (p:=⟨g12,3,none⟩) hgq (.slice none 0 0)).setCell (p:=⟨g12,4,none⟩) hgq (.slice none 0 0)
    clear hz hby y0 y1 y2 y3 y4 z0 z1 z2 z3 z4 hzl wl1 wl2 wl3 htm
    generalize ((((wc.setCell ⟨g12,0,none⟩ (.int .i64 T)).setCell ⟨g12,1,none⟩ (.int .i64 (1+lv % (T:Int)))).setCell ⟨g12,2,none⟩ (.int .i64 6)).setCell ⟨g12,3,none⟩ (.slice none 0 0)).setCell ⟨g12,4,none⟩ (.slice none 0 0)=wm at *
    have hlong:1≤1+lv % (T:Int)∧1+lv % (T:Int)≤T:=by omega
    obtain ⟨lg,hlgd⟩:∃ lg,lg=1+lv % (T:Int):=⟨_,rfl⟩
    rw [← hlgd] at hz2 hlong ⊢
    have HLG:=Lib.hid hlgd
    have hm12:=hz2.lt
    clear hlgd hm1 hm2
    go_upto_region 6 with (fail)
    go_loopw [13] (fun i wr=>∃ (k:Nat) (A:Option Addr) (cap:Nat),k≤ps.length∧i = .int .i64 k∧Blk wr g12 34 #[.int .i64 T,.int .i64 lg,.int .i64 6,.slice none 0 0,.slice A k cap]∧wr.ownsRow wm.heap.size 37 3 (.slice A k cap) k (((ps.take k).map (pasTh T)).flatMap (cellsOf 3 pcell))∧wm.heap.size≤wr.heap.size∧Below wq.heap.size wq wr) (fun i _=>ps.length-(intOf i).toNat)
    case atStart=>exact ⟨0,none,0,Nat.zero_le _,rfl,hz2,World.ownsRow_nil _ _ _ _,Nat.le_refl _,hbm⟩
    case round =>
     clear hz2 hbm
     obtain ⟨k,A,cap,hk,rfl,hz2,hown,hzr,hbr⟩:=hrel
     have hpr:Arr wr Bs 3 (.slice pA ps.length pc) ps thcell:=hp.below (hB.trans (hbr.mono (by omega)))
     by_cases hlt:k < ps.length
     ·have hki:(k:Int) < (ps.length:Int):=by omega
      obtain ⟨b,off,x,rfl,hBb,hxk,hcc⟩:=hpr.at_ hlt
      have c0:=hcc 0 (by omega)
      have c1:=hcc 1 (by omega)
      have c2:=hcc 2 (by omega)
      simp only [Nat.add_zero,thcell] at c0 c1 c2
      have HTK:Hid ((ps.take (k+1)).map (pasTh T)=(ps.take k).map (pasTh T)++[pasTh T x]):=by
       rw [Hid,List.take_add_one,hxk,List.map_append]
       rfl
      obtain ⟨xa,xb,xw⟩:=x
      have i1:=xa.isLt
      have i2:=xb.isLt
      have i3:=xw.isLt
      obtain ⟨na,hna⟩:∃ na:Int,na=(xa.val:Int):=⟨_,rfl⟩
      obtain ⟨nb,hnb⟩:∃ nb:Int,nb=(xb.val:Int):=⟨_,rfl⟩
      obtain ⟨nw,hnw⟩:∃ nw:Int,nw=(xw.val:Int):=⟨_,rfl⟩
      have HPT:Hid (pasTh T (xa,xb,xw)=⟨min (na % (T:Int)) (nb % (T:Int)),max (na % (T:Int)) (nb % (T:Int)),nw⟩):=by rw [Hid,hna,hnb,hnw]; rfl
      dsimp only at c0 c1 c2
      rw [← hna] at c0
      rw [← hnb] at c1
      rw [← hnw] at c2
      have j1:0≤na∧na < 256:=by omega
      have j2:0≤nb∧nb < 256:=by omega
      have j3:0≤nw∧nw < 256:=by omega
      clear hna hnb hnw i1 i2 i3 hcc hxk hpr
      have m1:=Int.emod_nonneg na (by omega:(T:Int)≠0)
      have m2:=Int.emod_lt_of_pos na hTpos
      have m3:=Int.emod_nonneg nb (by omega:(T:Int)≠0)
      have m4:=Int.emod_lt_of_pos nb hTpos
      have ta:na.tmod (T:Int)=na % (T:Int):=Int.tmod_eq_emod_of_nonneg (by omega)
      have tb:nb.tmod (T:Int)=nb % (T:Int):=Int.tmod_eq_emod_of_nonneg (by omega)
      have wa:IntKind.i64.wrap (na % (T:Int))=na % (T:Int):=wrap_id _ (by omega) (by omega)
      have wb:IntKind.i64.wrap (nb % (T:Int))=nb % (T:Int):=wrap_id _ (by omega) (by omega)
      have wa1:IntKind.i64.wrap na=na:=wrap_id _ (by omega) (by omega)
      have wb1:IntKind.i64.wrap nb=nb:=wrap_id _ (by omega) (by omega)
      have ww1:IntKind.i64.wrap nw=nw:=wrap_id _ (by omega) (by omega)
      have x5r:=x5.call hbr
      have p0:=x5r.cell 0
      simp at p0
      have f0:=Ext.of p0
      have f1:=Ext.of c0
      have f2:=Ext.of c1
      have s3:=hbr.size
      go_upto_region 8 with (fail)
      refine wp_region_ext (by kernel_rfl) (by kernel_rfl) ?_
      repeat (go_big_quiet_step (fail))
      refine wpQuiet_nil ?_
      intro _ hw'
      obtain ⟨xr,hw''⟩:=hw'
      subst hw''
      have hz3:=hz2.call xr.h
      have hown3:=own_call hown xr.h
      have hzr3:=Nat.le_trans hzr xr.h.size
      have hbr3:=hbr.trans (xr.h.mono (by omega))
      have c3:=(xr.h.cell (p:=⟨b,off+k * 3+2,none⟩) (by show b < wr.heap.size; omega)).trans c2
      clear f0 f1 f2 p0 c0 c1 c2 x5r hz2 hown hzr hbr ta tb wa wb wa1 wb1
      obtain ⟨wv,hwv⟩:∃ wv:World,wv=xr.w:=⟨_,rfl⟩
      rw [← hwv] at hz3 hown3 hzr3 hbr3 c3 ⊢
      clear hwv xr s3
      generalize na % (T:Int)=ma at *
      generalize nb % (T:Int)=mb at *
      have k4:=hz3.cell 4
      simp at k4
      have hF:∃ F:World→Prop,(∀ w',F w'↔(w'.cell? ⟨g12,4,none⟩=some (.slice A k cap)∧w'.cell? ⟨b,off+k * 3+2,none⟩=some (.int .u8 nw))):=⟨_,fun _=>Iff.rfl⟩
      obtain ⟨F,hF⟩:=hF
      have hF0:F wv:=(hF wv).2 ⟨k4,c3⟩
      haveI hne:Nonempty (SubW F):=⟨⟨wv,hF0⟩⟩
      have f0:∀ y:SubW F,y.w.cell? ⟨g12,4,none⟩=some (.slice A k cap):=fun y=>((hF y.w).1 y.h).1
      have f1:∀ y:SubW F,y.w.cell? ⟨b,off+k * 3+2,none⟩=some (.int .u8 nw):=fun y=>((hF y.w).1 y.h).2
      have hFd:F wv.drew:=(hF _).2 ⟨k4,c3⟩
      have HFF:=Lib.hid hF
      clear hF k4
      go_upto_region 9 with (fail)
      refine wp_region_schedV (C:=fun w'=>∃ y:SubW F,w'=y.w) [(0,true),(1,true),(2,true),(3,true),(4,true),(5,true),(6,true),(7,true),(8,true),(9,true),(10,true),(11,true),(12,true),(13,true),(14,false),(15,false),(16,false),(17,false),(18,false)] (by kernel_rfl) (by kernel_rfl) ⟨⟨wv.drew,hFd⟩,rfl⟩ ?_
      refine sched_q (by rfl) (by rfl) ?_
      intro K hK
      go_big_quiet_op
      go_big_quiet_on
      refine sched_q (by rfl) (by rfl) ?_
      intro K hK
      go_big_quiet_op
      go_big_quiet_on
      refine sched_q (by rfl) (by rfl) ?_
      intro K hK
      go_big_quiet_op
      go_big_quiet_on
      refine sched_q (by rfl) (by rfl) ?_
      intro K hK
      go_big_quiet_op
      go_big_quiet_on
      refine sched_q (by rfl) (by rfl) ?_
      intro K hK
      go_big_quiet_op
      go_big_quiet_on
      refine sched_q (by rfl) (by rfl) ?_
      intro K hK
      go_big_quiet_op
      go_big_quiet_on
      refine sched_q (by rfl) (by rfl) ?_
      intro K hK
      go_big_quiet_op
      go_big_quiet_on
      refine sched_q (by rfl) (by rfl) ?_
      intro K hK
      go_big_quiet_op
      go_big_quiet_on
      refine sched_q (by rfl) (by rfl) ?_
      intro K hK
      go_big_quiet_op
      go_big_quiet_on
      refine sched_q (by rfl) (by rfl) ?_
      intro K hK
      go_big_quiet_op
      go_big_quiet_on
      refine sched_q (by rfl) (by rfl) ?_
      intro K hK
      go_big_quiet_op
      go_big_quiet_on
      refine sched_q (by rfl) (by rfl) ?_
      intro K hK
      go_big_quiet_op
      go_big_quiet_on
      refine sched_q (by rfl) (by rfl) ?_
      intro K hK
      go_big_quiet_op
      go_big_quiet_on
      refine sched_q (by rfl) (by rfl) ?_
      intro K hK
      go_big_quiet_op
      go_big_quiet_on
      clear f0 f1
      refine sched_c (by rfl) (by rfl) ?_
      intro K hK
      go_wp2_with fail
      refine (pasg_ok _ _ _ wv.drew).mono ?_
      rintro e w5 ⟨rfl,hb5⟩
      have hFb:∀ {v':World},Below wv.heap.size wv v'→F v':=fun hb=>by
       obtain ⟨d0,d1⟩:=(HFF.out _).1 hF0
       exact (HFF.out _).2 ⟨(hb.cell (p:=⟨g12,4,none⟩) (by have:=hz3.lt; exact this)).trans d0,(hb.cell (p:=⟨b,off+k * 3+2,none⟩) (by show b < wv.heap.size; omega)).trans d1⟩
      have hb6:Below wv.heap.size wv w5:=((Below.refl wv.heap.size wv).drew).trans hb5
      go_wp2
      refine hK _ _ ⟨.inr ⟨⟨w5,hFb hb6⟩,rfl⟩,?_⟩
      clear hK K hb5
      refine sched_c (by rfl) (by rfl) ?_
      intro K hK
      go_wp2
      refine hK _ _ ⟨.inr ⟨⟨_,hFb (hb6.alloc hb6.size _)⟩,rfl⟩,?_⟩
      clear hK K
      have hz5:=hz3.call hb6
      have hown5:=own_call hown3 hb6
      have hzr5:=Nat.le_trans hzr3 hb6.size
      have hbr5:=hbr3.trans (hb6.mono (by have:=hbr3.size; omega))
      clear hz3 hown3 hzr3 hbr3
      refine sched_c (by rfl) (by rfl) ?_
      intro K hK
      refine wpList_app2 slT_psg rfl (.tmp 77) (.tmp 91) rfl rfl hown5 rfl rfl one_3 hzr5 ?_ ?_ ?_
      ·omega
      ·omega
      intro v' w6 hown6 hg6 hat
      obtain ⟨A6,c6,rfl⟩:=own_form hown6
      have hne1:some g12≠(Value.slice A k cap).ownBlock:=own_blk_ne hown5 hz5 (by decide)
      have hz6:=hz5.grown hg6 hne1
      have hlo:∀ q,(Value.slice A k cap).ownBlock=some q→wm.heap.size≤q:=fun q e=>(own_cellz hown5 e).1
      have hF6:F w6:=by
       obtain ⟨d0,d1⟩:=(HFF.out _).1 (hFb hb6)
       have hwq:=hbr5.size
       exact (HFF.out _).2 ⟨(World.cell?_of_block (hg6.block g12 hz5.lt hne1)).trans d0,(World.cell?_of_block (hg6.block b (by omega) fun e=>by have:=hlo b e.symm; omega)).trans d1⟩
      have hown7:w6.ownsRow wm.heap.size 37 3 (.slice A6 (k+1) c6) (k+1) (((ps.take (k+1)).map (pasTh T)).flatMap (cellsOf 3 pcell)):=by
       rw [HTK.out,List.flatMap_append,HPT.out]
       exact hown6
      have hbr6:=below_row hbr5 hg6 hbr5.size fun q e=>by have:=hlo q e; omega
      have hzr6:=Nat.le_trans hzr5 hg6.size
      clear hown6 hown5 hz5 hbr5 hzr5 hg6 hat hFb hb6 hne1 hlo
      go_wp2
      refine hK _ _ ⟨.inr ⟨⟨w6,hF6⟩,rfl⟩,?_⟩
      clear hK K
      refine sched_c (by rfl) (by rfl) ?_
      intro K hK
      go_wp2
      refine hK _ _ ⟨.inr ⟨⟨w6,hF6⟩,rfl⟩,?_⟩
      clear hK K
      refine sched_c (by rfl) (by rfl) ?_
      intro K hK
      have y0:=hz6.frozen 4
      have y1:=hz6.cell 4
      simp at y1
      go_wp2
      refine hK _ _ ⟨(by first | exact .inl rfl | exact .inl trivial),?_⟩
      clear hK K
      refine sched_nil ?_
      have hz7:=hz6.set_ 4 (.slice A6 (k+1) c6)
      simp at hz7
      have hown8:=hown7.kept (grown_setCell (g:=g12) (o:=4) (.slice A6 (k+1) c6)) (.inr fun e=>own_blk_ne hown7 hz6 (by decide) e.symm)
      have hbr7:=hbr6.setCell (p:=⟨g12,4,none⟩) hgq (.slice A6 (k+1) c6)
      have hzr7:wm.heap.size≤(w6.setCell ⟨g12,4,none⟩ (.slice A6 (k+1) c6)).heap.size:=by simp; omega
      clear hown7 hz6 hbr6 hzr6 hF6 hF0 hFd HFF y0 y1 c3
      generalize w6.setCell ⟨g12,4,none⟩ (.slice A6 (k+1) c6)=w7 at *
      go_wp2
      go_roundw
      case rel=>exact ⟨k+1,A6,c6,by omega,by go_num,hz7,hown8,hzr7,hbr7⟩
      case measure=>(simp [intOf]; try omega)
     ·obtain rfl:k=ps.length:=by omega
      rw [List.take_length] at hown
      obtain ⟨c,hc⟩:∃ c,c=cylTh T lv ps:=⟨_,rfl⟩
      have hcT:c.turns=T:=by rw [hc]; rfl
      have hcL:c.long=lg:=by rw [hc,HLG.out]; rfl
      have hc6:c.plays=6:=by rw [hc]; rfl
      have hcp:c.pas=ps.map (pasTh T):=by rw [hc]; rfl
      have hc0:checkCyl (withF c [])=0:=by rw [hc]; exact cylTh_ok (by omega) (by omega) hps
      have hpl:c.pas.length=ps.length:=by rw [hcp,List.length_map]
      rw [← hcp,← hpl] at hown
      rw [← hpl] at hz2
      have hS:SuS w wr Bs g10 g12 T lg l r A0 sc A41 c41 A cap c.pas :=
       ⟨x5.call hbr,x11.call hbr,hz2,(ha.below (hB.trans (hbr.mono (by omega)))).more (by have:=hbr.size; omega),(hxa.below hbr).more hbr.size,Arr.of_own hown,hB.trans (hbr.mono (by omega)),by have:=hbr.size; omega⟩
      have hki:¬ ((ps.length:Int) < (ps.length:Int)):=by omega
      rw [← hpl]
      have htK:tK (withF c [])=6:=by unfold tK withF; rw [hc6]; rfl
      have HLA:Hid (∀ wide j,j≤6→mostK (withF c (fragS T l wide)) j≤mostK (withF c []) j):=fun wide j hj=>law_all hc0 hcT (by unfold tK; rw [hc6]; exact hj)
      have HC0:=Lib.hid hc0
      have hSB:=hS.sz
      clear hc hcp hpl hown hz2 x5 x11 hxa ha hp hB hbr hlt hk hc0 hzr hpr
      obtain ⟨k0,k1,k2,k3,k4⟩:=hS.c5
      obtain ⟨p0,p1⟩:=hS.cs
      obtain ⟨q0,q1⟩:=hS.cx
      have hC:CylV wr wr.heap.size (.agg #[.int .i64 T,.int .i64 lg,.int .i64 6,.slice none 0 0,.slice A c.pas.length cap]) (withF c []):=⟨.slice none 0 0,.slice A c.pas.length cap,by rw [← hcT,← hcL,← hc6]; rfl,Arr.nil_,hS.sp⟩
      have hwo:=worths_ok _ _ wr hC
      unfold WorthsPost at hwo
      rw [HC0.out] at hwo
      clear hC
      go_wp2_with fail
      refine hwo.mono ?_
      rintro e w2 ⟨av,rfl,hav,hb2⟩
      obtain ⟨ab,ao,ac,rfl,hA⟩:=lst_of hav HC0.out hc6
      clear hwo hav
      replace hS:=hS.call hb2
      replace hSB:=hS.sz
      clear k0 k1 k2 k3 k4 p0 p1 q0 q1 hb2
      obtain ⟨k0,k1,k2,k3,k4⟩:=hS.c5
      obtain ⟨p0,p1⟩:=hS.cs
      obtain ⟨q0,q1⟩:=hS.cx
      have hw1:IntKind.i64.wrap wd=wd:=wrap_id _ (by omega) (by omega)
      have hsu:=sure_ok T l c wd (.agg #[.int .i64 T,.slice A0 l.length sc]) A cap w2 HK.out HF.out HC0.out hcT hc6 ⟨A0,sc,rfl,hS.sl⟩ hS.sp
      rw [hcL] at hsu
      go_wp2_with fail
      refine hsu.mono ?_
      rintro e w3 ⟨bv,rfl,hbv,hb3⟩
      rw [widT_frag] at hbv
      obtain ⟨bb,bo,bc,rfl,hBL⟩:=lst_of hbv (fragS_ok T l wd HC0.out hcT) hc6
      replace hA:=hA.call hb3
      clear hsu hbv
      replace hS:=hS.call hb3
      replace hSB:=hS.sz
      clear k0 k1 k2 k3 k4 p0 p1 q0 q1 hb3
      obtain ⟨k0,k1,k2,k3,k4⟩:=hS.c5
      obtain ⟨p0,p1⟩:=hS.cs
      obtain ⟨q0,q1⟩:=hS.cx
      go_upto_region 15 with (fail)
      go_loopw [20] (fun i wr=>∃ j:Nat,j≤7∧i = .int .i64 j∧SuS w wr Bs g10 g12 T lg l r A0 sc A41 c41 A cap c.pas∧LstB wr ab ao (mostK (withF c []))∧LstB wr bb bo (mostK (withF c (fragS T l wd)))) (fun i _=>7-(intOf i).toNat)
      case atStart=>exact ⟨0,by omega,rfl,hS,hA,hBL⟩
      case round =>
       clear hS hA hBL hSB k0 k1 k2 k3 k4 p0 p1 q0 q1
       obtain ⟨j,hj,rfl,hS,hA,hBL⟩:=hrel
       have hSB:=hS.sz
       by_cases hlj:j < 7
       ·have hji:(j:Int) < 7:=by omega
        have e0:=hA.cell j (by omega)
        have e1:=hBL.cell j (by omega)
        have hle:=HLA.out wd j (by omega)
        have f0:=Ext.of e0
        have f1:=Ext.of e1
        generalize mostK (withF c []) j=xa at *
        generalize mostK (withF c (fragS T l wd)) j=xb at *
        have d1:decide (xa < xb)=false:=decide_eq_false (by omega)
        clear e0 e1
        go_upto_region 17 with (fail)
        refine wp_region_ext (by kernel_rfl) (by kernel_rfl) ?_
        repeat (go_big_quiet_step (fail))
        refine wpQuiet_nil ?_
        intro _ hw'
        obtain ⟨xr,hw''⟩:=hw'
        subst hw''
        have hS2:=hS.call xr.h
        have hA2:=hA.call xr.h
        have hBL2:=hBL.call xr.h
        clear f0 f1 hS hA hBL hle
        go_wp2
        go_roundw
        case rel=>exact ⟨j+1,by omega,by go_num,hS2,hA2,hBL2⟩
        case measure=>(simp [intOf]; try omega)
       ·obtain rfl:j=7:=by omega
        simp only [show ((7:Nat):Int)=7 from rfl]
        obtain ⟨k0,k1,k2,k3,k4⟩:=hS.c5
        obtain ⟨p0,p1⟩:=hS.cs
        obtain ⟨q0,q1⟩:=hS.cx
        have hsu:=sure_ok T l c 100000 (.agg #[.int .i64 T,.slice A0 l.length sc]) A cap _ HK.out HF.out HC0.out hcT hc6 ⟨A0,sc,rfl,hS.sl⟩ hS.sp
        rw [hcL] at hsu
        clear hlj hj
        go_wp2_with fail
        refine hsu.mono ?_
        rintro e w4 ⟨cv,rfl,hcv,hb4⟩
        rw [widT_frag,fragS_wide HK.out (span_ex HK.out HF.out)] at hcv
        obtain ⟨cb,co,cc,rfl,hCL⟩:=lst_of hcv HC0.out hc6
        replace hA:=hA.call hb4
        replace hBL:=hBL.call hb4
        clear hsu hcv
        replace hS:=hS.call hb4
        replace hSB:=hS.sz
        clear k0 k1 k2 k3 k4 p0 p1 q0 q1 hb4
        obtain ⟨k0,k1,k2,k3,k4⟩:=hS.c5
        obtain ⟨p0,p1⟩:=hS.cs
        obtain ⟨q0,q1⟩:=hS.cx
        have e0:=hA.cell 6 (by omega)
        have e1:=hCL.cell 6 (by omega)
        have f0:=Ext.of e0
        have f1:=Ext.of e1
        have hAl:=hA.lt
        have hCl:=hCL.lt
        clear e0 e1
        go_upto_region 20 with (fail)
        clear k0 k1 k2 k3 k4 p0 p1 q0 q1
        refine wp_region_ext (by kernel_rfl) (by kernel_rfl) ?_
        repeat (go_big_quiet_step (fail))
        refine wpQuiet_nil ?_
        intro _ hw'
        obtain ⟨xr,hw''⟩:=hw'
        subst hw''
        replace hS:=hS.call xr.h
        replace hA:=hA.call xr.h
        replace hBL:=hBL.call xr.h
        clear f0 f1 hCL hSB hAl hCl
        generalize xr.w=w5 at *
        have hSB:=hS.sz
        obtain ⟨k0,k1,k2,k3,k4⟩:=hS.c5
        obtain ⟨p0,p1⟩:=hS.cs
        obtain ⟨q0,q1⟩:=hS.cx
        have hSX:SheetV w5 w5.heap.size (.agg #[.int .i64 T,.slice A41 (l.length+1) c41]) T (l++[r]):=⟨A41,c41,by rw [hxl],by rw [hxl]; exact hS.sx⟩
        go_wp2_with fail
        refine (sheet03_ok _ (T:Int) (l++[r]) w5 hSX).mono ?_
        rintro e w6 ⟨bz,rfl,hbz,hb6⟩
        replace hA:=hA.call hb6
        replace hBL:=hBL.call hb6
        clear hSX
        replace hS:=hS.call hb6
        replace hSB:=hS.sz
        clear k0 k1 k2 k3 k4 p0 p1 q0 q1 hb6
        obtain ⟨k0,k1,k2,k3,k4⟩:=hS.c5
        obtain ⟨p0,p1⟩:=hS.cs
        obtain ⟨q0,q1⟩:=hS.cx
        cases bz
        ·have hB:=hS.bw
         clear hS hA hBL hbz
         go_wp2_with fail
         refine (w07_ok _).mono ?_
         rintro e wz ⟨rfl,hbz⟩
         have hBz:=hB.trans (hbz.mono (by omega))
         go_wp2
         go_ret
         exact ⟨rfl,hBz⟩
        ·obtain ⟨-,hkx,hfx⟩:=hbz rfl
         simp only [Int.toNat_natCast] at hkx hfx
         have HKX:=Lib.hid hkx
         have HFX:=Lib.hid hfx
         have HLM:Hid (∀ j,j≤6→mostK (withF c (fragS T l wd)) j≤mostK (withF c (fragS T (l++[r]) wd)) j):=fun j hj=>law_more HC0.out hcT (span_ex HK.out HF.out) (span_ex hkx hfx) (by unfold tK; rw [hc6]; exact hj)
         clear hkx hfx hbz
         have hsu:=sure_ok T (l++[r]) c wd (.agg #[.int .i64 T,.slice A41 (l.length+1) c41]) A cap w6 HKX.out HFX.out HC0.out hcT hc6 ⟨A41,c41,by rw [hxl],by rw [hxl]; exact hS.sx⟩ hS.sp
         rw [hcL] at hsu
         go_wp2_with fail
         refine hsu.mono ?_
         rintro e w7 ⟨cv,rfl,hcv,hb7⟩
         rw [widT_frag] at hcv
         obtain ⟨xb,xo,xc,rfl,hXL⟩:=lst_of hcv (fragS_ok T (l++[r]) wd HC0.out hcT) hc6
         replace hBL:=hBL.call hb7
         clear hsu hcv hA
         replace hS:=hS.call hb7
         replace hSB:=hS.sz
         clear k0 k1 k2 k3 k4 p0 p1 q0 q1 hb7
         obtain ⟨k0,k1,k2,k3,k4⟩:=hS.c5
         obtain ⟨p0,p1⟩:=hS.cs
         obtain ⟨q0,q1⟩:=hS.cx
         go_upto_region 28 with (fail)
         go_loopw [23] (fun i wr=>∃ j:Nat,j≤7∧i = .int .i64 j∧SuS w wr Bs g10 g12 T lg l r A0 sc A41 c41 A cap c.pas∧LstB wr xb xo (mostK (withF c (fragS T (l++[r]) wd)))∧LstB wr bb bo (mostK (withF c (fragS T l wd)))) (fun i _=>7-(intOf i).toNat)
         case atStart=>exact ⟨0,by omega,rfl,hS,hXL,hBL⟩
         case round =>
          clear hS hXL hBL hSB k0 k1 k2 k3 k4 p0 p1 q0 q1
          obtain ⟨j,hj,rfl,hS,hXL,hBL⟩:=hrel
          have hSB:=hS.sz
          by_cases hlj:j < 7
          ·have hji:(j:Int) < 7:=by omega
           have e0:=hXL.cell j (by omega)
           have e1:=hBL.cell j (by omega)
           have hle:=HLM.out j (by omega)
           have f0:=Ext.of e0
           have f1:=Ext.of e1
           generalize mostK (withF c (fragS T (l++[r]) wd)) j=xa at *
           generalize mostK (withF c (fragS T l wd)) j=xb' at *
           have d1:decide (xa < xb')=false:=decide_eq_false (by omega)
           clear e0 e1
           go_upto_region 30 with (fail)
           refine wp_region_ext (by kernel_rfl) (by kernel_rfl) ?_
           repeat (go_big_quiet_step (fail))
           refine wpQuiet_nil ?_
           intro _ hw'
           obtain ⟨xr,hw''⟩:=hw'
           subst hw''
           have hS2:=hS.call xr.h
           have hX2:=hXL.call xr.h
           have hBL2:=hBL.call xr.h
           clear f0 f1 hS hXL hBL hle
           go_wp2
           go_roundw
           case rel=>exact ⟨j+1,by omega,by go_num,hS2,hX2,hBL2⟩
           case measure=>(simp [intOf]; try omega)
          ·obtain rfl:j=7:=by omega
           have hB:=hS.bw
           clear hS hXL hBL
           go_wp2_with fail
           refine (w07_ok _).mono ?_
           rintro e wz ⟨rfl,hbz⟩
           have hBz:=hB.trans (hbz.mono (by omega))
           go_wp2
           go_ret
           exact ⟨rfl,hBz⟩
  ·have hpi:(12:Int) < (ps.length:Int):=by omega
   clear x5 x7 hp ha hk hf
   go_wp2_with fail
   refine (w07_ok _).mono ?_
   rintro e wz ⟨rfl,hbz⟩
   have hBz:=hB.trans (hbz.mono (by omega))
   go_wp2
   go_ret
   exact ⟨rfl,hBz⟩
end Go.Proofs.YtaihbcmifjmapaaGreat
