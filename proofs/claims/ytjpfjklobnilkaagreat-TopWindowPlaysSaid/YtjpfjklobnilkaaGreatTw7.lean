/- Contract of the law TopWindowPlays. -/
import Derived.Test.YtjpfjklobnilkaaGreatTwL
import Derived.Test.YtjpfjklobnilkaaGreatScR
import Derived.Test.YtjpfjklobnilkaaGreatScC
import Derived.Test.YtjpfjklobnilkaaGreatPlayG
import Derived.Test.YtjpfjklobnilkaaGreatRefC
import Derived.Test.YtjpfjklobnilkaaGreatWrk7P
namespace Go.Proofs.YtjpfjklobnilkaaGreat
open Go.RowKit Go.Shelf Sc
set_option linter.unusedVariables false
theorem slT_rg:SlT 28 32 2 16 (.agg #[.int .i64 0,.int .i64 0]):=⟨Tryz.underlying28,by kernel_rfl,rfl,by omega⟩
def winsTo (c:Cyl) (k:Nat):List Str:=(c.pas.take k).map (winOf c)
def totTo (c:Cyl) (k:Nat):Int:=totW (c.pas.take k)
theorem wins_take {c:Cyl} {k:Nat} {p:Pas} (h:c.pas[k]? = some p):winsTo c (k+1)=winsTo c k++[winOf c p]:=by
 unfold winsTo
 rw [List.take_add_one,h,List.map_append]
 rfl
theorem wins_all (c:Cyl):winsTo c c.pas.length=winsOf c:=by unfold winsTo winsOf; rw [List.take_length]
theorem tot_all (c:Cyl):totTo c c.pas.length=totW c.pas:=by unfold totTo; rw [List.take_length]
theorem tot_take {c:Cyl} {k:Nat} {p:Pas} (h:c.pas[k]? = some p):totTo c (k+1)=totTo c k+p.w:=totW_take h
theorem full_take {c:Cyl} {k:Nat} {p:Pas} (h:c.pas[k]? = some p) {P:Pas→Prop} (h1:∀ q∈c.pas.take k,P q) (h2:P p):∀ q∈c.pas.take (k+1),P q:=by
 rw [List.take_add_one,h]
 intro q hq
 rcases List.mem_append.1 hq with hq | hq
 ·exact h1 q hq
 ·simp at hq
  rw [hq]
  exact h2
def begsTo (c:Cyl) (j:Nat):List Int:=begsOf c ((wayOf c).take j)
theorem begs_take {c:Cyl} {j:Nat} {s:Str} (h:(wayOf c)[j]? = some s):begsTo c (j+1)=putL (begOf c s) (begsTo c j):=begsOf_take c h
theorem begs_all (c:Cyl):begsTo c (wayOf c).length=begsOf c (wayOf c):=by unfold begsTo; rw [List.take_length]
theorem begsTo_few (c:Cyl) (j:Nat):(begsTo c j).length≤j:=by
 have h2:=(begs_aux c ((wayOf c).take j) [] .nil).2.1
 have h3:((wayOf c).take j).length≤j:=by rw [List.length_take]; exact Nat.min_le_left _ _
 simp only [List.length_nil] at h2
 unfold begsTo begsOf
 omega
set_option maxRecDepth 100000 in
set_option maxHeartbeats 6400000 in
theorem topWindow_ok (v:Value) (c:Cyl) (w:World) (hv:CylV w w.heap.size v c) :
  Calls Tryz.prog 3 #[v] w fun r w'=>r = .returned (.bool true)∧Below w.heap.size w w':=by
 obtain ⟨fa,fc,pa,pc,rfl,hf,hp⟩:=hv.open_
 have hC:=CB.new hf hp
 have hB:=(Below.refl w.heap.size w).alloc (Nat.le_refl _) (.cells #[.int .i64 c.turns,.int .i64 c.long,.int .i64 c.plays,.slice fa c.frag.length fc,.slice pa c.pas.length pc] 25)
 go_enter Tryz.func3,Tryz.ntmps3
 go_upto_region 1 with (fail)
 generalize hW:w.alloc (.cells #[.int .i64 c.turns,.int .i64 c.long,.int .i64 c.plays,.slice fa c.frag.length fc,.slice pa c.pas.length pc] 25)=W at *
 clear hW hf hp
 obtain ⟨k0,k1,k2,k3,k4⟩:=hC.c5
 go_wp2_with fail
 refine (cylinder07_ok _ c _ hC.cyl).mono ?_
 rintro e w1 ⟨rfl,hb1⟩
 replace hC:=hC.call hb1
 replace hB:=hB.trans ((hb1).mono hB.size)
 clear k0 k1 k2 k3 k4 hb1
 obtain ⟨k0,k1,k2,k3,k4⟩:=hC.c5
 cases hg:fineC c
 ·clear hC
  go_wp2_with fail
  refine (w07_ok _).mono ?_
  rintro e wz ⟨rfl,hbz⟩
  have hBz:=hB.trans (hbz.mono hB.size)
  go_wp2
  go_ret
  exact ⟨rfl,hBz⟩
 ·have h0:checkCyl c=0:=by
   unfold fineC at hg
   simp at hg
   exact hg.2
  have H0:=Lib.hid h0
  have hpf:=pas_few h0
  clear h0 hg
  by_cases hp0:c.pas.length=0
  ·have d1:((c.pas.length:Int)==0)=true:=by rw [beq_iff_eq]; omega
   clear hC hpf
   go_wp2_with fail
   refine (w07_ok _).mono ?_
   rintro e wz ⟨rfl,hbz⟩
   have hBz:=hB.trans (hbz.mono hB.size)
   go_wp2
   go_ret
   exact ⟨rfl,hBz⟩
  ·have d1:((c.pas.length:Int)==0)=false:=by rw [beq_eq_false_iff_ne]; omega
   have hgl:w.heap.size < w1.heap.size:=hC.blk.lt
   go_upto_region 6 with (fail)
   go_loopw [3,4,5] (fun o x i wr=>∃ (k:Nat) (A:Option Addr) (cp:Nat),k≤c.pas.length∧i = .int .i64 k∧x = .int .i64 (totTo c k)∧o = .slice A k cp∧wr.ownsRow w1.heap.size 32 2 (.slice A k cp) k ((winsTo c k).flatMap (cellsOf 2 scell))∧CB wr w.heap.size w.heap.size c fa fc pa pc∧Below w.heap.size w wr∧w1.heap.size≤wr.heap.size∧Hid (∀ p∈c.pas.take k,p.b-p.a+1≤c.long∧p.w≠0)) (fun _ _ i _=>c.pas.length-(intOf i).toNat)
   case atStart=>exact ⟨0,none,0,Nat.zero_le _,rfl,rfl,rfl,World.ownsRow_nil _ _ _ _,hC,hB,Nat.le_refl _,fun p hp=>by simp at hp⟩
   case round =>
    clear k0 k1 k2 k3 k4 hC hB
    obtain ⟨k,A,cp,hk,rfl,rfl,rfl,hown,hC,hB,hsz,HF⟩:=hrel
    obtain ⟨k0,k1,k2,k3,k4⟩:=hC.c5
    by_cases hlt:k < c.pas.length
    ·obtain ⟨b,off,p,rfl,hBb,hpk,hcc⟩:=hC.ps.at_ hlt
     have c0:=hcc 0 (by omega)
     have c1:=hcc 1 (by omega)
     have c2:=hcc 2 (by omega)
     simp only [Nat.add_zero,pcell] at c0 c1 c2
     have hfit:=pas_fit (pasOk_of H0.out) p (List.mem_of_getElem? hpk)
     obtain ⟨e1,e2,e3,e4,e5,e6,e7⟩:=cyl_nat H0.out
     have HWT:=Lib.hid (wins_take hpk)
     have HTT:=Lib.hid (tot_take hpk)
     have hki:(k:Int) < (c.pas.length:Int):=by omega
     have htk:0≤totTo c k∧totTo c k≤1000 * (c.pas.take k).length:=totW_le (c.pas.take k) (fun q hq=>by have:=pas_fit (pasOk_of H0.out) q (List.mem_of_mem_take hq); omega)
     have htl:(c.pas.take k).length≤12:=by rw [List.length_take]; omega
     have HFT:=Lib.hid (fun h=>full_take hpk (P:=fun p=>p.b-p.a+1≤c.long∧p.w≠0) HF.out h)
     have w1':IntKind.i64.wrap (p.b-p.a)=p.b-p.a:=wrap_id _ (by omega) (by omega)
     have w2':IntKind.i64.wrap (p.b-p.a+1)=p.b-p.a+1:=wrap_id _ (by omega) (by omega)
     have w3':IntKind.i64.wrap (p.b-c.long)=p.b-c.long:=wrap_id _ (by omega) (by omega)
     have w4':IntKind.i64.wrap (p.b-c.long+1)=p.b-c.long+1:=wrap_id _ (by omega) (by omega)
     have w5':IntKind.i64.wrap (totTo c k+p.w)=totTo c k+p.w:=wrap_id _ (by omega) (by omega)
     clear hcc hfit e1 e2 e3 e4 e5 e6 e7 htk htl hpk HF
     go_upto_region 9 with (fail)
     have hX:=Blk.new wr 30 #[.int .i64 p.a,.int .i64 p.b,.int .i64 p.w]
     have hb2:=(Below.refl wr.heap.size wr).alloc (Nat.le_refl _) (.cells #[.int .i64 p.a,.int .i64 p.b,.int .i64 p.w] 30)
     replace hown:=own_call hown hb2
     replace hsz:=Nat.le_trans hsz hb2.size
     clear c0 c1 c2
     replace hC:=hC.call hb2
     replace hB:=hB.trans ((hb2).mono hB.size)
     clear k0 k1 k2 k3 k4 hb2
     obtain ⟨k0,k1,k2,k3,k4⟩:=hC.c5
     generalize wr.alloc (.cells #[.int .i64 p.a,.int .i64 p.b,.int .i64 p.w] 30)=w2 at *
     have p0:=hX.cell 0
     have p1:=hX.cell 1
     have p2:=hX.cell 2
     simp at p0 p1 p2
     by_cases hlg:c.long < p.b-p.a+1
     ·have d2:decide (c.long < p.b-p.a+1)=true:=decide_eq_true hlg
      clear hown hX hlg
      go_wp2_with fail
      refine (w07_ok _).mono ?_
      rintro e wz ⟨rfl,hbz⟩
      have hBz:=hB.trans (hbz.mono hB.size)
      go_wp2
      go_ret
      exact ⟨rfl,hBz⟩
     ·have d2:decide (c.long < p.b-p.a+1)=false:=decide_eq_false hlg
      by_cases hw0:p.w=0
      ·have d3:(p.w==0)=true:=by rw [beq_iff_eq]; exact hw0
       clear hown hX hlg hw0
       go_wp2_with fail
       refine (w07_ok _).mono ?_
       rintro e wz ⟨rfl,hbz⟩
       have hBz:=hB.trans (hbz.mono hB.size)
       go_wp2
       go_ret
       exact ⟨rfl,hBz⟩
      ·have d3:(p.w==0)=false:=by rw [beq_eq_false_iff_ne]; exact hw0
       have HF2:=Lib.hid (HFT.out ⟨by omega,hw0⟩)
       clear hlg hw0 HFT
       go_wp2_with (at_builtin; refine wpList_app2 slT_rg rfl (.tmp 59) (.tmp 70) rfl rfl hown rfl rfl one_2 hsz ?_ ?_ ?_)
       any_goals omega
       intro v4 w4 hown4 hg4 hat4
       have hB4:=below_row hB hg4 hB.size fun r e=>by have:=(own_cells hown e).1; omega
       have hC4:CB w4 w.heap.size w.heap.size c fa fc (some ⟨b,off,none⟩) pc:=hC.belowB (B0:=w1.heap.size) (below_row (Below.refl _ _) hg4 hsz fun r e=>(own_cells hown e).1) hgl
       have hsz4:=Nat.le_trans hsz hg4.size
       have hown5:w4.ownsRow w1.heap.size 32 2 v4 (k+1) ((winsTo c (k+1)).flatMap (cellsOf 2 scell)):=by
        rw [HWT.out,List.flatMap_append]
        exact hown4
       obtain ⟨A4,c4,rfl⟩:=own_form hown5
       rw [← HTT.out]
       clear hown hX hC hB hown4 hat4 hg4 hsz k0 k1 k2 k3 k4 p0 p1 p2
       go_wp2
       go_roundw
       case rel=>exact ⟨k+1,A4,c4,by omega,by go_num,rfl,rfl,hown5,hC4,hB4,hsz4,HF2.out⟩
       case measure=>(simp [intOf]; try omega)
    ·obtain rfl:k=c.pas.length:=by omega
     rw [wins_all] at hown
     rw [tot_all]
     rw [List.take_length] at HF
     have hf:FullC c:=HF.out
     have hp1:c.pas≠[]:=fun h=>hp0 (by rw [h]; rfl)
     have hwl:(winsOf c).length=c.pas.length:=by simp [winsOf]
     have hws:Arr wr wr.heap.size 2 (.slice A c.pas.length cp) (winsOf c) scell:=by
      rw [← hwl] at hown ⊢
      exact Arr.of_own hown
     have HW0:=Lib.hid (win_song H0.out hp1 hf)
     have HF0:=Lib.hid hf
     have HP0:=Lib.hid hp1
     have htb:=tot_bound H0.out
     obtain ⟨x,hx⟩:∃ x,x=totW c.pas:=⟨_,rfl⟩
     rw [← hx] at htb ⊢
     have HX:=Lib.hid hx
     clear hown hf hp1 hwl hx HF hlt hsz
     clear hk d1 hp0 hpf
     go_wp2_with fail
     refine (scFewest_ok _ (winsOf c) wr HW0.out hws).mono ?_
     rintro e w2 ⟨sv,s,rfl,ho,hst,hb2⟩
     replace hws:=(hws.below hb2).more hb2.size
     replace hC:=hC.call hb2
     replace hB:=hB.trans ((hb2).mono hB.size)
     clear k0 k1 k2 k3 k4 hb2
     obtain ⟨k0,k1,k2,k3,k4⟩:=hC.c5
     obtain ⟨sA,sc,rfl, -⟩:=id hst
     go_wp2_with fail
     refine (scApart_ok _ (winsOf c) w2 HW0.out hws).mono ?_
     rintro e w3 ⟨s',aA,ac,rfl,ho',hb3⟩
     rw [← short_same HW0.out ho ho']
     replace hws:=(hws.below hb3).more hb3.size
     replace hst:=(hst.below hb3).more hb3.size
     replace hC:=hC.call hb3
     replace hB:=hB.trans ((hb3).mono hB.size)
     clear k0 k1 k2 k3 k4 hb3
     obtain ⟨k0,k1,k2,k3,k4⟩:=hC.c5
     clear ho'
     go_wp2_with fail
     refine (fewest_ok _ c x _ hC.cyl).mono ?_
     rintro e w4 ⟨rfl,hb4⟩
     replace hws:=(hws.below hb4).more hb4.size
     replace hst:=(hst.below hb4).more hb4.size
     replace hC:=hC.call hb4
     replace hB:=hB.trans ((hb4).mono hB.size)
     clear k0 k1 k2 k3 k4 hb4
     obtain ⟨k0,k1,k2,k3,k4⟩:=hC.c5
     have hrc:=rcheckScale_ok _ _ (winsOf c) (stepsF s) w4 HW0.out (short_ok HW0.out ho) hws hst
     have HO:=Lib.hid ho
     have HB:Hid (bestOf c=(wayOf c,mostOf c,0)):=best_ok_eq H0.out
     clear hst ho
     generalize hm:(stepsF s).length=m at *
     have HM:=Lib.hid hm
     clear hm
     rcases few_cases H0.out htb.1 with ⟨e3,hlt⟩ | ⟨k,hk,e3,hge, -⟩
     ·have d1:decide (mostOf c < x)=true:=decide_eq_true hlt
      rw [e3]
      dsimp only
      clear hlt e3
      go_wp2_with fail
      refine hrc.mono ?_
      rintro e w5 ⟨rfl,hb5⟩
      replace hws:=(hws.below hb5).more hb5.size
      clear hrc
      replace hC:=hC.call hb5
      replace hB:=hB.trans ((hb5).mono hB.size)
      clear k0 k1 k2 k3 k4 hb5
      obtain ⟨k0,k1,k2,k3,k4⟩:=hC.c5
      go_wp2_with fail
      refine (best_ok _ c _ hC.cyl).mono ?_
      rintro e w6 ⟨ov,rfl, -,hb6⟩
      rw [HB.out]
      dsimp only
      replace hC:=hC.call hb6
      replace hB:=hB.trans ((hb6).mono hB.size)
      clear k0 k1 k2 k3 k4 hb6
      obtain ⟨k0,k1,k2,k3,k4⟩:=hC.c5
      clear hC hws
      go_wp2_with fail
      refine (w07_ok _).mono ?_
      rintro e wz ⟨rfl,hbz⟩
      have hBz:=hB.trans (hbz.mono hB.size)
      go_wp2
      go_ret
      exact ⟨rfl,hBz⟩
     ·rw [e3]
      dsimp only
      have hmk:m≤k:=by
       rw [← HM.out]
       exact few_plays H0.out HP0.out HF0.out hk (by rw [← HX.out]; exact hge) HO.out
      have hmx:mostOf c=x:=by
       have h1:=most_tot H0.out HF0.out (Nat.le_refl (tK c))
       have h2:=mostK_mono H0.out hk (Nat.le_refl (tK c))
       rw [← HX.out] at h1
       rw [mostOf_eq]
       omega
      rw [hmx] at HB
      have hpk:c.plays=(tK c:Int):=(cyl_nat H0.out).2.1
      have d1:decide ((k:Int) < (m:Int))=false:=decide_eq_false (by omega)
      have d1':decide (k < m)=false:=decide_eq_false (by omega)
      have d2:decide (c.plays < (k:Int))=false:=decide_eq_false (by omega)
      have HTM:Hid (totW c.pas≤mostK c (tK c)):=by
       have h2:=mostK_mono H0.out hk (Nat.le_refl (tK c))
       rw [Hid,← HX.out]
       omega
      clear e3 hge hk hmk hmx hpk HO
      go_wp2_with fail
      refine hrc.mono ?_
      rintro e w5 ⟨rfl,hb5⟩
      replace hws:=(hws.below hb5).more hb5.size
      clear hrc
      replace hC:=hC.call hb5
      replace hB:=hB.trans ((hb5).mono hB.size)
      clear k0 k1 k2 k3 k4 hb5
      obtain ⟨k0,k1,k2,k3,k4⟩:=hC.c5
      go_wp2_with fail
      refine (best_ok _ c _ hC.cyl).mono ?_
      rintro e w6 ⟨ov,rfl,hQ,hb6⟩
      rw [HB.out] at hQ
      rw [HB.out]
      dsimp only at hQ ⊢
      obtain ⟨qA,qc,rfl, -⟩:=id hQ
      replace hws:=(hws.below hb6).more hb6.size
      replace hC:=hC.call hb6
      replace hB:=hB.trans ((hb6).mono hB.size)
      clear k0 k1 k2 k3 k4 hb6
      obtain ⟨k0,k1,k2,k3,k4⟩:=hC.c5
      have hcp:=rcheckPlan_ok _ _ c (wayOf c) w6 hC.cyl hQ
      rw [(checkPlan_iff H0.out _).2 (way_isPlan H0.out)] at hcp
      go_wp2_with fail
      refine hcp.mono ?_
      rintro e w7 ⟨rfl,hb7⟩
      replace hws:=(hws.below hb7).more hb7.size
      replace hQ:=(hQ.below hb7).more hb7.size
      clear hcp d1 d1' d2
      replace hC:=hC.call hb7
      replace hB:=hB.trans ((hb7).mono hB.size)
      clear k0 k1 k2 k3 k4 hb7
      obtain ⟨k0,k1,k2,k3,k4⟩:=hC.c5
      go_upto_region 25 with (fail)
      clear k0 k1 k2 k3 k4
      have hql:(wayOf c).length≤6:=by
       have h1:=(way_isPlan H0.out).2
       have h2:=(cyl_nat H0.out).2.2.2.2.1
       omega
      go_loopw [16,17] (fun o i wr=>∃ (j:Nat) (A:Option Addr) (cp:Nat),j≤(wayOf c).length∧i = .int .i64 j∧o = .slice A (begsTo c j).length cp∧Arr wr wr.heap.size 1 (.slice A (begsTo c j).length cp) (begsTo c j) icell∧CB wr w.heap.size w.heap.size c fa fc pa pc∧Below w.heap.size w wr∧Below w7.heap.size w7 wr) (fun _ i _=>(wayOf c).length-(intOf i).toNat)
      case atStart=>exact ⟨0,none,0,Nat.zero_le _,rfl,rfl,Arr.nil_,hC,hB,Below.refl _ _⟩
      case round =>
       clear hC hB
       obtain ⟨j,bA,bc,hj,rfl,rfl,hbs,hC,hB,h7⟩:=hrel
       have hq8:=(hQ.below h7).more h7.size
       have hw8:=(hws.below h7).more h7.size
       obtain ⟨k0,k1,k2,k3,k4⟩:=hC.c5
       by_cases hlt:j < (wayOf c).length
       ·obtain ⟨b,off,p,rfl,hBb,hpk,hcc⟩:=hq8.at_ hlt
        have c1:=hcc 1 (by omega)
        simp only [scell] at c1
        have HBT:=Lib.hid (begs_take hpk)
        have hok:=(seqP_after (way_isPlan H0.out).1 p (List.mem_of_getElem? hpk)).2
        obtain ⟨e1,e2,e3,e4,e5,e6,e7⟩:=cyl_nat H0.out
        unfold OkS at hok
        have w3':IntKind.i64.wrap (p.b-c.long)=p.b-c.long:=wrap_id _ (by omega) (by omega)
        have w4':IntKind.i64.wrap (p.b-c.long+1)=p.b-c.long+1:=wrap_id _ (by omega) (by omega)
        have hji:(j:Int) < ((wayOf c).length:Int):=by omega
        have hbl:=begsTo_few c j
        have hput:=fun wq hx=>put03_ok (.slice bA (begsTo c j).length bc) (begsTo c j) (begOf c p) wq (by omega) hx
        have hbe:begOf c p=max 0 (p.b-c.long+1):=rfl
        rw [hbe] at hput
        have f0:=Ext.of c1
        have f1:=Ext.of k1
        clear hcc hok e1 e2 e3 e4 e5 e6 e7 hpk hbe hbl c1 k0 k1 k2 k3 k4
        go_upto_region 27 with (fail)
        refine wp_region_schedH (C:=fun w'=>∃ x:Ext wr,w'=x.w) [(0,true),(1,true),(2,true),(3,true),(4,true),(5,true),(6,true),(7,true),(8,true),(9,true),(10,false),(11,false),(12,true)] (by kernel_rfl) (by kernel_rfl) ⟨⟨wr.drew,(Below.refl _ wr).drew⟩,rfl⟩ ?_
        have hxd:Below wr.heap.size wr wr.drew:=(Below.refl wr.heap.size wr).drew
        refine schedH_q (by rfl) (by rfl) ?_
        intro K hK
        go_big_quiet_op
        go_big_quiet_on
        refine schedH_q (by rfl) (by rfl) ?_
        intro K hK
        go_big_quiet_op
        go_big_quiet_on
        refine schedH_q (by rfl) (by rfl) ?_
        intro K hK
        go_big_quiet_op
        go_big_quiet_on
        refine schedH_q (by rfl) (by rfl) ?_
        intro K hK
        go_big_quiet_op
        go_big_quiet_on
        refine schedH_q (by rfl) (by rfl) ?_
        intro K hK
        go_big_quiet_op
        go_big_quiet_on
        refine schedH_q (by rfl) (by rfl) ?_
        intro K hK
        go_big_quiet_op
        go_big_quiet_on
        refine schedH_q (by rfl) (by rfl) ?_
        intro K hK
        go_big_quiet_op
        go_big_quiet_on
        refine schedH_q (by rfl) (by rfl) ?_
        intro K hK
        go_big_quiet_op
        go_big_quiet_on
        refine schedH_q (by rfl) (by rfl) ?_
        intro K hK
        go_big_quiet_op
        go_big_quiet_on
        refine schedH_q (by rfl) (by rfl) ?_
        intro K hK
        go_big_quiet_op
        go_big_quiet_on
        refine schedH_c (by rfl) (by rfl) ?_
        intro K' hK'
        go_wp2
        refine hK' _ _ ⟨⟨⟨wr.drew,hxd⟩,rfl⟩,?_⟩
        clear hK' K'
        clear f0 f1 w3' w4'
        refine schedH_c (by rfl) (by rfl) ?_
        intro K' hK'
        go_wp2_with fail
        refine (hput wr.drew hbs).mono ?_
        rintro e w9 ⟨pv,rfl,hpv,hb9⟩
        rw [← show begOf c p=max 0 (p.b-c.long+1) from rfl,← HBT.out] at hpv
        have hx9:=hxd.trans (hb9.mono hxd.size)
        have hC9:=hC.call hx9
        have hB9:=hB.trans (hx9.mono hB.size)
        have h79:=h7.trans (hx9.mono h7.size)
        obtain ⟨pA,pc9,rfl, -⟩:=id hpv
        clear hC hB h7 hq8 hw8 hput hbs
        go_wp2
        refine hK' _ _ ⟨⟨⟨w9,hx9⟩,rfl⟩,?_⟩
        clear hK' K'
        refine schedH_q (by rfl) (by rfl) ?_
        intro K hK
        go_big_quiet_op
        go_big_quiet_on
        refine schedH_nil ?_
        go_wp2
        go_roundw
        case rel=>exact ⟨j+1,pA,pc9,by omega,by go_num,rfl,hpv,hC9,hB9,h79⟩
        case measure=>(simp [intOf]; try omega)
       ·obtain rfl:j=(wayOf c).length:=by omega
        rw [begs_all] at hbs
        rw [begs_all]
        have hcs:=scCheckScale_ok _ _ (winsOf c) (begsOf c (wayOf c)) wr HW0.out (begs_scale H0.out HF0.out HTM.out) hw8 hbs
        clear hC hq8 hlt hbs hw8 h7 k0 k1 k2 k3 k4 hws hQ
        go_wp2_with fail
        refine hcs.mono ?_
        rintro e w9 ⟨rfl,hb9⟩
        replace hB:=hB.trans (hb9.mono hB.size)
        clear hcs hb9
        go_wp2_with fail
        refine (w07_ok _).mono ?_
        rintro e wz ⟨rfl,hbz⟩
        have hBz:=hB.trans (hbz.mono hB.size)
        go_wp2
        go_ret
        exact ⟨rfl,hBz⟩
end Go.Proofs.YtjpfjklobnilkaaGreat
