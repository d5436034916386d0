/- Contract of the reference: Far of package mandrelref01. -/
import Derived.Test.YtaihbcmifjmapaaGreatSpX
import Derived.Test.YtaihbcmifjmapaaGreatPG
namespace Go.Proofs.YtaihbcmifjmapaaGreat
open Go.RowKit Go.Shelf Sp
set_option linter.unusedVariables false
theorem never_snoc (j:Nat):(List.replicate (j+1) nv).flatMap (cellsOf 1 icell)=(List.replicate j nv).flatMap (cellsOf 1 icell)++(#[.int .i64 1099511627776]:Array Value).toList:=by
 rw [List.replicate_succ',List.flatMap_append]
 rfl
theorem rowsAt_nil (W:World) (base n:Nat) (F:Mat):RowsAt W base n [] F:=by
 refine ⟨fun i p h=>?_,fun p h=>?_,fun i j p q h=>?_⟩
 ·rw [List.getElem?_nil] at h
  cases h
 ·cases h
 ·rw [List.getElem?_nil] at h
  cases h
theorem row_cells {w:World} {base:Nat} {v:Value} {j:Nat} (h:w.ownsRow base 2 1 v j ((List.replicate j nv).flatMap (cellsOf 1 icell))) (hj:0 < j):∃ g cap cur,v = .slice (some ⟨g,0,none⟩) j cap∧base≤g∧Blk w g 2 cur∧∀ k,k < j→cur[k]? = some (.int .i64 nv):=by
 rcases h.2 with ⟨_,h0⟩ | ⟨g,cap,cur,h1,h2,h3,h4,h5,h6,h7⟩
 ·omega
 ·refine ⟨g,cap,cur,h1,h2,h3,fun k hk=>?_⟩
  have e:(List.replicate j nv).flatMap (cellsOf 1 icell)=List.replicate j (.int .i64 nv):=by
   clear h h1 h2 h3 h4 h5 h6 h7 hj hk
   induction j with
   | zero=>rfl
   | succ j ih=>rw [List.replicate_succ,List.flatMap_cons,ih]; rfl
  rw [e,Nat.mul_one] at h7
  have:=congrArg (fun q=>q[k]?) h7
  simp only [List.getElem?_take,List.getElem?_replicate,if_pos hk] at this
  simpa using this
set_option maxRecDepth 100000 in
set_option maxHeartbeats 1600000 in
theorem far_ok (v:Value) (T:Nat) (l:List Ru) (w:World) (hk:SheetOk T l) (hs:SheetV w w.heap.size v T l) :
  Calls Tryz.prog 20 #[v] w fun r w'=>∃ B b cap rs,r = .returned (.slice (some ⟨b,0,none⟩) (T+1) cap)∧TabF w' B b (T+1) cap rs (farM (T+1) (allL T l))∧Below w.heap.size w w':=by
 obtain ⟨A0,c,rfl,ha⟩:=hs
 have h3:=hk.t20
 obtain ⟨Bs,hBs⟩:∃ Bs,Bs=w.heap.size:=⟨_,rfl⟩
 rw [← hBs]
 go_enter Tryz.func20,Tryz.ntmps20
 go_upto_region 1 with (fail)
 have x0:=Blk.new w 24 #[.int .i64 T,.slice A0 l.length c]
 have hb:=(Below.refl w.heap.size w).alloc (Nat.le_refl _) (.cells #[.int .i64 T,.slice A0 l.length c] 24)
 have z1:Bs+1≤(w.alloc (.cells #[.int .i64 T,.slice A0 l.length c] 24)).heap.size:=by simp [hBs]
 have ha1:=(ha.below hb).more hb.size
 rw [← hBs] at x0 hb ⊢
 have HBs:=Lib.hid hBs
 clear hBs ha
 generalize w.alloc (.cells #[.int .i64 T,.slice A0 l.length c] 24)=W at *
 have p0:=x0.cell 0
 simp at p0
 go_upto_region 4 with (fail)
 clear p0
 have HA:Hid (Arr W W.heap.size 3 (.slice A0 l.length c) l rucell):=ha1
 clear ha1
 go_loopw [4,5] (fun o i wr=>∃ (k:Nat) (rs:List (Nat×Nat)) (A:Option Addr) (c1:Nat),k≤T+1∧i = .int .i64 k∧o = .slice A k c1∧rs.length=k∧wr.ownsRow W.heap.size 39 1 (.slice A k c1) k (rs.flatMap (cellsOf 1 (sliR (T+1))))∧RowsAt wr W.heap.size (T+1) rs iniF∧Below W.heap.size W wr) (fun _ i _=>T+1-(intOf i).toNat)
 case atStart=>exact ⟨0,[],none,0,Nat.zero_le _,rfl,rfl,rfl,World.ownsRow_nil _ _ _ _,rowsAt_nil _ _ _ _,Below.refl _ _⟩
 case round =>
  obtain ⟨k,rs,A,c1,hkk,rfl,rfl,hrl,hown,hrows,hbw⟩:=hrel
  have zr:=hbw.size
  obtain ⟨wo,rfl⟩:∃ wo:World,wo=wr:=⟨_,rfl⟩
  by_cases hlt:k < T+1
  ·have hki:(k:Int) < (T:Int)+1:=by omega
   go_upto_region 8 with (fail)
   go_loopw [6,7] (fun o i w2=>∃ (j:Nat) (A:Option Addr) (c1:Nat),j≤T+1∧i = .int .i64 j∧o = .slice A j c1∧w2.ownsRow wo.heap.size 2 1 (.slice A j c1) j ((List.replicate j nv).flatMap (cellsOf 1 icell))∧Below wo.heap.size wo w2) (fun _ i _=>T+1-(intOf i).toNat)
   case atStart=>exact ⟨0,none,0,Nat.zero_le _,rfl,rfl,World.ownsRow_nil _ _ _ _,Below.refl _ _⟩
   case round =>
    obtain ⟨j,A2,c2,hj,rfl,rfl,hown2,hb2⟩:=hrel
    by_cases hlj:j < T+1
    ·have hji:(j:Int) < (T:Int)+1:=by omega
     have hsz:=hb2.size
     go_wp2_with (at_builtin; refine wpList_app2 slT_n64 rfl (.tmp 27) (.tmp 28) rfl rfl hown2 rfl rfl one_1 hsz ?_ ?_ ?_)
     try any_goals omega
     intro v4 w4 hown4 hg4 hat4
     obtain ⟨A4,c4,rfl⟩:=own_form hown4
     have hown5:w4.ownsRow wo.heap.size 2 1 (.slice A4 (j+1) c4) (j+1) ((List.replicate (j+1) nv).flatMap (cellsOf 1 icell)):=by rw [never_snoc]; exact hown4
     have hb4:=below_row hb2 hg4 hsz fun r e=>(own_cellz hown2 e).1
     clear hown4 hg4 hat4 hown2 hb2
     go_wp2
     go_roundw
     case rel=>exact ⟨j+1,A4,c4,by omega,by go_num,rfl,hown5,hb4⟩
     case measure=>(simp [intOf]; try omega)
    ·obtain rfl:j=T+1:=by omega
     obtain ⟨g2,cap2,cur,hv2,hg2,hbk,hcur⟩:=row_cells hown2 (by omega)
     injection hv2 with hA2 _ hc2
     subst hA2 hc2
     have hc0:=(hbk.cell k).trans (hcur k hlt)
     have hc1:=hbk.frozen k
     have hown3:=own_call hown hb2
     have hrows3:=hrows.call hb2
     have hb3:=hbw.trans (hb2.mono zr)
     have hsz3:=hb2.size
     have hrlt:∀ q∈rs,q.1≠g2:=fun q hq=>by have:=hrows.memlt hq; omega
     clear hown hrows hbw
     have hk3:RowsAt (wr.setCell ⟨g2,k,none⟩ (.int .i64 0)) W.heap.size (T+1) (rs++[(g2,c2)]) iniF:=by
      refine RowsAt.snoc ?_ (p:=(g2,c2)) (hbk.set_ k (.int .i64 0)) (fun m hm=>?_) (by show W.heap.size≤g2; omega) hrlt
      ·exact hrows3.keep fun q hq=>(grown_setCell (w:=wr) (g:=g2) (o:=k) (.int .i64 0)).block q.1 (hrows3.memlt hq) fun e=>by injection e with e; exact hrlt q hq e
      ·rw [Array.getElem?_setIfInBounds,hrl]
       have hks:k < cur.size:=(Array.getElem?_eq_some_iff.1 (hcur k hlt)).1
       unfold iniF
       by_cases e:k=m
       ·rw [if_pos e,if_pos hks,if_pos e]
       ·rw [if_neg e,if_neg e]
        exact hcur m hm
     have hown4:=hown3.kept (grown_setCell (g:=g2) (o:=k) (.int .i64 0)) (.inr fun e=>own_blk_ne hown3 hbk (by decide) e.symm)
     have hb4:=hb3.setCell (p:=⟨g2,k,none⟩) (by show W.heap.size≤g2; omega) (.int .i64 0)
     have hsz4:W.heap.size≤(wr.setCell ⟨g2,k,none⟩ (.int .i64 0)).heap.size:=by simp; omega
     clear hbk hcur hown3 hrows3 hb3 hrlt hown2 hb2
     go_upto_region 12 with (fail)
     clear hc0 hc1
     generalize wr.setCell ⟨g2,k,none⟩ (.int .i64 0)=w3 at *
     have h1s:∀ u∈(#[.slice (some ⟨g2,0,none⟩) (T+1) c2]:Array Value).toList,u.oneCell'=true:=by
      intro u hu
      simp at hu
      subst hu
      rfl
     go_wp2_with (at_builtin; refine wpList_app2 slT_row rfl (.tmp 33) (.tmp 35) rfl rfl hown4 rfl rfl h1s hsz4 ?_ ?_ ?_)
     try any_goals omega
     intro v4 w4 hown5 hg5 hat5
     obtain ⟨A4,c4,rfl⟩:=own_form hown5
     have hown6:w4.ownsRow W.heap.size 39 1 (.slice A4 (k+1) c4) (k+1) ((rs++[(g2,c2)]).flatMap (cellsOf 1 (sliR (T+1)))):=by
      rw [List.flatMap_append]
      exact hown5
     have hrows5:=hk3.grown hg5 fun r e cs hcs=>own_blk_ne hown4 hcs (by decide) e.symm
     have hb6:=below_row hb4 hg5 hsz4 fun r e=>(own_cellz hown4 e).1
     clear hown5 hg5 hat5 hown4 hk3 hb4 hsz4
     go_wp2
     go_roundw
     case rel=>exact ⟨k+1,_,A4,c4,by omega,by go_num,rfl,by simp [hrl],hown6,hrows5,hb6⟩
     case measure=>(simp [intOf]; try omega)
  ·obtain rfl:k=T+1:=by omega
   obtain ⟨bb,hA⟩:∃ bb,A=some ⟨bb,0,none⟩:=by
    rcases hown.2 with ⟨_,h0⟩ | ⟨g',cap',cur,h0,_⟩
    ·omega
    ·injection h0 with h0
     exact ⟨g',h0⟩
   subst hA
   have htab:TabF wo W.heap.size bb (T+1) c1 rs iniF:=⟨hown,hrows,hrl⟩
   have ha1:=(HA.out.below hbw).more hbw.size
   have hbr:=hb.trans (hbw.mono (by omega))
   have hxr:=x0.call hbw
   have hki:¬ ((T:Int)+1 < (T:Int)+1):=by omega
   have p0:=hxr.cell 0
   have p1:=hxr.cell 1
   simp at p0 p1
   clear hown hrows hrl hbw
   go_wp2_with fail
   refine (rall_ok _ T l wo hk ⟨A0,c,rfl,ha1⟩).mono ?_
   rintro e w2 ⟨aA,ac,rfl,hal,hb2⟩
   have htab2:=htab.call hb2
   have hbr2:=hbr.trans (hb2.mono (by omega))
   have h12:(T+1:Nat)≤21:=by omega
   have zz:W.heap.size≤wo.heap.size:=zr
   have zw:=hb2.size
   have hfit:=allR_fit hk
   clear htab ha1 hbr hxr p0 p1 hb2
   have hal100:=allR_len hk
   go_upto_region 15 with (fail)
   go_loopw [9] (fun i wr=>∃ k:Nat,k≤(allR T l).length∧i = .int .i64 k∧TabF wr W.heap.size bb (T+1) c1 rs ((((allR T l).map rnOf).take k).foldl ruF iniF)∧wr.ownsRow wo.heap.size 27 3 (.slice aA (allR T l).length ac) (allR T l).length ((allR T l).flatMap (cellsOf 3 rucell))∧wo.heap.size≤wr.heap.size∧Below Bs w wr) (fun i _=>(allR T l).length-(intOf i).toNat)
   case atStart=>exact ⟨0,Nat.zero_le _,rfl,htab2,hal,zw,hbr2⟩
   case round =>
    clear htab2 hal hbr2 zw
    obtain ⟨k,hka,rfl,htab,hal,zw,hbr⟩:=hrel
    by_cases hlk:k < (allR T l).length
    ·have hki2:(k:Int) < ((allR T l).length:Int):=by omega
     obtain ⟨ab,aoff,r,rfl,hab,hrk,hcc⟩:=(Arr.of_own hal).at_ hlk
     have c0:=hcc 0 (by omega)
     have c4:=hcc 1 (by omega)
     have c5:=hcc 2 (by omega)
     simp only [rucell,Nat.add_zero] at c0 c4 c5
     obtain ⟨f1,f2,f3,f4,f5,f6⟩:=hfit r (List.mem_of_getElem? hrk)
     have hnx:(((allR T l).map rnOf).take (k+1)).foldl ruF iniF=ruF ((((allR T l).map rnOf).take k).foldl ruF iniF) (rnOf r):=by
      rw [List.take_add_one,List.getElem?_map,hrk,List.foldl_append]
      rfl
     have HNX:=Lib.hid hnx
     clear hcc hrk hnx
     obtain ⟨rf,rt,rm⟩:=r
     dsimp only at f1 f2 f3 f4 f5 f6 c0 c4 c5
     obtain ⟨a,rfl⟩:∃ a:Nat,rf=a:=⟨rf.toNat,by omega⟩
     obtain ⟨b,rfl⟩:∃ b:Nat,rt=b:=⟨rt.toNat,by omega⟩
     simp only [rnOf,Int.toNat_natCast,ruF] at HNX
     have haT:a < T+1:=by omega
     have hbT:b < T+1:=by omega
     have hai:(a:Int) < (T:Int)+1:=by omega
     have hbi:(b:Int) < (T:Int)+1:=by omega
     go_upto_region 18 with (fail)
     have hX:=Blk.new wr 27 #[.int .i64 a,.int .i64 b,.int .i64 rm]
     have hb1:=(Below.refl wr.heap.size wr).alloc (Nat.le_refl _) (.cells #[.int .i64 a,.int .i64 b,.int .i64 rm] 27)
     have htab1:=htab.call hb1
     have hal1:=own_call hal hb1
     have hbr1:=hbr.trans (hb1.mono (by omega))
     have zw1:=Nat.le_trans zw hb1.size
     clear c0 c4 c5 htab hal hbr zw hb1
     generalize hF:(((allR T l).map rnOf).take k).foldl ruF iniF=F at *
     generalize wr.alloc (.cells #[.int .i64 a,.int .i64 b,.int .i64 rm] 27)=w3 at *
     generalize wr.heap.size=gx at *
     obtain ⟨p,hp,hph,hpl⟩:=htab1.head haT
     obtain ⟨e1,e2⟩:=htab1.rows.at_ hp hbT
     have q0:=hX.cell 0
     have q1:=hX.cell 1
     have q2:=hX.cell 2
     simp at q0 q1 q2
     have g0:=Ext.of q0
     have g1:=Ext.of q1
     have g2:=Ext.of q2
     have g3:=Ext.of hph
     have g4:=Ext.of e1
     clear q0 q1 q2 hph
     refine wp_region_tail (C:=fun w'=>∃ x:Ext w3,w'=x.w) 19 (by kernel_rfl) (by kernel_rfl) ⟨⟨(w3).drew,⟨rfl,rfl,rfl,Nat.le_refl _,fun _ _=>rfl⟩⟩,rfl⟩ ?_
     simp only [List.take_succ_cons,List.take_zero,List.drop_succ_cons,List.drop_zero]
     repeat (go_big_quiet_step (fail))
     refine wpQuiet_nil ?_
     intro _ hw'
     obtain ⟨xr,hw''⟩:=hw'
     subst hw''
     have htab4:=htab1.call xr.h
     have hal4:=own_call hal1 xr.h
     have hbr4:=hbr1.trans (xr.h.mono (by omega))
     have zw4:=Nat.le_trans zw1 xr.h.size
     have c0:=g4 xr
     have c4:=(xr.h.frozen (p:=⟨p.1,b,none⟩) (htab1.rows.lt hp)).trans e2
     clear g0 g1 g2 g3 g4 htab1 hal1 hbr1 zw1 e1 e2 hX
     obtain ⟨Z,hZ⟩:∃ Z:World,Z=xr.w:=⟨_,rfl⟩
     rw [← hZ] at htab4 hal4 hbr4 zw4 c0 c4 ⊢
     clear hZ xr
     have hk5:=htab4.put hp hbT (min (F a b) rm)
     have hal5:=hal4.kept (grown_setCell (g:=p.1) (o:=b) (.int .i64 (min (F a b) rm))) (.inr fun e=>by
      obtain ⟨cur,hcu,_⟩:=htab4.rows.row a p hp
      exact own_blk_ne hal4 hcu (by decide) e.symm)
     have hbr5:=hbr4.setCell (p:=⟨p.1,b,none⟩) (by show Bs≤p.1; omega) (.int .i64 (min (F a b) rm))
     have zw5:wo.heap.size≤(Z.setCell ⟨p.1,b,none⟩ (.int .i64 (min (F a b) rm))).heap.size:=by simp; omega
     clear htab4 hal4 hbr4 zw4
     go_wp2
     go_roundw
     case rel=>exact ⟨k+1,by omega,by go_num,by rw [HNX.out]; exact hk5,hal5,zw5,hbr5⟩
     case measure=>(simp [intOf]; try omega)
    ·obtain rfl:k=(allR T l).length:=by omega
     rw [List.take_of_length_le (by simp),allR_rn] at htab
     have hbd:=begF_bd (allL_net hk)
     change TabF wr W.heap.size bb (T+1) c1 rs (begF (allL T l)) at htab
     have HFAR:Hid (farM (T+1) (allL T l)=floF (T+1) (T+1) (begF (allL T l))):=rfl
     generalize begF (allL T l)=G0 at *
     have hTT:(T:Int)≤20:=by omega
     have hki2:¬ (((allR T l).length:Int) < ((allR T l).length:Int)):=by omega
     clear hal hfit
     go_upto_region 20 with (fail)
     go_loopw [11] (fun i wr=>∃ m:Nat,m≤T+1∧i = .int .i64 m∧TabF wr W.heap.size bb (T+1) c1 rs (floF (T+1) m G0)∧Below Bs w wr) (fun i _=>T+1-(intOf i).toNat)
     case atStart=>exact ⟨0,Nat.zero_le _,rfl,htab,hbr⟩
     case round =>
      clear htab hbr zw
      obtain ⟨m,hm,rfl,htab,hbr⟩:=hrel
      by_cases hlm:m < T+1
      ·have hmi:(m:Int) < (T:Int)+1:=by omega
       have hb1:BD (floF (T+1) m G0):=floF_bd hbd m
       have HG1:Hid (∀ H,floF (T+1) m G0=H→floF (T+1) (m+1) G0=matF (T+1) m (T+1) H):=fun H h=>by rw [← h]; rfl
       generalize hG1:floF (T+1) m G0=G1 at *
       replace HG1:=Lib.hid (HG1.out G1 rfl)
       clear hG1
       go_upto_region 23 with (fail)
       go_loopw [12] (fun i wr=>∃ i':Nat,i'≤T+1∧i = .int .i64 i'∧TabF wr W.heap.size bb (T+1) c1 rs (matF (T+1) m i' G1)∧Below Bs w wr) (fun i _=>T+1-(intOf i).toNat)
       case atStart=>exact ⟨0,Nat.zero_le _,rfl,htab,hbr⟩
       case round =>
        clear htab hbr
        obtain ⟨i',hi',rfl,htab,hbr⟩:=hrel
        by_cases hli:i' < T+1
        ·have hii:(i':Int) < (T:Int)+1:=by omega
         have hb2:BD (matF (T+1) m i' G1):=(matF_bd hb1 i').1
         have HG2:Hid (∀ H,matF (T+1) m i' G1=H→matF (T+1) m (i'+1) G1=rowG m i' (T+1) H):=fun H h=>by rw [← h]; rfl
         generalize hG2:matF (T+1) m i' G1=G2 at *
         replace HG2:=Lib.hid (HG2.out G2 rfl)
         clear hG2
         go_upto_region 26 with (fail)
         go_loopw [13] (fun i wr=>∃ k:Nat,k≤T+1∧i = .int .i64 k∧TabF wr W.heap.size bb (T+1) c1 rs (rowG m i' k G2)∧Below Bs w wr) (fun i _=>T+1-(intOf i).toNat)
         case atStart=>exact ⟨0,Nat.zero_le _,rfl,htab,hbr⟩
         case round =>
          clear htab hbr
          obtain ⟨k,hkT,rfl,htab,hbr⟩:=hrel
          by_cases hlk2:k < T+1
          ·have hki3:(k:Int) < (T:Int)+1:=by omega
           have hb3:BD (rowG m i' k G2):=(rowG_bd hb2 k).1
           have HG3:Hid (∀ H,rowG m i' k G2=H→rowG m i' (k+1) G2=stF m i' k H):=fun H h=>by rw [← h]; rfl
           generalize hG3:rowG m i' k G2=F at *
           replace HG3:=Lib.hid (HG3.out F rfl)
           clear hG3
           obtain ⟨p,hp,hph,hpl⟩:=htab.head hli
           obtain ⟨q,hq,hqh,hql⟩:=htab.head hlm
           obtain ⟨e1, -⟩:=htab.rows.at_ hp hlm
           obtain ⟨e2, -⟩:=htab.rows.at_ hq hlk2
           obtain ⟨e3,e4⟩:=htab.rows.at_ hp hlk2
           have d1:=hb3 i' m
           have d2:=hb3 m k
           have d3:=hb3 i' k
           have env:nv=1099511627776:=rfl
           rw [env] at d1 d2 d3
           by_cases hc1:F i' m < 1099511627776
           ·by_cases hc2:F m k < 1099511627776
            ·have HX:Hid (stF m i' k F=updM F i' k (max (-1099511627776) (min (F i' k) (F i' m+F m k)))):=by rw [Hid,stF,if_pos (by rw [env]; omega),env]
             have wsum:IntKind.i64.wrap (F i' m+F m k)=F i' m+F m k:=wrap_id _ (by omega) (by omega)
             clear env d1 d2 d3
             go_upto_region 29 with (fail)
             have g0:=Ext.of hph
             have g1:=Ext.of hqh
             have g2:=Ext.of e1
             have g3:=Ext.of e2
             have g4:=Ext.of e3
             clear hph hqh e1 e2
             refine wp_region_tail (C:=fun w'=>∃ x:Ext wr,w'=x.w) 29 (by kernel_rfl) (by kernel_rfl) ⟨⟨(wr).drew,⟨rfl,rfl,rfl,Nat.le_refl _,fun _ _=>rfl⟩⟩,rfl⟩ ?_
             simp only [List.take_succ_cons,List.take_zero,List.drop_succ_cons,List.drop_zero]
             repeat (go_big_quiet_step (fail))
             refine wpQuiet_nil ?_
             intro _ hw'
             obtain ⟨xr,hw''⟩:=hw'
             subst hw''
             have htab4:=htab.call xr.h
             have hbr4:=hbr.trans (xr.h.mono (by have:=htab.rows.lt hp; omega))
             have c0:=g4 xr
             have c4:=(xr.h.frozen (p:=⟨p.1,k,none⟩) (htab.rows.lt hp)).trans e4
             clear g0 g1 g2 g3 g4 htab hbr e3 e4
             obtain ⟨Z,hZ⟩:∃ Z:World,Z=xr.w:=⟨_,rfl⟩
             rw [← hZ] at htab4 hbr4 c0 c4 ⊢
             clear hZ xr
             generalize hx:max (-1099511627776) (min (F i' k) (F i' m+F m k))=x at *
             have hk5:=htab4.put hp hlk2 x
             have hbr5:=hbr4.setCell (p:=⟨p.1,k,none⟩) (by show Bs≤p.1; omega) (.int .i64 x)
             clear htab4 hbr4 hx
             go_wp2
             go_roundw
             case rel=>exact ⟨k+1,by omega,by go_num,by rw [HG3.out,HX.out]; exact hk5,hbr5⟩
             case measure=>(simp [intOf]; try omega)
            ·have HX:Hid (stF m i' k F=F):=by rw [Hid,stF,if_neg]; rw [env]; omega
             clear e3 e4 env
             go_wp2
             go_roundw
             case rel=>exact ⟨k+1,by omega,by go_num,by rw [HG3.out,HX.out]; exact htab,hbr⟩
             case measure=>(simp [intOf]; try omega)
           ·have HX:Hid (stF m i' k F=F):=by rw [Hid,stF,if_neg]; rw [env]; omega
            clear e2 e3 e4 env
            go_wp2
            go_roundw
            case rel=>exact ⟨k+1,by omega,by go_num,by rw [HG3.out,HX.out]; exact htab,hbr⟩
            case measure=>(simp [intOf]; try omega)
          ·obtain rfl:k=T+1:=by omega
           rw [← HG2.out] at htab
           go_wp2
           go_roundw
           case rel=>exact ⟨i'+1,by omega,by go_num,htab,hbr⟩
           case measure=>(simp [intOf]; try omega)
        ·obtain rfl:i'=T+1:=by omega
         rw [← HG1.out] at htab
         go_wp2
         go_roundw
         case rel=>exact ⟨m+1,by omega,by go_num,htab,hbr⟩
         case measure=>(simp [intOf]; try omega)
      ·obtain rfl:m=T+1:=by omega
       rw [← HFAR.out] at htab
       go_wp2
       go_ret
       exact ⟨_,bb,c1,rs,rfl,htab,hbr⟩
end Go.Proofs.YtaihbcmifjmapaaGreat
