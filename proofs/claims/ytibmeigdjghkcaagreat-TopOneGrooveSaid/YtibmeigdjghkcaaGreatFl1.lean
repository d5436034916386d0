/- Contract: fill. -/
import Derived.Test.YtibmeigdjghkcaaGreatFil
namespace Go.Proofs.YtibmeigdjghkcaaGreat
open Go.RowKit Go.Shelf
set_option linter.unusedVariables false
attribute [local go_sem] Oper.semAt_some
set_option maxRecDepth 100000 in
set_option maxHeartbeats 3200000 in
theorem fill_ok {W0:World} {B G:Nat} {l:NL} {ka aa ba da:Option Addr} {kc ac bc dc:Nat} {fb:Nat} (m:NetF W0 B G l ka kc aa ac ba bc da dc [] fb (fun _=>0) (fun _=>0)) (g:Good l) :
  Calls Tryz.prog 133 #[.pointer (some ⟨G,0,none⟩)] W0 fun r w'=>r = .returned (.tuple #[])∧Chg G fb W0 w'∧∃ f h,NetF w' B G l ka kc aa ac ba bc da dc [] fb f h∧MaxFlow l f:=by
 have hnN:(l.N:Int)=l.n:=g.nN
 have hN40:l.N≤40:=by have:=g.forty; omega
 have h120:=g.few
 have hla:=g.la10
 have hlb:=g.lb10
 have hla0:=g.la
 have hfG:=m.lo.2
 refine (callsIn_wide (n:=8)).1 ?_
 refine callsIn_of_wp_marks Tryz.func133 rfl trivial ?_ rfl
 simp only [Tryz.ntmps133,List.size_toArray,List.length_cons,List.length_nil,Nat.reduceAdd,Nat.reduceSub,Array.replicate_succ,Array.replicate_zero,List.push_toArray,List.append_toArray,List.nil_append,List.cons_append]
 refine wpIn_wide.2 ?_
 go_upto_region 1 with (fail)
 have b1:=(Below.refl W0.heap.size W0).alloc (Nat.le_refl _) (.cells #[.pointer (some ⟨G,0,none⟩)] 122)
 have x1:=Blk.new W0 122 #[.pointer (some ⟨G,0,none⟩)]
 have z1:(W0.alloc (.cells #[.pointer (some ⟨G,0,none⟩)] 122)).heap.size=W0.heap.size+1:=by simp
 have m1:=m.call b1
 generalize W0.alloc (.cells #[.pointer (some ⟨G,0,none⟩)] 122)=W1 at *
 obtain ⟨n0, -⟩:=m1.net.c6
 rw [← hnN] at n0
 have HNN:=Lib.hid hnN
 clear hnN
 have t0:=x1.cell 0
 simp at t0
 have hmk:=run_mk slT_int l.N (by omega) (by omega)
 go_upto_region 2 with (fail)
 have hE:=Blk.new W1 3 (madeCells #[.int .i64 0] l.N)
 have b2:=(Below.refl W1.heap.size W1).alloc (Nat.le_refl _) (.cells (madeCells #[.int .i64 0] l.N) 3)
 have z2:(W1.alloc (.cells (madeCells #[.int .i64 0] l.N) 3)).heap.size=W0.heap.size+2:=by simp [z1]
 have hE2:EndB (W1.alloc (.cells (madeCells #[.int .i64 0] l.N) 3)) (W0.heap.size+1) l.N (markD fun _=>false):=by
  have e:(rowA l.N fun u=>Value.int .i64 (markD (fun _=>false) u))=madeCells #[.int .i64 0] l.N:=(rowA_congr fun _ _=>by simp [markD]).trans (made_one _ _).symm
  unfold EndB
  rw [e,← z1]
  exact hE
 have x1b:=x1.call b2
 have m2:=m1.call b2
 have hbl2:=b1.trans (b2.mono b1.size)
 clear b1 b2 x1 m1 hmk z1 n0 hE t0
 generalize W1.alloc (.cells (madeCells #[.int .i64 0] l.N) 3)=W2 at *
 have x3:=Blk.new W2 30 #[.slice (some ⟨W0.heap.size+1,0,none⟩) l.N l.N]
 have b3:=(Below.refl W2.heap.size W2).alloc (Nat.le_refl _) (.cells #[.slice (some ⟨W0.heap.size+1,0,none⟩) l.N l.N] 30)
 rw [z2] at x3
 have hA:FilA W0 (W2.alloc (.cells #[.slice (some ⟨W0.heap.size+1,0,none⟩) l.N l.N] 30)) B G l ka kc aa ac ba bc da dc fb (fun _=>0) (fun _=>0) W0.heap.size (markD fun _=>false) :=
  ⟨m2.call b3,Chg.of_below (hbl2.trans (b3.mono (by omega))),x1b.call b3,Blk.call hE2 b3,x3,m.lt.1,m.lt.2,by have:=m.net.le; have:=m.lt.1; omega,rfl,m.net.le,m.lo.1⟩
 clear x3 b3 x1b m2 hE2 hbl2 z2
 rw [show W0.heap.size+1+1=W0.heap.size+2 from rfl]
 generalize W2.alloc (.cells #[.slice (some ⟨W0.heap.size+1,0,none⟩) l.N l.N] 30)=W3 at *
 have t0:=hA.nb.cell 0
 simp at t0
 obtain ⟨n0, -,n2,n3, -, -⟩:=hA.net.net.c6
 have f0:=Ext.of t0
 have f1:=Ext.of n2
 have f2:=Ext.of n3
 refine wp_region_schedH (C:=fun w'=>∃ x:Ext W3,w'=x.w) [(0,true),(1,true),(2,true),(3,true),(4,true),(5,true),(6,true),(7,true),(8,true),(9,true),(13,true),(10,false),(11,false),(12,true)] (by kernel_rfl) (by kernel_rfl) ⟨⟨W3.drew,(Below.refl _ W3).drew⟩,rfl⟩ ?_
 refine schedH_q (by rfl) (by rfl) ?_
 intro K hK
 go_big_quiet_op
 go_big_quiet_on
 refine schedH_q (by rfl) (by rfl) ?_
 intro K hK
 go_big_quiet_op
 go_big_quiet_on
 refine schedH_q (by rfl) (by rfl) ?_
 intro K hK
 go_big_quiet_op
 go_big_quiet_on
 refine schedH_q (by rfl) (by rfl) ?_
 intro K hK
 go_big_quiet_op
 go_big_quiet_on
 refine schedH_q (by rfl) (by rfl) ?_
 intro K hK
 go_big_quiet_op
 go_big_quiet_on
 refine schedH_q (by rfl) (by rfl) ?_
 intro K hK
 go_big_quiet_op
 go_big_quiet_on
 refine schedH_q (by rfl) (by rfl) ?_
 intro K hK
 go_big_quiet_op
 go_big_quiet_on
 refine schedH_q (by rfl) (by rfl) ?_
 intro K hK
 go_big_quiet_op
 go_big_quiet_on
 refine schedH_q (by rfl) (by rfl) ?_
 intro K hK
 go_big_quiet_op
 go_big_quiet_on
 refine schedH_q (by rfl) (by rfl) ?_
 intro K hK
 go_big_quiet_op
 go_big_quiet_on
 refine schedH_q (by rfl) (by rfl) ?_
 intro K hK
 go_big_quiet_op
 go_big_quiet_on
 clear f0 f1 f2 t0 n0 n2 n3
 have hAd:=hA.call (Below.refl W3.heap.size W3).drew
 have hb4:=(Below.refl W3.heap.size W3).drew
 generalize W3.drew=W4 at *
 refine schedH_c (by rfl) (by rfl) ?_
 intro K' hK'
 go_wp2
 have hP:=Blk.new W4 30 #[.slice aa l.left.length ac,.slice ba l.right.length bc]
 have hb5:=(Below.refl W4.heap.size W4).alloc (Nat.le_refl _) (.cells #[.slice aa l.left.length ac,.slice ba l.right.length bc] 30)
 have hb35:=hb4.trans (hb5.mono hb4.size)
 have hA5:=hAd.call hb5
 have hls:LLi (W4.alloc (.cells #[.slice aa l.left.length ac,.slice ba l.right.length bc] 30)) (.slice (some ⟨W4.heap.size,0,none⟩) 2 2) [l.left,l.right]:=by
  have hBs:B≤(W4.alloc (.cells #[.slice aa l.left.length ac,.slice ba l.right.length bc] 30)).heap.size:=by have:=hA5.sz; have:=hA5.lo; omega
  exact Arr.pair hP (by simp) (hA5.net.net.na.as_.more hBs) (hA5.net.net.na.bs.more hBs)
 have hcc:=concat_ok _ [l.left,l.right] _ hls (by simp; omega) (by simp; omega)
 refine hK' _ _ ⟨⟨⟨_,hb35⟩,rfl⟩,?_⟩
 clear hK' K' hP hls hAd hb4 hb5 hA
 generalize W4.alloc (.cells #[.slice aa l.left.length ac,.slice ba l.right.length bc] 30)=W5 at *
 have hfl:[l.left,l.right].flatten=intL (natL l.left++natL l.right):=by
  rw [intL_append,← g.left_int,← g.right_int]
  simp
 rw [hfl] at hcc
 have hfn:(intL (natL l.left++natL l.right)).length=(natL l.left++natL l.right).length:=by simp [intL]
 obtain ⟨es,hes⟩:∃ es,es=natL l.left++natL l.right:=⟨_,rfl⟩
 rw [← hes] at hcc hfn
 have HES:=Lib.hid hes
 clear hes hfl
 have hesl:es.length≤20:=by
  rw [HES.out]
  simp only [List.length_append,natL,List.length_map]
  omega
 refine schedH_c (by rfl) (by rfl) ?_
 intro K' hK'
 go_wp2_with fail
 refine hcc.mono ?_
 rintro e W6 ⟨v6,rfl,hown6,hb6⟩
 have hb36:=hb35.trans (hb6.mono hb35.size)
 have hA6:=hA5.call hb6
 obtain ⟨vA,vc,rfl⟩:=own_form hown6
 have hs5:=hA5.sz
 clear hcc hA5
 rw [hfn] at hown6
 rw [hfn]
 go_wp2
 refine hK' _ _ ⟨⟨⟨_,hb36⟩,rfl⟩,?_⟩
 clear hK' K' hb36 hb35 hb6
 refine schedH_q (by rfl) (by rfl) ?_
 intro K hK
 go_big_quiet_op
 go_big_quiet_on
 refine schedH_nil ?_
 go_wp2
 go_loopw [34] (fun i wr=>∃ k:Nat,k≤es.length∧i = .int .i64 k∧FilA W0 wr B G l ka kc aa ac ba bc da dc fb (fun _=>0) (fun _=>0) W0.heap.size (markD (firstB es k))∧wr.ownsRow W5.heap.size 3 1 (.slice vA es.length vc) es.length ((intL es).map (Value.int .i64))) (fun i _=>es.length-(intOf i).toNat)
 case atStart=>exact ⟨0,Nat.zero_le _,rfl,by rw [firstB_zero]; exact hA6,hown6⟩
 case round =>
  clear hA6 hown6
  obtain ⟨k,hk,rfl,hA,hown⟩:=hrel
  by_cases hlt:k < es.length
  ·have d1:decide (k < es.length)=true:=decide_eq_true hlt
   have d1':decide ((k:Int) < (es.length:Int))=true:=decide_eq_true (by omega)
   have hki:(k:Int) < (es.length:Int):=by omega
   have harr:Arr wr wr.heap.size 1 (.slice vA es.length vc) (intL es) icell:=Arr.of_own (by rw [flat_int,hfn]; exact hown)
   obtain ⟨x,hx⟩:∃ x,es[k]? = some x:=⟨_,List.getElem?_eq_getElem hlt⟩
   obtain ⟨b,off,y,rfl,hb,hy,c0⟩:=numx_at harr (k:=k) (by rw [hfn]; exact hlt)
   rw [intL_at hx] at hy
   injection hy with hy
   subst hy
   have hxN:x < l.N:=by
    have hm:=List.mem_of_getElem? hx
    rw [HES.out] at hm
    rcases List.mem_append.1 hm with hm | hm
    ·exact g.ltA (NL.mA.2 hm)
    ·exact g.ltB (NL.mB.2 hm)
   have hxi:(x:Int) < (l.N:Int):=by omega
   have e0:=hA.eb.cell 0
   simp at e0
   have e1:=hA.er.at_ hxN
   have e2:=Blk.frozen hA.er x
   have hFB:=firstB_succ hx
   have hA2:=hA.end_ (i:=x) (x:=1) (g:=markD (firstB es (k+1))) (fun j _=>by rw [hFB]; exact markD_plus _ _ _)
   have hown2:(wr.setCell ⟨W0.heap.size+1,x,none⟩ (.int .i64 1)).ownsRow W5.heap.size 3 1 (.slice (some ⟨b,off,none⟩) es.length vc) es.length ((intL es).map (Value.int .i64)):=own_low hown (by omega)
   clear hA hown harr hx hFB
   go_wp2
   go_roundw
   case rel=>exact ⟨k+1,by omega,by go_num,hA2,hown2⟩
   case measure=>(simp [intOf]; try omega)
  ·obtain rfl:k=es.length:=by omega
   have d1:decide (es.length < es.length)=false:=by simp
   have hE:∀ u,firstB es es.length u=isEnd l.A l.B u:=fun u=>by
    rw [firstB_all,HES.out]
    unfold isEnd NL.A NL.B
    rw [Bool.eq_iff_iff]
    simp
   have hEf:firstB es es.length=isEnd l.A l.B:=funext hE
   rw [hEf] at hA
   clear hown hE hEf HES hfn
   have t0:=hA.nb.cell 0
   simp at t0
   obtain ⟨n0, -,n2,n3, -, -⟩:=hA.net.net.c6
   go_wp2
   refine wp_loop_ghost_k (fun (gk:Nat) (a':Act) (w':World)=>∃ (u6 u7 u8 u49 u50 u51 u52 u53 u54 u55 u56 u57 u58 u59 u60 u61 u62 u63 u64 u65 u66 u67 u68 u69 u70 u71 u72 u73 u74 u75 u76 u77 u78 u79 u80 u81 u82:Value) (j T:Nat) (ds:List Deferred),
    (gk=l.left.length-j∧j≤l.left.length∧T≤w'.heap.size∧W0.heap.size+3≤T∧Marks (W0.heap.size+3) T w' ds∧FilA W0 w' B G l ka kc aa ac ba bc da dc fb (startD l.L l.A (firstB (natL l.left) j)) (highD l.N (firstB (natL l.left) j)) W0.heap.size (markD (isEnd l.A l.B))) ∧
    a'={ tmps:=#[.pointer (some ⟨G,0,none⟩),.pointer (some ⟨W0.heap.size,0,none⟩),.pointer (some ⟨W0.heap.size+2,0,none⟩),undef,u4,undef,u6,u7,u8,undef,undef,undef,undef,undef,undef,.pointer (some ⟨G,0,none⟩),.pointer (some ⟨G,0,none⟩),.pointer (some ⟨G,0,none⟩),.pointer (some ⟨G,0,none⟩),.int .i64 (l.N:Int),.slice (some ⟨W0.heap.size+1,0,none⟩) l.N l.N,.pointer (some ⟨G,0,none⟩),.pointer (some ⟨G,0,none⟩),.pointer (some ⟨G,0,none⟩),.pointer (some ⟨G,2,none⟩),.slice aa l.left.length ac,.pointer (some ⟨G,0,none⟩),.pointer (some ⟨G,0,none⟩),.pointer (some ⟨G,0,none⟩),.pointer (some ⟨G,3,none⟩),.slice ba l.right.length bc,.slice (some ⟨W4.heap.size,0,none⟩) 2 2,.slice vA es.length vc,.int .i64 (es.length:Int),.int .i64 (es.length:Int),.bool false,u36,u37,u38,u39,u40,u41,.pointer (some ⟨G,0,none⟩),.pointer (some ⟨G,0,none⟩),.pointer (some ⟨G,0,none⟩),.pointer (some ⟨G,2,none⟩),.slice aa l.left.length ac,.int .i64 (l.left.length:Int),.int .i64 (j:Int),u49,u50,u51,u52,u53,u54,u55,u56,u57,u58,u59,u60,u61,u62,u63,u64,u65,u66,u67,u68,u69,u70,u71,u72,u73,u74,u75,u76,u77,u78,u79,u80,u81,u82,undef,undef,undef,undef,undef,undef,undef,undef,undef,undef,undef,undef,undef,undef,undef,undef,undef,undef,undef,undef,undef,undef,undef,undef,undef,undef,undef,undef,undef,undef,undef,undef,undef,undef,undef,undef,undef,undef,undef,undef,undef,undef,undef,undef,undef,undef,undef,undef,undef,undef,undef,undef,undef,undef,undef,undef,undef,undef,undef,undef,undef,undef,undef,undef,undef,undef,undef,undef,undef,undef,undef,undef,undef,undef,undef,undef,undef,undef,undef,undef,undef,undef,undef,undef,undef,undef,undef,undef,undef,undef,undef,undef,undef,undef,undef,undef,undef,undef,undef,undef,undef,undef,undef,undef,undef,undef,undef,undef,undef,undef],defers:=ds }) l.left.length ⟨_,_,_,_,_,_,_,_,_,_,_,_,_,_,_,_,_,_,_,_,_,_,_,_,_,_,_,_,_,_,_,_,_,_,_,_,_,0,W0.heap.size+3,[],⟨rfl,Nat.zero_le _,hA.sz,Nat.le_refl _,trivial,?_⟩,rfl⟩ ?_
   ·rw [firstB_zero]
    have e1:startD l.L l.A (fun _=>false)=fun _=>0:=funext fun i=>startD_none l.L l.A i
    rw [e1]
    exact hA
   clear hA t0 n0 n2 n3 d1
   intro gk a' wq hI J K hJ hK
   obtain ⟨u6,u7,u8,u49,u50,u51,u52,u53,u54,u55,u56,u57,u58,u59,u60,u61,u62,u63,u64,u65,u66,u67,u68,u69,u70,u71,u72,u73,u74,u75,u76,u77,u78,u79,u80,u81,u82,j,T,ds,⟨rfl,hjn,hTs,hTl,hM,hA⟩,rfl⟩:=hI
   have HJ:=Lib.hid hJ
   clear hJ
   dsimp only
   by_cases hjl:j < l.left.length
   ·have d1:decide (j < l.left.length)=true:=decide_eq_true hjl
    have d1':decide ((j:Int) < (l.left.length:Int))=true:=decide_eq_true (by omega)
    have hji:(j:Int) < (l.left.length:Int):=by omega
    obtain ⟨k1,hk1⟩:∃ k1,(natL l.left)[j]? = some k1:=⟨_,List.getElem?_eq_getElem (by simp [natL]; omega)⟩
    obtain ⟨xb,xo,y,rfl,hxb,hy,c0⟩:=numx_at hA.net.net.na.as_ hjl
    rw [g.left_int,intL_at hk1] at hy
    injection hy with hy
    subst hy
    have hk1A:l.A k1=true:=NL.mA.2 (List.mem_of_getElem? hk1)
    have hk1N:k1 < l.N:=g.ltA hk1A
    have hk40:k1 < 40:=by omega
    have hki:(k1:Int) < 40:=by omega
    have hFB:=firstB_succ hk1
    have hDk:firstB (natL l.left) j k1=false:=by
     cases hd:firstB (natL l.left) j k1 with
     | false=>rfl
     | true =>
       have hnd:(natL l.left).Nodup:=nodup_of_lt (rises_nat g.ra).1
       have hn2:((natL l.left).take (j+1)).Nodup:=hnd.sublist (List.take_sublist _ _)
       rw [take_snoc hk1,List.nodup_append] at hn2
       exact absurd rfl (hn2.2.2 k1 (by simpa [firstB] using hd) k1 (by simp))
    have hDA:∀ u,firstB (natL l.left) j u=true→l.A u=true:=fun u hu=>by
     rw [NL.mA]
     exact List.mem_of_mem_take (by simpa [firstB] using hu)
    have HFB:=Lib.hid hFB
    clear hk1 hFB
    generalize firstB (natL l.left) j=D at *
    have t0:=hA.nb.cell 0
    simp at t0
    obtain ⟨n0, -⟩:=hA.net.net.c6
    rw [← HNN.out] at n0
    go_upto_region 10 with (fail)
    have f0:=Ext.of t0
    have f1:=Ext.of n0
    have h0:=hA.net.net.hi hk40
    have h1:=hA.net.net.blk.frozen (6+k1)
    have hg1:wq.grownBy (wq.setCell ⟨G,6+k1,none⟩ (.int .i64 (l.N:Int))) (some G):=grown_setCell _
    have hlo:=hA.lo
    have hA1:=hA.high (hA.net.raise hk40 l.N) hg1
    rw [highD_plus] at hA1
    have hM1:=hM.grown hg1 fun r e=>by injection e with e; subst e; exact .inr (.inl (by omega))
    have hTs1:=Nat.le_trans hTs hg1.size
    refine wp_region_schedW (C:=fun w'=>∃ x:Ext wq,w'=x.w) [(0,true),(1,true),(2,true),(3,true),(4,true),(5,true),(6,true),(7,false),(8,false),(9,false),(10,false)] (by kernel_rfl) (by kernel_rfl) ⟨⟨wq.drew,(Below.refl _ wq).drew⟩,rfl⟩ ?_
    refine sched_q (by rfl) (by rfl) ?_
    intro K hK
    go_big_quiet_op
    go_big_quiet_on
    refine sched_q (by rfl) (by rfl) ?_
    intro K hK
    go_big_quiet_op
    go_big_quiet_on
    refine sched_q (by rfl) (by rfl) ?_
    intro K hK
    go_big_quiet_op
    go_big_quiet_on
    refine sched_q (by rfl) (by rfl) ?_
    intro K hK
    go_big_quiet_op
    go_big_quiet_on
    refine sched_q (by rfl) (by rfl) ?_
    intro K hK
    go_big_quiet_op
    go_big_quiet_on
    refine sched_q (by rfl) (by rfl) ?_
    intro K hK
    go_big_quiet_op
    go_big_quiet_on
    refine sched_q (by rfl) (by rfl) ?_
    intro K hK
    go_big_quiet_op
    go_big_quiet_on
    refine sched_c (by rfl) (by rfl) ?_
    intro K' hK'
    go_wp2
    refine hK' _ _ ⟨.inr ⟨⟨wq.drew,(Below.refl _ wq).drew⟩,rfl⟩,?_⟩
    clear hK' K'
    refine sched_c (by rfl) (by rfl) ?_
    intro K' hK'
    go_wp2
    refine hK' _ _ ⟨.inr ⟨⟨wq.drew,(Below.refl _ wq).drew⟩,rfl⟩,?_⟩
    clear hK' K'
    refine sched_c (by rfl) (by rfl) ?_
    intro K' hK'
    go_wp2
    refine hK' _ _ ⟨.inr ⟨⟨wq.drew,(Below.refl _ wq).drew⟩,rfl⟩,?_⟩
    clear hK' K'
    refine sched_c (by rfl) (by rfl) ?_
    intro K' hK'
    go_wp2
    refine hK' _ _ ⟨(by first | exact .inl rfl | exact .inl trivial),?_⟩
    clear hK' K'
    refine sched_nil ?_
    have hA2:=hA1.call (Below.refl (wq.setCell ⟨G,6+k1,none⟩ (.int .i64 (l.N:Int))).heap.size _).drew
    have hM2:=hM1.call (Below.refl (wq.setCell ⟨G,6+k1,none⟩ (.int .i64 (l.N:Int))).heap.size _).drew
    have hTs2:T≤(wq.setCell ⟨G,6+k1,none⟩ (.int .i64 (l.N:Int))).drew.heap.size:=hTs1
    clear f0 f1 h0 h1 hg1 hA hA1 hM hM1 hTs hTs1 t0 n0 c0
    generalize (wq.setCell ⟨G,6+k1,none⟩ (.int .i64 (l.N:Int))).drew=v1 at *
    have t0:=hA2.nb.cell 0
    simp at t0
    go_wp2_with fail
    refine (ways_ok G k1 v1).mono ?_
    rintro e v2 ⟨rfl,hP,hQ,hz2,hb2⟩
    have hA3:=hA2.call hb2
    have hM3:=hM2.call hb2
    have hs1:=hA2.sz
    clear hA2 hM2 t0 hb2
    generalize v1.heap.size=b1 at *
    have hin:Fi2In W0 B G l ka kc (some ⟨xb,xo,none⟩) ac ba bc da dc fb (highD l.N (plus D k1)) W0.heap.size (markD (isEnd l.A l.B)) D k1 b1 T ds [] v2:=⟨hM3,by omega,hA3⟩
    have hnm:=hA3.net.net
    clear hM3 hA3
    go_wp2
    refine (wpIn_wide (n:=8)).1 ?_
    refine wpIn_range_list (F:=Fence.wide) (n:=8) (a:=?aa) rfl (by omega) (gf:=139) (lb:=#[.pointer (some ⟨b1,0,none⟩),.pointer (some ⟨b1+1,0,none⟩)]) ?hgg trivial (enters_of Tryz.func139 (by kernel_rfl) rfl)
     (ways_seq 4 b1 (b1+1) k1 v2 g (fun x hx=>by cases hx) hnm hP hQ) ?hKt ?hKb (Below.refl _ _) ?hps (Fi2In W0 B G l ka kc (some ⟨xb,xo,none⟩) ac ba bc da dc fb (highD l.N (plus D k1)) W0.heap.size (markD (isEnd l.A l.B)) D k1 b1 T ds) ?hI hin (WayAx (Act.tmps ?aa) 65 7 (b1+2) k1) WayAx.own ?assign ?body ?done
    case hKt=>exact fun h1 h2=>h1.trans h2
    case hKb=>exact fun W y o o' hl _ _ _ k hk=>World.putObj_heap_other (by omega)
    case hgg=>rfl
    case hps=>exact fun _=>rfl
    case hI =>
     intro pre W W' row hs hg hr
     exact hs.grown hg fun ρ e=>by have:=(hr ρ e).1; exact ⟨by omega,by omega⟩
    case assign =>
     intro y pre x post W K hi hpre hsz hK
     have hx:=Blk.new W 131 #[.int .i64 (k1:Int),.int .i64 (x.1:Int),.int .i64 (x.2:Int)]
     have hgA:=World.grownBy_alloc W (.cells #[.int .i64 (k1:Int),.int .i64 (x.1:Int),.int .i64 (x.2:Int)] 131) none
     have hk:=hK ({ tmps:=(_:Array Value),defers:=[] }) (W.alloc (.cells #[.int .i64 (k1:Int),.int .i64 (x.1:Int),.int .i64 (x.2:Int)] 131)) ((KeepsOthers.alloc _ _).from _) (KeepN.of_grown hgA (by omega) fun r e=>by cases e) (hi.grown hgA fun r e=>by cases e) ⟨W.heap.size,by omega,hx,rfl⟩
     simp [encW]
     gi_wp2
     exact hk
    case body =>
     rintro y pre ⟨v,i⟩ post a' W ⟨hM,hsz,hA⟩ ⟨Bx,hBx,bX,rfl⟩ hpre
     simp only [List.setIfInBounds_toArray,List.set_cons_succ,List.set_cons_zero]
     dsimp only at bX
     have hmem:(v,i)∈waysL l.L (natL []) k1:=by rw [← hpre]; simp
     have hway:=((mem_waysL g.net).1 hmem).1
     have hvN:=(way_lt g.net hway).2
     have hil:i < l.links.length:=by rw [← NL.len]; exact hway.1
     have hno:(pre.any fun p=>p.2==i)=false:=by
      rw [List.any_eq_false]
      intro p hp
      have hpw:=ways_links l.L (natL []) k1
      rw [← hpre,List.pairwise_append] at hpw
      have:=hpw.2.2 p hp (v,i) (by simp)
      simp only at this
      simp
      omega
     have hfit:=midF_fits (A:=l.A) (D:=D) g.net (k:=k1) (pre:=pre)
     have hcl:=left_ok hA.net g hfit k1 v i hil
     have t0:=hA.nb.cell 0
     have p0:=bX.cell 0
     have p1:=bX.cell 1
     have p2:=bX.cell 2
     simp at t0 p0 p1 p2
     clear hpre hmem
     have HFIT:=Lib.hid hfit
     clear hfit
     gi_wp2_with fail
     refine ⟨trivial,(CallsIn.inRound _ (callsIn_wide.2 hcl)).mono ?_⟩
     rintro e W6 ⟨rfl,hb6⟩
     have hA6:=hA.call hb6
     have hM6:=hM.call hb6
     have bX6:=bX.call hb6
     have hs6:=hb6.size
     clear hA hM bX t0 p0 p1 p2 hcl
     have t0:=hA6.nb.cell 0
     have p1:=bX6.cell 1
     simp at t0 p1
     obtain ⟨-, -,n2, -, -, -⟩:=hA6.net.net.c6
     have hB6:B≤W6.heap.size:=by have:=hA6.sz; omega
     have HCN:Hid (∀ x:Ext W6,Calls Tryz.prog 67 #[.slice (some ⟨xb,xo,none⟩) l.left.length ac,.int .i64 (v:Int)] x.w fun e w''=>e = .returned (.bool (l.A v))∧∃ y:Ext W6,w''=y.w):=fun x=>by
      have:=contains_int_ok _ l.left (v:Int) x.w (((hA6.net.net.na.as_.more hB6).below x.h).more x.h.size)
      rw [drop_any g.left_pos] at this
      exact ext_call x this
     gi_upto_region 14 with fail
     have f0:=Ext.of t0
     have f1:=Ext.of p1
     have f2:=Ext.of n2
     refine wpIn_region_ext (by kernel_rfl) (by kernel_rfl) (by kernel_rfl) ?_
     repeat (go_big_quiet_step (first | (go_at_call 67; with_reducible exact HCN.out _)))
     refine wpQuiet_nil ?_
     intro _ hw'
     obtain ⟨xr,hw''⟩:=hw'
     subst hw''
     have hA7:=hA6.call xr.h
     have hM7:=hM6.call xr.h
     have bX7:=bX6.call xr.h
     have hb7:=hb6.trans (xr.h.mono hb6.size)
     have hs7:=hb7.size
     obtain ⟨Z,hZ⟩:∃ Z:World,Z=xr.w:=⟨_,rfl⟩
     rw [← hZ] at hA7 hM7 bX7 hb7 hs7 ⊢
     clear hZ xr hA6 hM6 bX6 hb6 hs6 t0 p1 n2 f0 f1 f2 HCN hB6
     cases hAv:l.A v
     ·obtain ⟨hres,hpu⟩:=midF_push (A:=l.A) (D:=D) g.net hway hk1A hAv hDA hDk hno
      obtain ⟨a9,b9,t, -,hlk, -, -, -,ht1,ht2⟩:=g.lk_at hil
      have hpk:=push_ok hA7.net g HFIT.out k1 v i hil (resF l.L (midF l.L l.A D k1 pre) k1 i) (by rw [hres,hlk]; exact ⟨by show -4000000≤t; omega,by show t≤4000000; omega⟩)
      have HPU:=Lib.hid hpu
      have HAV:=Lib.hid hAv
      generalize resF l.L (midF l.L l.A D k1 pre) k1 i=much at *
      have t0:=hA7.nb.cell 0
      have p0:=bX7.cell 0
      have p1:=bX7.cell 1
      have p2:=bX7.cell 2
      simp at t0 p0 p1 p2
      clear hres hpu hlk hAv
      gi_wp2_with fail
      refine ⟨trivial,(CallsIn.inRound _ (callsIn_wide.2 hpk)).mono ?_⟩
      rintro e W8 ⟨rfl,hn8,hg8⟩
      have hA8:=(hA7.flow hn8 hg8).congr fun j _=>HPU.out j
      have hM8:=hM7.grown hg8 fun r e=>by injection e with e; subst e; exact .inr (.inl (by omega))
      have hs8:=hg8.size
      clear hpk t0 p0 p1 p2 hn8
      gi_wp2
      exact ⟨(keepsFrom_cells (grown_call hb7 none) fun r e=>by cases e).trans (keepsFrom_cells hg8 fun r e=>by injection e; exact .inl (by omega)),
       (KeepN.of_grown (grown_call hb7 none) (by omega) fun r e=>by cases e).trans (KeepN.of_grown hg8 (by omega) fun r e=>by injection e; omega),hM8,by omega,hA8⟩
     ·have hmf:=midF_skip (D:=D) (pre:=pre) hway hk1A hAv
      have hA8:=hA7.congr fun j _=>(hmf j).symm
      clear hmf hA7
      gi_wp2
      exact ⟨keepsFrom_cells (grown_call hb7 none) (fun r e=>by cases e),KeepN.of_grown (grown_call hb7 none) (by omega) (fun r e=>by cases e),hM7,by omega,hA8⟩
    case done =>
     rintro D' W hD ⟨hM,hsz,hA⟩ hdf
     have hMk:=hM.cons (D:=D') (T':=W.heap.size) (by omega) (by omega) (heap_lt hdf) hdf
     have hDl:=heap_lt hdf
     have hA':=hA.congr fun i hi=>midF_end (A:=l.A) (D:=D) g.net (k:=k1) i (by rw [NL.len]; exact hi)
     rw [← HFB.out] at hA'
     clear hA hM
     go_wp2
     refine ⟨l.left.length-(j+1),by omega,HJ.out _ _ _ ⟨_,_,_,_,_,_,_,_,_,_,_,_,_,_,_,_,_,_,_,_,_,_,_,_,_,_,_,_,_,_,_,_,_,_,_,_,_,j+1,W.heap.size,_,⟨rfl,by omega,Nat.le_refl _,by omega,hMk,hA'⟩,rfl⟩⟩
   ·clear HJ
    obtain rfl:j=l.left.length:=by omega
    have d1:decide (l.left.length < l.left.length)=false:=by simp
    have hll:l.left.length=(natL l.left).length:=by simp [natL]
    have hfA:firstB (natL l.left) l.left.length=l.A:=by
     rw [hll,firstB_all]
     rfl
    rw [hfA,startD_all,highD_all] at hA
    clear hll hfA
    have t0:=hA.nb.cell 0
    simp at t0
    have hst:=start_pre g.net g.ends
    have hkp:=kept_ok hA.net g (fun i hi=>g.flow_bound hst.fits hi)
    go_wp2_with fail
    refine hkp.mono ?_
    rintro e w5 ⟨rfl,hb5⟩
    have hA5:=hA.call hb5
    have hM5:=hM.call hb5
    clear hA hM t0 hkp
    obtain ⟨f,hf⟩:∃ f,f=startF l.L l.A:=⟨_,rfl⟩
    obtain ⟨h,hh⟩:∃ h,h=startH l.N l.A:=⟨_,rfl⟩
    have hrnd:=start_wait g.net g.ends
    rw [← hf,← hh] at hA5 hst hrnd
    rw [← hf]
    clear hf hh
    have hi40:=amt_i40 (keptF l.L f)
    have h1c:=amt_one (keptF l.L f)
    have hs40:(40:Nat)=(amtA (keptF l.L f)).size:=(rowA_size _ _).symm
    have x1:Blk (w5.alloc (.cells #[.int .i64 0,.int .i64 0,.int .i64 0,.int .i64 0,.int .i64 0,.int .i64 0,.int .i64 0,.int .i64 0,.int .i64 0,.int .i64 0,.int .i64 0,.int .i64 0,.int .i64 0,.int .i64 0,.int .i64 0,.int .i64 0,.int .i64 0,.int .i64 0,.int .i64 0,.int .i64 0,.int .i64 0,.int .i64 0,.int .i64 0,.int .i64 0,.int .i64 0,.int .i64 0,.int .i64 0,.int .i64 0,.int .i64 0,.int .i64 0,.int .i64 0,.int .i64 0,.int .i64 0,.int .i64 0,.int .i64 0,.int .i64 0,.int .i64 0,.int .i64 0,.int .i64 0,.int .i64 0] 158)) w5.heap.size 158 _:=Blk.new w5 158 _
    have hB1:=(Below.refl w5.heap.size w5).alloc (Nat.le_refl _) (.cells #[.int .i64 0,.int .i64 0,.int .i64 0,.int .i64 0,.int .i64 0,.int .i64 0,.int .i64 0,.int .i64 0,.int .i64 0,.int .i64 0,.int .i64 0,.int .i64 0,.int .i64 0,.int .i64 0,.int .i64 0,.int .i64 0,.int .i64 0,.int .i64 0,.int .i64 0,.int .i64 0,.int .i64 0,.int .i64 0,.int .i64 0,.int .i64 0,.int .i64 0,.int .i64 0,.int .i64 0,.int .i64 0,.int .i64 0,.int .i64 0,.int .i64 0,.int .i64 0,.int .i64 0,.int .i64 0,.int .i64 0,.int .i64 0,.int .i64 0,.int .i64 0,.int .i64 0,.int .i64 0] 158)
    go_upto_region 18 with (refine wpList_store_row rfl 158 (.tmp 9) (.tmp 84) rfl w5.heap.size (amtA (keptF l.L f)) rfl rfl 158 _ x1 hi40 hs40 h1c ?_)
    have hset:Blk ((w5.alloc (.cells #[.int .i64 0,.int .i64 0,.int .i64 0,.int .i64 0,.int .i64 0,.int .i64 0,.int .i64 0,.int .i64 0,.int .i64 0,.int .i64 0,.int .i64 0,.int .i64 0,.int .i64 0,.int .i64 0,.int .i64 0,.int .i64 0,.int .i64 0,.int .i64 0,.int .i64 0,.int .i64 0,.int .i64 0,.int .i64 0,.int .i64 0,.int .i64 0,.int .i64 0,.int .i64 0,.int .i64 0,.int .i64 0,.int .i64 0,.int .i64 0,.int .i64 0,.int .i64 0,.int .i64 0,.int .i64 0,.int .i64 0,.int .i64 0,.int .i64 0,.int .i64 0,.int .i64 0,.int .i64 0] 158)).setRow w5.heap.size (amtA (keptF l.L f))) w5.heap.size 158 (amtA (keptF l.L f)):=setRow_heap _ w5.heap.size _ _ 158 (0,0) x1
    have hB2:=below_setRow hB1 (Nat.le_refl _) (amtA (keptF l.L f))
    have hz2:((w5.alloc (.cells #[.int .i64 0,.int .i64 0,.int .i64 0,.int .i64 0,.int .i64 0,.int .i64 0,.int .i64 0,.int .i64 0,.int .i64 0,.int .i64 0,.int .i64 0,.int .i64 0,.int .i64 0,.int .i64 0,.int .i64 0,.int .i64 0,.int .i64 0,.int .i64 0,.int .i64 0,.int .i64 0,.int .i64 0,.int .i64 0,.int .i64 0,.int .i64 0,.int .i64 0,.int .i64 0,.int .i64 0,.int .i64 0,.int .i64 0,.int .i64 0,.int .i64 0,.int .i64 0,.int .i64 0,.int .i64 0,.int .i64 0,.int .i64 0,.int .i64 0,.int .i64 0,.int .i64 0,.int .i64 0] 158)).setRow w5.heap.size (amtA (keptF l.L f))).heap.size=w5.heap.size+1:=by simp
    clear x1 hB1 hi40 h1c hs40
    generalize (w5.alloc (.cells #[.int .i64 0,.int .i64 0,.int .i64 0,.int .i64 0,.int .i64 0,.int .i64 0,.int .i64 0,.int .i64 0,.int .i64 0,.int .i64 0,.int .i64 0,.int .i64 0,.int .i64 0,.int .i64 0,.int .i64 0,.int .i64 0,.int .i64 0,.int .i64 0,.int .i64 0,.int .i64 0,.int .i64 0,.int .i64 0,.int .i64 0,.int .i64 0,.int .i64 0,.int .i64 0,.int .i64 0,.int .i64 0,.int .i64 0,.int .i64 0,.int .i64 0,.int .i64 0,.int .i64 0,.int .i64 0,.int .i64 0,.int .i64 0,.int .i64 0,.int .i64 0,.int .i64 0,.int .i64 0] 158)).setRow w5.heap.size (amtA (keptF l.L f))=w6 at *
    have hA6:=hA5.call hB2
    have hM6:=hM5.call hB2
    have hk6:AmtB w6 w5.heap.size (keptF l.L f):=hset
    have hs5b:=hA5.sz
    have hTs6:T≤w5.heap.size:=Nat.le_trans hTs hb5.size
    clear hset hB2 hA5 hM5 hb5
    simp only [Act.put]
    go_upto_region 19 with (fail)
    have x7:=Blk.new w6 30 #[.slice none 0 0]
    have b7:=(Below.refl w6.heap.size w6).alloc (Nat.le_refl _) (.cells #[.slice none 0 0] 30)
    have z7:(w6.alloc (.cells #[.slice none 0 0] 30)).heap.size=w5.heap.size+2:=by simp [hz2]
    rw [hz2] at x7
    have hF:FilB W0 (w6.alloc (.cells #[.slice none 0 0] 30)) B G l ka kc aa ac ba bc da dc fb f h W0.heap.size w5.heap.size (keptF l.L f) (.slice none 0 0) (waitTo l f 0) :=
     ⟨hA6.call b7,Blk.call hk6 b7,x7,.inl ⟨rfl,rfl⟩,hs5b⟩
    have hM7:=hM6.call b7
    clear x7 hk6 hA6 hM6 b7
    generalize w6.alloc (.cells #[.slice none 0 0] 30)=w7 at *
    generalize w5.heap.size=kb at *
    have t0:=hF.a.nb.cell 0
    simp at t0
    obtain ⟨n0, -⟩:=hF.a.net.net.c6
    rw [← HNN.out] at n0
    go_wp2
    go_loopw [90] (fun i wr=>∃ (k:Nat) (qv:Value),k≤l.N∧i = .int .i64 k∧FilB W0 wr B G l ka kc aa ac ba bc da dc fb f h W0.heap.size kb (keptF l.L f) qv (waitTo l f k)∧Marks (W0.heap.size+3) T wr ds) (fun i _=>l.N-(intOf i).toNat)
    case atStart=>exact ⟨0,_,Nat.zero_le _,rfl,hF,hM7⟩
    case round =>
     clear hF hM7 t0 n0
     obtain ⟨k,qv,hk,rfl,hF,hM⟩:=hrel
     by_cases hlt:k < l.N
     ·have d1:decide (k < l.N)=true:=decide_eq_true hlt
      have d1':decide ((k:Int) < (l.N:Int))=true:=decide_eq_true (by omega)
      have hki:(k:Int) < (l.N:Int):=by omega
      have hk40:(k:Int) < 40:=by omega
      have e0:=hF.a.eb.cell 0
      simp at e0
      have e1:=hF.a.er.at_ hlt
      have hws:=waitTo_succ l f k
      have hwl:=waitTo_len l f k
      have c1:=hF.kp.at_ (i:=k) (by omega)
      by_cases hend:isEnd l.A l.B k=false
      ·have hm0:markD (isEnd l.A l.B) k=0:=by unfold markD; rw [hend]; rfl
       rw [hm0] at e1
       by_cases hpos:0 < keptF l.L f k
       ·have d2:decide (0 < keptF l.L f k)=true:=decide_eq_true hpos
        rw [if_pos ⟨hend,hpos⟩] at hws
        have HWS:=Lib.hid hws
        clear hws hend hm0 hpos
        have q0:=hF.wx.cell 0
        simp at q0
        have hql:(intL (waitTo l f k)).length≤40:=by simp only [intL,List.length_map]; omega
        have hsz3:=hF.sz
        go_wp2_with (at_builtin; refine wpList_appQ rfl (.tmp 104) (.tmp 106) rfl rfl hF.que rfl (by omega) (by omega) ?_)
        intro v3 w3 hq3 hg3 hat3
        obtain ⟨qA,qc,rfl, -⟩:=hq3.form
        generalize (intL (waitTo l f k)++[(k:Int)]).length=vn at *
        have w0:Blk w3 (kb+1) 30 #[qv]:=hF.wx.grown hg3 fun e=>by have:=(hF.que.lt e.symm).1; omega
        have q1:=w0.cell 0
        have q2:=w0.frozen 0
        simp at q1
        have hq4:QRow w3 (kb+2) (.slice qA vn qc) (intL (waitTo l f (k+1))):=by rw [HWS.out,intL_append]; exact hq3
        have hF4:=hF.grew hg3 hq4
        have hM4:=(hM.grown hg3 fun r e => .inr (.inr (by obtain ⟨cs,hcs⟩:=hF.que.cells e; exact ⟨cs,_,_,hcs⟩))).grown (grown_setCell (g:=kb+1) (o:=0) (.slice qA vn qc)) fun r e=>by injection e with e; subst e; exact .inr (.inr ⟨_,_,_,w0⟩)
        clear hF hM hq3 hg3 hat3 hq4 q0 w0 e0 e1 c1
        go_wp2
        go_roundw
        case rel=>exact ⟨k+1,_,by omega,by go_num,hF4,hM4⟩
        case measure=>(simp [intOf]; try omega)
       ·have d2:decide (0 < keptF l.L f k)=false:=decide_eq_false hpos
        rw [if_neg fun h=>hpos h.2] at hws
        rw [← hws] at hF
        clear hws hend hm0 hpos
        go_wp2
        go_roundw
        case rel=>exact ⟨k+1,_,by omega,by go_num,hF,hM⟩
        case measure=>(simp [intOf]; try omega)
      ·have hend':isEnd l.A l.B k=true:=by simpa using hend
       have hm0:markD (isEnd l.A l.B) k=1:=by unfold markD; rw [hend']; rfl
       rw [hm0] at e1
       rw [if_neg fun h=>hend h.1] at hws
       rw [← hws] at hF
       clear hws hend hend' hm0
       go_wp2
       go_roundw
       case rel=>exact ⟨k+1,_,by omega,by go_num,hF,hM⟩
       case measure=>(simp [intOf]; try omega)
     ·obtain rfl:k=l.N:=by omega
      have d1:decide (l.N < l.N)=false:=by simp
      have hwt:waitTo l f l.N=(List.range l.N).filter fun u=>!isEnd l.A l.B u&&decide (0 < keptF l.L f u):=rfl
      rw [← hwt] at hrnd
      clear hwt
      generalize waitTo l f l.N=wait at *
      go_wp2
      refine wp_loop_ghost_k (fun (gk:Nat) (a':Act) (w':World)=>∃ (f':Nat→Int) (h':Nat→Nat) (wt:List Nat) (qv':Value) (T':Nat),
       gk=meas l.N h' wt∧T'≤w'.heap.size∧Marks (W0.heap.size+3) T' w' a'.defers∧Rnd l.N l.L l.A l.B f' h' wt∧FilB W0 w' B G l ka kc aa ac ba bc da dc fb f' h' W0.heap.size kb (keptF l.L f') qv' wt ∧
       a'.tmps.size=193∧a'.tmps.getD 1 undef = .pointer (some ⟨W0.heap.size,0,none⟩)∧a'.tmps.getD 2 undef = .pointer (some ⟨W0.heap.size+2,0,none⟩)∧a'.tmps.getD 9 undef = .pointer (some ⟨kb,0,none⟩)∧a'.tmps.getD 10 undef = .pointer (some ⟨kb+1,0,none⟩))
       (meas l.N h wait) ⟨f,h,wait,qv,T,rfl,by have:=hF.sz; omega,hM,hrnd,hF,rfl,rfl,rfl,rfl,rfl⟩ ?_
      have hF0sz:=hF.sz
      have hF0lo:=hF.lo
      clear hF hM hrnd hst d1
      intro gk a2 wq2 hI J2 K2 hJ2 hK2
      obtain ⟨tm,ds1⟩:=a2
      obtain ⟨f1,h1,wt,qv1,T1,rfl,hTs1,hM,hrnd,hF,hz0,hz1,hz2,hz9,hz10⟩:=hI
      obtain ⟨u,rfl⟩:=frame193 hz0 hz1 hz2 hz9 hz10
      clear hz0 hz1 hz2 hz9 hz10
      have HJ2:=Lib.hid hJ2
      clear hJ2
      dsimp only at hM ⊢
      cases wt with
      | nil =>
        clear HJ2
        obtain ⟨qA,qcap,rfl, -⟩:=hF.que.form
        have q0:=hF.wx.cell 0
        simp [intL] at q0
        have hmf:MaxFlow l f1:=⟨hrnd.right,hrnd.side g.net g.ends fun u hu=>g.ltA hu⟩
        go_wp2
        show LeavesInM Fence.wide 8 Tryz.prog _ _ _ ds1 .returning wq2
        refine Marks.leave (B:=W0.heap.size+3) (T:=T1) (fun W'=>FilA W0 W' B G l ka kc aa ac ba bc da dc fb f1 h1 W0.heap.size (markD (isEnd l.A l.B))) ?_ ?_ ds1 wq2 hM hF.a
        ·rintro W' D hD1 hD2 h1
         exact h1.grown (grownBy_putObj' W' D (.deferred none)) (fun ρ e=>by injection e; omega)
        ·rintro W' h1
         exact ⟨.tuple #[],by simp [results,Tryz.results133,go_sem],rfl,h1.ch,_,_,h1.net,hmf⟩
      | cons k w0 =>
        have hmid:=hrnd.mid
        have hkN:=hmid.kk.1
        obtain ⟨qg,qo,qc,rfl,hqc1,hqc2,hqg1,hqg2,qcell,hqn⟩:=QRow.head (x:=(k:Int)) (xs:=intL w0) hF.que
        have hlq:(intL w0).length=w0.length:=by simp [intL]
        have hwl:w0.length≤40:=by
         have:=nodup_len hrnd.wt.nd (fun u hu=>(hrnd.wt.is u hu).1)
         rw [List.length_cons] at this
         omega
        rw [hlq] at hqc1 hqn hF
        generalize hqn0:w0.length=qn at *
        have HRND:=Lib.hid hrnd
        have HQN:=Lib.hid hqn0
        clear hlq hrnd hqn0
        have q0:=hF.wx.cell 0
        have q1:=hF.wx.frozen 0
        simp at q0
        go_upto_region 27 with (fail)
        have hkx:=Blk.new wq2 3 #[.int .i64 (k:Int)]
        have hbx:=(Below.refl wq2.heap.size wq2).alloc (Nat.le_refl _) (.cells #[.int .i64 (k:Int)] 3)
        have hF1:=hF.call hbx
        have hM1:=hM.call hbx
        have hqn1:=hqn.call hbx
        have hTs2:T1≤wq2.heap.size:=hTs1
        have hxsz:wq2.heap.size < (wq2.alloc (.cells #[.int .i64 (k:Int)] 3)).heap.size:=hkx.lt
        have hqlt:∀ r,(Value.slice (if qc=1 then some (⟨qg,qo,none⟩:Addr) else some ⟨qg,qo+1,none⟩) qn (qc-1)).ownBlock=some r→r < wq2.heap.size:=fun r e=>(hqn.lt e).2
        clear hF hM hqn qcell q0 q1 hbx hTs1
        generalize wq2.alloc (.cells #[.int .i64 (k:Int)] 3)=v0 at *
        generalize wq2.heap.size=kx at *
        have hs0:=hF1.sz
        have q0:=hF1.wx.cell 0
        have q1:=hF1.wx.frozen 0
        simp at q0
        go_upto_region 28 with (fail)
        generalize (if qc=1 then some (⟨qg,qo,none⟩:Addr) else some ⟨qg,qo+1,none⟩)=qA at *
        have hF2:=hF1.wait hqn1
        have hgw:v0.grownBy (v0.setCell ⟨kb+1,0,none⟩ (.slice qA qn (qc-1))) (some (kb+1)):=grown_setCell _
        have hM2:=hM1.grown hgw fun r e=>by injection e with e; subst e; exact .inr (.inr ⟨_,_,_,hF1.wx⟩)
        have hkx2:=hkx.grown hgw fun e=>by injection e; omega
        have hsz2:=hgw.size
        clear hF1 hM1 hkx hqn1 hgw q0 q1
        generalize v0.setCell ⟨kb+1,0,none⟩ (.slice qA qn (qc-1))=v1 at *
        have t0:=hF2.a.nb.cell 0
        have k0:=hkx2.cell 0
        simp at t0 k0
        go_wp2_with fail
        refine (ways_ok G k v1).mono ?_
        rintro e v2 ⟨rfl,hP,hQ,hz2,hb2⟩
        have hF3:=hF2.call hb2
        have hM3:=hM2.call hb2
        have hkx3:=hkx2.call hb2
        clear hF2 hM2 hkx2 t0 k0 hb2
        generalize v1.heap.size=b1 at *
        have hin:Fi4In W0 B G l ka kc aa ac ba bc da dc fb h1 W0.heap.size kb k kx b1 T1 w0 ds1 [] v2:=⟨hM3,by omega,hkx3,f1,w0,_,hF3,hmid,fun r e=>by have:=hqlt r e; omega⟩
        have hnm:=hF3.a.net.net
        have hlo:=hF3.a.lo
        have hsF3:=hF3.sz
        clear hM3 hF3 hkx3 hmid
        go_wp2
        refine (wpIn_wide (n:=8)).1 ?_
        refine wpIn_range_list (F:=Fence.wide) (n:=8) (a:=?aa4) rfl (by omega) (gf:=139) (lb:=#[.pointer (some ⟨b1,0,none⟩),.pointer (some ⟨b1+1,0,none⟩)]) ?hgg4 trivial (enters_of Tryz.func139 (by kernel_rfl) rfl)
         (ways_seq 4 b1 (b1+1) k v2 g (fun x hx=>by cases hx) hnm hP hQ) ?hKt4 ?hKb4 (Below.refl _ _) ?hps4 (Fi4In W0 B G l ka kc aa ac ba bc da dc fb h1 W0.heap.size kb k kx b1 T1 w0 ds1) ?hI4 hin (WayAx (Act.tmps ?aa4) 120 13 (b1+2) k) WayAx.own ?assign4 ?body4 ?done4
        case hKt4=>exact fun h1 h2=>h1.trans h2
        case hKb4=>exact fun W y o o' hl _ _ _ k hk=>World.putObj_heap_other (by omega)
        case hgg4=>rfl
        case hps4=>exact fun _=>rfl
        case hI4 =>
         intro pre W W' row hs hg hr
         exact hs.grown (by omega) (by omega) (by omega) hg fun ρ e=>by have:=hr ρ e; exact ⟨by omega,this.2⟩
        case assign4 =>
         intro y pre x post W K hi hpre hsz hK
         have hx:=Blk.new W 131 #[.int .i64 (k:Int),.int .i64 (x.1:Int),.int .i64 (x.2:Int)]
         have hgA:=World.grownBy_alloc W (.cells #[.int .i64 (k:Int),.int .i64 (x.1:Int),.int .i64 (x.2:Int)] 131) none
         have hk:=hK ({ tmps:=(_:Array Value),defers:=[] }) (W.alloc (.cells #[.int .i64 (k:Int),.int .i64 (x.1:Int),.int .i64 (x.2:Int)] 131)) ((KeepsOthers.alloc _ _).from _) (KeepN.of_grown hgA (by omega) fun r e=>by cases e) (hi.grown (by omega) (by omega) (by omega) hgA fun r e=>by cases e) ⟨W.heap.size,by omega,hx,rfl⟩
         simp [encW]
         gi_wp2
         exact hk
        case body4 =>
         rintro y pre ⟨v,i⟩ post a' W ⟨hM,hsz,hkx,f,wt,qv,hF,hmid,hne⟩ ⟨Bx,hBx,bX,rfl⟩ hpre
         simp only [List.setIfInBounds_toArray,List.set_cons_succ,List.set_cons_zero]
         dsimp only at bX
         have hmem:(v,i)∈waysL l.L (natL []) k:=by rw [← hpre]; simp
         have hway:=((mem_waysL g.net).1 hmem).1
         have hvN:=(way_lt g.net hway).2
         have hkv:=way_ne g.net hway
         have hil:i < l.links.length:=by rw [← NL.len]; exact hway.1
         have hno:∀ p∈pre,p.2≠i:=by
          intro p hp
          have hpw:=ways_links l.L (natL []) k
          rw [← hpre,List.pairwise_append] at hpw
          have:=hpw.2.2 p hp (v,i) (by simp)
          simp only at this
          omega
         have hv40:v < 40:=by omega
         have hk40:k < 40:=by omega
         have hki:(k:Int) < 40:=by omega
         have hvi:(v:Int) < 40:=by omega
         have hvN':(v:Int) < (l.N:Int):=by omega
         have hB6:B≤W.heap.size:=by omega
         have HCL:Hid (∀ x:Ext W,Calls Tryz.prog 57 #[.pointer (some ⟨G,0,none⟩),.agg #[.int .i64 (k:Int),.int .i64 (v:Int),.int .i64 (i:Int)]] x.w fun e w''=>e = .returned (.int .i64 (resF l.L f k i))∧∃ y:Ext W,w''=y.w):=fun x =>
          ext_call x (left_ok (hF.a.net.call x.h) g hmid.pre.fits k v i hil)
         have t0:=hF.a.nb.cell 0
         have p0:=bX.cell 0
         have p1:=bX.cell 1
         have p2:=bX.cell 2
         have kx0:=hkx.cell 0
         have c0:=hF.kp.at_ hk40
         simp at t0 p0 p1 p2 kx0
         clear hmem hpre
         have g0:=Ext.of t0
         have g1:=Ext.of p0
         have g2:=Ext.of p1
         have g3:=Ext.of p2
         have g4:=Ext.of kx0
         have g5:=Ext.of c0
         gi_upto_region 30 with fail
         refine wpIn_region_ext (by kernel_rfl) (by kernel_rfl) (by kernel_rfl) ?_
         repeat (go_big_quiet_step (first | (go_at_call 57; with_reducible exact HCL.out _)))
         refine wpQuiet_nil ?_
         intro _ hw'
         obtain ⟨xr,hw''⟩:=hw'
         subst hw''
         have hF6:=hF.call xr.h
         have hM6:=hM.call xr.h
         have hkx6:=hkx.call xr.h
         have bX6:=bX.call xr.h
         have hb6:Below W.heap.size W xr.w:=xr.h
         have hs6:=hb6.size
         obtain ⟨Z,hZ⟩:∃ Z:World,Z=xr.w:=⟨_,rfl⟩
         rw [← hZ] at hF6 hM6 hkx6 bX6 hb6 hs6 ⊢
         clear hZ xr hF hM hkx bX g0 g1 g2 g3 g4 g5 t0 p0 p1 p2 kx0 c0 HCL hB6
         have emin:(if resF l.L f k i < keptF l.L f k then resF l.L f k i else keptF l.L f k)=min (keptF l.L f k) (resF l.L f k i):=by split <;> omega
         rw [emin]
         have hskip:=fun hno'=>Mid.skip hmid (v:=v) (i:=i) hno' hway
         have hpush:=fun hp hd=>Mid.push hmid g.net hway hno hp hd
         have hkb:=fun u=>g.kept_bound hmid.pre.fits u
         have hfits:=hmid.pre.fits
         have hhi:=hmid.pre.hi
         have hxk:min (keptF l.L f k) (resF l.L f k i)≤keptF l.L f k:=Int.min_le_left ..
         have hxr:min (keptF l.L f k) (resF l.L f k i)≤2000000:=by
          have h1:min (keptF l.L f k) (resF l.L f k i)≤resF l.L f k i:=Int.min_le_right ..
          have h2:=hmid.pre.fits i (by rw [NL.len]; exact hil)
          obtain ⟨a9,b9,t9, -,hlk, -, -, -,ht1,ht2⟩:=g.lk_at hil
          rw [hlk] at h2
          have h3:resF l.L f k i≤2000000:=by
           unfold resF
           rw [hlk]
           dsimp only at h2 ⊢
           split <;> omega
          omega
         clear emin
         obtain ⟨x,hx⟩:∃ x,x=min (keptF l.L f k) (resF l.L f k i):=⟨_,rfl⟩
         rw [← hx] at hskip hpush hxk hxr ⊢
         have HX:=Lib.hid hx
         clear hx
         have t0:=hF6.a.nb.cell 0
         have p1:=bX6.cell 1
         have kx0:=hkx6.cell 0
         simp at t0 p1 kx0
         have hk1:=hhi k
         have hv1:=hhi v
         have w1:IntKind.i64.wrap ((h1 v:Int)+1)=(h1 v:Int)+1:=wrap_id _ (by omega) (by omega)
         have hv0:(0:Int)≤(h1 v:Int):=by omega
         have hv90:(h1 v:Int)≤90:=by omega
         have g0:=Ext.of t0
         have g1:=Ext.of p1
         have g2:=Ext.of kx0
         have g3:=Ext.of (hF6.a.net.net.hi hk40)
         have g4:=Ext.of (hF6.a.net.net.hi hv40)
         by_cases hx0:0 < x
         ·have d1:decide (0 < x)=true:=decide_eq_true hx0
          gi_upto_region 31 with fail
          refine wpIn_region_ext (by kernel_rfl) (by kernel_rfl) (by kernel_rfl) ?_
          repeat (go_big_quiet_step (fail))
          refine wpQuiet_nil ?_
          intro _ hw'
          obtain ⟨xr,hw''⟩:=hw'
          subst hw''
          have hF7:=hF6.call xr.h
          have hM7:=hM6.call xr.h
          have hkx7:=hkx6.call xr.h
          have bX7:=bX6.call xr.h
          have hb7:=hb6.trans (xr.h.mono hb6.size)
          have hs7:=hb7.size
          obtain ⟨w7,hw7⟩:∃ w7:World,w7=xr.w:=⟨_,rfl⟩
          rw [← hw7] at hF7 hM7 hkx7 bX7 hb7 hs7 ⊢
          clear hw7 xr hF6 hM6 hkx6 bX6 hb6 hs6 g0 g1 g2 g3 g4 t0 p1 kx0
          by_cases hh:h1 k=h1 v+1
          ·have d2:(((h1 k:Nat):Int)==((h1 v:Nat):Int)+1)=true:=by rw [beq_iff_eq]; omega
           have hm2:=hpush hx0 hh
           have hpk:=push_ok hF7.a.net g hfits k v i hil x ⟨by omega,by omega⟩
           clear hpush hskip hh w1
           have t0:=hF7.a.nb.cell 0
           have p0:=bX7.cell 0
           have p1:=bX7.cell 1
           have p2:=bX7.cell 2
           simp at t0 p0 p1 p2
           gi_wp2_with fail
           refine ⟨trivial,(CallsIn.inRound _ (callsIn_wide.2 hpk)).mono ?_⟩
           rintro e w8 ⟨rfl,hn8,hg8⟩
           have hF8:=hF7.flow hn8 hg8
           have hM8:=hM7.grown hg8 fun r e=>by injection e with e; subst e; exact .inr (.inl (by omega))
           have hkx8:=hkx7.grown hg8 fun e=>by injection e; omega
           have bX8:=bX7.grown hg8 fun e=>by injection e; omega
           have hKF8:=(keepsFrom_cells (base:=b1+2) (grown_call hb7 none) fun r e=>by cases e).trans (keepsFrom_cells hg8 fun r e=>by injection e; exact .inl (by omega))
           have hKN8:KeepN B G b1 (b1+1) W w8:=(KeepN.of_grown (grown_call hb7 none) (by omega) fun r e=>by cases e).trans (KeepN.of_grown hg8 (by omega) fun r e=>by injection e; omega)
           have hs8:=Nat.le_trans hs7 hg8.size
           clear hpk t0 p0 p1 p2 hn8 hF7 hM7 hkx7 bX7 hb7 hs7 hg8
           have e0:=hF8.a.eb.cell 0
           simp at e0
           have e1:=hF8.a.er.at_ hvN
           have p1:=bX8.cell 1
           simp at p1
           have c0:=hF8.kp.at_ hv40
           by_cases hend:isEnd l.A l.B v=false
           ·have hm0:markD (isEnd l.A l.B) v=0:=by unfold markD; rw [hend]; rfl
            rw [hm0] at e1
            by_cases hz:keptF l.L f v=0
            ·have d3:(keptF l.L f v==0)=true:=by rw [hz]; rfl
             rw [if_pos ⟨hend,hz⟩] at hm2
             have HM9:=Lib.hid hm2
             have hwtl:wt.length≤40:=by
              have:=nodup_len hm2.wt.nd (fun u hu=>(hm2.wt.is u hu).1)
              rw [List.length_append] at this
              omega
             clear hm2 hend hm0 hz
             gi_upto_region 34 with fail
             have q0:=hF8.wx.cell 0
             simp at q0
             have hql:(intL wt).length≤40:=by simp only [intL,List.length_map]; omega
             have hsz8:=hF8.sz
             refine wpIn_region_plain (by rfl) ?_
             go_wp2_with (at_builtin; refine wpList_appQ rfl (.tmp 164) (.tmp 167) rfl rfl hF8.que rfl (by omega) (by omega) ?_)
             intro v4 w4 hq4 hg4 hat4
             obtain ⟨qB,qd,rfl, -⟩:=hq4.form
             generalize (intL wt++[(v:Int)]).length=vn at *
             have wx4:Blk w4 (kb+1) 30 #[qv]:=hF8.wx.grown hg4 fun e=>by have:=(hF8.que.lt e.symm).1; omega
             have q1:=wx4.cell 0
             have q2:=wx4.frozen 0
             simp at q1
             have hq5:QRow w4 (kb+2) (.slice qB vn qd) (intL (wt++[v])):=by rw [intL_append]; exact hq4
             have hF9:=hF8.grew hg4 hq5
             have hg5:w4.grownBy (w4.setCell ⟨kb+1,0,none⟩ (.slice qB vn qd)) (some (kb+1)):=grown_setCell _
             have hqc4:∀ r,qv.ownBlock=some r→kb+2≤r∧r < w8.heap.size∧∃ cs t f,w8.heap[r]? = some (.cells cs t f):=fun r e=>⟨(hF8.que.lt e).1,(hF8.que.lt e).2,by obtain ⟨cs,hcs⟩:=hF8.que.cells e; exact ⟨cs,_,_,hcs⟩⟩
             have hM9:=(hM8.grown hg4 fun r e => .inr (.inr (hqc4 r e).2.2)).grown hg5 fun r e=>by injection e with e; subst e; exact .inr (.inr ⟨_,_,_,wx4⟩)
             have hqx:qv.ownBlock≠some kx:=fun e=>by have:=hne kx e; omega
             have hqb:qv.ownBlock≠some Bx:=fun e=>by
              obtain ⟨cs,hcs⟩:=hF8.que.cells e
              have h9:=bX8
              unfold Blk at hcs h9
              rw [hcs] at h9
              injection h9 with h9
              injection h9 with _ h9
              exact absurd h9 (by decide)
             have hkx9:=(hkx8.grown hg4 fun e=>hqx e.symm).grown hg5 fun e=>by injection e; omega
             have bX9:=(bX8.grown hg4 fun e=>hqb e.symm).grown hg5 fun e=>by injection e; omega
             have hs9:=Nat.le_trans hs8 (Nat.le_trans hg4.size hg5.size)
             have hKF9:=(hKF8.trans (keepsFrom_cells (base:=b1+2) hg4 fun r e => .inr (hqc4 r e).2.2)).trans (keepsFrom_cells (base:=b1+2) hg5 fun r e=>by injection e; exact .inl (by omega))
             have hKN9:KeepN B G b1 (b1+1) W (w4.setCell ⟨kb+1,0,none⟩ (.slice qB vn qd)):=by
              have hgs:=hg4.size
              refine (hKN8.trans (KeepN.of_grown hg4 (by omega) fun r e=>?_)).trans (KeepN.of_grown hg5 (by omega) fun r e=>by injection e; omega)
              have h1:=(hqc4 r e).1
              have h2:=hne r e
              omega
             have hne9:∀ r,(Value.slice qB vn qd).ownBlock=some r→r≠b1∧r≠b1+1∧r≠kx:=fun r e=>by
              rcases hat4 r e with h1 | h1
              ·exact hne r h1
              ·omega
             clear hF8 hM8 hkx8 bX8 hKF8 hKN8 hs8 hq4 hg4 hat4 hq5 hg5 q0 wx4 hqc4 hqx hqb hne e0 e1 c0 p1
             go_wp2
             refine NoP_norm ?_
             generalize w4.setCell ⟨kb+1,0,none⟩ (.slice qB vn qd)=w9 at *
             gi_upto_region 35 with fail
             have c1:=hF9.kp.at_ hk40
             have c2:=Blk.frozen hF9.kp k
             have kx0:=hkx9.cell 0
             simp at kx0
             have hkbk:=hkb k
             have hkbv:=hkb v
             have w35:IntKind.i64.wrap (keptF l.L f k-x)=keptF l.L f k-x:=wrap_id _ (by omega) (by omega)
             have w36:IntKind.i64.wrap (keptF l.L f v+x)=keptF l.L f v+x:=wrap_id _ (by omega) (by omega)
             gi_upto_region 36 with fail
             have hF10:=hF9.keep (i:=k) (x:=keptF l.L f k-x) (K':=fun u=>if u=k then keptF l.L f k-x else keptF l.L f u) fun j _=>rfl
             have hg10:w9.grownBy (w9.setCell ⟨kb,k,none⟩ (.int .i64 (keptF l.L f k-x))) (some kb):=grown_setCell _
             have hM10:=hM9.grown hg10 fun r e=>by injection e with e; subst e; exact .inr (.inr ⟨_,_,_,hF9.kp⟩)
             have hkx10:=hkx9.grown hg10 fun e=>by injection e; omega
             have bX10:=bX9.grown hg10 fun e=>by injection e; omega
             have hKF10:=hKF9.trans (keepsFrom_cells (base:=b1+2) hg10 fun r e=>by injection e; exact .inl (by omega))
             have hKN10:KeepN B G b1 (b1+1) W _:=hKN9.trans (KeepN.of_grown hg10 (by omega) fun r e=>by injection e; omega)
             have hs10:=Nat.le_trans hs9 hg10.size
             clear c1 c2 kx0 hF9 hM9 hkx9 bX9 hKF9 hKN9 hg10 hs9
             generalize w9.setCell ⟨kb,k,none⟩ (.int .i64 (keptF l.L f k-x))=w10 at *
             have p1:=bX10.cell 1
             simp at p1
             have c1:=hF10.kp.at_ hv40
             rw [show (if v=k then keptF l.L f k-x else keptF l.L f v)=keptF l.L f v from if_neg fun e=>hkv e.symm] at c1
             have c2:=Blk.frozen hF10.kp v
             have hF11:=hF10.keep (i:=v) (x:=keptF l.L f v+x) (K':=keptF l.L (pushF l.L f k i x)) fun j _=>by
              rw [kept_push g.net hway]
              by_cases e1:j=v
              ·rw [if_pos e1,if_pos e1,if_neg (by rw [e1]; exact fun e=>hkv e.symm),e1]
               omega
              ·rw [if_neg e1,if_neg e1]
               by_cases e2:j=k
               ·rw [if_pos e2,if_pos e2,e2]
                omega
               ·rw [if_neg e2,if_neg e2]
                omega
             have hg11:w10.grownBy (w10.setCell ⟨kb,v,none⟩ (.int .i64 (keptF l.L f v+x))) (some kb):=grown_setCell _
             have hM11:=hM10.grown hg11 fun r e=>by injection e with e; subst e; exact .inr (.inr ⟨_,_,_,hF10.kp⟩)
             have hkx11:=hkx10.grown hg11 fun e=>by injection e; omega
             have hKF11:=hKF10.trans (keepsFrom_cells (base:=b1+2) hg11 fun r e=>by injection e; exact .inl (by omega))
             have hKN11:KeepN B G b1 (b1+1) W _:=hKN10.trans (KeepN.of_grown hg11 (by omega) fun r e=>by injection e; omega)
             have hs11:=Nat.le_trans hs10 hg11.size
             clear hF10 hM10 hkx10 bX10 hKF10 hKN10 hg11 hs10
             gi_wp2
             exact ⟨by rw [hz2]; exact hKF11,hKN11,hM11,by omega,hkx11,_,_,_,hF11,HM9.out,hne9⟩
            ·have d3:(keptF l.L f v==0)=false:=by rw [beq_eq_false_iff_ne]; exact hz
             rw [if_neg fun h=>hz h.2] at hm2
             have HM9:=Lib.hid hm2
             clear hm2 hend hm0 hz
             gi_upto_region 35 with fail
             obtain ⟨w9,hw9⟩:∃ w9,w9=w8:=⟨_,rfl⟩
             obtain ⟨hF9,hM9,hkx9,bX9,hKF9,hKN9,hs9,hne9⟩:FilB W0 w9 B G l ka kc aa ac ba bc da dc fb (pushF l.L f k i x) h1 W0.heap.size kb (keptF l.L f) qv wt∧Marks (W0.heap.size+3) T1 w9 ds1∧Blk w9 kx 3 #[.int .i64 (k:Int)]∧Blk w9 Bx 131 #[.int .i64 (k:Int),.int .i64 (v:Int),.int .i64 (i:Int)]∧KeepsFrom (b1+2) W w9∧KeepN B G b1 (b1+1) W w9∧W.heap.size≤w9.heap.size∧∀ r,qv.ownBlock=some r→r≠b1∧r≠b1+1∧r≠kx:=by rw [hw9]; exact ⟨hF8,hM8,hkx8,bX8,hKF8,hKN8,hs8,hne⟩
             rw [← hw9]
             clear hw9 hF8 hM8 hkx8 bX8 hKF8 hKN8 hs8 hne e0 e1 c0 p1
             have c1:=hF9.kp.at_ hk40
             have c2:=Blk.frozen hF9.kp k
             have kx0:=hkx9.cell 0
             simp at kx0
             have hkbk:=hkb k
             have hkbv:=hkb v
             have w35:IntKind.i64.wrap (keptF l.L f k-x)=keptF l.L f k-x:=wrap_id _ (by omega) (by omega)
             have w36:IntKind.i64.wrap (keptF l.L f v+x)=keptF l.L f v+x:=wrap_id _ (by omega) (by omega)
             gi_upto_region 36 with fail
             have hF10:=hF9.keep (i:=k) (x:=keptF l.L f k-x) (K':=fun u=>if u=k then keptF l.L f k-x else keptF l.L f u) fun j _=>rfl
             have hg10:w9.grownBy (w9.setCell ⟨kb,k,none⟩ (.int .i64 (keptF l.L f k-x))) (some kb):=grown_setCell _
             have hM10:=hM9.grown hg10 fun r e=>by injection e with e; subst e; exact .inr (.inr ⟨_,_,_,hF9.kp⟩)
             have hkx10:=hkx9.grown hg10 fun e=>by injection e; omega
             have bX10:=bX9.grown hg10 fun e=>by injection e; omega
             have hKF10:=hKF9.trans (keepsFrom_cells (base:=b1+2) hg10 fun r e=>by injection e; exact .inl (by omega))
             have hKN10:KeepN B G b1 (b1+1) W _:=hKN9.trans (KeepN.of_grown hg10 (by omega) fun r e=>by injection e; omega)
             have hs10:=Nat.le_trans hs9 hg10.size
             clear c1 c2 kx0 hF9 hM9 hkx9 bX9 hKF9 hKN9 hg10 hs9
             generalize w9.setCell ⟨kb,k,none⟩ (.int .i64 (keptF l.L f k-x))=w10 at *
             have p1:=bX10.cell 1
             simp at p1
             have c1:=hF10.kp.at_ hv40
             rw [show (if v=k then keptF l.L f k-x else keptF l.L f v)=keptF l.L f v from if_neg fun e=>hkv e.symm] at c1
             have c2:=Blk.frozen hF10.kp v
             have hF11:=hF10.keep (i:=v) (x:=keptF l.L f v+x) (K':=keptF l.L (pushF l.L f k i x)) fun j _=>by
              rw [kept_push g.net hway]
              by_cases e1:j=v
              ·rw [if_pos e1,if_pos e1,if_neg (by rw [e1]; exact fun e=>hkv e.symm),e1]
               omega
              ·rw [if_neg e1,if_neg e1]
               by_cases e2:j=k
               ·rw [if_pos e2,if_pos e2,e2]
                omega
               ·rw [if_neg e2,if_neg e2]
                omega
             have hg11:w10.grownBy (w10.setCell ⟨kb,v,none⟩ (.int .i64 (keptF l.L f v+x))) (some kb):=grown_setCell _
             have hM11:=hM10.grown hg11 fun r e=>by injection e with e; subst e; exact .inr (.inr ⟨_,_,_,hF10.kp⟩)
             have hkx11:=hkx10.grown hg11 fun e=>by injection e; omega
             have hKF11:=hKF10.trans (keepsFrom_cells (base:=b1+2) hg11 fun r e=>by injection e; exact .inl (by omega))
             have hKN11:KeepN B G b1 (b1+1) W _:=hKN10.trans (KeepN.of_grown hg11 (by omega) fun r e=>by injection e; omega)
             have hs11:=Nat.le_trans hs10 hg11.size
             clear hF10 hM10 hkx10 bX10 hKF10 hKN10 hg11 hs10
             gi_wp2
             exact ⟨by rw [hz2]; exact hKF11,hKN11,hM11,by omega,hkx11,_,_,_,hF11,HM9.out,hne9⟩
           ·have hend':isEnd l.A l.B v=true:=by simpa using hend
            have hm0:markD (isEnd l.A l.B) v=1:=by unfold markD; rw [hend']; rfl
            rw [hm0] at e1
            rw [if_neg fun h=>hend h.1] at hm2
            have HM9:=Lib.hid hm2
            clear hm2 hend hend' hm0
            gi_upto_region 35 with fail
            obtain ⟨w9,hw9⟩:∃ w9,w9=w8:=⟨_,rfl⟩
            obtain ⟨hF9,hM9,hkx9,bX9,hKF9,hKN9,hs9,hne9⟩:FilB W0 w9 B G l ka kc aa ac ba bc da dc fb (pushF l.L f k i x) h1 W0.heap.size kb (keptF l.L f) qv wt∧Marks (W0.heap.size+3) T1 w9 ds1∧Blk w9 kx 3 #[.int .i64 (k:Int)]∧Blk w9 Bx 131 #[.int .i64 (k:Int),.int .i64 (v:Int),.int .i64 (i:Int)]∧KeepsFrom (b1+2) W w9∧KeepN B G b1 (b1+1) W w9∧W.heap.size≤w9.heap.size∧∀ r,qv.ownBlock=some r→r≠b1∧r≠b1+1∧r≠kx:=by rw [hw9]; exact ⟨hF8,hM8,hkx8,bX8,hKF8,hKN8,hs8,hne⟩
            rw [← hw9]
            clear hw9 hF8 hM8 hkx8 bX8 hKF8 hKN8 hs8 hne e0 e1 c0 p1
            have c1:=hF9.kp.at_ hk40
            have c2:=Blk.frozen hF9.kp k
            have kx0:=hkx9.cell 0
            simp at kx0
            have hkbk:=hkb k
            have hkbv:=hkb v
            have w35:IntKind.i64.wrap (keptF l.L f k-x)=keptF l.L f k-x:=wrap_id _ (by omega) (by omega)
            have w36:IntKind.i64.wrap (keptF l.L f v+x)=keptF l.L f v+x:=wrap_id _ (by omega) (by omega)
            gi_upto_region 36 with fail
            have hF10:=hF9.keep (i:=k) (x:=keptF l.L f k-x) (K':=fun u=>if u=k then keptF l.L f k-x else keptF l.L f u) fun j _=>rfl
            have hg10:w9.grownBy (w9.setCell ⟨kb,k,none⟩ (.int .i64 (keptF l.L f k-x))) (some kb):=grown_setCell _
            have hM10:=hM9.grown hg10 fun r e=>by injection e with e; subst e; exact .inr (.inr ⟨_,_,_,hF9.kp⟩)
            have hkx10:=hkx9.grown hg10 fun e=>by injection e; omega
            have bX10:=bX9.grown hg10 fun e=>by injection e; omega
            have hKF10:=hKF9.trans (keepsFrom_cells (base:=b1+2) hg10 fun r e=>by injection e; exact .inl (by omega))
            have hKN10:KeepN B G b1 (b1+1) W _:=hKN9.trans (KeepN.of_grown hg10 (by omega) fun r e=>by injection e; omega)
            have hs10:=Nat.le_trans hs9 hg10.size
            clear c1 c2 kx0 hF9 hM9 hkx9 bX9 hKF9 hKN9 hg10 hs9
            generalize w9.setCell ⟨kb,k,none⟩ (.int .i64 (keptF l.L f k-x))=w10 at *
            have p1:=bX10.cell 1
            simp at p1
            have c1:=hF10.kp.at_ hv40
            rw [show (if v=k then keptF l.L f k-x else keptF l.L f v)=keptF l.L f v from if_neg fun e=>hkv e.symm] at c1
            have c2:=Blk.frozen hF10.kp v
            have hF11:=hF10.keep (i:=v) (x:=keptF l.L f v+x) (K':=keptF l.L (pushF l.L f k i x)) fun j _=>by
             rw [kept_push g.net hway]
             by_cases e1:j=v
             ·rw [if_pos e1,if_pos e1,if_neg (by rw [e1]; exact fun e=>hkv e.symm),e1]
              omega
             ·rw [if_neg e1,if_neg e1]
              by_cases e2:j=k
              ·rw [if_pos e2,if_pos e2,e2]
               omega
              ·rw [if_neg e2,if_neg e2]
               omega
            have hg11:w10.grownBy (w10.setCell ⟨kb,v,none⟩ (.int .i64 (keptF l.L f v+x))) (some kb):=grown_setCell _
            have hM11:=hM10.grown hg11 fun r e=>by injection e with e; subst e; exact .inr (.inr ⟨_,_,_,hF10.kp⟩)
            have hkx11:=hkx10.grown hg11 fun e=>by injection e; omega
            have hKF11:=hKF10.trans (keepsFrom_cells (base:=b1+2) hg11 fun r e=>by injection e; exact .inl (by omega))
            have hKN11:KeepN B G b1 (b1+1) W _:=hKN10.trans (KeepN.of_grown hg11 (by omega) fun r e=>by injection e; omega)
            have hs11:=Nat.le_trans hs10 hg11.size
            clear hF10 hM10 hkx10 bX10 hKF10 hKN10 hg11 hs10
            gi_wp2
            exact ⟨by rw [hz2]; exact hKF11,hKN11,hM11,by omega,hkx11,_,_,_,hF11,HM9.out,hne9⟩
          ·have d2:(((h1 k:Nat):Int)==((h1 v:Nat):Int)+1)=false:=by rw [beq_eq_false_iff_ne]; omega
           have hm2:=Lib.hid (hskip fun h=>hh h.2)
           clear hskip hpush hxk hxr hkb hh
           gi_wp2
           exact ⟨keepsFrom_cells (grown_call hb7 none) (fun r e=>by cases e),KeepN.of_grown (grown_call hb7 none) (by omega) (fun r e=>by cases e),hM7,by omega,hkx7,f,wt,qv,hF7,hm2.out,hne⟩
         ·have d1:decide (0 < x)=false:=decide_eq_false hx0
          have hm2:=Lib.hid (hskip fun h=>hx0 h.1)
          clear hskip hpush hxk hxr hkb
          gi_upto_region 31 with fail
          refine wpIn_region_ext (by kernel_rfl) (by kernel_rfl) (by kernel_rfl) ?_
          repeat (go_big_quiet_step (fail))
          refine wpQuiet_nil ?_
          intro _ hw'
          obtain ⟨xr,hw''⟩:=hw'
          subst hw''
          have hF7:=hF6.call xr.h
          have hM7:=hM6.call xr.h
          have hkx7:=hkx6.call xr.h
          have hb7:=hb6.trans (xr.h.mono hb6.size)
          have hs7:=hb7.size
          clear hF6 hM6 hkx6 bX6 hb6 hs6 g0 g1 g2 g3 g4 t0 p1 kx0
          gi_wp2
          exact ⟨keepsFrom_cells (grown_call hb7 none) (fun r e=>by cases e),KeepN.of_grown (grown_call hb7 none) (by omega) (fun r e=>by cases e),hM7,by omega,hkx7,f,wt,qv,hF7,hm2.out,hne⟩
        case done4 =>
         rintro D' W hD ⟨hM,hsz,hkx,f,wt,qv,hF,hmid,hne⟩ hdf
         have hDl:=heap_lt hdf
         have hMk:=hM.cons (D:=D') (T':=W.heap.size) (by omega) (by omega) hDl hdf
         have hk40:k < 40:=by omega
         have hki:(k:Int) < 40:=by omega
         have kx0:=hkx.cell 0
         have c0:=hF.kp.at_ hk40
         have t0:=hF.a.nb.cell 0
         simp at kx0 t0
         obtain ⟨a9,ha9,haA⟩:=g.ends.a
         by_cases hz:0 < keptF l.L f k
         ·have d1:decide (0 < keptF l.L f k)=true:=decide_eq_true hz
          have hrz:=Lib.hid (hmid.raise g.net ha9 haA (allWays g.net k) hz)
          have hrk:=raise_ok hF.a.net g (fun x hx=>by cases hx) hmid.pre.fits k hkN hmid.pre.hi
          have hwtl:wt.length≤40:=by
           have:=nodup_len hmid.wt.nd (fun u hu=>(hmid.wt.is u hu).1)
           omega
          clear hM hmid hz
          go_wp2_with fail
          refine hrk.mono ?_
          rintro e w8 ⟨rfl,hn8,hg8⟩
          have hF8:=hF.high hn8 hg8
          have hM8:=hMk.grown hg8 fun r e=>by injection e with e; subst e; exact .inr (.inl (by omega))
          have hkx8:=hkx.grown hg8 fun e=>by injection e; omega
          have hs8:=hg8.size
          clear hrk hF hMk hkx kx0 c0 t0 hn8 hg8
          have kx0:=hkx8.cell 0
          have q0:=hF8.wx.cell 0
          simp at q0 kx0
          have hql:(intL wt).length≤40:=by simp only [intL,List.length_map]; omega
          have hsz8:=hF8.sz
          go_wp2_with (at_builtin; refine wpList_appQ rfl (.tmp 189) (.tmp 191) rfl rfl hF8.que rfl (by omega) (by omega) ?_)
          intro v4 w4 hq4 hg4 hat4
          obtain ⟨qB,qd,rfl, -⟩:=hq4.form
          generalize (intL wt++[(k:Int)]).length=vn at *
          have wx4:Blk w4 (kb+1) 30 #[qv]:=hF8.wx.grown hg4 fun e=>by have:=(hF8.que.lt e.symm).1; omega
          have q1:=wx4.cell 0
          have q2:=wx4.frozen 0
          simp at q1
          have hq5:QRow w4 (kb+2) (.slice qB vn qd) (intL (wt++[k])):=by rw [intL_append]; exact hq4
          have hF9:=hF8.grew hg4 hq5
          have hg5:w4.grownBy (w4.setCell ⟨kb+1,0,none⟩ (.slice qB vn qd)) (some (kb+1)):=grown_setCell _
          have hM9:=(hM8.grown hg4 fun r e => .inr (.inr (by obtain ⟨cs,hcs⟩:=hF8.que.cells e; exact ⟨cs,_,_,hcs⟩))).grown hg5 fun r e=>by injection e with e; subst e; exact .inr (.inr ⟨_,_,_,wx4⟩)
          have hs9:=Nat.le_trans hs8 (Nat.le_trans hg4.size hg5.size)
          clear hF8 hM8 hkx8 hq4 hg4 hat4 hq5 hg5 q0 wx4 kx0
          go_wp2
          exact ⟨_,hrz.out.2,HJ2.out _ _ _ ⟨_,_,_,_,W.heap.size,rfl,hs9,hM9,hrz.out.1,hF9,rfl,rfl,rfl,rfl,rfl⟩⟩
         ·have d1:decide (0 < keptF l.L f k)=false:=decide_eq_false hz
          have hrz:=Lib.hid (hmid.empty hz)
          clear hM hmid hz
          go_wp2
          exact ⟨_,hrz.out.2,HJ2.out _ _ _ ⟨_,_,_,_,W.heap.size,rfl,Nat.le_refl _,hMk,hrz.out.1,hF,rfl,rfl,rfl,rfl,rfl⟩⟩
end Go.Proofs.YtibmeigdjghkcaaGreat
