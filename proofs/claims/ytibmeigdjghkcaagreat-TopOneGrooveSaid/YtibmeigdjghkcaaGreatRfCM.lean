/- Contracts of the reference: In, Rising. Contract of the reference: CheckList. Contracts: newNet, open. Contracts of the reference: isDrop. Contracts of the reference: IsSide. -/
import Derived.Test.YtibmeigdjghkcaaGreatChkM
import Derived.BigQuiet
namespace Go.Proofs.YtibmeigdjghkcaaGreat
open Go.RowKit Go.Shelf
set_option linter.unusedVariables false
theorem contains_drop (l:List Int) (k:Nat) (x y:Int) (h:l[k]? = some y):(l.drop k).contains x=(y==x||(l.drop (k+1)).contains x):=by
 rw [drop_cons h,List.contains_cons,Bool.beq_comm]
theorem rin_ok (lv:Value) (l:List Int) (x:Int) (w:World) (hl:Arr w w.heap.size 1 lv l icell) :
  Calls Tryz.prog 29 #[lv,.int .i64 x] w fun r w'=>r = .returned (.bool (l.contains x))∧w'=w:=by
 obtain ⟨A,c,rfl,hn,hc, -⟩:=id hl
 go_enter Tryz.func29,Tryz.ntmps29
 go_wp2
 go_loop [5] (fun i=>∃ k:Nat,k≤l.length∧i = .int .i64 k∧Hid (l.contains x=(l.drop k).contains x)) (fun i=>l.length-(intOf i).toNat)
 case atStart=>exact ⟨0,Nat.zero_le _,rfl,rfl⟩
 case round =>
  obtain ⟨k,hk,rfl,hq⟩:=hrel
  by_cases hlt:k < l.length
  ·have d1:decide (k < l.length)=true:=decide_eq_true hlt
   have d1':decide ((k:Int) < (l.length:Int))=true:=decide_eq_true (by omega)
   have hki:(k:Int) < (l.length:Int):=by omega
   obtain ⟨b,off,y,rfl,hb,hy,c0⟩:=numx_at hl hlt
   have hst:=contains_drop l k x y hy
   by_cases e:y=x
   ·have e1:(y==x)=true:=by simpa using e
    have HQ:Hid (l.contains x=true):=by rw [Hid,hq.out,hst,e1]; rfl
    clear hst hq e hy
    go_wp2
    go_ret
    exact ⟨ret_b (by rw [← HQ.out]; simp),rfl⟩
   ·have e1:(y==x)=false:=by simpa using e
    have HQ:Hid (l.contains x=(l.drop (k+1)).contains x):=by rw [Hid,hq.out,hst,e1]; rfl
    clear hst hq e hy
    go_wp2
    go_round
    case rel=>exact ⟨k+1,by omega,by go_num,HQ⟩
    case measure=>(simp [intOf]; try omega)
  ·obtain rfl:k=l.length:=by omega
   have d1:decide (l.length < l.length)=false:=by simp
   have HQ:Hid (l.contains x=false):=by rw [Hid,hq.out,List.drop_length]; rfl
   clear hq
   go_wp2
   go_ret
   exact ⟨ret_b (by rw [← HQ.out]; simp),rfl⟩
def prevI (l:List Int) (k:Nat):Int:=if k=0 then -1 else l.getD (k-1) 0
theorem prevI_succ {l:List Int} {k:Nat} {x:Int} (h:l[k]? = some x):prevI l (k+1)=x:=by
 unfold prevI
 rw [if_neg (by omega),List.getD_eq_getElem?_getD,Nat.add_sub_cancel,h]
 rfl
theorem rises_step {l:List Int} {n:Int} {k:Nat} {x:Int} (h:l[k]? = some x) (p:Int):risesFrom p n (l.drop k)=(decide (p < x)&&decide (x < n)&&risesFrom x n (l.drop (k+1))):=by
 rw [drop_cons h]
 rfl
set_option maxHeartbeats 800000 in
theorem rrising_ok (lv:Value) (l:List Int) (n:Int) (w:World) (hl:Arr w w.heap.size 1 lv l icell) :
  Calls Tryz.prog 135 #[lv,.int .i64 n] w fun r w'=>r = .returned (.bool (rises n l))∧Below w.heap.size w w':=by
 obtain ⟨A,c,rfl,hn,hc, -⟩:=id hl
 go_enter Tryz.func135,Tryz.ntmps135
 go_wp2
 go_loopw [5] (fun i wr=>∃ k:Nat,k≤l.length∧i = .int .i64 k∧Hid (rises n l=risesFrom (prevI l k) n (l.drop k))∧Hid (-1≤prevI l k∧(0 < k→0≤prevI l k))∧Below w.heap.size w wr) (fun i _=>l.length-(intOf i).toNat)
 case atStart=>exact ⟨0,Nat.zero_le _,rfl,rfl,⟨by simp [prevI],fun h=>by omega⟩,Below.refl _ _⟩
 case round =>
  obtain ⟨k,hk,rfl,hq,hp,hb⟩:=hrel
  by_cases hlt:k < l.length
  ·have d1:decide (k < l.length)=true:=decide_eq_true hlt
   have d1':decide ((k:Int) < (l.length:Int))=true:=decide_eq_true (by omega)
   have hki:(k:Int) < (l.length:Int):=by omega
   have hk0:(0:Int)≤(k:Int):=by omega
   obtain ⟨b,off,x,rfl,hbl,hx,c0⟩:=numx_at ((hl.below hb).more hb.size) hlt
   have hst:=rises_step (n:=n) hx (prevI l k)
   have hps:=prevI_succ hx
   have HP:=hp
   have HQ:=hq
   have hpo:=hp.out
   clear hp hq
   by_cases q1:x < 0
   ·have e1:decide (x < 0)=true:=decide_eq_true q1
    have HR:Hid (rises n l=false):=by
     rw [Hid,HQ.out,hst,decide_eq_false (show ¬ prevI l k < x by omega)]; rfl
    clear q1 hst hps hpo hx
    go_upto_region 4 with (fail)
    go_quiet (fail)
    go_wp2
    go_ret
    exact ⟨ret_b HR.out.symm,bdrewN hb _⟩
   ·have e1:decide (x < 0)=false:=decide_eq_false q1
    by_cases q2:n≤x
    ·have e2:decide (n≤x)=true:=decide_eq_true q2
     have HR:Hid (rises n l=false):=by
      rw [Hid,HQ.out,hst,decide_eq_false (show ¬ x < n by omega),Bool.and_false]; rfl
     clear q1 q2 hst hps hpo hx
     go_upto_region 4 with (fail)
     go_quiet (fail)
     go_wp2
     go_ret
     exact ⟨ret_b HR.out.symm,bdrewN hb _⟩
    ·have e2:decide (n≤x)=false:=decide_eq_false q2
     have hnext:Hid (-1≤prevI l (k+1)∧(0 < k+1→0≤prevI l (k+1))):=by rw [Hid,hps]; omega
     by_cases q3:k=0
     ·subst q3
      have e3:decide ((0:Int) < ((0:Nat):Int))=false:=by simp
      simp only [Nat.add_zero] at c0
      have HR:Hid (rises n l=risesFrom (prevI l (0+1)) n (l.drop (0+1))):=by
       rw [Hid,HQ.out,hst,hps,decide_eq_true (show prevI l 0 < x by simp [prevI]; omega),decide_eq_true (show x < n by omega)]; rfl
      clear q1 q2 hst hps hpo hx
      go_upto_region 4 with (fail)
      go_quiet (fail)
      go_wp2
      go_roundw
      case rel=>exact ⟨0+1,by omega,by go_num,HR,hnext,bdrewN hb _⟩
      case measure=>(simp [intOf]; try omega)
     ·have e3:decide ((0:Int) < (k:Int))=true:=decide_eq_true (by omega)
      obtain ⟨b2,o2,y,hAe, -,hy,c1⟩:=numx_at ((hl.below hb).more hb.size) (k:=k-1) (by omega)
      obtain ⟨rfl,rfl⟩:b=b2∧off=o2:=by simpa using hAe
      have hpy:prevI l k=y:=by unfold prevI; rw [if_neg q3,List.getD_eq_getElem?_getD,hy]; rfl
      have hkm:(k:Int)-1=((k-1:Nat):Int):=by omega
      have wk:IntKind.i64.wrap ((k:Int)-1)=((k-1:Nat):Int):=by rw [hkm,IntKind.wrap_i64]; omega
      have wk':wrap64 ((k:Int)-1)=((k-1:Nat):Int):=by rw [hkm]; exact IntWalk.wrap64_in _ ⟨by omega,by omega⟩
      have hki2:((k-1:Nat):Int) < (l.length:Int):=by omega
      have q0:0 < k:=by omega
      by_cases q4:x≤y
      ·have e4:decide (x≤y)=true:=decide_eq_true q4
       have HR:Hid (rises n l=false):=by
        rw [Hid,HQ.out,hst,decide_eq_false (show ¬ prevI l k < x by omega)]; rfl
       clear q1 q2 q3 q4 hst hps hpo hx hpy hy hAe hkm
       generalize k-1=j at *
       go_upto_region 4 with (fail)
       go_quiet (fail)
       go_wp2
       go_ret
       exact ⟨ret_b HR.out.symm,bdrewN hb _⟩
      ·have e4:decide (x≤y)=false:=decide_eq_false q4
       have HR:Hid (rises n l=risesFrom (prevI l (k+1)) n (l.drop (k+1))):=by
        rw [Hid,HQ.out,hst,hps,decide_eq_true (show prevI l k < x by omega),decide_eq_true (show x < n by omega)]; rfl
       clear q1 q2 q3 q4 hst hps hpo hx hpy hy hAe hkm
       generalize k-1=j at *
       go_upto_region 4 with (fail)
       go_quiet (fail)
       go_wp2
       go_roundw
       case rel=>exact ⟨k+1,by omega,by go_num,HR,hnext,bdrewN hb _⟩
       case measure=>(simp [intOf]; try omega)
  ·obtain rfl:k=l.length:=by omega
   have d1:decide (l.length < l.length)=false:=by simp
   have HR:Hid (rises n l=true):=by rw [Hid,hq.out,List.drop_length]; rfl
   clear hq hp
   go_wp2
   go_ret
   exact ⟨ret_b HR.out.symm,hb⟩
end Go.Proofs.YtibmeigdjghkcaaGreat
namespace Go.Proofs.YtibmeigdjghkcaaGreat
open Go.RowKit Go.Shelf
set_option linter.unusedVariables false
set_option maxHeartbeats 1600000 in
theorem rcheckList_ok (v:Value) (l:NL) (w:World) (hv:NLV w w.heap.size v l) :
  Calls Tryz.prog 134 #[v] w fun r w'=>r = .returned (.int .i64 (checkL l))∧Below w.heap.size w w':=by
 obtain ⟨ka,kc,aa,ac,ba,bc,rfl,hna⟩:=hv
 have hC:=NB.new hna
 have hB:=(Below.refl w.heap.size w).alloc (Nat.le_refl _) (.cells #[.int .i64 l.n,.slice ka l.links.length kc,.slice aa l.left.length ac,.slice ba l.right.length bc] 33)
 go_enter Tryz.func134,Tryz.ntmps134
 go_upto_region 1 with (fail)
 generalize w.alloc (.cells #[.int .i64 l.n,.slice ka l.links.length kc,.slice aa l.left.length ac,.slice ba l.right.length bc] 33)=W at *
 obtain ⟨k0,k1,k2,k3⟩:=hC.blk.c4
 cases hm:manyL l
 ·obtain ⟨m1,m2,m3,m4,m5,m6,m7⟩:=many_false.1 hm
  have d1:decide (l.n < 2)=false:=decide_eq_false (by omega)
  have d2:decide (40 < l.n)=false:=decide_eq_false (by omega)
  have d3:decide (120 < l.links.length)=false:=decide_eq_false (by omega)
  have d3':decide ((120:Int) < (l.links.length:Int))=false:=decide_eq_false (by omega)
  have d4:decide ((l.left.length:Int) < 1)=false:=decide_eq_false (by omega)
  have d5:decide (10 < l.left.length)=false:=decide_eq_false (by omega)
  have d5':decide ((10:Int) < (l.left.length:Int))=false:=decide_eq_false (by omega)
  have d6:decide ((l.right.length:Int) < 1)=false:=decide_eq_false (by omega)
  have d7:decide (10 < l.right.length)=false:=decide_eq_false (by omega)
  have d7':decide ((10:Int) < (l.right.length:Int))=false:=decide_eq_false (by omega)
  have HM:Hid (checkL l=if (l.links.any (badLk l.n))=true then 2 else if (rises l.n l.left&&rises l.n l.right)=false then 3 else if (l.left.any fun x=>l.right.contains x)=true then 21 else 0):=by
   rw [Hid]; unfold checkL; rw [if_neg (by simp [hm])]
  go_wp2
  go_loopw [3] (fun i wr=>∃ k:Nat,k≤l.links.length∧i = .int .i64 k∧Hid (l.links.any (badLk l.n)=(l.links.drop k).any (badLk l.n))∧Below W.heap.size W wr) (fun i _=>l.links.length-(intOf i).toNat)
  case atStart=>exact ⟨0,Nat.zero_le _,rfl,rfl,Below.refl _ _⟩
  case round =>
   clear k0 k1 k2 k3
   obtain ⟨k,hk,rfl,hq,hr⟩:=hrel
   have hCr:=hC.call hr
   have hBr:=hB.trans (hr.mono hB.size)
   obtain ⟨k0,k1,k2,k3⟩:=hCr.blk.c4
   by_cases hlt:k < l.links.length
   ·have e1:decide (k < l.links.length)=true:=decide_eq_true hlt
    have e1':decide ((k:Int) < (l.links.length:Int))=true:=decide_eq_true (by omega)
    have hki:(k:Int) < (l.links.length:Int):=by omega
    obtain ⟨b,off,x,rfl,hbl,hx,c0,c1,c2⟩:=link_at hCr.na.ks hlt
    have hst:(l.links.drop k).any (badLk l.n)=(badLk l.n x||(l.links.drop (k+1)).any (badLk l.n)):=by rw [drop_cons hx,List.any_cons]
    have HST:=Lib.hid hst
    go_upto_region 7 with (fail)
    have hX:=Blk.new wr 36 #[.int .i64 x.one,.int .i64 x.two,.int .i64 x.trust]
    have hb1:=(Below.refl wr.heap.size wr).alloc (Nat.le_refl _) (.cells #[.int .i64 x.one,.int .i64 x.two,.int .i64 x.trust] 36)
    have hr1:=hr.trans (hb1.mono hr.size)
    have hB1:=hBr.trans (hb1.mono hBr.size)
    have hC1:=hCr.call hb1
    clear c0 c1 c2 hst hx hbl hr hBr hCr hb1 k0 k1 k2 k3
    generalize wr.alloc (.cells #[.int .i64 x.one,.int .i64 x.two,.int .i64 x.trust] 36)=V at *
    obtain ⟨k0,k1,k2,k3⟩:=hC1.blk.c4
    have x0:=hX.cell 0
    have x1:=hX.cell 1
    have x2:=hX.cell 2
    simp at x0 x1 x2
    clear hX hC1
    cases hbad:badLk l.n x
    ·obtain ⟨m1',m2',m3',m4',m5',m6',m7'⟩:=bad_false.1 hbad
     have HN:Hid (l.links.any (badLk l.n)=(l.links.drop (k+1)).any (badLk l.n)):=by rw [Hid,hq.out,HST.out,hbad]; rfl
     have g1:¬ x.one < 0:=by omega
     have g2:¬ l.n≤x.one:=by omega
     have g3:¬ x.two < 0:=by omega
     have g4:¬ l.n≤x.two:=by omega
     have g5:¬ x.one=x.two:=by omega
     have g6:¬ x.trust < 1:=by omega
     have g7:¬ 1000000 < x.trust:=by omega
     have f1:decide (x.one < 0)=false:=decide_eq_false g1
     have f2:decide (l.n≤x.one)=false:=decide_eq_false g2
     have f3:decide (x.two < 0)=false:=decide_eq_false g3
     have f4:decide (l.n≤x.two)=false:=decide_eq_false g4
     have f5:(x.one==x.two)=false:=by simpa using g5
     have f6:decide (x.trust < 1)=false:=decide_eq_false g6
     have f7:decide (1000000 < x.trust)=false:=decide_eq_false g7
     clear hbad m1' m2' m3' m4' m5' m6' m7' g1 g2 g3 g4 g5 g6 g7 hq HST
     go_wp2
     go_roundw
     case rel=>exact ⟨k+1,by omega,by go_num,HN,hr1⟩
     case measure=>(simp [intOf]; try omega)
    ·have HX:Hid (checkL l=2):=by
      rw [Hid,HM.out,hq.out,HST.out,hbad]; rfl
     have hor:((x.one < 0))∨((¬ x.one < 0)∧(l.n≤x.one))∨((¬ x.one < 0)∧(¬ l.n≤x.one)∧(x.two < 0))∨((¬ x.one < 0)∧(¬ l.n≤x.one)∧(¬ x.two < 0)∧(l.n≤x.two))∨((¬ x.one < 0)∧(¬ l.n≤x.one)∧(¬ x.two < 0)∧(¬ l.n≤x.two)∧(x.one=x.two))∨((¬ x.one < 0)∧(¬ l.n≤x.one)∧(¬ x.two < 0)∧(¬ l.n≤x.two)∧(¬ x.one=x.two)∧(x.trust < 1))∨((¬ x.one < 0)∧(¬ l.n≤x.one)∧(¬ x.two < 0)∧(¬ l.n≤x.two)∧(¬ x.one=x.two)∧(¬ x.trust < 1)∧(1000000 < x.trust)):=by
      apply Classical.byContradiction
      intro h
      rw [bad_false.2 (by omega)] at hbad
      cases hbad
     clear hbad hq HST HM
     rcases hor with g1 | ⟨g1,g2⟩ | ⟨g1,g2,g3⟩ | ⟨g1,g2,g3,g4⟩ | ⟨g1,g2,g3,g4,g5⟩ | ⟨g1,g2,g3,g4,g5,g6⟩ | ⟨g1,g2,g3,g4,g5,g6,g7⟩
     ·have f1:decide (x.one < 0)=true:=decide_eq_true g1
      clear g1
      go_wp2
      go_ret
      exact ⟨ret_i HX.out.symm,hB1⟩
     ·have f1:decide (x.one < 0)=false:=decide_eq_false g1
      have f2:decide (l.n≤x.one)=true:=decide_eq_true g2
      clear g1 g2
      go_wp2
      go_ret
      exact ⟨ret_i HX.out.symm,hB1⟩
     ·have f1:decide (x.one < 0)=false:=decide_eq_false g1
      have f2:decide (l.n≤x.one)=false:=decide_eq_false g2
      have f3:decide (x.two < 0)=true:=decide_eq_true g3
      clear g1 g2 g3
      go_wp2
      go_ret
      exact ⟨ret_i HX.out.symm,hB1⟩
     ·have f1:decide (x.one < 0)=false:=decide_eq_false g1
      have f2:decide (l.n≤x.one)=false:=decide_eq_false g2
      have f3:decide (x.two < 0)=false:=decide_eq_false g3
      have f4:decide (l.n≤x.two)=true:=decide_eq_true g4
      clear g1 g2 g3 g4
      go_wp2
      go_ret
      exact ⟨ret_i HX.out.symm,hB1⟩
     ·have f1:decide (x.one < 0)=false:=decide_eq_false g1
      have f2:decide (l.n≤x.one)=false:=decide_eq_false g2
      have f3:decide (x.two < 0)=false:=decide_eq_false g3
      have f4:decide (l.n≤x.two)=false:=decide_eq_false g4
      have f5:(x.one==x.two)=true:=by simpa using g5
      clear g1 g2 g3 g4 g5
      go_wp2
      go_ret
      exact ⟨ret_i HX.out.symm,hB1⟩
     ·have f1:decide (x.one < 0)=false:=decide_eq_false g1
      have f2:decide (l.n≤x.one)=false:=decide_eq_false g2
      have f3:decide (x.two < 0)=false:=decide_eq_false g3
      have f4:decide (l.n≤x.two)=false:=decide_eq_false g4
      have f5:(x.one==x.two)=false:=by simpa using g5
      have f6:decide (x.trust < 1)=true:=decide_eq_true g6
      clear g1 g2 g3 g4 g5 g6
      go_wp2
      go_ret
      exact ⟨ret_i HX.out.symm,hB1⟩
     ·have f1:decide (x.one < 0)=false:=decide_eq_false g1
      have f2:decide (l.n≤x.one)=false:=decide_eq_false g2
      have f3:decide (x.two < 0)=false:=decide_eq_false g3
      have f4:decide (l.n≤x.two)=false:=decide_eq_false g4
      have f5:(x.one==x.two)=false:=by simpa using g5
      have f6:decide (x.trust < 1)=false:=decide_eq_false g6
      have f7:decide (1000000 < x.trust)=true:=decide_eq_true g7
      clear g1 g2 g3 g4 g5 g6 g7
      go_wp2
      go_ret
      exact ⟨ret_i HX.out.symm,hB1⟩
   ·obtain rfl:k=l.links.length:=by omega
    have e1:decide (l.links.length < l.links.length)=false:=by simp
    have HM2:Hid (checkL l=if (rises l.n l.left&&rises l.n l.right)=false then 3 else if (l.left.any fun x=>l.right.contains x)=true then 21 else 0):=by
     rw [Hid,HM.out,hq.out,List.drop_length]; rfl
    have hra:=rrising_ok _ l.left l.n wr hCr.na.as_
    clear hq HM
    cases h1:rises l.n l.left
    ·rw [h1] at hra
     have HX:Hid (checkL l=3):=by rw [Hid,HM2.out,h1]; rfl
     clear h1 HM2
     go_wp2_with fail
     refine hra.mono ?_
     rintro e w5 ⟨rfl,hb5⟩
     have hB5:=hBr.trans (hb5.mono hBr.size)
     clear hra k0 k1 k2 k3
     go_wp2
     go_ret
     exact ⟨ret_i HX.out.symm,hB5⟩
    ·rw [h1] at hra
     go_wp2_with fail
     refine hra.mono ?_
     rintro e w5 ⟨rfl,hb5⟩
     have hB5:=hBr.trans (hb5.mono hBr.size)
     have hC5:=hCr.call hb5
     have hrb:=rrising_ok _ l.right l.n w5 hC5.na.bs
     clear hra k0 k1 k2 k3 hb5
     obtain ⟨k0,k1,k2,k3⟩:=hC5.blk.c4
     cases h2:rises l.n l.right
     ·rw [h2] at hrb
      have HX:Hid (checkL l=3):=by rw [Hid,HM2.out,h1,h2]; rfl
      clear h1 h2 HM2
      go_wp2_with fail
      refine hrb.mono ?_
      rintro e w6 ⟨rfl,hb6⟩
      have hB6:=hB5.trans (hb6.mono hB5.size)
      clear hrb k0 k1 k2 k3
      go_wp2
      go_ret
      exact ⟨ret_i HX.out.symm,hB6⟩
     ·rw [h2] at hrb
      have HM3:Hid (checkL l=if (l.left.any fun x=>l.right.contains x)=true then 21 else 0):=by rw [Hid,HM2.out,h1,h2]; rfl
      clear h1 h2 HM2
      go_wp2_with fail
      refine hrb.mono ?_
      rintro e w6 ⟨rfl,hb6⟩
      have hB6:=hB5.trans (hb6.mono hB5.size)
      have hC6:=hC5.call hb6
      clear hrb k0 k1 k2 k3 hB hC hr hBr hCr hC5 hB5 hb6
      go_wp2
      go_loopw [5] (fun i wx=>∃ k:Nat,k≤l.left.length∧i = .int .i64 k∧Hid ((l.left.any fun x=>l.right.contains x)=(l.left.drop k).any fun x=>l.right.contains x)∧Below w.heap.size w wx∧NB wx w.heap.size l ka kc aa ac ba bc) (fun i _=>l.left.length-(intOf i).toNat)
      case atStart=>exact ⟨0,Nat.zero_le _,rfl,rfl,hB6,hC6⟩
      case round =>
       clear hB6 hC6
       obtain ⟨k,hk,rfl,hq,hB6,hC6⟩:=hrel
       obtain ⟨k0,k1,k2,k3⟩:=hC6.blk.c4
       by_cases hlt:k < l.left.length
       ·have e2:decide (k < l.left.length)=true:=decide_eq_true hlt
        have e2':decide ((k:Int) < (l.left.length:Int))=true:=decide_eq_true (by omega)
        have hki:(k:Int) < (l.left.length:Int):=by omega
        obtain ⟨b,off,x,rfl,hbl,hx,c0⟩:=numx_at hC6.na.as_ hlt
        have hst:((l.left.drop k).any fun x=>l.right.contains x)=(l.right.contains x||(l.left.drop (k+1)).any fun x=>l.right.contains x):=by rw [drop_cons hx,List.any_cons]
        have HST:=Lib.hid hst
        have HW:=Lib.hid (fun y:Ext wr=>ext_call y ((rin_ok _ l.right x y.w ((hC6.call y.h).na.bs)).mono fun e w' h=>(⟨h.1,by rw [h.2]; exact Below.refl _ _⟩:_∧_)))
        have f2:=Ext.of k2
        have f3:=Ext.of k3
        have fc:=Ext.of c0
        clear hst hx
        cases hin:l.right.contains x
        ·rw [hin] at HW
         have HN:Hid ((l.left.any fun x=>l.right.contains x)=(l.left.drop (k+1)).any fun x=>l.right.contains x):=by rw [Hid,hq.out,HST.out,hin]; rfl
         clear hin hq HST
         go_upto_region 14 with (fail)
         clear k0 k1 k2 k3 c0
         refine wp_region_ext (by kernel_rfl) (by kernel_rfl) ?_
         repeat (go_big_quiet_step ((go_at_call 29; exact HW.out _)))
         refine wpQuiet_nil ?_
         intro _ hw'
         obtain ⟨xr,hw''⟩:=hw'
         subst hw''
         have hB7:=hB6.trans (xr.h.mono hB6.size)
         have hC7:=hC6.call xr.h
         clear HW f2 f3 fc hC6 hB6
         go_wp2
         go_roundw
         case rel=>exact ⟨k+1,by omega,by go_num,HN,hB7,hC7⟩
         case measure=>(simp [intOf]; try omega)
        ·rw [hin] at HW
         have HX:Hid (checkL l=21):=by rw [Hid,HM3.out,hq.out,HST.out,hin]; rfl
         clear hin hq HST
         go_upto_region 14 with (fail)
         clear k0 k1 k2 k3 c0
         refine wp_region_ext (by kernel_rfl) (by kernel_rfl) ?_
         repeat (go_big_quiet_step ((go_at_call 29; exact HW.out _)))
         refine wpQuiet_nil ?_
         intro _ hw'
         obtain ⟨xr,hw''⟩:=hw'
         subst hw''
         have hB7:=hB6.trans (xr.h.mono hB6.size)
         clear HW f2 f3 fc hC6 hB6
         go_wp2
         go_ret
         exact ⟨ret_i HX.out.symm,hB7⟩
       ·obtain rfl:k=l.left.length:=by omega
        have e2:decide (l.left.length < l.left.length)=false:=by simp
        have HX:Hid (checkL l=0):=by rw [Hid,HM3.out,hq.out,List.drop_length]; rfl
        clear hq HM3
        go_wp2
        go_ret
        exact ⟨ret_i HX.out.symm,hB6⟩
 ·have HX:Hid (checkL l=6):=by rw [Hid]; unfold checkL; rw [if_pos hm]
  have hor:l.n < 2∨(¬ l.n < 2∧40 < l.n)∨(¬ l.n < 2∧¬ 40 < l.n∧120 < l.links.length)∨(¬ l.n < 2∧¬ 40 < l.n∧¬ 120 < l.links.length∧l.left.length < 1)∨(¬ l.n < 2∧¬ 40 < l.n∧¬ 120 < l.links.length∧¬ l.left.length < 1∧10 < l.left.length) ∨
    (¬ l.n < 2∧¬ 40 < l.n∧¬ 120 < l.links.length∧¬ l.left.length < 1∧¬ 10 < l.left.length∧l.right.length < 1)∨(¬ l.n < 2∧¬ 40 < l.n∧¬ 120 < l.links.length∧¬ l.left.length < 1∧¬ 10 < l.left.length∧¬ l.right.length < 1∧10 < l.right.length):=by
   apply Classical.byContradiction
   intro h
   rw [show manyL l=false from many_false.2 (by omega)] at hm
   cases hm
  clear hm
  rcases hor with h1 | ⟨h1,h2⟩ | ⟨h1,h2,h3⟩ | ⟨h1,h2,h3,h4⟩ | ⟨h1,h2,h3,h4,h5⟩ | ⟨h1,h2,h3,h4,h5,h6⟩ | ⟨h1,h2,h3,h4,h5,h6,h7⟩
  ·have d1:decide (l.n < 2)=true:=decide_eq_true (by omega)
   clear h1
   go_wp2
   go_ret
   exact ⟨ret_i HX.out.symm,hB⟩
  ·have d1:decide (l.n < 2)=false:=decide_eq_false (by omega)
   have d2:decide (40 < l.n)=true:=decide_eq_true (by omega)
   clear h1 h2
   go_wp2
   go_ret
   exact ⟨ret_i HX.out.symm,hB⟩
  ·have d1:decide (l.n < 2)=false:=decide_eq_false (by omega)
   have d2:decide (40 < l.n)=false:=decide_eq_false (by omega)
   have d3:decide (120 < l.links.length)=true:=decide_eq_true (by omega)
   have d3':decide ((120:Int) < (l.links.length:Int))=true:=decide_eq_true (by omega)
   clear h1 h2 h3
   go_wp2
   go_ret
   exact ⟨ret_i HX.out.symm,hB⟩
  ·have d1:decide (l.n < 2)=false:=decide_eq_false (by omega)
   have d2:decide (40 < l.n)=false:=decide_eq_false (by omega)
   have d3:decide (120 < l.links.length)=false:=decide_eq_false (by omega)
   have d3':decide ((120:Int) < (l.links.length:Int))=false:=decide_eq_false (by omega)
   have d4:decide ((l.left.length:Int) < 1)=true:=decide_eq_true (by omega)
   clear h1 h2 h3 h4
   go_wp2
   go_ret
   exact ⟨ret_i HX.out.symm,hB⟩
  ·have d1:decide (l.n < 2)=false:=decide_eq_false (by omega)
   have d2:decide (40 < l.n)=false:=decide_eq_false (by omega)
   have d3:decide (120 < l.links.length)=false:=decide_eq_false (by omega)
   have d3':decide ((120:Int) < (l.links.length:Int))=false:=decide_eq_false (by omega)
   have d4:decide ((l.left.length:Int) < 1)=false:=decide_eq_false (by omega)
   have d5:decide (10 < l.left.length)=true:=decide_eq_true (by omega)
   have d5':decide ((10:Int) < (l.left.length:Int))=true:=decide_eq_true (by omega)
   clear h1 h2 h3 h4 h5
   go_wp2
   go_ret
   exact ⟨ret_i HX.out.symm,hB⟩
  ·have d1:decide (l.n < 2)=false:=decide_eq_false (by omega)
   have d2:decide (40 < l.n)=false:=decide_eq_false (by omega)
   have d3:decide (120 < l.links.length)=false:=decide_eq_false (by omega)
   have d3':decide ((120:Int) < (l.links.length:Int))=false:=decide_eq_false (by omega)
   have d4:decide ((l.left.length:Int) < 1)=false:=decide_eq_false (by omega)
   have d5:decide (10 < l.left.length)=false:=decide_eq_false (by omega)
   have d5':decide ((10:Int) < (l.left.length:Int))=false:=decide_eq_false (by omega)
   have d6:decide ((l.right.length:Int) < 1)=true:=decide_eq_true (by omega)
   clear h1 h2 h3 h4 h5 h6
   go_wp2
   go_ret
   exact ⟨ret_i HX.out.symm,hB⟩
  ·have d1:decide (l.n < 2)=false:=decide_eq_false (by omega)
   have d2:decide (40 < l.n)=false:=decide_eq_false (by omega)
   have d3:decide (120 < l.links.length)=false:=decide_eq_false (by omega)
   have d3':decide ((120:Int) < (l.links.length:Int))=false:=decide_eq_false (by omega)
   have d4:decide ((l.left.length:Int) < 1)=false:=decide_eq_false (by omega)
   have d5:decide (10 < l.left.length)=false:=decide_eq_false (by omega)
   have d5':decide ((10:Int) < (l.left.length:Int))=false:=decide_eq_false (by omega)
   have d6:decide ((l.right.length:Int) < 1)=false:=decide_eq_false (by omega)
   have d7:decide (10 < l.right.length)=true:=decide_eq_true (by omega)
   have d7':decide ((10:Int) < (l.right.length:Int))=true:=decide_eq_true (by omega)
   clear h1 h2 h3 h4 h5 h6 h7
   go_wp2
   go_ret
   exact ⟨ret_i HX.out.symm,hB⟩
end Go.Proofs.YtibmeigdjghkcaaGreat
namespace Go.Proofs.YtibmeigdjghkcaaGreat
open Go.RowKit Go.Shelf
set_option linter.unusedVariables false
theorem slT_i64:SlT 67 2 1 8 (.int .i64 0):=⟨Tryz.underlying67,by kernel_rfl,rfl,by omega⟩
theorem slT_int:SlT 30 3 1 8 (.int .i64 0):=⟨Tryz.underlying30,by kernel_rfl,rfl,by omega⟩
theorem made_one (v:Value) (n:Nat):madeCells #[v] n=rowA n fun _=>v:=by
 rw [rowA_const]
 apply Array.ext'
 rw [toList_madeCells_one]
 simp
theorem netC_zero (l:NL) (ka:Option Addr) (kc:Nat) (aa:Option Addr) (ac:Nat) (ba:Option Addr) (bc:Nat) (dv fv:Value) :
  netC l ka kc aa ac ba bc dv fv (fun _=>0)=#[.int .i64 l.n,.slice ka l.links.length kc,.slice aa l.left.length ac,.slice ba l.right.length bc,dv,fv,
   .int .i64 0,.int .i64 0,.int .i64 0,.int .i64 0,.int .i64 0,.int .i64 0,.int .i64 0,.int .i64 0,.int .i64 0,.int .i64 0,.int .i64 0,.int .i64 0,.int .i64 0,.int .i64 0,.int .i64 0,.int .i64 0,.int .i64 0,.int .i64 0,.int .i64 0,.int .i64 0,
   .int .i64 0,.int .i64 0,.int .i64 0,.int .i64 0,.int .i64 0,.int .i64 0,.int .i64 0,.int .i64 0,.int .i64 0,.int .i64 0,.int .i64 0,.int .i64 0,.int .i64 0,.int .i64 0,.int .i64 0,.int .i64 0,.int .i64 0,.int .i64 0,.int .i64 0,.int .i64 0]:=by kernel_rfl
structure NetF (W:World) (B G:Nat) (l:NL) (ka:Option Addr) (kc:Nat) (aa:Option Addr) (ac:Nat) (ba:Option Addr) (bc:Nat) (da:Option Addr) (dc:Nat) (drop:List Int) (fb:Nat) (f:Nat→Int) (h:Nat→Nat):Prop where
 net:NetM W B G l ka kc aa ac ba bc da dc drop (.slice (some ⟨fb,0,none⟩) l.links.length l.links.length) h
 flow:FlowB W fb l.links.length f
 lo:B≤fb∧fb≠G
section
variable {W W':World} {B G:Nat} {l:NL} {ka aa ba da:Option Addr} {kc ac bc dc:Nat} {drop:List Int} {fb:Nat} {f:Nat→Int} {h:Nat→Nat}
theorem NetF.call (m:NetF W B G l ka kc aa ac ba bc da dc drop fb f h) (hb:Below W.heap.size W W'):NetF W' B G l ka kc aa ac ba bc da dc drop fb f h:=⟨m.net.call hb,Blk.call m.flow hb,m.lo⟩
theorem NetF.drew (m:NetF W B G l ka kc aa ac ba bc da dc drop fb f h):NetF W.drew B G l ka kc aa ac ba bc da dc drop fb f h:=⟨m.net.drew,Blk.drew m.flow,m.lo⟩
theorem NetF.grown (m:NetF W B G l ka kc aa ac ba bc da dc drop fb f h) {row:Option Nat} (hg:W.grownBy W' row) (hr:∀ r,row=some r→B≤r∧r≠G∧r≠fb):NetF W' B G l ka kc aa ac ba bc da dc drop fb f h :=
 ⟨m.net.grown hg fun r e=>⟨(hr r e).1,(hr r e).2.1⟩,Blk.grown m.flow hg fun e=>(hr fb e.symm).2.2 rfl,m.lo⟩
theorem NetF.raise (m:NetF W B G l ka kc aa ac ba bc da dc drop fb f h) {u:Nat} (hu:u < 40) (n:Nat):NetF (W.setCell ⟨G,6+u,none⟩ (.int .i64 (n:Int))) B G l ka kc aa ac ba bc da dc drop fb f (raiseH h u n) :=
 ⟨m.net.put hu n,Blk.far m.flow (by have:=m.lo; show fb≠G; omega) _,m.lo⟩
theorem NetF.push (m:NetF W B G l ka kc aa ac ba bc da dc drop fb f h) {i:Nat} {x:Int} {g:Nat→Int} (hg:∀ j,j < l.links.length→g j=if j=i then x else f j):NetF (W.setCell ⟨fb,i,none⟩ (.int .i64 x)) B G l ka kc aa ac ba bc da dc drop fb g h :=
 ⟨m.net.grown (grown_setCell _) fun r e=>by injection e with e; have:=m.lo; omega,m.flow.put hg,m.lo⟩
theorem NetF.lt (m:NetF W B G l ka kc aa ac ba bc da dc drop fb f h):G < W.heap.size∧fb < W.heap.size:=⟨m.net.lt,m.flow.lt⟩
theorem NetF.congr (m:NetF W B G l ka kc aa ac ba bc da dc drop fb f h) {g:Nat→Int} (hg:∀ i,i < l.links.length→f i=g i):NetF W B G l ka kc aa ac ba bc da dc drop fb g h:=⟨m.net,m.flow.congr hg,m.lo⟩
end
set_option maxHeartbeats 800000 in
theorem newNet_ok (v:Value) (l:NL) (da:Option Addr) (dc:Nat) (drop:List Int) (w:World) (hv:NLV w w.heap.size v l) (hd:Arr w w.heap.size 1 (.slice da drop.length dc) drop icell) (h120:l.links.length≤120) :
  Calls Tryz.prog 132 #[v,.slice da drop.length dc] w fun r w'=>∃ G fb ka kc aa ac ba bc,r = .returned (.pointer (some ⟨G,0,none⟩))∧v=nlV l ka kc aa ac ba bc∧NetF w' w.heap.size G l ka kc aa ac ba bc da dc drop fb (fun _=>0) (fun _=>0)∧Below w.heap.size w w':=by
 obtain ⟨ka,kc,aa,ac,ba,bc,rfl,hna⟩:=hv
 have hC:=NB.new hna
 have hB:=(Below.refl w.heap.size w).alloc (Nat.le_refl _) (.cells #[.int .i64 l.n,.slice ka l.links.length kc,.slice aa l.left.length ac,.slice ba l.right.length bc] 33)
 have hd0:=hd.below hB
 have hn0:=hna.below hB
 clear hd
 go_enter Tryz.func132,Tryz.ntmps132
 go_upto_region 1 with (fail)
 generalize w.alloc (.cells #[.int .i64 l.n,.slice ka l.links.length kc,.slice aa l.left.length ac,.slice ba l.right.length bc] 33)=W at *
 clear hna
 obtain ⟨k0,k1,k2,k3⟩:=hC.blk.c4
 have f0:=Ext.of k0
 have f1:=Ext.of k1
 have f2:=Ext.of k2
 have f3:=Ext.of k3
 have hmk:=run_mk slT_i64 l.links.length (by omega) (by omega)
 refine wp_region_schedH (C:=fun w'=>∃ x:Ext W,w'=x.w) [(0,true),(1,true),(2,true),(3,true),(4,true),(5,false),(6,true),(7,false),(8,false)] (by kernel_rfl) (by kernel_rfl) ⟨⟨W.drew,(Below.refl _ W).drew⟩,rfl⟩ ?_
 refine schedH_q (by rfl) (by rfl) ?_
 intro K hK
 go_big_quiet_op
 go_big_quiet_on
 refine schedH_q (by rfl) (by rfl) ?_
 intro K hK
 go_big_quiet_op
 go_big_quiet_on
 refine schedH_q (by rfl) (by rfl) ?_
 intro K hK
 go_big_quiet_op
 go_big_quiet_on
 refine schedH_q (by rfl) (by rfl) ?_
 intro K hK
 go_big_quiet_op
 go_big_quiet_on
 refine schedH_q (by rfl) (by rfl) ?_
 intro K hK
 go_big_quiet_op
 go_big_quiet_on
 refine schedH_c (by rfl) (by rfl) ?_
 intro K' hK'
 go_wp2
 have hF:=(Blk.new W 2 (madeCells #[.int .i64 0] l.links.length)).drew
 have hbF:=((Below.refl W.heap.size W).alloc (Nat.le_refl _) (.cells (madeCells #[.int .i64 0] l.links.length) 2)).drew
 have hsz:(W.alloc (.cells (madeCells #[.int .i64 0] l.links.length) 2)).drew.heap.size=W.heap.size+1:=by simp [World.drew]
 refine hK' _ _ ⟨⟨⟨_,hbF⟩,rfl⟩,?_⟩
 clear hK' K'
 generalize (W.alloc (.cells (madeCells #[.int .i64 0] l.links.length) 2)).drew=V at *
 refine schedH_q (by rfl) (by rfl) ?_
 intro K hK
 go_big_quiet_op
 go_big_quiet_on
 refine schedH_c (by rfl) (by rfl) ?_
 intro K' hK'
 go_wp2
 rw [← netC_zero l ka kc aa ac ba bc (.slice da drop.length dc) (.slice (some ⟨W.heap.size,0,none⟩) l.links.length l.links.length),← hsz]
 rw [made_one] at hF
 have hG:=Blk.new V 156 (netC l ka kc aa ac ba bc (.slice da drop.length dc) (.slice (some ⟨W.heap.size,0,none⟩) l.links.length l.links.length) fun _=>0)
 have hbG:=(Below.refl V.heap.size V).alloc (Nat.le_refl _) (.cells (netC l ka kc aa ac ba bc (.slice da drop.length dc) (.slice (some ⟨W.heap.size,0,none⟩) l.links.length l.links.length) fun _=>0) 156)
 have hF1:=hF.call hbG
 have hbW:=hbF.trans (hbG.mono hbF.size)
 refine hK' _ _ ⟨⟨⟨_,hbW⟩,rfl⟩,?_⟩
 clear hK' K' f0 f1 f2 f3 k0 k1 k2 k3 hmk hF hbG hbF
 generalize V.alloc (.cells (netC l ka kc aa ac ba bc (.slice da drop.length dc) (.slice (some ⟨W.heap.size,0,none⟩) l.links.length l.links.length) fun _=>0) 156)=U at *
 refine schedH_c (by rfl) (by rfl) ?_
 intro K' hK'
 go_wp2
 refine hK' _ _ ⟨⟨⟨_,hbW⟩,rfl⟩,?_⟩
 clear hK' K'
 refine schedH_nil ?_
 go_wp2
 go_ret
 have hs:=hB.size
 exact ⟨_,_,_,_,_,_,_,_,rfl,rfl,⟨⟨hG,(hn0.below (hbW.mono hs)),hd0.below (hbW.mono hs),by omega⟩,hF1,by omega⟩,hB.trans (hbW.mono hs)⟩
theorem openE_go {l:NL} {drop:List Int} (h:checkL l=0):openE l drop=if rises l.links.length drop=true then 0 else 3:=by
 unfold openE
 rw [if_neg (by simpa using h)]
theorem openE_bad {l:NL} {drop:List Int} (h:checkL l≠0):openE l drop=checkL l:=if_pos h
theorem openE_inv {l:NL} {drop:List Int} (h:openE l drop=0):checkL l=0∧rises l.links.length drop=true:=by
 by_cases h0:checkL l=0
 ·rw [openE_go h0] at h
  refine ⟨h0,?_⟩
  by_cases h1:rises l.links.length drop=true
  ·exact h1
  ·rw [if_neg h1] at h; cases h
 ·rw [openE_bad h0] at h
  exact absurd h h0
set_option maxHeartbeats 800000 in
theorem open_ok (v dv:Value) (l:NL) (drop:List Int) (w:World) (hv:NLV w w.heap.size v l) (hd:Arr w w.heap.size 1 dv drop icell) :
  Calls Tryz.prog 51 #[v,dv] w fun r w'=>Below w.heap.size w w'∧((openE l drop≠0∧r = .returned (.tuple #[.pointer none,.int .i64 (openE l drop)])) ∨
   (openE l drop=0∧∃ G fb ka kc aa ac ba bc da dc,r = .returned (.tuple #[.pointer (some ⟨G,0,none⟩),.int .i64 0])∧v=nlV l ka kc aa ac ba bc∧dv = .slice da drop.length dc∧NetF w' w.heap.size G l ka kc aa ac ba bc da dc drop fb (fun _=>0) (fun _=>0))):=by
 obtain ⟨ka,kc,aa,ac,ba,bc,rfl,hna⟩:=hv
 obtain ⟨da,dc,rfl, -⟩:=id hd
 have hC:=NB.new hna
 have hB:=(Below.refl w.heap.size w).alloc (Nat.le_refl _) (.cells #[.int .i64 l.n,.slice ka l.links.length kc,.slice aa l.left.length ac,.slice ba l.right.length bc] 33)
 have hD:=hd.call hB
 go_enter Tryz.func51,Tryz.ntmps51
 go_upto_region 1 with (fail)
 generalize w.alloc (.cells #[.int .i64 l.n,.slice ka l.links.length kc,.slice aa l.left.length ac,.slice ba l.right.length bc] 33)=W at *
 obtain ⟨k0,k1,k2,k3⟩:=hC.blk.c4
 go_wp2_with fail
 refine (checkList_ok _ l W hC.v).mono ?_
 rintro e w1 ⟨rfl,hb⟩
 replace hB:=hB.trans (hb.mono hB.size)
 replace hC:=hC.call hb
 replace hD:=hD.call hb
 clear hb k0 k1 k2 k3
 obtain ⟨k0,k1,k2,k3⟩:=hC.blk.c4
 by_cases h0:checkL l=0
 ·have HG:=Lib.hid (openE_go (drop:=drop) h0)
  have h120:=(check_good.1 h0).few
  rw [h0]
  clear h0
  go_upto_region 4 with (fail)
  have hP:=Blk.new w1 30 #[.slice da drop.length dc]
  have hb1:=(Below.refl w1.heap.size w1).alloc (Nat.le_refl _) (.cells #[.slice da drop.length dc] 30)
  have hC1:=hC.call hb1
  have hD1:=hD.call hb1
  have hr:=rising_ok (l.links.length:Int) _ [drop] _ (Arr.sole hP (by simp) hD1)
  have e2:[drop].all (rises (l.links.length:Int))=rises (l.links.length:Int) drop:=by simp
  rw [e2] at hr
  have hB1:=hB.trans (hb1.mono hB.size)
  clear hb1 e2 hP
  go_wp2_with fail
  refine hr.mono ?_
  rintro e w2 ⟨rfl,hb⟩
  clear hr k0 k1 k2 k3
  replace hB1:=hB1.trans (hb.mono hB1.size)
  replace hC1:=hC1.call hb
  replace hD1:=hD1.call hb
  obtain ⟨k0,k1,k2,k3⟩:=hC1.blk.c4
  clear hb hC hB hD
  cases hrs:rises (l.links.length:Int) drop
  ·have HE:Hid (openE l drop=3):=by rw [Hid,HG.out,hrs]; rfl
   clear hrs
   go_wp2
   go_ret2
   exact ⟨hB1,.inl ⟨by rw [HE.out]; decide,by rw [HE.out]; rfl⟩⟩
  ·have HE:Hid (openE l drop=0):=by rw [Hid,HG.out,hrs]; rfl
   clear hrs
   have hbs:=hB1.size
   have hnn:=newNet_ok _ l da dc drop w2 hC1.v hD1 h120
   go_wp2_with fail
   refine hnn.mono ?_
   rintro e w3 ⟨G,fb,ka',kc',aa',ac',ba',bc',rfl,hveq,hN,hb⟩
   obtain ⟨rfl,rfl,rfl,rfl,rfl,rfl⟩:ka=ka'∧kc=kc'∧aa=aa'∧ac=ac'∧ba=ba'∧bc=bc':=by simpa [and_assoc] using hveq
   clear hnn
   have hBf:=hB1.trans (hb.mono hbs)
   go_wp2
   go_ret2
   refine ⟨hBf,.inr ⟨HE.out,_,_,_,_,_,_,_,_,_,_,rfl,rfl,rfl,⟨⟨hN.net.blk,hna.below hBf,hd.below hBf,?_⟩,hN.flow,?_,hN.lo.2⟩⟩⟩
   ·have:=hN.net.le; omega
   ·have:=hN.lo.1; omega
 ·have HE:=Lib.hid (openE_bad (drop:=drop) h0)
  have d0:(checkL l != 0)=true:=by simpa using h0
  have HN:=Lib.hid h0
  clear h0
  go_wp2
  go_ret2
  exact ⟨hB,.inl ⟨by rw [HE.out]; exact HN.out,by rw [HE.out]; simp⟩⟩
end Go.Proofs.YtibmeigdjghkcaaGreat
namespace Go.Proofs.YtibmeigdjghkcaaGreat
open Go.RowKit Go.Shelf
set_option linter.unusedVariables false
set_option maxHeartbeats 800000 in
theorem risDrop_ok (v dv:Value) (l:NL) (drop:List Int) (w:World) (hv:NLV w w.heap.size v l) (hd:Arr w w.heap.size 1 dv drop icell) :
  Calls Tryz.prog 60 #[v,dv] w fun r w'=>r = .returned (.int .i64 (openE l drop))∧Below w.heap.size w w':=by
 obtain ⟨ka,kc,aa,ac,ba,bc,rfl,hna⟩:=hv
 have hC:=NB.new hna
 have hB:=(Below.refl w.heap.size w).alloc (Nat.le_refl _) (.cells #[.int .i64 l.n,.slice ka l.links.length kc,.slice aa l.left.length ac,.slice ba l.right.length bc] 33)
 go_enter Tryz.func60,Tryz.ntmps60
 go_upto_region 1 with (fail)
 generalize w.alloc (.cells #[.int .i64 l.n,.slice ka l.links.length kc,.slice aa l.left.length ac,.slice ba l.right.length bc] 33)=W at *
 obtain ⟨k0,k1,k2,k3⟩:=hC.blk.c4
 have ho:=rcheckList_ok _ l W hC.v
 go_wp2_with fail
 refine ho.mono ?_
 rintro e w1 ⟨rfl,hb⟩
 have hB1:=hB.trans (hb.mono hB.size)
 have hC1:=hC.call hb
 clear ho k0 k1 k2 k3 hb hC hB
 obtain ⟨k0,k1,k2,k3⟩:=hC1.blk.c4
 by_cases h0:checkL l=0
 ·have d0:(checkL l != 0)=false:=by simp [h0]
  have hr:=rrising_ok dv drop l.links.length w1 ((hd.below hB1).more hB1.size)
  have HO:=Lib.hid (openE_go (drop:=drop) h0)
  clear h0
  cases h1:rises l.links.length drop
  ·rw [h1] at hr
   have HX:Hid (openE l drop=3):=by rw [Hid,HO.out,h1]; rfl
   clear HO h1
   go_wp2_with fail
   refine hr.mono ?_
   rintro e w2 ⟨rfl,hb2⟩
   have hB2:=hB1.trans (hb2.mono hB1.size)
   clear hr k0 k1 k2 k3
   go_wp2
   go_ret
   exact ⟨ret_i HX.out.symm,hB2⟩
  ·rw [h1] at hr
   have HX:Hid (openE l drop=0):=by rw [Hid,HO.out,h1]; rfl
   clear HO h1
   go_wp2_with fail
   refine hr.mono ?_
   rintro e w2 ⟨rfl,hb2⟩
   have hB2:=hB1.trans (hb2.mono hB1.size)
   clear hr k0 k1 k2 k3
   go_wp2
   go_ret
   exact ⟨ret_i HX.out.symm,hB2⟩
 ·have d0:(checkL l != 0)=true:=by simpa using h0
  have HX:=Lib.hid (openE_bad (drop:=drop) h0)
  have ho2:=rcheckList_ok _ l w1 hC1.v
  clear h0
  go_wp2_with fail
  refine ho2.mono ?_
  rintro e w2 ⟨rfl,hb2⟩
  have hB2:=hB1.trans (hb2.mono hB1.size)
  clear ho2 k0 k1 k2 k3
  go_wp2
  go_ret
  exact ⟨ret_i HX.out.symm,hB2⟩
end Go.Proofs.YtibmeigdjghkcaaGreat
namespace Go.Proofs.YtibmeigdjghkcaaGreat
open Go.RowKit Go.Shelf
set_option linter.unusedVariables false
end Go.Proofs.YtibmeigdjghkcaaGreat
