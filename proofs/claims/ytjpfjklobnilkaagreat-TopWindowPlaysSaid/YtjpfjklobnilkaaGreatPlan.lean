/- plan: what it hands back. -/
import Derived.Test.YtjpfjklobnilkaaGreatFill
import Derived.Test.YtjpfjklobnilkaaGreatRev
import Derived.Test.YtjpfjklobnilkaaGreatPA
import Derived.Test.YtjpfjklobnilkaaGreatRowEq
namespace Go.Proofs.YtjpfjklobnilkaaGreat
open Go.RowKit Go.Shelf
set_option linter.unusedVariables false
theorem slT_str:SlT 42 48 2 16 (.agg #[.int .i64 0,.int .i64 0]):=⟨Tryz.underlying42,by kernel_rfl,rfl,by omega⟩
theorem grown_own {w wr w':World} {row:Option Nat} {e:TypeId} {size n:Nat} {v:Value} {xs:List Value} (h:w.grownBy wr row) (hown:wr.ownsRow w.heap.size e size v n xs) (hg:wr.grownBy w' v.ownBlock):w.grownBy w' row :=
 ⟨hg.os.trans h.os,hg.tape.trans h.tape,hg.output.trans h.output,Nat.le_trans h.size hg.size,fun k hk hr=>(hg.block k (Nat.lt_of_lt_of_le hk h.size) (fun e=>by have:=(hown.lt k e.symm).1; omega)).trans (h.block k hk hr)⟩
theorem own_far {w:World} {base g:Nat} {e:TypeId} {size n:Nat} {v:Value} {xs:List Value} (h:w.ownsRow base e size v n xs) (hg:g < base):v.ownBlock=none∨v.ownBlock≠some g:=by
 rcases hr:v.ownBlock with _ | b
 ·exact .inl rfl
 ·exact .inr fun e=>by injection e with e; have:=(h.lt b hr).1; omega
theorem own_ad_ne {g n cap:Nat} {A:Option Addr} (h:some g≠(Value.slice A n cap).ownBlock):∀ ad,A=some ad→¬ ad.block=g:=by
 rintro ad rfl rfl
 exact h rfl
theorem grown_new {w wr w':World} {row:Option Nat} {b:Nat} (h:w.grownBy wr row) (hg:wr.grownBy w' (some b)) (hb:w.heap.size≤b):w.grownBy w' row :=
 ⟨hg.os.trans h.os,hg.tape.trans h.tape,hg.output.trans h.output,Nat.le_trans h.size hg.size,fun k hk hr=>(hg.block k (Nat.lt_of_lt_of_le hk h.size) (fun e=>by injection e; omega)).trans (h.block k hk hr)⟩
attribute [local go_sem] Oper.semAt_some
set_option maxRecDepth 100000 in
set_option maxHeartbeats 1600000 in
theorem plan_ok (T K:Nat) (B g gm:Nat) (c:Cyl) (hT:c.turns=T) (hT2:T≤30) (hK:c.plays=K) (hK2:K≤6) (V:Nat→Nat→Int) (M:Int→Int→Option Str) (w:World) (h:BoardAt w B g c V (.map (some gm)))
  (hm:MapOf w gm fun a b=>(M a b).map strV) (hM:∀ a b s,M a b=some s→0≤s.a∧s.a < a∧1≤b) (hgm:g < gm) :
  Calls Tryz.prog 31 #[.pointer (some ⟨g,0,none⟩)] w fun r w'=>∃ A cap,r = .returned (.slice A (wayGo V M T T K).length cap)∧Arr w' w'.heap.size 2 (.slice A (wayGo V M T T K).length cap) (wayGo V M T T K).reverse scell∧w.grownBy w' (some gm):=by
 obtain ⟨fa,fc,pa,pc,h⟩:=h
 go_enter Tryz.func31,Tryz.ntmps31
 have hlt:=hm.lt
 go_upto_region 3 with (fail)
 have hx1:=Blk.new w 111 #[.int .i64 0,.int .i64 0,.int .i64 0,.int .i64 0,.int .i64 0,.int .i64 0,.int .i64 0]
 have hb1:=h.alloc (.cells #[.int .i64 0,.int .i64 0,.int .i64 0,.int .i64 0,.int .i64 0,.int .i64 0,.int .i64 0] 111)
 have hm1:=hm.heap (Below.heap_alloc w (.cells #[.int .i64 0,.int .i64 0,.int .i64 0,.int .i64 0,.int .i64 0,.int .i64 0,.int .i64 0] 111) gm hlt)
 have hg1:w.grownBy (w.alloc (.cells #[.int .i64 0,.int .i64 0,.int .i64 0,.int .i64 0,.int .i64 0,.int .i64 0,.int .i64 0] 111)) (some gm):=World.grownBy_alloc _ _ _
 generalize w.alloc (.cells #[.int .i64 0,.int .i64 0,.int .i64 0,.int .i64 0,.int .i64 0,.int .i64 0,.int .i64 0] 111)=w1 at *
 obtain ⟨k0,k1,k2,k3,k4⟩:=hb1.c5
 rw [hT] at k0
 rw [hK] at k2
 have hS:∃ F:World→Prop,(∀ w',F w'↔(w'.cell? ⟨g,0,none⟩=some (.int .i64 T)∧w'.cell? ⟨g,2,none⟩=some (.int .i64 K))):=⟨_,fun _=>Iff.rfl⟩
 obtain ⟨F,hF⟩:=hS
 have hF0:F w1:=(hF w1).2 ⟨k0,k2⟩
 haveI:Nonempty (SubW F):=⟨⟨w1,hF0⟩⟩
 have f0:∀ y:SubW F,y.w.cell? ⟨g,0,none⟩=some (.int .i64 T):=fun y=>((hF y.w).1 y.h).1
 have f1:∀ y:SubW F,y.w.cell? ⟨g,2,none⟩=some (.int .i64 K):=fun y=>((hF y.w).1 y.h).2
 have hFd:F w1.drew:=(hF w1.drew).2 ⟨k0,k2⟩
 have hFa:∀ o,F (w1.drew.alloc o):=fun o=>(hF _).2 ⟨(World.cell?_alloc_lt _ _ _ (cell_lt k0)).trans k0,(World.cell?_alloc_lt _ _ _ (cell_lt k2)).trans k2⟩
 clear hF k0 k1 k2 k3 k4
 refine wp_region_sched (C:=fun w'=>∃ y:SubW F,w'=y.w) [(0,true),(1,true),(2,true),(3,true),(4,true),(5,true),(6,true),(7,true),(8,true),(9,true),(10,true),(11,false),(12,false)] (by kernel_rfl) (by kernel_rfl) ⟨⟨w1.drew,hFd⟩,rfl⟩ ?_
 refine sched_q (by rfl) (by rfl) ?_
 intro K hK
 go_big_quiet_op
 go_big_quiet_on
 refine sched_q (by rfl) (by rfl) ?_
 intro K hK
 go_big_quiet_op
 go_big_quiet_on
 refine sched_q (by rfl) (by rfl) ?_
 intro K hK
 go_big_quiet_op
 go_big_quiet_on
 refine sched_q (by rfl) (by rfl) ?_
 intro K hK
 go_big_quiet_op
 go_big_quiet_on
 refine sched_q (by rfl) (by rfl) ?_
 intro K hK
 go_big_quiet_op
 go_big_quiet_on
 refine sched_q (by rfl) (by rfl) ?_
 intro K hK
 go_big_quiet_op
 go_big_quiet_on
 refine sched_q (by rfl) (by rfl) ?_
 intro K hK
 go_big_quiet_op
 go_big_quiet_on
 refine sched_q (by rfl) (by rfl) ?_
 intro K hK
 go_big_quiet_op
 go_big_quiet_on
 refine sched_q (by rfl) (by rfl) ?_
 intro K hK
 go_big_quiet_op
 go_big_quiet_on
 refine sched_q (by rfl) (by rfl) ?_
 intro K hK
 go_big_quiet_op
 go_big_quiet_on
 refine sched_q (by rfl) (by rfl) ?_
 intro K hK
 go_big_quiet_op
 go_big_quiet_on
 refine sched_c (by rfl) (by rfl) ?_
 intro K' hK'
 go_wp2
 refine hK' _ _ ⟨.inr ⟨⟨_,hFa _⟩,rfl⟩,?_⟩
 clear hK' K'
 refine sched_c (by rfl) (by rfl) ?_
 intro K' hK'
 go_wp2
 refine hK' _ _ ⟨(by first | exact .inl rfl | exact .inl trivial),?_⟩
 clear hK' K'
 refine sched_nil ?_
 clear f0 f1 hFd hFa hF0 this F
 have hs1:w.heap.size < w1.heap.size:=hx1.lt
 have hx2:=Blk.new w1 130 #[.int .i64 T,.int .i64 K]
 have hba:=(Below.refl w1.heap.size w1).alloc (Nat.le_refl _) (.cells #[.int .i64 T,.int .i64 K] 130)
 have hx1:=(hx1.call hba).drew
 have hb1:=(hb1.call hba).drew
 have hm1:MapOf (w1.alloc (.cells #[.int .i64 T,.int .i64 K] 130)).drew gm _:=hm1.heap (hba.block gm (by omega))
 have hg1:w.grownBy (w1.alloc (.cells #[.int .i64 T,.int .i64 K] 130)).drew (some gm):=grown_trans' hg1 (grown_call hba.drew _)
 have hx2:=hx2.drew
 go_wp2_with fail
 generalize (w1.alloc (.cells #[.int .i64 T,.int .i64 K] 130)).drew=w2 at *
 generalize w1.heap.size=xa at *
 go_loopw [3] (fun out wr=>∃ (t k f:Nat) (l:List Str) (A:Option Addr) (cap:Nat),t≤T∧t≤f∧k≤K∧l.length+t≤T∧out = .slice A l.length cap∧wr.ownsRow w.heap.size 48 2 (.slice A l.length cap) l.length (l.flatMap (cellsOf 2 scell))∧Blk wr xa 130 #[.int .i64 t,.int .i64 k]∧Board wr B g c fa fc pa pc V (.map (some gm))∧(∃ M',MapOf wr gm M'∧∀ a b,a≤(t:Int)→M' a b=(M a b).map strV)∧Blk wr w.heap.size 111 #[.int .i64 0,.int .i64 0,.int .i64 0,.int .i64 0,.int .i64 0,.int .i64 0,.int .i64 0]∧w.grownBy wr (some gm)∧wayGo V M T T K=l++wayGo V M f t k)
  (fun _ wr=>match wr.cell? ⟨xa,0,none⟩ with | some (.int _ t)=>t.toNat | _=>0)
 case atStart=>exact ⟨T,K,T,[],none,0,by omega,by omega,by omega,by simp,rfl,World.ownsRow_nil _ _ _ _,hx2,hb1,⟨_,hm1,fun _ _ _=>rfl⟩,hx1,hg1,rfl⟩
 case round =>
  obtain ⟨t,k,f,l,A,cap,hT',hf,hk,hl,rfl,hown,ha,hb,⟨M',hm',hMM⟩,hz,hgr,hway⟩:=hrel
  have a0:=ha.cell 0
  have a1:=ha.cell 1
  simp at a0 a1
  by_cases ht:t=0
  ·subst ht
   have q0:decide ((0:Int) < ((0:Nat):Int))=false:=by simp
   go_upto_region 4 with (fail)
   go_quiet (fail)
   have hway2:wayGo V M T T K=l:=by rw [hway,wayGo_zero,List.append_nil]
   have hownq:(wr.drewN nq).ownsRow w.heap.size 48 2 (.slice A l.length cap) l.length (l.flatMap (cellsOf 2 scell)):=hown
   have hgrq:w.grownBy (wr.drewN nq) (some gm):=⟨hgr.os,hgr.tape,hgr.output,hgr.size,hgr.block⟩
   generalize wr.drewN nq=wq at *
   go_wp2_with fail
   refine (reverse_ok l A cap wq hownq).mono ?_
   rintro e w' ⟨rfl,harr,hgR⟩
   have hfin:=grown_own hgrq hownq hgR
   go_wp2
   go_ret
   exact ⟨A,cap,by rw [hway2]; rfl,by rw [hway2]; exact harr,hfin⟩
  ·have q0:0 < t:=by omega
   have q1:decide (0 < t)=true:=by simpa using q0
   have q2:(t:Int) < 31:=by omega
   have v0:=hb.at_ (t:=t) (k:=0) (by omega) (by omega)
   have v1:=hb.at_ (t:=t) (k:=1) (by omega) (by omega)
   have v2:=hb.at_ (t:=t) (k:=2) (by omega) (by omega)
   have v3:=hb.at_ (t:=t) (k:=3) (by omega) (by omega)
   have v4:=hb.at_ (t:=t) (k:=4) (by omega) (by omega)
   have v5:=hb.at_ (t:=t) (k:=5) (by omega) (by omega)
   have v6:=hb.at_ (t:=t) (k:=6) (by omega) (by omega)
   rw [Nat.add_zero] at v0
   have z0:=hz.cell 0
   have z1:=hz.cell 1
   have z2:=hz.cell 2
   have z3:=hz.cell 3
   have z4:=hz.cell 4
   have z5:=hz.cell 5
   have z6:=hz.cell 6
   simp at z0 z1 z2 z3 z4 z5 z6
   have hgd:=guard_row
   have heq:=fun w'=>eq_row10 (V t 0) (V t 1) (V t 2) (V t 3) (V t 4) (V t 5) (V t 6) w'
   cases hzr:(V t 0==0&&(V t 1==0&&(V t 2==0&&(V t 3==0&&(V t 4==0&&(V t 5==0&&V t 6==0))))))
   ·rw [hzr] at heq
    go_upto_region 4 with (fail)
    go_quiet (fail)
    have hownq:(wr.drewN nq).ownsRow w.heap.size 48 2 (.slice A l.length cap) l.length (l.flatMap (cellsOf 2 scell)):=hown
    have haq:=ha.drewN nq
    have hbq:=hb.drewN nq
    have hmq:MapOf (wr.drewN nq) gm M':=hm'
    have hzq:=hz.drewN nq
    have hgrq:w.grownBy (wr.drewN nq) (some gm):=⟨hgr.os,hgr.tape,hgr.output,hgr.size,hgr.block⟩
    have HA:=Lib.hid a0
    generalize wr.drewN nq=wq at *
    clear z0 z1 z2 z3 z4 z5 z6 v0 v1 v2 v3 v4 v5 v6 a0 a1 heq hgd hown ha hb hm' hz hgr
    have a0:=haq.cell 0
    have a1:=haq.cell 1
    simp at a0 a1
    go_upto_region 5 with (fail)
    have mb:=hbq.mp
    have hF:∃ F:World→Prop,(∀ w',F w'↔(w'.cell? ⟨g,222,none⟩=some (.map (some gm))∧w'.cell? ⟨xa,0,none⟩=some (.int .i64 t)∧w'.cell? ⟨xa,1,none⟩=some (.int .i64 k)∧w'.heap[gm]? = wq.heap[gm]?)):=⟨_,fun _=>Iff.rfl⟩
    obtain ⟨F,hF⟩:=hF
    have hF0:F wq:=(hF wq).2 ⟨mb,a0,a1,rfl⟩
    haveI hne:Nonempty (SubW F):=⟨⟨wq,hF0⟩⟩
    have f0:∀ y:SubW F,y.w.cell? ⟨g,222,none⟩=some (.map (some gm)):=fun y=>((hF y.w).1 y.h).1
    have f1:∀ y:SubW F,y.w.cell? ⟨xa,0,none⟩=some (.int .i64 t):=fun y=>((hF y.w).1 y.h).2.1
    have f2:∀ y:SubW F,y.w.cell? ⟨xa,1,none⟩=some (.int .i64 k):=fun y=>((hF y.w).1 y.h).2.2.1
    have f3:∀ y:SubW F,(Instr.lookup 113 (.map (some gm)) (.agg #[.int .i64 (t:Int),.int .i64 (k:Int)]) true).run Tryz.prog y.w = .ok (match M' t k with | some v => .tuple #[v,.bool true] | none => .tuple #[.agg #[.int .i64 0,.int .i64 0],.bool false]) y.w :=
     fun y=>(hmq.heap ((hF y.w).1 y.h).2.2.2).lookup keyState Tryz.underlying113 t k (by kernel_rfl)
    rw [hMM t k (Int.le_refl _)] at f3
    have hFq:F wq.drew:=(hF _).2 ⟨mb,a0,a1,rfl⟩
    have gml:=hmq.lt
    have hFa:∀ o,F (wq.drew.alloc o):=fun o=>(hF _).2 ⟨(World.cell?_alloc_lt _ _ _ (cell_lt mb)).trans mb,(World.cell?_alloc_lt _ _ _ (cell_lt a0)).trans a0,(World.cell?_alloc_lt _ _ _ (cell_lt a1)).trans a1,Below.heap_alloc wq o gm gml⟩
    clear hF
    cases hMk:M t k with
    | none =>
      rw [hMk] at f3
      simp only [Option.map_none] at f3
      refine wp_region_sched (C:=fun w'=>∃ y:SubW F,w'=y.w) [(0,true),(1,true),(2,true),(3,true),(4,true),(5,true),(6,true),(7,true),(8,true),(9,false),(10,false),(11,false)] (by kernel_rfl) (by kernel_rfl) ⟨⟨_,hFq⟩,rfl⟩ ?_
      refine sched_q (by rfl) (by rfl) ?_
      intro K hK
      go_big_quiet_op
      go_big_quiet_on
      refine sched_q (by rfl) (by rfl) ?_
      intro K hK
      go_big_quiet_op
      go_big_quiet_on
      refine sched_q (by rfl) (by rfl) ?_
      intro K hK
      go_big_quiet_op
      go_big_quiet_on
      refine sched_q (by rfl) (by rfl) ?_
      intro K hK
      go_big_quiet_op
      go_big_quiet_on
      refine sched_q (by rfl) (by rfl) ?_
      intro K hK
      go_big_quiet_op
      go_big_quiet_on
      refine sched_q (by rfl) (by rfl) ?_
      intro K hK
      go_big_quiet_op
      go_big_quiet_on
      refine sched_q (by rfl) (by rfl) ?_
      intro K hK
      go_big_quiet_op
      go_big_quiet_on
      refine sched_q (by rfl) (by rfl) ?_
      intro K hK
      go_big_quiet_op
      go_big_quiet_on
      refine sched_q (by rfl) (by rfl) ?_
      intro K hK
      go_big_quiet_op
      go_big_quiet_on
      refine sched_c (by rfl) (by rfl) ?_
      intro K' hK'
      go_wp2
      refine hK' _ _ ⟨.inr ⟨⟨_,hFa _⟩,rfl⟩,?_⟩
      clear hK' K'
      refine sched_c (by rfl) (by rfl) ?_
      intro K' hK'
      go_wp2
      refine hK' _ _ ⟨.inr ⟨⟨_,hFa _⟩,rfl⟩,?_⟩
      clear hK' K'
      refine sched_c (by rfl) (by rfl) ?_
      intro K' hK'
      go_wp2
      refine hK' _ _ ⟨(by first | exact .inl rfl | exact .inl trivial),?_⟩
      clear hK' K'
      refine sched_nil ?_
      have hbz:=(Below.refl wq.heap.size wq).alloc (Nat.le_refl _) (.cells #[.int .i64 0,.int .i64 0] 48)
      have hxs:Blk (wq.alloc (.cells #[.int .i64 0,.int .i64 0] 48)).drew wq.heap.size 48 #[.int .i64 0,.int .i64 0]:=(Blk.new wq 48 #[.int .i64 0,.int .i64 0]).drew
      have hbz:=hbz.drew
      have hownz:=own_call hownq hbz
      have haz:=haq.call hbz
      have hbdz:=hbq.call hbz
      have hmz:MapOf (wq.alloc (.cells #[.int .i64 0,.int .i64 0] 48)).drew gm M':=hmq.heap (hbz.block gm gml)
      have hzz:=hzq.call hbz
      have hgrz:w.grownBy (wq.alloc (.cells #[.int .i64 0,.int .i64 0] 48)).drew (some gm):=grown_trans' hgrq (grown_call hbz _)
      have hxlt:wq.heap.size > xa:=haq.lt
      have hzlt:w.heap.size < wq.heap.size:=hzq.lt
      generalize (wq.alloc (.cells #[.int .i64 0,.int .i64 0] 48)).drew=wz at *
      clear f0 f1 f2 f3 hFq hFa hF0 mb a0 a1 hbz
      have a0:=haz.cell 0
      have a1:=haz.cell 1
      simp at a0 a1
      have a3:IntKind.i64.wrap ((t:Int)-1)=(t:Int)-1:=wrap_id _ (by omega) (by omega)
      have hfr:=haz.frozen 0
      have hst:∀ v:Value,w.grownBy (wz.setCell ⟨xa,0,none⟩ v) (some gm):=fun v=>grown_new hgrz (grown_setCell v) (Nat.le_of_lt hs1)
      have hne1:Value.ownBlock (.slice A l.length cap)≠some xa:=fun e=>own_blk_ne hownz haz (by decide) e.symm
      go_wp2
      go_roundw
      case rel =>
       refine ⟨t-1,k,f-1,l,A,cap,by omega,by omega,hk,by omega,rfl,hownz.kept (grown_setCell _) (.inr hne1),?_,hbdz.far (by show g≠xa; omega) (by have:=hbdz.le; show B≤xa; omega) _,⟨M',hmz.grown (grown_setCell (g:=xa) _) (by simp; omega),fun a b hab=>hMM a b (by omega)⟩,hzz.far (by show w.heap.size≠xa; omega) _,hst _,?_⟩
       ·have:=haz.set_ 0 (.int .i64 ((t:Int)-1))
        rw [show ((t-1:Nat):Int)=(t:Int)-1 by omega]
        simpa using this
       ·rw [hway]
        congr 1
        obtain ⟨f',rfl⟩:∃ f',f=f'+1:=⟨f-1,by omega⟩
        rw [wayGo_none V M f' t k ht (by simpa using hzr) hMk]
        rfl
      case measure =>
       have:=(haz.set_ 0 (.int .i64 ((t:Int)-1))).cell 0
       simp at this
       simp [this,HA.out]
       omega
    | some st =>
      obtain ⟨m1,m2,m3⟩:=hM _ _ _ hMk
      rw [hMk] at f3
      simp only [Option.map_some,strV] at f3
      refine wp_region_sched (C:=fun w'=>∃ y:SubW F,w'=y.w) [(0,true),(1,true),(2,true),(3,true),(4,true),(5,true),(6,true),(7,true),(8,true),(9,false),(10,false),(11,false)] (by kernel_rfl) (by kernel_rfl) ⟨⟨_,hFq⟩,rfl⟩ ?_
      refine sched_q (by rfl) (by rfl) ?_
      intro K hK
      go_big_quiet_op
      go_big_quiet_on
      refine sched_q (by rfl) (by rfl) ?_
      intro K hK
      go_big_quiet_op
      go_big_quiet_on
      refine sched_q (by rfl) (by rfl) ?_
      intro K hK
      go_big_quiet_op
      go_big_quiet_on
      refine sched_q (by rfl) (by rfl) ?_
      intro K hK
      go_big_quiet_op
      go_big_quiet_on
      refine sched_q (by rfl) (by rfl) ?_
      intro K hK
      go_big_quiet_op
      go_big_quiet_on
      refine sched_q (by rfl) (by rfl) ?_
      intro K hK
      go_big_quiet_op
      go_big_quiet_on
      refine sched_q (by rfl) (by rfl) ?_
      intro K hK
      go_big_quiet_op
      go_big_quiet_on
      refine sched_q (by rfl) (by rfl) ?_
      intro K hK
      go_big_quiet_op
      go_big_quiet_on
      refine sched_q (by rfl) (by rfl) ?_
      intro K hK
      go_big_quiet_op
      go_big_quiet_on
      refine sched_c (by rfl) (by rfl) ?_
      intro K' hK'
      go_wp2
      refine hK' _ _ ⟨.inr ⟨⟨_,hFa _⟩,rfl⟩,?_⟩
      clear hK' K'
      refine sched_c (by rfl) (by rfl) ?_
      intro K' hK'
      go_wp2
      refine hK' _ _ ⟨.inr ⟨⟨_,hFa _⟩,rfl⟩,?_⟩
      clear hK' K'
      refine sched_c (by rfl) (by rfl) ?_
      intro K' hK'
      go_wp2
      refine hK' _ _ ⟨(by first | exact .inl rfl | exact .inl trivial),?_⟩
      clear hK' K'
      refine sched_nil ?_
      have hbz:=(Below.refl wq.heap.size wq).alloc (Nat.le_refl _) (.cells #[.int .i64 st.a,.int .i64 st.b] 48)
      have hxs:Blk (wq.alloc (.cells #[.int .i64 st.a,.int .i64 st.b] 48)).drew wq.heap.size 48 #[.int .i64 st.a,.int .i64 st.b]:=(Blk.new wq 48 #[.int .i64 st.a,.int .i64 st.b]).drew
      have hbz:=hbz.drew
      have hownz:=own_call hownq hbz
      have haz:=haq.call hbz
      have hbdz:=hbq.call hbz
      have hmz:MapOf (wq.alloc (.cells #[.int .i64 st.a,.int .i64 st.b] 48)).drew gm M':=hmq.heap (hbz.block gm gml)
      have hzz:=hzq.call hbz
      have hgrz:w.grownBy (wq.alloc (.cells #[.int .i64 st.a,.int .i64 st.b] 48)).drew (some gm):=grown_trans' hgrq (grown_call hbz _)
      have hxlt:wq.heap.size > xa:=haq.lt
      have hzlt:w.heap.size < wq.heap.size:=hzq.lt
      generalize (wq.alloc (.cells #[.int .i64 st.a,.int .i64 st.b] 48)).drew=wz at *
      clear f0 f1 f2 f3 hFq hFa hF0 mb a0 a1 hbz
      have a0:=haz.cell 0
      have a1:=haz.cell 1
      simp at a0 a1
      have s0:=hxs.cell 0
      have s1:=hxs.cell 1
      simp at s0 s1
      have m0:=hbdz.mp
      have hmd:MapOf wz.drew gm M':=hmz
      obtain ⟨es,cl,B',hde,hmo,hagr⟩:=hmd.delete keyState Tryz.underlying113 (t:Int) (k:Int) 0 #[113,130] rfl
      replace hde:∀ ty,(Builtin.delete_ #[113,130] ty #[.map (some gm),kv (t:Int) (k:Int)]).run Tryz.prog wz.drew = .ok (.tuple #[]) (putMap wz.drew gm es cl):=fun ty=>hde
      go_upto_region 8 with (fail)
      go_wp2_with fail
      go_still_tail 5,(by kernel_rfl)
      change wpList _ _ _ _ _ (wz).drew
      go_upto_region 9 with (fail)
      have hgp:wz.drew.grownBy (putMap wz.drew gm es cl) (some gm):=grown_put es cl
      have hxd:xa < wz.drew.heap.size:=haz.lt
      have hownd:(putMap wz.drew gm es cl).ownsRow w.heap.size 48 2 (.slice A l.length cap) l.length (l.flatMap (cellsOf 2 scell)):=World.ownsRow.kept (w:=wz.drew) hownz hgp (own_far hownz hlt)
      have had:=(haz.drew).grown hgp (by simp; omega)
      have hxd:=(hxs.drew).grown hgp (by simp; omega)
      have hzd:=(hzz.drew).grown hgp (by simp; omega)
      have hbdd:=(hbdz.drew).same (W':=putMap wz.drew gm es cl) (fun j hj=>hgp.block j (by have:gm < wz.heap.size:=hmz.lt; show j < wz.heap.size; omega) (by simp; omega))
      have hgrd:w.grownBy (putMap wz.drew gm es cl) (some gm):=grown_trans' (b:=wz.drew) ⟨hgrz.os,hgrz.tape,hgrz.output,hgrz.size,hgrz.block⟩ hgp
      clear hde hmd hmz hownz haz hxs hzz hbdz hgrz s0 s1 m0 a0 a1 hgp
      generalize putMap wz.drew gm es cl=wd at *
      have s0:=hxd.cell 0
      have s1:=hxd.cell 1
      simp at s0 s1
      have hcap:=own_cap hownd
      have hsz:w.heap.size≤wd.heap.size:=hgrd.size
      go_wp2_with (at_builtin; refine wpList_app1 slT_str rfl (.tmp 54) (.tmp 56) rfl (A:=A) (cc:=cap) rfl ⟨cap,hownd,.inl rfl⟩ rfl rfl one_2 hsz ?_ ?_ ?_)
      any_goals omega
      intro v' w4 hown4 hb4 hkeep
      have hn1:∀ ad,A=some ad→¬ ad.block=xa:=own_ad_ne (own_blk_ne hownd had (by decide))
      have hn2:∀ ad,A=some ad→¬ ad.block=wq.heap.size:=own_ne hownq (Nat.le_refl _)
      have hn3:∀ ad,A=some ad→¬ ad.block=w.heap.size:=own_ad_ne (own_blk_ne hownd hzd (by decide))
      have ha4:Blk w4 xa 130 _:=(hkeep xa had.lt hn1).trans had
      have hx4:Blk w4 wq.heap.size 48 _:=(hkeep _ hxd.lt hn2).trans hxd
      have hz4:Blk w4 w.heap.size 111 _:=(hkeep _ hzd.lt hn3).trans hzd
      have hbd4:=hbdd.belowB hb4 (by omega)
      have hm4:=hmo.heap (hb4.block gm hlt)
      have hgr4:w.grownBy w4 (some gm):=⟨hb4.os.trans hgrd.os,hb4.tape.trans hgrd.tape,hb4.output.trans hgrd.output,Nat.le_trans hgrd.size hb4.size,fun j hj hr=>(hb4.block j hj).trans (hgrd.block j hj hr)⟩
      have hown5:=own_snoc (cell:=scell) (x:=st) (vals:=#[.int .i64 st.a,.int .i64 st.b]) rfl (by simp [cellsOf,List.range_succ,scell]) hown4
      obtain ⟨A',cap',rfl⟩:=own_form hown5
      clear hkeep hown4 hownd had hxd hzd hbdd hmo hgrd s0 s1 hn1 hn2 hn3 hcap hb4 hsz
      have s0:=hx4.cell 0
      have s1:=hx4.cell 1
      have a0:=ha4.cell 0
      have a1:=ha4.cell 1
      simp at s0 s1 a0 a1
      have z0:=ha4.frozen 0
      have z1:=ha4.frozen 1
      have e1:IntKind.i64.wrap ((k:Int)-1)=(k:Int)-1:=wrap_id _ (by omega) (by omega)
      have hxx:xa≠wq.heap.size:=by omega
      go_upto_region 11 with (fail)
      have ha5:=(ha4.set_ 0 (.int .i64 st.a)).set_ 1 (.int .i64 ((k:Int)-1))
      simp at ha5
      have hg5:w4.grownBy ((w4.setCell ⟨xa,0,none⟩ (.int .i64 st.a)).setCell ⟨xa,1,none⟩ (.int .i64 ((k:Int)-1))) (some xa):=grown_trans' (grown_setCell _) (grown_setCell _)
      have hown6:=hown5.kept hg5 (.inr fun e=>own_blk_ne hown5 ha4 (by decide) e.symm)
      have hbd5:=(hbd4.far (p:=⟨xa,0,none⟩) (by show g≠xa; omega) (by have:=hbd4.le; show B≤xa; omega) (.int .i64 st.a)).far (p:=⟨xa,1,none⟩) (by show g≠xa; omega) (by have:=hbd4.le; show B≤xa; omega) (.int .i64 ((k:Int)-1))
      have hm5:=hm4.grown hg5 (by simp; omega)
      have hz5:=hz4.grown hg5 (by simp; omega)
      have hgr5:=grown_new hgr4 hg5 (Nat.le_of_lt hs1)
      clear s0 s1 a0 a1 z0 z1 ha4 hown5 hbd4 hm4 hz4 hgr4 hg5 hx4
      generalize (w4.setCell ⟨xa,0,none⟩ (.int .i64 st.a)).setCell ⟨xa,1,none⟩ (.int .i64 ((k:Int)-1))=w5 at *
      have a0:=ha5.cell 0
      have a1:=ha5.cell 1
      simp at a0 a1
      obtain ⟨f',rfl⟩:∃ f',f=f'+1:=⟨f-1,by omega⟩
      have hgs:=guard_state
      have hway1:=Lib.hid (wayGo_some V M f' t k st ht (by simpa using hzr) hMk)
      have hes:∀ w',(Op.equalIn 10000 130 (.agg #[.int .i64 st.a,.int .i64 ((k:Int)-1)]) (.agg #[.int .i64 0,.int .i64 0])).run Tryz.prog w' = .ok (st.a==0&&((k:Int)-1)==0) w':=fun w'=>keyState.eq st.a ((k:Int)-1) 0 0 w'
      by_cases hz:st.a=0∧k=1
      ·have hzb:(st.a==0&&((k:Int)-1)==0)=true:=by simp; omega
       rw [hzb] at hes
       have hway2:Hid (wayGo V M T T K=l++[st]):=by rw [Hid,hway,hway1.out,if_pos hz]
       clear hway hz hzb
       have hrev:=reverse_ok (l++[st]) A' cap' w5 hown6
       have hlen1:Hid ((l++[st]).length=l.length+1):=by simp [Hid]
       rw [hlen1.out] at hrev hown6
       have HRV:=Lib.hid hrev
       clear hrev
       go_wp2_with fail
       refine (HRV.out).mono ?_
       rintro e w' ⟨rfl,harr,hgR⟩
       have hfin:=grown_own hgr5 hown6 hgR
       go_wp2
       go_ret
       exact ⟨A',cap',by rw [hway2.out,hlen1.out]; rfl,by rw [hway2.out,hlen1.out]; exact harr,hfin⟩
      ·have hzb:(st.a==0&&((k:Int)-1)==0)=false:=by simp; omega
       rw [hzb] at hes
       have hway2:Hid (wayGo V M T T K=(l++[st])++wayGo V M f' st.a.toNat (k-1)):=by rw [Hid,hway,hway1.out,if_neg hz]; simp
       clear hway hz hzb
       go_wp2
       go_roundw
       case rel =>
        refine ⟨st.a.toNat,k-1,f',l++[st],A',cap',by omega,by omega,by omega,by simp; omega,rfl,hown6,?_,hbd5,⟨B',hm5,fun a b hab=>?_⟩,hz5,hgr5,hway2.out⟩
        ·rw [show ((st.a.toNat:Nat):Int)=st.a by omega,show ((k-1:Nat):Int)=(k:Int)-1 by omega]
         exact ha5
        ·rw [hagr a b (by simp; omega)]
         exact hMM a b (by omega)
       case measure =>
        simp [a0,HA.out]
        omega
   ·rw [hzr] at heq
    go_upto_region 4 with (fail)
    go_quiet (fail)
    have hw0:wayGo V M f t k=[]:=by
     simp only [Bool.and_eq_true,beq_iff_eq] at hzr
     cases f with
     | zero=>rfl
     | succ f=>unfold wayGo; rw [if_pos (.inr hzr)]
    have hway2:wayGo V M T T K=l:=by rw [hway,hw0,List.append_nil]
    have hownq:(wr.drewN nq).ownsRow w.heap.size 48 2 (.slice A l.length cap) l.length (l.flatMap (cellsOf 2 scell)):=hown
    have hgrq:w.grownBy (wr.drewN nq) (some gm):=⟨hgr.os,hgr.tape,hgr.output,hgr.size,hgr.block⟩
    generalize wr.drewN nq=wq at *
    go_wp2_with fail
    refine (reverse_ok l A cap wq hownq).mono ?_
    rintro e w' ⟨rfl,harr,hgR⟩
    have hfin:=grown_own hgrq hownq hgR
    go_wp2
    go_ret
    exact ⟨A,cap,by rw [hway2]; rfl,by rw [hway2]; exact harr,hfin⟩
end Go.Proofs.YtjpfjklobnilkaaGreat
