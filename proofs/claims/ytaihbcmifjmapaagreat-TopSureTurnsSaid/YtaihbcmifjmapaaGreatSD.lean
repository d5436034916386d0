/- Contract: newNet of package speed. The iterator of a net's rules; keeps. -/
import Derived.Test.YtaihbcmifjmapaaGreatSC
import Derived.Test.YtaihbcmifjmapaaGreatSB
import Derived.Test.YtaihbcmifjmapaaGreatPD
namespace Go.Proofs.YtaihbcmifjmapaaGreat
open Go.RowKit Go.Shelf Sp
set_option linter.unusedVariables false
theorem two_ru {w:World} {g:Nat} {t:TypeId} {x y:Ru} (h:Blk w g t #[.int .i64 x.f,.int .i64 x.t,.int .i64 x.m,.int .i64 y.f,.int .i64 y.t,.int .i64 y.m]) :
  ∀ j u,([x,y].flatMap (cellsOf 3 rucell))[j]? = some u→w.cell? ((⟨g,0,none⟩:Addr).add j)=some u:=by
 intro j u hu
 have e:[x,y].flatMap (cellsOf 3 rucell)=[.int .i64 x.f,.int .i64 x.t,.int .i64 x.m,.int .i64 y.f,.int .i64 y.t,.int .i64 y.m]:=rfl
 rw [e] at hu
 have:=h.cell j
 have e2:(⟨g,0,none⟩:Addr).add j=⟨g,j,none⟩:=by
  rcases j with _ | j
  ·rfl
  ·simp [Addr.add]
 rw [e2,this]
 simpa using hu
set_option maxRecDepth 100000 in
set_option maxHeartbeats 1600000 in
theorem newNet_ok (v:Value) (T:Nat) (l:List Ru) (w:World) (hk:SheetOk T l) (hs:SheetV w w.heap.size v T l) :
  Calls Tryz.prog 132 #[v] w fun r w'=>∃ g rv A c,r = .returned (.pointer (some ⟨g,0,none⟩))∧NetAt w' w'.heap.size g T rv (allR T l) A c∧Below w.heap.size w w':=by
 obtain ⟨A0,c,rfl,ha⟩:=hs
 have h1:=hk.few
 have h2:=hk.t1
 have h3:=hk.t20
 clear hk
 go_enter Tryz.func132,Tryz.ntmps132
 go_upto_region 1 with (fail)
 have x0:=Blk.new w 24 #[.int .i64 T,.slice A0 l.length c]
 have hb:=(Below.refl w.heap.size w).alloc (Nat.le_refl _) (.cells #[.int .i64 T,.slice A0 l.length c] 24)
 generalize w.alloc (.cells #[.int .i64 T,.slice A0 l.length c] 24)=W at *
 have ha1:=(ha.below hb).more hb.size
 have p0:=x0.cell 0
 have p1:=x0.cell 1
 simp at p0 p1
 have f0:=Ext.of p0
 have f1:=Ext.of p1
 have hd:Below W.heap.size W W.drew:=(Below.refl _ W).drew
 refine wp_region_schedW (C:=fun w'=>∃ x:Ext W,w'=x.w) [(0,true),(1,true),(2,true),(3,false),(4,false),(5,false),(6,false)] (by kernel_rfl) (by kernel_rfl) ⟨⟨W.drew,hd⟩,rfl⟩ ?_
 refine sched_q (by rfl) (by rfl) ?_
 intro K hK
 go_big_quiet_op
 go_big_quiet_on
 refine sched_q (by rfl) (by rfl) ?_
 intro K hK
 go_big_quiet_op
 go_big_quiet_on
 refine sched_q (by rfl) (by rfl) ?_
 intro K hK
 go_big_quiet_op
 go_big_quiet_on
 clear f0 f1 p0 p1
 refine sched_c (by rfl) (by rfl) ?_
 intro K hK
 go_wp2_with fail
 refine (clone_ok (.slice A0 l.length c) l W.drew (by omega) ((ha1.below hd).more hd.size)).mono ?_
 rintro e w1 ⟨A1,c1,rfl,hown,hb1⟩
 go_wp2
 have hb2:=hd.trans (hb1.mono hd.size)
 refine hK _ _ ⟨.inr ⟨⟨w1,hb2⟩,rfl⟩,?_⟩
 clear hK K
 refine sched_c (by rfl) (by rfl) ?_
 intro K hK
 go_wp2
 refine hK _ _ ⟨.inr ⟨⟨w1,hb2⟩,rfl⟩,?_⟩
 clear hK K
 refine sched_c (by rfl) (by rfl) ?_
 intro K hK
 go_wp2
 have hown1:=own_call hown ((Below.refl w1.heap.size w1).alloc (Nat.le_refl _) (.cells #[.int .i64 T,.slice A0 l.length c,.slice A1 l.length c1] 326))
 have hn:=Blk.new w1 326 #[.int .i64 T,.slice A0 l.length c,.slice A1 l.length c1]
 have hb3:=(Below.refl w1.heap.size w1).alloc (Nat.le_refl _) (.cells #[.int .i64 T,.slice A0 l.length c,.slice A1 l.length c1] 326)
 have hb4:=hb2.trans (hb3.mono hb2.size)
 refine hK _ _ ⟨.inr ⟨⟨_,hb4⟩,rfl⟩,?_⟩
 clear hK K
 refine sched_c (by rfl) (by rfl) ?_
 intro K hK
 go_wp2
 refine hK _ _ ⟨(by first | exact .inl rfl | exact .inl trivial),?_⟩
 clear hK K
 refine sched_nil ?_
 obtain ⟨g,hg⟩:∃ g,g=w1.heap.size:=⟨_,rfl⟩
 have hgl:=hn.lt
 rw [← hg] at hn hgl ⊢
 have hwg:W.heap.size≤g:=by rw [hg]; exact hb2.size
 have hB:=hb.trans (hb4.mono hb.size)
 clear hb1 hb2 hb3 hb4 hg hown ha1 x0 hd ha
 generalize w1.alloc (.cells #[.int .i64 T,.slice A0 l.length c,.slice A1 l.length c1] 326)=w2 at *
 have p0:=hn.cell 0
 simp at p0
 go_upto_region 3 with (fail)
 go_loopw [4,16] (fun x i wr=>∃ (k n:Nat) (A:Option Addr) (c1:Nat),k≤T∧i = .int .i64 k∧n=l.length+2 * k∧Blk wr g 326 #[.int .i64 T,.slice A0 l.length c,.slice A n c1]∧wr.ownsRow W.heap.size 27 3 (.slice A n c1) n ((l++wholeR k).flatMap (cellsOf 3 rucell))∧Below w.heap.size w wr) (fun _ i _=>T-(intOf i).toNat)
 case atStart=>exact ⟨0,l.length,A1,c1,Nat.zero_le _,rfl,by omega,hn,by rw [wholeR,List.append_nil]; exact hown1,hB⟩
 case round =>
  clear hown1 hn hB p0 hgl
  obtain ⟨k,n,A,c2,hk,rfl,hnn,hnr,hown,hB⟩:=hrel
  by_cases hlt:k < T
  ·have hki:(k:Int) < (T:Int):=by omega
   obtain ⟨r1,hr1⟩:∃ r:Ru,r=⟨0,((k+1:Nat):Int),100000⟩:=⟨_,rfl⟩
   obtain ⟨r2,hr2⟩:∃ r:Ru,r=⟨((k+1:Nat):Int),0,0⟩:=⟨_,rfl⟩
   have q0:=hnr.cell 2
   simp at q0
   have hX:=Blk.new wr 27 #[.int .i64 0,.int .i64 (k+1),.int .i64 100000,.int .i64 (k+1),.int .i64 0,.int .i64 0]
   have hb1:=(Below.refl wr.heap.size wr).alloc (Nat.le_refl _) (.cells #[.int .i64 0,.int .i64 (k+1),.int .i64 100000,.int .i64 (k+1),.int .i64 0,.int .i64 0] 27)
   have hown1:=own_call hown hb1
   have hn1:=hnr.call hb1
   have hB1:=hB.trans (hb1.mono hB.size)
   have hsz:W.heap.size≤(wr.alloc (.cells #[.int .i64 0,.int .i64 (k+1),.int .i64 100000,.int .i64 (k+1),.int .i64 0,.int .i64 0] 27)).heap.size:=by
    have:=hn1.lt
    omega
   have htw:∀ j u,([r1,r2].flatMap (cellsOf 3 rucell))[j]? = some u→(wr.alloc (.cells #[.int .i64 0,.int .i64 (k+1),.int .i64 100000,.int .i64 (k+1),.int .i64 0,.int .i64 0] 27)).cell? ((⟨wr.heap.size,0,none⟩:Addr).add j)=some u:=by
    have e1:((k+1:Nat):Int)=(k:Int)+1:=by omega
    subst hr1 hr2
    refine two_ru (t:=27) ?_
    dsimp only
    rw [e1]
    exact hX
   have HN:=Lib.hid hnn
   have hn1000:n≤200:=by omega
   have HR1:=Lib.hid hr1
   have HR2:=Lib.hid hr2
   clear hown hnr hB hb1 hX hnn hr1 hr2
   go_wp2_with (at_builtin; refine wpList_appM slT_ru rfl (.tmp 23) (.tmp 30) rfl (m:=2) rfl hown1 ⟨wr.heap.size,0,none⟩ rfl ([r1,r2].flatMap (cellsOf 3 rucell)) (by rfl) htw (one_ru _) hsz ?_ ?_ ?_)
   ·omega
   ·omega
   intro v' w' hown2 hb2 hg2
   obtain ⟨A4,c4,rfl⟩:∃ A' cap',v' = .slice A' (n+2) cap':=own_form hown2
   have hn2:=hn1.grown hg2 (own_blk_ne hown1 hn1 (by decide))
   have hB2:=hB1.trans (hb2.mono hb.size)
   have hown5:w'.ownsRow W.heap.size 27 3 (.slice A4 (n+2) c4) (n+2) ((l++wholeR (k+1)).flatMap (cellsOf 3 rucell)):=by
    rw [wholeR,← HR1.out,← HR2.out,← List.append_assoc,List.flatMap_append]
    simpa using hown2
   have z0:=hn2.frozen 2
   have z1:=hn2.cell 2
   simp at z1
   clear hown1 hn1 hB1 hsz htw hown2 hg2 hb2 HR1 HR2 q0
   go_wp2
   have hn3:=hn2.set_ 2 (.slice A4 (n+2) c4)
   simp at hn3
   have hown6:=hown5.kept (grown_setCell (g:=g) (o:=2) (.slice A4 (n+2) c4)) (.inr fun e=>own_blk_ne hown5 hn2 (by decide) e.symm)
   have hB3:=hB2.setCell (p:=⟨g,2,none⟩) (Nat.le_trans hb.size hwg) (.slice A4 (n+2) c4)
   clear hn2 hown5 hB2 z0 z1
   generalize w'.setCell ⟨g,2,none⟩ (.slice A4 (n+2) c4)=w4 at *
   go_roundw
   case rel=>exact ⟨k+1,n+2,A4,c4,by omega,by go_num,by have:=HN.out; omega,hn3,hown6,hB3⟩
   case measure=>(simp [intOf]; try omega)
  ·obtain rfl:k=T:=by omega
   have hl:n=(allR k l).length:=by unfold allR; rw [List.length_append,wholeR_len]; exact hnn
   change wr.ownsRow _ _ _ _ _ ((allR k l).flatMap _) at hown
   clear hnn
   subst hl
   have har:=Arr.of_own hown
   have hnl:=hnr.lt
   go_wp2
   go_ret
   exact ⟨g,_,A,c2,rfl,⟨hnl,Nat.le_refl _,hnr,har⟩,hB⟩
end Go.Proofs.YtaihbcmifjmapaaGreat
namespace Go.Proofs.YtaihbcmifjmapaaGreat
open Go.RowKit Go.Shelf Sp
set_option linter.unusedVariables false
abbrev encR (p:Ru×Nat):Array Value:=#[.int .i64 p.2,.agg #[.int .i64 p.1.f,.int .i64 p.1.t,.int .i64 p.1.m]]
theorem rules_ok (g:Nat) (w:World) :
  Calls Tryz.prog 234 #[.pointer (some ⟨g,0,none⟩)] w fun r w'=>r = .returned (.func (.func 285) #[] #[.pointer (some ⟨w.heap.size,0,none⟩)])∧w.alloc (.cells #[.pointer (some ⟨g,0,none⟩)] 115)=w':=by
 go_enter Tryz.func234,Tryz.ntmps234
 go_wp2
 go_ret
 exact ⟨rfl,rfl⟩
def KeepT (B gb:Nat) (W W':World):Prop:=∀ k,(k < B∨k=gb)→W'.heap[k]? = W.heap[k]?
theorem KeepT.trans {B gb:Nat} {X Y Z:World} (h:KeepT B gb X Y) (k:KeepT B gb Y Z):KeepT B gb X Z:=fun i hi=>(k i hi).trans (h i hi)
theorem KeepT.of_grown {B gb:Nat} {W W':World} {row:Option Nat} (hg:W.grownBy W' row) (hl:B≤W.heap.size∧gb < W.heap.size) (hr:∀ r,row=some r→B≤r∧r≠gb):KeepT B gb W W' :=
 fun k hk=>hg.block k (by omega) fun e=>by have:=hr k e.symm; omega
attribute [local go_sem] Oper.semAt_some
set_option maxRecDepth 100000 in
set_option maxHeartbeats 1600000 in
theorem rules_seq {B g T:Nat} {rv:Value} {al:List Ru} {A:Option Addr} {c:Nat} (n gb:Nat) (w:World) (hlen:al.length≤100) (hS:NetAt w B g T rv al A c) (hx:Blk w gb 115 #[.pointer (some ⟨g,0,none⟩)]) :
  SeqN Fence.wide (n+3) Tryz.prog 285 #[.pointer (some ⟨gb,0,none⟩)] encR (KeepT B gb) al.zipIdx w:=by
 intro y J W hW hJ hY h0
 replace hS:=hS.call hW
 replace hx:=hx.call hW
 refine callsIn_of_wp Tryz.func285 rfl trivial ?_ rfl
 simp only [Tryz.ntmps285,List.size_toArray,List.length_cons,List.length_nil,Nat.reduceAdd,Nat.reduceSub,Array.replicate_succ,Array.replicate_zero,List.push_toArray,List.append_toArray,List.nil_append,List.cons_append]
 have p0:=hx.cell 0
 have q0:=hS.blk.cell 2
 simp at p0 q0
 refine wpIn_wide.2 ?_
 go_wp2
 go_loopw [10] (fun i wr=>∃ k:Nat,k≤al.length∧i = .int .i64 k∧J (al.zipIdx.take k) wr∧NetAt wr B g T rv al A c∧Blk wr gb 115 #[.pointer (some ⟨g,0,none⟩)]) (fun i _=>al.length-(intOf i).toNat)
 case atStart=>exact ⟨0,by omega,rfl,h0,hS,hx⟩
 case round =>
  clear h0 hS hx p0 q0
  obtain ⟨k,hk,rfl,hJ0,hS,hx⟩:=hrel
  by_cases hlt:k < al.length
  ·obtain ⟨A',c',e1,e2,e3,hcell⟩:=id hS.row
   injection e1 with e1 _ e4
   subst e1
   subst e4
   obtain ⟨b,off,rfl,hBb,hcc⟩:=hcell (by omega)
   obtain ⟨x,hxk⟩:∃ x,al[k]? = some x:=⟨al[k],List.getElem?_eq_getElem hlt⟩
   have c0:=hcc k x hxk 0 (by omega)
   have c1:=hcc k x hxk 1 (by omega)
   have c2:=hcc k x hxk 2 (by omega)
   simp only [Nat.add_zero,rucell] at c0 c1 c2
   have hzk:al.zipIdx[k]? = some (x,k):=by rw [List.getElem?_zipIdx,hxk]; simp
   have hsp:al.zipIdx.take k++(x,k)::al.zipIdx.drop (k+1)=al.zipIdx:=by
    obtain ⟨h1,h2⟩:=List.getElem?_eq_some_iff.1 hzk
    rw [← h2,← List.drop_eq_getElem_cons h1,List.take_append_drop]
   have hst:al.zipIdx.take (k+1)=al.zipIdx.take k++[(x,k)]:=by rw [List.take_add_one,hzk]; rfl
   have HSP:=Lib.hid hsp
   have HST:=Lib.hid hst
   clear hcell hcc hxk hsp hst hzk
   go_upto_region 3 with (fail)
   have hb1:=(Below.refl wr.heap.size wr).alloc (Nat.le_refl _) (.cells #[.int .i64 x.f,.int .i64 x.t,.int .i64 x.m] 27)
   have hX:=Blk.new wr 27 #[.int .i64 x.f,.int .i64 x.t,.int .i64 x.m]
   replace hS:=hS.call hb1
   replace hx:=hx.call hb1
   have hJ1:=hJ _ _ _ none hJ0 (grown_of_below hb1) (by simp)
   clear c0 c1 c2 hJ0 hb1
   generalize wr.alloc (.cells #[.int .i64 x.f,.int .i64 x.t,.int .i64 x.m] 27)=w1 at *
   have x0:=hX.cell 0
   have x1:=hX.cell 1
   have x2:=hX.cell 2
   simp at x0 x1 x2
   refine (wpIn_wide (n:=n+3)).1 ?_
   obtain ⟨fn,tmps,assign,body,hy,hR⟩:=hY (al.zipIdx.take k) (x,k) (al.zipIdx.drop (k+1)) w1 hJ1 HSP.out
   dsimp only [encR] at hy
   gi_wp2
   refine hR.mono ?_
   rintro e W3 ⟨rfl,hJ3,hk3⟩
   have hS3:=hS.keep fun q hq=>hk3 q (.inl hq)
   have hx3:Blk W3 gb 115 #[.pointer (some ⟨g,0,none⟩)]:=(hk3 gb (.inr rfl)).trans hx
   rw [← HST.out] at hJ3
   clear hR hy hS hx hJ1 hk3
   gi_wp2
   go_wp2
   go_roundw
   case rel=>exact ⟨k+1,by omega,by go_num,hJ3,hS3,hx3⟩
   case measure=>(simp [intOf]; try omega)
  ·obtain rfl:k=al.length:=by omega
   rw [show al.length=al.zipIdx.length by simp,List.take_length] at hJ0
   go_wp2
   go_end0
   exact ⟨⟨_,rfl⟩,hJ0⟩
end Go.Proofs.YtaihbcmifjmapaaGreat
