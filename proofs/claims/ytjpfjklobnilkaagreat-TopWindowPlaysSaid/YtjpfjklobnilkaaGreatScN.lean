/- Contract of newSong: the tones in the order of their upper ends. -/
import Derived.Test.YtjpfjklobnilkaaGreatScB
import Derived.Test.YtjpfjklobnilkaaGreatFill
import Derived.Test.YtjpfjklobnilkaaGreatSchedZ
namespace Go.Proofs.YtjpfjklobnilkaaGreat
open Go.RowKit Go.Shelf Go.Sort Sc
set_option linter.unusedVariables false
theorem slT_tone:SlT 97 101 3 24 (.agg #[.int .i64 0,.int .i64 0,.int .i64 0]):=⟨Tryz.underlying97,by kernel_rfl,rfl,by omega⟩
theorem vtones:∀ tl:List Tn,(∀ t∈tl,0≤t.hi∧t.hi≤10000)→∃ s:List VTn,s.map (·.1)=tl
 | [],_=>⟨[],rfl⟩
 | t::r,h=>by
   obtain ⟨s,hs⟩:=vtones r fun x hx=>h x (List.mem_cons_of_mem _ hx)
   exact ⟨⟨t,h t (List.mem_cons_self ..)⟩::s,by rw [List.map_cons,hs]⟩
theorem tones_hi {l:List Str} (hl:SongOk l):∀ t∈tonesL 0 l,0≤t.hi∧t.hi≤10000:=fun t ht=>by
 obtain ⟨j,r,h1,rfl⟩:=tonesL_mem ht
 have:=hl.2.2 r (List.mem_of_getElem? h1)
 simp only [toneOf]
 omega
def SongB (W:World) (g:Nat) (s:List Tn):Prop:=∃ A c,Blk W g 99 #[.slice A s.length c]∧Arr W W.heap.size 3 (.slice A s.length c) s tcell
theorem SongB.call {W W':World} {g:Nat} {s:List Tn} (h:SongB W g s) (hb:Below W.heap.size W W'):SongB W' g s:=by
 obtain ⟨A,c,h1,h2⟩:=h
 exact ⟨A,c,h1.call hb,(h2.below hb).more hb.size⟩
set_option maxRecDepth 100000 in
set_option maxHeartbeats 1600000 in
theorem newSong_ok (sv:Value) (l:List Str) (w:World) (hl:SongOk l) (hs:Arr w w.heap.size 2 sv l scell) :
  Calls Tryz.prog 19 #[sv] w fun r w'=>∃ g s,r = .returned (.pointer (some ⟨g,0,none⟩))∧Ord (tonesL 0 l) s∧SongB w' g s∧Below w.heap.size w w':=by
 obtain ⟨xA,xc,rfl,hn,hc,hcell⟩:=hs
 have h1:=hl.1
 have h12:=hl.2.1
 have HV:=Lib.hid (vtones _ (tones_hi hl))
 clear hl
 go_enter Tryz.func19,Tryz.ntmps19
 go_upto_region 2 with (fail)
 have hS:=Blk.new w 99 #[.slice none 0 0]
 have hB:=(Below.refl w.heap.size w).alloc (Nat.le_refl _) (.cells #[.slice none 0 0] 99)
 obtain ⟨g,hg⟩:∃ g,g=w.heap.size:=⟨_,rfl⟩
 have hgl:=hS.lt
 rw [← hg] at hS hgl ⊢
 have HG:=Lib.hid hg
 clear hg
 generalize w.alloc (.cells #[.slice none 0 0] 99)=W at *
 go_upto_region 3 with (fail)
 go_loopw [10] (fun i wr=>∃ (k:Nat) (A:Option Addr) (c:Nat),k≤l.length∧i = .int .i64 k∧Blk wr g 99 #[.slice A k c]∧wr.ownsRow W.heap.size 101 3 (.slice A k c) k ((tonesL 0 (l.take k)).flatMap (cellsOf 3 tcell))∧W.grownBy wr (some g)) (fun i _=>l.length-(intOf i).toNat)
 case atStart=>exact ⟨0,none,0,Nat.zero_le _,rfl,hS,World.ownsRow_nil _ _ _ _,World.grownBy.refl _ _⟩
 case round =>
  obtain ⟨k,A,c,hk,rfl,hSr,hown,hgr⟩:=hrel
  have hBr:Below w.heap.size w wr:=⟨hgr.os.trans hB.os,hgr.tape.trans hB.tape,hgr.output.trans hB.output,Nat.le_trans hB.size hgr.size,fun q hq=>(hgr.block q (Nat.lt_of_lt_of_le hq hB.size) fun e=>by have:=HG.out; injection e; omega).trans (hB.block q hq)⟩
  by_cases hlt:k < l.length
  ·obtain ⟨b,off,rfl,hBb,hcc⟩:=hcell (by omega)
   obtain ⟨x,hx⟩:∃ x,l[k]? = some x:=⟨l[k],List.getElem?_eq_getElem hlt⟩
   have c0:=(hBr.cell (p:=⟨b,off+k*2+0,none⟩) hBb).trans (hcc k x hx 0 (by omega))
   have c1:=(hBr.cell (p:=⟨b,off+k*2+1,none⟩) hBb).trans (hcc k x hx 1 (by omega))
   simp only [Nat.add_zero,scell] at c0 c1
   have HT:=Lib.hid (tonesL_take hx)
   clear hcell hcc hx
   go_upto_region 5 with (fail)
   have hX:=Blk.new wr 32 #[.int .i64 x.a,.int .i64 x.b]
   have hb2:=(Below.refl wr.heap.size wr).alloc (Nat.le_refl _) (.cells #[.int .i64 x.a,.int .i64 x.b] 32)
   have hown2:=own_call hown hb2
   have hS2:=hSr.call hb2
   have hgr2:=grown_trans' hgr (grown_call hb2 (some g))
   have hsz2:=hgr2.size
   have hwr:=hgr.size
   obtain ⟨bx,hbx⟩:∃ bx,bx=wr.heap.size:=⟨_,rfl⟩
   rw [← hbx] at hX hwr ⊢
   clear c0 c1 hown hSr hgr hb2 hbx
   generalize wr.alloc (.cells #[.int .i64 x.a,.int .i64 x.b] 32)=w2 at *
   have s0:=hS2.cell 0
   have x0:=hX.cell 0
   have x1:=hX.cell 1
   simp at s0 x0 x1
   have hF:∃ F:World→Prop,(∀ w',F w'↔(w'.cell? ⟨g,0,none⟩=some (.slice A k c)∧w'.cell? ⟨bx,0,none⟩=some (.int .i64 x.a)∧w'.cell? ⟨bx,1,none⟩=some (.int .i64 x.b))):=⟨_,fun _=>Iff.rfl⟩
   obtain ⟨F,hF⟩:=hF
   have hF0:F w2:=(hF w2).2 ⟨s0,x0,x1⟩
   haveI hne:Nonempty (SubW F):=⟨⟨w2,hF0⟩⟩
   have f0:∀ y:SubW F,y.w.cell? ⟨g,0,none⟩=some (.slice A k c):=fun y=>((hF y.w).1 y.h).1
   have f1:∀ y:SubW F,y.w.cell? ⟨bx,0,none⟩=some (.int .i64 x.a):=fun y=>((hF y.w).1 y.h).2.1
   have f2:∀ y:SubW F,y.w.cell? ⟨bx,1,none⟩=some (.int .i64 x.b):=fun y=>((hF y.w).1 y.h).2.2
   have hFd:F w2.drew:=(hF _).2 ⟨s0,x0,x1⟩
   have HF:=Lib.hid hF
   clear hF s0 x0 x1
   refine wp_region_schedW (C:=fun w'=>∃ y:SubW F,w'=y.w) [(0,true),(1,true),(2,true),(3,true),(4,true),(5,true),(6,true),(7,true),(8,false),(9,false),(10,false),(11,false),(12,false)] (by kernel_rfl) (by kernel_rfl) ⟨⟨w2.drew,hFd⟩,rfl⟩ ?_
   refine sched_q (by rfl) (by rfl) ?_
   intro K hK
   go_big_quiet_op
   go_big_quiet_on
   refine sched_q (by rfl) (by rfl) ?_
   intro K hK
   go_big_quiet_op
   go_big_quiet_on
   refine sched_q (by rfl) (by rfl) ?_
   intro K hK
   go_big_quiet_op
   go_big_quiet_on
   refine sched_q (by rfl) (by rfl) ?_
   intro K hK
   go_big_quiet_op
   go_big_quiet_on
   refine sched_q (by rfl) (by rfl) ?_
   intro K hK
   go_big_quiet_op
   go_big_quiet_on
   refine sched_q (by rfl) (by rfl) ?_
   intro K hK
   go_big_quiet_op
   go_big_quiet_on
   refine sched_q (by rfl) (by rfl) ?_
   intro K hK
   go_big_quiet_op
   go_big_quiet_on
   refine sched_q (by rfl) (by rfl) ?_
   intro K hK
   go_big_quiet_op
   go_big_quiet_on
   refine sched_c (by rfl) (by rfl) ?_
   intro K hK
   go_wp2
   have hF4:∀ o:Obj,F (w2.drew.alloc o):=by
    intro o
    obtain ⟨d0,d1,d2⟩:=(HF.out _).1 hFd
    exact (HF.out _).2 ⟨(World.cell?_alloc_lt _ _ _ (cell_lt d0)).trans d0,(World.cell?_alloc_lt _ _ _ (cell_lt d1)).trans d1,(World.cell?_alloc_lt _ _ _ (cell_lt d2)).trans d2⟩
   refine hK _ _ ⟨.inr ⟨⟨_,hF4 _⟩,rfl⟩,?_⟩
   clear hK K hF4
   refine sched_c (by rfl) (by rfl) ?_
   intro K hK
   have hown3:w2.drew.ownsRow W.heap.size 101 3 (.slice A k c) k ((tonesL 0 (l.take k)).flatMap (cellsOf 3 tcell)):=hown2
   have hX3:Blk w2.drew bx 32 #[.int .i64 x.a,.int .i64 x.b]:=hX
   have hS3:Blk w2.drew g 99 #[.slice A k c]:=hS2
   change wpList _ _ _ _ _ (w2.drew.alloc (.cells #[.int .i64 x.a,.int .i64 x.b,.int .i64 k] 101))
   refine wpList_app2 slT_tone rfl (.tmp 19) (.tmp 23) rfl rfl hown3 rfl rfl one_3 ?_ ?_ ?_ ?_
   ·exact hsz2
   ·omega
   ·omega
   intro v' w4 hown4 hg4 hat
   obtain ⟨A4,c4,rfl⟩:∃ A' cap',v' = .slice A' (k+1) cap':=own_form hown4
   have hne1:some g≠(Value.slice A k c).ownBlock:=own_blk_ne hown3 hS3 (by decide)
   have hne2:some bx≠(Value.slice A k c).ownBlock:=own_blk_ne hown3 hX3 (by decide)
   have hF5:F w4:=by
    obtain ⟨d0,d1,d2⟩:=(HF.out _).1 hFd
    exact (HF.out _).2 ⟨(World.cell?_of_block (hg4.block g (cell_lt d0) hne1)).trans d0,(World.cell?_of_block (hg4.block bx (cell_lt d1) hne2)).trans d1,(World.cell?_of_block (hg4.block bx (cell_lt d2) hne2)).trans d2⟩
   go_wp2
   refine hK _ _ ⟨.inr ⟨⟨w4,hF5⟩,rfl⟩,?_⟩
   clear hK K
   refine sched_c (by rfl) (by rfl) ?_
   intro K hK
   go_wp2
   refine hK _ _ ⟨.inr ⟨⟨w4,hF5⟩,rfl⟩,?_⟩
   clear hK K
   refine sched_c (by rfl) (by rfl) ?_
   intro K hK
   go_wp2
   refine hK _ _ ⟨.inr ⟨⟨w4,hF5⟩,rfl⟩,?_⟩
   clear hK K
   refine sched_c (by rfl) (by rfl) ?_
   intro K hK
   have hS4:Blk w4 g 99 #[.slice A k c]:=hS3.grown hg4 hne1
   have z0:=hS4.frozen 0
   have z1:=hS4.cell 0
   simp at z1
   go_wp2
   refine hK _ _ ⟨(by first | exact .inl rfl | exact .inl trivial),?_⟩
   clear hK K
   refine sched_nil ?_
   have hS5:=hS4.set_ 0 (.slice A4 (k+1) c4)
   simp at hS5
   have hown5:w4.ownsRow W.heap.size 101 3 (.slice A4 (k+1) c4) (k+1) ((tonesL 0 (l.take (k+1))).flatMap (cellsOf 3 tcell)):=by
    rw [HT.out,List.flatMap_append]
    exact hown4
   have hown6:=hown5.kept (grown_setCell (g:=g) (o:=0) (.slice A4 (k+1) c4)) (.inr fun e=>own_blk_ne hown5 hS4 (by decide) e.symm)
   have hgr4:W.grownBy w4 (some g):=⟨hg4.os.trans hgr2.os,hg4.tape.trans hgr2.tape,hg4.output.trans hgr2.output,Nat.le_trans hgr2.size hg4.size,fun q hq hr=>(hg4.block q (Nat.lt_of_lt_of_le hq hgr2.size) fun e=>by have:=(hown3.lt _ e.symm).1; omega).trans (hgr2.block q hq hr)⟩
   have hgr5:=grown_trans' hgr4 (grown_setCell (g:=g) (o:=0) (.slice A4 (k+1) c4))
   clear hown5 hown4 hown3 hown2 hS4 hS3 hS2 hg4 hgr4 hgr2 hat hF5 hF0 hFd HF hX hX3
   generalize w4.setCell ⟨g,0,none⟩ (.slice A4 (k+1) c4)=w5 at *
   go_wp2
   go_roundw
   case rel=>exact ⟨k+1,A4,c4,by omega,by go_num,hS5,hown6,hgr5⟩
   case measure=>(simp [intOf]; try omega)
  ·obtain rfl:k=l.length:=by omega
   obtain ⟨s,hs⟩:=HV.out
   have hsl:s.length=l.length:=by rw [← tonesL_len l 0,← hs,List.length_map]
   rw [List.take_length,← hs] at hown
   have HSL:=Lib.hid hsl
   have HS:=Lib.hid hs
   clear HV hs hcell
   obtain ⟨bb,hA⟩:∃ bb,A=some ⟨bb,0,none⟩:=by
    rcases hown.2 with ⟨_,h0⟩ | ⟨g',cap',cur,h0,_⟩
    ·omega
    ·injection h0 with h0
     exact ⟨g',h0⟩
   subst hA
   rw [← hsl] at hown hSr
   have hcap:s.length≤c∧c≤9223372036854775807:=by
    obtain ⟨A',c',e1,e2,e3,_⟩:=Arr.of_own (α:=Tn) (cell:=tcell) (l:=s.map (·.1)) (by rw [List.length_map]; exact hown)
    injection e1 with _ _ e1
    rw [List.length_map] at e2
    omega
   have hbl:=hown.lt bb rfl
   have hH:=holds_own hown
   have hsd:s.toArray.size=l.length:=by rw [List.size_toArray]; exact hsl
   have hso:=sortStable_ok bb 0 c s.toArray wr hH hbl.2 (by omega)
   rw [hsd] at hso
   rw [hsl] at hSr
   have s0:=hSr.cell 0
   simp at s0
   have hne1:some g≠(Value.slice (some ⟨bb,0,none⟩) s.length c).ownBlock:=own_blk_ne hown hSr (by decide)
   clear hlt hsl
   go_wp2_with fail
   refine hso.mono ?_
   rintro e w3 ⟨rfl,n,os,rfl⟩
   have hgs:=grown_sorted (w:=wr) (g:=bb) (n:=n) (os:=os) (sortedV s.toArray)
   have hH3:=holdsK_sortWorldK_c encV 3 wr bb 0 s.toArray (sortedV s.toArray) n os hH hbl.2 (sortedV_size _)
   have hor:=sortedV_ord s.toArray
   have hsz:=sortedV_size s.toArray
   rw [hsd] at hsz
   rw [List.toList_toArray,HS.out] at hor
   clear hso s0 hH
   generalize sortWorldK encV 3 wr bb 0 n (sortedV s.toArray) os=w4 at *
   generalize sortedV s.toArray=d at *
   have hS4:=hSr.grown hgs fun e=>hne1 (by simpa [Value.ownBlock] using e)
   have hA4:=arr_holds hH3 (Nat.lt_of_lt_of_le hbl.2 hgs.size) (by have:=HSL.out; omega:d.size≤c) hcap.2
   have hBw:Below w.heap.size w w4:=⟨hgs.os.trans hBr.os,hgs.tape.trans hBr.tape,hgs.output.trans hBr.output,Nat.le_trans hBr.size hgs.size,fun q hq=>(hgs.block q (Nat.lt_of_lt_of_le hq hBr.size) fun e=>by have:=hbl.1; have:=hB.size; injection e; omega).trans (hBr.block q hq)⟩
   have hdl:(d.toList.map (·.1)).length=l.length:=by rw [List.length_map]; simpa using hsz
   clear hgs hSr hH3
   go_wp2
   go_ret
   refine ⟨g,d.toList.map (·.1),rfl,hor,⟨_,c,?_,hA4⟩,hBw⟩
   rw [hdl]
   exact hS4
end Go.Proofs.YtjpfjklobnilkaaGreat
