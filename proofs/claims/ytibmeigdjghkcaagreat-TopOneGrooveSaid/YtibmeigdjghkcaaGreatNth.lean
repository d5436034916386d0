/- Contract of the table: nth. -/
import Derived.Test.YtibmeigdjghkcaaGreatSt2
import Derived.WalkMore
namespace Go.Proofs.YtibmeigdjghkcaaGreat.J
open Go.RowKit Go.Shelf
set_option linter.unusedVariables false
structure NthB (w:World) (x:TX) (c:Cyl) (u:Nat) (o:Option Nat) (r:Nat) (pre:List Nat) (A:Option Addr) (cap:Nat) (ds:List Deferred) (T:Nat) (W:World):Prop where
 tb:TB W x c
 bt:Blk W w.heap.size 118 #[.pointer (some ⟨x.g,0,none⟩)]
 bn:Blk W (w.heap.size+1) 2 #[.int .i64 (r:Int)]
 bs:Blk W (w.heap.size+2) 218 #[.int .i64 (u:Int),.int .i64 (lastI o)]
 ch:Chg x.ga x.gu w W
 own:W.ownsRow (w.heap.size+3) 53 2 (.slice A pre.length cap) pre.length ((pre.map (stepAt c)).flatMap (cellsOf 2 stcell))
 ob:∀ b,(Value.slice A pre.length cap).ownBlock=some b→b < T
 mrk:Marks (w.heap.size+3) T W ds
 sz:T≤W.heap.size
 lo:w.heap.size+3≤T
 le:x.N≤w.heap.size
section
variable {w W W':World} {x:TX} {c:Cyl} {u r T cap:Nat} {o:Option Nat} {pre:List Nat} {A:Option Addr} {ds:List Deferred}
theorem NthB.grown (h:NthB w x c u o r pre A cap ds T W) {row:Option Nat} (hg:W.grownBy W' row) (hr:∀ ρ,row=some ρ→T≤ρ):NthB w x c u o r pre A cap ds T W':=by
 have h1:=h.le
 have h2:=h.sz
 have h3:=h.lo
 have ho:(Value.slice A pre.length cap).ownBlock=none∨(Value.slice A pre.length cap).ownBlock≠row:=by
  cases hb:(Value.slice A pre.length cap).ownBlock with
  | none=>exact .inl rfl
  | some b=>exact .inr fun e=>by have:=hr b e.symm; have:=h.ob b hb; omega
 exact ⟨h.tb.grown hg (fun ρ e=>by have:=hr ρ e; omega),h.bt.grown hg (fun e=>by have:=hr _ e.symm; omega),h.bn.grown hg (fun e=>by have:=hr _ e.symm; omega),h.bs.grown hg (fun e=>by have:=hr _ e.symm; omega),h.ch.grown_ge hg (fun ρ e=>by have:=hr ρ e; omega),h.own.kept hg ho,h.ob,h.mrk.grown h2 hg (fun ρ e => .inl (hr ρ e)),Nat.le_trans h2 hg.size,h3,h1⟩
theorem NthB.chg (h:NthB w x c u o r pre A cap ds T W) (ht:TB W' x c) (hc:Chg x.ga x.gu W W'):NthB w x c u o r pre A cap ds T W':=by
 have h1:=h.le
 have h2:=h.sz
 have h5:=h.lo
 have h3:=h.tb.f.al
 have h4:=h.tb.f.ul
 have ho:W'.ownsRow (w.heap.size+3) 53 2 (.slice A pre.length cap) pre.length ((pre.map (stepAt c)).flatMap (cellsOf 2 stcell)):=by
  obtain ⟨g1,g2⟩:=h.own
  refine ⟨g1,?_⟩
  rcases g2 with g2 | ⟨g,cp,cur,g3,g4,g5,g6⟩
  ·exact .inl g2
  ·have hg:g < W.heap.size:=(Array.getElem?_eq_some_iff.1 g5).1
   exact .inr ⟨g,cp,cur,g3,g4,(hc.block g hg (by omega) (by omega)).trans g5,g6⟩
 exact ⟨ht,hc.blk h.bt (by omega) (by omega),hc.blk h.bn (by omega) (by omega),hc.blk h.bs (by omega) (by omega),h.ch.trans hc,ho,h.ob,h.mrk.chg h2 hc (by omega) (by omega),Nat.le_trans h2 hc.size,h5,h1⟩
theorem NthB.putn (h:NthB w x c u o r pre A cap ds T W) (r':Nat):NthB w x c u o r' pre A cap ds T (W.setCell ⟨w.heap.size+1,0,none⟩ (.int .i64 (r':Int))):=by
 have h1:=h.le
 have h2:=h.sz
 have h3:=h.lo
 have hg:W.grownBy (W.setCell ⟨w.heap.size+1,0,none⟩ (.int .i64 (r':Int))) (some (w.heap.size+1)):=grown_setCell _
 exact ⟨h.tb.grown hg (fun ρ e=>by injection e; omega),h.bt.grown hg (fun e=>by injection e; omega),by simpa using h.bn.set_ 0 (.int .i64 (r':Int)),h.bs.grown hg (fun e=>by injection e; omega),h.ch.grown_ge hg (fun ρ e=>by injection e; omega),own_low h.own (by omega),h.ob,h.mrk.grown h2 hg (fun ρ e=>by injection e; omega),by simpa [World.setCell] using h2,h3,h1⟩
theorem NthB.puts (h:NthB w x c u o r pre A cap ds T W) (u':Nat) (o':Option Nat):NthB w x c u' o' r pre A cap ds T ((W.setCell ⟨w.heap.size+2,0,none⟩ (.int .i64 (u':Int))).setCell ⟨w.heap.size+2,1,none⟩ (.int .i64 (lastI o'))):=by
 have h1:=h.le
 have h2:=h.sz
 have h3:=h.lo
 have hg:W.grownBy ((W.setCell ⟨w.heap.size+2,0,none⟩ (.int .i64 (u':Int))).setCell ⟨w.heap.size+2,1,none⟩ (.int .i64 (lastI o'))) (some (w.heap.size+2)):=grown_trans' (grown_setCell _) (grown_setCell _)
 exact ⟨h.tb.grown hg (fun ρ e=>by injection e; omega),h.bt.grown hg (fun e=>by injection e; omega),h.bn.grown hg (fun e=>by injection e; omega),by simpa using (h.bs.set_ 0 (.int .i64 (u':Int))).set_ 1 (.int .i64 (lastI o')),h.ch.grown_ge hg (fun ρ e=>by injection e; omega),own_low (own_low h.own (by omega)) (by omega),h.ob,h.mrk.grown h2 hg (fun ρ e=>by injection e; omega),by simpa [World.setCell] using h2,h3,h1⟩
end
theorem NthB.mark {w W:World} {x:TX} {c:Cyl} {u r T cap D:Nat} {o:Option Nat} {pre:List Nat} {A:Option Addr} {ds:List Deferred} (h:NthB w x c u o r pre A cap ds T W) (hT:T≤D) (hd:W.heap[D]? = some (.deferred (some []))) :
  NthB w x c u o r pre A cap ({ target := .collected D,args:=#[] }::ds) W.heap.size W:=by
 have h1:=h.sz
 have h2:=h.lo
 have hlt:=(Array.getElem?_eq_some_iff.1 hd).1
 exact ⟨h.tb,h.bt,h.bn,h.bs,h.ch,h.own,fun b hb=>Nat.lt_of_lt_of_le (h.ob b hb) h1,h.mrk.cons (W':=W) (by omega) hT hlt hd,Nat.le_refl _,by omega,h.le⟩
theorem own_def_ne {W:World} {base e size n D:Nat} {v:Value} {xs:List Value} {q:Option (List Deferred)} (h:W.ownsRow base e size v n xs) (hd:W.heap[D]? = some (.deferred q)):some D≠v.ownBlock:=by
 rcases h.2 with ⟨rfl,_⟩ | ⟨g',cp,cur,rfl,_,hh,_⟩
 ·simp [Value.ownBlock]
 ·intro he
  simp only [Value.ownBlock,Option.some.injEq] at he
  rw [← he,hd] at hh
  cases hh
theorem NthB.app {w W W':World} {x:TX} {c:Cyl} {u r T cap cap' k:Nat} {o:Option Nat} {pre:List Nat} {A A':Option Addr} {ds:List Deferred} (h:NthB w x c u o r pre A cap ds T W) (hb:Below (w.heap.size+3) W W')
  (hkeep:∀ g,g < W.heap.size→(∀ ad,A=some ad→ad.block≠g)→W'.heap[g]? = W.heap[g]?) (ho:W'.ownsRow (w.heap.size+3) 53 2 (.slice A' (pre++[k]).length cap') (pre++[k]).length (((pre++[k]).map (stepAt c)).flatMap (cellsOf 2 stcell))) :
  NthB w x c u o r (pre++[k]) A' cap' ds W'.heap.size W':=by
 have h1:=h.sz
 have h2:=h.lo
 have h3:=h.le
 have h4:=hb.size
 refine ⟨h.tb.belowB hb (by omega),h.bt.below hb (by omega),h.bn.below hb (by omega),h.bs.below hb (by omega),⟨hb.os.trans h.ch.os,hb.tape.trans h.ch.tape,hb.output.trans h.ch.output,Nat.le_trans h.ch.size hb.size,fun k hk h1 h2=>(hb.block k (by omega)).trans (h.ch.block k hk h1 h2)⟩,ho,fun b hb'=>(ho.lt b hb').2,h.mrk.keep (by omega) fun D hD1 hD2 hD3=>(hkeep D (by omega) (own_ad_ne (own_def_ne h.own hD3))).trans hD3,Nat.le_refl _,by omega,h3⟩
structure NthI (w:World) (x:TX) (c:Cyl) (u:Nat) (o:Option Nat) (r:Nat) (pre:List Nat) (A:Option Addr) (cap:Nat) (ds:List Deferred) (T xb:Nat) (u':Nat) (o':Option Nat) (W:World):Prop where
 b:NthB w x c u o r pre A cap ds T W
 nx:Blk W xb 218 #[.int .i64 (u':Int),.int .i64 (lastI o')]
 lo:T≤xb
 sz:xb+4≤W.heap.size
section
variable {w W W':World} {x:TX} {c:Cyl} {u r T cap xb u':Nat} {o o':Option Nat} {pre:List Nat} {A:Option Addr} {ds:List Deferred}
theorem NthI.grown (h:NthI w x c u o r pre A cap ds T xb u' o' W) {row:Option Nat} (hg:W.grownBy W' row) (hr:∀ ρ,row=some ρ→xb+4≤ρ):NthI w x c u o r pre A cap ds T xb u' o' W':=by
 have h1:=h.lo
 exact ⟨h.b.grown hg (fun ρ e=>by have:=hr ρ e; omega),h.nx.grown hg (fun e=>by have:=hr _ e.symm; omega),h1,Nat.le_trans h.sz hg.size⟩
theorem NthI.chg (h:NthI w x c u o r pre A cap ds T xb u' o' W) (ht:TB W' x c) (hc:Chg x.ga x.gu W W'):NthI w x c u o r pre A cap ds T xb u' o' W':=by
 have h1:=h.lo
 have h2:=h.b.lo
 have h3:=h.b.le
 have h4:=h.b.tb.f.al
 have h5:=h.b.tb.f.ul
 exact ⟨h.b.chg ht hc,hc.blk h.nx (by omega) (by omega),h1,Nat.le_trans h.sz hc.size⟩
theorem NthI.putn (h:NthI w x c u o r pre A cap ds T xb u' o' W) (r':Nat):NthI w x c u o r' pre A cap ds T xb u' o' (W.setCell ⟨w.heap.size+1,0,none⟩ (.int .i64 (r':Int))):=by
 have h1:=h.lo
 have h2:=h.b.lo
 exact ⟨h.b.putn r',h.nx.far (by show xb≠w.heap.size+1; omega) _,h1,by have:=h.sz; simpa [World.setCell] using this⟩
theorem NthI.putx (h:NthI w x c u o r pre A cap ds T xb u' o' W) (v:Nat) (p:Option Nat):NthI w x c u o r pre A cap ds T xb v p ((W.setCell ⟨xb,0,none⟩ (.int .i64 (v:Int))).setCell ⟨xb,1,none⟩ (.int .i64 (lastI p))):=by
 have h1:=h.lo
 have hg:W.grownBy ((W.setCell ⟨xb,0,none⟩ (.int .i64 (v:Int))).setCell ⟨xb,1,none⟩ (.int .i64 (lastI p))) (some xb):=grown_trans' (grown_setCell _) (grown_setCell _)
 exact ⟨h.b.grown hg (fun ρ e=>by injection e; omega),by simpa using (h.nx.set_ 0 (.int .i64 (v:Int))).set_ 1 (.int .i64 (lastI p)),h1,Nat.le_trans h.sz hg.size⟩
end
def NthIs (c:Cyl) (num:Nat) (l:List Nat):Prop:=(joinsN c)[num]? = some l
attribute [local go_sem] Oper.semAt_some
set_option maxRecDepth 100000 in
set_option maxHeartbeats 1600000 in
theorem nth_ok (x:TX) (c:Cyl) (num:Nat) (w:World) (hT:TB w x c) (hnum:num < (joinsN c).length) :
  Calls Tryz.prog 62 #[.pointer (some ⟨x.g,0,none⟩),.int .i64 (num:Int)] w fun r w'=>∃ l A cap,NthIs c num l∧r = .returned (.slice A l.length cap)∧Arr w' w'.heap.size 2 (.slice A l.length cap) (l.map (stepAt c)) stcell∧TB w' x c∧Chg x.ga x.gu w w':=by
 have h8:=hT.f.bounds.2
 have h1:=hT.f.bounds.1
 have h16:=hT.f.small
 have hx1:=Blk.new w 118 #[.pointer (some ⟨x.g,0,none⟩)]
 have hb1:=(Below.refl w.heap.size w).alloc (Nat.le_refl _) (.cells #[.pointer (some ⟨x.g,0,none⟩)] 118)
 have hz1:(w.alloc (.cells #[.pointer (some ⟨x.g,0,none⟩)] 118)).heap.size=w.heap.size+1:=by simp
 refine (callsIn_wide (n:=8)).1 ?_
 refine callsIn_of_wp_marks Tryz.func62 rfl trivial ?_ rfl
 simp only [Tryz.ntmps62,List.size_toArray,List.length_cons,List.length_nil,Nat.reduceAdd,Nat.reduceSub,Array.replicate_succ,Array.replicate_zero,List.push_toArray,List.append_toArray,List.nil_append,List.cons_append]
 refine wpIn_wide.2 ?_
 go_upto_region 1 with (fail)
 generalize w.alloc (.cells #[.pointer (some ⟨x.g,0,none⟩)] 118)=W1 at *
 have hx2:=Blk.new W1 2 #[.int .i64 (num:Int)]
 have hbA:=(Below.refl W1.heap.size W1).alloc (Nat.le_refl _) (.cells #[.int .i64 (num:Int)] 2)
 have hz2:(W1.alloc (.cells #[.int .i64 (num:Int)] 2)).heap.size=w.heap.size+2:=by simp [hz1]
 rw [hz1] at hx2
 replace hx1:=hx1.call hbA
 have hb2:=hb1.trans (hbA.mono hb1.size)
 clear hbA hb1 hz1
 generalize W1.alloc (.cells #[.int .i64 (num:Int)] 2)=W2 at *
 go_upto_region 3 with (fail)
 have hx3:=Blk.new W2 218 #[.int .i64 0,.int .i64 (-1)]
 have hbA:=(Below.refl W2.heap.size W2).alloc (Nat.le_refl _) (.cells #[.int .i64 0,.int .i64 (-1)] 218)
 have hz3:(W2.alloc (.cells #[.int .i64 0,.int .i64 (-1)] 218)).heap.size=w.heap.size+3:=by simp [hz2]
 rw [hz2] at hx3
 replace hx1:=hx1.call hbA
 replace hx2:=hx2.call hbA
 have hb3:=hb2.trans (hbA.mono hb2.size)
 clear hbA hb2 hz2
 generalize W2.alloc (.cells #[.int .i64 0,.int .i64 (-1)] 218)=W at *
 have hTW:=hT.call hb3
 have t0:=hx1.cell 0
 simp at t0
 obtain ⟨q0,q1,q2,q3,q4⟩:=hTW.f.tc.c5
 go_wp2
 have hjl:(goOn c c.pcs.length 0 none).length=(joinsN c).length:=rfl
 refine wp_loop_ghost_k (fun (k:Nat) (a':Act) (w':World)=>∃ (u7 u8 u9 u19 u20 u21 u22 u23 u24 u25 u26 u27 u28 u29 u30 u31 u32 u33 u34 u35 u36 u37 u38 u39 u40 u41 u42 u43 u44 u45 u46 u47:Value) (pre:List Nat) (A:Option Addr) (cap u r T:Nat) (o:Option Nat) (ds:List Deferred),
   (k=c.pcs.length-pre.length∧pre.length≤c.pcs.length∧cnt c.pcs.length u=pre.length∧u < 2 ^ c.pcs.length∧(∀ i,o=some i→i < (stepsOf c).length)∧r < (goOn c (c.pcs.length-pre.length) u o).length∧Hid ((joinsN c)[num]? = ((goOn c (c.pcs.length-pre.length) u o)[r]?).map (pre++·))∧NthB w x c u o r pre A cap ds T w') ∧
   a'={ tmps:=#[.pointer (some ⟨x.g,0,none⟩),.int .i64 (num:Int),.pointer (some ⟨w.heap.size,0,none⟩),.pointer (some ⟨w.heap.size+1,0,none⟩),.slice none 0 0,.slice A pre.length cap,.pointer (some ⟨w.heap.size+2,0,none⟩),u7,u8,u9,undef,.agg #[.int .i64 0,.int .i64 (-1)],.pointer (some ⟨x.g,0,none⟩),.pointer (some ⟨x.g,0,none⟩),.pointer (some ⟨x.g,0,none⟩),.pointer (some ⟨x.g,0,none⟩),.slice (some ⟨x.pb,x.po,none⟩) c.pcs.length x.pc,.int .i64 (c.pcs.length:Int),.int .i64 (pre.length:Int),u19,u20,u21,u22,u23,u24,u25,u26,u27,u28,u29,u30,u31,u32,u33,u34,u35,u36,u37,u38,u39,u40,u41,u42,u43,u44,u45,u46,u47,undef,undef,undef,undef,undef,undef,undef],defers:=ds }) c.pcs.length ⟨_,_,_,_,_,_,_,_,_,_,_,_,_,_,_,_,_,_,_,_,_,_,_,_,_,_,_,_,_,_,_,_,[],none,0,0,num,w.heap.size+3,none,[],⟨rfl,Nat.zero_le _,cnt_zero _,Nat.two_pow_pos _,(fun i h=>(by cases h)),hnum,?start,⟨hTW,hx1,hx2,hx3,Chg.of_below hb3,by simpa using World.ownsRow_nil _ _ _ _,(fun b hb=>(by simp [Value.ownBlock] at hb)),trivial,by omega,Nat.le_refl _,hT.f.le⟩⟩,rfl⟩ ?_
 case start =>
  show (joinsN c)[num]? = _
  simp [joinsN]
 clear t0 q0 q1 q2 q3 q4 hx1 hx2 hx3 hTW hb3 hz3
 intro gk a' wr hI J K hJ hK
 obtain ⟨u7,u8,u9,u19,u20,u21,u22,u23,u24,u25,u26,u27,u28,u29,u30,u31,u32,u33,u34,u35,u36,u37,u38,u39,u40,u41,u42,u43,u44,u45,u46,u47,pre,A,cap,u,r,T,o,ds,⟨rfl,hj,hcu,hu,ho,hr,HG,hN⟩,rfl⟩:=hI
 have HR:=Lib.hid hr
 have HO:=Lib.hid ho
 have hlo:=hN.lo
 have hsz0:=hN.sz
 have hle:=hN.le
 clear hr ho
 dsimp only
 by_cases hlt:pre.length < c.pcs.length
 ·have d3:decide (pre.length < c.pcs.length)=true:=by simpa using hlt
  have d3':decide ((pre.length:Int) < (c.pcs.length:Int))=true:=by simp; omega
  have s0:=hN.bs.cell 0
  have s1:=hN.bs.cell 1
  simp at s0 s1
  go_wp2
  refine wp_scope_straight ?_
  go_wp2
  have hX:=Blk.new wr 218 #[.int .i64 (u:Int),.int .i64 (lastI o)]
  have hN1:=hN.grown (World.grownBy_alloc wr (.cells #[.int .i64 (u:Int),.int .i64 (lastI o)] 218) none) (fun ρ e=>by cases e)
  have hz1:(wr.alloc (.cells #[.int .i64 (u:Int),.int .i64 (lastI o)] 218)).heap.size=wr.heap.size+1:=by simp
  clear s0 s1 hN
  generalize wr.alloc (.cells #[.int .i64 (u:Int),.int .i64 (lastI o)] 218)=w2 at *
  generalize wr.heap.size=xb at *
  have t0:=hN1.bt.cell 0
  have s0:=hN1.bs.cell 0
  have s1:=hN1.bs.cell 1
  simp at t0 s0 s1
  apply wp_label
  go_wp2_with fail
  refine (behind_ok x.g u (lastI o) w2).mono ?_
  rintro e W5 ⟨rfl,hBB,hsz,hb5⟩
  rw [hz1] at hBB hsz
  have hN5:=hN1.grown (grown_call hb5 none) (fun ρ e=>by cases e)
  have hinv:NthI w x c u o r pre A cap ds T xb u o W5:=⟨hN5,hX.call hb5,hsz0,by omega⟩
  have hTF:=hN5.tb.f
  have hxN:x.N≤xb+1:=by omega
  clear t0 s0 s1 hN1 hN5 hX hb5
  go_wp2
  refine (wpIn_wide (n:=8)).1 ?_
  have hr:=HR.out
  have ho:=HO.out
  refine wpIn_rangeFunc_ownH (F:=Fence.wide) (n:=8) (a:=?aa) rfl (by omega) (gf:=231) (lb:=#[.pointer (some ⟨xb+1+1,0,none⟩),.pointer (some ⟨xb+1,0,none⟩),.pointer (some ⟨xb+1+2,0,none⟩)]) ?hgg trivial (enters_of Tryz.func231 (by kernel_rfl) rfl)
   (behind2_stops 4 x c u (xb+1) o W5 hTF hBB hu ho hxN) ?hKt ?hKb (Below.refl _ _) ?hps
   (fun ys W=>sumL c u (ys.map (·.1))≤r∧NthI w x c u o (r-sumL c u (ys.map (·.1))) pre A cap ds T xb u o W)
   (fun cd ys W=>cd = .exit 2∧∃ (zs:List (VNx c u o)) (y:VNx c u o),ys=zs++[y]∧sumL c u (zs.map (·.1))≤r∧r < sumL c u (zs.map (·.1))+leftN c (onN c u y.1) (some y.1)∧NthI w x c u o (r-sumL c u (zs.map (·.1))) pre A cap ds T xb (onN c u y.1) (some y.1) W)
   ?hI ?hIx ⟨Nat.zero_le _,hinv⟩ (StAx (Act.tmps ?aa) 24 8 (xb+4) c u o) StAx.own ?assign ?body ?done ?stop
  case hKt=>exact fun h1 h2=>h1.trans h2
  case hKb=>exact fun W l o o' hl _ _ _=>KeepB.putObj W l o' (by omega) (by omega)
  case hgg=>rfl
  case hps=>exact fun _=>rfl
  case hI =>
   intro s W W' row hs hg hr
   exact ⟨hs.1,hs.2.grown hg (fun r e=>by obtain ⟨h1,h2⟩:=hr r e; omega)⟩
  case hIx =>
   intro cd s W W' row hs hg hr
   obtain ⟨h0,zs,y,h1,h2,h3,h4⟩:=hs
   exact ⟨h0,zs,y,h1,h2,h3,h4.grown hg (fun r e=>by obtain ⟨h1,h2⟩:=hr r e; omega)⟩
  case assign =>
   intro l ys y W K hi hK
   have hsz:=hi.2.sz
   have hx:=Blk.new W 218 #[.int .i64 (onN c u y.1:Int),.int .i64 (y.1:Int)]
   have hk:=hK ({ tmps:=(_:Array Value),defers:=[] }) (W.alloc (.cells #[.int .i64 (onN c u y.1:Int),.int .i64 (y.1:Int)] 218)) ((KeepsOthers.alloc _ _).from _) (KeepB.of_below ((Below.refl W.heap.size W).alloc (Nat.le_refl _) _) (by omega) (by omega)) ⟨hi.1,hi.2.grown (World.grownBy_alloc _ _ none) (fun r e=>by cases e)⟩ ⟨W.heap.size,by omega,hx,rfl⟩
   simp [encNx]
   gi_wp2
   exact hk
  case body =>
   rintro l ys y a' W hl hr ⟨hle1,hi⟩ ⟨Bx,hBx,bX,rfl⟩ hlt
   simp only [List.setIfInBounds_toArray,List.set_cons_succ,List.set_cons_zero]
   obtain ⟨hy1,hy2⟩:=mem_next.1 y.2
   have hyu:=on_lt (u:=u) hu hy1
   have hL:=left_any x c (onN c u y.1) (some y.1) W hi.b.tb hyu (fun i hi=>by injection hi with hi; omega)
   simp only [lastI] at hL
   have hlx:=left_small h8 (onN c u y.1) (some y.1)
   have hrb:r≤4294967296:=by
    have h1:=goOn_len h16 (c.pcs.length-pre.length) u o
    have h2:16 ^ (c.pcs.length-pre.length)≤16 ^ 8:=Nat.pow_le_pow_right (by omega) (by omega)
    omega
   have hss:=sumL_snoc c u (ys.map (·.1)) y.1
   obtain ⟨acc,hacc⟩:∃ acc,acc=sumL c u (ys.map (·.1)):=⟨_,rfl⟩
   obtain ⟨L,hLe⟩:∃ L,L=leftN c (onN c u y.1) (some y.1):=⟨_,rfl⟩
   rw [← hacc] at hle1 hi hss
   rw [← hLe] at hL hlx hss
   obtain ⟨q,hq⟩:∃ q,q=r-acc:=⟨_,rfl⟩
   rw [← hq] at hi
   have HACC:=Lib.hid hacc
   have HLE:=Lib.hid hLe
   have HSS:=Lib.hid hss
   have HQ:=Lib.hid hq
   have hqb:q≤4294967296:=by omega
   have HHL:=Lib.hid hlt
   clear hacc hLe hss hlt hq
   have t0:=hi.b.bt.cell 0
   have b0:=bX.cell 0
   have b1:=bX.cell 1
   simp at t0 b0 b1
   gi_wp2_with fail
   refine ⟨trivial,(CallsIn.inRound _ (callsIn_wide.2 hL)).mono ?_⟩
   rintro e W6 ⟨rfl,hT6,hC6⟩
   have hga:=hi.b.tb.f.al
   have hgu:=hi.b.tb.f.ul
   have hszW:=hi.sz
   have hi6:=hi.chg hT6 hC6
   have bX6:=hC6.blk bX (by omega) (by omega)
   have hXne:Bx≠xb:=by omega
   clear t0 b0 b1 hL
   have n0:=hi6.b.bn.cell 0
   have nz:=hi6.b.bn.frozen 0
   have b0:=bX6.cell 0
   have b1:=bX6.cell 1
   have x0:=hi6.nx.cell 0
   have x1:=hi6.nx.cell 1
   have xz:=fun i=>hi6.nx.frozen i
   simp at n0 b0 b1 x0 x1
   by_cases hc:q < L
   ·have d5:decide (q < L)=true:=by simpa using hc
    have d5':decide ((q:Int) < (L:Int))=true:=by simp; omega
    have hi7:=hi6.putx (onN c u y.1) (some y.1)
    simp only [lastI] at hi7
    gi_wp2
    generalize hW7:(W6.setCell ⟨xb,0,none⟩ (.int .i64 (onN c u y.1:Int))).setCell ⟨xb,1,none⟩ (.int .i64 (y.1:Int))=W7 at *
    have hgs:W6.grownBy W7 (some xb):=by rw [← hW7]; exact grown_trans' (grown_setCell _) (grown_setCell _)
    have hblk:∀ k,xb+4≤k→k < W.heap.size→W7.heap[k]? = W.heap[k]? :=
     fun k hk1 hk=>(hgs.block k (Nat.lt_of_lt_of_le hk hC6.size) (fun e=>by injection e; omega)).trans (hC6.block k hk (by omega) (by omega))
    refine ⟨⟨Nat.le_trans hC6.size hgs.size,fun k o hk ho hc=>(hblk k (by omega) (Array.getElem?_eq_some_iff.1 ho).1).trans ho⟩,rfl,ys,y,rfl,?_,?_,?_⟩
    ·rw [← HACC.out]; exact hle1
    ·rw [← HACC.out,← HLE.out]; have:=HQ.out; omega
    ·rw [← HACC.out,← HQ.out]; exact hi7
   ·have d5:decide (q < L)=false:=by simpa using hc
    have d5':decide ((q:Int) < (L:Int))=false:=by simp; omega
    have e1:IntKind.i64.wrap ((q:Int)-(L:Int))=((q-L:Nat):Int):=by rw [wrap_id _ (by omega) (by omega)]; omega
    have hi7:=hi6.putn (q-L)
    rw [show ((q-L:Nat):Int)=(q:Int)-(L:Int) by omega] at hi7 e1
    gi_wp2
    generalize hW7:W6.setCell ⟨w.heap.size+1,0,none⟩ (.int .i64 ((q:Int)-(L:Int)))=W7 at *
    have hgs:W6.grownBy W7 (some (w.heap.size+1)):=by rw [← hW7]; exact grown_setCell _
    have hblk:∀ k,k≠w.heap.size+1→k≠x.ga→k≠x.gu→k < W.heap.size→W7.heap[k]? = W.heap[k]? :=
     fun k hk1 h1 h2 hk=>(hgs.block k (Nat.lt_of_lt_of_le hk hC6.size) (fun e=>by injection e; omega)).trans (hC6.block k hk h1 h2)
    refine ⟨⟨Nat.le_trans hC6.size hgs.size,fun k o hk ho hc=>(hblk k (by omega) (by omega) (by omega) (Array.getElem?_eq_some_iff.1 ho).1).trans ho⟩,⟨Nat.le_trans hC6.size hgs.size,fun k hk h1 h2=>hblk k (by omega) h1 h2 (by omega)⟩,?_,?_⟩
    ·rw [List.map_append,List.map_singleton,HSS.out]; have:=HQ.out; omega
    ·rw [List.map_append,List.map_singleton,HSS.out,show r-(acc+L)=q-L by have:=HQ.out; omega]; exact hi7
  case done =>
   rintro D xs W hD hS ⟨h2, -⟩ hdf
   exfalso
   rw [hS] at h2
   obtain ⟨f,hf⟩:∃ f,c.pcs.length-pre.length=f+1:=⟨c.pcs.length-pre.length-1,by omega⟩
   have:=sum_next (o:=o) (by rw [hcu]; exact hf)
   rw [hf] at hr
   omega
  case stop =>
   rintro D cd ys W hD hS ⟨rfl,zs,y,rfl,h1,h2,hi⟩ hdf
   refine wpIn_wide.2 ?_
   dsimp only
   obtain ⟨hy1,hy2⟩:=mem_next.1 y.2
   obtain ⟨f,hf⟩:∃ f,c.pcs.length-pre.length=f+1:=⟨c.pcs.length-pre.length-1,by omega⟩
   have hhit:=nth_hit (o:=o) (pre:=zs.map (·.1)) (y:=y.1) (by rw [hcu]; exact hf) (by rw [List.map_append] at hS; exact hS) h1 h2
   have hlen:=left_len (o:=o) (by rw [hcu]; exact hf) y.2
   have hcn:=cnt_on hy1 (canGo_free hy2)
   have HG2:Hid ((joinsN c)[num]? = ((goOn c (c.pcs.length-(pre++[y.1]).length) (onN c u y.1) (some y.1))[r-sumL c u (zs.map (·.1))]?).map ((pre++[y.1])++·)):=by
    rw [Hid,HG.out,hf,hhit,List.length_append,List.length_singleton,show c.pcs.length-(pre.length+1)=f by omega,Option.map_map]
    congr 1
    funext l
    simp
   have HR2:Hid (r-sumL c u (zs.map (·.1)) < (goOn c (c.pcs.length-(pre++[y.1]).length) (onN c u y.1) (some y.1)).length):=by
    rw [Hid,List.length_append,List.length_singleton,show c.pcs.length-(pre.length+1)=f by omega]
    omega
   have hyu:=on_lt (u:=u) hu hy1
   have HC2:Hid (cnt c.pcs.length (onN c u y.1)=(pre++[y.1]).length):=by rw [Hid,hcn,hcu]; simp
   generalize r-sumL c u (zs.map (·.1))=r2 at *
   obtain ⟨yk,yh⟩:=y
   dsimp only at *
   generalize onN c u yk=u2 at *
   have hm:=hi.b.mark (D:=D) (by have:=hi.sz; omega) hdf
   have hn:=hi.nx
   have hXT:xb < W.heap.size:=by have:=hi.sz; omega
   clear hS h1 h2 hi hhit hlen hcn hdf hy2 yh zs
   have s0:=hm.bs.cell 0
   have s1:=hm.bs.cell 1
   have sz:=fun i=>hm.bs.frozen i
   have n0:=hn.cell 0
   have n1:=hn.cell 1
   simp at s0 s1 n0 n1
   go_upto_region 13 with (fail)
   have hm2:=hm.puts u2 (some yk)
   clear hm hn s0 s1 sz n0 n1
   generalize (W.setCell ⟨w.heap.size+2,0,none⟩ (.int .i64 (u2:Int))).setCell ⟨w.heap.size+2,1,none⟩ (.int .i64 (lastI (some yk)))=W8 at *
   have hm3:=hm2.grown (grown_call (Below.refl _ W8).drew none) (fun ρ e=>by cases e)
   clear hm2
   obtain ⟨F,hF⟩:∃ F:World→Prop,(∀ w',F w'↔(Blk w' w.heap.size 118 #[.pointer (some ⟨x.g,0,none⟩)]∧Blk w' (w.heap.size+2) 218 #[.int .i64 (u2:Int),.int .i64 (yk:Int)]∧TF w' x c)):=⟨_,fun _=>Iff.rfl⟩
   have hF0:F W8.drew:=(hF _).2 ⟨hm3.bt,hm3.bs,hm3.tb.f⟩
   haveI:Nonempty (SubW F):=⟨⟨_,hF0⟩⟩
   obtain ⟨st,hst1,hst2, -, -⟩:=hm3.tb.f.step hy1
   have f0:∀ z:SubW F,z.w.cell? ⟨w.heap.size,0,none⟩=some (.pointer (some ⟨x.g,0,none⟩)):=fun z=>by simpa using ((hF z.w).1 z.h).1.cell 0
   have f1:∀ z:SubW F,z.w.cell? ⟨w.heap.size+2,1,none⟩=some (.int .i64 (yk:Int)):=fun z=>by simpa using ((hF z.w).1 z.h).2.1.cell 1
   have f2:∀ z:SubW F,z.w.cell? ⟨x.g,4,none⟩=some (.slice (some ⟨x.sb,x.so,none⟩) (stepsOf c).length x.sc):=fun z=>((hF z.w).1 z.h).2.2.tc.c5.2.2.2.2
   have f3:∀ z:SubW F,z.w.cell? ⟨x.sb,x.so+yk * 2,none⟩=some (.int .i64 (pieceN c yk:Int)):=fun z=>by
    obtain ⟨st',h1,h2,h3,h4⟩:=((hF z.w).1 z.h).2.2.step hy1
    exact h3
   have f4:∀ z:SubW F,z.w.cell? ⟨x.sb,x.so+yk * 2+1,none⟩=some (.bool st.t):=fun z=>by
    obtain ⟨st',h1,h2,h3,h4⟩:=((hF z.w).1 z.h).2.2.step hy1
    rw [hst1] at h1
    injection h1 with h1
    rw [h1]
    exact h4
   have k1:(yk:Int) < ((stepsOf c).length:Int):=by omega
   have e1:IntKind.i64.wrap (yk:Int)=yk:=wrap_id _ (by omega) (by omega)
   have HSA:Hid (stepAt c yk=⟨(pieceN c yk:Int),st.t⟩):=by
    unfold Hid stepAt
    rw [hst1]
    obtain ⟨a,b⟩:=st
    simp only at hst2
    rw [hst2]; rfl
   clear hst1 hst2
   generalize st.t=sb at *
   refine wp_region_sched (C:=fun w'=>∃ z:SubW F,w'=z.w) [(0,true),(1,true),(2,true),(3,true),(4,true),(5,true),(6,true),(7,true),(8,true),(9,false),(10,false),(11,false)] (by kernel_rfl) (by kernel_rfl) ⟨⟨W8.drew,hF0⟩,rfl⟩ ?_
   refine sched_q (by rfl) (by rfl) ?_
   intro K hK
   go_big_quiet_op
   go_big_quiet_on
   refine sched_q (by rfl) (by rfl) ?_
   intro K hK
   go_big_quiet_op
   go_big_quiet_on
   refine sched_q (by rfl) (by rfl) ?_
   intro K hK
   go_big_quiet_op
   go_big_quiet_on
   refine sched_q (by rfl) (by rfl) ?_
   intro K hK
   go_big_quiet_op
   go_big_quiet_on
   refine sched_q (by rfl) (by rfl) ?_
   intro K hK
   go_big_quiet_op
   go_big_quiet_on
   refine sched_q (by rfl) (by rfl) ?_
   intro K hK
   go_big_quiet_op
   go_big_quiet_on
   refine sched_q (by rfl) (by rfl) ?_
   intro K hK
   go_big_quiet_op
   go_big_quiet_on
   refine sched_q (by rfl) (by rfl) ?_
   intro K hK
   go_big_quiet_op
   go_big_quiet_on
   refine sched_q (by rfl) (by rfl) ?_
   intro K hK
   go_big_quiet_op
   go_big_quiet_on
   generalize W8.drew=W9 at *
   have hcap:=own_cap hm3.own
   refine sched_c (by rfl) (by rfl) ?_
   intro K2 hK2
   go_wp2
   refine hK2 _ _ ⟨.inr ⟨⟨_,(hF _).2 ⟨hm3.bt.alloc _,hm3.bs.alloc _,hm3.tb.f.call ((Below.refl _ _).alloc (Nat.le_refl _) _)⟩⟩,rfl⟩,?_⟩
   clear hK2 K2
   refine sched_c (by rfl) (by rfl) ?_
   intro K2 hK2
   refine wpList_app1 slT_st rfl (.tmp 36) (.tmp 45) rfl (A:=A) (cc:=cap) rfl ⟨cap,hm3.own,.inl rfl⟩ rfl rfl one_st (by have:=hm3.sz; have:=hm3.lo; omega) ?_ ?_ ?_
   any_goals omega
   intro v' w6 hown6 hb6 hkeep
   have hown7:w6.ownsRow (w.heap.size+3) 53 2 v' (pre++[yk]).length (((pre++[yk]).map (stepAt c)).flatMap (cellsOf 2 stcell)):=by
    rw [List.map_append,List.map_singleton,List.flatMap_append,HSA.out,List.length_append,List.length_singleton]
    simpa [cellsOf,List.range_succ,stcell] using hown6
   obtain ⟨A',cap',rfl⟩:=own_form hown7
   have hm6:=hm3.app hb6 hkeep hown7
   clear hkeep hown6 hb6 hown7 hm3 hcap
   have hlen2:((pre++[yk]).length:Int)=(pre.length:Int)+1:=by simp
   have hlen3:(pre++[yk]).length=pre.length+1:=by simp
   generalize pre++[yk]=pre2 at *
   have HL2:=Lib.hid hlen2
   have HL3:=Lib.hid hlen3
   clear hlen2 hlen3
   go_wp2
   refine hK2 _ _ ⟨.inr ⟨⟨w6,(hF _).2 ⟨hm6.bt,hm6.bs,hm6.tb.f⟩⟩,rfl⟩,?_⟩
   clear hK2 K2
   refine sched_c (by rfl) (by rfl) ?_
   intro K2 hK2
   go_wp2
   refine hK2 _ _ ⟨(by first | exact .inl rfl | exact .inl trivial),?_⟩
   clear hK2 K2 hF
   refine sched_nil ?_
   have e2:IntKind.i64.wrap ((pre.length:Int)+1)=(pre.length:Int)+1:=wrap_id _ (by omega) (by omega)
   go_wp2
   rw [Exit.noGoto_normal]
   go_wp2
   rw [← HL2.out]
   refine ⟨c.pcs.length-pre2.length,by have:=HL3.out; omega,hJ _ _ _ ⟨_,_,_,_,_,_,_,_,_,_,_,_,_,_,_,_,_,_,_,_,_,_,_,_,_,_,_,_,_,_,_,_,pre2,A',cap',u2,r2,w6.heap.size,some yk,_,⟨rfl,by have:=HL3.out; omega,HC2.out,hyu,(fun i hi=>by injection hi with hi; omega),HR2.out,HG2,hm6⟩,rfl⟩⟩
 ·have hpl:pre.length=c.pcs.length:=by omega
  have d3:decide (pre.length < c.pcs.length)=false:=by simp; omega
  have d3':decide ((pre.length:Int) < (c.pcs.length:Int))=false:=by simp; omega
  have HJ:Hid ((joinsN c)[num]? = some pre):=by
   have h1:=HR.out
   rw [hpl,Nat.sub_self] at h1
   simp only [goOn,List.length_singleton] at h1
   obtain rfl:r=0:=by omega
   rw [Hid,HG.out,hpl,Nat.sub_self]
   simp [goOn]
  have HPL:=Lib.hid hpl
  have hp8:pre.length≤8:=by omega
  clear hpl
  have hmk:=run_mk slT_st pre.length (by omega) (by omega)
  go_upto_region 16 with (fail)
  have hx:=Blk.new wr 53 (madeCells (Value.agg #[.int .i64 0,.bool false]).cells (pre.length * 2))
  have hz:madeCells (Value.agg #[.int .i64 0,.bool false]).cells (pre.length * 2)=madeCells #[.int .i64 0,.bool false] (pre.length * 2):=rfl
  rw [hz] at hx
  have hsx:(madeCells #[Value.int .i64 0,Value.bool false] (pre.length * 2)).size=pre.length * 2 * 1∨(madeCells #[Value.int .i64 0,Value.bool false] (pre.length * 2)).size=pre.length * 2:=by simp [size_madeCells]
  have hsx:(madeCells #[Value.int .i64 0,Value.bool false] (pre.length * 2)).size=pre.length * 2:=by omega
  have hg5:=World.grownBy_alloc wr (.cells (madeCells #[.int .i64 0,.bool false] (pre.length * 2)) 53) none
  have hN5:=hN.grown hg5 (fun ρ e=>by cases e)
  have hbW:=(Below.refl wr.heap.size wr).alloc (Nat.le_refl _) (.cells (madeCells #[.int .i64 0,.bool false] (pre.length * 2)) 53)
  generalize wr.alloc (.cells (madeCells #[.int .i64 0,.bool false] (pre.length * 2)) 53)=W5 at *
  have harr:Arr W5 W5.heap.size 2 (.slice A pre.length cap) (pre.map (stepAt c)) stcell:=by
   have:=Arr.of_own (cell:=stcell) (l:=pre.map (stepAt c)) (v := .slice A pre.length cap) (by rw [List.length_map]; exact hN5.own)
   exact this
  have hcp:=fun ty=>run_copy_full W5 48 48 ty 53 2 wr.heap.size pre.length pre.length A cap _ 53 ((pre.map (stepAt c)).flatMap (cellsOf 2 stcell)) Tryz.underlying48 (by kernel_rfl) hx (by rw [flat_len,List.length_map]) hsx (cells_arr harr (by omega)) (fun v hv=>by
   obtain ⟨x,_,hx⟩:=List.mem_flatMap.1 hv
   simp [cellsOf,List.range_succ,stcell] at hx
   rcases hx with rfl | rfl <;> rfl)
  have hx6:Blk (W5.setRow wr.heap.size ((pre.map (stepAt c)).flatMap (cellsOf 2 stcell)).toArray) wr.heap.size 53 ((pre.map (stepAt c)).flatMap (cellsOf 2 stcell)).toArray:=setRow_heap W5 wr.heap.size _ _ 53 (0,0) hx
  have hb6:Below wr.heap.size wr (W5.setRow wr.heap.size ((pre.map (stepAt c)).flatMap (cellsOf 2 stcell)).toArray):=below_setRow hbW (Nat.le_refl _) _
  clear harr hx hsx hbW hz hmk hN5 hg5
  go_upto_region 17 with (fail)
  have hN6:=hN.grown (grown_call hb6 none) (fun ρ e=>by cases e)
  generalize W5.setRow wr.heap.size ((pre.map (stepAt c)).flatMap (cellsOf 2 stcell)).toArray=w6 at *
  have hsz6:=hx6.lt
  generalize wr.heap.size=lb at *
  clear hN
  go_wp2
  show LeavesInM Fence.wide 8 Tryz.prog _ _ _ ds .returning w6
  refine Marks.leave (B:=w.heap.size+3) (T:=T) (fun W'=>Blk W' lb 53 ((pre.map (stepAt c)).flatMap (cellsOf 2 stcell)).toArray∧TB W' x c∧Chg x.ga x.gu w W') ?_ ?_ ds w6 hN6.mrk ⟨hx6,hN6.tb,hN6.ch⟩
  ·rintro W' D hD1 hD2 ⟨h1,h2,h3⟩
   have hne:lb≠D:=fun e=>by subst e; rw [h1] at hD2; cases hD2
   have hg:=grownBy_putObj' W' D (.deferred none)
   exact ⟨h1.grown hg (fun e=>hne (by injection e)),h2.grown hg (fun ρ e=>by injection e; omega),h3.grown_ge hg (fun ρ e=>by injection e; omega)⟩
  ·rintro W' ⟨h1,h2,h3⟩
   have hlt:=h1.lt
   exact ⟨.slice (some ⟨lb,0,none⟩) pre.length pre.length,by simp [results,Tryz.results62,go_sem],pre,HJ.out,some ⟨lb,0,none⟩,pre.length,rfl,Arr.of_row h1 (by simp) (by simp) (by omega) hlt,h2,h3⟩
end Go.Proofs.YtibmeigdjghkcaaGreat.J
