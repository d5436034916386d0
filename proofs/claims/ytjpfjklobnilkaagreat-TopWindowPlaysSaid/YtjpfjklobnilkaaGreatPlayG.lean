/- Contracts: play.Best, play.Fewest. -/
import Derived.Test.YtjpfjklobnilkaaGreatPlayF
import Derived.Laws.CopyOwn
namespace Go.Proofs.YtjpfjklobnilkaaGreat
open Go.RowKit Go.Shelf
set_option linter.unusedVariables false
theorem run_copy_full (w:World) (dT sT ty elem size g n dCap:Nat) (a:Option Addr) (sCap:Nat) (cur:Array Value) (t:TypeId) (cs:List Value)
  (hu:Tryz.prog.underlying dT=some (.slice elem)) (hs:(Tryz.prog.info? elem).map (·.size)=some size)
  (hg:w.heap[g]? = some (.cells cur t (0,0))) (hl:cs.length=n * size) (hcur:cur.size=n * size)
  (hsrc:(a=none∧n=0)∨∃ ad,a=some ad∧∀ j v,cs[j]? = some v→w.cell? (ad.add j)=some v) (h1:∀ v∈cs,v.oneCell'=true) :
  (Builtin.copy_ #[dT,sT] ty #[.slice (some ⟨g,0,none⟩) n dCap,.slice a n sCap]).run Tryz.prog w = .ok (goInt n) (w.setRow g cs.toArray):=by
 cases hq:Tryz.prog.info? elem with
 | none=>simp [hq] at hs
 | some i =>
   have hi:i.size=size:=by simpa [hq] using hs
   rcases hsrc with ⟨rfl,rfl⟩ | ⟨ad,rfl,hsrc⟩
   ·obtain rfl:cs=[]:=List.eq_nil_of_length_eq_zero (by simpa using hl)
    obtain rfl:cur=#[]:=by simpa using hcur
    have:=setRow_self w g #[] t (0,0) hg
    simp [Builtin.copy_,run_underlying hu,Builtin.lenOf,Builtin.firstCells,sizeOf,typeInfo,hq,storeCells,this]
   ·have hld:=run_loadCells_list (P:=Tryz.prog) w ad cs hsrc
    have hst:=run_storeCells_at Tryz.prog g 0 t cs 0 cur w hg (by simp; omega) h1
    have e:(List.take (0+0) cur.toList++cs++List.drop (0+0+cs.length) cur.toList).toArray=cs.toArray:=by
     rw [List.drop_of_length_le (by simp; omega)]; simp
    rw [e] at hst
    simp [Builtin.copy_,run_underlying hu,Builtin.lenOf,Builtin.firstCells,sizeOf,typeInfo,hq,hi,← hl,hld,hst]
def BestPost (c:Cyl) (w:World) (r:Ending) (w':World):Prop :=
 ∃ ov,r = .returned (.tuple #[ov,.int .i64 (bestOf c).2.1,.int .i64 (bestOf c).2.2])∧Arr w' w'.heap.size 2 ov (bestOf c).1 scell∧Below w.heap.size w w'
theorem byC_fit {c:Cyl} (h:checkCyl c=0) (ws:Nat→Int):∀ a b s,byC c ws a b=some s→0≤s.a∧s.a < a∧1≤b:=by
 intro a b s hs
 have hT:=(cyl_nat h).1
 unfold byC byN at hs
 split at hs
 ·rename_i hn
  obtain ⟨h1,h2,h3,h4,h5⟩:=hn
  injection hs with hs
  rw [← hs]
  refine ⟨h5,?_,h2⟩
  have hm:=pick_mem ⟨⟨-1,0⟩,tabN (endC c ws) (tK c) (a.toNat-1) (a.toNat-1) b.toNat⟩ ((endC c ws a.toNat).map fun y=>⟨y.s,y.x+tabN (endC c ws) (tK c) (a.toNat-1) y.s.a.toNat (b.toNat-1)⟩)
  have hm:choW (endC c ws) (tabN (endC c ws) (tK c) (a.toNat-1)) a.toNat b.toNat∈_:=hm
  rcases List.mem_cons.1 hm with h | h
  ·rw [h] at h5; simp at h5
  ·obtain ⟨y,hy,h7⟩:=List.mem_map.1 h
   have h6:=(endsOf_mem ws c (tT c) hT _ _).1 hy
   rw [← h7]
   show y.s.a < a
   have:=h6.1.2.1
   omega
 ·cases hs
theorem cells_arr {α:Type} {w:World} {size:Nat} {A:Option Addr} {n cap:Nat} {l:List α} {cell:α→Nat→Value} (h:Arr w w.heap.size size (.slice A n cap) l cell) (hs:0 < size) :
  (A=none∧n=0)∨∃ ad,A=some ad∧∀ j v,(l.flatMap (cellsOf size cell))[j]? = some v→w.cell? (ad.add j)=some v:=by
 obtain ⟨A',c',hv,h1,h2,h3⟩:=h
 injection hv with hA hn _
 subst hA hn
 by_cases hl:0 < l.length
 ·obtain ⟨b,off,rfl,hb,hc⟩:=h3 hl
  refine .inr ⟨_,rfl,fun j v hj=>?_⟩
  have hjl:=(List.getElem?_eq_some_iff.1 hj).1
  have hlen:(l.flatMap (cellsOf size cell)).length=l.length * size:=by
   clear hc hj hjl hl h3 h1
   induction l with
   | nil=>simp
   | cons x r ih=>rw [List.flatMap_cons,List.length_append,ih]; simp [cellsOf,Nat.add_mul]; omega
  rw [hlen] at hjl
  have hi:j / size < l.length:=Nat.div_lt_of_lt_mul (by rwa [Nat.mul_comm] at hjl)
  have hm:j % size < size:=Nat.mod_lt _ hs
  have hx:l[j / size]? = some l[j / size]:=List.getElem?_eq_getElem hi
  have hf:=flat_get size cell l (j / size) _ hx (j % size) hm
  have hj2:j / size * size+j % size=j:=by rw [Nat.mul_comm]; exact Nat.div_add_mod j size
  rw [hj2,hj] at hf
  injection hf with hf
  have:=hc (j / size) _ hx (j % size) hm
  rw [show off+j / size * size+j % size=off+j by omega] at this
  have ha:(⟨b,off,none⟩:Addr).add j=⟨b,off+j,none⟩:=by unfold Addr.add; split <;> simp_all
  rw [ha,this,hf]
 ·have h0:l.length=0:=by omega
  cases A with
  | none=>exact .inl ⟨rfl,h0⟩
  | some ad =>
    refine .inr ⟨_,rfl,fun j v hj=>?_⟩
    rw [List.eq_nil_of_length_eq_zero h0] at hj
    simp at hj
theorem flat_len {α:Type} (size:Nat) (cell:α→Nat→Value) (l:List α):(l.flatMap (cellsOf size cell)).length=l.length * size:=by
 induction l with
 | nil=>simp
 | cons x r ih=>rw [List.flatMap_cons,List.length_append,ih]; simp [cellsOf,Nat.add_mul]; omega
theorem Arr.of_row {α:Type} {w:World} {B size g cap:Nat} {t:TypeId} {l:List α} {cell:α→Nat→Value} {n:Nat} (h:Blk w g t (l.flatMap (cellsOf size cell)).toArray) (hn:n=l.length) (h1:l.length≤cap) (h2:cap≤9223372036854775807) (hB:g < B) :
  Arr w B size (.slice (some ⟨g,0,none⟩) n cap) l cell:=by
 subst hn
 refine ⟨_,cap,rfl,h1,h2,fun _=>⟨g,0,rfl,hB,fun i x hx j hj=>?_⟩⟩
 have hf:=flat_get size cell l i x hx j hj
 rw [h.cell,Nat.zero_add]
 simpa using hf
set_option maxRecDepth 100000 in
set_option maxHeartbeats 1600000 in
theorem best_ok (v:Value) (c:Cyl) (w:World) (hv:CylV w w.heap.size v c) :
  Calls Tryz.prog 10 #[v] w (BestPost c w):=by
 obtain ⟨fa,fc,pa,pc,rfl,hf,hp⟩:=hv.open_
 have hC:=CB.new hf hp
 have hB:=(Below.refl w.heap.size w).alloc (Nat.le_refl _) (.cells #[.int .i64 c.turns,.int .i64 c.long,.int .i64 c.plays,.slice fa c.frag.length fc,.slice pa c.pas.length pc] 25)
 go_enter Tryz.func10,Tryz.ntmps10
 go_upto_region 1 with (fail)
 generalize hW:w.alloc (.cells #[.int .i64 c.turns,.int .i64 c.long,.int .i64 c.plays,.slice fa c.frag.length fc,.slice pa c.pas.length pc] 25)=W at *
 clear hW hf hp
 obtain ⟨k0,k1,k2,k3,k4⟩:=hC.c5
 go_wp2_with fail
 refine (checkCyl_ok _ c _ hC.cyl).mono ?_
 rintro e w1 ⟨rfl,hb1⟩
 have hB1:=hB.trans (hb1.mono hB.size)
 have hC1:=hC.call hb1
 clear k0 k1 k2 k3 k4
 obtain ⟨k0,k1,k2,k3,k4⟩:=hC1.c5
 by_cases h0:checkCyl c=0
 case neg =>
  have hn1:(checkCyl c==0)=false:=by simpa using h0
  have hn2:(checkCyl c != 0)=true:=by simpa using h0
  have HC:Hid (bestOf c=([],0,checkCyl c)):=by simp [Hid,bestOf,h0]
  clear h0
  go_wp2
  go_ret3
  exact ⟨_,by rw [HC.out]; rfl,by rw [HC.out]; exact Arr.nil_,hB1⟩
 case pos =>
  have HC:Hid (bestOf c=(wayOf c,mostOf c,0)):=by simp [Hid,bestOf,h0]
  have HW:=Lib.hid (wayOf_spec h0)
  have H0:=Lib.hid h0
  obtain ⟨_,_,hlen,hall⟩:=cyl_valid h0
  have HALL:=Lib.hid hall
  clear hall
  rw [h0]
  clear h0
  go_wp2_with fail
  refine (newBoard_ok _ c _ hC1.cyl).mono ?_
  rintro e w2 ⟨rfl,hbd2,hsz2,hb2⟩
  have hB2:=hB1.trans (hb2.mono hB1.size)
  have hC2:=hC1.call hb2
  have hgle:w.heap.size < w1.heap.size+1:=by have:=hB1.size; omega
  have hgle1:w1.heap.size+1 < w2.heap.size:=by omega
  clear k0 k1 k2 k3 k4 hsz2
  generalize w1.heap.size+1=g at *
  obtain ⟨n1,n2,n3,n4,n5,n6,n7⟩:=cyl_nat H0.out
  have N1:=Lib.hid n1
  have N2:=Lib.hid n2
  clear n1 n2
  go_wp2_with fail
  refine (fill_ok (tT c) (tK c) _ g c N1.out n4 (by have:=N1.out; omega) N2.out n5 _ _ w2 hbd2 30 _ _ (ownW c.pas) (gives_own _ _ _ _) (fun i=>by have:=ownW_bound HALL.out i; omega) hlen).mono ?_
  rintro e w3 ⟨rfl,gm,hgm,hbd3,hm3,hgr3⟩
  have hb3:Below g w2 w3:=(Below.refl g w2).grown hgr3 (Nat.le_of_lt hgle1) (fun k hk=>by injection hk with hk; omega)
  have hB3:=hB2.trans (hb3.mono (Nat.le_of_lt hgle))
  have hC3:=hC2.belowB hb3 hgle
  obtain ⟨k0,k1,k2,k3,k4⟩:=hC3.c5
  rw [N1.out] at k0
  rw [N2.out] at k2
  clear hbd2 hgr3 hb3 hC2 hB2
  have hgm2:=hm3.lt
  have hpl:Calls Tryz.prog 31 #[.pointer (some ⟨g,0,none⟩)] w3 fun r w'=>∃ A cap,r = .returned (.slice A (wayOf c).length cap)∧Arr w' w'.heap.size 2 (.slice A (wayOf c).length cap) (wayOf c) scell∧w3.grownBy w' (some gm):=by
   have:=plan_ok (tT c) (tK c) _ g gm c N1.out n4 N2.out n5 _ _ w3 hbd3 hm3 (byC_fit H0.out _) (by omega)
   have e:(wayOf c).length=(wayGo (tabC c (ownW c.pas)) (byC c (ownW c.pas)) (tT c) (tT c) (tK c)).length:=by unfold wayOf; rw [List.length_reverse]
   rw [e]
   exact this
  have hwl:(wayOf c).length≤6:=by have:=HW.out.1.2; omega
  go_wp2_with fail
  refine hpl.mono ?_
  rintro e w4 ⟨A,cap,rfl,harr,hgr4⟩
  have hb4:Below gm w3 w4:=(Below.refl gm w3).grown hgr4 (by omega) (fun k hk=>by injection hk with hk; omega)
  have hbd4:BoardAt w4 _ g c _ _:=hbd3.elim fun fa h=>h.elim fun fc h=>h.elim fun pa h=>h.elim fun pc h=>⟨fa,fc,pa,pc,h.belowB hb4 (by omega)⟩
  have hB4:=hB3.trans (hb4.mono (by have:=hB1.size; omega))
  have hgr4s:=hgr4.size
  clear hpl hm3 hC3 hgr4 hb4 hbd3 k0 k1 k2 k3 k4
  obtain ⟨l,hl⟩:∃ l,wayOf c=l:=⟨_,rfl⟩
  rw [hl] at harr hwl HC
  have hll:=harr.len_
  have hmk:=run_mk slT_str l.length (by omega) (by omega)
  go_upto_region 8 with (fail)
  have hx:=Blk.new w4 48 (madeCells (Value.agg #[.int .i64 0,.int .i64 0]).cells (l.length * 2))
  have hz:madeCells (Value.agg #[.int .i64 0,.int .i64 0]).cells (l.length * 2)=madeCells #[.int .i64 0,.int .i64 0] (l.length * 2):=rfl
  rw [hz] at hx
  have hsx:(madeCells #[Value.int .i64 0,Value.int .i64 0] (l.length * 2)).size=l.length * 2 * 1∨(madeCells #[Value.int .i64 0,Value.int .i64 0] (l.length * 2)).size=l.length * 2:=by simp [size_madeCells]
  have hsx:(madeCells #[Value.int .i64 0,Value.int .i64 0] (l.length * 2)).size=l.length * 2:=by omega
  have hbW:=(Below.refl w4.heap.size w4).alloc (Nat.le_refl _) (.cells (madeCells #[.int .i64 0,.int .i64 0] (l.length * 2)) 48)
  generalize w4.alloc (.cells (madeCells #[.int .i64 0,.int .i64 0] (l.length * 2)) 48)=W5 at *
  have harrW:=(harr.below hbW).more hbW.size
  have hcp:=fun ty=>run_copy_full W5 42 42 ty 48 2 w4.heap.size l.length l.length A cap _ 48 (l.flatMap (cellsOf 2 scell)) Tryz.underlying42 (by kernel_rfl) hx (flat_len _ _ _) hsx (cells_arr harrW (by omega)) (fun v hv=>by
   obtain ⟨x,_,hx⟩:=List.mem_flatMap.1 hv
   simp [cellsOf,List.range_succ,scell] at hx
   rcases hx with rfl | rfl <;> rfl)
  have hx6:Blk (W5.setRow w4.heap.size (l.flatMap (cellsOf 2 scell)).toArray) w4.heap.size 48 (l.flatMap (cellsOf 2 scell)).toArray:=setRow_heap W5 w4.heap.size _ _ 48 (0,0) hx
  have hb6:Below w4.heap.size w4 (W5.setRow w4.heap.size (l.flatMap (cellsOf 2 scell)).toArray):=below_setRow hbW (Nat.le_refl _) _
  clear harr harrW hx hsx hbW hz hmk
  go_upto_region 9 with (fail)
  generalize W5.setRow w4.heap.size (l.flatMap (cellsOf 2 scell)).toArray=w6 at *
  have hbd6:BoardAt w6 _ g c _ _:=hbd4.elim fun fa h=>h.elim fun fc h=>h.elim fun pa h=>h.elim fun pc h=>⟨fa,fc,pa,pc,h.call hb6⟩
  have hB6:=hB4.trans (hb6.mono hB4.size)
  go_wp2_with fail
  refine (most_ok _ g (tT c) (tK c) c _ _ w6 hbd6 (by omega) (by omega) N1.out N2.out).mono ?_
  rintro e w7 ⟨rfl,hb7⟩
  go_wp2
  go_ret3
  refine ⟨_,by rw [HC.out]; rfl,?_,hB6.trans (hb7.mono hB6.size)⟩
  rw [HC.out]
  have:=hx6.lt
  exact Arr.of_row (hx6.call hb7) rfl (Nat.le_refl _) (by omega) (by have:=hb7.size; omega)
theorem fewest1_ok (n x:Int) (g:Nat) (w:World) (h0:w.cell? ⟨g,0,none⟩=some (.int .i64 x)) :
  Calls Tryz.prog 24 #[.int .i64 n,.pointer (some ⟨g,0,none⟩)] w fun r w'=>r = .returned (.bool (decide (x≤n)))∧Below w.heap.size w w':=by
 go_enter Tryz.func24,Tryz.ntmps24
 go_wp2
 all_goals (go_ret; exact ⟨by simp [*],Below.refl _ _⟩)
set_option maxRecDepth 100000 in
set_option maxHeartbeats 1600000 in
theorem fewest_ok (v:Value) (c:Cyl) (x:Int) (w:World) (hv:CylV w w.heap.size v c) :
  Calls Tryz.prog 8 #[v,.int .i64 x] w fun r w'=>r = .returned (.tuple #[.int .i64 (fewestOf c x).1,.int .i64 (fewestOf c x).2])∧Below w.heap.size w w':=by
 obtain ⟨fa,fc,pa,pc,rfl,hf,hp⟩:=hv.open_
 have hC:=(CB.new hf hp).alloc (.cells #[.int .i64 x] 2)
 have hB:=((Below.refl w.heap.size w).alloc (Nat.le_refl _) (.cells #[.int .i64 c.turns,.int .i64 c.long,.int .i64 c.plays,.slice fa c.frag.length fc,.slice pa c.pas.length pc] 25)).alloc (by simp) (.cells #[.int .i64 x] 2)
 have hx:=Blk.new (w.alloc (.cells #[.int .i64 c.turns,.int .i64 c.long,.int .i64 c.plays,.slice fa c.frag.length fc,.slice pa c.pas.length pc] 25)) 2 #[.int .i64 x]
 rw [show (w.alloc (.cells #[.int .i64 c.turns,.int .i64 c.long,.int .i64 c.plays,.slice fa c.frag.length fc,.slice pa c.pas.length pc] 25)).heap.size=w.heap.size+1 by simp] at hx
 go_enter Tryz.func8,Tryz.ntmps8
 go_upto_region 1 with (fail)
 generalize (w.alloc (.cells #[.int .i64 c.turns,.int .i64 c.long,.int .i64 c.plays,.slice fa c.frag.length fc,.slice pa c.pas.length pc] 25)).alloc (.cells #[.int .i64 x] 2)=W at *
 clear hf hp
 obtain ⟨k0,k1,k2,k3,k4⟩:=hC.c5
 go_wp2_with fail
 refine (worths_ok _ c _ hC.cyl).mono ?_
 rintro e w1 ⟨ov,rfl,harr,hb1⟩
 have hB1:=hB.trans (hb1.mono hB.size)
 have hx1:=hx.call hb1
 have x0:=hx1.cell 0
 simp at x0
 clear k0 k1 k2 k3 k4
 by_cases h0:checkCyl c=0
 case neg =>
  have hn1:(checkCyl c==0)=false:=by simpa using h0
  have hn2:(checkCyl c != 0)=true:=by simpa using h0
  have HC:Hid (fewestOf c x=(0,checkCyl c)):=by simp [Hid,fewestOf,h0]
  clear h0
  go_wp2
  go_ret2
  exact ⟨by rw [HC.out]; rfl,hB1⟩
 case pos =>
  have HC:Hid (fewestOf c x=if x < 0 then (0,3) else if firstGe x (worthsOf c) < 0 then (0,13) else (firstGe x (worthsOf c),0)):=by simp [Hid,fewestOf,h0]
  rw [h0]
  clear h0
  by_cases hx0:x < 0
  ·have HQ:Hid (fewestOf c x=(0,3)):=by rw [Hid,HC.out,if_pos hx0]
   go_wp2
   go_ret2
   exact ⟨by rw [HQ.out]; rfl,hB1⟩
  ·have HQ:Hid (fewestOf c x=if firstGe x (worthsOf c) < 0 then (0,13) else (firstGe x (worthsOf c),0)):=by rw [Hid,HC.out,if_neg hx0]
   go_wp2_with fail
   refine (indexFunc_i64 _ (worthsOf c) 24 _ _ (fun n=>decide (x≤n)) _ (enters_of Tryz.func24 (by kernel_rfl) rfl) harr ?h2).mono ?_
   case h2 =>
    intro n _ w2 hb2
    exact fewest1_ok n x _ w2 ((hx1.call hb2).cell 0)
   rintro e w2 ⟨rfl,hb2⟩
   have hB2:=hB1.trans (hb2.mono hB1.size)
   obtain ⟨k,hk⟩:∃ k,firstGe x (worthsOf c)=k:=⟨_,rfl⟩
   have hk':idxOf (fun n=>decide (x≤n)) 0 (worthsOf c)=k:=hk
   rw [hk] at HQ
   rw [hk']
   clear hk hk'
   by_cases hneg:k < 0
   ·have HR:Hid (fewestOf c x=(0,13)):=by rw [Hid,HQ.out,if_pos hneg]
    go_wp2
    go_ret2
    exact ⟨by rw [HR.out]; rfl,hB2⟩
   ·have HR:Hid (fewestOf c x=(k,0)):=by rw [Hid,HQ.out,if_neg hneg]
    go_wp2
    go_ret2
    exact ⟨by rw [HR.out]; rfl,hB2⟩
end Go.Proofs.YtjpfjklobnilkaaGreat
