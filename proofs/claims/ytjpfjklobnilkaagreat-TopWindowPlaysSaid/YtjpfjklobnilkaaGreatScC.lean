/- Contract: CheckScale of the scale. -/
import Derived.Test.YtjpfjklobnilkaaGreatScK
import Derived.Test.YtjpfjklobnilkaaGreatPC
import Derived.StillTail
import Derived.Deep.Quiet
import Derived.Test.YtjpfjklobnilkaaGreatSchedH
namespace Go.Proofs.YtjpfjklobnilkaaGreat
open Go.RowKit Go.Shelf Sc
set_option linter.unusedVariables false
theorem mrk_part (xs:Array Value) (i:Nat) (v:Value) (h:xs[i]? = some v) (w:World):(Go.part 3 xs (i * 1)).run Tryz.prog w = .ok v w:=by
 have hi:(Tryz.prog.info? 3).map (·.size)=some 1:=by kernel_rfl
 have hu:=Tryz.underlying3
 cases hq:Tryz.prog.info? 3 with
 | none=>simp [hq] at hi
 | some ii =>
   have hs:ii.size=1:=by simpa [hq] using hi
   simp [Go.part,run_underlying hu,sizeOf,typeInfo,hq,hs,h,go_sem]
theorem mrk_loop (xs ys:Array Value) (f g:Nat→Int) (hx:∀ i,i < 25→xs[i]? = some (.int .i64 (f i))) (hy:∀ i,i < 25→ys[i]? = some (.int .i64 (g i))) (w:World):∀ l:List Nat,(∀ i∈l,i < 25) →
  (forIn l (none,()) fun i (__s:Option Bool×Unit)=>do
            let __do_lift ← Go.part 3 xs (i * 1)
            let __do_lift_1 ← Go.part 3 ys (i * 1)
            let __do_lift ← Op.equalIn 9999 3 __do_lift __do_lift_1
            if (!__do_lift)=true then pure (ForInStep.done (some false,())) else pure (ForInStep.yield (none,())):Sem (Option Bool×Unit)).run Tryz.prog w = .ok (if l.all (fun i=>f i==g i)=true then (none,()) else (some false,())) w
 | [],_=>by simp
 | i::r,h=>by
   have hi:=h i List.mem_cons_self
   have he:(Op.equalIn 9999 3 (.int .i64 (f i)) (.int .i64 (g i))).run Tryz.prog w = .ok (f i==g i) w:=by simp [go_sem]
   rw [List.forIn_cons]
   simp only [Sem.run_bind,mrk_part xs i _ (hx i hi),mrk_part ys i _ (hy i hi),he,Result.andThen_ok]
   cases hq:(f i==g i)
   ·simp [hq]
   ·simp only [Bool.not_true,Bool.false_eq_true,if_false,Sem.run_pure,Result.andThen_ok,List.all_cons,hq,Bool.true_and]
    exact mrk_loop xs ys f g hx hy w r fun j hj=>h j (List.mem_cons_of_mem _ hj)
theorem eq_mrk (xs ys:Array Value) (f g:Nat→Int) (hx:∀ i,i < 25→xs[i]? = some (.int .i64 (f i))) (hy:∀ i,i < 25→ys[i]? = some (.int .i64 (g i))) (w:World):(Op.equalIn 10000 68 (.agg xs) (.agg ys)).run Tryz.prog w = .ok ((List.range 25).all fun i=>f i==g i) w:=by
 show (Op.equalIn (9999+1) 68 _ _).run _ _=_
 unfold Op.equalIn
 have hu:=Tryz.underlying68
 have hi:(Tryz.prog.info? 3).map (·.size)=some 1:=by kernel_rfl
 cases hq:Tryz.prog.info? 3 with
 | none=>simp [hq] at hi
 | some ii =>
   have hs:ii.size=1:=by simpa [hq] using hi
   have hsz:(sizeOf 3).run Tryz.prog w = .ok 1 w:=by simp [sizeOf,typeInfo,hq,hs]
   simp only [Sem.run_bind,run_underlying hu,Result.andThen_ok,hsz,Std.Legacy.Range.forIn_eq_forIn_range']
   have hl:=mrk_loop xs ys f g hx hy w (List.range' 0 25) (by simp)
   have h16:(List.range 25)=List.range' 0 25:=by decide
   rw [h16]
   simp only [Std.Legacy.Range.size,Nat.sub_zero,Nat.add_sub_cancel,Nat.div_one]
   rw [hl]
   cases (List.range' 0 25).all fun i=>f i==g i <;> simp
def allTo (k i:Nat):Int:=if i < k then 1 else 0
theorem eq_all (K:Nat→Int) (w:World):(Op.equalIn 10000 68 (.agg (mrkA K)) (.agg (mrkA K))).run Tryz.prog w = .ok true w:=by
 have h:=eq_mrk (mrkA K) (mrkA K) K K (fun i hi=>rowA_get hi) (fun i hi=>rowA_get hi) w
 have h2:((List.range 25).all fun i=>K i==K i)=true:=List.all_eq_true.2 fun i _=>beq_self_eq_true _
 rw [h2] at h
 exact h
theorem quiet_load_row {C:World→Prop} {o:Oper} {a:Act} {K:Act→Prop} (ty:TypeId) (x:Operand) (ho:o.op = .load ty x) (g:Nat) (hx:a.eval x = .pointer (some ⟨g,0,none⟩)) (cs:Array Value)
  (hg:∀ w,C w→(loadVar ty ⟨g,0,none⟩).run Tryz.prog w = .ok (.agg cs) w) (h:K (a.put o.dst (.agg cs))):o.quiet Tryz.prog a C K:=by
 refine ⟨.agg cs,fun w hC=>?_,h⟩
 have h1:=hg w hC
 unfold Oper.quietAt execOp
 simp only [ho,hx,Instr.loadAt,Instr.sureAddr,Sem.run_bind,Sem.run_pure,Result.andThen_ok,h1,Oper.quietUpon]
 trivial
set_option maxRecDepth 100000 in
set_option maxHeartbeats 1600000 in
theorem scCheckScale_ok (sv tv:Value) (l:List Str) (st:List Int) (w:World) (hl:SongOk l) (hst:ScaleOk l st) (hs:Arr w w.heap.size 2 sv l scell) (ht:Arr w w.heap.size 1 tv st icell) :
  Calls Tryz.prog 13 #[sv,tv] w fun r w'=>r = .returned (.int .i64 0)∧Below w.heap.size w w':=by
 have hc:=scCheck_ok sv tv l st w hl hst hs ht
 have HS:=Lib.hid hs
 have HT:=Lib.hid ht
 have HL:=Lib.hid hl
 have HST:=Lib.hid hst
 have hll:=hl.2.1
 obtain ⟨A,c,rfl, -, -, -⟩:=hs
 obtain ⟨A',c',rfl, -, -, -⟩:=ht
 clear hl hst
 go_enter Tryz.func13,Tryz.ntmps13
 go_wp2_with fail
 refine hc.mono ?_
 rintro e w1 ⟨rfl,hb1⟩
 clear hc
 go_upto_region 5 with (fail)
 rw [← mrk_zero]
 have hA:MrkB (w1.alloc (.cells (rowA 25 fun _ => .int .i64 0) 68)) w1.heap.size (allTo 0):=Blk.new w1 68 (rowA 25 fun _ => .int .i64 0)
 have hwg1:=hb1.size
 have hb2:=(Below.refl w1.heap.size w1).alloc (Nat.le_refl _) (.cells (rowA 25 fun _ => .int .i64 0) 68)
 replace hb1:=hb1.trans (hb2.mono hb1.size)
 have hgl:=hA.lt
 obtain ⟨g,hg⟩:∃ g,g=w1.heap.size:=⟨_,rfl⟩
 have hwg:w.heap.size≤g:=by omega
 rw [← hg] at hA hgl ⊢
 clear hg hb2
 generalize w1.alloc (.cells (rowA 25 fun _ => .int .i64 0) 68)=w2 at *
 go_upto_region 6 with (fail)
 go_loopw [16] (fun i wr=>∃ k:Nat,k≤l.length∧i = .int .i64 k∧MrkB wr g (allTo k)∧w2.grownBy wr (some g)) (fun i _=>l.length-(intOf i).toNat)
 case atStart=>exact ⟨0,Nat.zero_le _,rfl,hA,World.grownBy.refl _ _⟩
 case round =>
  clear hA
  obtain ⟨k,hk,rfl,hA,hgr⟩:=hrel
  by_cases hlt:k < l.length
  ·have hk25:k < 25:=by omega
   have hki:(k:Int) < 25:=by omega
   have hkl:(k:Int) < (l.length:Int):=by omega
   have z0:=hA.at_ hk25
   have z1:=Blk.frozen hA k
   go_wp2
   have hA2:=hA.put (i:=k) (x:=1) (g:=allTo (k+1)) fun j _=>by
    unfold allTo
    by_cases h1:j=k
    ·subst h1
     rw [if_pos (by omega),if_pos rfl]
    ·rw [if_neg h1]
     by_cases h2:j < k
     ·rw [if_pos (by omega),if_pos h2]
     ·rw [if_neg (by omega),if_neg h2]
   have hg2:=grown_trans' hgr (grown_setCell (g:=g) (o:=k) (.int .i64 1))
   go_roundw
   case rel=>exact ⟨k+1,by omega,by go_num,hA2,hg2⟩
   case measure=>(simp [intOf]; try omega)
  ·obtain rfl:k=l.length:=by omega
   have hbw:=below_row hb1 hgr hb1.size fun r e=>by injection e; omega
   have hgl2:=hA.lt
   obtain ⟨cs,hcs⟩:∃ cs,cs=mrkA (allTo l.length):=⟨_,rfl⟩
   have hs40:cs.size=25:=by rw [hcs]; exact rowA_size _ _
   have hi40:(Tryz.prog.info? 68).map (·.size)=some cs.size:=by rw [hs40]; kernel_rfl
   have hrow:Blk wr g 68 cs:=by rw [hcs]; exact hA
   have heq:∀ w',(Op.equalIn 10000 68 (.agg cs) (.agg cs)).run Tryz.prog w' = .ok true w':=by rw [hcs]; exact eq_all _
   have HCS:Hid (mrkA (fun i=>if i < l.length then 1 else 0)=cs):=by rw [Hid,hcs]; rfl
   clear hcs hgr hlt hA hs40
   go_upto_region 10 with (fail)
   refine wp_region_schedH (C:=fun w'=>∃ x:Ext wr,w'=x.w) [(0,true),(2,true),(4,true),(1,false),(3,false),(5,false)] (by kernel_rfl) (by kernel_rfl) ⟨⟨wr.drew,(Below.refl _ wr).drew⟩,rfl⟩ ?_
   have hxd:Below wr.heap.size wr wr.drew:=(Below.refl wr.heap.size wr).drew
   refine schedH_q (by rfl) (by rfl) ?_
   intro K hK
   go_big_quiet_op
   go_big_quiet_on
   refine schedH_q (by rfl) (by rfl) ?_
   intro K hK
   go_big_quiet_op
   go_big_quiet_on
   refine schedH_q (by rfl) (by rfl) ?_
   intro K hK
   refine quiet_load_row 68 (.tmp 6) rfl g rfl cs (fun w' hw'=>?_) ?_
   ·obtain ⟨x,rfl⟩:=hw'
    exact run_loadVar_row x.w g 68 68 cs (0,0) _ ((x.h.block g hgl2).trans hrow) Tryz.underlying68 rfl hi40
   refine hK _ ?_
   clear hK K
   refine schedH_c (by rfl) (by rfl) ?_
   intro K' hK'
   go_wp2_with fail
   refine (newSong_ok _ l wr.drew HL.out ((HS.out.below (hbw.trans (hxd.mono hbw.size))).more (hbw.trans (hxd.mono hbw.size)).size)).mono ?_
   rintro e w3 ⟨gs,s,rfl,ho,hsb,hb3⟩
   have hx3:=hxd.trans (hb3.mono hxd.size)
   have hw3:=hbw.trans (hx3.mono hbw.size)
   go_wp2
   refine hK' _ _ ⟨⟨⟨w3,hx3⟩,rfl⟩,?_⟩
   clear hK' K'
   refine schedH_c (by rfl) (by rfl) ?_
   intro K' hK'
   go_wp2_with fail
   refine (met_ok w3 hsb HL.out ho HST.out ((HT.out.below hw3).more hw3.size)).mono ?_
   rintro e w4 ⟨rfl,hb4⟩
   rw [HCS.out]
   have hx4:=hx3.trans (hb4.mono hx3.size)
   have hw4:=hbw.trans (hx4.mono hbw.size)
   go_wp2
   refine hK' _ _ ⟨⟨⟨w4,hx4⟩,rfl⟩,?_⟩
   clear hK' K'
   refine schedH_c (by rfl) (by rfl) ?_
   intro K' hK'
   go_wp2
   refine hK' _ _ ⟨⟨⟨w4,hx4⟩,rfl⟩,?_⟩
   clear hK' K'
   refine schedH_nil ?_
   go_wp2
   go_ret
   exact ⟨rfl,hw4⟩
end Go.Proofs.YtjpfjklobnilkaaGreat
