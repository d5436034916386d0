/- Contracts: kept, great. Contracts: slices.Grow at nil, slices.Concat. -/
import Derived.Test.YtibmeigdjghkcaaGreatQue
import Derived.Laws.Rows
import Derived.Laws.Tables
import Derived.Lib.AppendZeros
namespace Go.Proofs.YtibmeigdjghkcaaGreat
open Go.RowKit Go.Shelf
set_option linter.unusedVariables false
abbrev amtA (K:Nat→Int):Array Value:=rowA 40 fun u => .int .i64 (K u)
theorem amt_zero:(rowA 40 fun _=>Value.int .i64 0)=#[.int .i64 0,.int .i64 0,.int .i64 0,.int .i64 0,.int .i64 0,.int .i64 0,.int .i64 0,.int .i64 0,.int .i64 0,.int .i64 0,
 .int .i64 0,.int .i64 0,.int .i64 0,.int .i64 0,.int .i64 0,.int .i64 0,.int .i64 0,.int .i64 0,.int .i64 0,.int .i64 0,
 .int .i64 0,.int .i64 0,.int .i64 0,.int .i64 0,.int .i64 0,.int .i64 0,.int .i64 0,.int .i64 0,.int .i64 0,.int .i64 0,
 .int .i64 0,.int .i64 0,.int .i64 0,.int .i64 0,.int .i64 0,.int .i64 0,.int .i64 0,.int .i64 0,.int .i64 0,.int .i64 0]:=by kernel_rfl
section
variable {W:World} {B G:Nat} {l:NL} {ka aa ba da:Option Addr} {kc ac bc dc:Nat} {drop:List Int} {fb:Nat} {f:Nat→Int} {h:Nat→Nat}
set_option maxHeartbeats 1600000 in
theorem kept_ok (m:NetF W B G l ka kc aa ac ba bc da dc drop fb f h) (g:Good l) (hf:∀ i,i < l.links.length → -1000000≤f i∧f i≤1000000) :
  Calls Tryz.prog 79 #[.pointer (some ⟨G,0,none⟩)] W fun r w'=>r = .returned (.agg (amtA (keptF l.L f)))∧Below W.heap.size W w':=by
 have h120:=g.few
 go_enter Tryz.func79,Tryz.ntmps79
 go_upto_region 1 with (fail)
 rw [← amt_zero]
 have x1:=Blk.new W 158 (rowA 40 fun _ => .int .i64 0)
 have b1:=(Below.refl W.heap.size W).alloc (Nat.le_refl _) (.cells (rowA 40 fun _ => .int .i64 0) 158)
 have z1:(W.alloc (.cells (rowA 40 fun _ => .int .i64 0) 158)).heap.size=W.heap.size+1:=by simp
 generalize W.alloc (.cells (rowA 40 fun _ => .int .i64 0) 158)=W1 at *
 go_upto_region 2 with (fail)
 rw [← amt_zero]
 have x2:=Blk.new W1 158 (rowA 40 fun _ => .int .i64 0)
 have b2:=(Below.refl W1.heap.size W1).alloc (Nat.le_refl _) (.cells (rowA 40 fun _ => .int .i64 0) 158)
 have z2:(W1.alloc (.cells (rowA 40 fun _ => .int .i64 0) 158)).heap.size=W.heap.size+2:=by simp [z1]
 rw [z1] at x2
 have x1b:=x1.call b2
 have hB:=b1.trans (b2.mono b1.size)
 have m2:=m.call hB
 have x3:AmtB (W1.alloc (.cells (rowA 40 fun _ => .int .i64 0) 158)) (W.heap.size+1) (keptTo l.L f 0):=x2
 clear b1 b2 x1 z1 x2
 generalize W1.alloc (.cells (rowA 40 fun _ => .int .i64 0) 158)=W2 at *
 have hGW:=m.lt
 obtain ⟨-,n1, -, -, -, -⟩:=m2.net.c6
 go_wp2
 go_loopw [12] (fun i wr=>∃ k:Nat,k≤l.links.length∧i = .int .i64 k∧NetF wr B G l ka kc aa ac ba bc da dc drop fb f h∧AmtB wr (W.heap.size+1) (keptTo l.L f k)∧Blk wr W.heap.size 158 (rowA 40 fun _ => .int .i64 0)∧Below W.heap.size W wr) (fun i _=>l.links.length-(intOf i).toNat)
 case atStart=>exact ⟨0,Nat.zero_le _,rfl,m2,x3,x1b,hB⟩
 case round =>
  clear n1 m2 x3 x1b hB
  obtain ⟨k,hk,rfl,m2,x3,x1,hB⟩:=hrel
  by_cases hkl:k < l.links.length
  ·have d1:decide (k < l.links.length)=true:=decide_eq_true hkl
   have d1':decide ((k:Int) < (l.links.length:Int))=true:=decide_eq_true (by omega)
   have hki:(k:Int) < (l.links.length:Int):=by omega
   obtain ⟨kb,ko,a,b,t,rfl, -,hlk,ha,hb,hab, -, -,c0,c1,c2⟩:=m2.link g hkl
   have hN40:l.N≤40:=by have:=g.forty; have:=g.nN; omega
   have ha4:(a:Int) < 40:=by omega
   have hb4:(b:Int) < 40:=by omega
   have ha40:a < 40:=by omega
   have hb40:b < 40:=by omega
   have HS:Hid (∀ u,keptTo l.L f (k+1) u=if u=b then keptTo l.L f k b+f k else if u=a then keptTo l.L f k a-f k else keptTo l.L f k u):=fun u=>by
    have:=keptTo_step (L:=l.L) (f:=f) (k:=k) (by rw [hlk]; exact hab) u
    rw [hlk] at this
    exact this
   have hbd:=fun u=>keptTo_bound (L:=l.L) (f:=f) (u:=u) (k:=k) fun i hi=>hf i (by omega)
   have hfk:=hf k hkl
   have hxs0:=Blk.lt x3
   go_upto_region 5 with (fail)
   have hb1:=(Below.refl wr.heap.size wr).alloc (Nat.le_refl _) (.cells #[.int .i64 (a:Int),.int .i64 (b:Int),.int .i64 t] 36)
   have hX:=Blk.new wr 36 #[.int .i64 (a:Int),.int .i64 (b:Int),.int .i64 t]
   replace m2:=m2.call hb1
   replace x3:AmtB _ (W.heap.size+1) (keptTo l.L f k):=Blk.call x3 hb1
   replace x1:=x1.call hb1
   replace hB:=hB.trans (hb1.mono hB.size)
   have hxs:W.heap.size+1 < wr.heap.size:=hxs0
   clear c0 c1 c2 hb1
   generalize wr.alloc (.cells #[.int .i64 (a:Int),.int .i64 (b:Int),.int .i64 t] 36)=V at *
   obtain ⟨K,hK⟩:∃ K,K=keptTo l.L f k:=⟨_,rfl⟩
   rw [← hK] at HS hbd x3
   clear hK
   have hba:=hbd a
   have hbb:=hbd b
   have w1:IntKind.i64.wrap (K a-f k)=K a-f k:=wrap_id _ (by omega) (by omega)
   have w2:IntKind.i64.wrap (K b+f k)=K b+f k:=wrap_id _ (by omega) (by omega)
   have y0:=hX.cell 0
   simp at y0
   obtain ⟨-, -, -, -, -,n5⟩:=m2.net.c6
   have f0:=Ext.of y0
   have f1:=Ext.of (x3.at_ ha40)
   have f2:=Ext.of n5
   have f3:=Ext.of (m2.fl hkl)
   refine wp_region_tail (C:=fun w'=>∃ x:Ext V,w'=x.w) 12 (by kernel_rfl) (by kernel_rfl) ⟨⟨(V).drew,⟨rfl,rfl,rfl,Nat.le_refl _,fun _ _=>rfl⟩⟩,rfl⟩ ?_
   simp only [List.take_succ_cons,List.take_zero,List.drop_succ_cons,List.drop_zero]
   repeat (go_big_quiet_step (fail))
   refine wpQuiet_nil ?_
   intro _ hw'
   obtain ⟨xr,hw''⟩:=hw'
   subst hw''
   have z0:=f1 xr
   have z1:=(xr.h.frozen (p:=⟨W.heap.size+1,a,none⟩) (Blk.lt x3)).trans (Blk.frozen x3 a)
   have m3:=m2.call xr.h
   have hX3:=hX.call xr.h
   have x13:=x1.call xr.h
   have hB3:=hB.trans (xr.h.mono hB.size)
   have x33:AmtB xr.w (W.heap.size+1) K:=Blk.call x3 xr.h
   clear f0 f1 f2 f3 y0 n5 m2 hX x1 hB x3 hbd hba hbb
   obtain ⟨Z,hZ⟩:∃ Z:World,Z=xr.w:=⟨_,rfl⟩
   rw [← hZ] at z0 z1 m3 hX3 x13 hB3 x33 ⊢
   clear hZ xr
   have hxW:=Blk.lt hX3
   have hxo:=Blk.lt x33
   go_upto_region 6 with (fail)
   have hg1:Z.grownBy (Z.setCell ⟨W.heap.size+1,a,none⟩ (.int .i64 (K a-f k))) (some (W.heap.size+1)):=grown_setCell _
   have x34:=x33.put (i:=a) (x:=K a-f k) (g:=fun u=>if u=a then K a-f k else K u) fun j _=>rfl
   have m4:=m3.grown hg1 fun r e=>by injection e with e; have:=m3.net.le; omega
   have x14:=x13.grown hg1 fun e=>by injection e; omega
   have hX4:=hX3.grown hg1 fun e=>by injection e; omega
   have hB4:=hB3.setCell (p:=⟨W.heap.size+1,a,none⟩) (by show W.heap.size≤W.heap.size+1; omega) (.int .i64 (K a-f k))
   clear z0 z1 m3 x13 hX3 hB3 x33 hg1 hxW hxo
   generalize Z.setCell ⟨W.heap.size+1,a,none⟩ (.int .i64 (K a-f k))=V at *
   have y1:=hX4.cell 1
   simp at y1
   obtain ⟨-, -, -, -, -,n5⟩:=m4.net.c6
   have x34b:=x34.at_ hb40
   rw [show (if b=a then K a-f k else K b)=K b from if_neg fun e=>hab e.symm] at x34b
   have f0:=Ext.of y1
   have f1:=Ext.of x34b
   have f2:=Ext.of n5
   have f3:=Ext.of (m4.fl hkl)
   refine wp_region_tail (C:=fun w'=>∃ x:Ext V,w'=x.w) 12 (by kernel_rfl) (by kernel_rfl) ⟨⟨(V).drew,⟨rfl,rfl,rfl,Nat.le_refl _,fun _ _=>rfl⟩⟩,rfl⟩ ?_
   simp only [List.take_succ_cons,List.take_zero,List.drop_succ_cons,List.drop_zero]
   repeat (go_big_quiet_step (fail))
   refine wpQuiet_nil ?_
   intro _ hw'
   obtain ⟨xr,hw''⟩:=hw'
   subst hw''
   have z0:=f1 xr
   have z1:=(xr.h.frozen (p:=⟨W.heap.size+1,b,none⟩) (Blk.lt x34)).trans (Blk.frozen x34 b)
   have m5:=m4.call xr.h
   have x15:=x14.call xr.h
   have hB5:=hB4.trans (xr.h.mono hB4.size)
   have x35:AmtB xr.w (W.heap.size+1) (fun u=>if u=a then K a-f k else K u):=Blk.call x34 xr.h
   clear f0 f1 f2 f3 y1 n5 m4 hX4 x14 hB4 x34 x34b
   obtain ⟨Z,hZ⟩:∃ Z:World,Z=xr.w:=⟨_,rfl⟩
   rw [← hZ] at z0 z1 m5 x15 hB5 x35 ⊢
   clear hZ xr
   have hg2:Z.grownBy (Z.setCell ⟨W.heap.size+1,b,none⟩ (.int .i64 (K b+f k))) (some (W.heap.size+1)):=grown_setCell _
   have x36:=x35.put (i:=b) (x:=K b+f k) (g:=keptTo l.L f (k+1)) fun j _=>HS.out j
   have m6:=m5.grown hg2 fun r e=>by injection e with e; have:=m5.net.le; omega
   have x16:=x15.grown hg2 fun e=>by injection e; omega
   have hB6:=hB5.setCell (p:=⟨W.heap.size+1,b,none⟩) (by show W.heap.size≤W.heap.size+1; omega) (.int .i64 (K b+f k))
   go_wp2
   go_roundw
   case rel=>exact ⟨k+1,by omega,by go_num,m6,x36,x16,hB6⟩
   case measure=>(simp [intOf]; try omega)
  ·obtain rfl:k=l.links.length:=by omega
   have d1:decide (l.links.length < l.links.length)=false:=by simp
   have x4:Blk wr (W.heap.size+1) 158 (amtA (keptF l.L f)):=by
    have e:keptTo l.L f l.links.length=keptF l.L f:=by funext u; rw [← keptTo_all,NL.len]
    rw [e] at x3
    exact x3
   have hs40:(amtA (keptF l.L f)).size=40:=rowA_size _ _
   have hi40:(Tryz.prog.info? 158).map (·.size)=some (amtA (keptF l.L f)).size:=by rw [hs40]; kernel_rfl
   have h1c:(amtA (keptF l.L f)).all (·.oneCell')=true:=by
    rw [Array.all_eq_true_iff_forall_mem]
    intro x hx
    simp [amtA,rowA] at hx
    obtain ⟨u, -,rfl⟩:=hx
    rfl
   have hset:Blk (wr.setRow W.heap.size (amtA (keptF l.L f))) W.heap.size 158 (amtA (keptF l.L f)):=setRow_heap wr W.heap.size _ _ 158 (0,0) x1
   have hB7:Below W.heap.size W (wr.setRow W.heap.size (amtA (keptF l.L f))):=below_setRow hB (Nat.le_refl _) _
   have HCS:∃ cs,Hid (cs=amtA (keptF l.L f)):=⟨_,rfl⟩
   obtain ⟨cs,HCS⟩:=HCS
   rw [← HCS.out] at x4 hs40 hi40 h1c hset hB7
   go_wp2_with (first | (refine wpList_load_row rfl 158 (.tmp 3) rfl (W.heap.size+1) rfl 158 cs (0,0) _ x4 Tryz.underlying158 rfl hi40 ?_) | (refine wpList_store_row rfl 158 (.tmp 2) (.tmp 44) rfl W.heap.size cs rfl rfl 158 _ x1 hi40 (by rw [rowA_size,hs40]) h1c ?_))
   exact bodyPost_ret (v := .agg cs) (results_cell_row Tryz.results79 _ _ W.heap.size 158 cs (0,0) _ rfl hset Tryz.underlying158 rfl hi40) rfl ⟨by rw [HCS.out],hB7⟩
def lessTo (L:List Lk) (f:Nat→Int) (ls:List Nat) (k:Nat):Int := - isum (keptF L f) (ls.take k)
theorem lessTo_step {L:List Lk} {f:Nat→Int} {ls:List Nat} {k x:Nat} (h:ls[k]? = some x):lessTo L f ls (k+1)=lessTo L f ls k-keptF L f x:=by
 unfold lessTo
 rw [take_snoc h,isum_append]
 simp [isum]
 omega
theorem lessTo_bound {L:List Lk} {f:Nat→Int} {ls:List Nat} (hb:∀ u, -240000000≤keptF L f u∧keptF L f u≤240000000):∀ k:Nat, -(240000000 * (k:Int))≤lessTo L f ls k∧lessTo L f ls k≤240000000 * (k:Int)
 | 0=>by simp [lessTo,isum]
 | k+1=>by
   have ih:=lessTo_bound (ls:=ls) hb k
   rcases Nat.lt_or_ge k ls.length with hk | hk
   ·rw [lessTo_step (List.getElem?_eq_getElem hk)]
    have:=hb ls[k]
    omega
   ·have:lessTo L f ls (k+1)=lessTo L f ls k:=by unfold lessTo; rw [List.take_of_length_le hk,List.take_of_length_le (by omega)]
    rw [this]
    omega
theorem Good.left_int {l:NL} (g:Good l):l.left=intL (natL l.left):=(rises_nat g.ra).2.2
theorem Good.right_int {l:NL} (g:Good l):l.right=intL (natL l.right):=(rises_nat g.rb).2.2
theorem amt_i40 (K:Nat→Int):(Tryz.prog.info? 158).map (·.size)=some (amtA K).size:=by rw [show (amtA K).size=40 from rowA_size _ _]; kernel_rfl
theorem amt_one (K:Nat→Int):(amtA K).all (·.oneCell')=true:=by
 rw [Array.all_eq_true_iff_forall_mem]
 intro x hx
 simp [amtA,rowA] at hx
 obtain ⟨u, -,rfl⟩:=hx
 rfl
theorem kept_bound2 {l:NL} {f:Nat→Int} (g:Good l) (hf:∀ i,i < l.links.length → -1000000≤f i∧f i≤1000000) (u:Nat) : -240000000≤keptF l.L f u∧keptF l.L f u≤240000000:=by
 have h1:=keptTo_bound (L:=l.L) (f:=f) (u:=u) (k:=l.L.length) fun i hi=>hf i (by rw [← NL.len]; exact hi)
 rw [keptTo_all] at h1
 have h2:=g.few
 rw [NL.len] at h1
 omega
set_option maxRecDepth 100000 in
set_option maxHeartbeats 1600000 in
theorem great_ok (m:NetF W B G l ka kc aa ac ba bc da dc drop fb f h) (g:Good l) (hf:∀ i,i < l.links.length → -1000000≤f i∧f i≤1000000) :
  Calls Tryz.prog 58 #[.pointer (some ⟨G,0,none⟩)] W fun r w'=>r = .returned (.int .i64 (greatF l.N l.L f l.A))∧Below W.heap.size W w':=by
 have hk:=kept_ok m g hf
 have hkb:=kept_bound2 g hf
 have hG:Hid (greatF l.N l.L f l.A=lessTo l.L f (natL l.left) (natL l.left).length):=by
  rw [Hid,g.great,lessBy,lessTo,List.take_length]
 go_enter Tryz.func58,Tryz.ntmps58
 go_wp2_with fail
 refine hk.mono ?_
 rintro e w1 ⟨rfl,hb1⟩
 have m1:=m.call hb1
 have hi40:=amt_i40 (keptF l.L f)
 have h1c:=amt_one (keptF l.L f)
 have hs40:(40:Nat)=(amtA (keptF l.L f)).size:=(rowA_size _ _).symm
 have x1:Blk (w1.alloc (.cells #[.int .i64 0,.int .i64 0,.int .i64 0,.int .i64 0,.int .i64 0,.int .i64 0,.int .i64 0,.int .i64 0,.int .i64 0,.int .i64 0,
 .int .i64 0,.int .i64 0,.int .i64 0,.int .i64 0,.int .i64 0,.int .i64 0,.int .i64 0,.int .i64 0,.int .i64 0,.int .i64 0,
 .int .i64 0,.int .i64 0,.int .i64 0,.int .i64 0,.int .i64 0,.int .i64 0,.int .i64 0,.int .i64 0,.int .i64 0,.int .i64 0,
 .int .i64 0,.int .i64 0,.int .i64 0,.int .i64 0,.int .i64 0,.int .i64 0,.int .i64 0,.int .i64 0,.int .i64 0,.int .i64 0] 158)) w1.heap.size 158 _:=Blk.new w1 158 _
 have hB1:=(Below.refl w1.heap.size w1).alloc (Nat.le_refl _) (.cells #[.int .i64 0,.int .i64 0,.int .i64 0,.int .i64 0,.int .i64 0,.int .i64 0,.int .i64 0,.int .i64 0,.int .i64 0,.int .i64 0,
 .int .i64 0,.int .i64 0,.int .i64 0,.int .i64 0,.int .i64 0,.int .i64 0,.int .i64 0,.int .i64 0,.int .i64 0,.int .i64 0,
 .int .i64 0,.int .i64 0,.int .i64 0,.int .i64 0,.int .i64 0,.int .i64 0,.int .i64 0,.int .i64 0,.int .i64 0,.int .i64 0,
 .int .i64 0,.int .i64 0,.int .i64 0,.int .i64 0,.int .i64 0,.int .i64 0,.int .i64 0,.int .i64 0,.int .i64 0,.int .i64 0] 158)
 go_upto_region 2 with (refine wpList_store_row rfl 158 (.tmp 3) (.tmp 8) rfl w1.heap.size (amtA (keptF l.L f)) rfl rfl 158 _ x1 hi40 hs40 h1c ?_)
 have hset:Blk ((w1.alloc (.cells #[.int .i64 0,.int .i64 0,.int .i64 0,.int .i64 0,.int .i64 0,.int .i64 0,.int .i64 0,.int .i64 0,.int .i64 0,.int .i64 0,.int .i64 0,.int .i64 0,.int .i64 0,.int .i64 0,.int .i64 0,.int .i64 0,.int .i64 0,.int .i64 0,.int .i64 0,.int .i64 0,.int .i64 0,.int .i64 0,.int .i64 0,.int .i64 0,.int .i64 0,.int .i64 0,.int .i64 0,.int .i64 0,.int .i64 0,.int .i64 0,.int .i64 0,.int .i64 0,.int .i64 0,.int .i64 0,.int .i64 0,.int .i64 0,.int .i64 0,.int .i64 0,.int .i64 0,.int .i64 0] 158)).setRow w1.heap.size (amtA (keptF l.L f))) w1.heap.size 158 (amtA (keptF l.L f)):=setRow_heap _ w1.heap.size _ _ 158 (0,0) x1
 have hB2:=below_setRow hB1 (Nat.le_refl _) (amtA (keptF l.L f))
 clear x1 hB1 hi40 h1c hs40
 generalize (w1.alloc (.cells #[.int .i64 0,.int .i64 0,.int .i64 0,.int .i64 0,.int .i64 0,.int .i64 0,.int .i64 0,.int .i64 0,.int .i64 0,.int .i64 0,.int .i64 0,.int .i64 0,.int .i64 0,.int .i64 0,.int .i64 0,.int .i64 0,.int .i64 0,.int .i64 0,.int .i64 0,.int .i64 0,.int .i64 0,.int .i64 0,.int .i64 0,.int .i64 0,.int .i64 0,.int .i64 0,.int .i64 0,.int .i64 0,.int .i64 0,.int .i64 0,.int .i64 0,.int .i64 0,.int .i64 0,.int .i64 0,.int .i64 0,.int .i64 0,.int .i64 0,.int .i64 0,.int .i64 0,.int .i64 0] 158)).setRow w1.heap.size (amtA (keptF l.L f))=w2 at *
 have m2:=m1.call hB2
 have hB:=hb1.trans (hB2.mono hb1.size)
 have hx:AmtB w2 w1.heap.size (keptF l.L f):=hset
 clear hset hB2 m1 hb1 hk
 generalize w1.heap.size=kb at *
 obtain ⟨-, -,n2, -, -, -⟩:=m2.net.c6
 have hN40:l.N≤40:=by have:=g.forty; have:=g.nN; omega
 have hlen:l.left.length=(natL l.left).length:=by simp [natL]
 have h10:=g.la10
 simp only [Act.put]
 go_wp2
 go_loopw [4,15] (fun s i wr=>∃ k:Nat,k≤l.left.length∧i = .int .i64 k∧s = .int .i64 (lessTo l.L f (natL l.left) k)∧wr=w2) (fun _ i _=>l.left.length-(intOf i).toNat)
 case atStart=>exact ⟨0,Nat.zero_le _,rfl,rfl,rfl⟩
 case round =>
  obtain ⟨k,hkl,rfl,rfl,rfl⟩:=hrel
  by_cases hlt:k < l.left.length
  ·have d1:decide (k < l.left.length)=true:=decide_eq_true hlt
   have d1':decide ((k:Int) < (l.left.length:Int))=true:=decide_eq_true (by omega)
   have hki:(k:Int) < (l.left.length:Int):=by omega
   obtain ⟨b,off,x,rfl,hb,hx1,c0⟩:=numx_at m2.net.na.as_ hlt
   rw [g.left_int] at hx1
   obtain ⟨xn,hxn⟩:∃ xn,(natL l.left)[k]? = some xn:=⟨_,List.getElem?_eq_getElem (by omega)⟩
   rw [intL_at hxn] at hx1
   injection hx1 with hx1
   subst hx1
   have hxN:xn < l.N:=g.ltA (NL.mA.2 (List.mem_of_getElem? hxn))
   have hx40:xn < 40:=by omega
   have hxi:(xn:Int) < 40:=by omega
   have c1:=hx.at_ hx40
   have hst:=lessTo_step (L:=l.L) (f:=f) hxn
   have hb1:=lessTo_bound (ls:=natL l.left) hkb k
   have hb2:=hkb xn
   have w1:IntKind.i64.wrap (lessTo l.L f (natL l.left) k-keptF l.L f xn)=lessTo l.L f (natL l.left) (k+1):=by rw [hst]; exact wrap_id _ (by omega) (by omega)
   clear hst hb1 hb2 hxn
   go_wp2
   go_roundw
   case rel=>exact ⟨k+1,by omega,by go_num,by first | rfl | trivial,by first | rfl | trivial⟩
   case measure=>(simp [intOf]; try omega)
  ·obtain rfl:k=l.left.length:=by omega
   have d1:decide (l.left.length < l.left.length)=false:=by simp
   go_wp2
   go_ret
   exact ⟨by rw [hG.out,← hlen]; simp,hB⟩
end
end Go.Proofs.YtibmeigdjghkcaaGreat
namespace Go.Proofs.YtibmeigdjghkcaaGreat
open Go.RowKit Go.Shelf
set_option linter.unusedVariables false
set_option maxHeartbeats 1600000 in
theorem grow_ok (n:Nat) (h0:0 < n) (h1:n≤100000) (w:World) :
  Calls Tryz.prog 159 #[.slice none 0 0,.int .i64 (n:Int)] w fun r w'=>∃ v,r = .returned v∧w'.ownsRow w.heap.size 3 1 v 0 []∧Below w.heap.size w w':=by
 obtain ⟨hT1,hT2,hT3,hT4⟩:=slT_int
 obtain ⟨i0,hi,hz0,hz1,hz2⟩:=info_parts hT2
 have hr:=fun ty=>Lib.run_append_nil_zeros (P:=Tryz.prog) w 30 3 ty 3 i0 (.int .i64 0) .i64 .i64 hT1 Tryz.underlying3 hi hz0 n h0 (by omega) (by omega) (by rw [hz2]; omega)
 have hge:=grownCap_ge w n 0 3
 have hle:=grownCap_le_maxLen w n 0 3 (by simp only [maxLen]; omega)
 simp only [maxLen] at hle
 have hsz:(Builtin.zeroCells (Value.int .i64 0).cells n++Builtin.zeroCells (Value.int .i64 0).cells (grownCap w n 0 3-n)).size=grownCap w n 0 3:=by
  rw [Array.size_append,size_zeroCells,size_zeroCells,hT3]
  omega
 generalize Builtin.zeroCells (Value.int .i64 0).cells n++Builtin.zeroCells (Value.int .i64 0).cells (grownCap w n 0 3-n)=zs at *
 generalize grownCap w n 0 3=gc at *
 have hB:Below w.heap.size w (w.drew.alloc (.cells zs 3)):=((Below.refl w.heap.size w).drew).alloc (Nat.le_refl _) _
 have hX:Blk (w.drew.alloc (.cells zs 3)) w.heap.size 3 zs:=Blk.new w.drew 3 zs
 have d1:decide ((n:Int) < 0)=false:=decide_eq_false (by omega)
 have d2:decide ((0:Int) < (n:Int))=true:=decide_eq_true (by omega)
 have d2':decide (0 < n)=true:=decide_eq_true h0
 have w1:IntKind.i64.wrap (n:Int)=(n:Int):=by rw [IntKind.wrap_i64]; omega
 clear hi hz0 hz1 hz2 hT1 hT2 hT3 hT4
 go_enter Tryz.func159,Tryz.ntmps159
 go_wp2_with (at_builtin; refine Lib.wpList_append_run _ rfl _ _ _ _ rfl _ _ rfl rfl _ _ (hr _) ?_)
 go_ret
 refine ⟨_,rfl,⟨rfl,.inr ⟨w.heap.size,gc,zs,rfl,Nat.le_refl _,hX,Nat.zero_le _,by simp only [maxLen]; omega,by omega,by simp⟩⟩,hB⟩
def lenTo (ls:List (List Int)) (k:Nat):Nat:=(ls.take k).flatten.length
theorem lenTo_succ {ls:List (List Int)} {k:Nat} {l:List Int} (h:ls[k]? = some l):lenTo ls (k+1)=lenTo ls k+l.length:=by
 unfold lenTo
 rw [take_snoc h]
 simp
def flTo (ls:List (List Int)) (k:Nat):List Value:=(ls.take k).flatten.map (Value.int .i64)
theorem flTo_succ {ls:List (List Int)} {k:Nat} {l:List Int} (h:ls[k]? = some l):flTo ls (k+1)=flTo ls k++l.map (Value.int .i64):=by
 unfold flTo
 rw [take_snoc h]
 simp
theorem lenTo_le (ls:List (List Int)) (k:Nat):lenTo ls k≤ls.flatten.length:=by
 unfold lenTo
 have h:ls.flatten=(ls.take k).flatten++(ls.drop k).flatten:=by rw [← List.flatten_append,List.take_append_drop]
 rw [h,List.length_append]
 omega
set_option maxHeartbeats 1600000 in
theorem concat_ok (lv:Value) (ls:List (List Int)) (w:World) (hl:LLi w lv ls) (h0:0 < ls.flatten.length) (h1:ls.flatten.length≤100000) :
  Calls Tryz.prog 80 #[lv] w fun r w'=>∃ v,r = .returned v∧w'.ownsRow w.heap.size 3 1 v ls.flatten.length (ls.flatten.map (Value.int .i64))∧Below w.heap.size w w':=by
 obtain ⟨A,cap,rfl,hcl,hcm⟩:=hl.form
 go_enter Tryz.func80,Tryz.ntmps80
 go_wp2
 go_loop [3,11] (fun n i=>∃ k:Nat,k≤ls.length∧i = .int .i64 k∧n = .int .i64 (lenTo ls k:Int)) (fun _ i=>ls.length-(intOf i).toNat)
 case atStart=>exact ⟨0,Nat.zero_le _,rfl,rfl⟩
 case round =>
  obtain ⟨k,hk,rfl,rfl⟩:=hrel
  by_cases hlt:k < ls.length
  ·have d1:decide (k < ls.length)=true:=decide_eq_true hlt
   have d1':decide ((k:Int) < (ls.length:Int))=true:=decide_eq_true (by omega)
   have hki:(k:Int) < (ls.length:Int):=by omega
   obtain ⟨b,off,lA,lc,rfl,hb,hc,harr⟩:=hl.at_ (List.getElem?_eq_getElem hlt)
   have hst:=lenTo_succ (List.getElem?_eq_getElem hlt)
   have hle:=lenTo_le ls (k+1)
   generalize ls[k]=l at *
   have hw1:IntKind.i64.wrap ((lenTo ls k:Int)+(l.length:Int))=(lenTo ls k:Int)+(l.length:Int):=wrap_id _ (by omega) (by omega)
   have d2:decide ((lenTo ls k:Int)+(l.length:Int) < 0)=false:=decide_eq_false (by omega)
   have HST:=Lib.hid hst
   clear hst hle harr
   go_wp2
   go_round
   case rel=>exact ⟨k+1,by omega,by go_num,by rw [HST.out]; simp⟩
   case measure=>(simp [intOf]; try omega)
  ·obtain rfl:k=ls.length:=by omega
   have d1:decide (ls.length < ls.length)=false:=by simp
   have hlf:lenTo ls ls.length=ls.flatten.length:=by unfold lenTo; rw [List.take_length]
   rw [hlf]
   clear hlf
   obtain ⟨tot,htot⟩:∃ tot,tot=ls.flatten.length:=⟨_,rfl⟩
   rw [← htot] at h0 h1
   rw [← htot]
   have HTOT:=Lib.hid htot
   have hgo:=grow_ok tot h0 h1 w
   have d5:decide ((tot:Int) < 0)=false:=decide_eq_false (by omega)
   clear htot
   go_upto_region 9 with (fail)
   go_wp2_with fail
   refine hgo.mono ?_
   intro e w1 hpost
   obtain ⟨v0,he,hown,hb1⟩:=hpost
   subst he
   obtain ⟨gA,gc,hv0⟩:=own_form hown
   subst hv0
   clear hgo d1
   go_wp2
   go_loopw [6,27] (fun v i wr=>∃ k:Nat,k≤ls.length∧i = .int .i64 k∧wr.ownsRow w.heap.size 3 1 v (lenTo ls k) (flTo ls k)∧Below w.heap.size w wr) (fun _ i _=>ls.length-(intOf i).toNat)
   case atStart=>exact ⟨0,Nat.zero_le _,rfl,hown,hb1⟩
   case round =>
    clear hown hb1
    obtain ⟨k,hk,rfl,hown,hb1⟩:=hrel
    by_cases hlt:k < ls.length
    ·have d1:decide (k < ls.length)=true:=decide_eq_true hlt
     have d1':decide ((k:Int) < (ls.length:Int))=true:=decide_eq_true (by omega)
     have hki:(k:Int) < (ls.length:Int):=by omega
     obtain ⟨b,off,lA,lc,rfl,hb,hc,harr⟩:=hl.at_ (List.getElem?_eq_getElem hlt)
     have hst:=lenTo_succ (List.getElem?_eq_getElem hlt)
     have hle:=lenTo_le ls (k+1)
     have htk:=flTo_succ (List.getElem?_eq_getElem hlt)
     generalize ls[k]=l at *
     replace hc:=(hb1.cell (p:=⟨b,off+k,none⟩) hb).trans hc
     have harr1:=harr.below hb1
     have HST:=Lib.hid hst
     have HTK:=Lib.hid htk
     have HTT:=HTOT.out
     have hsz:=hb1.size
     have hone:∀ u∈l.flatMap (cellsOf 1 icell),u.oneCell'=true:=by
      rw [flat_int]
      intro u hu
      obtain ⟨x, -,rfl⟩:=List.mem_map.1 hu
      rfl
     have hlb:lenTo ls k+l.length≤1048576:=by omega
     clear hst hle harr htk HTT
     obtain ⟨vA,vc,rfl⟩:=own_form hown
     go_wp2_with (at_builtin; refine wpList_appArr slT_int rfl (.tmp 31) (.tmp 32) rfl rfl hown rfl harr1 hone hsz hlb (by omega) ?_)
     intro v4 w4 hown4 hb4 hg4
     rw [flat_int,← HTK.out,← HST.out] at hown4
     have hb5:Below w.heap.size w w4:=hb1.trans hb4
     obtain ⟨A4,c4,rfl⟩:=own_form hown4
     clear hown hb1 hb4 hg4 harr1 hc hone hlb
     go_wp2
     go_roundw
     case rel=>exact ⟨k+1,by omega,by go_num,hown4,hb5⟩
     case measure=>(simp [intOf]; try omega)
    ·obtain rfl:k=ls.length:=by omega
     have d1:decide (ls.length < ls.length)=false:=by simp
     have hlf:lenTo ls ls.length=ls.flatten.length:=by unfold lenTo; rw [List.take_length]
     rw [hlf] at hown
     have hfl:flTo ls ls.length=ls.flatten.map (Value.int .i64):=by unfold flTo; rw [List.take_length]
     rw [hfl] at hown
     clear hfl
     obtain ⟨vA,vc,rfl⟩:=own_form hown
     clear hlf
     go_wp2
     go_ret
     exact ⟨_,rfl,hown,hb1⟩
end Go.Proofs.YtibmeigdjghkcaaGreat
