/- Contract: reach. -/
import Derived.Test.YtibmeigdjghkcaaGreatQue
namespace Go.Proofs.YtibmeigdjghkcaaGreat
open Go.RowKit Go.Shelf
set_option linter.unusedVariables false
theorem slT_way:SlT 127 131 3 24 (.agg #[.int .i64 0,.int .i64 0,.int .i64 0]):=⟨Tryz.underlying127,by kernel_rfl,rfl,by omega⟩
theorem made_three (v:Value) (n:Nat):madeCells #[v,v,v] n=rowA n fun _=>v:=by
 apply Array.ext_getElem?
 intro j
 by_cases hj:j < n
 ·rw [rowA_get hj]
  unfold madeCells
  rw [Array.getElem?_map,Array.getElem?_range,if_pos hj]
  have:j % 3 < 3:=Nat.mod_lt _ (by omega)
  rcases (by omega:j % 3=0∨j % 3=1∨j % 3=2) with e | e | e <;> simp [e]
 ·rw [Array.getElem?_eq_none (by rw [size_madeCells]; omega),Array.getElem?_eq_none (by rw [rowA_size]; omega)]
theorem WayB.new (w:World) (n:Nat):WayB (w.alloc (.cells (madeCells #[.int .i64 0,.int .i64 0,.int .i64 0] (n * 3)) 131)) w.heap.size n fun _=>none:=by
 have:=Blk.new w 131 (madeCells #[.int .i64 0,.int .i64 0,.int .i64 0] (n * 3))
 have e:rowA (n * 3) (wayCell fun _=>none)=rowA (n * 3) fun _ => .int .i64 0:=rowA_congr fun i _=>by simp [wayCell,wayF,wayT,wayL]
 unfold WayB
 rw [e,← made_three]
 exact this
theorem grown_putWay {W:World} {ob a b c:Nat} (x y z:Value):W.grownBy (((W.setCell ⟨ob,a,none⟩ x).setCell ⟨ob,b,none⟩ y).setCell ⟨ob,c,none⟩ z) (some ob):=grown_trans' (grown_trans' (grown_setCell x) (grown_setCell y)) (grown_setCell z)
structure RchI (W0 W:World) (B G:Nat) (l:NL) (ka:Option Addr) (kc:Nat) (aa:Option Addr) (ac:Nat) (ba:Option Addr) (bc:Nat) (da:Option Addr) (dc:Nat) (drop:List Int) (fb:Nat) (f:Nat→Int) (h:Nat→Nat) (fn:FuncId) (s:Nat) (o:Ord1) (qv:Value) (q:List Nat):Prop where
 net:NetF W B G l ka kc aa ac ba bc da dc drop fb f h
 bl:Below s W0 W
 fx:Blk W s 129 #[.func (.func fn) #[.pointer (some ⟨G,0,none⟩)] #[]]
 row:WayB W (s+1) l.N (found o)
 ox:Blk W (s+2) 127 #[.slice (some ⟨s+1,0,none⟩) l.N l.N]
 wx:Blk W (s+3) 30 #[qv]
 que:QRow W (s+4) qv (intL q)
 lo:G < s∧fb < s∧B≤s
section
variable {W0 W W':World} {B G:Nat} {l:NL} {ka aa ba da:Option Addr} {kc ac bc dc:Nat} {drop:List Int} {fb:Nat} {f:Nat→Int} {h:Nat→Nat} {fn:FuncId} {s:Nat} {o:Ord1} {qv:Value} {q:List Nat}
theorem RchI.grown (r:RchI W0 W B G l ka kc aa ac ba bc da dc drop fb f h fn s o qv q) {row:Option Nat} (hg:W.grownBy W' row) (hr:∀ ρ,row=some ρ→s+4≤ρ∧qv.ownBlock≠some ρ):RchI W0 W' B G l ka kc aa ac ba bc da dc drop fb f h fn s o qv q:=by
 have h1:=r.lo
 have h2:=r.wx.lt
 exact ⟨r.net.grown hg fun ρ e=>by have:=hr ρ e; omega,⟨hg.os.trans r.bl.os,hg.tape.trans r.bl.tape,hg.output.trans r.bl.output,Nat.le_trans r.bl.size hg.size,fun k hk=>(hg.block k (by omega) fun e=>by have:=hr k e.symm; omega).trans (r.bl.block k hk)⟩,
  r.fx.grown hg fun e=>by have:=hr _ e.symm; omega,Blk.grown r.row hg fun e=>by have:=hr _ e.symm; omega,r.ox.grown hg fun e=>by have:=hr _ e.symm; omega,r.wx.grown hg fun e=>by have:=hr _ e.symm; omega,r.que.grown hg fun ρ e=>(hr ρ e).2,h1⟩
theorem RchI.call (r:RchI W0 W B G l ka kc aa ac ba bc da dc drop fb f h fn s o qv q) (hb:Below W.heap.size W W'):RchI W0 W' B G l ka kc aa ac ba bc da dc drop fb f h fn s o qv q :=
 r.grown (grown_call hb none) fun ρ e=>by cases e
theorem RchI.put (r:RchI W0 W B G l ka kc aa ac ba bc da dc drop fb f h fn s o qv q) {v:Nat} {x:Option (Nat×Nat)} (hv:v∉o.map (·.1)) :
  RchI W0 (((W.setCell ⟨s+1,v * 3,none⟩ (.int .i64 (wayF v (some x)))).setCell ⟨s+1,v * 3+1,none⟩ (.int .i64 (wayT v (some x)))).setCell ⟨s+1,v * 3+2,none⟩ (.int .i64 (wayL v (some x)))) B G l ka kc aa ac ba bc da dc drop fb f h fn s (o++[(v,x)]) qv q:=by
 have h1:=r.lo
 have hg:W.grownBy (((W.setCell ⟨s+1,v * 3,none⟩ (.int .i64 (wayF v (some x)))).setCell ⟨s+1,v * 3+1,none⟩ (.int .i64 (wayT v (some x)))).setCell ⟨s+1,v * 3+2,none⟩ (.int .i64 (wayL v (some x)))) (some (s+1)):=grown_putWay _ _ _
 have h2:=r.wx.lt
 refine ⟨r.net.grown hg fun ρ e=>by injection e; omega,⟨hg.os.trans r.bl.os,hg.tape.trans r.bl.tape,hg.output.trans r.bl.output,Nat.le_trans r.bl.size hg.size,fun k hk=>(hg.block k (by omega) fun e=>by injection e; omega).trans (r.bl.block k hk)⟩,
  r.fx.grown hg fun e=>by injection e; omega,r.row.put (some x) fun u _=>found_snoc hv u,r.ox.grown hg fun e=>by injection e; omega,r.wx.grown hg fun e=>by injection e; omega,r.que.grown hg fun ρ e e2=>?_,h1⟩
 injection e with e
 have:=(r.que.lt e2).1
 omega
theorem RchI.wait (r:RchI W0 W B G l ka kc aa ac ba bc da dc drop fb f h fn s o qv q) {qv':Value} {q':List Nat} (hq:QRow W (s+4) qv' (intL q')):RchI W0 (W.setCell ⟨s+3,0,none⟩ qv') B G l ka kc aa ac ba bc da dc drop fb f h fn s o qv' q':=by
 have h1:=r.lo
 have hg:W.grownBy (W.setCell ⟨s+3,0,none⟩ qv') (some (s+3)):=grown_setCell _
 have h2:=r.wx.lt
 refine ⟨r.net.grown hg fun ρ e=>by injection e; omega,⟨hg.os.trans r.bl.os,hg.tape.trans r.bl.tape,hg.output.trans r.bl.output,Nat.le_trans r.bl.size hg.size,fun k hk=>(hg.block k (by omega) fun e=>by injection e; omega).trans (r.bl.block k hk)⟩,
  r.fx.grown hg fun e=>by injection e; omega,Blk.grown r.row hg fun e=>by injection e; omega,r.ox.grown hg fun e=>by injection e; omega,by simpa using r.wx.set_ 0 qv',hq.grown hg fun ρ e e2=>?_,h1⟩
 injection e with e
 have:=(hq.lt e2).1
 omega
theorem RchI.grew (r:RchI W0 W B G l ka kc aa ac ba bc da dc drop fb f h fn s o qv q) (hg:W.grownBy W' qv.ownBlock) {qv':Value} {q':List Nat} (hq:QRow W' (s+4) qv' (intL q')):RchI W0 (W'.setCell ⟨s+3,0,none⟩ qv') B G l ka kc aa ac ba bc da dc drop fb f h fn s o qv' q':=by
 have h1:=r.lo
 have h2:=r.wx.lt
 have hr:∀ ρ,qv.ownBlock=some ρ→s+4≤ρ:=fun ρ e=>(r.que.lt e).1
 have hg2:W'.grownBy (W'.setCell ⟨s+3,0,none⟩ qv') (some (s+3)):=grown_setCell _
 have hbl:∀ k,k < s+3→(W'.setCell ⟨s+3,0,none⟩ qv').heap[k]? = W.heap[k]? := fun k hk=>(hg2.block k (by have:=hg.size; omega) fun e=>by injection e; omega).trans (hg.block k (by omega) fun e=>by have:=hr k e.symm; omega)
 have hsz:=hg.size
 have hsz2:=hg2.size
 refine ⟨⟨r.net.net.keep fun k hk=>hbl k (by omega),(hbl _ (by omega)).trans r.net.flow,r.net.lo⟩,⟨hg2.os.trans (hg.os.trans r.bl.os),hg2.tape.trans (hg.tape.trans r.bl.tape),hg2.output.trans (hg.output.trans r.bl.output),by have:=r.bl.size; omega,fun k hk=>(hbl k (by omega)).trans (r.bl.block k hk)⟩,
  (hbl _ (by omega)).trans r.fx,(hbl _ (by omega)).trans r.row,(hbl _ (by omega)).trans r.ox,?_,hq.grown hg2 fun ρ e e2=>?_,h1⟩
 ·have hw:Blk W' (s+3) 30 #[qv]:=r.wx.grown hg fun e=>by have:=hr _ e.symm; omega
  simpa using hw.set_ 0 qv'
 ·injection e with e
  have:=(hq.lt e2).1
  omega
end
theorem eq_way (a b c d e f:Int) (w:World):(Op.equalIn 10000 131 (.agg #[.int .i64 a,.int .i64 b,.int .i64 c]) (.agg #[.int .i64 d,.int .i64 e,.int .i64 f])).run Tryz.prog w = .ok (a==d&&(b==e&&c==f)) w:=by
 show (Op.equalIn (9999+1) 131 _ _).run _ _=_
 rw [run_equalIn_struct w 9999 131 _ _ (by kernel_rfl) (by kernel_rfl)]
 cases h:(a==d)
 ·simp [Op.eqFields,go_sem,h]
 ·cases h2:(b==e)
  ·simp [Op.eqFields,go_sem,h,h2]
  ·cases h3:(c==f) <;> simp [Op.eqFields,go_sem,h,h2,h3]
theorem way_none {N:Nat} {L:List Lk} {drop:List Nat} {p:Pass} {src:List Nat} {o:Ord1} {q k:Nat} {ws:List (Nat×Nat)} (hN:Net N L) (b:Bfs N L drop p src o q ws k) (v:Nat) :
  (wayF v (found o v)==0&&(wayT v (found o v)==0&&wayL v (found o v)==0))=!decide (v∈o.map (·.1)):=by
 by_cases hv:v∈o.map (·.1)
 ·rw [decide_eq_true hv]
  obtain ⟨x,hx⟩:=found_mem hv
  obtain ⟨a,c,hac⟩:=List.append_of_mem (found_some hx)
  have hp:=b.par a c v x hac
  rw [hx]
  cases x with
  | none=>simp [wayL]
  | some y =>
    obtain ⟨u,i⟩:=y
    have hne:=way_ne hN ((mem_waysL hN).1 hp.1).1
    simp only [wayF,wayT,wayL,Bool.not_true,Bool.and_eq_false_iff,beq_eq_false_iff_ne]
    omega
 ·rw [decide_eq_false hv,found_none.2 hv]
  rfl
def ReaIn (W0:World) (B G:Nat) (l:NL) (ka:Option Addr) (kc:Nat) (aa:Option Addr) (ac:Nat) (ba:Option Addr) (bc:Nat) (da:Option Addr) (dc:Nat) (drop:List Int) (fb:Nat) (f:Nat→Int) (h:Nat→Nat) (fn:FuncId) (p:Pass) (src:List Nat) (q k1:Nat) (kw:Option (Nat×Nat)) (b1 T:Nat) (ds:List Deferred) (pre:List (Nat×Nat)) (W:World):Prop :=
 Marks (W0.heap.size+4) T W ds∧b1+2≤W.heap.size∧∃ (o:Ord1) (qv:Value),Bfs l.N l.L (natL drop) p src o q pre k1∧RchI W0 W B G l ka kc aa ac ba bc da dc drop fb f h fn W0.heap.size o qv ((o.drop (q+1)).map (·.1))∧o[q]? = some (k1,kw)∧∀ r,qv.ownBlock=some r→r≠b1∧r≠b1+1
theorem ReaIn.grown {W0 W W':World} {B G:Nat} {l:NL} {ka aa ba da:Option Addr} {kc ac bc dc:Nat} {drop:List Int} {fb:Nat} {f:Nat→Int} {h:Nat→Nat} {fn:FuncId} {p:Pass} {src:List Nat} {q k1:Nat} {kw:Option (Nat×Nat)} {b1 T:Nat} {ds:List Deferred} {pre:List (Nat×Nat)}
  (r:ReaIn W0 B G l ka kc aa ac ba bc da dc drop fb f h fn p src q k1 kw b1 T ds pre W) {row:Option Nat} (hg:W.grownBy W' row) (hT:T≤b1) (hr:∀ ρ,row=some ρ→b1+2≤ρ∧W0.heap.size+4≤ρ∧∃ o:Obj,W.heap[ρ]? = some o∧o.isCells=false):ReaIn W0 B G l ka kc aa ac ba bc da dc drop fb f h fn p src q k1 kw b1 T ds pre W':=by
 obtain ⟨h1,h2,o,qv,h3,h4,h5,h6⟩:=r
 refine ⟨h1.grown hg fun ρ e => .inl (by have:=(hr ρ e).1; omega),Nat.le_trans h2 hg.size,o,qv,h3,h4.grown hg fun ρ e=>⟨(hr ρ e).2.1,fun e2=>?_⟩,h5,h6⟩
 obtain ⟨-, -,ob,ho,hc⟩:=hr ρ e
 obtain ⟨cs,hcs⟩:=h4.que.cells e2
 rw [hcs] at ho
 injection ho with ho
 subst ho
 simp [Obj.isCells] at hc
def WayAx (tm:Array Value) (s1 s2 base u:Nat) (x:Nat×Nat) (a':Act) (W:World):Prop :=
 ∃ Bx,base≤Bx∧Blk W Bx 131 #[.int .i64 (u:Int),.int .i64 (x.1:Int),.int .i64 (x.2:Int)]∧a'={ tmps:=(tm.setIfInBounds s1 (.agg #[.int .i64 (u:Int),.int .i64 (x.1:Int),.int .i64 (x.2:Int)])).setIfInBounds s2 (.pointer (some ⟨Bx,0,none⟩)),defers:=[] }
theorem WayAx.own {tm:Array Value} {s1 s2 base u B:Nat}:∀ (x:Nat×Nat) (a':Act),OwnFrom B (fun (_:Unit) W=>WayAx tm s1 s2 base u x a' W):=by
 rintro x a' _ W W' row ⟨Bx,h1,h2,h3⟩ hg hr
 refine ⟨Bx,h1,h2.grown hg ?_,h3⟩
 intro e
 obtain ⟨_,o,ho,hc⟩:=hr Bx e.symm
 rw [h2] at ho
 injection ho with ho
 subst ho
 simp [Obj.isCells] at hc
theorem KeepN.trans {B G b1 b2:Nat} {X Y Z:World} (h:KeepN B G b1 b2 X Y) (k:KeepN B G b1 b2 Y Z):KeepN B G b1 b2 X Z:=fun i hi=>(k i hi).trans (h i hi)
theorem KeepN.of_grown {B G b1 b2:Nat} {W W':World} {row:Option Nat} (hg:W.grownBy W' row) (hl:B≤W.heap.size∧G < W.heap.size∧b1 < W.heap.size∧b2 < W.heap.size) (hr:∀ r,row=some r→B≤r∧r≠G∧r≠b1∧r≠b2):KeepN B G b1 b2 W W' :=
 fun k hk=>hg.block k (by omega) fun e=>by have:=hr k e.symm; omega
theorem keepsFrom_cells {W W':World} {base:Nat} {row:Option Nat} (hg:W.grownBy W' row) (hr:∀ r,row=some r→r < base∨∃ cs t f,W.heap[r]? = some (.cells cs t f)):KeepsFrom base W W' :=
 ⟨hg.size,fun k o hB hk ho=>(hg.block k (heap_lt hk) fun e=>by
  rcases hr k e.symm with q | ⟨cs,t,f,q⟩
  ·omega
  ·rw [hk] at q
   injection q with q
   subst q
   simp [Obj.isCells] at ho).trans hk⟩
attribute [local go_sem] Oper.semAt_some
set_option maxRecDepth 100000 in
set_option maxHeartbeats 1600000 in
theorem reach_ok {W0:World} {B G:Nat} {l:NL} {ka aa ba da:Option Addr} {kc ac bc dc:Nat} {drop:List Int} {fb:Nat} {f:Nat→Int} {h:Nat→Nat} (m:NetF W0 B G l ka kc aa ac ba bc da dc drop fb f h) (g:Good l) (hd:∀ x∈drop,0≤x)
  (src:List Nat) (sv:Value) (hsv:Arr W0 W0.heap.size 1 sv (intL src) icell) (hnd:src.Nodup) (hlt:∀ u∈src,u < l.N) (fn:FuncId) (p:Pass)
  (eg:∀ args w,(callFunc fn args).run Tryz.prog w = .ok (.enter fn args) w)
  (hcall:∀ (u v i:Nat) (w1:World),(v,i)∈waysL l.L (natL drop) u→NetF w1 B G l ka kc aa ac ba bc da dc drop fb f h→Calls Tryz.prog fn #[.pointer (some ⟨G,0,none⟩),.agg #[.int .i64 (u:Int),.int .i64 (v:Int),.int .i64 (i:Int)]] w1 fun e w2=>(∃ y,e = .returned (.int .i64 y)∧decide (0 < y)=p u v i)∧Below w1.heap.size w1 w2) :
  Calls Tryz.prog 54 #[.pointer (some ⟨G,0,none⟩),sv,.func (.func fn) #[.pointer (some ⟨G,0,none⟩)] #[]] W0 fun r w'=>∃ (ob:Nat) (o:Ord1) (ws:List (Nat×Nat)) (k:Nat),r = .returned (.slice (some ⟨ob,0,none⟩) l.N l.N)∧WayB w' ob l.N (found o)∧W0.heap.size≤ob∧Bfs l.N l.L (natL drop) p src o o.length ws k∧Below W0.heap.size W0 w':=by
 obtain ⟨A,c,rfl,hc1,hc2,hc3⟩:=hsv
 have hnN:(l.N:Int)=l.n:=g.nN
 have hN40:l.N≤40:=by have:=g.forty; omega
 have hsl:(intL src).length=src.length:=by simp [intL]
 rw [hsl]
 refine (callsIn_wide (n:=8)).1 ?_
 refine callsIn_of_wp_marks Tryz.func54 rfl trivial ?_ rfl
 simp only [Tryz.ntmps54,List.size_toArray,List.length_cons,List.length_nil,Nat.reduceAdd,Nat.reduceSub,Array.replicate_succ,Array.replicate_zero,List.push_toArray,List.append_toArray,List.nil_append,List.cons_append]
 refine wpIn_wide.2 ?_
 go_upto_region 1 with (fail)
 have b1:=(Below.refl W0.heap.size W0).alloc (Nat.le_refl _) (.cells #[.func (.func fn) #[.pointer (some ⟨G,0,none⟩)] #[]] 129)
 have x1:=Blk.new W0 129 #[.func (.func fn) #[.pointer (some ⟨G,0,none⟩)] #[]]
 have z1:(W0.alloc (.cells #[.func (.func fn) #[.pointer (some ⟨G,0,none⟩)] #[]] 129)).heap.size=W0.heap.size+1:=by simp
 have m1:=m.call b1
 generalize W0.alloc (.cells #[.func (.func fn) #[.pointer (some ⟨G,0,none⟩)] #[]] 129)=W1 at *
 obtain ⟨n0, -⟩:=m1.net.c6
 rw [← hnN] at n0
 have HNN:=Lib.hid hnN
 clear hnN
 have hmk:=run_mk slT_way l.N (by omega) (by omega)
 go_upto_region 2 with (fail)
 have hrow:=WayB.new W1 l.N
 have b2:=(Below.refl W1.heap.size W1).alloc (Nat.le_refl _) (.cells (madeCells #[.int .i64 0,.int .i64 0,.int .i64 0] (l.N * 3)) 131)
 have z2:(W1.alloc (.cells (madeCells #[.int .i64 0,.int .i64 0,.int .i64 0] (l.N * 3)) 131)).heap.size=W0.heap.size+2:=by simp [z1]
 rw [z1] at hrow
 have x1b:=x1.call b2
 have m2:=m1.call b2
 have hbl2:=b1.trans (b2.mono b1.size)
 clear b1 b2 x1 m1 hmk z1 n0
 generalize W1.alloc (.cells (madeCells #[.int .i64 0,.int .i64 0,.int .i64 0] (l.N * 3)) 131)=W2 at *
 have x3:=Blk.new W2 127 #[.slice (some ⟨W0.heap.size+1,0,none⟩) l.N l.N]
 have b3:=(Below.refl W2.heap.size W2).alloc (Nat.le_refl _) (.cells #[.slice (some ⟨W0.heap.size+1,0,none⟩) l.N l.N] 127)
 have z3:(W2.alloc (.cells #[.slice (some ⟨W0.heap.size+1,0,none⟩) l.N l.N] 127)).heap.size=W0.heap.size+3:=by simp [z2]
 rw [z2] at x3
 have hr3:WayB (W2.alloc (.cells #[.slice (some ⟨W0.heap.size+1,0,none⟩) l.N l.N] 127)) (W0.heap.size+1) l.N fun _=>none:=Blk.call hrow b3
 have x1c:=x1b.call b3
 have m3:=m2.call b3
 have hbl3:=hbl2.trans (b3.mono (by omega))
 clear b3 x1b m2 hrow hbl2 z2
 generalize W2.alloc (.cells #[.slice (some ⟨W0.heap.size+1,0,none⟩) l.N l.N] 127)=W3 at *
 go_upto_region 3 with (fail)
 have x4:=Blk.new W3 30 #[.slice none 0 0]
 have b4:=(Below.refl W3.heap.size W3).alloc (Nat.le_refl _) (.cells #[.slice none 0 0] 30)
 have z4:(W3.alloc (.cells #[.slice none 0 0] 30)).heap.size=W0.heap.size+4:=by simp [z3]
 rw [z3] at x4
 have hr4:WayB (W3.alloc (.cells #[.slice none 0 0] 30)) (W0.heap.size+1) l.N (found []):=Blk.call hr3 b4
 have hI:RchI W0 (W3.alloc (.cells #[.slice none 0 0] 30)) B G l ka kc aa ac ba bc da dc drop fb f h fn W0.heap.size [] (.slice none 0 0) [] :=
  ⟨m3.call b4,hbl3.trans (b4.mono (by omega)),x1c.call b4,hr4,x3.call b4,x4,.inl ⟨rfl,rfl⟩,m.lt.1,m.lt.2,by have:=m.net.le; have:=m.lt.1; omega⟩
 clear x1c m3 x3 x4 b4 hr3 hr4 hbl3 z3
 have hsz:W0.heap.size+4≤(W3.alloc (.cells #[.slice none 0 0] 30)).heap.size:=by omega
 generalize W3.alloc (.cells #[.slice none 0 0] 30)=W4 at *
 clear z4
 rw [show W0.heap.size+1+1=W0.heap.size+2 from rfl]
 go_wp2
 go_loopw [21] (fun i wr=>∃ (k:Nat) (qv:Value),k≤src.length∧i = .int .i64 k∧RchI W0 wr B G l ka kc aa ac ba bc da dc drop fb f h fn W0.heap.size ((src.take k).map fun u=>(u,none)) qv (src.take k)) (fun i _=>src.length-(intOf i).toNat)
 case atStart=>exact ⟨0,.slice none 0 0,Nat.zero_le _,rfl,by simpa using hI⟩
 case round =>
  obtain ⟨k,qv,hk,rfl,hr⟩:=hrel
  by_cases hkl:k < src.length
  ·have d1:decide (k < src.length)=true:=decide_eq_true hkl
   have d1':decide ((k:Int) < (src.length:Int))=true:=decide_eq_true (by omega)
   have hki:(k:Int) < (src.length:Int):=by omega
   obtain ⟨b,off,rfl,hb,hcc⟩:=hc3 (by omega)
   obtain ⟨x,hx⟩:∃ x,src[k]? = some x:=⟨_,List.getElem?_eq_getElem hkl⟩
   have hxl:=hlt x (List.mem_of_getElem? hx)
   have hxi:(x:Int) < (l.N:Int):=by omega
   have c0:=hcc k x (intL_at hx) 0 (by omega)
   simp only [Nat.mul_one,Nat.add_zero,icell] at c0
   have c1:=(hr.bl.cell (p:=⟨b,off+k,none⟩) hb).trans c0
   clear hcc hc3 c0
   have o0:=hr.ox.cell 0
   have q0:=hr.wx.cell 0
   simp at o0 q0
   have hx3:x < l.N:=hxl
   have r0:=Blk.frozen hr.row (x * 3)
   have r1:=Blk.frozen hr.row (x * 3+1)
   have r2:=Blk.frozen hr.row (x * 3+2)
   obtain ⟨s0,s1,s2⟩:=WayB.at_ hr.row hxl
   go_upto_region 7 with (fail)
   have hTK:Hid (src.take (k+1)=src.take k++[x]):=take_snoc hx
   have hxn:x∉((src.take k).map fun u=>((u,none):Nat×Option (Nat×Nat))).map (·.1):=by
    rw [List.map_map]
    intro hm
    have hm2:x∈src.take k:=by simpa [Function.comp_def] using hm
    have hn2:(src.take (k+1)).Nodup:=hnd.sublist (List.take_sublist _ _)
    rw [hTK.out,List.nodup_append] at hn2
    exact hn2.2.2 x hm2 x (by simp) rfl
   have hr2:=hr.put (x:=none) hxn
   simp only [wayF,wayT,wayL] at hr2
   have hsz2:=hr.wx.lt
   clear r0 r1 r2 s0 s1 s2 o0 q0 c1 hr hxn
   generalize ((wr.setCell ⟨W0.heap.size+1,x * 3,none⟩ (.int .i64 (x:Int))).setCell ⟨W0.heap.size+1,x * 3+1,none⟩ (.int .i64 (x:Int))).setCell ⟨W0.heap.size+1,x * 3+2,none⟩ (.int .i64 (-1))=w2 at *
   have q0:=hr2.wx.cell 0
   simp at q0
   have hql:(intL (src.take k)).length≤40:=by
    have h1:(src.take k).length≤l.N:=nodup_len (hnd.sublist (List.take_sublist _ _)) (fun u hu=>hlt u (List.mem_of_mem_take hu))
    simp only [intL,List.length_map]
    omega
   have hsz3:=hr2.wx.lt
   go_wp2_with (at_builtin; refine wpList_appQ rfl (.tmp 31) (.tmp 33) rfl rfl hr2.que rfl (by omega) (by omega) ?_)
   intro v3 w3 hq3 hg3 hat3
   obtain ⟨vA,vc,rfl, -⟩:=hq3.form
   generalize (intL (src.take k)++[(x:Int)]).length=vn at *
   have w0:Blk w3 (W0.heap.size+3) 30 #[qv]:=hr2.wx.grown hg3 fun e=>by have:=(hr2.que.lt e.symm).1; omega
   have q1:=w0.cell 0
   have q2:=w0.frozen 0
   simp at q1
   have hq4:QRow w3 (W0.heap.size+4) (.slice vA vn vc) (intL (src.take (k+1))):=by rw [hTK.out,intL_append]; exact hq3
   have hr4:=hr2.grew hg3 hq4
   have hTM:Hid ((src.take (k+1)).map (fun u=>((u,none):Nat×Option (Nat×Nat)))=(src.take k).map (fun u=>((u,none):Nat×Option (Nat×Nat)))++[(x,none)]):=by rw [Hid,hTK.out,List.map_append]; rfl
   clear hr2 hq3 hg3 hat3 hq4 q0
   go_wp2
   go_roundw
   case rel=>exact ⟨k+1,_,by omega,by go_num,by rw [hTM.out]; exact hr4⟩
   case measure=>(simp [intOf]; try omega)
  ·obtain rfl:k=src.length:=by omega
   have d1:decide (src.length < src.length)=false:=by simp
   rw [List.take_length] at hr
   have hbf:=Bfs.start (N:=l.N) (L:=l.L) (drop:=natL drop) (p:=p) hnd hlt 0
   have HO0:Hid ((src.map (fun u=>((u,none):Nat×Option (Nat×Nat)))).map (·.1)=src):=by rw [Hid,List.map_map]; exact (List.map_congr_left fun _ _=>rfl).trans (List.map_id _)
   generalize src.map (fun u=>((u,none):Nat×Option (Nat×Nat)))=o0 at *
   go_wp2
   refine wp_loop_ghost_k (fun (gk:Nat) (a':Act) (w':World)=>∃ (u11 u12 u36 u37 u38 u39 u40 u41 u42 u43 u44 u45 u46 u47 u48 u49 u50 u51 u52 u53 u54 u55 u56 u57 u58 u59 u60 u61 u62 u63 u64 u65 u66 u67 u68 u69 u70:Value) (o:Ord1) (qv:Value) (q k T:Nat) (ds:List Deferred),
    (gk=l.N-q∧q≤o.length∧T≤w'.heap.size∧W0.heap.size+4≤T∧Marks (W0.heap.size+4) T w' ds∧Bfs l.N l.L (natL drop) p src o q [] k∧RchI W0 w' B G l ka kc aa ac ba bc da dc drop fb f h fn W0.heap.size o qv ((o.drop q).map (·.1))) ∧
    a'={ tmps:=#[.pointer (some ⟨G,0,none⟩),.slice A src.length c,.func (.func fn) #[.pointer (some ⟨G,0,none⟩)] #[],undef,undef,.pointer (some ⟨W0.heap.size,0,none⟩),.slice none 0 0,.pointer (some ⟨W0.heap.size+2,0,none⟩),.pointer (some ⟨W0.heap.size+3,0,none⟩),undef,u10,u11,u12,.pointer (some ⟨G,0,none⟩),.pointer (some ⟨G,0,none⟩),.pointer (some ⟨G,0,none⟩),.pointer (some ⟨G,0,none⟩),.int .i64 (l.N:Int),.slice (some ⟨W0.heap.size+1,0,none⟩) l.N l.N,.slice A src.length c,.int .i64 (src.length:Int),.int .i64 (src.length:Int),.bool false,u23,u24,u25,u26,u27,u28,u29,u30,u31,u32,u33,u34,u35,u36,u37,u38,u39,u40,u41,u42,u43,u44,u45,u46,u47,u48,u49,u50,u51,u52,u53,u54,u55,u56,u57,u58,u59,u60,u61,u62,u63,u64,u65,u66,u67,u68,u69,u70,undef],defers:=ds }) l.N ⟨_,_,_,_,_,_,_,_,_,_,_,_,_,_,_,_,_,_,_,_,_,_,_,_,_,_,_,_,_,_,_,_,_,_,_,_,_,o0,qv,0,0,W0.heap.size+4,[],⟨rfl,Nat.zero_le _,by have:=hr.wx.lt; omega,Nat.le_refl _,trivial,hbf,by rw [List.drop_zero,HO0.out]; exact hr⟩,rfl⟩ ?_
   clear hr hbf hI hsz
   intro gk a' wq hI J K hJ hK
   obtain ⟨u11,u12,u36,u37,u38,u39,u40,u41,u42,u43,u44,u45,u46,u47,u48,u49,u50,u51,u52,u53,u54,u55,u56,u57,u58,u59,u60,u61,u62,u63,u64,u65,u66,u67,u68,u69,u70,o,qv,q,k,T,ds,⟨rfl,hqo,hTs,hTl,hM,hbf,hr⟩,rfl⟩:=hI
   dsimp only
   by_cases hql:q < o.length
   ·obtain ⟨⟨k1,kw⟩,hke⟩:∃ e,o[q]? = some e:=⟨_,List.getElem?_eq_getElem hql⟩
    have HKE:=Lib.hid hke
    have hk1N:k1 < l.N:=hbf.lt _ (List.mem_of_getElem? hke)
    have hk1m:k1∈o.map (·.1):=List.mem_map.2 ⟨_,List.mem_of_getElem? hke,rfl⟩
    rw [drop_cons hke,List.map_cons] at hr
    obtain ⟨qg,qo,qc,rfl,hqc1,hqc2,hqg1,hqg2,qcell,hqn⟩:=QRow.head (x:=(k1:Int)) (xs:=intL ((o.drop (q+1)).map (·.1))) hr.que
    have hlq:(intL ((o.drop (q+1)).map (·.1))).length=(o.drop (q+1)).length:=by simp [intL]
    rw [hlq] at hqc1 hqn hr
    have hod:(o.drop (q+1)).length≤40:=by have:=hbf.len; rw [List.length_drop]; omega
    generalize hqn0:(o.drop (q+1)).length=qn at *
    clear hqn0 hlq hke
    have w0:=hr.wx.cell 0
    have w1:=hr.wx.frozen 0
    simp at w0
    go_upto_region 12 with (fail)
    generalize (if qc=1 then some (⟨qg,qo,none⟩:Addr) else some ⟨qg,qo+1,none⟩)=qA at *
    have hg1:wq.grownBy (wq.setCell ⟨W0.heap.size+3,0,none⟩ (.slice qA qn (qc-1))) (some (W0.heap.size+3)):=grown_setCell _
    have hr1:=hr.wait hqn
    have hM1:=hM.grown hg1 fun ρ e=>by injection e with e; subst e; exact .inr (.inl (by omega))
    have hTs1:=Nat.le_trans hTs hg1.size
    clear hr hM hqn qcell w0 w1 hg1 hTs
    generalize wq.setCell ⟨W0.heap.size+3,0,none⟩ (.slice qA qn (qc-1))=v1 at *
    go_wp2_with fail
    refine (ways_ok G k1 v1).mono ?_
    rintro e v2 ⟨rfl,hP,hQ,hz2,hb2⟩
    have hr2:=hr1.call hb2
    have hM2:=hM1.call hb2
    have hqlt:∀ r,(Value.slice qA qn (qc-1)).ownBlock=some r→r≠v1.heap.size∧r≠v1.heap.size+1:=fun r e=>by have:=(hr1.que.lt e).2; omega
    have hv1s:=hr1.wx.lt
    clear hr1 hM1
    generalize v1.heap.size=b1 at *
    have hin:ReaIn W0 B G l ka kc aa ac ba bc da dc drop fb f h fn p src q k1 kw b1 T ds [] v2:=⟨hM2,by omega,o,_,hbf.take k1,hr2,HKE.out,hqlt⟩
    have hnm:=hr2.net.net
    have hlo:=hr2.lo
    clear hM2 hr2 hqlt hb2
    go_wp2
    refine (wpIn_wide (n:=8)).1 ?_
    refine wpIn_range_list (F:=Fence.wide) (n:=8) (a:=?aa) rfl (by omega) (gf:=139) (lb:=#[.pointer (some ⟨b1,0,none⟩),.pointer (some ⟨b1+1,0,none⟩)]) ?hgg trivial (enters_of Tryz.func139 (by kernel_rfl) rfl)
     (ways_seq 4 b1 (b1+1) k1 v2 g hd hnm hP hQ) ?hKt ?hKb (Below.refl _ _) ?hps (ReaIn W0 B G l ka kc aa ac ba bc da dc drop fb f h fn p src q k1 kw b1 T ds) ?hI hin (WayAx (Act.tmps ?aa) 47 12 (b1+2) k1) WayAx.own ?assign ?body ?done
    case hKt=>exact fun h1 h2=>h1.trans h2
    case hKb=>exact fun W y o o' hl _ _ _ k hk=>World.putObj_heap_other (by omega)
    case hgg=>rfl
    case hps=>exact fun _=>rfl
    case hI =>
     intro pre W W' row hs hg hr
     exact hs.grown hg (by omega) fun ρ e=>by obtain ⟨h1,h2⟩:=hr ρ e; exact ⟨by omega,by omega,h2⟩
    case assign =>
     intro y pre x post W K hi hpre hsz hK
     have hx:=Blk.new W 131 #[.int .i64 (k1:Int),.int .i64 (x.1:Int),.int .i64 (x.2:Int)]
     have hgA:=World.grownBy_alloc W (.cells #[.int .i64 (k1:Int),.int .i64 (x.1:Int),.int .i64 (x.2:Int)] 131) none
     have hk:=hK ({ tmps:=(_:Array Value),defers:=[] }) (W.alloc (.cells #[.int .i64 (k1:Int),.int .i64 (x.1:Int),.int .i64 (x.2:Int)] 131)) ((KeepsOthers.alloc _ _).from _) (KeepN.of_grown hgA (by omega) fun r e=>by cases e) (hi.grown hgA (by omega) fun r e=>by cases e) ⟨W.heap.size,by omega,hx,rfl⟩
     simp [encW]
     gi_wp2
     exact hk
    case body =>
     rintro y pre ⟨v,i⟩ post a' W ⟨hM,hsz,o',qv',hb,hr,hke,hne⟩ ⟨Bx,hBx,bX,rfl⟩ hpre
     simp only [List.setIfInBounds_toArray,List.set_cons_succ,List.set_cons_zero]
     dsimp only at bX
     obtain ⟨qs,hqs⟩:∃ qs,qs=(o'.drop (q+1)).map (·.1):=⟨_,rfl⟩
     rw [← hqs] at hr
     have HQS:=Lib.hid hqs
     clear hqs
     have hmem:(v,i)∈waysL l.L (natL drop) k1:=by rw [← hpre]; simp
     have hway:=((mem_waysL g.net).1 hmem).1
     have hvN:=(way_lt g.net hway).2
     have hvi:(v:Int) < (l.N:Int):=by omega
     have hcl:=hcall k1 v i W hmem hr.net
     have hwn:=way_none g.net hb v
     obtain ⟨s0,s1,s2⟩:=WayB.at_ hr.row hvN
     have hqq:=fun w'=>eq_way (wayF v (found o' v)) (wayT v (found o' v)) (wayL v (found o' v)) 0 0 0 w'
     rw [hwn] at hqq
     have o0:=hr.ox.cell 0
     have f0:=hr.fx.cell 0
     have p0:=bX.cell 0
     have p1:=bX.cell 1
     have p2:=bX.cell 2
     simp at o0 f0 p0 p1 p2
     have hk1':k1∈o'.map (·.1):=List.mem_map.2 ⟨_,List.mem_of_getElem? hke,rfl⟩
     have HPRE:=Lib.hid hpre
     have HKE2:=Lib.hid hke
     have HMEM:=Lib.hid hmem
     clear hwn hmem hway hpre hke
     generalize wayF v (found o' v)=yf at *
     generalize wayT v (found o' v)=yt at *
     generalize wayL v (found o' v)=yl at *
     by_cases hv:v∈o'.map (·.1)
     ·have hd:(!decide (v∈o'.map (·.1)))=false:=by rw [decide_eq_true hv]; rfl
      rw [hd] at hqq
      have HB:=Lib.hid (hb.pass (v:=v) (i:=i) fun _=>hv)
      clear hv hd hb hcl
      gi_wp2
      repeat (refine ⟨fun _ h=>(by cases h),?_⟩; gi_wp2)
      exact ⟨KeepsFrom.refl _ _,fun _ _=>rfl,hM,hsz,o',qv',HB.out,by rw [← HQS.out]; exact hr,HKE2.out,hne⟩
     ·have hd:(!decide (v∈o'.map (·.1)))=true:=by rw [decide_eq_false hv]; rfl
      rw [hd] at hqq
      have HV:=Lib.hid hv
      clear hv hd
      gi_wp2_with fail
      refine ⟨trivial,(CallsIn.inRound _ (callsIn_wide.2 hcl)).mono ?_⟩
      rintro e W6 ⟨⟨y6,rfl,hy⟩,hb6⟩
      have hr6:=hr.call hb6
      have hM6:=hM.call hb6
      have bX6:=bX.call hb6
      have hs6:=hb6.size
      clear hr hM bX o0 f0 p0 p1 p2 s0 s1 s2 hqq hcl
      by_cases hy0:0 < y6
      ·have d1:decide (0 < y6)=true:=decide_eq_true hy0
       have hpv:p k1 v i=true:=by rw [← hy]; exact d1
       have HB:=Lib.hid (hb.find g.net hk1' HMEM.out hpv HV.out)
       clear hpv hy hy0 hb
       have o0:=hr6.ox.cell 0
       have p0:=bX6.cell 0
       have p1:=bX6.cell 1
       have p2:=bX6.cell 2
       obtain ⟨s0,s1,s2⟩:=WayB.at_ hr6.row hvN
       have r0:=Blk.frozen hr6.row (v * 3)
       have r1:=Blk.frozen hr6.row (v * 3+1)
       have r2:=Blk.frozen hr6.row (v * 3+2)
       simp at o0 p0 p1 p2
       gi_upto_region 15 with fail
       refine wpIn_region_plain (by rfl) ?_
       go_wp2
       refine NoP_norm ?_
       have hr7:=hr6.put (v:=v) (x:=some (k1,i)) HV.out
       simp only [wayF,wayT,wayL] at hr7
       have hg7:W6.grownBy (((W6.setCell ⟨W0.heap.size+1,v * 3,none⟩ (.int .i64 (k1:Int))).setCell ⟨W0.heap.size+1,v * 3+1,none⟩ (.int .i64 (v:Int))).setCell ⟨W0.heap.size+1,v * 3+2,none⟩ (.int .i64 (i:Int))) (some (W0.heap.size+1)):=grown_putWay _ _ _
       have hM7:=hM6.grown hg7 fun r e=>by injection e; exact .inr (.inl (by omega))
       have bX7:=bX6.grown hg7 fun e=>by injection e; omega
       have hs7:=hg7.size
       clear hM6 bX6 hr6 o0 p0 p1 p2 s0 s1 s2 r0 r1 r2
       obtain ⟨w7,hw7⟩:∃ w7,w7=((W6.setCell ⟨W0.heap.size+1,v * 3,none⟩ (.int .i64 (k1:Int))).setCell ⟨W0.heap.size+1,v * 3+1,none⟩ (.int .i64 (v:Int))).setCell ⟨W0.heap.size+1,v * 3+2,none⟩ (.int .i64 (i:Int)):=⟨_,rfl⟩
       rw [← hw7] at hr7 hg7 hM7 bX7 hs7 ⊢
       clear hw7
       gi_upto_region 16 with fail
       have q0:=hr7.wx.cell 0
       have p1:=bX7.cell 1
       simp at q0 p1
       have hol:q+1≤o'.length:=by have:=(List.getElem?_eq_some_iff.1 HKE2.out).1; omega
       have hqlen:(intL qs).length≤40:=by
        rw [HQS.out]
        have h1:=HB.out.len
        rw [List.length_append] at h1
        simp only [intL,List.length_map,List.length_drop]
        simp at h1
        omega
       have hs7b:=hr7.wx.lt
       refine wpIn_region_plain (by rfl) ?_
       go_wp2_with (at_builtin; refine wpList_appQ rfl (.tmp 66) (.tmp 69) rfl rfl hr7.que rfl (by omega) (by omega) ?_)
       intro v8 w8 hq8 hg8 hat8
       obtain ⟨vA,vc,rfl, -⟩:=hq8.form
       generalize (intL qs++[(v:Int)]).length=vn at *
       have w0:Blk w8 (W0.heap.size+3) 30 #[qv']:=hr7.wx.grown hg8 fun e=>by have:=(hr7.que.lt e.symm).1; omega
       have q1:=w0.cell 0
       have q2:=w0.frozen 0
       simp at q1
       have hdrop:((o'++[(v,some (k1,i))]).drop (q+1)).map (·.1)=qs++[v]:=by rw [HQS.out,List.drop_append_of_le_length hol,List.map_append]; rfl
       have hq9:QRow w8 (W0.heap.size+4) (.slice vA vn vc) (intL (((o'++[(v,some (k1,i))]).drop (q+1)).map (·.1))):=by rw [hdrop,intL_append]; exact hq8
       have hr9:=hr7.grew hg8 hq9
       have hg9:w8.grownBy (w8.setCell ⟨W0.heap.size+3,0,none⟩ (.slice vA vn vc)) (some (W0.heap.size+3)):=grown_setCell _
       have hqc:∀ r,qv'.ownBlock=some r→W0.heap.size+4≤r∧∃ cs t f,w7.heap[r]? = some (.cells cs t f):=fun r e=>⟨(hr7.que.lt e).1,by obtain ⟨cs,hcs⟩:=hr7.que.cells e; exact ⟨cs,_,_,hcs⟩⟩
       have hM9:=(hM7.grown hg8 fun r e => .inr (.inr (hqc r e).2)).grown hg9 fun r e=>by injection e; exact .inr (.inl (by omega))
       have hs9:=Nat.le_trans hg8.size hg9.size
       have hke9:(o'++[(v,some (k1,i))])[q]? = some (k1,kw):=by rw [List.getElem?_append_left (by omega)]; exact HKE2.out
       have hK1:KeepsFrom (b1+2) W (w8.setCell ⟨W0.heap.size+3,0,none⟩ (.slice vA vn vc)) :=
        (((keepsFrom_cells (grown_call hb6 none) fun r e=>by cases e).trans (keepsFrom_cells hg7 fun r e=>by injection e; exact .inl (by omega))).trans (keepsFrom_cells hg8 fun r e => .inr (hqc r e).2)).trans (keepsFrom_cells hg9 fun r e=>by injection e; exact .inl (by omega))
       have hK2:KeepN B G b1 (b1+1) W (w8.setCell ⟨W0.heap.size+3,0,none⟩ (.slice vA vn vc)):=by
        have hgs:=hg8.size
        refine (((KeepN.of_grown (grown_call hb6 none) (by omega) fun r e=>by cases e).trans (KeepN.of_grown hg7 (by omega) fun r e=>by injection e; omega)).trans (KeepN.of_grown hg8 (by omega) fun r e=>?_)).trans (KeepN.of_grown hg9 (by omega) fun r e=>by injection e; omega)
        have h1:=(hqc r e).1
        have h2:=hne r e
        omega
       have hne9:∀ r,(Value.slice vA vn vc).ownBlock=some r→r≠b1∧r≠b1+1:=fun r e=>by
        rcases hat8 r e with h1 | h1
        ·exact hne r h1
        ·omega
       clear hr7 hq8 hg8 hat8 hq9 q0 hM7 hg9 w0 hdrop
       go_wp2
       refine NoP_norm ?_
       gi_wp2
       exact ⟨hK1,hK2,hM9,by omega,_,_,HB.out,hr9,hke9,hne9⟩
      ·have d1:decide (0 < y6)=false:=decide_eq_false hy0
       have hpv:p k1 v i=false:=by rw [← hy]; exact d1
       have HB:=Lib.hid (hb.pass (v:=v) (i:=i) fun h=>by rw [hpv] at h; cases h)
       clear hpv hy hy0 hb
       gi_wp2
       exact ⟨keepsFrom_cells (grown_call hb6 none) (fun r e=>by cases e),KeepN.of_grown (grown_call hb6 none) (by omega) (fun r e=>by cases e),hM6,by omega,o',qv',HB.out,by rw [← HQS.out]; exact hr6,HKE2.out,hne⟩
    case done =>
     rintro D W hD ⟨hM,hsz,o',qv',hb,hr,hke,hne⟩ hdf
     have hb':=hb.done hke
     have hq1:q < o'.length:=(List.getElem?_eq_some_iff.1 hke).1
     have hqN:=hb'.len
     have hMk:=hM.cons (D:=D) (T':=W.heap.size) (by omega) (by omega) (heap_lt hdf) hdf
     have hDl:=heap_lt hdf
     clear hb hke hM
     go_wp2
     refine ⟨l.N-(q+1),by omega,hJ _ _ _ ⟨_,_,_,_,_,_,_,_,_,_,_,_,_,_,_,_,_,_,_,_,_,_,_,_,_,_,_,_,_,_,_,_,_,_,_,_,_,o',qv',q+1,k1,W.heap.size,_,⟨rfl,by omega,Nat.le_refl _,by omega,hMk,hb',hr⟩,rfl⟩⟩
   ·obtain rfl:q=o.length:=by omega
    rw [List.drop_length] at hr
    obtain ⟨qA,qcap,rfl, -⟩:=hr.que.form
    have w0:=hr.wx.cell 0
    have o0:=hr.ox.cell 0
    simp [intL] at w0 o0
    go_wp2
    show LeavesInM Fence.wide 8 Tryz.prog _ _ _ ds .returning wq
    refine Marks.leave (B:=W0.heap.size+4) (T:=T) (fun W'=>RchI W0 W' B G l ka kc aa ac ba bc da dc drop fb f h fn W0.heap.size o (.slice qA 0 qcap) []) ?_ ?_ ds wq hM hr
    ·rintro W' D hD1 hD2 h1
     refine h1.grown (grownBy_putObj' W' D (.deferred none)) (fun ρ e=>?_)
     injection e with e
     subst e
     refine ⟨hD1,fun e2=>?_⟩
     obtain ⟨cs,hcs⟩:=h1.que.cells e2
     unfold Blk at hcs
     rw [hD2] at hcs
     cases hcs
    ·rintro W' h1
     exact ⟨.slice (some ⟨W0.heap.size+1,0,none⟩) l.N l.N,by simp [results,Tryz.results54,go_sem],W0.heap.size+1,rfl,o,h1.row,by omega,⟨_,k,hbf⟩,h1.bl⟩
end Go.Proofs.YtibmeigdjghkcaaGreat
