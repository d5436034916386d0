/- Contract: keeps of package speed. What holds between the rounds of a step: far, by, and what lay before. -/
import Derived.Test.YtaihbcmifjmapaaGreatSD
namespace Go.Proofs.YtaihbcmifjmapaaGreat
open Go.RowKit Go.Shelf Sp
set_option linter.unusedVariables false
set_option maxRecDepth 100000 in
theorem keeps_ok (F:Nat→Int) (hF:∀ v,v < 21 → -200000≤F v∧F v≤1125899906842624) (a b:Nat) (m:Int) (ha:a < 21) (hb:b < 21) (hm : -100000≤m∧m≤100000) (w:World) :
  Calls Tryz.prog 235 #[.agg (farA F),.agg #[.int .i64 a,.int .i64 b,.int .i64 m]] w fun r w'=>r = .returned (.bool (decide (F b≤F a+m)))∧Below w.heap.size w w':=by
 have hFa:=hF a ha
 have hFb:=hF b hb
 have HA:=Lib.hid (rowA_get (f:=fun u=>Value.int .i64 (F u)) ha)
 have HB:=Lib.hid (rowA_get (f:=fun u=>Value.int .i64 (F u)) hb)
 have hi21:=far_i21 F
 have h1c:=far_one_ F
 obtain ⟨cs,HCS⟩:∃ cs,Hid (cs=farA F):=⟨_,rfl⟩
 unfold farA at *
 rw [← HCS.out] at hi21 h1c HA HB
 rw [← HCS.out]
 clear hF
 go_enter Tryz.func235,Tryz.ntmps235
 go_upto_region 1 with (fail)
 have x0:=Blk.new w 119 cs
 have hb1:=(Below.refl w.heap.size w).alloc (Nat.le_refl _) (.cells cs 119)
 have z0:(w.alloc (.cells cs 119)).heap.size=w.heap.size+1:=by simp
 have x1:=Blk.new (w.alloc (.cells cs 119)) 27 #[.int .i64 a,.int .i64 b,.int .i64 m]
 have hb2:=(Below.refl (w.alloc (.cells cs 119)).heap.size (w.alloc (.cells cs 119))).alloc (Nat.le_refl _) (.cells #[.int .i64 a,.int .i64 b,.int .i64 m] 27)
 replace x0:=x0.call hb2
 have hB:=hb1.trans (hb2.mono hb1.size)
 rw [z0] at x1
 clear hb1 hb2 z0
 generalize (w.alloc (.cells cs 119)).alloc (.cells #[.int .i64 a,.int .i64 b,.int .i64 m] 27)=W at *
 have p0:=x0.cell a
 rw [HA.out] at p0
 have p1:=x0.cell b
 rw [HB.out] at p1
 have q0:=x1.cell 0
 have q1:=x1.cell 1
 have q2:=x1.cell 2
 simp at q0 q1 q2
 have f0:=Ext.of p0
 have f1:=Ext.of p1
 have f2:=Ext.of q0
 have f3:=Ext.of q1
 have f4:=Ext.of q2
 have hai:(a:Int) < 21:=by omega
 have hbi:(b:Int) < 21:=by omega
 clear HA HB HCS hi21 h1c x0 x1 p0 p1 q0 q1 q2
 refine wp_region_ext (by kernel_rfl) (by kernel_rfl) ?_
 repeat (go_big_quiet_step (fail))
 refine wpQuiet_nil ?_
 intro _ hw'
 obtain ⟨xr,hw''⟩:=hw'
 subst hw''
 go_wp2
 go_ret
 exact ⟨rfl,hB.trans (xr.h.mono hB.size)⟩
end Go.Proofs.YtaihbcmifjmapaaGreat
namespace Go.Proofs.YtaihbcmifjmapaaGreat
open Go.RowKit Go.Shelf Sp
set_option linter.unusedVariables false
theorem wpIn_region_extR {P:Program} {Q:Exit→Act→World→Prop} {id r n:Nat} {a:Act} {W:World} {l:List Oper} (hm:P.follows .mixedOrders=true) (hB:Region.lexB .any l.toArray=true) (hnd:noDefer l.toArray=true)
  (h:wpQuiet P l.toArray (fun w'=>∃ x:Ext W,w'=x.w) (fun a'=>∀ w',(∃ x:Ext W,w'=x.w)→Q .normal a' w') l a):(Code.region id l.toArray true).wpIn (Fence.wide.inRound r) n P Q a W:=by
 have hC:(fun w'=>∃ x:Ext W,w'=x.w) W.drew:=⟨⟨W.drew,⟨rfl,rfl,rfl,Nat.le_refl _,fun _ _=>rfl⟩⟩,rfl⟩
 simp only [Region.lexB,Bool.and_eq_true] at hB
 refine wpIn_mono (Q:=NoP Q) (wpIn_region_any hm (wpAnyIn_of_wpAny hnd _ _ _ _ (wpAny_of_quiet (Q:=fun a'=>∀ w',(∃ x:Ext W,w'=x.w)→Q .normal a' w') (Q':=NoP Q) (fun _ w' hw' h=>h w' hw') _ _ _ _ hC ?_))) NoP_imp
 have:=wpAnyQ_lex (C:=fun w'=>∃ x:Ext W,w'=x.w) (md := .any) hB.1 l.toArray.toList 0 (Array.replicate l.toArray.size false) a (by simp) (by simpa using hB.2) (by simpa using h)
 simpa using this
theorem round_snoc (L:List RN) (r:RN) (F:Nat→Int):round (L++[r]) F=relax (round L F) r:=by
 unfold round
 rw [List.foldl_append]
 rfl
structure Keep2 (B gf gm:Nat) (w w':World):Prop where
 os:w'.os=w.os
 tape:w'.tape=w.tape
 output:w'.output=w.output
 size:w.heap.size≤w'.heap.size
 block:∀ k,k < B→k≠gf→k≠gm→w'.heap[k]? = w.heap[k]?
theorem Keep2.refl (B gf gm:Nat) (w:World):Keep2 B gf gm w w:=⟨rfl,rfl,rfl,Nat.le_refl _,fun _ _ _ _=>rfl⟩
theorem Keep2.trans {B gf gm:Nat} {a b c:World} (h:Keep2 B gf gm a b) (k:Keep2 B gf gm b c):Keep2 B gf gm a c :=
 ⟨k.os.trans h.os,k.tape.trans h.tape,k.output.trans h.output,Nat.le_trans h.size k.size,fun q h1 h2 h3=>(k.block q h1 h2 h3).trans (h.block q h1 h2 h3)⟩
theorem Keep2.of_below {B gf gm:Nat} {a b:World} (h:Below B a b):Keep2 B gf gm a b:=⟨h.os,h.tape,h.output,h.size,fun q h1 _ _=>h.block q h1⟩
theorem Keep2.less {B B' gf gm:Nat} {a b:World} (h:Keep2 B gf gm a b) (hB:B'≤B):Keep2 B' gf gm a b:=⟨h.os,h.tape,h.output,h.size,fun q h1 h2 h3=>h.block q (by omega) h2 h3⟩
theorem Keep2.grown {B gf gm:Nat} {a b c:World} {row:Option Nat} (h:Keep2 B gf gm a b) (hg:b.grownBy c row) (hB:B≤b.heap.size) (hr:∀ r,row=some r→B≤r∨r=gf∨r=gm):Keep2 B gf gm a c :=
 h.trans ⟨hg.os,hg.tape,hg.output,hg.size,fun q h1 h2 h3=>hg.block q (by omega) fun e=>by have:=hr q e.symm; omega⟩
theorem Keep2.below {B gf gm B':Nat} {a b:World} (h:Keep2 B gf gm a b) (h1:B'≤B) (h2:B'≤gf) (h3:B'≤gm):Below B' a b:=⟨h.os,h.tape,h.output,h.size,fun q hq=>h.block q (by omega) (by omega) (by omega)⟩
structure StS (w0 W:World) (B g T:Nat) (rv:Value) (al:List Ru) (A:Option Addr) (c gf gm Bs:Nat) (F0 F:Nat→Int):Prop where
 nt:NetAt W B g T rv al A c
 b4:Blk W Bs 206 #[.pointer (some ⟨gf,0,none⟩)]
 b5:Blk W (Bs+1) 120 #[.map (some gm)]
 b7:FarB W (Bs+2) F0
 bx:Blk W (Bs+3) 115 #[.pointer (some ⟨g,0,none⟩)]
 fb:FarB W gf F
 mp:MapAny W gm
 sz:Bs+4≤W.heap.size
 kp:Keep2 Bs gf gm w0 W
section
variable {w0 W W':World} {B g T:Nat} {rv:Value} {al:List Ru} {A:Option Addr} {c gf gm Bs:Nat} {F0 F:Nat→Int}
theorem StS.grown (h:StS w0 W B g T rv al A c gf gm Bs F0 F) (h1:B≤gf) (h2:gf < Bs) (h3:gm < Bs) {row:Option Nat} (hg:W.grownBy W' row) (hr:∀ r,row=some r→Bs+4≤r):StS w0 W' B g T rv al A c gf gm Bs F0 F:=by
 have hk:∀ q,q < Bs+4→W'.heap[q]? = W.heap[q]? := fun q hq=>hg.block q (Nat.lt_of_lt_of_le hq h.sz) fun e=>by have:=hr q e.symm; omega
 exact ⟨h.nt.keep fun q hq=>hk q (by omega),(hk _ (by omega)).trans h.b4,(hk _ (by omega)).trans h.b5,(hk _ (by omega)).trans h.b7,(hk _ (by omega)).trans h.bx,(hk _ (by omega)).trans h.fb,h.mp.heap (hk _ (by omega)),Nat.le_trans h.sz hg.size,
  h.kp.grown hg (by have:=h.sz; omega) fun r e => .inl (by have:=hr r e; omega)⟩
theorem StS.put (h:StS w0 W B g T rv al A c gf gm Bs F0 F) (h1:B≤gf) (h2:gf < Bs) (h3:gm < Bs) (h4:gf≠gm) {i:Nat} {x:Int} {G:Nat→Int} (hG:∀ j,j < 21→G j=if j=i then x else F j):StS w0 (W.setCell ⟨gf,i,none⟩ (.int .i64 x)) B g T rv al A c gf gm Bs F0 G:=by
 have hg:W.grownBy (W.setCell ⟨gf,i,none⟩ (.int .i64 x)) (some gf):=grown_setCell _
 have hk:∀ q,q < Bs+4→q≠gf→(W.setCell ⟨gf,i,none⟩ (.int .i64 x)).heap[q]? = W.heap[q]? := fun q hq hn=>hg.block q (Nat.lt_of_lt_of_le hq h.sz) fun e=>hn (by injection e)
 exact ⟨h.nt.keep fun q hq=>hk q (by omega) (by omega),(hk _ (by omega) (by omega)).trans h.b4,(hk _ (by omega) (by omega)).trans h.b5,(hk _ (by omega) (by omega)).trans h.b7,(hk _ (by omega) (by omega)).trans h.bx,h.fb.put hG,h.mp.heap (hk _ (by omega) (by omega)),Nat.le_trans h.sz hg.size,
  h.kp.grown hg (by have:=h.sz; omega) fun r e => .inr (.inl (by injection e with e; exact e.symm))⟩
theorem StS.upd (h:StS w0 W B g T rv al A c gf gm Bs F0 F) (h1:B≤gm) (h2:gf < Bs) (h3:gm < Bs) (h4:gf≠gm) {es:Array MapEntry} {cl:Nat} (hm:MapAny (putMapI W gm es cl) gm):StS w0 (putMapI W gm es cl) B g T rv al A c gf gm Bs F0 F:=by
 have hg:=grown_putI (w:=W) (g:=gm) es cl
 have hk:∀ q,q < Bs+4→q≠gm→(putMapI W gm es cl).heap[q]? = W.heap[q]? := fun q hq hn=>hg.block q (Nat.lt_of_lt_of_le hq h.sz) fun e=>hn (by injection e)
 exact ⟨h.nt.keep fun q hq=>hk q (by omega) (by omega),(hk _ (by omega) (by omega)).trans h.b4,(hk _ (by omega) (by omega)).trans h.b5,(hk _ (by omega) (by omega)).trans h.b7,(hk _ (by omega) (by omega)).trans h.bx,(hk _ (by omega) h4).trans h.fb,hm,Nat.le_trans h.sz hg.size,
  h.kp.grown hg (by have:=h.sz; omega) fun r e => .inr (.inr (by injection e with e; exact e.symm))⟩
theorem StS.same (h:StS w0 W B g T rv al A c gf gm Bs F0 F) {G:Nat→Int} (e:∀ j,j < 21→G j=F j):StS w0 W B g T rv al A c gf gm Bs F0 G :=
 ⟨h.nt,h.b4,h.b5,h.b7,h.bx,by have:=h.fb; unfold FarB farA at this ⊢; rwa [rowA_congr fun j hj=>by rw [e j hj]],h.mp,h.sz,h.kp⟩
end
def RuleAx (tm:Array Value) (base:Nat) (x:Ru×Nat) (a':Act) (W:World):Prop :=
 ∃ Bx,base≤Bx∧Blk W Bx 27 #[.int .i64 x.1.f,.int .i64 x.1.t,.int .i64 x.1.m]∧a'={ tmps:=(((tm.setIfInBounds 15 (.int .i64 x.2)).setIfInBounds 16 (.agg #[.int .i64 x.1.f,.int .i64 x.1.t,.int .i64 x.1.m])).setIfInBounds 8 (.int .i64 x.2)).setIfInBounds 9 (.pointer (some ⟨Bx,0,none⟩)),defers:=[] }
theorem RuleAx.own {tm:Array Value} {base B:Nat}:∀ (x:Ru×Nat) (a':Act),OwnFrom B (fun (_:Unit) W=>RuleAx tm base x a' W):=by
 rintro x a' _ W W' row ⟨Bx,h1,h2,h3⟩ hg hr
 exact ⟨Bx,h1,blk_own h2 hg hr,h3⟩
def farOf (pre:List (Ru×Nat)) (F0:Nat→Int):Nat→Int:=round (pre.map fun p=>rnOf p.1) F0
theorem farOf_snoc (pre:List (Ru×Nat)) (x:Ru×Nat) (F0:Nat→Int):farOf (pre++[x]) F0=relax (farOf pre F0) (rnOf x.1):=by
 unfold farOf
 rw [List.map_append,List.map_cons,List.map_nil,round_snoc]
theorem farOf_all (al:List Ru) (F0:Nat→Int):farOf al.zipIdx F0=round (al.map rnOf) F0:=by
 unfold farOf
 congr 1
 show List.map (rnOf ∘ Prod.fst) _=_
 rw [← List.map_map (g:=rnOf) (f:=Prod.fst),List.zipIdx_map_fst]
theorem farOf_take {al:List Ru} {pre post:List (Ru×Nat)} (h:pre++post=al.zipIdx) (F0:Nat→Int):farOf pre F0=round ((al.map rnOf).take pre.length) F0:=by
 unfold farOf
 congr 1
 have e:pre=al.zipIdx.take pre.length:=by rw [← h,List.take_left]
 conv=>lhs; rw [e]
 show List.map (rnOf ∘ Prod.fst) _=_
 rw [← List.map_map (g:=rnOf) (f:=Prod.fst),← List.map_take,List.map_take,List.zipIdx_map_fst]
end Go.Proofs.YtaihbcmifjmapaaGreat
