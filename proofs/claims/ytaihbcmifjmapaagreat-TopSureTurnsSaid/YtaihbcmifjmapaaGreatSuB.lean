/- The law TopSureTurns: one rule more. -/
import Derived.Test.YtaihbcmifjmapaaGreatSuO
import Derived.Test.YtaihbcmifjmapaaGreatSB
import Derived.Test.YtaihbcmifjmapaaGreatSC
namespace Go.Proofs.YtaihbcmifjmapaaGreat
open Go.RowKit Go.Shelf Sp
set_option linter.unusedVariables false
def ruA (r:Ru):Array Value:=#[.int .i64 r.f,.int .i64 r.t,.int .i64 r.m]
structure SuF (W:World) (T:Int) (l:List Ru) (r:Ru) (b2 b5 b7 b8 b9 b10 b11:Bool) (v35 v38 v40 v41 v42 v11:Value) (g7 g10:Nat) (w:World):Prop where
 bw:Below W.heap.size W w
 n5:b5=true→b2=true
 n8:b8=true→b5=true∧b7=true
 n9:b9=true→b8=true
 n11:b11=true→b9=true∧b10=true
 o35:b2=true→b5=false→w.ownsRow W.heap.size 27 3 v35 0 []
 o38:b5=true→b8=false→w.ownsRow W.heap.size 27 3 v38 l.length (l.flatMap (cellsOf 3 rucell))
 e40:b7=true→v40 = .slice (some ⟨g7,0,none⟩) 1 1
 k7:b7=true→b8=false→Blk w g7 27 (ruA r)∧(b2=true→b5=false→v35.ownBlock≠some g7)∧(b5=true→v38.ownBlock≠some g7)
 o41:b8=true→w.ownsRow W.heap.size 27 3 v41 (l.length+1) ((l++[r]).flatMap (cellsOf 3 rucell))
 e42:b9=true→v42 = .agg #[.int .i64 T,v41]
 e11:b10=true→v11 = .pointer (some ⟨g10,0,none⟩)∧W.heap.size≤g10
 k10:b10=true→b11=false→Blk w g10 24 #[.int .i64 0,.slice none 0 0]
 k11:b11=true→Blk w g10 24 #[.int .i64 T,v41]
def SuJ (W:World) (T:Int) (l:List Ru) (r:Ru) (a1:Act) (ls:Array Bool) (a:Act) (w:World):Prop :=
 ∃ b2 b5 b7 b8 b9 b10 b11:Bool,ls=#[true,true,b2,true,true,b5,true,b7,b8,b9,b10,b11] ∧
 ∃ (v35 v38 v40 v41 v42 v11:Value) (g7 g10:Nat),a=(((((a1.put (some 35) v35).put (some 38) v38).put (some 40) v40).put (some 41) v41).put (some 42) v42).put (some 11) v11 ∧
 SuF W T l r b2 b5 b7 b8 b9 b10 b11 v35 v38 v40 v41 v42 v11 g7 g10 w
section
variable {W w w':World} {T:Int} {l:List Ru} {r:Ru} {b2 b5 b7 b8 b9 b10 b11:Bool} {v35 v38 v40 v41 v42 v11:Value} {g7 g10:Nat}
theorem SuF.init (h:Below W.heap.size W w) (u:Value):SuF W T l r false false false false false false false u u u u u u 0 0 w:=by
 refine ⟨h,?_,?_,?_,?_,?_,?_,?_,?_,?_,?_,?_,?_,?_⟩ <;> intro h <;> cases h
theorem SuF.call (h:SuF W T l r b2 b5 b7 b8 b9 b10 b11 v35 v38 v40 v41 v42 v11 g7 g10 w) (hb:Below w.heap.size w w'):SuF W T l r b2 b5 b7 b8 b9 b10 b11 v35 v38 v40 v41 v42 v11 g7 g10 w' :=
 ⟨h.bw.trans (hb.mono h.bw.size),h.n5,h.n8,h.n9,h.n11,fun a b=>own_call (h.o35 a b) hb,fun a b=>own_call (h.o38 a b) hb,h.e40,fun a b=>⟨(h.k7 a b).1.call hb,(h.k7 a b).2⟩,fun a=>own_call (h.o41 a) hb,h.e42,h.e11,fun a b=>(h.k10 a b).call hb,fun a=>(h.k11 a).call hb⟩
theorem SuF.op2 (h:SuF W T l r b2 b5 b7 b8 b9 b10 b11 v35 v38 v40 v41 v42 v11 g7 g10 w) (c2:b2=false):SuF W T l r true b5 b7 b8 b9 b10 b11 (.slice (some ⟨w.heap.size,0,none⟩) 0 0) v38 v40 v41 v42 v11 g7 g10 (w.alloc (.cells #[] 27)):=by
 have hc:=h.call ((Below.refl w.heap.size w).alloc (Nat.le_refl _) (.cells #[] 27))
 exact ⟨hc.bw,fun _=>rfl,hc.n8,hc.n9,hc.n11,fun _ _=>own_empty w W.heap.size 27 3 h.bw.size,hc.o38,hc.e40,fun a b=>⟨(hc.k7 a b).1,fun _ _ e=>by
  have:=(h.k7 a b).1.lt
  simp only [Value.ownBlock,Option.some.injEq] at e
  omega,(hc.k7 a b).2.2⟩,hc.o41,hc.e42,hc.e11,hc.k10,hc.k11⟩
theorem SuF.op5 (h:SuF W T l r b2 b5 b7 b8 b9 b10 b11 v35 v38 v40 v41 v42 v11 g7 g10 w) (c2:b2=true) (c5:b5=false) {v':Value} (ho:w'.ownsRow W.heap.size 27 3 v' l.length (l.flatMap (cellsOf 3 rucell))) (hb:Below W.heap.size w w') (hg:w.grownBy w' v35.ownBlock)
  (hat:v'.ownBlock=v35.ownBlock∨v'.ownBlock=some w.heap.size):SuF W T l r b2 true b7 b8 b9 b10 b11 v35 v' v40 v41 v42 v11 g7 g10 w':=by
 have c8:b8=false:=by
  cases b8
  ·rfl
  ·rw [(h.n8 rfl).1] at c5; cases c5
 have c11:b11=false:=by
  cases b11
  ·rfl
  ·rw [h.n9 (h.n11 rfl).1] at c8; cases c8
 have hown:=h.o35 c2 c5
 refine ⟨h.bw.trans hb,fun _=>c2,(fun a=>by rw [c8] at a; cases a),h.n9,h.n11,(fun _ a=>by cases a),fun _ _=>ho,h.e40,fun a b=>?_,(fun a=>by rw [c8] at a; cases a),h.e42,h.e11,fun a b=>?_,(fun a=>by rw [c11] at a; cases a)⟩
 ·obtain ⟨k1,k2,k3⟩:=h.k7 a b
  refine ⟨k1.grown hg fun e=>k2 c2 c5 e.symm,(fun _ a=>by cases a),fun _ e=>?_⟩
  rcases hat with q | q
  ·exact k2 c2 c5 (q.symm.trans e)
  ·rw [q] at e
   injection e with e
   have:=k1.lt
   omega
 ·exact (h.k10 a b).grown hg (own_blk_ne hown (h.k10 a b) (by decide))
theorem SuF.op7 (h:SuF W T l r b2 b5 b7 b8 b9 b10 b11 v35 v38 v40 v41 v42 v11 g7 g10 w) (c7:b7=false):SuF W T l r b2 b5 true b8 b9 b10 b11 v35 v38 (.slice (some ⟨w.heap.size,0,none⟩) 1 1) v41 v42 v11 w.heap.size g10 (w.alloc (.cells (ruA r) 27)):=by
 have hc:=h.call ((Below.refl w.heap.size w).alloc (Nat.le_refl _) (.cells (ruA r) 27))
 have c8:b8=false:=by
  cases b8
  ·rfl
  ·rw [(h.n8 rfl).2] at c7; cases c7
 exact ⟨hc.bw,hc.n5,(fun a=>by rw [c8] at a; cases a),hc.n9,hc.n11,hc.o35,hc.o38,fun _=>rfl,fun _ _=>⟨Blk.new w _ _,fun a b e=>by
  have:=((h.o35 a b).lt _ e).2
  omega,fun a e=>by
  have:=((h.o38 a c8).lt _ e).2
  omega⟩,hc.o41,hc.e42,hc.e11,hc.k10,hc.k11⟩
theorem SuF.op8 (h:SuF W T l r b2 b5 b7 b8 b9 b10 b11 v35 v38 v40 v41 v42 v11 g7 g10 w) (c5:b5=true) (c7:b7=true) (c8:b8=false) {v':Value} (ho:w'.ownsRow W.heap.size 27 3 v' (l.length+1) ((l++[r]).flatMap (cellsOf 3 rucell))) (hb:Below W.heap.size w w') (hg:w.grownBy w' v38.ownBlock):SuF W T l r b2 b5 b7 true b9 b10 b11 v35 v38 v40 v' v42 v11 g7 g10 w':=by
 have c9:b9=false:=by
  cases b9
  ·rfl
  ·rw [h.n9 rfl] at c8; cases c8
 have c11:b11=false:=by
  cases b11
  ·rfl
  ·rw [(h.n11 rfl).1] at c9; cases c9
 refine ⟨h.bw.trans hb,h.n5,fun _=>⟨c5,c7⟩,fun _=>rfl,h.n11,(fun _ a=>by rw [c5] at a; cases a),(fun _ a=>by cases a),h.e40,(fun _ a=>by cases a),fun _=>ho,(fun a=>by rw [c9] at a; cases a),h.e11,fun a b=>?_,(fun a=>by rw [c11] at a; cases a)⟩
 exact (h.k10 a b).grown hg (own_blk_ne (h.o38 c5 c8) (h.k10 a b) (by decide))
theorem SuF.op9 (h:SuF W T l r b2 b5 b7 b8 b9 b10 b11 v35 v38 v40 v41 v42 v11 g7 g10 w) (c8:b8=true):SuF W T l r b2 b5 b7 b8 true b10 b11 v35 v38 v40 v41 (.agg #[.int .i64 T,v41]) v11 g7 g10 w :=
 ⟨h.bw,h.n5,h.n8,fun _=>c8,fun a=>⟨rfl,(h.n11 a).2⟩,h.o35,h.o38,h.e40,h.k7,h.o41,fun _=>rfl,h.e11,h.k10,h.k11⟩
theorem SuF.op10 (h:SuF W T l r b2 b5 b7 b8 b9 b10 b11 v35 v38 v40 v41 v42 v11 g7 g10 w) (c10:b10=false):SuF W T l r b2 b5 b7 b8 b9 true b11 v35 v38 v40 v41 v42 (.pointer (some ⟨w.heap.size,0,none⟩)) g7 w.heap.size (w.alloc (.cells #[.int .i64 0,.slice none 0 0] 24)):=by
 have hc:=h.call ((Below.refl w.heap.size w).alloc (Nat.le_refl _) (.cells #[.int .i64 0,.slice none 0 0] 24))
 have c11:b11=false:=by
  cases b11
  ·rfl
  ·rw [(h.n11 rfl).2] at c10; cases c10
 exact ⟨hc.bw,hc.n5,hc.n8,hc.n9,fun a=>⟨(hc.n11 a).1,rfl⟩,hc.o35,hc.o38,hc.e40,hc.k7,hc.o41,hc.e42,fun _=>⟨rfl,h.bw.size⟩,fun _ _=>Blk.new w _ _,(fun a=>by rw [c11] at a; cases a)⟩
theorem SuF.op11 (h:SuF W T l r b2 b5 b7 b8 b9 b10 b11 v35 v38 v40 v41 v42 v11 g7 g10 w) (c9:b9=true) (c10:b10=true) (c11:b11=false):SuF W T l r b2 b5 b7 b8 b9 b10 true v35 v38 v40 v41 v42 v11 g7 g10 ((w.setCell ⟨g10,0,none⟩ (.int .i64 T)).setCell ⟨g10,1,none⟩ v41):=by
 have c8:=h.n9 c9
 have c5:=(h.n8 c8).1
 have hx:=h.k10 c10 c11
 have hs:=(hx.set_ 0 (.int .i64 T)).set_ 1 v41
 simp at hs
 have hg:w.grownBy ((w.setCell ⟨g10,0,none⟩ (.int .i64 T)).setCell ⟨g10,1,none⟩ v41) (some g10):=grown_trans' (grown_setCell _) (grown_setCell _)
 have hw:=(h.e11 c10).2
 have hb:Below W.heap.size w ((w.setCell ⟨g10,0,none⟩ (.int .i64 T)).setCell ⟨g10,1,none⟩ v41):=((Below.refl _ _).setCell (p:=⟨g10,0,none⟩) hw _).setCell (p:=⟨g10,1,none⟩) hw _
 refine ⟨h.bw.trans hb,h.n5,h.n8,h.n9,fun _=>⟨c9,c10⟩,(fun _ a=>by rw [c5] at a; cases a),(fun _ a=>by rw [c8] at a; cases a),h.e40,(fun _ a=>by rw [c8] at a; cases a),fun a=>(h.o41 a).kept hg (.inr fun e=>own_blk_ne (h.o41 a) hx (by decide) e.symm),h.e42,h.e11,(fun _ a=>by cases a),fun _=>hs⟩
end
def suChk (b2 b5 b7 b8 b9 b10 b11:Bool) (i:Nat):Bool:=(i==2&&!b2)||(i==5&&!b5&&b2)||(i==7&&!b7)||(i==8&&!b8&&b5&&b7)||(i==9&&!b9&&b8)||(i==10&&!b10)||(i==11&&!b11&&b9&&b10)
theorem su_key {ops:Array Oper} (h:∀ b2 b5 b7 b8 b9 b10 b11:Bool,((Region.ready .any ops #[true,true,b2,true,true,b5,true,b7,b8,b9,b10,b11]).all (suChk b2 b5 b7 b8 b9 b10 b11))=true) {b2 b5 b7 b8 b9 b10 b11:Bool} {i:Nat}
  (hi:i∈Region.ready .any ops #[true,true,b2,true,true,b5,true,b7,b8,b9,b10,b11]):suChk b2 b5 b7 b8 b9 b10 b11 i=true:=List.all_eq_true.1 (h b2 b5 b7 b8 b9 b10 b11) i hi
theorem su_end {ops:Array Oper} (h:∀ b2 b5 b7 b8 b9 b10 b11:Bool,(!(Region.ready .any ops #[true,true,b2,true,true,b5,true,b7,b8,b9,b10,b11]).isEmpty||b11)=true) {b2 b5 b7 b8 b9 b10 b11:Bool}
  (hr:Region.ready .any ops #[true,true,b2,true,true,b5,true,b7,b8,b9,b10,b11]=[]):b11=true:=by
 have:=h b2 b5 b7 b8 b9 b10 b11
 rw [hr] at this
 simpa using this
structure SuS (w0 W:World) (Bs g10 g12 T:Nat) (lg:Int) (l:List Ru) (r:Ru) (A0:Option Addr) (sc:Nat) (A41:Option Addr) (c41:Nat) (A:Option Addr) (cap:Nat) (ps:List Pas):Prop where
 x5:Blk W Bs 24 #[.int .i64 T,.slice A0 l.length sc]
 x11:Blk W g10 24 #[.int .i64 T,.slice A41 (l.length+1) c41]
 x12:Blk W g12 34 #[.int .i64 T,.int .i64 lg,.int .i64 6,.slice none 0 0,.slice A ps.length cap]
 sl:Arr W W.heap.size 3 (.slice A0 l.length sc) l rucell
 sx:Arr W W.heap.size 3 (.slice A41 (l.length+1) c41) (l++[r]) rucell
 sp:Arr W W.heap.size 3 (.slice A ps.length cap) ps pcell
 bw:Below Bs w0 W
 sz:Bs≤W.heap.size
section
variable {w0 W W':World} {Bs g10 g12 T:Nat} {lg:Int} {l:List Ru} {r:Ru} {A0:Option Addr} {sc:Nat} {A41:Option Addr} {c41:Nat} {A:Option Addr} {cap:Nat} {ps:List Pas}
theorem SuS.call (h:SuS w0 W Bs g10 g12 T lg l r A0 sc A41 c41 A cap ps) (hb:Below W.heap.size W W'):SuS w0 W' Bs g10 g12 T lg l r A0 sc A41 c41 A cap ps :=
 ⟨h.x5.call hb,h.x11.call hb,h.x12.call hb,(h.sl.below hb).more hb.size,(h.sx.below hb).more hb.size,(h.sp.below hb).more hb.size,h.bw.trans (hb.mono h.sz),Nat.le_trans h.sz hb.size⟩
theorem SuS.c5 (h:SuS w0 W Bs g10 g12 T lg l r A0 sc A41 c41 A cap ps):W.cell? ⟨g12,0,none⟩=some (.int .i64 T)∧W.cell? ⟨g12,1,none⟩=some (.int .i64 lg)∧W.cell? ⟨g12,2,none⟩=some (.int .i64 6)∧W.cell? ⟨g12,3,none⟩=some (.slice none 0 0)∧W.cell? ⟨g12,4,none⟩=some (.slice A ps.length cap):=by
 have h:=h.x12
 refine ⟨?_,?_,?_,?_,?_⟩
 ·simpa using h.cell 0
 ·simpa using h.cell 1
 ·simpa using h.cell 2
 ·simpa using h.cell 3
 ·simpa using h.cell 4
theorem SuS.cs (h:SuS w0 W Bs g10 g12 T lg l r A0 sc A41 c41 A cap ps):W.cell? ⟨Bs,0,none⟩=some (.int .i64 T)∧W.cell? ⟨Bs,1,none⟩=some (.slice A0 l.length sc):=⟨by simpa using h.x5.cell 0,by simpa using h.x5.cell 1⟩
theorem SuS.cx (h:SuS w0 W Bs g10 g12 T lg l r A0 sc A41 c41 A cap ps):W.cell? ⟨g10,0,none⟩=some (.int .i64 T)∧W.cell? ⟨g10,1,none⟩=some (.slice A41 (l.length+1) c41):=⟨by simpa using h.x11.cell 0,by simpa using h.x11.cell 1⟩
end
structure LstB (W:World) (b off:Nat) (f:Nat→Int):Prop where
 lt:b < W.heap.size
 cell:∀ j,j≤6→W.cell? ⟨b,off+j,none⟩=some (.int .i64 (f j))
theorem LstB.call {W W':World} {b off:Nat} {f:Nat→Int} (h:LstB W b off f) (hb:Below W.heap.size W W'):LstB W' b off f :=
 ⟨Nat.lt_of_lt_of_le h.lt hb.size,fun j hj=>(hb.cell (p:=⟨b,off+j,none⟩) h.lt).trans (h.cell j hj)⟩
end Go.Proofs.YtaihbcmifjmapaaGreat
