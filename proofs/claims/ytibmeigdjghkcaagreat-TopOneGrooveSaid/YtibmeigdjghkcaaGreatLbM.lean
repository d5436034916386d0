/- Regions that draw their order, walked in every order that is left: reads are taken first, what comes up beside others parts the walk. Lists of names, nets, rows by index, ways in memory. Contracts of the library: Contains, ContainsFunc, Min, Max. -/
import Derived.Test.YtibmeigdjghkcaaGreatSch
import Derived.Test.YtibmeigdjghkcaaGreatGenM
import Derived.Test.YtibmeigdjghkcaaGreatPlC
import Derived.Below
import Derived.Deep.Cut
import Derived.Deep.CutBlock
import Derived.Deep.DeepCutAuto
import Derived.WalkLawsBesides
namespace Go.Proofs.YtibmeigdjghkcaaGreat
open Go.RowKit
set_option linter.unusedVariables false
section
variable {P:Program} {Q:Exit→Act→World→Prop} {C:World→Prop} {l:List Oper}
def Way (P:Program) (l:List Oper) (Q:Exit→Act→World→Prop) (C:World→Prop) (fuel:Nat) (listed:Array Bool) (a:Act) (w:World) (i:Nat):Prop :=
 ∃ o rest,l.drop i=o::rest∧Region.wanted o (yielded l.toArray a.tmps)=true ∧
  ∀ K:Act→World→Prop,(∀ a' w',C w'∧wpAnyH P .any l.toArray (NoP Q) C fuel (listed.setIfInBounds i true) a' w'→K a' w')→wpList P l.toArray (NoP (Exit.then K Q)) [o] a w
theorem Way.op {fuel:Nat} {listed:Array Bool} {a:Act} {w:World} {i:Nat} (h:Way P l Q C fuel listed a w i):wpOp P l.toArray (NoP Q) i (fun a' w'=>C w'∧wpAnyH P .any l.toArray (NoP Q) C fuel (listed.setIfInBounds i true) a' w') a w:=by
 obtain ⟨o,rest,hi,hw,h⟩:=h
 have hi:=getElem?_of_drop hi
 have h1:=h _ fun _ _ h=>h
 simp only [wpList,hw,if_true] at h1
 unfold wpOp
 simp only [hi]
 show if _ then _ else _
 rw [if_pos hw]
 left
 rcases h1 with h1 | ⟨_,a',w',h2⟩
 ·unfold Oper.wp at h1 ⊢
  generalize (execOp a.eval o).run P w=q at *
  cases q with
  | ok x w' =>
    cases x <;> simp only [Oper.upon] at h1 ⊢
    case value v=>exact h1
    case skip=>exact h1
    case defer d=>exact h1
    case enter f args =>
     refine h1.mono fun e w'' hh=>?_
     cases e with
     | returned v=>exact hh
     | panicked ch=>exact hh.elim
     | outgrown=>obtain ⟨a,w,hh⟩:=hh; exact hh.elim
    case row row args=>exact h1
  | halt x w'=>cases x <;> simp only [Oper.upon] at h1 ⊢ <;> first | exact h1 | exact h1.elim
 ·exact h2.elim
end
end Go.Proofs.YtibmeigdjghkcaaGreat
namespace Go.Proofs.YtibmeigdjghkcaaGreat
open Go.RowKit Go.Shelf
set_option linter.unusedVariables false
theorem ret_b {a a':Bool} (h1:a=a'):Ending.returned (.bool a)=Ending.returned (.bool a'):=by rw [h1]
theorem ret_i {k:IntKind} {a a':Int} (h1:a=a'):Ending.returned (.int k a)=Ending.returned (.int k a'):=by rw [h1]
theorem take_snoc {α:Type} {l:List α} {k:Nat} {x:α} (h:l[k]? = some x):l.take (k+1)=l.take k++[x]:=by
 rw [List.take_add_one,h]
 rfl
theorem drop_cons {α:Type} {l:List α} {k:Nat} {x:α} (h:l[k]? = some x):l.drop k=x::l.drop (k+1):=by
 obtain ⟨h1,h2⟩:=List.getElem?_eq_some_iff.1 h
 rw [List.drop_eq_getElem_cons h1,h2]
theorem Arr.call {α:Type} {w w':World} {size:Nat} {v:Value} {l:List α} {cell:α→Nat→Value} (h:Arr w w.heap.size size v l cell) (hb:Below w.heap.size w w'):Arr w' w'.heap.size size v l cell:=(h.below hb).more hb.size
theorem heap_lt {W:World} {k:Nat} {o:Obj} (h:W.heap[k]? = some o):k < W.heap.size:=(Array.getElem?_eq_some_iff.1 h).1
theorem grown_of_below {w w':World} (h:Below w.heap.size w w'):w.grownBy w' none:=⟨h.os,h.tape,h.output,h.size,fun k hk _=>h.block k hk⟩
def rowA (n:Nat) (f:Nat→Value):Array Value:=((List.range n).map f).toArray
theorem rowA_size (n:Nat) (f:Nat→Value):(rowA n f).size=n:=by simp [rowA]
theorem rowA_get {n i:Nat} {f:Nat→Value} (h:i < n):(rowA n f)[i]? = some (f i):=by
 unfold rowA
 simp only [List.getElem?_toArray,List.getElem?_map]
 rw [List.getElem?_range h]
 rfl
theorem rowA_congr {n:Nat} {f g:Nat→Value} (h:∀ i,i < n→f i=g i):rowA n f=rowA n g:=by
 unfold rowA
 congr 1
 exact List.map_congr_left fun i hi=>h i (List.mem_range.1 hi)
theorem rowA_set {n i:Nat} {f g:Nat→Value} {v:Value} (h:∀ j,j < n→g j=if j=i then v else f j):(rowA n f).setIfInBounds i v=rowA n g:=by
 apply Array.ext_getElem?
 intro j
 rw [Array.getElem?_setIfInBounds,rowA_size]
 by_cases hj:j < n
 ·rw [rowA_get hj,rowA_get hj,h j hj]
  by_cases e:i=j
  ·subst e
   rw [if_pos rfl,if_pos hj,if_pos rfl]
  ·rw [if_neg e,if_neg fun e2=>e e2.symm]
 ·have e1:(rowA n f)[j]? = none:=Array.getElem?_eq_none (by rw [rowA_size]; omega)
  have e2:(rowA n g)[j]? = none:=Array.getElem?_eq_none (by rw [rowA_size]; omega)
  rw [e1,e2]
  by_cases e:i=j
  ·rw [if_pos e,if_neg (by omega)]
  ·rw [if_neg e]
theorem rowA_const (n:Nat) (v:Value):rowA n (fun _=>v)=Array.replicate n v:=by
 apply Array.ext_getElem?
 intro j
 by_cases hj:j < n
 ·rw [rowA_get hj,Array.getElem?_replicate,if_pos hj]
 ·rw [Array.getElem?_eq_none (by rw [rowA_size]; omega),Array.getElem?_eq_none (by simp; omega)]
def lkcell (x:LkI):Nat→Value
 | 0 => .int .i64 x.one
 | 1 => .int .i64 x.two
 | _ => .int .i64 x.trust
structure NA (w:World) (B:Nat) (l:NL) (ka:Option Addr) (kc:Nat) (aa:Option Addr) (ac:Nat) (ba:Option Addr) (bc:Nat):Prop where
 ks:Arr w B 3 (.slice ka l.links.length kc) l.links lkcell
 as_:Arr w B 1 (.slice aa l.left.length ac) l.left icell
 bs:Arr w B 1 (.slice ba l.right.length bc) l.right icell
abbrev nlV (l:NL) (ka:Option Addr) (kc:Nat) (aa:Option Addr) (ac:Nat) (ba:Option Addr) (bc:Nat):Value :=
 .agg #[.int .i64 l.n,.slice ka l.links.length kc,.slice aa l.left.length ac,.slice ba l.right.length bc]
def NLV (w:World) (B:Nat) (v:Value) (l:NL):Prop:=∃ ka kc aa ac ba bc,v=nlV l ka kc aa ac ba bc∧NA w B l ka kc aa ac ba bc
section
variable {w w' W W':World} {B B':Nat} {l:NL} {ka aa ba:Option Addr} {kc ac bc:Nat}
theorem NA.keep (h:NA w B l ka kc aa ac ba bc) (hk:∀ p:Addr,p.block < B→w'.cell? p=w.cell? p):NA w' B l ka kc aa ac ba bc:=⟨h.ks.keep hk,h.as_.keep hk,h.bs.keep hk⟩
theorem NA.below (h:NA w B l ka kc aa ac ba bc) (hb:Below B w w'):NA w' B l ka kc aa ac ba bc:=h.keep fun p hp=>hb.cell hp
theorem NA.more (h:NA w B l ka kc aa ac ba bc) (hB:B≤B'):NA w B' l ka kc aa ac ba bc:=⟨h.ks.more hB,h.as_.more hB,h.bs.more hB⟩
theorem NA.call (h:NA w w.heap.size l ka kc aa ac ba bc) (hb:Below w.heap.size w w'):NA w' w'.heap.size l ka kc aa ac ba bc:=(h.below hb).more hb.size
theorem NA.drew (h:NA w B l ka kc aa ac ba bc):NA w.drew B l ka kc aa ac ba bc:=h.keep fun _ _=>rfl
theorem NLV.of (h:NA w B l ka kc aa ac ba bc):NLV w B (nlV l ka kc aa ac ba bc) l:=⟨_,_,_,_,_,_,rfl,h⟩
theorem NLV.call {v:Value} (h:NLV w w.heap.size v l) (hb:Below w.heap.size w w'):NLV w' w'.heap.size v l:=by
 obtain ⟨ka,kc,aa,ac,ba,bc,h1,h2⟩:=h
 exact ⟨ka,kc,aa,ac,ba,bc,h1,h2.call hb⟩
theorem NA.same (h:NA w B l ka kc aa ac ba bc) (hs:∀ k,k < B→w'.heap[k]? = w.heap[k]?):NA w' B l ka kc aa ac ba bc :=
 h.keep fun p hp=>World.cell?_of_block (hs p.block hp)
end
theorem Blk.c4 {w:World} {g:Nat} {t:TypeId} {a b c d:Value} (h:Blk w g t #[a,b,c,d]) :
  w.cell? ⟨g,0,none⟩=some a∧w.cell? ⟨g,1,none⟩=some b∧w.cell? ⟨g,2,none⟩=some c∧w.cell? ⟨g,3,none⟩=some d:=by
 simp [h.cell]
structure NB (W:World) (g:Nat) (l:NL) (ka:Option Addr) (kc:Nat) (aa:Option Addr) (ac:Nat) (ba:Option Addr) (bc:Nat):Prop where
 blk:Blk W g 33 #[.int .i64 l.n,.slice ka l.links.length kc,.slice aa l.left.length ac,.slice ba l.right.length bc]
 na:NA W W.heap.size l ka kc aa ac ba bc
section
variable {w W W':World} {g:Nat} {l:NL} {ka aa ba:Option Addr} {kc ac bc:Nat}
theorem NB.new (hp:NA w w.heap.size l ka kc aa ac ba bc):NB (w.alloc (.cells #[.int .i64 l.n,.slice ka l.links.length kc,.slice aa l.left.length ac,.slice ba l.right.length bc] 33)) w.heap.size l ka kc aa ac ba bc :=
 ⟨Blk.new _ _ _,(hp.keep fun p hp=>World.cell?_alloc_lt w _ p (by omega)).more (by simp)⟩
theorem NB.call (h:NB W g l ka kc aa ac ba bc) (hb:Below W.heap.size W W'):NB W' g l ka kc aa ac ba bc:=⟨h.blk.call hb,h.na.call hb⟩
theorem NB.v (h:NB W g l ka kc aa ac ba bc):NLV W W.heap.size (.agg #[.int .i64 l.n,.slice ka l.links.length kc,.slice aa l.left.length ac,.slice ba l.right.length bc]) l := .of h.na
end
theorem link_at {w:World} {B n c:Nat} {A:Option Addr} {ls:List LkI} (h:Arr w B 3 (.slice A n c) ls lkcell) {k:Nat} (hk:k < ls.length) :
  ∃ b off x,A=some ⟨b,off,none⟩∧b < B∧ls[k]? = some x∧w.cell? ⟨b,off+k * 3,none⟩=some (.int .i64 x.one)∧w.cell? ⟨b,off+k * 3+1,none⟩=some (.int .i64 x.two)∧w.cell? ⟨b,off+k * 3+2,none⟩=some (.int .i64 x.trust):=by
 obtain ⟨b,off,x,h1,h2,h3,h4⟩:=h.at_ hk
 exact ⟨b,off,x,h1,h2,h3,h4 0 (by omega),h4 1 (by omega),h4 2 (by omega)⟩
theorem numx_at {w:World} {B n c:Nat} {A:Option Addr} {l:List Int} (h:Arr w B 1 (.slice A n c) l icell) {k:Nat} (hk:k < l.length) :
  ∃ b off x,A=some ⟨b,off,none⟩∧b < B∧l[k]? = some x∧w.cell? ⟨b,off+k,none⟩=some (.int .i64 x):=row_cell2 h hk
abbrev VL:=Value×List Int
def vlcell (x:VL) (_:Nat):Value:=x.1
def LLB (w:World) (B:Nat) (v:Value) (ls:List (List Int)):Prop :=
 ∃ xs:List VL,xs.map (·.2)=ls∧Arr w B 1 v xs vlcell∧∀ x∈xs,Arr w B 1 x.1 x.2 icell
abbrev LLi (w:World) (v:Value) (ls:List (List Int)):Prop:=LLB w w.heap.size v ls
theorem LLB.keep {w w':World} {B:Nat} {v:Value} {ls:List (List Int)} (h:LLB w B v ls) (hk:∀ p:Addr,p.block < B→w'.cell? p=w.cell? p):LLB w' B v ls:=by
 obtain ⟨xs,h1,h2,h3⟩:=h
 exact ⟨xs,h1,h2.keep hk,fun x hx=>(h3 x hx).keep hk⟩
theorem LLB.below {w w':World} {B:Nat} {v:Value} {ls:List (List Int)} (h:LLB w B v ls) (hb:Below B w w'):LLB w' B v ls:=h.keep fun p hp=>hb.cell hp
theorem LLB.more {w:World} {B B':Nat} {v:Value} {ls:List (List Int)} (h:LLB w B v ls) (hB:B≤B'):LLB w B' v ls:=by
 obtain ⟨xs,h1,h2,h3⟩:=h
 exact ⟨xs,h1,h2.more hB,fun x hx=>(h3 x hx).more hB⟩
theorem LLB.call {w w':World} {v:Value} {ls:List (List Int)} (h:LLi w v ls) (hb:Below w.heap.size w w'):LLi w' v ls:=(h.below hb).more hb.size
theorem LLB.form {w:World} {B:Nat} {v:Value} {ls:List (List Int)} (h:LLB w B v ls):∃ A cap,v = .slice A ls.length cap∧ls.length≤cap∧cap≤9223372036854775807:=by
 obtain ⟨xs,rfl,⟨A,cap,h1,h4,h5, -⟩, -⟩:=h
 rw [List.length_map]
 exact ⟨A,cap,h1,h4,h5⟩
theorem LLB.at_ {w:World} {B:Nat} {A:Option Addr} {n cap:Nat} {ls:List (List Int)} (h:LLB w B (.slice A n cap) ls) {i:Nat} {l:List Int} (hi:ls[i]? = some l) :
  ∃ b off lA lc,A=some ⟨b,off,none⟩∧b < B∧w.cell? ⟨b,off+i,none⟩=some (.slice lA l.length lc)∧Arr w B 1 (.slice lA l.length lc) l icell:=by
 obtain ⟨xs,rfl,h2,h3⟩:=h
 rw [List.getElem?_map,Option.map_eq_some_iff] at hi
 obtain ⟨x,hx,rfl⟩:=hi
 have hlt:=(List.getElem?_eq_some_iff.1 hx).1
 obtain ⟨b,off,y,g1,g2,g3,g4⟩:=h2.at_ (k:=i) hlt
 rw [hx] at g3
 injection g3 with g3
 subst g3
 have ha:=h3 x (List.mem_of_getElem? hx)
 obtain ⟨lA,lc,e, -⟩:=id ha
 have g5:=g4 0 (by omega)
 rw [Nat.mul_one,Nat.add_zero] at g5
 unfold vlcell at g5
 rw [e] at g5 ha
 exact ⟨b,off,lA,lc,g1,g2,g5,ha⟩
theorem LLB.nil_ {w:World} {B:Nat}:LLB w B (.slice none 0 0) []:=⟨[],rfl,Arr.nil_,fun x hx=>by cases hx⟩
def netC (l:NL) (ka:Option Addr) (kc:Nat) (aa:Option Addr) (ac:Nat) (ba:Option Addr) (bc:Nat) (dv fv:Value) (h:Nat→Nat):Array Value :=
 #[.int .i64 l.n,.slice ka l.links.length kc,.slice aa l.left.length ac,.slice ba l.right.length bc,dv,fv]++rowA 40 fun u => .int .i64 (h u:Int)
theorem netC_low {l:NL} {ka aa ba:Option Addr} {kc ac bc:Nat} {dv fv:Value} {h:Nat→Nat} :
  (netC l ka kc aa ac ba bc dv fv h)[0]? = some (.int .i64 l.n)∧(netC l ka kc aa ac ba bc dv fv h)[1]? = some (.slice ka l.links.length kc)∧(netC l ka kc aa ac ba bc dv fv h)[2]? = some (.slice aa l.left.length ac) ∧
  (netC l ka kc aa ac ba bc dv fv h)[3]? = some (.slice ba l.right.length bc)∧(netC l ka kc aa ac ba bc dv fv h)[4]? = some dv∧(netC l ka kc aa ac ba bc dv fv h)[5]? = some fv:=by
 unfold netC
 refine ⟨?_,?_,?_,?_,?_,?_⟩ <;> (rw [Array.getElem?_append_left (by simp)]; rfl)
theorem netC_high {l:NL} {ka aa ba:Option Addr} {kc ac bc:Nat} {dv fv:Value} {h:Nat→Nat} {u:Nat} (hu:u < 40):(netC l ka kc aa ac ba bc dv fv h)[6+u]? = some (.int .i64 (h u:Int)):=by
 unfold netC
 rw [Array.getElem?_append_right (by simp)]
 rw [show 6+u-(#[Value.int .i64 l.n,.slice ka l.links.length kc,.slice aa l.left.length ac,.slice ba l.right.length bc,dv,fv]:Array Value).size=u by simp]
 exact rowA_get hu
theorem netC_set {l:NL} {ka aa ba:Option Addr} {kc ac bc:Nat} {dv fv:Value} {h:Nat→Nat} {u n:Nat} (hu:u < 40):(netC l ka kc aa ac ba bc dv fv h).setIfInBounds (6+u) (.int .i64 (n:Int))=netC l ka kc aa ac ba bc dv fv (raiseH h u n):=by
 unfold netC
 rw [Array.setIfInBounds_append_right (by simp)]
 rw [show 6+u-(#[Value.int .i64 l.n,.slice ka l.links.length kc,.slice aa l.left.length ac,.slice ba l.right.length bc,dv,fv]:Array Value).size=u by simp]
 congr 1
 exact rowA_set fun j _=>by unfold raiseH; by_cases e:j=u <;> simp [e]
structure NetM (W:World) (B G:Nat) (l:NL) (ka:Option Addr) (kc:Nat) (aa:Option Addr) (ac:Nat) (ba:Option Addr) (bc:Nat) (da:Option Addr) (dc:Nat) (drop:List Int) (fv:Value) (h:Nat→Nat):Prop where
 blk:Blk W G 156 (netC l ka kc aa ac ba bc (.slice da drop.length dc) fv h)
 na:NA W B l ka kc aa ac ba bc
 dr:Arr W B 1 (.slice da drop.length dc) drop icell
 le:B≤G
section
variable {W W':World} {B G:Nat} {l:NL} {ka aa ba da:Option Addr} {kc ac bc dc:Nat} {drop:List Int} {fv:Value} {h:Nat→Nat}
theorem NetM.lt (m:NetM W B G l ka kc aa ac ba bc da dc drop fv h):G < W.heap.size:=m.blk.lt
theorem NetM.keep (m:NetM W B G l ka kc aa ac ba bc da dc drop fv h) (hs:∀ k,k < B∨k=G→W'.heap[k]? = W.heap[k]?):NetM W' B G l ka kc aa ac ba bc da dc drop fv h :=
 ⟨(hs G (.inr rfl)).trans m.blk,m.na.same fun k hk=>hs k (.inl hk),m.dr.keep fun p hp=>World.cell?_of_block (hs p.block (.inl hp)),m.le⟩
theorem NetM.call (m:NetM W B G l ka kc aa ac ba bc da dc drop fv h) (hb:Below W.heap.size W W'):NetM W' B G l ka kc aa ac ba bc da dc drop fv h :=
 m.keep fun k hk=>hb.block k (by have:=m.lt; have:=m.le; omega)
theorem NetM.drew (m:NetM W B G l ka kc aa ac ba bc da dc drop fv h):NetM W.drew B G l ka kc aa ac ba bc da dc drop fv h:=m.keep fun _ _=>rfl
theorem NetM.c6 (m:NetM W B G l ka kc aa ac ba bc da dc drop fv h):W.cell? ⟨G,0,none⟩=some (.int .i64 l.n)∧W.cell? ⟨G,1,none⟩=some (.slice ka l.links.length kc)∧W.cell? ⟨G,2,none⟩=some (.slice aa l.left.length ac) ∧
  W.cell? ⟨G,3,none⟩=some (.slice ba l.right.length bc)∧W.cell? ⟨G,4,none⟩=some (.slice da drop.length dc)∧W.cell? ⟨G,5,none⟩=some fv:=by
 simp only [m.blk.cell]
 exact netC_low
theorem NetM.hi (m:NetM W B G l ka kc aa ac ba bc da dc drop fv h) {u:Nat} (hu:u < 40):W.cell? ⟨G,6+u,none⟩=some (.int .i64 (h u:Int)):=by
 rw [m.blk.cell]
 exact netC_high hu
theorem NetM.grown (m:NetM W B G l ka kc aa ac ba bc da dc drop fv h) {row:Option Nat} (hg:W.grownBy W' row) (hr:∀ r,row=some r→B≤r∧r≠G):NetM W' B G l ka kc aa ac ba bc da dc drop fv h :=
 m.keep fun k hk=>hg.block k (by have:=m.lt; have:=m.le; omega) fun e=>by have:=hr k e.symm; omega
theorem NetM.put (m:NetM W B G l ka kc aa ac ba bc da dc drop fv h) {u:Nat} (hu:u < 40) (n:Nat):NetM (W.setCell ⟨G,6+u,none⟩ (.int .i64 (n:Int))) B G l ka kc aa ac ba bc da dc drop fv (raiseH h u n) :=
 ⟨by have:=m.blk.set_ (6+u) (.int .i64 (n:Int)); rwa [netC_set hu] at this,m.na.same fun k hk=>Below.heap_setCell W _ _ k (by have:=m.le; show k≠G; omega),
  m.dr.keep fun p hp=>World.cell?_of_block (Below.heap_setCell W _ _ p.block (by have:=m.le; show p.block≠G; omega)),m.le⟩
end
def FlowB (W:World) (fb m:Nat) (f:Nat→Int):Prop:=Blk W fb 2 (rowA m fun i => .int .i64 (f i))
section
variable {W W':World} {fb m:Nat} {f:Nat→Int}
theorem FlowB.lt (h:FlowB W fb m f):fb < W.heap.size:=Blk.lt h
theorem FlowB.at_ (h:FlowB W fb m f) {i:Nat} (hi:i < m):W.cell? ⟨fb,i,none⟩=some (.int .i64 (f i)):=by
 rw [Blk.cell h,rowA_get hi]
theorem FlowB.fz (h:FlowB W fb m f) (i:Nat):W.frozen? ⟨fb,i,none⟩=false:=Blk.frozen h i
theorem FlowB.put (h:FlowB W fb m f) {i:Nat} {x:Int} {g:Nat→Int} (hg:∀ j,j < m→g j=if j=i then x else f j):FlowB (W.setCell ⟨fb,i,none⟩ (.int .i64 x)) fb m g:=by
 have:=Blk.set_ h i (.int .i64 x)
 rwa [rowA_set (g:=fun i => .int .i64 (g i)) fun j hj=>by rw [hg j hj]; split <;> rfl] at this
theorem FlowB.congr (h:FlowB W fb m f) {g:Nat→Int} (hg:∀ i,i < m→f i=g i):FlowB W fb m g:=by
 unfold FlowB at h ⊢
 rwa [rowA_congr fun i hi=>by rw [hg i hi]] at h
end
def AmtB (W:World) (kb:Nat) (K:Nat→Int):Prop:=Blk W kb 158 (rowA 40 fun u => .int .i64 (K u))
section
variable {W W':World} {kb:Nat} {K:Nat→Int}
theorem AmtB.at_ (h:AmtB W kb K) {i:Nat} (hi:i < 40):W.cell? ⟨kb,i,none⟩=some (.int .i64 (K i)):=by
 rw [Blk.cell h,rowA_get hi]
theorem AmtB.put (h:AmtB W kb K) {i:Nat} {x:Int} {g:Nat→Int} (hg:∀ j,j < 40→g j=if j=i then x else K j):AmtB (W.setCell ⟨kb,i,none⟩ (.int .i64 x)) kb g:=by
 have:=Blk.set_ h i (.int .i64 x)
 rwa [rowA_set (g:=fun i => .int .i64 (g i)) fun j hj=>by rw [hg j hj]; split <;> rfl] at this
end
def wayF (v:Nat):Option (Option (Nat×Nat))→Int
 | none=>0
 | some none=>v
 | some (some p)=>p.1
def wayT (v:Nat):Option (Option (Nat×Nat))→Int
 | none=>0
 | some _=>v
def wayL (v:Nat):Option (Option (Nat×Nat))→Int
 | none=>0
 | some none => -1
 | some (some p)=>p.2
def wayV (v:Nat) (o:Option (Option (Nat×Nat))):Value := .agg #[.int .i64 (wayF v o),.int .i64 (wayT v o),.int .i64 (wayL v o)]
def wayCell (o:Nat→Option (Option (Nat×Nat))) (c:Nat):Value:=if c % 3=0 then .int .i64 (wayF (c / 3) (o (c / 3))) else if c % 3=1 then .int .i64 (wayT (c / 3) (o (c / 3))) else .int .i64 (wayL (c / 3) (o (c / 3)))
def WayB (W:World) (ob n:Nat) (o:Nat→Option (Option (Nat×Nat))):Prop:=Blk W ob 131 (rowA (n * 3) (wayCell o))
section
variable {W W':World} {ob n:Nat} {o:Nat→Option (Option (Nat×Nat))}
theorem WayB.at_ (h:WayB W ob n o) {v:Nat} (hv:v < n):W.cell? ⟨ob,v * 3,none⟩=some (.int .i64 (wayF v (o v)))∧W.cell? ⟨ob,v * 3+1,none⟩=some (.int .i64 (wayT v (o v)))∧W.cell? ⟨ob,v * 3+2,none⟩=some (.int .i64 (wayL v (o v))):=by
 have e0:v * 3 / 3=v:=by omega
 have e1:(v * 3+1) / 3=v:=by omega
 have e2:(v * 3+2) / 3=v:=by omega
 refine ⟨?_,?_,?_⟩
 ·rw [Blk.cell h,rowA_get (by omega),wayCell,if_pos (by omega),e0]
 ·rw [Blk.cell h,rowA_get (by omega),wayCell,if_neg (by omega),if_pos (by omega),e1]
 ·rw [Blk.cell h,rowA_get (by omega),wayCell,if_neg (by omega),if_neg (by omega),e2]
theorem WayB.put (h:WayB W ob n o) {v:Nat} (x:Option (Option (Nat×Nat))) {o':Nat→Option (Option (Nat×Nat))} (ho:∀ u,u < n→o' u=if u=v then x else o u) :
  WayB (((W.setCell ⟨ob,v * 3,none⟩ (.int .i64 (wayF v x))).setCell ⟨ob,v * 3+1,none⟩ (.int .i64 (wayT v x))).setCell ⟨ob,v * 3+2,none⟩ (.int .i64 (wayL v x))) ob n o':=by
 have:=((Blk.set_ h (v * 3) (.int .i64 (wayF v x))).set_ (v * 3+1) (.int .i64 (wayT v x))).set_ (v * 3+2) (.int .i64 (wayL v x))
 unfold WayB
 rw [rowA_set (g:=fun j=>if j=v * 3 then .int .i64 (wayF v x) else wayCell o j) fun j _=>rfl,rowA_set (g:=fun j=>if j=v * 3+1 then .int .i64 (wayT v x) else if j=v * 3 then .int .i64 (wayF v x) else wayCell o j) fun j _=>rfl,
  rowA_set (g:=wayCell o') fun j hj=>?_] at this
 ·exact this
 ·have hq:o' (j / 3)=if j / 3=v then x else o (j / 3):=ho _ (by omega)
  unfold wayCell
  rw [hq]
  by_cases hv:j / 3=v
  ·rw [if_pos hv]
   rcases (by omega:j=v * 3∨j=v * 3+1∨j=v * 3+2) with e | e | e
   ·have h1:j % 3=0:=by omega
    rw [if_pos h1,if_neg (show ¬ j=v * 3+2 by omega),if_neg (show ¬ j=v * 3+1 by omega),if_pos e,hv]
   ·have h1:j % 3=1:=by omega
    rw [if_neg (show ¬ j % 3=0 by omega),if_pos h1,if_neg (show ¬ j=v * 3+2 by omega),if_pos e,hv]
   ·have h1:j % 3=2:=by omega
    rw [if_neg (show ¬ j % 3=0 by omega),if_neg (show ¬ j % 3=1 by omega),if_pos e,hv]
  ·rw [if_neg hv,if_neg (show ¬ j=v * 3+2 by omega),if_neg (show ¬ j=v * 3+1 by omega),if_neg (show ¬ j=v * 3 by omega)]
end
end Go.Proofs.YtibmeigdjghkcaaGreat
namespace Go.Proofs.YtibmeigdjghkcaaGreat
open Go.RowKit Go.Shelf
set_option linter.unusedVariables false
def idxOf {α:Type} (p:α→Bool):Nat→List α→Int
 | _,[] => -1
 | i,x::l=>if p x=true then i else idxOf p (i+1) l
theorem idxOf_nonneg {α:Type} (p:α→Bool):∀ (l:List α) (i:Nat),(decide (0≤idxOf p i l))=l.any p
 | [],i=>rfl
 | x::l,i=>by
   unfold idxOf
   rw [List.any_cons]
   by_cases h:p x=true
   ·rw [if_pos h,h]
    simp
   ·rw [if_neg h,idxOf_nonneg p l (i+1)]
    simp [h]
theorem idxOf_drop {α:Type} (p:α→Bool) (l:List α) (k:Nat) (x:α) (h:l[k]? = some x):idxOf p k (l.drop k)=if p x=true then (k:Int) else idxOf p (k+1) (l.drop (k+1)):=by
 rw [drop_cons h]
 rfl
theorem index_int_ok (sv:Value) (l:List Int) (v:Int) (w:World) (hs:Arr w w.heap.size 1 sv l icell) :
  Calls Tryz.prog 138 #[sv,.int .i64 v] w fun r w'=>r = .returned (.int .i64 (idxOf (fun x=>v==x) 0 l))∧Below w.heap.size w w':=by
 obtain ⟨A,c,rfl,hn,hc,hcell⟩:=hs
 go_enter Tryz.func138,Tryz.ntmps138
 go_wp2
 go_loopw [5,8] (fun x i wr=>∃ k:Nat,k≤l.length∧i = .int .i64 k∧idxOf (fun x=>v==x) 0 l=idxOf (fun x=>v==x) k (l.drop k)∧Below w.heap.size w wr) (fun _ i _=>l.length-(intOf i).toNat)
 case atStart=>exact ⟨0,Nat.zero_le _,rfl,rfl,Below.refl _ _⟩
 case round =>
  obtain ⟨k,hk,rfl,hf,hb⟩:=hrel
  by_cases hlt:k < l.length
  ·obtain ⟨b,off,rfl,hB,hcc⟩:=hcell (by omega)
   obtain ⟨x,hx⟩:∃ x,l[k]? = some x:=⟨l[k],List.getElem?_eq_getElem hlt⟩
   have hce:=(hb.cell (p:=⟨b,off+k*1+0,none⟩) hB).trans (hcc k x hx 0 (by omega))
   simp only [Nat.mul_one,Nat.add_zero] at hce
   rw [idxOf_drop _ l k x hx] at hf
   have H:=Lib.hid hf; clear hf
   clear hcc hcell hx
   by_cases hv:v=x
   ·have h1:(v==x)=true:=by simpa using hv
    have HV:Hid ((v==x)=true):=h1
    go_wp2
    go_ret
    exact ⟨ret_i (by rw [H.out]; simp [HV.out]),hb⟩
   ·have h1:(v==x)=false:=by simpa using hv
    have HV:Hid ((v==x)=false):=h1
    go_wp2
    go_roundw
    case rel=>exact ⟨k+1,by omega,by go_num,by rw [H.out]; simp [HV.out],hb⟩
    case measure=>(simp [intOf]; try omega)
  ·obtain rfl:k=l.length:=by omega
   have H:=Lib.hid hf; clear hf
   go_wp2
   go_ret
   exact ⟨by rw [H.out]; simp [idxOf],hb⟩
theorem contains_int_ok (sv:Value) (l:List Int) (v:Int) (w:World) (hs:Arr w w.heap.size 1 sv l icell) :
  Calls Tryz.prog 67 #[sv,.int .i64 v] w fun r w'=>r = .returned (.bool (l.any fun x=>v==x))∧Below w.heap.size w w':=by
 have hi:=index_int_ok sv l v w hs
 have HD:=Lib.hid (idxOf_nonneg (fun x=>v==x) l 0)
 clear hs
 go_enter Tryz.func67,Tryz.ntmps67
 go_wp2_with (go_at_call 138; refine hi.mono ?_; rintro e w1 ⟨rfl,hb1⟩)
 go_ret
 exact ⟨by rw [← HD.out]; simp,hb1⟩
set_option maxHeartbeats 400000 in
theorem indexFunc_int (sv:Value) (l:List Int) (fn:FuncId) (fs cs:Array Value) (p:Int→Bool) (w:World)
 (eg:∀ args w,(callFunc fn args).run Tryz.prog w = .ok (.enter fn args) w)
 (hs:Arr w w.heap.size 1 sv l icell)
 (hcall:∀ x∈l,∀ w1,Below w.heap.size w w1→Calls Tryz.prog fn (fs.push (.int .i64 x)++cs) w1 fun e w2=>e = .returned (.bool (p x))∧Below w1.heap.size w1 w2) :
  Calls Tryz.prog 256 #[sv,.func (.func fn) fs cs] w fun r w'=>r = .returned (.int .i64 (idxOf p 0 l))∧Below w.heap.size w w':=by
 obtain ⟨A,c,rfl,hn,hc,hcell⟩:=hs
 go_enter Tryz.func256,Tryz.ntmps256
 go_wp2
 go_loopw [5,8] (fun x i wr=>∃ k:Nat,k≤l.length∧i = .int .i64 k∧idxOf p 0 l=idxOf p k (l.drop k)∧Below w.heap.size w wr) (fun _ i _=>l.length-(intOf i).toNat)
 case atStart=>exact ⟨0,Nat.zero_le _,rfl,rfl,Below.refl _ _⟩
 case round =>
  obtain ⟨k,hk,rfl,hf,hb⟩:=hrel
  by_cases hlt:k < l.length
  ·obtain ⟨b,off,rfl,hB,hcc⟩:=hcell (by omega)
   obtain ⟨x,hx⟩:∃ x,l[k]? = some x:=⟨l[k],List.getElem?_eq_getElem hlt⟩
   have c0:=(hb.cell (p:=⟨b,off+k*1+0,none⟩) hB).trans (hcc k x hx 0 (by omega))
   simp only [Nat.mul_one,Nat.add_zero,icell] at c0
   have hcl:=hcall x (List.mem_of_getElem? hx) wr hb
   rw [idxOf_drop p l k x hx] at hf
   have H:=Lib.hid hf; clear hf
   have HX:=Lib.hid hx; clear hx
   clear hcall hcc hcell
   go_wp2_with (refine hcl.mono ?_; rintro e w1 ⟨rfl,hb1⟩)
   ·go_ret
    exact ⟨by rw [H.out]; simp [*],bthen hb hb1⟩
   ·go_roundw
    case rel=>exact ⟨k+1,by omega,by go_num,by rw [H.out]; simp [*],bthen hb hb1⟩
    case measure=>simp [intOf]; omega
  ·obtain rfl:k=l.length:=by omega
   have H:=Lib.hid hf; clear hf
   go_wp2
   go_ret
   exact ⟨by rw [H.out]; simp [idxOf],hb⟩
theorem containsFunc_int (sv:Value) (l:List Int) (fn:FuncId) (fs cs:Array Value) (p:Int→Bool) (w:World)
 (eg:∀ args w,(callFunc fn args).run Tryz.prog w = .ok (.enter fn args) w)
 (hs:Arr w w.heap.size 1 sv l icell)
 (hcall:∀ x∈l,∀ w1,Below w.heap.size w w1→Calls Tryz.prog fn (fs.push (.int .i64 x)++cs) w1 fun e w2=>e = .returned (.bool (p x))∧Below w1.heap.size w1 w2) :
  Calls Tryz.prog 160 #[sv,.func (.func fn) fs cs] w fun r w'=>r = .returned (.bool (l.any p))∧Below w.heap.size w w':=by
 have hi:=indexFunc_int sv l fn fs cs p w eg hs hcall
 have HD:=Lib.hid (idxOf_nonneg p l 0)
 clear hcall hs
 go_enter Tryz.func160,Tryz.ntmps160
 go_wp2_with (go_at_call 256; refine hi.mono ?_; rintro e w1 ⟨rfl,hb1⟩)
 go_ret
 exact ⟨by rw [← HD.out]; simp,hb1⟩
set_option maxHeartbeats 400000 in
theorem indexFunc_lk (sv:Value) (l:List LkI) (fn:FuncId) (fs cs:Array Value) (p:LkI→Bool) (w:World)
 (eg:∀ args w,(callFunc fn args).run Tryz.prog w = .ok (.enter fn args) w)
 (hs:Arr w w.heap.size 3 sv l lkcell)
 (hcall:∀ x∈l,∀ w1,Below w.heap.size w w1→Calls Tryz.prog fn (fs.push (.agg #[.int .i64 x.one,.int .i64 x.two,.int .i64 x.trust])++cs) w1 fun e w2=>e = .returned (.bool (p x))∧Below w1.heap.size w1 w2) :
  Calls Tryz.prog 326 #[sv,.func (.func fn) fs cs] w fun r w'=>r = .returned (.int .i64 (idxOf p 0 l))∧Below w.heap.size w w':=by
 obtain ⟨A,c,rfl,hn,hc,hcell⟩:=hs
 go_enter Tryz.func326,Tryz.ntmps326
 go_wp2
 go_loopw [5,8] (fun x i wr=>∃ k:Nat,k≤l.length∧i = .int .i64 k∧idxOf p 0 l=idxOf p k (l.drop k)∧Below w.heap.size w wr) (fun _ i _=>l.length-(intOf i).toNat)
 case atStart=>exact ⟨0,Nat.zero_le _,rfl,rfl,Below.refl _ _⟩
 case round =>
  obtain ⟨k,hk,rfl,hf,hb⟩:=hrel
  by_cases hlt:k < l.length
  ·obtain ⟨b,off,rfl,hB,hcc⟩:=hcell (by omega)
   obtain ⟨x,hx⟩:∃ x,l[k]? = some x:=⟨l[k],List.getElem?_eq_getElem hlt⟩
   have c0:=(hb.cell (p:=⟨b,off+k*3+0,none⟩) hB).trans (hcc k x hx 0 (by omega))
   have c1:=(hb.cell (p:=⟨b,off+k*3+1,none⟩) hB).trans (hcc k x hx 1 (by omega))
   have c2:=(hb.cell (p:=⟨b,off+k*3+2,none⟩) hB).trans (hcc k x hx 2 (by omega))
   simp only [Nat.add_zero,lkcell] at c0 c1 c2
   have hcl:=hcall x (List.mem_of_getElem? hx) wr hb
   rw [idxOf_drop p l k x hx] at hf
   have H:=Lib.hid hf; clear hf
   have HX:=Lib.hid hx; clear hx
   clear hcall hcc hcell
   go_wp2_with (refine hcl.mono ?_; rintro e w1 ⟨rfl,hb1⟩)
   ·go_ret
    exact ⟨by rw [H.out]; simp [*],bthen hb hb1⟩
   ·go_roundw
    case rel=>exact ⟨k+1,by omega,by go_num,by rw [H.out]; simp [*],bthen hb hb1⟩
    case measure=>simp [intOf]; omega
  ·obtain rfl:k=l.length:=by omega
   have H:=Lib.hid hf; clear hf
   go_wp2
   go_ret
   exact ⟨by rw [H.out]; simp [idxOf],hb⟩
theorem containsFunc_lk (sv:Value) (l:List LkI) (fn:FuncId) (fs cs:Array Value) (p:LkI→Bool) (w:World)
 (eg:∀ args w,(callFunc fn args).run Tryz.prog w = .ok (.enter fn args) w)
 (hs:Arr w w.heap.size 3 sv l lkcell)
 (hcall:∀ x∈l,∀ w1,Below w.heap.size w w1→Calls Tryz.prog fn (fs.push (.agg #[.int .i64 x.one,.int .i64 x.two,.int .i64 x.trust])++cs) w1 fun e w2=>e = .returned (.bool (p x))∧Below w1.heap.size w1 w2) :
  Calls Tryz.prog 226 #[sv,.func (.func fn) fs cs] w fun r w'=>r = .returned (.bool (l.any p))∧Below w.heap.size w w':=by
 have hi:=indexFunc_lk sv l fn fs cs p w eg hs hcall
 have HD:=Lib.hid (idxOf_nonneg p l 0)
 clear hcall hs
 go_enter Tryz.func226,Tryz.ntmps226
 go_wp2_with (go_at_call 326; refine hi.mono ?_; rintro e w1 ⟨rfl,hb1⟩)
 go_ret
 exact ⟨by rw [← HD.out]; simp,hb1⟩
def minL:List Int→Int
 | []=>0
 | x::r=>r.foldl min x
def maxL:List Int→Int
 | []=>0
 | x::r=>r.foldl max x
theorem foldl_min_lt (z:Int):∀ (r:List Int) (x:Int),r.foldl min x < z↔x < z∨∃ y∈r,y < z
 | [],x=>by simp
 | y::r,x=>by
   rw [List.foldl_cons,foldl_min_lt z r]
   constructor
   ·rintro (h | ⟨q,hq,h⟩)
    ·rcases Int.lt_or_le x z with h2 | h2
     ·exact .inl h2
     ·exact .inr ⟨y,by simp,by omega⟩
    ·exact .inr ⟨q,by simp [hq],h⟩
   ·rintro (h | ⟨q,hq,h⟩)
    ·exact .inl (by omega)
    ·rcases List.mem_cons.1 hq with rfl | hq
     ·exact .inl (by omega)
     ·exact .inr ⟨q,hq,h⟩
theorem foldl_max_gt (z:Int):∀ (r:List Int) (x:Int),z < r.foldl max x↔z < x∨∃ y∈r,z < y
 | [],x=>by simp
 | y::r,x=>by
   rw [List.foldl_cons,foldl_max_gt z r]
   constructor
   ·rintro (h | ⟨q,hq,h⟩)
    ·rcases Int.lt_or_le z x with h2 | h2
     ·exact .inl h2
     ·exact .inr ⟨y,by simp,by omega⟩
    ·exact .inr ⟨q,by simp [hq],h⟩
   ·rintro (h | ⟨q,hq,h⟩)
    ·exact .inl (by omega)
    ·rcases List.mem_cons.1 hq with rfl | hq
     ·exact .inl (by omega)
     ·exact .inr ⟨q,hq,h⟩
theorem minL_lt (z:Int) (l:List Int) (h:l≠[]):decide (minL l < z)=l.any fun y=>decide (y < z):=by
 cases l with
 | nil=>exact absurd rfl h
 | cons x r =>
   rw [Bool.eq_iff_iff]
   simp [minL,foldl_min_lt]
theorem maxL_gt (z:Int) (l:List Int) (h:l≠[]):decide (z < maxL l)=l.any fun y=>decide (z < y):=by
 cases l with
 | nil=>exact absurd rfl h
 | cons x r =>
   rw [Bool.eq_iff_iff]
   simp [maxL,foldl_max_gt]
set_option maxHeartbeats 800000 in
theorem min_ok (sv:Value) (l:List Int) (w:World) (hne:l≠[]) (hs:Arr w w.heap.size 1 sv l icell) :
  Calls Tryz.prog 65 #[sv] w fun r w'=>r = .returned (.int .i64 (minL l))∧Below w.heap.size w w':=by
 obtain ⟨A,c,rfl,hn,hc,hcell⟩:=hs
 have hpos:0 < l.length:=List.length_pos_iff.2 hne
 obtain ⟨b,off,rfl,hB,hcc⟩:=hcell hpos
 have hm:minL l=(l.drop 1).foldl min (l[0]'hpos):=by
  cases l with
  | nil=>simp at hpos
  | cons x r=>rfl
 obtain ⟨x0,hx0⟩:∃ x,l[0]'hpos=x:=⟨_,rfl⟩
 have h0:=hcc 0 x0 (by rw [← hx0]; exact List.getElem?_eq_getElem hpos) 0 (by omega)
 simp only [Nat.zero_mul,Nat.add_zero,icell] at h0
 rw [hx0] at hm
 obtain ⟨res,hres⟩:∃ res,minL l=res:=⟨_,rfl⟩
 rw [hres] at hm ⊢
 have HM:=Lib.hid hm
 have HC:=Lib.hid hcc
 clear hm hcc hcell hx0 hres
 go_enter Tryz.func65,Tryz.ntmps65
 go_wp2
 go_loop [3,4] (fun m i=>∃ (k:Nat) (x:Int),1≤k∧k≤l.length∧i = .int .i64 k∧m = .int .i64 x∧res=(l.drop k).foldl min x) (fun _ i=>l.length-(intOf i).toNat)
 case atStart=>exact ⟨1,x0,by omega,by omega,rfl,rfl,HM.out⟩
 case round =>
  obtain ⟨k,x,hk1,hk,rfl,rfl,hf⟩:=hrel
  by_cases hlt:k < l.length
  ·obtain ⟨y,hy⟩:∃ y,l[k]? = some y:=⟨l[k],List.getElem?_eq_getElem hlt⟩
   have hce:=HC.out k y hy 0 (by omega)
   simp only [Nat.mul_one,Nat.add_zero,icell] at hce
   rw [List.drop_eq_getElem_cons hlt,List.foldl_cons,show l[k]=y by rw [List.getElem?_eq_getElem hlt] at hy; injection hy] at hf
   have HF:=Lib.hid hf
   clear hf hy
   go_wp2
   all_goals
    go_round
    case rel=>exact ⟨k+1,min x y,by omega,by omega,by go_num,by first | rfl | (congr 1; omega),HF.out⟩
    case measure=>simp [intOf]; omega
  ·obtain rfl:k=l.length:=by omega
   have HF:=Lib.hid hf
   clear hf
   go_wp2
   go_ret
   exact ⟨by rw [HF.out]; simp,Below.refl _ _⟩
set_option maxHeartbeats 800000 in
theorem max_ok (sv:Value) (l:List Int) (w:World) (hne:l≠[]) (hs:Arr w w.heap.size 1 sv l icell) :
  Calls Tryz.prog 66 #[sv] w fun r w'=>r = .returned (.int .i64 (maxL l))∧Below w.heap.size w w':=by
 obtain ⟨A,c,rfl,hn,hc,hcell⟩:=hs
 have hpos:0 < l.length:=List.length_pos_iff.2 hne
 obtain ⟨b,off,rfl,hB,hcc⟩:=hcell hpos
 have hm:maxL l=(l.drop 1).foldl max (l[0]'hpos):=by
  cases l with
  | nil=>simp at hpos
  | cons x r=>rfl
 obtain ⟨x0,hx0⟩:∃ x,l[0]'hpos=x:=⟨_,rfl⟩
 have h0:=hcc 0 x0 (by rw [← hx0]; exact List.getElem?_eq_getElem hpos) 0 (by omega)
 simp only [Nat.zero_mul,Nat.add_zero,icell] at h0
 rw [hx0] at hm
 obtain ⟨res,hres⟩:∃ res,maxL l=res:=⟨_,rfl⟩
 rw [hres] at hm ⊢
 have HM:=Lib.hid hm
 have HC:=Lib.hid hcc
 clear hm hcc hcell hx0 hres
 go_enter Tryz.func66,Tryz.ntmps66
 go_wp2
 go_loop [3,4] (fun m i=>∃ (k:Nat) (x:Int),1≤k∧k≤l.length∧i = .int .i64 k∧m = .int .i64 x∧res=(l.drop k).foldl max x) (fun _ i=>l.length-(intOf i).toNat)
 case atStart=>exact ⟨1,x0,by omega,by omega,rfl,rfl,HM.out⟩
 case round =>
  obtain ⟨k,x,hk1,hk,rfl,rfl,hf⟩:=hrel
  by_cases hlt:k < l.length
  ·obtain ⟨y,hy⟩:∃ y,l[k]? = some y:=⟨l[k],List.getElem?_eq_getElem hlt⟩
   have hce:=HC.out k y hy 0 (by omega)
   simp only [Nat.mul_one,Nat.add_zero,icell] at hce
   rw [List.drop_eq_getElem_cons hlt,List.foldl_cons,show l[k]=y by rw [List.getElem?_eq_getElem hlt] at hy; injection hy] at hf
   have HF:=Lib.hid hf
   clear hf hy
   go_wp2
   all_goals
    go_round
    case rel=>exact ⟨k+1,max x y,by omega,by omega,by go_num,by first | rfl | (congr 1; omega),HF.out⟩
    case measure=>simp [intOf]; omega
  ·obtain rfl:k=l.length:=by omega
   have HF:=Lib.hid hf
   clear hf
   go_wp2
   go_ret
   exact ⟨by rw [HF.out]; simp,Below.refl _ _⟩
end Go.Proofs.YtibmeigdjghkcaaGreat
