/- Words for memory: lists in memory, blocks, rows of the call's own. The same for every seat. A range over a function that hands out a known list, in order; no round leaves the loop. The same for every seat. Maps whose keys are numbers, or anything whose sameness can be told: lookup, update, delete. The same for every seat. -/
import Derived.Test.YtibmeigdjghkcaaGreatProg
import Derived.WalkKit
import Derived.Outline
import Derived.Deep.QuietTactic
import Derived.Deep.Draws
import Derived.BigQuiet
import Derived.Lib.Hide
import Derived.RangeFuncCalls
import Derived.Shelf.Abstract
import Derived.ArgAppend
import Derived.Laws.OwnMore
import Derived.Deep.Cut
import Derived.Deep.CutBlock
import Derived.Deep.DeepCutAuto
import Derived.StillTailTactics
import Derived.Maps.AppendAt
import Derived.Laws.MakeOwn
import Derived.Laws.CopyOwn
import Derived.Laws.IdiomCopy
import Derived.Below
import Derived.RangeFuncNested
import Derived.Laws.StructEq
namespace Go.Proofs.YtibmeigdjghkcaaGreat
open Go.RowKit Go.Shelf
set_option linter.unusedVariables false
def Arr {α:Type} (w:World) (B size:Nat) (v:Value) (l:List α) (cell:α→Nat→Value):Prop :=
 ∃ A c,v = .slice A l.length c∧l.length≤c∧c≤9223372036854775807 ∧
  (0 < l.length→∃ b off,A=some ⟨b,off,none⟩∧b < B∧∀ i x,l[i]? = some x→∀ j,j < size→w.cell? ⟨b,off+i * size+j,none⟩=some (cell x j))
section
variable {α:Type} {w w':World} {B B' size:Nat} {v:Value} {l:List α} {cell:α→Nat→Value}
theorem Arr.keep (h:Arr w B size v l cell) (hk:∀ p:Addr,p.block < B→w'.cell? p=w.cell? p):Arr w' B size v l cell:=by
 obtain ⟨A,c,hv,h1,h2,h3⟩:=h
 refine ⟨A,c,hv,h1,h2,fun hl=>?_⟩
 obtain ⟨b,off,ha,hb,hc⟩:=h3 hl
 exact ⟨b,off,ha,hb,fun i x hx j hj=>(hk ⟨b,off+i * size+j,none⟩ hb).trans (hc i x hx j hj)⟩
theorem Arr.below (h:Arr w B size v l cell) (hb:Below B w w'):Arr w' B size v l cell:=h.keep fun p hp=>hb.cell hp
theorem Arr.more (h:Arr w B size v l cell) (hB:B≤B'):Arr w B' size v l cell:=by
 obtain ⟨A,c,hv,h1,h2,h3⟩:=h
 refine ⟨A,c,hv,h1,h2,fun hl=>?_⟩
 obtain ⟨b,off,ha,hb,hc⟩:=h3 hl
 exact ⟨b,off,ha,by omega,hc⟩
theorem Arr.alloc (h:Arr w B size v l cell) (hB:B≤w.heap.size) (o:Obj):Arr (w.alloc o) B size v l cell:=h.keep fun p hp=>World.cell?_alloc_lt w o p (by omega)
theorem Arr.nil_:Arr w B size (.slice none 0 0) ([]:List α) cell:=⟨none,0,rfl,Nat.le_refl _,by simp,fun h=>by simp at h⟩
end
theorem bthen {a b c:World} (h:Below a.heap.size a b) (k:Below b.heap.size b c):Below a.heap.size a c:=h.trans (k.mono h.size)
theorem bdrewN {B:Nat} {a b:World} (h:Below B a b) (n:Nat):Below B a (b.drewN n):=⟨h.os,h.tape,h.output,h.size,h.block⟩
def Blk (w:World) (g:Nat) (t:TypeId) (cs:Array Value):Prop:=w.heap[g]? = some (.cells cs t (0,0))
section
variable {w w':World} {g:Nat} {t:TypeId} {cs:Array Value}
theorem Blk.lt (h:Blk w g t cs):g < w.heap.size:=by
 rcases Nat.lt_or_ge g w.heap.size with hlt | hge
 ·exact hlt
 ·unfold Blk at h; rw [Array.getElem?_eq_none hge] at h; cases h
theorem Blk.cell (h:Blk w g t cs) (i:Nat):w.cell? ⟨g,i,none⟩=cs[i]? := by
 unfold Blk at h; simp [World.cell?,h]
theorem Blk.frozen (h:Blk w g t cs) (i:Nat):w.frozen? ⟨g,i,none⟩=false:=by
 unfold Blk at h; simp [World.frozen?,h]
theorem Blk.new (w:World) (t:TypeId) (cs:Array Value):Blk (w.alloc (.cells cs t)) w.heap.size t cs:=by
 unfold Blk World.alloc; simp
theorem Blk.alloc (h:Blk w g t cs) (o:Obj):Blk (w.alloc o) g t cs:=(Below.heap_alloc w o g h.lt).trans h
theorem Blk.drew (h:Blk w g t cs):Blk w.drew g t cs:=h
theorem Blk.drewN (h:Blk w g t cs) (n:Nat):Blk (w.drewN n) g t cs:=h
theorem Blk.set_ (h:Blk w g t cs) (i:Nat) (u:Value):Blk (w.setCell ⟨g,i,none⟩ u) g t (cs.setIfInBounds i u):=by
 unfold Blk at h ⊢
 simp [World.setCell,Array.getElem?_modify,h]
theorem Blk.far (h:Blk w g t cs) {p:Addr} (hp:g≠p.block) (u:Value):Blk (w.setCell p u) g t cs:=(Below.heap_setCell w p u g hp).trans h
theorem Blk.below {B:Nat} (h:Blk w g t cs) (hb:Below B w w') (hg:g < B):Blk w' g t cs:=(hb.block g hg).trans h
theorem Blk.call (h:Blk w g t cs) (hb:Below w.heap.size w w'):Blk w' g t cs:=h.below hb h.lt
end
abbrev icell (x:Int) (_:Nat):Value := .int .i64 x
def SlT (t e size bytes:Nat) (z:Value):Prop :=
 Tryz.prog.underlying t=some (.slice e)∧((Tryz.prog.info? e).map fun i=>(i.zero,i.size,i.bytes))=some (some z,size,bytes)∧z.cells.size=size∧0 < size
theorem own_mono {w:World} {base base':Nat} {e:TypeId} {size n:Nat} {v:Value} {xs:List Value} (h:w.ownsRow base' e size v n xs) (hb:base≤base'):w.ownsRow base e size v n xs:=by
 obtain ⟨h1,h2⟩:=h
 refine ⟨h1,?_⟩
 rcases h2 with h2 | ⟨g,cap,cur,h3,h4,h5⟩
 ·exact .inl h2
 ·exact .inr ⟨g,cap,cur,h3,by omega,h5⟩
theorem own_below {w w':World} {base B:Nat} {e:TypeId} {size n:Nat} {v:Value} {xs:List Value} (h:w.ownsRow base e size v n xs) (hb:Below B w w') (hB:w.heap.size≤B):w'.ownsRow base e size v n xs:=by
 obtain ⟨h1,h2⟩:=h
 refine ⟨h1,?_⟩
 rcases h2 with h2 | ⟨g,cap,cur,h3,h4,h5,h6⟩
 ·exact .inl h2
 ·have hg:g < w.heap.size:=by
   rcases Nat.lt_or_ge g w.heap.size with h | h
   ·exact h
   ·rw [Array.getElem?_eq_none h] at h5; cases h5
  exact .inr ⟨g,cap,cur,h3,h4,(hb.block g (by omega)).trans h5,h6⟩
theorem own_call {w w':World} {base:Nat} {e:TypeId} {size n:Nat} {v:Value} {xs:List Value} (h:w.ownsRow base e size v n xs) (hb:Below w.heap.size w w'):w'.ownsRow base e size v n xs:=own_below h hb (Nat.le_refl _)
theorem wpList_app1 {W:World} {ops:Array Oper} {rest:List Oper} {o:Oper} {a:Act} {Q:Exit→Act→World→Prop} {t e size bytes:Nat} {z:Value} (hT:SlT t e size bytes z)
  (hgd:o.guard=none) (s x:Operand) (ho:o.op = .call { callee := .builtin .append,args:=#[s,x],argTypes:=#[t,t] })
  {base n c cc:Nat} {A:Option Addr} {xs:List Value} {vals:Array Value} (hs:a.eval s = .slice A n cc) (hown:∃ cap,W.ownsRow base e size (.slice A n cap) n xs∧(cc=cap∨cc=n))
  (hx:a.eval x = .slice (some ⟨W.heap.size,0,none⟩) 1 c) (hvals:vals.size=size) (h1:∀ u∈vals.toList,u.oneCell'=true) (hbase:base≤W.heap.size)
  (h63:n+1≤1048576) (hby:bytes≤1024)
  (h:∀ v' w',w'.ownsRow base e size v' (n+1) (xs++vals.toList)→Below base W w'→(∀ g,g < W.heap.size→(∀ ad,A=some ad→ad.block≠g)→w'.heap[g]? = W.heap[g]?)→wpList Tryz.prog ops Q rest (a.put o.dst v') w') :
  wpList Tryz.prog ops Q (o::rest) a (W.alloc (.cells vals e)):=by
 obtain ⟨hT1,hT2,hT3,hT4⟩:=hT
 obtain ⟨i0,hi,hz0,hz1,hz2⟩:=info_parts hT2
 obtain ⟨cap,hown,hcc⟩:=hown
 have hbytes:(n+1) * bytes≤140737488355328:=Nat.le_trans (Nat.mul_le_mul h63 hby) (by decide)
 have hnew:Blk (W.alloc (.cells vals e)) W.heap.size e vals:=Blk.new _ _ _
 have hcell:∀ j u,vals.toList[j]? = some u→(W.alloc (.cells vals e)).cell? ((⟨W.heap.size,0,none⟩:Addr).add j)=some u:=by
  intro j u hu
  have:(⟨W.heap.size,0,none⟩:Addr).add j=⟨W.heap.size,j,none⟩:=by
   unfold Addr.add; split <;> simp_all
  rw [this,hnew.cell]
  simpa using hu
 have hlen:vals.toList.length=1 * size:=by simp [hvals]
 by_cases hfull:cc=cap
 ·subst hfull
  refine wpList_append_own (P:=Tryz.prog) (W.alloc (.cells vals e)) hgd s x t ho base e i0 z size bytes hT1 hi hz0 hz1 hz2 hT3 hT4 _ n xs hs (hown.alloc _) ⟨W.heap.size,0,none⟩ 1 c vals.toList hx hlen hcell h1 (by simp only [maxLen]; omega) hbytes (by simp; omega) ?_
  intro v' w' hown' hgrow _
  refine h v' w' hown' (((Below.refl _ _).alloc hbase _).grown hgrow (by simp; omega) fun k hk=>?_) fun g hg hne=>?_
  ·exact (hown.lt k hk).1
  ·refine (hgrow.block g (by simp; omega) fun hk=>?_).trans (Below.heap_alloc W _ g hg)
   cases A with
   | none=>simp [Value.ownBlock] at hk
   | some ad=>simp only [Value.ownBlock,Option.some.injEq] at hk; exact hne ad rfl hk.symm
 ·have hcn:cc=n:=hcc.resolve_left hfull
  subst hcn
  refine wpList_append_grows (P:=Tryz.prog) (W.alloc (.cells vals e)) hgd s x t ho e i0 z size bytes hT1 hi hz0 hz1 hz2 hT3 hT4 A cc cc xs hs ?_ hown.1 ?_ ⟨W.heap.size,0,none⟩ 1 c vals.toList hx hlen hcell h1 (by omega) (by simp only [maxLen]; omega) hbytes ?_
  ·intro hA
   rcases hown.2 with ⟨h2,h3⟩ | ⟨g,cap',cur,h3,_⟩
   ·exact ⟨h3,h3⟩
   ·rw [hA] at h3; cases h3
  ·intro b hb j u hu
   rcases hown.2 with ⟨h2,h3⟩ | ⟨g,cap',cur,h3,h4,h5,h6,h7,h8,h9⟩
   ·rw [hb] at h2; cases h2
   ·have hcl:=World.ownsRow.cells (hown.alloc (.cells vals e)) (g:=b.block) (by rw [hb]; rfl) j u hu
    have hb0:b=⟨g,0,none⟩:=by
     rw [hb] at h3
     simp only [Value.slice.injEq,Option.some.injEq] at h3
     exact h3.1
    have hb1:(⟨b.block,0,none⟩:Addr)=b:=by rw [hb0]
    rw [hb1] at hcl
    exact hcl
  ·intro v' w' hown' hgrow
   refine h v' w' (own_mono hown' (by simp; omega)) (((Below.refl _ _).alloc hbase _).grown hgrow (by simp; omega) fun k hk=>by cases hk) fun g hg hne=>?_
   exact (hgrow.block g (by simp; omega) fun hk=>by cases hk).trans (Below.heap_alloc W _ g hg)
theorem own_cap {w:World} {base:Nat} {e:TypeId} {size n m cap:Nat} {A:Option Addr} {xs:List Value} (h:w.ownsRow base e size (.slice A m cap) n xs):m=n∧n≤cap∧cap≤9223372036854775807:=by
 rcases h.2 with ⟨h1,h2⟩ | ⟨g,c,cur,h1,h2,h3,h4,h5,h6⟩
 ·injection h1 with _ h3 h4
  subst h3 h4 h2
  omega
 ·injection h1 with _ h7 h8
  subst h7 h8
  exact ⟨rfl,h4,by simpa only [maxLen] using h5⟩
theorem one_1 {k:IntKind} {n:Int}:∀ u∈(#[Value.int k n]:Array Value).toList,u.oneCell'=true:=by simp [Value.oneCell']
theorem one_3 {k k' k'':IntKind} {n n' n'':Int}:∀ u∈(#[Value.int k n,Value.int k' n',Value.int k'' n'']:Array Value).toList,u.oneCell'=true:=by simp [Value.oneCell']
theorem own_form {w:World} {base:Nat} {e:TypeId} {size n:Nat} {v:Value} {xs:List Value} (h:w.ownsRow base e size v n xs):∃ A cap,v = .slice A n cap:=by
 rcases h.2 with ⟨h1,h2⟩ | ⟨g,c,cur,h1,_⟩
 ·exact ⟨none,0,by rw [h1,h2]⟩
 ·exact ⟨_,_,h1⟩
def cellsOf {α:Type} (size:Nat) (cell:α→Nat→Value) (x:α):List Value:=(List.range size).map (cell x)
theorem flat_get {α:Type} (size:Nat) (cell:α→Nat→Value) (l:List α):∀ (i:Nat) (x:α),l[i]? = some x→∀ j,j < size→(l.flatMap (cellsOf size cell))[i * size+j]? = some (cell x j):=by
 induction l with
 | nil=>intro i x h; simp at h
 | cons y r ih =>
   intro i x h j hj
   have hlen:(cellsOf size cell y).length=size:=by simp [cellsOf]
   cases i with
   | zero =>
     simp at h
     subst h
     rw [List.flatMap_cons,List.getElem?_append_left (by omega)]
     simp [cellsOf,hj]
   | succ i =>
     rw [List.getElem?_cons_succ] at h
     rw [List.flatMap_cons,List.getElem?_append_right (by rw [hlen,Nat.add_mul]; omega),hlen]
     rw [show (i+1) * size+j-size=i * size+j by rw [Nat.add_mul]; omega]
     exact ih i x h j hj
theorem Arr.of_own {α:Type} {w:World} {base:Nat} {e:TypeId} {size:Nat} {v:Value} {l:List α} {cell:α→Nat→Value} (h:w.ownsRow base e size v l.length (l.flatMap (cellsOf size cell))):Arr w w.heap.size size v l cell:=by
 obtain ⟨h1,h2⟩:=h
 rcases h2 with ⟨hv,hn⟩ | ⟨g,cap,cur,hv,hg,hh,hc,hm,hs,ht⟩
 ·refine ⟨none,0,by rw [hv,hn],by omega,by omega,fun h=>by omega⟩
 ·refine ⟨some ⟨g,0,none⟩,cap,hv,hc,by simpa only [maxLen] using hm,fun hl=>⟨g,0,rfl,?_,fun i x hx j hj=>?_⟩⟩
  ·rcases Nat.lt_or_ge g w.heap.size with hlt | hge
   ·exact hlt
   ·rw [Array.getElem?_eq_none hge] at hh; cases hh
  ·have hf:=flat_get size cell l i x hx j hj
   rw [← ht,List.getElem?_take] at hf
   split at hf
   ·have hb:Blk w g e cur:=hh
    rw [hb.cell,Nat.zero_add]
    simpa using hf
   ·cases hf
theorem own_snoc {α:Type} {w:World} {base:Nat} {e:TypeId} {size n:Nat} {v:Value} {l:List α} {cell:α→Nat→Value} {x:α} {vals:Array Value} (hn:n=l.length) (hv:vals.toList=cellsOf size cell x)
  (h:w.ownsRow base e size v (n+1) (l.flatMap (cellsOf size cell)++vals.toList)):w.ownsRow base e size v (l++[x]).length ((l++[x]).flatMap (cellsOf size cell)):=by
 subst hn
 simpa [hv] using h
theorem Arr.at_ {α:Type} {w:World} {B size n c:Nat} {A:Option Addr} {l:List α} {cell:α→Nat→Value} (h:Arr w B size (.slice A n c) l cell) {k:Nat} (hk:k < l.length) :
  ∃ b off x,A=some ⟨b,off,none⟩∧b < B∧l[k]? = some x∧∀ j,j < size→w.cell? ⟨b,off+k * size+j,none⟩=some (cell x j):=by
 obtain ⟨A',c',hv,h1,h2,h3⟩:=h
 injection hv with hA _ _
 subst hA
 obtain ⟨b,off,ha,hb,hc⟩:=h3 (by omega)
 exact ⟨b,off,l[k],ha,hb,List.getElem?_eq_getElem hk,hc k _ (List.getElem?_eq_getElem hk)⟩
theorem Arr.len_ {α:Type} {w:World} {B size n c:Nat} {A:Option Addr} {l:List α} {cell:α→Nat→Value} (h:Arr w B size (.slice A n c) l cell):n=l.length∧l.length≤c∧c≤9223372036854775807:=by
 obtain ⟨A',c',hv,h1,h2,h3⟩:=h
 injection hv with _ hn hc
 subst hn hc
 exact ⟨rfl,h1,h2⟩
theorem grown_trans' {a b d:World} {r:Option Nat} (h:a.grownBy b r) (k:b.grownBy d r):a.grownBy d r :=
 ⟨k.os.trans h.os,k.tape.trans h.tape,k.output.trans h.output,Nat.le_trans h.size k.size,fun i hi hr=>(k.block i (Nat.lt_of_lt_of_le hi h.size) hr).trans (h.block i hi hr)⟩
theorem grown_call {w w':World} (h:Below w.heap.size w w') (r:Option Nat):w.grownBy w' r:=⟨h.os,h.tape,h.output,h.size,fun k hk _=>h.block k hk⟩
theorem grown_setCell {w:World} {g o:Nat} (v:Value):w.grownBy (w.setCell ⟨g,o,none⟩ v) (some g) :=
 ⟨rfl,rfl,rfl,by simp [World.setCell],fun i hi hr=>Below.heap_setCell w ⟨g,o,none⟩ v i (fun e=>hr (by rw [e]))⟩
theorem grown_setCells {g:Nat}:∀ (vs:List Value) (o:Nat) (w:World),w.grownBy (w.setCells g o vs) (some g)
 | [],_,w=>World.grownBy.refl _ _
 | v::r,o,w=>by
   rw [World.setCells]
   exact grown_trans' (grown_setCell v) (grown_setCells r (o+1) _)
theorem Blk.grown {w w':World} {g:Nat} {t:TypeId} {cs:Array Value} {row:Option Nat} (h:Blk w g t cs) (hb:w.grownBy w' row) (hg:some g≠row):Blk w' g t cs:=(hb.block g h.lt hg).trans h
theorem wpList_app2 {W:World} {ops:Array Oper} {rest:List Oper} {o:Oper} {a:Act} {Q:Exit→Act→World→Prop} {t e size bytes:Nat} {z:Value} (hT:SlT t e size bytes z)
  (hgd:o.guard=none) (s x:Operand) (ho:o.op = .call { callee := .builtin .append,args:=#[s,x],argTypes:=#[t,t] })
  {base n c:Nat} {sv:Value} {xs:List Value} {vals:Array Value} (hs:a.eval s=sv) (hown:W.ownsRow base e size sv n xs)
  (hx:a.eval x = .slice (some ⟨W.heap.size,0,none⟩) 1 c) (hvals:vals.size=size) (h1:∀ u∈vals.toList,u.oneCell'=true) (hbase:base≤W.heap.size)
  (h63:n+1≤1048576) (hby:bytes≤1024)
  (h:∀ v' w',w'.ownsRow base e size v' (n+1) (xs++vals.toList)→W.grownBy w' sv.ownBlock→(∀ b,v'.ownBlock=some b→sv.ownBlock=some b∨W.heap.size≤b)→wpList Tryz.prog ops Q rest (a.put o.dst v') w') :
  wpList Tryz.prog ops Q (o::rest) a (W.alloc (.cells vals e)):=by
 obtain ⟨hT1,hT2,hT3,hT4⟩:=hT
 obtain ⟨i0,hi,hz0,hz1,hz2⟩:=info_parts hT2
 have hbytes:(n+1) * bytes≤140737488355328:=Nat.le_trans (Nat.mul_le_mul h63 hby) (by decide)
 have hnew:Blk (W.alloc (.cells vals e)) W.heap.size e vals:=Blk.new _ _ _
 have hcell:∀ j u,vals.toList[j]? = some u→(W.alloc (.cells vals e)).cell? ((⟨W.heap.size,0,none⟩:Addr).add j)=some u:=by
  intro j u hu
  have:(⟨W.heap.size,0,none⟩:Addr).add j=⟨W.heap.size,j,none⟩:=by
   unfold Addr.add; split <;> simp_all
  rw [this,hnew.cell]
  simpa using hu
 have hlen:vals.toList.length=1 * size:=by simp [hvals]
 refine wpList_append_own_at (P:=Tryz.prog) (W.alloc (.cells vals e)) hgd s x t ho base e i0 z size bytes hT1 hi hz0 hz1 hz2 hT3 hT4 _ n xs hs (hown.alloc _) ⟨W.heap.size,0,none⟩ 1 c vals.toList hx hlen hcell h1 (by simp only [maxLen]; omega) hbytes (by simp; omega) ?_
 intro v' w' hown' hgrow _ hat
 refine h v' w' hown' ⟨hgrow.os,hgrow.tape,hgrow.output,Nat.le_trans (by simp) hgrow.size,fun g hg hne=>?_⟩ fun b hb=>?_
 ·exact (hgrow.block g (by simp; omega) hne).trans (Below.heap_alloc W _ g hg)
 ·rcases hat with h3 | h3
  ·exact .inl (h3 ▸ hb)
  ·rw [h3] at hb
   injection hb with hb
   exact .inr (by rw [← hb]; simp)
theorem run_mk {t e size bytes:Nat} {z:Value} (hT:SlT t e size bytes z) (n:Nat) (hn:n≤1048576) (hby:bytes≤1024) (W:World) :
  (Instr.makeSlice t (.int .i64 (n:Int)) (.int .i64 (n:Int))).run Tryz.prog W = .ok (.slice (some ⟨W.heap.size,0,none⟩) n n) (W.alloc (.cells (madeCells z.cells (n * size)) e)):=by
 obtain ⟨hT1,hT2,hT3,hT4⟩:=hT
 obtain ⟨i0,hi,hz0,hz1,hz2⟩:=info_parts hT2
 have hb:(i0.bytes:Int) * (n:Int)≤281474976710656:=by
  have h:i0.bytes * n≤281474976710656:=Nat.le_trans (Nat.mul_le_mul (hz2 ▸ hby) hn) (by decide)
  have h':((i0.bytes * n:Nat):Int)≤281474976710656:=by omega
  rwa [Int.natCast_mul] at h'
 have hr:=run_make (P:=Tryz.prog) W t e i0 z hT1 hi hz0 .i64 .i64 n n (by omega) (by omega) hb (by omega)
 simp only [Int.toNat_natCast,hz1] at hr
 exact hr
theorem own_blk_ne {w:World} {base:Nat} {e t:TypeId} {size n:Nat} {v:Value} {xs:List Value} {g:Nat} {cs:Array Value} (h:w.ownsRow base e size v n xs) (hg:Blk w g t cs) (hne:e≠t):some g≠v.ownBlock:=by
 rcases h.2 with ⟨rfl,_⟩ | ⟨g',cap,cur,rfl,_,hh,_⟩
 ·simp [Value.ownBlock]
 ·intro he
  simp only [Value.ownBlock,Option.some.injEq] at he
  subst he
  unfold Blk at hg
  rw [hh] at hg
  injection hg with hg
  injection hg with _ ht
  exact hne ht
theorem run_copy_full (w:World) (dT sT ty elem size g n dCap:Nat) (a:Option Addr) (sCap:Nat) (cur:Array Value) (t:TypeId) (cs:List Value)
  (hu:Tryz.prog.underlying dT=some (.slice elem)) (hs:(Tryz.prog.info? elem).map (·.size)=some size)
  (hg:w.heap[g]? = some (.cells cur t (0,0))) (hl:cs.length=n * size) (hcur:cur.size=n * size)
  (hsrc:(a=none∧n=0)∨∃ ad,a=some ad∧∀ j v,cs[j]? = some v→w.cell? (ad.add j)=some v) (h1:∀ v∈cs,v.oneCell'=true) :
  (Builtin.copy_ #[dT,sT] ty #[.slice (some ⟨g,0,none⟩) n dCap,.slice a n sCap]).run Tryz.prog w = .ok (goInt n) (w.setRow g cs.toArray):=by
 cases hq:Tryz.prog.info? elem with
 | none=>simp [hq] at hs
 | some i =>
   have hi:i.size=size:=by simpa [hq] using hs
   rcases hsrc with ⟨rfl,rfl⟩ | ⟨ad,rfl,hsrc⟩
   ·obtain rfl:cs=[]:=List.eq_nil_of_length_eq_zero (by simpa using hl)
    obtain rfl:cur=#[]:=by simpa using hcur
    have:=setRow_self w g #[] t (0,0) hg
    simp [Builtin.copy_,run_underlying hu,Builtin.lenOf,Builtin.firstCells,sizeOf,typeInfo,hq,storeCells,this]
   ·have hld:=run_loadCells_list (P:=Tryz.prog) w ad cs hsrc
    have hst:=run_storeCells_at Tryz.prog g 0 t cs 0 cur w hg (by simp; omega) h1
    have e:(List.take (0+0) cur.toList++cs++List.drop (0+0+cs.length) cur.toList).toArray=cs.toArray:=by
     rw [List.drop_of_length_le (by simp; omega)]; simp
    rw [e] at hst
    simp [Builtin.copy_,run_underlying hu,Builtin.lenOf,Builtin.firstCells,sizeOf,typeInfo,hq,hi,← hl,hld,hst]
theorem cells_arr {α:Type} {w:World} {size:Nat} {A:Option Addr} {n cap:Nat} {l:List α} {cell:α→Nat→Value} (h:Arr w w.heap.size size (.slice A n cap) l cell) (hs:0 < size) :
  (A=none∧n=0)∨∃ ad,A=some ad∧∀ j v,(l.flatMap (cellsOf size cell))[j]? = some v→w.cell? (ad.add j)=some v:=by
 obtain ⟨A',c',hv,h1,h2,h3⟩:=h
 injection hv with hA hn _
 subst hA hn
 by_cases hl:0 < l.length
 ·obtain ⟨b,off,rfl,hb,hc⟩:=h3 hl
  refine .inr ⟨_,rfl,fun j v hj=>?_⟩
  have hjl:=(List.getElem?_eq_some_iff.1 hj).1
  have hlen:(l.flatMap (cellsOf size cell)).length=l.length * size:=by
   clear hc hj hjl hl h3 h1
   induction l with
   | nil=>simp
   | cons x r ih=>rw [List.flatMap_cons,List.length_append,ih]; simp [cellsOf,Nat.add_mul]; omega
  rw [hlen] at hjl
  have hi:j / size < l.length:=Nat.div_lt_of_lt_mul (by rwa [Nat.mul_comm] at hjl)
  have hm:j % size < size:=Nat.mod_lt _ hs
  have hx:l[j / size]? = some l[j / size]:=List.getElem?_eq_getElem hi
  have hf:=flat_get size cell l (j / size) _ hx (j % size) hm
  have hj2:j / size * size+j % size=j:=by rw [Nat.mul_comm]; exact Nat.div_add_mod j size
  rw [hj2,hj] at hf
  injection hf with hf
  have:=hc (j / size) _ hx (j % size) hm
  rw [show off+j / size * size+j % size=off+j by omega] at this
  have ha:(⟨b,off,none⟩:Addr).add j=⟨b,off+j,none⟩:=by unfold Addr.add; split <;> simp_all
  rw [ha,this,hf]
 ·have h0:l.length=0:=by omega
  cases A with
  | none=>exact .inl ⟨rfl,h0⟩
  | some ad =>
    refine .inr ⟨_,rfl,fun j v hj=>?_⟩
    rw [List.eq_nil_of_length_eq_zero h0] at hj
    simp at hj
theorem flat_len {α:Type} (size:Nat) (cell:α→Nat→Value) (l:List α):(l.flatMap (cellsOf size cell)).length=l.length * size:=by
 induction l with
 | nil=>simp
 | cons x r ih=>rw [List.flatMap_cons,List.length_append,ih]; simp [cellsOf,Nat.add_mul]; omega
theorem Arr.of_row {α:Type} {w:World} {B size g cap:Nat} {t:TypeId} {l:List α} {cell:α→Nat→Value} {n:Nat} (h:Blk w g t (l.flatMap (cellsOf size cell)).toArray) (hn:n=l.length) (h1:l.length≤cap) (h2:cap≤9223372036854775807) (hB:g < B) :
  Arr w B size (.slice (some ⟨g,0,none⟩) n cap) l cell:=by
 subst hn
 refine ⟨_,cap,rfl,h1,h2,fun _=>⟨g,0,rfl,hB,fun i x hx j hj=>?_⟩⟩
 have hf:=flat_get size cell l i x hx j hj
 rw [h.cell,Nat.zero_add]
 simpa using hf
theorem wpList_appM {W:World} {ops:Array Oper} {rest:List Oper} {o:Oper} {a:Act} {Q:Exit→Act→World→Prop} {t e size bytes:Nat} {z:Value} (hT:SlT t e size bytes z)
  (hgd:o.guard=none) (s x:Operand) (ho:o.op = .call { callee := .builtin .append,args:=#[s,x],argTypes:=#[t,t] })
  {base n c m:Nat} {sv:Value} {xs:List Value} (hs:a.eval s=sv) (hown:W.ownsRow base e size sv n xs) (ad:Addr)
  (hx:a.eval x = .slice (some ad) m c) (news:List Value) (hlen:news.length=m * size) (hcell:∀ j u,news[j]? = some u→W.cell? (ad.add j)=some u) (h1:∀ u∈news,u.oneCell'=true) (hbase:base≤W.heap.size)
  (h63:n+m≤1048576) (hby:bytes≤1024)
  (h:∀ v' w',w'.ownsRow base e size v' (n+m) (xs++news)→Below base W w'→W.grownBy w' sv.ownBlock→wpList Tryz.prog ops Q rest (a.put o.dst v') w') :
  wpList Tryz.prog ops Q (o::rest) a W:=by
 obtain ⟨hT1,hT2,hT3,hT4⟩:=hT
 obtain ⟨i0,hi,hz0,hz1,hz2⟩:=info_parts hT2
 have hbytes:(n+m) * bytes≤140737488355328:=Nat.le_trans (Nat.mul_le_mul h63 hby) (by decide)
 refine wpList_append_own (P:=Tryz.prog) W hgd s x t ho base e i0 z size bytes hT1 hi hz0 hz1 hz2 hT3 hT4 _ n xs hs hown ad m c news hx hlen hcell h1 (by simp only [maxLen]; omega) hbytes hbase ?_
 intro v' w' hown' hgrow _
 refine h v' w' hown' ((Below.refl _ _).grown hgrow hbase fun k hk=>?_) hgrow
 exact (hown.lt k hk).1
theorem flat_int (l:List Int):l.flatMap (cellsOf 1 icell)=l.map (Value.int .i64):=by
 induction l with
 | nil=>rfl
 | cons x r ih=>rw [List.flatMap_cons,ih]; rfl
theorem Arr.lit {w:World} {B g n cap size:Nat} {t:TypeId} {cs:Array Value} {α:Type} {l:List α} {cell:α→Nat→Value} (h:Blk w g t cs) (hB:g < B) (hn:n=l.length) (h1:l.length≤cap) (h2:cap≤9223372036854775807)
  (hc:cs.toList=l.flatMap (cellsOf size cell)):Arr w B size (.slice (some ⟨g,0,none⟩) n cap) l cell:=by
 refine Arr.of_row (t:=t) ?_ hn h1 h2 hB
 rw [← hc]
 simpa using h
theorem Arr.row {w:World} {B:Nat} {v:Value} {l:List Int} (h:Arr w B 1 v l icell) (hl:0 < l.length) :
  ∃ b off cap,v = .slice (some ⟨b,off,none⟩) l.length cap∧b < B∧l.length≤cap∧cap≤9223372036854775807∧∀ j x,l[j]? = some x→w.cell? ⟨b,off+j,none⟩=some (.int .i64 x):=by
 obtain ⟨A,c,rfl,h1,h2,h3⟩:=h
 obtain ⟨b,off,rfl,hb,hc⟩:=h3 hl
 refine ⟨b,off,c,rfl,hb,h1,h2,fun j x hx=>?_⟩
 have:=hc j x hx 0 (by omega)
 rwa [Nat.mul_one] at this
theorem wrap_id (x:Int) (h1 : -9000000000000000000≤x) (h2:x≤9000000000000000000):IntKind.i64.wrap x=x:=by
 rw [IntKind.wrap_i64]
 omega
theorem own_ad_ne {g n cap:Nat} {A:Option Addr} (h:some g≠(Value.slice A n cap).ownBlock):∀ ad,A=some ad→¬ ad.block=g:=by
 rintro ad rfl rfl
 exact h rfl
theorem row_cell2 {w:World} {B n c:Nat} {A:Option Addr} {l:List Int} (h:Arr w B 1 (.slice A n c) l icell) {k:Nat} (hk:k < l.length) :
  ∃ b off x,A=some ⟨b,off,none⟩∧b < B∧l[k]? = some x∧w.cell? ⟨b,off+k,none⟩=some (.int .i64 x):=by
 obtain ⟨b,off,x,h1,h2,h3,h4⟩:=h.at_ hk
 have:=h4 0 (by omega)
 rw [Nat.mul_one] at this
 exact ⟨b,off,x,h1,h2,h3,this⟩
theorem append_none {w:World} (base:Nat) (t ty e:TypeId) (i:TypeInfo) (size c:Nat) (ht:Tryz.prog.underlying t=some (.slice e)) (hi:Tryz.prog.info? e=some i)
  (v:Value) (n:Nat) (xs:List Value) (hown:w.ownsRow base e size v n xs) :
  (Builtin.append_ #[t,t] ty #[v,.slice none 0 c]).run Tryz.prog w = .ok v w:=by
 rcases hown.2 with ⟨rfl,rfl⟩ | ⟨g,cap,cur,rfl,_,_,hnc,_⟩
 ·simp [Builtin.append_,run_underlying ht,sizeOf,typeInfo,hi,Builtin.lenOf,Builtin.firstCells]
 ·simp [Builtin.append_,run_underlying ht,sizeOf,typeInfo,hi,Builtin.lenOf,Builtin.firstCells,hnc,storeCells]
theorem wpList_appArr {α:Type} {W:World} {ops:Array Oper} {rest:List Oper} {o:Oper} {a:Act} {Q:Exit→Act→World→Prop} {t e size bytes:Nat} {z:Value} (hT:SlT t e size bytes z)
  (hgd:o.guard=none) (s x:Operand) (ho:o.op = .call { callee := .builtin .append,args:=#[s,x],argTypes:=#[t,t] })
  {base n c B:Nat} {sv:Value} {xs:List Value} {A:Option Addr} {l:List α} {cell:α→Nat→Value} (hs:a.eval s=sv) (hown:W.ownsRow base e size sv n xs)
  (hx:a.eval x = .slice A l.length c) (harr:Arr W B size (.slice A l.length c) l cell) (h1:∀ u∈l.flatMap (cellsOf size cell),u.oneCell'=true) (hbase:base≤W.heap.size)
  (h63:n+l.length≤1048576) (hby:bytes≤1024)
  (h:∀ v' w',w'.ownsRow base e size v' (n+l.length) (xs++l.flatMap (cellsOf size cell))→Below base W w'→W.grownBy w' sv.ownBlock→wpList Tryz.prog ops Q rest (a.put o.dst v') w') :
  wpList Tryz.prog ops Q (o::rest) a W:=by
 obtain ⟨A',c',hv,hb1,hb2,hb3⟩:=harr
 injection hv with hA _ hc
 subst hA hc
 cases A with
 | none =>
   have hl:l.length=0:=by
    rcases Nat.eq_zero_or_pos l.length with h0 | h0
    ·exact h0
    ·obtain ⟨b,off,hh,_⟩:=hb3 h0
     cases hh
   have hnil:l=[]:=List.length_eq_zero_iff.1 hl
   subst hnil
   obtain ⟨hT1,hT2,hT3,hT4⟩:=hT
   obtain ⟨i0,hi,hz0,hz1,hz2⟩:=info_parts hT2
   refine wpList_plain hgd fun _ hK=>?_
   have hr:=append_none (w:=W) base t o.type e i0 size c hT1 hi sv n xs hown
   unfold Oper.wp execOp
   simp only [List.length_nil] at hx
   simp only [ho,resolve,invoke,builtin,Sem.run_bind,Sem.run_pure,Result.andThen_ok,List.map_toArray,List.map_cons,List.map_nil,hs,hx,hr]
   exact hK _ _ (h sv W (by simpa using hown) (Below.refl _ _) (World.grownBy.refl _ _))
 | some ad =>
   refine wpList_appM hT hgd s x ho hs hown ad hx (l.flatMap (cellsOf size cell)) (flat_len size cell l) ?_ h1 hbase h63 hby fun v' w' k1 k2 k3=>h v' w' k1 k2 k3
   intro j u hu
   have hj:=(List.getElem?_eq_some_iff.1 hu).1
   rw [flat_len] at hj
   have hpos:0 < l.length:=by
    rcases Nat.eq_zero_or_pos l.length with h0 | h0
    ·rw [h0] at hj; simp at hj
    ·exact h0
   have hsz:0 < size:=by
    rcases Nat.eq_zero_or_pos size with h0 | h0
    ·rw [h0] at hj; simp at hj
    ·exact h0
   obtain ⟨b,off,hh,hb,hcell⟩:=hb3 hpos
   injection hh with hh
   subst hh
   have hi:j / size < l.length:=Nat.div_lt_of_lt_mul (by rw [Nat.mul_comm]; exact hj)
   have hm:j % size < size:=Nat.mod_lt _ hsz
   have hdm:j / size * size+j % size=j:=by rw [Nat.mul_comm]; exact Nat.div_add_mod j size
   have h2:=flat_get size cell l (j / size) _ (List.getElem?_eq_getElem hi) (j % size) hm
   rw [hdm,hu] at h2
   injection h2 with h2
   have h3:=hcell (j / size) _ (List.getElem?_eq_getElem hi) (j % size) hm
   rw [h2]
   have ha:(⟨b,off,none⟩:Addr).add j=⟨b,off+j / size * size+j % size,none⟩:=by
    unfold Addr.add
    split
    ·rename_i h0
     simp only [Addr.mk.injEq,and_true,true_and]
     omega
    ·simp only [Addr.mk.injEq,and_true,true_and]
     omega
   rw [ha]
   exact h3
def part {α β:Type} (p:α→Bool) (g:α→β) (l:List α):List β:=(l.filter p).map g
def Apart (v v':Value):Prop:=∀ b,v.ownBlock=some b→v'.ownBlock≠some b
theorem Apart.symm {v v':Value} (h:Apart v v'):Apart v' v:=fun b h1 h2=>h b h2 h1
end Go.Proofs.YtibmeigdjghkcaaGreat
namespace Go.Proofs.YtibmeigdjghkcaaGreat
open Go.RowKit Go.Shelf
set_option linter.unusedVariables false
def AbidesN {β:Type} (B:Nat) (J:β→World→Prop):Prop :=
 ∀ s W W' row,J s W→W.grownBy W' row→(∀ r,row=some r→B≤r∧∃ o:Obj,W.heap[r]? = some o∧o.isWalk=true)→J s W'
def SeqN {α:Type} (F:Fence) (n:Nat) (P:Program) (g:Nat) (lb:Array Value) (encs:α→Array Value) (Kp:World→World→Prop) (all:List α) (w:World):Prop :=
 ∀ (l:Nat) (J:List α→World→Prop) (W:World),Below w.heap.size w W→AbidesN W.heap.size J →
  (∀ pre x post W1,J pre W1→pre++x::post=all→YieldAt F (n-1) P l (encs x) W1 fun e W'=>e = .returned (.bool true)∧J (pre++[x]) W'∧Kp W1 W') →
  J [] W →
  CallsIn F n P g (#[.func (.yield l) #[] #[]]++lb) W fun e W'=>(∃ v,e = .returned v)∧J all W'
def roundN {α:Type} (B:Nat) (Kp:World→World→Prop) (I:List α→World→Prop) (xs:List α) (W:World):Exit→Act→World→Prop
 | .normal,_,W'=>KeepsFrom B W W'∧Kp W W'∧I xs W'
 | _,_,_=>False
variable {F:Fence} {n:Nat} {P:Program} {w:World}
def recN (fn:FuncId) (tmps:Array Value) (ps:Array Tmp) (assign body:Code) (D:Nat) (st:LoopState):Loop:={ state:=st,pending:=none,fn:=fn,tmps:=tmps,params:=ps,assign:=assign,body:=body,defers:=D }
theorem wpIn_range_list {α:Type} {g:Operand} {ps:Array Tmp} {assign body:Code} {Q:Exit→Act→World→Prop} {a:Act}
  (hro:F.round=none) (h1:1≤n) {gf:Nat} {lb:Array Value} (hg:a.eval g = .func (.func gf) #[] lb) (hFg:F.fn gf) (eg:∀ args w,(callFunc gf args).run P w = .ok (.enter gf args) w)
  {encs:α→Array Value} {Kp:World→World→Prop} {all:List α} {w0:World} (hseq:SeqN F (n-1) P gf lb encs Kp all w0)
  (hKt:∀ {A B C:World},Kp A B→Kp B C→Kp A C) (hKb:∀ (W:World) (l:Nat) (o o':Obj),w.heap.size≤l→W.heap[l]? = some o→o.isCells=false→o.isWalk=false→Kp W (W.putObj l o')) (hb0:Below w0.heap.size w0 w) (hps:∀ x,(encs x).size=ps.size)
  (I:List α→World→Prop) (hI:OwnFrom w.heap.size I) (h0:I [] w)
  (Ax:α→Act→World→Prop) (hAx:∀ x a',OwnFrom w.heap.size (fun (_:Unit) W=>Ax x a' W))
  (hassign:∀ (l:Nat) (pre:List α) (x:α) (post:List α) (W:World) (K:Act→World→Prop),I pre W→pre++x::post=all→w.heap.size+2≤W.heap.size→(∀ a' W',KeepsFrom w.heap.size W W'→Kp W W'→I pre W'→Ax x a' W'→K a' W') →
   assign.wpIn (F.inRound l) (n-1-1) P (Exit.then K (fun _ _ _=>False)) { tmps:=(ps.zip (encs x)).foldl (fun t (p,v)=>t.setIfInBounds p v) a.tmps,defers:=[] } W)
  (hbody:∀ (l:Nat) (pre:List α) (x:α) (post:List α) (a':Act) (W:World),I pre W→Ax x a' W→pre++x::post=all→body.wpIn (F.inRound l) (n-1-1) P (roundN w.heap.size Kp I (pre++[x]) W) a' W)
  (hdone:∀ (D:Nat) (W:World),w.heap.size≤D→I all W→W.heap[D]? = some (.deferred (some []))→Q .normal { a with defers:={ target := .collected D,args:=#[] }::a.defers } W) :
  (Code.rangeFunc g ps assign body).wpIn F n P Q a w:=by
 refine wpIn_rangeFunc ?_
 intro fn hfn
 rw [hro]
 obtain ⟨R,hR⟩:∃ R:LoopState→Loop,R=recN fn a.tmps ps assign body w.heap.size:=⟨_,rfl⟩
 have hRp:∀ st,(R st).params=ps:=fun st=>by rw [hR]; rfl
 have hRs:∀ st,(R st).state=st:=fun st=>by rw [hR]; rfl
 have hRu:∀ st st',{ R st with state:=st' }=R st':=fun st st'=>by rw [hR]; rfl
 have hRe:∀ st st',{ R st with state:=st',pending:=none }=R st':=fun st st'=>by rw [hR]; rfl
 have hRn:∀ st,(R st).pending=none:=fun st=>by rw [hR]; rfl
 obtain ⟨W1,hW1⟩:∃ W1,W1=(w.alloc (.deferred (some []))).alloc (.loop (R .ready)):=⟨_,rfl⟩
 have hs1:W1.heap.size=w.heap.size+2:=by rw [hW1]; simp
 have hL1:W1.heap[w.heap.size+1]? = some (.loop (R .ready)):=by
  have:=World.alloc_heap_new (w.alloc (.deferred (some []))) (.loop (R .ready))
  rw [World.size_alloc] at this
  rw [hW1]
  exact this
 have hD1:W1.heap[w.heap.size]? = some (.deferred (some [])):=by
  rw [hW1]
  exact (Below.heap_alloc _ _ _ (by simp)).trans (World.alloc_heap_new w _)
 have hb1:Below w0.heap.size w0 W1:=by
  have h2:=((Below.refl w.heap.size w).alloc (Nat.le_refl _) (.deferred (some []))).alloc (by simp) (.loop (R .ready))
  rw [← hW1] at h2
  exact hb0.trans (h2.mono hb0.size)
 have hI1:I [] W1:=by rw [hW1]; exact hI.alloc _ (hI.alloc _ h0)
 have hent:=run_enterLoop_outer (P:=P) (w:=w) fn a.tmps ps assign body
 refine ⟨w.heap.size+1,[{ target := .collected w.heap.size,args:=#[] }],W1,{ target := .fn (.func gf) lb,args:=#[.func (.yield (w.heap.size+1)) #[] #[]] },W1,gf,#[.func (.yield (w.heap.size+1)) #[] #[]]++lb,W1,?_,?_,?_,?_,fun _=>h1,?_⟩
 ·rw [hW1,hR]
  exact hent
 ·simp only [resolve,hg]
  simp [go_sem]
 ·intro f' hf'
  simp [Target.leads] at hf'
  exact hf' ▸ hFg
 ·simp [invoke,go_sem,eg]
 ·-- what holds between two rounds: the caller's invariant, and both records
  obtain ⟨J,hJ⟩:∃ J:List α→World→Prop,J=fun pre W=>I pre W∧W.heap[w.heap.size+1]? = some (.loop (R .ready))∧W.heap[w.heap.size]? = some (.deferred (some [])):=⟨_,rfl⟩
  have hJab:AbidesN W1.heap.size J:=by
   intro s A C row hs hgr hr
   rw [hJ] at hs ⊢
   obtain ⟨q1,q2,q3⟩:=hs
   have hkeep:∀ k o,A.heap[k]? = some o→k < w.heap.size+2→C.heap[k]? = some o:=by
    intro k o hk hlt
    refine (hgr.block k (Array.getElem?_eq_some_iff.1 hk).1 fun e=>?_).trans hk
    have:=(hr k e.symm).1; omega
   refine ⟨?_,hkeep _ _ q2 (by omega),hkeep _ _ q3 (by omega)⟩
   cases row with
   | none=>exact hI s A C none q1 hgr fun r e=>by cases e
   | some r =>
     obtain ⟨q,o,ho,hw⟩:=hr r rfl
     exact hI s A C (some r) q1 hgr fun r' e=>by
      injection e with e
      exact ⟨by omega,o,by rw [← e]; exact ho,Obj.not_cells_of_walk hw⟩
  refine (hseq (w.heap.size+1) J W1 hb1 hJab ?_ (by rw [hJ]; exact ⟨hI1,hL1,hD1⟩)).mono ?_
  ·intro pre x post W hJW hlen
   rw [hJ] at hJW
   obtain ⟨hi,hl,hd⟩:=hJW
   have hsz:w.heap.size+2≤W.heap.size:=by have:=(Array.getElem?_eq_some_iff.1 hl).1; omega
   have hy:=run_yield (P:=P) (args:=encs x) hl (by rw [hRp]; exact hps x)
   have e1:(R .ready).tmps=a.tmps:=by rw [hR]; rfl
   have e2:(R .ready).assign=assign:=by rw [hR]; rfl
   have e3:(R .ready).body=body:=by rw [hR]; rfl
   have e4:(R .ready).fn=fn:=by rw [hR]; rfl
   rw [hRp,e1,e2,e3,e4] at hy
   refine ⟨fn,_,assign,body,hy,roundIn_of_wpIn hfn (hassign _ pre x post W _ hi hlen hsz ?_)⟩
   intro a' Wa hka hkp hia hax
   have hla:=hka.same _ _ (by omega) hl rfl
   have hda:=hka.same _ _ (Nat.le_refl _) hd rfl
   have hlt:=(Array.getElem?_eq_some_iff.1 hla).1
   have hbeg:=run_beginRound (P:=P) hla (hRs _)
   rw [hRu] at hbeg
   refine ⟨_,hbeg,?_⟩
   obtain ⟨Wb,hWb⟩:∃ Wb,Wb=Wa.putObj (w.heap.size+1) (.loop (R .busy)):=⟨_,rfl⟩
   rw [← hWb]
   have hlb2:Wb.heap[w.heap.size+1]? = some (.loop (R .busy)):=by rw [hWb]; exact World.putObj_heap_same hlt
   have hdb2:Wb.heap[w.heap.size]? = some (.deferred (some [])):=by rw [hWb]; exact (World.putObj_heap_other (by omega)).trans hda
   have hkb:Kp Wa Wb:=by rw [hWb]; exact hKb _ _ _ _ (by omega) hla rfl rfl
   have hib:I pre Wb:=by rw [hWb]; exact hI.putObj _ hia (by omega) hla rfl
   have haxb:Ax x a' Wb:=by rw [hWb]; exact (hAx x a').putObj (s:=()) _ hax (by omega) hla rfl
   refine wpIn_mono (hbody _ pre x post a' Wb hib haxb hlen) ?_
   intro e a3 W3 hp
   cases e with
   | normal =>
     obtain ⟨hk3,hkp3,hi3⟩:=hp
     have hl3:=hk3.same _ _ (by omega) hlb2 rfl
     have hd3:=hk3.same _ _ (Nat.le_refl _) hdb2 rfl
     have hend:=run_endRound (P:=P) none hl3
     refine ⟨_,_,hend,rfl,?_,hKt hkp (hKt (hKt hkb hkp3) (hKb _ _ _ _ (by omega) hl3 rfl rfl))⟩
     rw [hJ]
     refine ⟨hI.putObj _ hi3 (by omega) hl3 rfl,?_,(World.putObj_heap_other (by omega)).trans hd3⟩
     have:=World.putObj_heap_same (w:=W3) (o := .loop { R .busy with state:=if (none:Option Code).isNone=true then .ready else .done,pending:=none }) (Array.getElem?_eq_some_iff.1 hl3).1
     rw [this]
     simp only [Option.isNone_none,if_true,hRe]
   | ret=>exact hp.elim
   | exit id=>exact hp.elim
   | goto t=>exact hp.elim
   | panic ch=>exact hp.elim
   | outgrown=>exact hp.elim
  ·rintro e W2 ⟨⟨v,rfl⟩,hJx⟩
   rw [hJ] at hJx
   obtain ⟨hi,hl,hd⟩:=hJx
   have hend:=run_endLoop (P:=P) hl (by rw [hRs]; simp)
   rw [hRn] at hend
   exact ⟨none,_,hend,hdone _ _ (Nat.le_refl _) (hI.putObj _ hi (by omega) hl rfl) ((World.putObj_heap_other (by omega)).trans hd)⟩
end Go.Proofs.YtibmeigdjghkcaaGreat
namespace Go.Proofs.YtibmeigdjghkcaaGreat
open Go.RowKit Go.Shelf
set_option linter.unusedVariables false
set_option linter.unusedSectionVars false
section
variable {α:Type} [DecidableEq α]
def findG (a:α):List (α×Value)→Nat→Option (Nat×Value)
 | [],_=>none
 | x::l,i=>if a=x.1 then some (i,x.2) else findG a l (i+1)
def entsG (kf:α→Value) (es:List MapEntry) (l:List (α×Value)):Prop:=es.map (fun e=>(e.key,e.val))=l.map fun x=>(kf x.1,x.2)
structure KeyG (k:TypeId) (kf:α→Value):Prop where
 find:∀ (a:α) (w:World) (es:List MapEntry) (l:List (α×Value)),entsG kf es l→(Instr.findKey k (kf a) es).run Tryz.prog w = .ok (findG a l 0) w
 ck:∀ e a w,(Instr.checkKey e 10000 k (kf a)).run Tryz.prog w = .ok () w
 stays:∀ a w,(Instr.keyThatStays (kf a) (kf a)).run Tryz.prog w = .ok (kf a) w
def MapG (kf:α→Value) (w:World) (g:Nat) (B:α→Option Value):Prop :=
 ∃ es clock l,w.heap[g]? = some (.map es clock)∧entsG kf es.toList l∧∀ a,(findG a l 0).map (·.2)=B a
def putMap (w:World) (g:Nat) (es:Array MapEntry) (clock:Nat):World:={ w with heap:=w.heap.setIfInBounds g (.map es clock) }
theorem grown_put {w:World} {g:Nat} (es:Array MapEntry) (cl:Nat):w.grownBy (putMap w g es cl) (some g):=by
 refine ⟨rfl,rfl,rfl,by simp [putMap],fun k hk hne=>?_⟩
 simp only [putMap]
 rw [Array.getElem?_setIfInBounds_ne (fun e=>hne (by rw [e]))]
variable {kf:α→Value}
theorem MapG.lt {w:World} {g:Nat} {B:α→Option Value} (h:MapG kf w g B):g < w.heap.size:=by
 obtain ⟨es,clock,l,h1,_⟩:=h
 rcases Nat.lt_or_ge g w.heap.size with hl | hl
 ·exact hl
 ·rw [Array.getElem?_eq_none hl] at h1; cases h1
theorem MapG.heap {w w':World} {g:Nat} {B:α→Option Value} (h:MapG kf w g B) (hh:w'.heap[g]? = w.heap[g]?):MapG kf w' g B:=by
 obtain ⟨es,clock,l,h1,h2⟩:=h
 exact ⟨es,clock,l,hh.trans h1,h2⟩
theorem MapG.call {w w':World} {g:Nat} {B:α→Option Value} (h:MapG kf w g B) (hb:Below w.heap.size w w'):MapG kf w' g B:=h.heap (hb.block g h.lt)
theorem MapG.grown {w w':World} {g:Nat} {B:α→Option Value} {row:Option Nat} (h:MapG kf w g B) (hb:w.grownBy w' row) (hg:some g≠row):MapG kf w' g B:=h.heap (hb.block g h.lt hg)
theorem MapG.new (w:World):MapG kf (w.alloc (.map #[] 0)) w.heap.size fun _=>none :=
 ⟨#[],0,[],by unfold World.alloc; simp,rfl,fun _=>rfl⟩
theorem MapG.same {w:World} {g:Nat} {B B':α→Option Value} (h:MapG kf w g B) (e:∀ a,B' a=B a):MapG kf w g B':=by
 obtain ⟨es,cl,l,h1,h2,h3⟩:=h
 exact ⟨es,cl,l,h1,h2,fun a=>(h3 a).trans (e a).symm⟩
theorem MapG.cells {w:World} {g:Nat} {B:α→Option Value} (h:MapG kf w g B):∃ o,w.heap[g]? = some o∧o.isCells=false:=by
 obtain ⟨es,cl,l,h1, -⟩:=h
 exact ⟨_,h1,rfl⟩
theorem findG_shift (a:α):∀ (l:List (α×Value)) (i j:Nat),(findG a l i).map (·.2)=(findG a l j).map (·.2)
 | [],_,_=>rfl
 | x::l,i,j=>by
   unfold findG
   split
   ·rfl
   ·exact findG_shift a l _ _
theorem findG_snoc (a:α) (y:α×Value):∀ (l:List (α×Value)) (i:Nat),findG a l i=none→(findG a (l++[y]) i).map (·.2)=if a=y.1 then some y.2 else none
 | [],i,_=>by simp only [List.nil_append,findG]; split <;> rfl
 | x::l,i,h=>by
   simp only [List.cons_append,findG] at h ⊢
   split at h
   ·cases h
   ·rename_i hx
    rw [if_neg hx]
    exact findG_snoc a y l _ h
theorem findG_other (a:α) (y:α×Value) (hy:a≠y.1):∀ (l:List (α×Value)) (i:Nat),findG a (l++[y]) i=findG a l i
 | [],i=>by simp [findG,hy]
 | x::l,i=>by simp only [List.cons_append,findG,findG_other a y hy l]
theorem findG_some (a:α):∀ (l:List (α×Value)) (i n:Nat) (v:Value),findG a l i=some (n,v)→i≤n∧n-i < l.length∧l[n-i]? = some (a,v)
 | [],i,n,v,h=>by simp [findG] at h
 | x::l,i,n,v,h=>by
   unfold findG at h
   split at h
   ·rename_i hx
    simp only [Option.some.injEq,Prod.mk.injEq] at h
    obtain ⟨rfl,rfl⟩:=h
    refine ⟨Nat.le_refl _,by simp,?_⟩
    simp [hx]
   ·obtain ⟨h1,h2,h3⟩:=findG_some a l (i+1) n v h
    refine ⟨by omega,by simp; omega,?_⟩
    rw [show n-i=(n-(i+1))+1 by omega,List.getElem?_cons_succ]
    exact h3
theorem findG_set (a a':α) (v v':Value):∀ (l:List (α×Value)) (i n:Nat),findG a l i=some (n,v) →
  (findG a' (l.set (n-i) (a,v')) i).map (·.2)=if a'=a then some v' else (findG a' l i).map (·.2)
 | [],i,n,h=>by simp [findG] at h
 | x::l,i,n,h=>by
   unfold findG at h
   split at h
   ·rename_i hx
    simp only [Option.some.injEq,Prod.mk.injEq] at h
    obtain ⟨rfl,rfl⟩:=h
    simp only [Nat.sub_self,List.set_cons_zero,findG,← hx]
    split <;> rfl
   ·rename_i hx
    have h1:=(findG_some a l (i+1) n v h).1
    rw [show n-i=(n-(i+1))+1 by omega,List.set_cons_succ]
    have ih:=findG_set a a' v v' l (i+1) n h
    by_cases hx':a'=x.1
    ·have:a'≠a:=fun e=>hx (e ▸ hx')
     simp only [findG,if_pos hx',if_neg this]
    ·simp only [findG,if_neg hx']
     exact ih
theorem findG_erase (a a':α) (v:Value) (hne:a'≠a):∀ (l:List (α×Value)) (i n:Nat),findG a l i=some (n,v) →
  (findG a' (l.eraseIdx (n-i)) i).map (·.2)=(findG a' l i).map (·.2)
 | [],i,n,h=>by simp [findG] at h
 | x::l,i,n,h=>by
   unfold findG at h
   split at h
   ·rename_i hx
    simp only [Option.some.injEq,Prod.mk.injEq] at h
    obtain ⟨rfl,rfl⟩:=h
    simp only [Nat.sub_self,List.eraseIdx_zero,List.tail_cons,findG,← hx,if_neg hne]
    exact findG_shift _ _ _ _
   ·have h1:=(findG_some a l (i+1) n v h).1
    rw [show n-i=(n-(i+1))+1 by omega,List.eraseIdx_cons_succ]
    have ih:=findG_erase a a' v hne l (i+1) n h
    unfold findG
    split
    ·rfl
    ·exact ih
theorem MapG.lookup {t k e:TypeId} (K:KeyG k kf) (ht:Tryz.prog.underlying t=some (.map k e)) {w:World} {g:Nat} {B:α→Option Value} (h:MapG kf w g B) (a:α) {z:Value} (hz:(zeroValue e).run Tryz.prog w = .ok z w) :
  (Instr.lookup t (.map (some g)) (kf a) true).run Tryz.prog w = .ok (match B a with | some v => .tuple #[v,.bool true] | none => .tuple #[z,.bool false]) w:=by
 obtain ⟨es,clock,l,h1,h2,h3⟩:=h
 have hf:=K.find a w es.toList l h2
 have hb:=h3 a
 simp only [Instr.lookup,Sem.run_bind,run_underlying ht,Result.andThen_ok,MapKept.run_getObj_map h1,Sem.run_pure,K.ck,hf]
 cases hh:findG a l 0 with
 | none =>
   rw [hh] at hb
   simp only [Option.map_none] at hb
   simp [← hb,hz]
 | some r =>
   rw [hh] at hb
   simp only [Option.map_some] at hb
   simp [← hb]
theorem MapG.lookup1 {t k e:TypeId} (K:KeyG k kf) (ht:Tryz.prog.underlying t=some (.map k e)) {w:World} {g:Nat} {B:α→Option Value} (h:MapG kf w g B) (a:α) {z:Value} (hz:(zeroValue e).run Tryz.prog w = .ok z w) :
  (Instr.lookup t (.map (some g)) (kf a) false).run Tryz.prog w = .ok ((B a).getD z) w:=by
 obtain ⟨es,clock,l,h1,h2,h3⟩:=h
 have hf:=K.find a w es.toList l h2
 have hb:=h3 a
 simp only [Instr.lookup,Sem.run_bind,run_underlying ht,Result.andThen_ok,MapKept.run_getObj_map h1,Sem.run_pure,K.ck,hf]
 cases hh:findG a l 0 with
 | none =>
   rw [hh] at hb
   simp only [Option.map_none] at hb
   simp [← hb,hz]
 | some r =>
   rw [hh] at hb
   simp only [Option.map_some] at hb
   simp [← hb]
theorem erase_map {α β:Type} (f:α→β):∀ (l:List α) (n:Nat),(l.eraseIdx n).map f=(l.map f).eraseIdx n
 | [],n=>by simp
 | x::l,0=>by simp
 | x::l,n+1=>by simp [erase_map f l n]
theorem MapG.update {t k e:TypeId} (K:KeyG k kf) (ht:Tryz.prog.underlying t=some (.map k e)) {w:World} {g:Nat} {B:α→Option Value} (h:MapG kf w g B) (a:α) (v:Value) :
  ∃ es clock,(Instr.mapUpdate t (.map (some g)) (kf a) v).run Tryz.prog w = .ok () (putMap w g es clock)∧MapG kf (putMap w g es clock) g fun x=>if x=a then some v else B x:=by
 have hlt:=h.lt
 obtain ⟨es,clock,l,h1,h2,h3⟩:=h
 have hf:=K.find a w es.toList l h2
 cases hh:findG a l 0 with
 | none =>
   refine ⟨es.push { key:=kf a,val:=v,born:=clock },clock+1,?_,es.push { key:=kf a,val:=v,born:=clock },clock+1,l++[(a,v)],?_,?_,fun x=>?_⟩
   ·simp [Instr.mapUpdate,run_underlying ht,MapKept.run_getObj_map h1,K.ck,hf,hh,MapKept.run_setObj_map _ h1,Result.andThen,putMap]
   ·simp [putMap,hlt]
   ·unfold entsG at h2 ⊢
    simp [h2]
   ·show _=if x=a then some v else B x
    by_cases hx:x=a
    ·rw [if_pos hx,hx,findG_snoc a _ l 0 hh]
     simp
    ·rw [if_neg hx,findG_other x _ hx]
     exact h3 x
 | some r =>
   obtain ⟨n,u⟩:=r
   obtain ⟨_,h5,h6⟩:=findG_some a l 0 n u hh
   simp only [Nat.sub_zero] at h5 h6
   have hlen:es.toList.length=l.length:=by
    have:=congrArg List.length h2
    simpa using this
   have hen:n < es.size:=by simpa using (by omega:n < es.toList.length)
   have hkey:es[n].key=kf a:=by
    have:=congrArg (fun q=>q[n]?) h2
    simp [h6,hen] at this
    exact this.1
   refine ⟨es.modify n fun e=>{ e with key:=kf a,val:=v },clock,?_,es.modify n (fun e=>{ e with key:=kf a,val:=v }),clock,l.set n (a,v),?_,?_,fun x=>?_⟩
   ·simp [Instr.mapUpdate,run_underlying ht,MapKept.run_getObj_map h1,K.ck,hf,hh,hen,hkey,K.stays,MapKept.run_setObj_map _ h1,Result.andThen,putMap]
   ·simp [putMap,hlt]
   ·unfold entsG at h2 ⊢
    apply List.ext_getElem?
    intro i
    have:=congrArg (fun q=>q[i]?) h2
    simp only [List.getElem?_map,Array.getElem?_toList] at this ⊢
    rw [Array.getElem?_modify,List.getElem?_set]
    by_cases hi:n=i
    ·subst hi
     simp [hen,h5]
    ·simpa [hi] using this
   ·have:=findG_set a x u v l 0 n hh
    simp only [Nat.sub_zero] at this
    show _=if x=a then some v else B x
    rw [this]
    split
    ·rfl
    ·exact h3 x
theorem MapG.delete {t k e:TypeId} (K:KeyG k kf) (ht:Tryz.prog.underlying t=some (.map k e)) {w:World} {g:Nat} {B:α→Option Value} (h:MapG kf w g B) (a:α) (ty:TypeId) (ats:Array TypeId) (hat:ats[0]? = some t) :
  ∃ es clock B',(Builtin.delete_ ats ty #[.map (some g),kf a]).run Tryz.prog w = .ok (.tuple #[]) (putMap w g es clock)∧MapG kf (putMap w g es clock) g B'∧∀ x,x≠a→B' x=B x:=by
 have hlt:=h.lt
 obtain ⟨es,clock,l,h1,h2,h3⟩:=h
 have hf:=K.find a w es.toList l h2
 cases hh:findG a l 0 with
 | none =>
   refine ⟨es,clock,B,?_,⟨es,clock,l,by simp [putMap,hlt],h2,h3⟩,fun _ _=>rfl⟩
   simp [Builtin.delete_,hat,run_underlying ht,MapKept.run_getObj_map h1,K.ck,hf,hh,MapKept.run_setObj_map _ h1,Result.andThen,putMap]
 | some r =>
   obtain ⟨n,u⟩:=r
   obtain ⟨_,h5,h6⟩:=findG_some a l 0 n u hh
   simp only [Nat.sub_zero] at h5 h6
   refine ⟨es.eraseIdxIfInBounds n,clock,fun x=>(findG x (l.eraseIdx n) 0).map (·.2),?_,⟨es.eraseIdxIfInBounds n,clock,l.eraseIdx n,by simp [putMap,hlt],?_,fun _=>rfl⟩,fun x hx=>?_⟩
   ·simp [Builtin.delete_,hat,run_underlying ht,MapKept.run_getObj_map h1,K.ck,hf,hh,MapKept.run_setObj_map _ h1,Result.andThen,putMap]
   ·unfold entsG at h2 ⊢
    have hen:n < es.size:=by
     have:=congrArg List.length h2
     simp at this; omega
    simp only [Array.eraseIdxIfInBounds,hen,dif_pos,Array.toList_eraseIdx]
    rw [erase_map,erase_map,h2]
   ·have:=findG_erase a x u hx l 0 n hh
    simp only [Nat.sub_zero] at this
    exact this.trans (h3 x)
end
abbrev kI (n:Int):Value := .int .i64 n
theorem keyI_find {k:TypeId} (hk:Tryz.prog.underlying k=some (.int .i64)) (a:Int) (w:World) (es:List MapEntry) (l:List (Int×Value)) (h:entsG kI es l):(Instr.findKey k (kI a) es).run Tryz.prog w = .ok (findG a l 0) w:=by
 have key:∀ (es:List MapEntry) (l:List (Int×Value)) (i:Nat),entsG kI es l→Instr.findNow (.int .i64) (kI a) es i=some (findG a l i):=by
  intro es
  induction es with
  | nil =>
    intro l i h
    cases l with
    | nil=>rfl
    | cons x l=>simp [entsG] at h
  | cons e es ih =>
    intro l i h
    cases l with
    | nil=>simp [entsG] at h
    | cons x l =>
      simp only [entsG,List.map_cons,List.cons.injEq,Prod.mk.injEq] at h
      obtain ⟨⟨h1,h2⟩,h3⟩:=h
      unfold Instr.findNow findG
      rw [h1]
      unfold kI Instr.sameNow
      simp only [if_true]
      by_cases hx:a=x.1
      ·rw [if_pos hx]
       simp [hx,h2]
      ·rw [if_neg hx]
       have:(a==x.1)=false:=by simpa using hx
       rw [this]
       exact ih l (i+1) h3
 simp only [Instr.findKey,Sem.run_bind,run_underlying hk,Result.andThen_ok,key es l 0 h,Sem.run_pure]
theorem keyI_stays (a:Int) (w:World):(Instr.keyThatStays (kI a) (kI a)).run Tryz.prog w = .ok (kI a) w:=by
 simp [Instr.keyThatStays,Instr.sameBits,kI]
section
variable {α:Type} [DecidableEq α]
end
end Go.Proofs.YtibmeigdjghkcaaGreat
