/- Pieces as names: what fits is linked. Nothing of the program is imported here beyond the models. A join's pieces, and the way from one to another one. Plain. -/
import Derived.Test.YtibmeigdjghkcaaGreatPdM
import Derived.Test.YtibmeigdjghkcaaGreatPe1
import Derived.Test.YtibmeigdjghkcaaGreatPcB
import Derived.Test.YtibmeigdjghkcaaGreatPure
namespace Go.Proofs.YtibmeigdjghkcaaGreat
set_option linter.unusedVariables false
def fitPc (c:J.Cyl) (i k:Nat) (x y:J.St):Bool:=(decide (x.p=(i:Int))&&decide (y.p=(k:Int)))&&J.fitsS c x y
def nearB (c:J.Cyl) (i k:Nat):Bool:=(J.stepsOf c).any fun x=>(J.stepsOf c).any fun y=>fitPc c i k x y
def linkG (c:J.Cyl) (i k:Nat):Bool:=nearB c i k||nearB c k i
def rowG (c:J.Cyl) (i j:Nat):List LkI:=((List.range j).filter (linkG c i)).map fun k:Nat=>⟨(i:Int),(k:Int),1⟩
def lksG (c:J.Cyl) (m:Nat):List LkI:=(List.range m).flatMap fun i=>rowG c i i
theorem rowG_succ (c:J.Cyl) (i j:Nat):rowG c i (j+1)=rowG c i j++if linkG c i j=true then [⟨(i:Int),(j:Int),1⟩] else []:=by
 unfold rowG
 rw [List.range_succ,List.filter_append,List.map_append]
 congr 1
 by_cases h:linkG c i j=true <;> simp [h]
theorem lksG_succ (c:J.Cyl) (m:Nat):lksG c (m+1)=lksG c m++rowG c m m:=by
 unfold lksG
 rw [List.range_succ,List.flatMap_append]
 simp
theorem rowG_len (c:J.Cyl) (i j:Nat):(rowG c i j).length≤j:=by
 unfold rowG
 rw [List.length_map]
 exact Nat.le_trans (List.length_filter_le _ _) (by simp)
theorem lksG_len (c:J.Cyl) (m:Nat) (hm:m≤8):∀ k,k≤m→(lksG c k).length≤8 * k
 | 0,_=>by simp [lksG]
 | k+1,h=>by
   have:=lksG_len c m hm k (by omega)
   have:=rowG_len c k k
   rw [lksG_succ,List.length_append]
   omega
theorem mem_lksG {c:J.Cyl} {m:Nat} {z:LkI}:z∈lksG c m↔∃ i k,i < m∧k < i∧linkG c i k=true∧z=⟨(i:Int),(k:Int),1⟩:=by
 unfold lksG rowG
 rw [List.mem_flatMap]
 constructor
 ·rintro ⟨i,hi,h⟩
  obtain ⟨k,hk,rfl⟩:=List.mem_map.1 h
  obtain ⟨h1,h2⟩:=List.mem_filter.1 hk
  exact ⟨i,k,List.mem_range.1 hi,List.mem_range.1 h1,h2,rfl⟩
 ·rintro ⟨i,k,h1,h2,h3,rfl⟩
  exact ⟨i,List.mem_range.2 h1,List.mem_map.2 ⟨k,List.mem_filter.2 ⟨List.mem_range.2 h2,h3⟩,rfl⟩⟩
def nlG (c:J.Cyl) (a b:Nat):NL:=⟨(c.pcs.length:Int),lksG c c.pcs.length,[(a:Int)],[(b:Int)]⟩
structure GvIn (c:J.Cyl) (a b:Nat):Prop where
 ok:J.checkCyl c=0
 two:2≤c.pcs.length
 eight:c.pcs.length≤8
 a1:a < c.pcs.length
 b1:b < c.pcs.length
 ne:a≠b
variable {c:J.Cyl} {a b:Nat}
theorem GvIn.good (h:GvIn c a b):Good (nlG c a b):=by
 have h2:=h.two
 have h8:=h.eight
 have ha:=h.a1
 have hb:=h.b1
 have hne:=h.ne
 have hl:=lksG_len c c.pcs.length h8 _ (Nat.le_refl _)
 refine ⟨by simp only [nlG]; omega,by simp only [nlG]; omega,by simp only [nlG]; omega,by simp [nlG],by simp [nlG],by simp [nlG],by simp [nlG],fun k hk=>?_,?_,?_,fun z hz hz2=>?_⟩
 ·obtain ⟨i,k,h1,h2, -,rfl⟩:=mem_lksG.1 (show k∈lksG c c.pcs.length from hk)
  simp only [nlG]
  omega
 ·simp only [nlG,rises,risesFrom,Bool.and_true,Bool.and_eq_true,decide_eq_true_eq]
  omega
 ·simp only [nlG,rises,risesFrom,Bool.and_true,Bool.and_eq_true,decide_eq_true_eq]
  omega
 ·simp only [nlG,List.mem_singleton] at hz hz2
  omega
theorem GvIn.open_ (h:GvIn c a b):openE (nlG c a b) []=0:=by
 unfold openE
 rw [if_neg (by rw [check_good.2 h.good]; simp)]
 rfl
theorem gv_pair {i k:Nat} (hi:i < c.pcs.length) (hk:k < i) (h:linkG c i k=true):(i,k)∈pairsOf (nlG c a b).L []:=by
 have hm:(⟨(i:Int),(k:Int),1⟩:LkI)∈(nlG c a b).links:=mem_lksG.2 ⟨i,k,hi,hk,h,rfl⟩
 obtain ⟨j,hj,he⟩:=List.getElem_of_mem hm
 have e:=NL.at_ (l:=nlG c a b) (List.getElem?_eq_getElem hj)
 exact mem_pairs.2 ⟨j,by rw [NL.len]; exact hj,by simp,by rw [e,he]; rfl,by rw [e,he]; rfl⟩
theorem gv_near {i k:Nat} (hi:i < c.pcs.length) (hk:k < c.pcs.length) (hne:i≠k) (h:nearB c i k=true):(i,k)∈pairsOf (nlG c a b).L []∨(k,i)∈pairsOf (nlG c a b).L []:=by
 rcases Nat.lt_trichotomy k i with h1 | h1 | h1
 ·exact .inl (gv_pair hi h1 (by unfold linkG; rw [h]; rfl))
 ·exact absurd h1.symm hne
 ·exact .inr (gv_pair hk h1 (by unfold linkG; rw [h]; simp))
theorem near_of {x y:J.St} {i k:Nat} (hx:J.isStep c x=true) (hy:J.isStep c y=true) (ex:x.p=(i:Int)) (ey:y.p=(k:Int)) (hf:J.fitsS c x y=true):nearB c i k=true:=by
 unfold nearB
 rw [List.any_eq_true]
 refine ⟨x,(J.isStep_iff c x).1 hx,?_⟩
 rw [List.any_eq_true]
 refine ⟨y,(J.isStep_iff c y).1 hy,?_⟩
 unfold fitPc
 rw [hf]
 simp [ex,ey]
variable {l:NL} {x y:Nat}
theorem one_cost (g:Good l) (hx:l.left=[(x:Int)]) (hy:l.right=[(y:Int)]):0 < lstC l↔Conn (pairsOf l.L []) x y:=by
 have h0:lstC l=costL l:=if_pos (check_good.2 g)
 rw [h0]
 have hS:=cheap_least2 g
 unfold costL
 generalize (fun u=>@decide (LeastP l u) (Classical.propDecidable _))=S at hS ⊢
 have hA:l.A x=true:=NL.mA.2 (by simp [hx,natL])
 have hB:l.B y=true:=NL.mB.2 (by simp [hy,natL])
 have h1:=hS.1.1 x hA
 have h2:=hS.1.2 y hB
 constructor
 ·intro hc
  refine Classical.byContradiction fun hn=>?_
  let T:Nat→Bool:=fun u=>@decide (Conn (pairsOf l.L []) x u) (Classical.propDecidable _)
  have hT:Side l T:=by
   refine ⟨fun u hu=>?_,fun u hu=>?_⟩
   ·have:u=x:=by simpa [hx,natL] using NL.mA.1 hu
    subst this
    exact @decide_eq_true _ (Classical.propDecidable _) (.refl _)
   ·have:u=y:=by simpa [hy,natL] using NL.mB.1 hu
    subst this
    exact @decide_eq_false _ (Classical.propDecidable _) hn
  have hz:cutC l.L T=0:=by
   unfold cutC
   refine isum_zero fun i hi=>?_
   rw [if_neg]
   simp only [ne_eq,Decidable.not_not]
   have hp:((lkAt l.L i).a,(lkAt l.L i).b)∈pairsOf l.L []:=mem_pairs.2 ⟨i,List.mem_range.1 hi,by simp,rfl,rfl⟩
   rw [Bool.eq_iff_iff]
   simp only [T,decide_eq_true_eq]
   exact ⟨fun k=>k.trans (.one (.inl hp)),fun k=>k.trans (.one (.inr hp))⟩
  have:=hS.2 T hT
  omega
 ·intro hc
  refine Int.lt_iff_le_and_ne.2 ⟨cut_nonneg g S,fun e=>?_⟩
  have hall:∀ i,i < l.L.length→S (lkAt l.L i).a=S (lkAt l.L i).b:=by
   intro i hi
   refine Classical.byContradiction fun hne=>?_
   have ht:=g.net.t i hi
   have hlt:0 < cutC l.L S:=by
    unfold cutC
    refine isum_lt (f:=fun i=>if S (lkAt l.L i).a≠S (lkAt l.L i).b then (lkAt l.L i).t else 0) (fun k hk=>?_) (List.mem_range.2 hi) ?_
    ·have:=g.net.t k (List.mem_range.1 hk)
     split <;> omega
    ·show 0 < (if S (lkAt l.L i).a≠S (lkAt l.L i).b then (lkAt l.L i).t else 0)
     rw [if_pos hne]
     omega
   omega
  have:=hc.same (f:=S) fun p hp=>by
   obtain ⟨u,v⟩:=p
   obtain ⟨i,hi, -,h3,h4⟩:=mem_pairs.1 hp
   rw [← h3,← h4]
   exact hall i hi
  rw [h1,h2] at this
  cases this
theorem one_joined (g:Good l) (hx:l.left=[(x:Int)]) (hy:l.right=[(y:Int)]):joinedB l (natL [])=true↔Conn (pairsOf l.L []) x y:=by
 rw [joined_iff g]
 unfold anyP
 constructor
 ·rintro ⟨v,hv,hr⟩
  obtain ⟨u,hu,hc⟩:=(rch_conn g.net).1 hr
  have hv':v=y:=by simpa [hy,natL] using hv
  have hu':u=x:=by simpa [hx,natL] using hu
  rw [hv',hu'] at hc
  exact hc
 ·intro hc
  exact ⟨y,by simp [hy,natL],(rch_conn g.net).2 ⟨x,by simp [hx,natL],hc⟩⟩
theorem one_group (g:Good l) (ho:openE l []=0) (h:∀ u v,u < l.N→v < l.N→Conn (pairsOf l.L []) u v):∃ gr,grpL l []=[gr]∧gr.length=l.N:=by
 have hps:=pairs_lt g.net (natL [])
 have hn:0 < l.N:=by
  have:=g.two
  unfold NL.N
  omega
 have h0:∀ k,k < l.N→labN (pairsOf l.L (natL [])) l.N k=0:=fun k hk=>by
  have h1:=(labN_iff hps hk hn).2 (h k 0 hk hn)
  have h2:=labN_le hps hn
  omega
 have hg:groupsOf (pairsOf l.L (natL [])) l.N=[List.range l.N]:=by
  unfold groupsOf
  have step:∀ d,groupsTo (pairsOf l.L (natL [])) l.N (1+d)=groupsTo (pairsOf l.L (natL [])) l.N 1:=fun d=>groupsTo_gap hps d fun k _ hk=>by rw [h0 k hk]; omega
  have e1:=step (l.N-1)
  rw [show 1+(l.N-1)=l.N by omega] at e1
  have eg:groupAt (pairsOf l.L (natL [])) l.N 0=List.range l.N:=by
   unfold groupAt
   rw [List.filter_eq_self]
   intro k hk
   rw [beq_iff_eq]
   exact h0 k (List.mem_range.1 hk)
  rw [e1,groupsTo_succ,eg,if_neg (by intro e; have:=congrArg List.length e; simp at this; omega)]
  simp [groupsTo]
 refine ⟨intL (List.range l.N),?_,by simp [intL]⟩
 unfold grpL
 rw [if_pos ho,hg]
 rfl
def LinkedR (l:NL):List Nat→Prop
 | x::y::r=>((x,y)∈pairsOf l.L []∨(y,x)∈pairsOf l.L [])∧LinkedR l (y::r)
 | _=>True
theorem LinkedR.tail {x:Nat} {r:List Nat} (h:LinkedR l (x::r)):LinkedR l r:=by
 cases r with
 | nil=>trivial
 | cons y r=>exact h.2
theorem LinkedR.suffix:∀ {p r:List Nat},LinkedR l (p++r)→LinkedR l r
 | [],_,h=>h
 | x::p,r,h=>LinkedR.suffix (p:=p) (LinkedR.tail (x:=x) h)
theorem LinkedR.pref:∀ {p r:List Nat},LinkedR l (p++r)→LinkedR l p
 | [],_,_=>trivial
 | [x],_,_=>trivial
 | x::y::p,r,h=>⟨h.1,LinkedR.pref (p:=y::p) (r:=r) h.2⟩
theorem LinkedR.snoc:∀ {p:List Nat} {x y:Nat},LinkedR l (p++[x])→((x,y)∈pairsOf l.L []∨(y,x)∈pairsOf l.L [])→LinkedR l (p++[x]++[y])
 | [],x,y,_,h=>⟨h,trivial⟩
 | [z],x,y,h1,h=>⟨h1.1,h,trivial⟩
 | z::w::p,x,y,h1,h=>⟨h1.1,LinkedR.snoc (p:=w::p) h1.2 h⟩
theorem LinkedR.reverse:∀ {p:List Nat},LinkedR l p→LinkedR l p.reverse
 | [],_=>trivial
 | [x],_=>trivial
 | x::y::p,h=>by
   have ih:=LinkedR.reverse (p:=y::p) h.2
   rw [List.reverse_cons] at ih ⊢
   rw [List.reverse_cons]
   exact ih.snoc h.1.symm
theorem LinkedR.conn:∀ {p:List Nat} {x:Nat},LinkedR l (x::p)→∀ y∈p,Conn (pairsOf l.L []) x y
 | [],x,_,y,hy=>by cases hy
 | z::p,x,h,y,hy=>by
   rcases List.mem_cons.1 hy with rfl | hy
   ·exact .one h.1
   ·exact .step h.1 (LinkedR.conn h.2 y hy)
theorem LinkedR.conn2 {p:List Nat} (h:LinkedR l p) {u v:Nat} (hu:u∈p) (hv:v∈p):Conn (pairsOf l.L []) u v:=by
 cases p with
 | nil=>cases hu
 | cons x p =>
   have hto:∀ y∈x::p,Conn (pairsOf l.L []) x y:=fun y hy=>by
    rcases List.mem_cons.1 hy with rfl | hy
    ·exact .refl _
    ·exact h.conn y hy
   exact (hto u hu).symm.trans (hto v hv)
theorem LinkedR.chain (g:Good l):∀ {p:List Nat},LinkedR l p→(∀ k∈p,k < l.N)→chainB l [] (intL p)=true
 | [],_,_=>rfl
 | [x],_,_=>rfl
 | x::y::p,h,hlt=>by
   have hin:∀ k,k < l.N→inN l.n (k:Int)=true:=fun k hk=>by
    unfold inN
    unfold NL.N at hk
    simp only [Bool.and_eq_true,decide_eq_true_eq]
    omega
   have hx:=hlt x (by simp)
   have hy:=hlt y (by simp)
   show (linkedB l [] (x:Int) (y:Int)&&chainB l [] (intL (y::p)))=true
   rw [Bool.and_eq_true]
   refine ⟨(linked_way (drop:=[]) g (hin x hx) (hin y hy)).2 ?_,LinkedR.chain g h.2 fun k hk=>hlt k (List.mem_cons_of_mem _ hk)⟩
   rw [Int.toNat_natCast,Int.toNat_natCast]
   exact (way_pair (drop:=[]) g.net).2 h.1
end Go.Proofs.YtibmeigdjghkcaaGreat
namespace Go.Proofs.YtibmeigdjghkcaaGreat
set_option linter.unusedVariables false
def pcsOf (x:List J.St):List Nat:=x.map fun s=>s.p.toNat
structure PcsOk (c:J.Cyl) (l:NL) (x:List J.St):Prop where
 len:x.length=c.pcs.length
 at_:∀ s∈x,s.p=(s.p.toNat:Int)∧s.p.toNat < c.pcs.length
 nodup:(pcsOf x).Nodup
 all:∀ k,k < c.pcs.length→k∈pcsOf x
 linked:LinkedR l (pcsOf x)
variable {c:J.Cyl} {a b:Nat}
theorem gv_zero {x:List J.St} (h:J.checkJoin c x=0):x.length=c.pcs.length∧x.all (J.isStep c)=true∧J.twice x=false∧J.chain c x=true:=by
 unfold J.checkJoin at h
 split at h
 ·contradiction
 split at h
 ·cases h
 split at h
 ·cases h
 split at h
 ·cases h
 split at h
 ·cases h
 rename_i h1 h2 h3 h4
 exact ⟨by simpa using h1,by simpa using h2,by simpa using h3,by simpa using h4⟩
theorem gv_step {s:J.St} (h:J.isStep c s=true):s.p=(s.p.toNat:Int)∧s.p.toNat < c.pcs.length:=by
 unfold J.isStep at h
 simp only [Bool.and_eq_true,decide_eq_true_eq] at h
 omega
theorem gv_nodup:∀ {x:List J.St},(∀ s∈x,s.p=(s.p.toNat:Int))→J.twice x=false→(pcsOf x).Nodup
 | [],_,_ => .nil
 | s::r,hp,h=>by
   unfold J.twice at h
   rw [Bool.or_eq_false_iff] at h
   unfold pcsOf
   rw [List.map_cons,List.nodup_cons]
   refine ⟨fun hm=>?_,gv_nodup (fun z hz=>hp z (List.mem_cons_of_mem _ hz)) h.2⟩
   obtain ⟨z,hz,e⟩:=List.mem_map.1 hm
   have:=List.any_eq_false.1 h.1 z hz
   have h1:=hp s (List.mem_cons_self ..)
   have h2:=hp z (List.mem_cons_of_mem _ hz)
   simp only [decide_eq_true_eq] at this
   omega
theorem gv_linked (h:GvIn c a b):∀ {x:List J.St},(∀ s∈x,J.isStep c s=true)→J.chain c x=true→LinkedR (nlG c a b) (pcsOf x)
 | [],_,_=>trivial
 | [s],_,_=>trivial
 | s::t::r,hp,hc=>by
   unfold J.chain at hc
   rw [Bool.and_eq_true] at hc
   have hs:=hp s (by simp)
   have ht:=hp t (by simp)
   have h1:=gv_step hs
   have h2:=gv_step ht
   have hne:s.p.toNat≠t.p.toNat:=by
    have:=hc.1
    unfold J.fitsS at this
    simp only [Bool.and_eq_true,decide_eq_true_eq] at this
    omega
   exact ⟨gv_near h1.2 h2.2 hne (near_of hs ht h1.1 h2.1 hc.1),gv_linked h (fun z hz=>hp z (List.mem_cons_of_mem _ hz)) hc.2⟩
theorem gv_pcs (h:GvIn c a b) {x:List J.St} (hx:J.checkJoin c x=0):PcsOk c (nlG c a b) x:=by
 obtain ⟨h1,h2,h3,h4⟩:=gv_zero hx
 have hall:=List.all_eq_true.1 h2
 have hat:∀ s∈x,s.p=(s.p.toNat:Int)∧s.p.toNat < c.pcs.length:=fun s hs=>gv_step (hall s hs)
 have hnd:=gv_nodup (fun s hs=>(hat s hs).1) h3
 have hlt:∀ k∈pcsOf x,k < c.pcs.length:=fun k hk=>by
  obtain ⟨s,hs,rfl⟩:=List.mem_map.1 hk
  exact (hat s hs).2
 refine ⟨h1,hat,hnd,fun k hk=>?_,gv_linked h hall h4⟩
 refine Classical.byContradiction fun hn=>?_
 have:=nodup_len (N:=c.pcs.length) (List.nodup_cons.2 ⟨hn,hnd⟩) (fun u hu=>by
  rcases List.mem_cons.1 hu with rfl | hu
  ·exact hk
  ·exact hlt u hu)
 simp [pcsOf,h1] at this
 omega
theorem gv_conn (h:GvIn c a b) {x:List J.St} (hx:J.checkJoin c x=0) {u v:Nat} (hu:u < c.pcs.length) (hv:v < c.pcs.length):Conn (pairsOf (nlG c a b).L []) u v :=
 let k:=gv_pcs h hx
 k.linked.conn2 (k.all u hu) (k.all v hv)
theorem nlG_N:(nlG c a b).N=c.pcs.length:=by simp [NL.N,nlG]
theorem gv_group (h:GvIn c a b) {x:List J.St} (hx:J.checkJoin c x=0):∃ gr,grpL (nlG c a b) []=[gr]∧gr.length=c.pcs.length:=by
 have:=one_group h.good h.open_ fun u v hu hv=>gv_conn h hx (by rwa [nlG_N] at hu) (by rwa [nlG_N] at hv)
 rwa [nlG_N] at this
theorem gv_costs (h:GvIn c a b) {x:List J.St} (hx:J.checkJoin c x=0):1≤lstC (nlG c a b):=by
 have:=(one_cost h.good (x:=a) (y:=b) rfl rfl).2 (gv_conn h hx h.a1 h.b1)
 omega
theorem gv_chain (h:GvIn c a b):(chainE (nlG c a b) []=0∧0 < lstC (nlG c a b))∨(chainE (nlG c a b) []=5∧¬ 0 < lstC (nlG c a b)):=by
 rw [chainE_go h.open_]
 have h1:=one_cost h.good (x:=a) (y:=b) rfl rfl
 have h2:=one_joined h.good (x:=a) (y:=b) rfl rfl
 by_cases hj:joinedB (nlG c a b) (natL [])=true
 ·rw [if_pos hj]
  exact .inl ⟨rfl,h1.2 (h2.1 hj)⟩
 ·rw [if_neg hj]
  exact .inr ⟨rfl,fun k=>hj (h2.2 (h1.1 k))⟩
def NotE (a b:Nat) (r:List Nat):Prop:=∀ p∈r,p≠a∧p≠b
def WayI (ps:List Nat) (a b i:Nat) (w:List Nat):Prop:=∃ pre,ps.take i=pre++w∧NotE a b pre∧(w=[]∨∃ e mid,w=e::mid∧(e=a∨e=b)∧NotE a b mid)
def WayD (ps:List Nat) (a b:Nat) (w:List Nat):Prop:=∃ pre suf e mid f,ps=pre++w++suf∧w=e::mid++[f]∧(e=a∨e=b)∧(f=a∨f=b)
variable {ps w:List Nat} {i p:Nat}
theorem NotE.snoc {r:List Nat} (h:NotE a b r) (hp:¬ (p=a∨p=b)):NotE a b (r++[p]):=fun q hq=>by
 rcases List.mem_append.1 hq with hq | hq
 ·exact h q hq
 ·rw [List.mem_singleton] at hq
  subst hq
  exact ⟨fun e=>hp (.inl e),fun e=>hp (.inr e)⟩
theorem way_start:WayI ps a b 0 []:=⟨[],by simp,(fun p hp=>nomatch hp),.inl rfl⟩
theorem take_at (hp:ps[i]? = some p):ps.take (i+1)=ps.take i++[p]:=by
 rw [List.take_add_one,hp]
 rfl
theorem way_skip (h:WayI ps a b i []) (hp:ps[i]? = some p) (hn:¬ (p=a∨p=b)):WayI ps a b (i+1) []:=by
 obtain ⟨pre,h1,h2, -⟩:=h
 exact ⟨pre++[p],by rw [take_at hp,h1]; simp,h2.snoc hn,.inl rfl⟩
theorem way_first (h:WayI ps a b i []) (hp:ps[i]? = some p) (he:p=a∨p=b):WayI ps a b (i+1) [p]:=by
 obtain ⟨pre,h1,h2, -⟩:=h
 exact ⟨pre,by rw [take_at hp,h1]; simp,h2,.inr ⟨p,[],rfl,he,fun q hq=>by cases hq⟩⟩
theorem way_on (h:WayI ps a b i w) (hw:w≠[]) (hp:ps[i]? = some p) (hn:¬ (p=a∨p=b)):WayI ps a b (i+1) (w++[p]):=by
 obtain ⟨pre,h1,h2,h3⟩:=h
 refine ⟨pre,by rw [take_at hp,h1]; simp,h2,?_⟩
 rcases h3 with h3 | ⟨e,mid,rfl,he,hm⟩
 ·exact absurd h3 hw
 ·exact .inr ⟨e,mid++[p],by simp,he,hm.snoc hn⟩
theorem way_end (h:WayI ps a b i w) (hw:w≠[]) (hp:ps[i]? = some p) (he:p=a∨p=b):WayD ps a b (w++[p]):=by
 obtain ⟨pre,h1,h2,h3⟩:=h
 rcases h3 with h3 | ⟨e,mid,rfl,hee,hm⟩
 ·exact absurd h3 hw
 ·refine ⟨pre,ps.drop (i+1),e,mid,p,?_,by simp,hee,he⟩
  have:=(List.take_append_drop (i+1) ps).symm
  rw [take_at hp,h1] at this
  simpa using this
theorem way_no (h:WayI ps a b ps.length w) (hne:a≠b) (ha:a∈ps) (hb:b∈ps):False:=by
 obtain ⟨pre,h1,h2,h3⟩:=h
 rw [List.take_length] at h1
 rw [h1] at ha hb
 rcases h3 with rfl | ⟨e,mid,rfl,he,hm⟩
 ·rw [List.append_nil] at ha
  exact (h2 a ha).1 rfl
 ·have hA:a=e:=by
   rcases List.mem_append.1 ha with k | k
   ·exact absurd rfl (h2 a k).1
   ·rcases List.mem_cons.1 k with k | k
    ·exact k
    ·exact absurd rfl (hm a k).1
  have hB:b=e:=by
   rcases List.mem_append.1 hb with k | k
   ·exact absurd rfl (h2 b k).2
   ·rcases List.mem_cons.1 k with k | k
    ·exact k
    ·exact absurd rfl (hm b k).2
  exact hne (hA.trans hB.symm)
theorem chk_of (h:GvIn c a b) {r:List Nat} (hl:LinkedR (nlG c a b) r) (hlt:∀ k∈r,k < c.pcs.length) (h2:2≤r.length) (h8:r.length≤40) (hh:r.head? = some a) (ht:r.getLast? = some b):chkC (nlG c a b) [] (intL r)=0:=by
 unfold chkC
 rw [if_neg (by rw [h.open_]; simp),if_neg (by unfold intL; rw [List.length_map]; omega),if_neg,if_pos]
 ·rw [Bool.and_eq_true]
  refine ⟨?_,hl.chain h.good fun k hk=>by rw [nlG_N]; exact hlt k hk⟩
  unfold endsC
  have e1:(intL r).headD 0=(a:Int):=by
   cases r with
   | nil=>cases hh
   | cons z r =>
     simp only [List.head?_cons,Option.some.injEq] at hh
     subst hh
     rfl
  have e2:(intL r).getLastD 0=(b:Int):=by
   rw [List.getLastD_eq_getLast?]
   unfold intL
   rw [List.getLast?_map,ht]
   rfl
  rw [e1,e2]
  simp [nlG]
 ·have:(intL r).all (inN (nlG c a b).n)=true:=by
   rw [List.all_eq_true]
   intro k hk
   obtain ⟨u,hu,rfl⟩:=List.mem_map.1 hk
   have:=hlt u hu
   show (decide (0≤(u:Int))&&decide ((u:Int) < (c.pcs.length:Int)))=true
   rw [Bool.and_eq_true,decide_eq_true_eq,decide_eq_true_eq]
   omega
  rw [this]
  simp
theorem way_chk (h:GvIn c a b) {x:List J.St} (hx:PcsOk c (nlG c a b) x) (hd:WayD (pcsOf x) a b w) :
  2≤w.length∧w.length≤8∧∃ e,w[0]? = some e∧(e=b→chkC (nlG c a b) [] (intL w.reverse)=0)∧(e≠b→chkC (nlG c a b) [] (intL w)=0):=by
 obtain ⟨pre,suf,e,mid,f,h1,rfl,he,hf⟩:=hd
 have hlk:LinkedR (nlG c a b) (e::mid++[f]):=by
  have:=hx.linked
  rw [h1,List.append_assoc] at this
  exact this.suffix.pref
 have hnd:=hx.nodup
 rw [h1,List.append_assoc,List.nodup_append] at hnd
 have hnd2:=(List.nodup_append.1 hnd.2.1).1
 have hne:e≠f:=by
  rw [List.cons_append,List.nodup_cons] at hnd2
  intro k
  exact hnd2.1 (by simp [k])
 have hlen:(pcsOf x).length=c.pcs.length:=by unfold pcsOf; rw [List.length_map,hx.len]
 have hle:(e::mid++[f]).length≤8:=by
  have:=h.eight
  rw [h1] at hlen
  simp only [List.length_append,List.length_cons,List.length_nil] at hlen ⊢
  omega
 have hlt:∀ k∈e::mid++[f],k < c.pcs.length:=fun k hk=>by
  have:k∈pcsOf x:=by
   rw [h1]
   exact List.mem_append_left _ (List.mem_append_right _ hk)
  obtain ⟨s,hs,rfl⟩:=List.mem_map.1 this
  exact (hx.at_ s hs).2
 have h2:2≤(e::mid++[f]).length:=by simp
 refine ⟨h2,hle,e,rfl,fun k=>?_,fun k=>?_⟩
 ·have hfa:f=a:=hf.resolve_right fun k2=>hne (k.trans k2.symm)
  exact chk_of h hlk.reverse (fun u hu=>hlt u (List.mem_reverse.1 hu)) (by rw [List.length_reverse]; exact h2) (by rw [List.length_reverse]; omega) (by simp [hfa]) (by rw [List.getLast?_reverse]; simp [k])
 ·have hea:e=a:=he.resolve_right k
  have hfb:f=b:=hf.resolve_left fun k2=>hne (hea.trans k2.symm)
  exact chk_of h hlk hlt h2 (by omega) (by simp [hea]) (by rw [List.getLast?_concat,hfb])
end Go.Proofs.YtibmeigdjghkcaaGreat
