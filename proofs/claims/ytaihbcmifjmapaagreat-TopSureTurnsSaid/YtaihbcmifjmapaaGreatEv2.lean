/- Evaluator, part I: how worlds go on; operations that make a row. Evaluator, part J: operations that make a row. Evaluator, part K: writing; stores. Evaluator, part L: maps, clear, copy. Evaluator, part M: entries, deletions, clear, copy, ranges begun. Evaluator, part N: append. Evaluator, part O: append, as the evaluator does it. Evaluator, part P: append, clear, copy, ranges begun: the operations; all operations of the others but calls. Evaluator, part Q: one operation in a region; a region in the order of the text. Evaluator, part R: what an operation looks at. Evaluator, part S: regions that draw their order: the steps, and which ones may be exchanged. Evaluator, part T: regions that draw their order: two operations exchanged. Evaluator, part U: regions that draw their order: any order does the same. Evaluator, part V: regions that draw their order: each step is sound. Evaluator, part W: the orders that a region may be done in. Evaluator, part X: a region that draws its order is sound. Evaluator, part Y: a region that draws its order is sound. -/
import Derived.Test.YtaihbcmifjmapaaGreatEv1
import Derived.Laws.MakeOwn
import Derived.Laws.Append
import Derived.Laws.AppendOwn
import Derived.AtR
import Derived.Orders
namespace Go.Proofs.YtaihbcmifjmapaaGreat.Ev
open Go Go.RowKit
set_option linter.unusedVariables false
variable {P:Program} {γ:Id→List MapEntry} {μ μ':Mu} {G G':Id→Row} {nx nx':Id} {B:Nat} {w w':World} {nt:Nat} {R:Regs} {a:Act}
theorem digits3 {i j:Nat} (hi:i < 4096) (hj:j < 4096) (h1:toD (i / 256)=toD (j / 256)) (h2:toD (i / 16 % 16)=toD (j / 16 % 16)) (h3:toD (i % 16)=toD (j % 16)):i=j:=by
 have a:=congrArg D16.num h1
 have b:=congrArg D16.num h2
 have c:=congrArg D16.num h3
 rw [num_toD (by omega),num_toD (by omega)] at a
 rw [num_toD (by omega),num_toD (by omega)] at b
 rw [num_toD (by omega),num_toD (by omega)] at c
 omega
theorem gC_sC {i o:Nat} (hi:i < 4096) (ho:o < 4096) (e:EV) (c:Cs):gC i (sC o e c)=if i=o then e else gC i c:=by
 have hs:sC o e c=setC (toD (o / 256)) (toD (o / 16 % 16)) (toD (o % 16)) e c:=by
  show VE.rec (motive:=fun _=>Cs) (fun e=>setC (toD (o / 256)) (toD (o / 16 % 16)) (toD (o % 16)) e c) (strict e)=_
  rw [strict_eq]
 rw [hs]
 unfold gC
 rw [getC_eq,setC_eq,get3_set3,getC_eq]
 by_cases h:i=o
 ·subst h; simp
 ·rw [if_neg h,if_neg]
  rintro ⟨h1,h2,h3⟩
  exact h (digits3 hi ho h1 h2 h3)
theorem gC_fill {i:Nat} (hi:i < 4096):∀ (es:List EV) (c:Cs) (o:Nat),o+es.length≤4096→gC i (fillC es c o)=if o≤i∧i < o+es.length then es.getD (i-o) .unk else gC i c
 | [],c,o,h=>by simp [fillC]; omega
 | e::es,c,o,h=>by
   simp only [List.length_cons] at h
   simp only [fillC]
   rw [gC_fill hi es _ _ (by omega),gC_sC hi (by omega)]
   simp only [List.length_cons]
   by_cases h1:i=o
   ·subst h1
    rw [if_neg (by omega),if_pos rfl,if_pos (by omega)]
    simp
   ·by_cases h2:o+1≤i∧i < o+1+es.length
    ·rw [if_pos h2,if_pos (by omega),show i-o=(i-(o+1))+1 by omega]
     simp
    ·rw [if_neg h2,if_neg h1,if_neg (by omega)]
def CsL (μ:Mu) (c:Cs) (l:List Value):Prop:=l.length≤4096∧∀ i v,l[i]? = some v→iv μ (gC i c)=some v
theorem CsL.fill {c:Cs} {l:List Value} (h:CsL μ c l) {es:List EV} {vs:List Value} (he:ivs μ es=some vs) {o:Nat} (ho:o+es.length≤l.length):CsL μ (fillC es c o) (l.take o++(vs++l.drop (o+es.length))):=by
 have hl:=ivs_len he
 refine ⟨?_,fun i v hv=>?_⟩
 ·simp only [List.length_append,List.length_take,List.length_drop]
  have:=h.1
  omega
 ·have hi:i < 4096:=by
   have:=(List.getElem?_eq_some_iff.1 hv).1
   simp only [List.length_append,List.length_take,List.length_drop] at this
   have:=h.1
   omega
  rw [gC_fill hi es c o (by have:=h.1; omega)]
  by_cases h1:i < o
  ·rw [if_neg (by omega)]
   rw [List.getElem?_append_left (by rw [List.length_take]; omega),List.getElem?_take_of_lt h1] at hv
   exact h.2 i v hv
  ·rw [List.getElem?_append_right (by rw [List.length_take]; omega),List.length_take,Nat.min_eq_left (by omega)] at hv
   by_cases h2:i < o+es.length
   ·rw [if_pos (by omega)]
    rw [List.getElem?_append_left (by omega)] at hv
    have hlt:i-o < es.length:=by omega
    obtain ⟨u,h3,h4⟩:=ivs_get he (List.getElem?_eq_getElem hlt)
    rw [hv] at h3
    injection h3 with h3
    subst h3
    rw [List.getD_eq_getElem?_getD,List.getElem?_eq_getElem hlt]
    exact h4
   ·rw [if_neg (by omega)]
    rw [List.getElem?_append_right (by omega),List.getElem?_drop] at hv
    refine h.2 i v ?_
    rw [← hv]
    congr 1
    omega
theorem CsL.whole {es:List EV} {vs:List Value} (he:ivs μ es=some vs) (hn:es.length≤4096) (c:Cs):CsL μ (fillC es c 0) vs:=by
 have hl:=ivs_len he
 refine ⟨by omega,fun i v hv=>?_⟩
 have hi:=(List.getElem?_eq_some_iff.1 hv).1
 rw [gC_fill (by omega) es c 0 (by omega),if_pos (by omega)]
 have hlt:i < es.length:=by omega
 obtain ⟨u,h3,h4⟩:=ivs_get he (List.getElem?_eq_getElem hlt)
 rw [hv] at h3
 injection h3 with h3
 subst h3
 rw [Nat.sub_zero,List.getD_eq_getElem?_getD,List.getElem?_eq_getElem hlt]
 exact h4
theorem CsL.row {c:Cs} {l:List Value} (h:CsL μ c l) (b:Nat) (t:TypeId) (g:List MapEntry):rowOk P g μ ⟨b,0,l.length⟩ (.cells l.toArray t (0,0)) (.cells c l.length t):=by
 refine ⟨l.toArray,rfl,by simp,⟨h.1,by simp⟩,fun i hi=>?_⟩
 have:=List.getElem?_eq_getElem hi
 exact ⟨_,h.2 i _ this,by simp⟩
structure Goes (μ:Mu) (G:Id→Row) (nx:Id) (w:World) (μ':Mu) (G':Id→Row) (nx':Id) (w':World):Prop where
 le:μ.le μ'
 new:∀ r:Id,r.num < nx.num→μ' r=μ r
 nxt:nx.num≤nx'.num
 os:w'.os=w.os
 tape:w'.tape=w.tape
 output:w'.output=w.output
 size:w.heap.size≤w'.heap.size
 keep:∀ k,k < w.heap.size→(∀ r p,alive (G r)=true→μ r=some p→p.blk≠k)→w'.heap[k]? = w.heap[k]?
 own:∀ r p,alive (G' r)=true→μ' r=some p→(∃ r0 p0,alive (G r0)=true∧μ r0=some p0∧p0.blk=p.blk)∨w.heap.size≤p.blk
 dom:∀ r:Id,alive (G' r)=true→alive (G r)=true∨nx.num≤r.num
theorem Goes.refl (μ:Mu) (G:Id→Row) (nx:Id) (w:World):Goes μ G nx w μ G nx w :=
 ⟨Mu.le_refl μ,fun _ _=>rfl,Nat.le_refl _,rfl,rfl,rfl,Nat.le_refl _,fun _ _ _=>rfl,fun r p h k => .inl ⟨r,p,h,k,rfl⟩,fun r h => .inl h⟩
theorem Goes.trans {μ2:Mu} {G2:Id→Row} {nx2:Id} {w2:World} (h:Goes μ G nx w μ' G' nx' w') (k:Goes μ' G' nx' w' μ2 G2 nx2 w2):Goes μ G nx w μ2 G2 nx2 w2 where
 le:=Mu.le_trans h.le k.le
 new:=fun r hr=>(k.new r (Nat.lt_of_lt_of_le hr h.nxt)).trans (h.new r hr)
 nxt:=Nat.le_trans h.nxt k.nxt
 os:=k.os.trans h.os
 tape:=k.tape.trans h.tape
 output:=k.output.trans h.output
 size:=Nat.le_trans h.size k.size
 keep:=fun b hb hn=>by
  rw [k.keep b (Nat.lt_of_lt_of_le hb h.size),h.keep b hb hn]
  intro r p hr hp hpb
  rcases h.own r p hr hp with ⟨r0,p0,h1,h2,h3⟩ | h1
  ·exact hn r0 p0 h1 h2 (h3.trans hpb)
  ·omega
 own:=fun r p hr hp=>by
  rcases k.own r p hr hp with ⟨r0,p0,h1,h2,h3⟩ | h1
  ·rcases h.own r0 p0 h1 h2 with ⟨r1,p1,h4,h5,h6⟩ | h4
   ·exact .inl ⟨r1,p1,h4,h5,h6.trans h3⟩
   ·exact .inr (by omega)
  ·exact .inr (Nat.le_trans h.size h1)
 dom:=fun r hr=>by
  rcases k.dom r hr with h1 | h1
  ·exact h.dom r h1
  ·exact .inr (Nat.le_trans h.nxt h1)
theorem Goes.below (h:Goes μ G nx w μ' G' nx' w') (hr:HR P γ μ G nx B w):Below B w w' where
 os:=h.os
 tape:=h.tape
 output:=h.output
 size:=h.size
 block:=fun k hk=>by
  refine h.keep k (Nat.lt_of_lt_of_le hk hr.base) fun r p h1 h2 h3=>?_
  obtain ⟨p',ob,k1,k2, -⟩:=hr.live r h1
  rw [h2] at k1
  injection k1 with k1
  subst k1
  omega
def upd {α:Type} (f:Id→α) (i:Id) (x:α):Id→α:=fun r=>if r=i then x else f r
theorem upd_same {α:Type} (f:Id→α) (i:Id) (x:α):upd f i x i=x:=if_pos rfl
theorem upd_other {α:Type} (f:Id→α) {i r:Id} (x:α) (h:r≠i):upd f i x r=f r:=if_neg h
theorem setRow_fun (i:Id) (row:Row) (H:Hp):(fun q=>getRow q (setRow i row H))=upd (fun q=>getRow q H) i row:=by
 funext q
 unfold upd
 rw [setRow_eq,getRow_eq,getH_setH]
 rfl
theorem le_upd {i:Id} (h:μ i=none) (p:Pl):μ.le (upd μ i (some p)):=by
 intro r q hr
 by_cases hi:r=i
 ·subst hi; rw [h] at hr; cases hr
 ·rw [upd_other _ _ hi]; exact hr
theorem HR.alloc (hr:HR P γ μ G nx B w) {i:Id} (hi:μ i=none) {ob:Obj} {tot:Nat} {row:Row} (hrow:rowOk P (γ i) (upd μ i (some ⟨w.heap.size,0,tot⟩)) ⟨w.heap.size,0,tot⟩ ob row) (h1:i.num < nx'.num) (h2:nx.num≤nx'.num) :
  HR P γ (upd μ i (some ⟨w.heap.size,0,tot⟩)) (upd G i row) nx' B (w.alloc ob):=by
 have hle:=le_upd hi ⟨w.heap.size,0,tot⟩
 have old:∀ {r p},r≠i→alive (G r)=true→upd μ i (some ⟨w.heap.size,0,tot⟩) r=some p→p.blk < w.heap.size:=by
  intro r p hri ha hp
  rw [upd_other _ _ hri] at hp
  obtain ⟨p',ob',k1, -,k3, -⟩:=hr.live r ha
  rw [hp] at k1
  injection k1 with k1
  subst k1
  exact (Array.getElem?_eq_some_iff.1 k3).1
 refine ⟨fun r hn=>?_,fun r ha=>?_,fun r r' p p' ha ha' hp hp' hb=>?_,Nat.le_trans hr.base (by simp)⟩
 ·have:r≠i:=by rintro rfl; omega
  rw [upd_other _ _ this]
  exact hr.fresh r (by omega)
 ·by_cases hri:r=i
  ·subst hri
   refine ⟨_,ob,upd_same _ _ _,hr.base,heap_alloc_new w ob,?_⟩
   rw [upd_same]
   exact hrow
  ·rw [upd_other _ _ hri] at ha
   obtain ⟨p,ob',k1,k2,k3,k4⟩:=hr.live r ha
   refine ⟨p,ob',hle _ _ k1,k2,?_,?_⟩
   ·rw [Below.heap_alloc w ob _ (Array.getElem?_eq_some_iff.1 k3).1]
    exact k3
   ·rw [upd_other _ _ hri]
    exact k4.mono hle
 ·by_cases hri:r=i
  ·by_cases hri':r'=i
   ·rw [hri,hri']
   ·subst hri
    rw [upd_same] at hp
    injection hp with hp
    subst hp
    rw [upd_other _ _ hri'] at ha'
    have:=old hri' ha' hp'
    simp only at hb
    omega
  ·by_cases hri':r'=i
   ·subst hri'
    rw [upd_same] at hp'
    injection hp' with hp'
    subst hp'
    rw [upd_other _ _ hri] at ha
    have:=old hri ha hp
    simp only at hb
    omega
   ·rw [upd_other _ _ hri] at ha hp
    rw [upd_other _ _ hri'] at ha' hp'
    exact hr.apart r r' p p' ha ha' hp hp' hb
theorem Goes.alloc {μ0:Mu} {G0:Id→Row} {nx0:Id} {w0:World} (h:Goes μ0 G0 nx0 w0 μ G nx w) {i:Id} (hi:μ i=none) (h0:nx0.num≤i.num) (ob:Obj) (tot:Nat) (row:Row) (h2:nx.num≤nx'.num) :
  Goes μ0 G0 nx0 w0 (upd μ i (some ⟨w.heap.size,0,tot⟩)) (upd G i row) nx' (w.alloc ob) where
 le:=Mu.le_trans h.le (le_upd hi _)
 new:=fun r hr=>by
  rw [upd_other _ _ (by rintro rfl; omega)]
  exact h.new r hr
 nxt:=Nat.le_trans h.nxt h2
 os:=h.os
 tape:=h.tape
 output:=h.output
 size:=Nat.le_trans h.size (by simp)
 keep:=fun k hk hn=>by
  rw [Below.heap_alloc w ob k (Nat.lt_of_lt_of_le hk h.size)]
  exact h.keep k hk hn
 own:=fun r p hr hp=>by
  by_cases hri:r=i
  ·subst hri
   rw [upd_same] at hp
   injection hp with hp
   subst hp
   exact .inr h.size
  ·rw [upd_other _ _ hri] at hr hp
   exact h.own r p hr hp
 dom:=fun r hr=>by
  by_cases hri:r=i
  ·subst hri; exact .inr h0
  ·rw [upd_other _ _ hri] at hr
   exact h.dom r hr
end Go.Proofs.YtaihbcmifjmapaaGreat.Ev
namespace Go.Proofs.YtaihbcmifjmapaaGreat.Ev
open Go Go.RowKit
set_option linter.unusedVariables false
variable {P:Program} {γ:Id→List MapEntry} {μ μ':Mu} {G G':Id→Row} {nx nx':Id} {B:Nat} {w w':World} {nt:Nat} {R:Regs} {a:Act}
theorem fillP_ok (k:RegOk μ nt R a.tmps) {place:Nat→Option (Nat×Nat)}:∀ {ps:List (Nat×Operand)} {qs:List (Nat×Nat×PX)},placesE place ps=some qs→∀ {c:Cs} {l:List Value} {c':Cs},CsL μ c l→fillP R qs l.length c=some c' →
  ∃ l',CsL μ c' l'∧Instr.fill place l.toArray (ps.map fun x=>(x.1,a.eval x.2))=some l'.toArray∧l'.length=l.length
 | [],qs,hq,c,l,c',hl,h=>by
   injection hq with hq
   subst hq
   injection h with h
   subst h
   exact ⟨l,hl,rfl,rfl⟩
 | (i,x)::ps,qs,hq,c,l,c',hl,h=>by
   simp only [placesE] at hq
   cases h1:place i with
   | none=>rw [h1] at hq; cases hq
   | some oz =>
     obtain ⟨o,z⟩:=oz
     cases h2:placesE place ps with
     | none=>rw [h1,h2] at hq; cases hq
     | some qs' =>
       rw [h1,h2] at hq
       injection hq with hq
       subst hq
       simp only [fillP] at h
       split at h
       rotate_left
       ·cases h
       rename_i hc
       obtain ⟨c1,c2,c3⟩:=hc
       have hu:getX (px x) R ≠ .unk:=by
        intro e
        rw [e] at c3
        cases c3
       have ht:∀ y,getX (px x) R ≠ .tup y:=by
        intro y e
        rw [e] at c3
        cases c3
       have hv:=(px_ok k x).resolve_left hu
       have hcl:=cells_ok hv ht
       have hvl:(a.eval x).cells.size=z:=by rw [← Array.length_toList,ivs_len hcl,c1]
       have hlen:(l.take o++((a.eval x).cells.toList++l.drop (o+z))).length=l.length:=by
        simp only [List.length_append,List.length_take,List.length_drop,Array.length_toList,hvl]
        omega
       have hl2:=hl.fill hcl (o:=o) (by omega)
       rw [c1] at hl2
       rw [← hlen] at h
       obtain ⟨l',e1,e2,e3⟩:=fillP_ok k h2 hl2 h
       refine ⟨l',e1,?_,by rw [e3,hlen]⟩
       rw [← e2]
       simp only [List.map_cons,Instr.fill,h1]
       rw [if_neg (by simp only [hvl,ne_eq,not_true_eq_false,decide_false,Bool.false_or,decide_eq_true_eq,List.size_toArray]; omega)]
       congr 1
       have:=fold_put (a.eval x).cells.toList o l 0 (by simp only [Array.length_toList,hvl]; omega)
       rw [← Array.foldl_toList,Array.toList_zipIdx]
       simp only [Nat.add_zero] at this
       rw [this]
       simp only [Array.length_toList,hvl]
theorem repE_ok {zs:List EV} {zv:List Value} (h:ivs μ zs=some zv):∀ n,∃ l,ivs μ (repE zs n)=some l∧l.length=n * zs.length∧∀ i,i < n * zs.length→l[i]? = zv[i % zs.length]?
 | 0=>⟨[],rfl,by simp,fun i hi=>by omega⟩
 | n+1=>by
   obtain ⟨l,h1,h2,h3⟩:=repE_ok h n
   have hz:=ivs_len h
   refine ⟨zv++l,ivs_append h h1,by rw [List.length_append,h2,hz,Nat.succ_mul,Nat.add_comm],fun i hi=>?_⟩
   by_cases hlt:i < zs.length
   ·rw [List.getElem?_append_left (by omega),Nat.mod_eq_of_lt hlt]
   ·rw [List.getElem?_append_right (by omega),hz,h3 (i-zs.length) (by rw [Nat.succ_mul] at hi; omega)]
    rw [Nat.mod_eq_sub_mod (show i≥zs.length by omega)]
theorem made_eq {zv:Array Value} {l:List Value} {n z:Nat} (hz:zv.size=z) (hl:l.length=n * z) (h:∀ i,i < n * z→l[i]? = zv.toList[i % z]?):(Array.range (n * z)).map (zv[· % zv.size]!)=l.toArray:=by
 apply Array.ext'
 apply List.ext_getElem?
 intro i
 by_cases hi:i < n * z
 ·have hzp:0 < z:=by
   rcases Nat.eq_zero_or_pos z with h0 | h0
   ·subst h0; simp at hi
   ·exact h0
  have hm:i % z < zv.size:=by rw [hz]; exact Nat.mod_lt _ hzp
  have h2:zv.toList[i % z]? = some (zv[i % z]'hm):=by
   rw [List.getElem?_eq_getElem (by simpa using hm)]
   simp
  have h1:=(h i hi).trans h2
  show _=l[i]?
  rw [h1]
  simp only [Array.toList_map,Array.toList_range,List.getElem?_map,List.getElem?_range hi,Option.map_some,hz]
  rw [getElem!_pos zv (i % z) hm]
 ·rw [List.getElem?_eq_none (by simp; omega),List.getElem?_eq_none (by simp; omega)]
theorem elemE_of {el:TypeId} {z:Nat} {zs:List EV} (h:elemE P el=some (z,zs)):∃ i v,P.info? el=some i∧i.zero=some v∧(∀ μ:Mu,ivs μ zs=some v.cells.toList)∧zs.length=z∧i.size=z∧0 < z∧0 < i.bytes∧i.bytes≤2 ^ 20:=by
 unfold elemE at h
 split at h
 rotate_left
 ·cases h
 rename_i i zs' hi hz
 split at h
 ·cases h
 rename_i hc
 injection h with h
 injection h with h1 h2
 subst h2
 obtain ⟨i',v,hi',hv,hzs,hlen⟩:=zeroE_of hz
 rw [hi] at hi'
 injection hi' with hi'
 subst hi'
 simp only [not_or,Nat.not_lt] at hc
 exact ⟨i,v,hi,hv,hzs,by omega,h1,by omega,by omega,hc.2.2⟩
theorem buildSlice_run {t el:TypeId} {inf:TypeInfo} {v:Value} {z n:Nat} {parts:Array (Nat×Value)} {l0 l':List Value} (ht:P.underlying t=some (.slice el)) (h1:P.info? el=some inf) (h2:inf.zero=some v) (h5:inf.size=z)
  (hn:n * z≤2 ^ 24) (hm:n * z≠0→(Array.range (n * z)).map (v.cells[· % v.cells.size]!)=l0.toArray) (hl:n * z=0→l0=[]) (hf:Instr.fill (fun i=>some (i * z,z)) l0.toArray parts.toList=some l'.toArray) :
  (Instr.buildSlice t n parts).run P w = .ok (.slice (some ⟨w.heap.size,0,none⟩) n n) (w.alloc (.cells l'.toArray el (0,0))):=by
 have tail:∀ cs:Array Value,(Array.range (n * z)).map (cs[· % cs.size]!)=l0.toArray→∀ w:World,(match Instr.fill (fun i=>some (i * z,z)) ((Array.range (n * z)).map (cs[· % cs.size]!)) parts.toList with
   | some cells=>(do pure (Value.slice (some (← newRow el cells)) n n):Sem Value)
   | _ => stuck "buildSlice: a part of the wrong size").run P w = .ok (.slice (some ⟨w.heap.size, 0, none⟩) n n) (w.alloc (.cells l'.toArray el (0, 0))) := by
  intro cs hcs w
  rw [hcs,hf]
  rfl
 unfold Instr.buildSlice
 rw [Sem.run_bind,under_run ht]
 simp only [Result.andThen_ok]
 rw [Sem.run_bind,sizeT_run (show sizeT P el=some z by simp [sizeT,h1,h5])]
 simp only [Result.andThen_ok]
 rw [if_neg (by omega)]
 by_cases h0:n * z=0
 ·rw [if_pos h0]
  have:=tail #[] (by rw [h0,hl h0]; simp) w
  exact this
 ·rw [if_neg h0]
  have:=tail v.cells (hm h0) w
  have hz:(zeroValue el).run P w = .ok v w:=by simp [zeroValue,typeInfo,h1,h2]
  rw [Sem.run_bind,hz]
  exact this
theorem mkA_ok (k:RegOk μ nt R a.tmps) {o:Oper} {i:Id} {e:EV} {row:Row} (hi:μ i=none) (h:mkA (prepO P o.op o.type) i R = .at e row) (w:World) (g:List MapEntry) :
  ∃ v ob tot,(execOp a.eval o).run P w = .ok (.value v) (w.alloc ob)∧iv (upd μ i (some ⟨w.heap.size,0,tot⟩)) e=some v∧rowOk P g (upd μ i (some ⟨w.heap.size,0,tot⟩)) ⟨w.heap.size,0,tot⟩ ob row∧alive row=true:=by
 obtain ⟨dst,op,type,pos,after,guard⟩:=o
 simp only at h
 have ptr:∀ tot,iv (upd μ i (some ⟨w.heap.size,0,tot⟩)) (.ptr i 0)=some (.pointer (some ⟨w.heap.size,0,none⟩)):=by
  intro tot
  show (upd μ i _ i).map _=_
  rw [upd_same]
  rfl
 have cells:∀ {c:Cs} {l:List Value} (t:TypeId),CsL μ c l→rowOk P g (upd μ i (some ⟨w.heap.size,0,l.length⟩)) ⟨w.heap.size,0,l.length⟩ (.cells l.toArray t (0,0)) (.cells c l.length t) :=
  fun t hc=>(hc.row w.heap.size t g).mono (le_upd hi _)
 cases op with
 | alloc t =>
   simp only [prepO] at h
   split at h
   rotate_left
   ·cases h
   rename_i zs hz
   split at h
   rotate_left
   ·cases h
   rename_i hle
   obtain ⟨inf,v,h1,h2,h3,h4⟩:=zeroE_of hz
   injection h with e1 e2
   subst e1 e2
   have hl:=ivs_len (h3 μ)
   rw [← hl]
   refine ⟨_,.cells v.cells t (0,0),v.cells.toList.length,value_run (s:=Instr.alloc t true (.tuple #[])) (v := .pointer (some ⟨w.heap.size,0,none⟩)) ?_,ptr _,?_,rfl⟩
   ·simp [Instr.alloc,zeroValue,typeInfo,h1,h2,newVar,newRow]
   ·have:=cells t (CsL.whole (h3 μ) (by omega) noCs)
    simpa using this
 | box t x =>
   replace h:mBoxL t i (cellsE (getX (px x) R)) = .at e row:=h
   unfold mBoxL at h
   cases h1:(cellsE (getX (px x) R)).all oneE with
   | false=>rw [h1] at h; cases h
   | true =>
     rw [h1] at h
     cases h2:Nat.ble (cellsE (getX (px x) R)).length 4096 with
     | false=>rw [h2] at h; cases h
     | true =>
       rw [h2] at h
       injection h with e1 e2
       subst e1 e2
       have hu:getX (px x) R ≠ .unk:=by
        intro e
        rw [e] at h1
        cases h1
       have ht:∀ y,getX (px x) R ≠ .tup y:=by
        intro y e
        rw [e] at h1
        cases h1
       have hcl:=cells_ok ((px_ok k x).resolve_left hu) ht
       have hl:=ivs_len hcl
       rw [← hl]
       refine ⟨_,.cells (a.eval x).cells t (0,0),(a.eval x).cells.toList.length,value_run (s:=Instr.box t (a.eval x)) (v := .pointer (some ⟨w.heap.size,0,none⟩)) ?_,ptr _,?_,rfl⟩
       ·simp [Instr.box,newVar,newRow]
       ·have:=cells t (CsL.whole hcl (ble_le h2) noCs)
        simpa using this
 | buildSlice t n ps =>
   simp only [prepO] at h
   split at h
   rotate_left
   ·cases h
   rename_i el ht
   split at h
   rotate_left
   ·cases h
   rename_i z zs he
   split at h
   rotate_left
   ·cases h
   rename_i hn
   cases hq:placesE (fun i=>some (i * z,z)) ps.toList with
   | none=>rw [hq] at h; cases h
   | some qs =>
     rw [hq] at h
     replace h:mMkS el z (fillC (repE zs n) noCs 0) n qs i R = .at e row:=h
     unfold mMkS at h
     split at h
     rotate_left
     ·cases h
     rename_i c hc
     injection h with e1 e2
     subst e1 e2
     obtain ⟨inf,v,h1,h2,h3,h4,h5,h6, -, -⟩:=elemE_of he
     obtain ⟨l0,k1,k2,k3⟩:=repE_ok (h3 μ) n
     rw [h4] at k2 k3
     have hl0:=ivs_len k1
     rw [← k2] at hc
     obtain ⟨l',m1,m2,m3⟩:=fillP_ok k hq (CsL.whole k1 (by omega) noCs) hc
     have hvs:v.cells.size=z:=by rw [← Array.length_toList,ivs_len (h3 μ),h4]
     have hrun:(Instr.buildSlice t n (ps.map fun (i,x)=>(i,a.eval x))).run P w = .ok (.slice (some ⟨w.heap.size,0,none⟩) n n) (w.alloc (.cells l'.toArray el (0,0))):=by
      refine buildSlice_run ht h1 h2 h5 (Nat.le_trans hn (Nat.le_of_ble_eq_true rfl)) (l0:=l0) (fun _=>made_eq hvs k2 k3) (fun h0=>List.length_eq_zero_iff.1 (by omega)) ?_
      rw [← m2]
      congr 1
      simp
     have hrun2:=value_run hrun
     refine ⟨_,.cells l'.toArray el (0,0),l'.length,hrun2,?_,?_,rfl⟩
     ·rw [sl_mk (upd_same _ _ _) ⟨by show 0+0+n * z≤l'.length; omega,Nat.le_refl _,Nat.le_refl _,h6⟩]
      rfl
     ·have:=cells el m1
      have e:l'.length=n * z:=by omega
      rw [← e]
      exact this
 | makeSlice t l c =>
   simp only [prepO] at h
   split at h
   rotate_left
   ·cases h
   rename_i el ht
   split at h
   rotate_left
   ·cases h
   rename_i z zs he
   replace h:mMkSl el z zs (px l) (px c) i R = .at e row:=h
   unfold mMkSl at h
   split at h
   rotate_left
   ·cases h
   rename_i n m hn hm
   split at h
   rotate_left
   ·cases h
   rename_i hc
   injection h with e1 e2
   subst e1 e2
   have nat:∀ {x:Operand} {n:Nat},natE (getX (px x) R)=some n→∃ kd,a.eval x = .int kd (n:Nat):=by
    intro x n hn
    unfold natE at hn
    cases hv:natV (getX (px x) R) with
    | no=>rw [hv] at hn; cases hn
    | «at» m =>
      rw [hv] at hn
      injection hn with hn
      subst hn
      have hik:getX (px x) R ≠ .unk:=by intro e; rw [e] at hv; cases hv
      exact natV_eq hv ((px_ok k x).resolve_left hik)
   obtain ⟨kl,hl⟩:=nat hn
   obtain ⟨kc,hcv⟩:=nat hm
   obtain ⟨inf,v,h1,h2,h3,h4,h5,h6,h7,h8⟩:=elemE_of he
   obtain ⟨l0,k1,k2,k3⟩:=repE_ok (h3 μ) m
   rw [h4] at k2 k3
   have hvs:v.cells.size=z:=by rw [← Array.length_toList,ivs_len (h3 μ),h4]
   have hm4:m≤4096:=Nat.le_trans (Nat.le_mul_of_pos_right m h6) hc.2
   have hb:inf.bytes * m≤2 ^ 20 * 4096:=Nat.mul_le_mul h8 hm4
   refine ⟨_,.cells l0.toArray el (0,0),l0.length,value_run (s:=Instr.makeSlice t (a.eval l) (a.eval c)) (v := .slice (some ⟨w.heap.size,0,none⟩) n m) ?_,?_,?_,rfl⟩
   ·rw [hl,hcv,run_make w t el inf v ht h1 h2 kl kc n m (by omega) (by omega) (by
      have:((inf.bytes * m:Nat):Int)≤281474976710656:=by omega
      rwa [Int.natCast_mul] at this) (by omega)]
    simp only [Int.toNat_natCast]
    congr 2
    rw [h5]
    congr 1
    exact made_eq hvs k2 k3
   ·rw [sl_mk (upd_same _ _ _) ⟨by show 0+0+m * z≤l0.length; omega,hc.1,Nat.le_refl _,h6⟩]
    rfl
   ·have:=cells el (CsL.whole k1 (by have:=ivs_len k1; omega) noCs)
    rw [k2] at this ⊢
    exact this
 | makeMap t r =>
   cases r with
   | some r=>cases h
   | none =>
     injection h with e1 e2
     subst e1 e2
     refine ⟨.map (some w.heap.size),.map #[] 0,0,rfl,?_,⟨[],rfl,trivial⟩,rfl⟩
     show (upd μ i _ i).map _=_
     rw [upd_same]
     rfl
 | build t ps =>
   simp only [prepO] at h
   split at h
   ·split at h
    ·rename_i places hp; cases hq:placesE (fun i=>places[i]?) ps.toList with
     | none=>rw [hq] at h; cases h
     | some q=>rw [hq] at h; cases h
    ·cases h
   ·split at h
    ·rename_i z hz; cases hq:placesE (fun i=>some (i * z,z)) ps.toList with
     | none=>rw [hq] at h; cases h
     | some q=>rw [hq] at h; cases h
    ·cases h
   ·cases h
 | makeFunc fn f c=>cases fn <;> cases h
 | call c =>
   obtain ⟨callee,args,argTypes⟩:=c
   cases callee with
   | value f=>cases h
   | invoke r m=>cases h
   | builtin b =>
     simp only [prepO] at h
     split at h
     all_goals (repeat' (split at h)) <;> cases h
 | _=>first
   | (cases h; done)
   | (simp only [prepO] at h; (repeat' split at h) <;> (cases h; done))
end Go.Proofs.YtaihbcmifjmapaaGreat.Ev
namespace Go.Proofs.YtaihbcmifjmapaaGreat.Ev
open Go Go.RowKit
set_option linter.unusedVariables false
variable {P:Program} {γ:Id→List MapEntry} {μ μ':Mu} {G G':Id→Row} {nx nx':Id} {B:Nat} {w w':World} {nt:Nat} {R:Regs} {a:Act}
structure Wr (w:World) (b:Nat) (ob:Obj) (w':World):Prop where
 os:w'.os=w.os
 tape:w'.tape=w.tape
 output:w'.output=w.output
 size:w'.heap.size=w.heap.size
 there:w'.heap[b]? = some ob
 others:∀ k,k≠b→w'.heap[k]? = w.heap[k]?
theorem Wr.same {b:Nat} {ob:Obj} (h:w.heap[b]? = some ob):Wr w b ob w:=⟨rfl,rfl,rfl,rfl,h,fun _ _=>rfl⟩
theorem Wr.trans {b:Nat} {ob ob2:Obj} {w2:World} (h:Wr w b ob w') (k:Wr w' b ob2 w2):Wr w b ob2 w2 :=
 ⟨k.os.trans h.os,k.tape.trans h.tape,k.output.trans h.output,k.size.trans h.size,k.there,fun i hi=>(k.others i hi).trans (h.others i hi)⟩
theorem Wr.set {b:Nat} (hb:b < w.heap.size) (ob:Obj):Wr w b ob { w with heap:=w.heap.setIfInBounds b ob } :=
 ⟨rfl,rfl,rfl,by simp,by simp [hb],fun k hk=>by simp [Array.getElem?_setIfInBounds_ne (fun e=>hk e.symm)]⟩
theorem setObj_run {b:Nat} {ob:Obj} (h:w.heap[b]? = some ob) (hc:∀ c t f,ob ≠ .cells c t f) (ob':Obj):∃ w',(setObj b ob').run P w = .ok () w'∧Wr w b ob' w':=by
 refine ⟨{ w with heap:=w.heap.setIfInBounds b ob' },?_,Wr.set (Array.getElem?_eq_some_iff.1 h).1 _⟩
 cases ob <;> first | exact absurd rfl (hc _ _ _) | simp [setObj,Sem.run,h]
def wr (real:Array Value):Nat→List Value→Array Value
 | _,[]=>real
 | k,v::vs=>wr (real.setIfInBounds k v) (k+1) vs
theorem wr_size:∀ (vs:List Value) (real:Array Value) (k:Nat),(wr real k vs).size=real.size
 | [],_,_=>rfl
 | v::vs,real,k=>by rw [wr,wr_size vs]; simp
theorem wr_get {i:Nat}:∀ (vs:List Value) (real:Array Value) (k:Nat),k+vs.length≤real.size→(wr real k vs)[i]? = if k≤i∧i < k+vs.length then vs[i-k]? else real[i]?
 | [],real,k,h=>by simp [wr]; omega
 | v::vs,real,k,h=>by
   simp only [List.length_cons] at h
   rw [wr,wr_get vs _ _ (by simp; omega)]
   simp only [List.length_cons]
   by_cases h1:i=k
   ·subst h1
    rw [if_neg (by omega),if_pos (by omega),Array.getElem?_setIfInBounds_self_of_lt (by omega)]
    simp
   ·by_cases h2:k+1≤i∧i < k+1+vs.length
    ·rw [if_pos h2,if_pos (by omega),show i-k=(i-(k+1))+1 by omega]
     simp
    ·rw [if_neg h2,if_neg (by omega),Array.getElem?_setIfInBounds_ne (by omega)]
theorem storeCells_run {b:Nat} {t:TypeId}:∀ (vs:List Value) (o i:Nat) (real:Array Value) (w:World),w.heap[b]? = some (.cells real t (0,0))→o+i+vs.length≤real.size→(∀ v∈vs,v.oneCell'=true) →
  ∃ w',(storeCells ⟨b,o,none⟩ vs i).run P w = .ok () w'∧Wr w b (.cells (wr real (o+i) vs) t (0,0)) w'
 | [],o,i,real,w,h,_,_=>⟨w,rfl,Wr.same h⟩
 | v::vs,o,i,real,w,h,hl,h1=>by
   simp only [List.length_cons] at hl
   have hb:=(Array.getElem?_eq_some_iff.1 h).1
   have hcell:w.cell? ⟨b,o+i,none⟩=some real[o+i]:=by simp [World.cell?,h]
   have hfz:w.frozen? ⟨b,o+i,none⟩=false:=by simp [World.frozen?,h]
   have hst:(store ((⟨b,o,none⟩:Addr).add i) v).run P w = .ok () (w.setCell ⟨b,o+i,none⟩ v):=by
    rw [add_none,run_store P w _ v _ (h1 v (by simp))]
    simp [hcell,hfz]
   have hw1:Wr w b (.cells (real.setIfInBounds (o+i) v) t (0,0)) (w.setCell ⟨b,o+i,none⟩ v):=by
    refine ⟨rfl,rfl,rfl,by simp [World.setCell],?_,fun k hk=>Below.heap_setCell _ _ _ _ hk⟩
    simp [World.setCell,Array.getElem?_modify,h]
   obtain ⟨w',e1,e2⟩:=storeCells_run vs o (i+1) (real.setIfInBounds (o+i) v) (w.setCell ⟨b,o+i,none⟩ v) hw1.there (by simp; omega) (fun u hu=>h1 u (by simp [hu]))
   refine ⟨w',?_,hw1.trans e2⟩
   rw [storeCells,Sem.run_bind,hst]
   exact e1
theorem ones_ok:∀ {es:List EV} {vs:List Value},ivs μ es=some vs→es.all oneE=true→∀ v∈vs,v.oneCell'=true
 | [],vs,h,_,v,hv=>by injection h with h; subst h; cases hv
 | e::es,vs,h,h1,v,hv=>by
   obtain ⟨u,r,rfl,k1,k2⟩:=ivs_cons h
   simp only [List.all_cons,Bool.and_eq_true] at h1
   rcases List.mem_cons.1 hv with rfl | hv
   ·exact (oneE_one h1.1 k1).1
   ·exact ones_ok k2 h1.2 v hv
theorem row_fill {g:List MapEntry} {p:Pl} {c:Cs} {len:Nat} {ty:TypeId} {real:Array Value} (h1:real.size=p.total) (h2:len≤4096∧p.base+len≤p.total) (h3:∀ i,i < len→∃ v,iv μ (gC i c)=some v∧real[p.base+i]? = some v)
  {es:List EV} {vs:List Value} (he:ivs μ es=some vs) {o:Nat} (ho:o+es.length≤len):rowOk P g μ p (.cells (wr real (p.base+o) vs) ty (0,0)) (.cells (fillC es c o) len ty):=by
 have hl:=ivs_len he
 refine ⟨_,rfl,by rw [wr_size,h1],h2,fun i hi=>?_⟩
 rw [gC_fill (by omega) es c o (by omega),wr_get vs real _ (by omega)]
 by_cases h:o≤i∧i < o+es.length
 ·rw [if_pos h,if_pos (by omega)]
  have hlt:i-o < es.length:=by omega
  obtain ⟨u,k1,k2⟩:=ivs_get he (List.getElem?_eq_getElem hlt)
  refine ⟨u,?_,by rw [show p.base+i-(p.base+o)=i-o by omega]; exact k1⟩
  rw [List.getD_eq_getElem?_getD,List.getElem?_eq_getElem hlt]
  exact k2
 ·rw [if_neg h,if_neg (by omega)]
  exact h3 i hi
theorem HR.write (hr:HR P γ μ G nx B w) {q:Id} {p:Pl} (hq:alive (G q)=true) (hp:μ q=some p) {ob:Obj} {row:Row} (hrow:rowOk P (γ q) μ p ob row) (hw:Wr w p.blk ob w') :
  HR P γ μ (upd G q row) nx B w'∧Goes μ G nx w μ (upd G q row) nx w':=by
 have al:∀ r,alive (upd G q row r)=true→alive (G r)=true:=by
  intro r hr'
  by_cases h:r=q
  ·subst h; exact hq
  ·rw [upd_other _ _ h] at hr'; exact hr'
 obtain ⟨p',ob0,k1,k2,k3, -⟩:=hr.live q hq
 rw [hp] at k1
 injection k1 with k1
 subst k1
 refine ⟨⟨hr.fresh,fun r ha=>?_,fun r r' p1 p2 h1 h2=>hr.apart r r' p1 p2 (al r h1) (al r' h2),by rw [hw.size]; exact hr.base⟩,?_⟩
 ·by_cases h:r=q
  ·subst h
   rw [upd_same]
   exact ⟨p,ob,hp,k2,hw.there,hrow⟩
  ·rw [upd_other _ _ h] at ha ⊢
   obtain ⟨p1,ob1,e1,e2,e3,e4⟩:=hr.live r ha
   refine ⟨p1,ob1,e1,e2,?_,e4⟩
   rw [hw.others _ (fun e=>h (hr.apart r q p1 p ha hq e1 hp e))]
   exact e3
 ·exact ⟨Mu.le_refl _,fun _ _=>rfl,Nat.le_refl _,hw.os,hw.tape,hw.output,by rw [hw.size]; exact Nat.le_refl _,fun k hk hn=>hw.others k (fun e=>hn q p hq hp e.symm),fun r p1 h1 h2 => .inl ⟨r,p1,al r h1,h2,rfl⟩,fun r h1 => .inl (al r h1)⟩
theorem HR.less {G':Id→Row} (hr:HR P γ μ G nx B w) (h:∀ r,alive (G' r)=true→G' r=G r):HR P γ μ G' nx B w :=
 ⟨hr.fresh,fun r ha=>by have e:=h r ha; rw [e] at ha ⊢; exact hr.live r ha,fun r r' p p' h1 h2=>by
  have e1:=h r h1
  have e2:=h r' h2
  rw [e1] at h1
  rw [e2] at h2
  exact hr.apart r r' p p' h1 h2,hr.base⟩
theorem HR.take (hr:HR P γ μ G nx B w) {q:Id} {p:Pl} (hq:alive (G q)=true) (hp:μ q=some p) {i:Id} (hi:μ i=none) {ob:Obj} {row:Row} {base:Nat} (hrow:rowOk P (γ i) (upd μ i (some ⟨p.blk,base,p.total⟩)) ⟨p.blk,base,p.total⟩ ob row)
  (hw:Wr w p.blk ob w') (h0:nx.num≤i.num) (h1:i.num < nx'.num) (h2:nx.num≤nx'.num) :
  HR P γ (upd μ i (some ⟨p.blk,base,p.total⟩)) (upd (upd G q .dead) i row) nx' B w'∧Goes μ G nx w (upd μ i (some ⟨p.blk,base,p.total⟩)) (upd (upd G q .dead) i row) nx' w':=by
 have hle:=le_upd hi ⟨p.blk,base,p.total⟩
 have hqi:q≠i:=by rintro rfl; rw [hi] at hp; cases hp
 obtain ⟨p',ob0,k1,k2,k3, -⟩:=hr.live q hq
 rw [hp] at k1
 injection k1 with k1
 subst k1
 have al:∀ r,r≠i→alive (upd (upd G q .dead) i row r)=true→r≠q∧alive (G r)=true∧upd (upd G q .dead) i row r=G r:=by
  intro r hri hr'
  rw [upd_other _ _ hri] at hr' ⊢
  by_cases h:r=q
  ·subst h; rw [upd_same] at hr'; cases hr'
  ·rw [upd_other _ _ h] at hr' ⊢
   exact ⟨h,hr',rfl⟩
 have fresh:∀ r,r≠i→alive (upd (upd G q .dead) i row r)=true→∀ p1,upd μ i (some ⟨p.blk,base,p.total⟩) r=some p1→p1.blk≠p.blk:=by
  intro r hri ha p1 hp1 hb
  obtain ⟨h3,h4, -⟩:=al r hri ha
  rw [upd_other _ _ hri] at hp1
  exact h3 (hr.apart r q p1 p h4 hq hp1 hp hb)
 refine ⟨⟨fun r hn=>?_,fun r ha=>?_,fun r r' p1 p2 ha ha' e1 e2 hb=>?_,by rw [hw.size]; exact hr.base⟩,?_⟩
 ·rw [upd_other _ _ (by rintro rfl; omega)]
  exact hr.fresh r (by omega)
 ·by_cases hri:r=i
  ·subst hri
   refine ⟨⟨p.blk,base,p.total⟩,ob,upd_same _ _ _,k2,hw.there,?_⟩
   rw [upd_same (upd G q Row.dead)]
   exact hrow
  ·obtain ⟨h3,h4,h5⟩:=al r hri ha
   obtain ⟨p1,ob1,e1,e2,e3,e4⟩:=hr.live r h4
   rw [h5]
   refine ⟨p1,ob1,hle _ _ e1,e2,?_,e4.mono hle⟩
   rw [hw.others _ (fresh r hri ha p1 (hle _ _ e1))]
   exact e3
 ·by_cases hri:r=i
  ·by_cases hri':r'=i
   ·rw [hri,hri']
   ·subst hri
    rw [upd_same] at e1
    injection e1 with e1
    subst e1
    exact absurd hb.symm (fresh r' hri' ha' p2 e2)
  ·by_cases hri':r'=i
   ·subst hri'
    rw [upd_same] at e2
    injection e2 with e2
    subst e2
    exact absurd hb (fresh r hri ha p1 e1)
   ·obtain ⟨-,h4, -⟩:=al r hri ha
    obtain ⟨-,h4', -⟩:=al r' hri' ha'
    rw [upd_other _ _ hri] at e1
    rw [upd_other _ _ hri'] at e2
    exact hr.apart r r' p1 p2 h4 h4' e1 e2 hb
 ·refine ⟨hle,fun r h=>upd_other _ _ (by rintro rfl; omega),h2,hw.os,hw.tape,hw.output,by rw [hw.size]; exact Nat.le_refl _,fun k hk hn=>hw.others k (fun e=>hn q p hq hp e.symm),fun r p1 ha e1=>?_,fun r ha=>?_⟩
  ·by_cases hri:r=i
   ·subst hri
    rw [upd_same] at e1
    injection e1 with e1
    subst e1
    exact .inl ⟨q,p,hq,hp,rfl⟩
   ·obtain ⟨-,h4, -⟩:=al r hri ha
    rw [upd_other _ _ hri] at e1
    exact .inl ⟨r,p1,h4,e1,rfl⟩
  ·by_cases hri:r=i
   ·subst hri; exact .inr h0
   ·exact .inl (al r hri ha).2.1
def XRes (P:Program) (γ:Id→List MapEntry) (μ:Mu) (G:Id→Row) (nx:Id) (B:Nat) (w:World) (o:Oper) (ρ:Operand→Value) (u:Out):Prop :=
 ∃ v w' μ',((execOp ρ o).run P w = .ok (.value v) w'∨((execOp ρ o).run P w = .ok .skip w'∧v=undef))∧iv μ' u.e=some v∧HR P γ μ' (fun q=>getRow q u.H) u.nx B w'∧Goes μ G nx w μ' (fun q=>getRow q u.H) u.nx w'∧u.st=none
theorem skip_run {s:Sem Unit} (h:s.run P w = .ok () w'):(do s; pure Next.skip:Sem Next).run P w = .ok .skip w':=by
 rw [Sem.run_bind,h]; rfl
theorem xStore_ok {H:Hp} {call:Caller} (hr:HR P γ μ (fun q=>getRow q H) nx B w) (k:RegOk μ nt R a.tmps) {t:TypeId} {x y:Operand} {z:Nat} (hz:sizeT P t=some z) {u:Out} (h:xStore P z (px x) (px y) call R H nx=some u)
  {o:Oper} (ho:o.op = .store t x y):XRes P γ μ (fun q=>getRow q H) nx B w o a.eval u:=by
 unfold xStore at h
 cases hp:asPtr (getX (px x) R) with
 | no=>rw [hp] at h; cases h
 | «at» q off =>
   rw [hp] at h
   obtain ⟨p,hp1,hv⟩:=ptr_of (px_ok k x) hp
   cases hq:asC (getRow q H) with
   | no=>simp only [hq] at h; cases h
   | «at» c len ty =>
     simp only [hq] at h
     have hq:=asC_eq hq
     obtain ⟨real,g1,g2,g3,g4,g5⟩:=hr.cells (q:=q) hq hp1
     replace h:xSt z off q (getX (px y) R) H nx c len ty=some u:=h
     have ky:=px_ok k y
     have fin:∀ {es:List EV} {vs:List Value},ivs μ es=some vs→vs=(a.eval y).cells.toList→es.length=z→es.all oneE=true→off+z≤len→u=⟨undefE,setRow q (.cells (fillC es c off) len ty) H,nx,none⟩→XRes P γ μ (fun q=>getRow q H) nx B w o a.eval u:=by
      intro es vs he hvs hl h1 hle hu
      have hvl:=ivs_len he
      obtain ⟨w',e1,e2⟩:=storeCells_run (P:=P) vs (p.base+off) 0 real w g1 (by rw [hvl,g2]; omega) (ones_ok he h1)
      have hrow:rowOk P (γ q) μ p (.cells (wr real (p.base+off+0) vs) ty (0,0)) (.cells (fillC es c off) len ty):=row_fill g2 g4 g5 he (by omega)
      obtain ⟨f1,f2⟩:=hr.write (q:=q) (by show alive (getRow q H)=true; rw [hq]; rfl) hp1 hrow e2
      rw [← setRow_fun] at f1 f2
      subst hu
      refine ⟨undef,w',μ,.inr ⟨?_,rfl⟩,rfl,f1,f2,rfl⟩
      have:execOp a.eval o=(do Instr.storeAt t (a.eval x) (a.eval y); pure Next.skip):=by
       unfold execOp
       rw [ho]
      rw [this]
      refine skip_run ?_
      rw [hv]
      simp only [Instr.storeAt,Instr.sureAddr,pure_bind]
      unfold storeVar
      have hsz:(a.eval y).cells.size=z:=by rw [← Array.length_toList,← hvs,hvl,hl]
      rw [Sem.run_bind,sizeT_run hz]
      simp only [Result.andThen_ok]
      rw [if_neg (by simp [hsz]),← hvs]
      exact e1
     unfold xSt at h
     cases hy:asAgg (getX (px y) R) with
     | no =>
       rw [hy] at h
       replace h:xSt1 z off q c len ty (getX (px y) R) H nx=some u:=h
       unfold xSt1 at h
       obtain ⟨h1,h⟩:=bc_some h
       obtain ⟨h2,h⟩:=bc_some h
       obtain ⟨h3,h⟩:=bc_some h
       injection h with h
       have hz1:z=1:=Nat.eq_of_beq_eq_true h2
       have hku:getX (px y) R ≠ .unk:=by intro e; rw [e] at h1; cases h1
       have hvy:=ky.resolve_left hku
       refine fin (es:=[getX (px y) R]) (vs:=[a.eval y]) (ivs_mk hvy rfl) ?_ (by simp [hz1]) (by simp [h1]) (by have:=ble_le h3; omega) ?_
       ·rw [(oneE_one h1 hvy).2]
       ·rw [← h]; rfl
     | «at» es =>
       rw [hy] at h
       replace h:xStL z off q c len ty es H nx=some u:=h
       unfold xStL at h
       obtain ⟨h1,h⟩:=bc_some h
       obtain ⟨h2,h⟩:=bc_some h
       obtain ⟨h3,h⟩:=bc_some h
       injection h with h
       obtain ⟨l,hl,hv2⟩:=agg_of ky hy
       refine fin hl (by rw [hv2]; rfl) (Nat.eq_of_beq_eq_true h1) h2 (ble_le h3) h.symm
end Go.Proofs.YtaihbcmifjmapaaGreat.Ev
namespace Go.Proofs.YtaihbcmifjmapaaGreat.Ev
open Go Go.RowKit
set_option linter.unusedVariables false
variable {P:Program} {γ:Id→List MapEntry} {μ μ':Mu} {G G':Id→Row} {nx nx':Id} {B:Nat} {w w':World} {nt:Nat} {R:Regs} {a:Act} {H:Hp} {call:Caller}
theorem entsOk.set:∀ {es:List Ent} {xs:List MapEntry},entsOk μ es xs→∀ {i:Nat} {y:Ent} {x:MapEntry} {f:Ent→Ent} {g:MapEntry→MapEntry},es[i]? = some y→xs[i]? = some x →
  (iv μ (f y).k=some (g x).key∧iv μ (f y).v=some (g x).val∧(g x).born=(f y).born)→entsOk μ (setNth es i f) (xs.modify i g)
 | [],[],_,i,y,x,f,g,h,_,_=>by simp at h
 | e::es,z::xs,k,i,y,x,f,g,h,h',hf=>by
   cases i with
   | zero =>
     simp only [List.getElem?_cons_zero,Option.some.injEq] at h h'
     subst h h'
     exact ⟨hf,k.2⟩
   | succ i =>
     have:=k.2.set (i:=i) (by simpa using h) (by simpa using h') hf
     simpa [setNth] using ⟨k.1,this⟩
theorem entsOk.push:∀ {es:List Ent} {xs:List MapEntry},entsOk μ es xs→∀ {y:Ent} {x:MapEntry},(iv μ y.k=some x.key∧iv μ y.v=some x.val∧x.born=y.born)→entsOk μ (es++[y]) (xs++[x])
 | [],[],_,y,x,h=>⟨h,trivial⟩
 | e::es,z::xs,k,y,x,h=>⟨k.1,k.2.push h⟩
theorem entsOk.erase:∀ {es:List Ent} {xs:List MapEntry},entsOk μ es xs→∀ (i:Nat),entsOk μ (es.eraseIdx i) (xs.eraseIdx i)
 | [],[],_,i=>trivial
 | e::es,z::xs,k,i=>by
   cases i with
   | zero=>exact k.2
   | succ i=>exact ⟨k.1,k.2.erase i⟩
theorem map_of {x:PX} {q:Id} {v:Value} (hr:HR P γ μ (fun q=>getRow q H) nx B w) (kv:KV μ (getX x R) v) (he:getX x R = .map q) {es:List Ent} {clk:Nat} (hq:getRow q H = .map es clk) :
  ∃ p xs,μ q=some p∧v = .map (some p.blk)∧w.heap[p.blk]? = some (.map xs.toArray clk)∧entsOk μ es xs:=by
 rw [he] at kv
 have kv:=kv.resolve_left (by intro h; cases h)
 simp only [iv,Option.map_eq_some_iff] at kv
 obtain ⟨p,hp,hv⟩:=kv
 obtain ⟨p',ob,h1, -,h3,h4⟩:=hr.live q (by show alive (getRow q H)=true; rw [hq]; rfl)
 rw [hp] at h1
 injection h1 with h1
 subst h1
 simp only [hq] at h4
 obtain ⟨xs,h5,h6⟩:=h4
 subst h5
 exact ⟨p,xs,hp,hv.symm,h3,h6⟩
theorem map_write (hr:HR P γ μ (fun q=>getRow q H) nx B w) {q:Id} {p:Pl} (hp:μ q=some p) {es:List Ent} {clk:Nat} (hq:getRow q H = .map es clk) {xs:List MapEntry} (h3:w.heap[p.blk]? = some (.map xs.toArray clk)) {es':List Ent} {xs':List MapEntry} {clk':Nat} (h:entsOk μ es' xs') :
  ∃ w',(setObj p.blk (.map xs'.toArray clk')).run P w = .ok () w'∧HR P γ μ (fun r=>getRow r (setRow q (.map es' clk') H)) nx B w'∧Goes μ (fun q=>getRow q H) nx w μ (fun r=>getRow r (setRow q (.map es' clk') H)) nx w':=by
 obtain ⟨w',e1,e2⟩:=setObj_run (P:=P) h3 (by intro _ _ _ h; cases h) (.map xs'.toArray clk')
 obtain ⟨f1,f2⟩:=hr.write (q:=q) (by show alive (getRow q H)=true; rw [hq]; rfl) hp (row := .map es' clk') ⟨xs',rfl,h⟩ e2
 rw [← setRow_fun] at f1 f2
 exact ⟨w',e1,f1,f2⟩
theorem stays_run {k:EV} {v:Value} {es:List Ent} {xs:List MapEntry} (hx:entsOk μ es xs) {i:Nat} {x:MapEntry} (hi:xs[i]? = some x) (kv:iv μ k=some v) (h:sameKey es i k=true) (w:World) :
  (Instr.keyThatStays (((xs.toArray[i]?).map (·.key)).getD v) v).run P w = .ok v w:=by
 unfold sameKey at h
 split at h
 ·rename_i u v' h1 h2
  have e2:=iv_uniq kv (plainW_ok μ h2)
  subst e2
  simp only [Option.bind_eq_some_iff] at h1
  obtain ⟨y,h3,h4⟩:=h1
  obtain ⟨x',h5,h6, -⟩:=hx.get h3
  rw [hi] at h5
  injection h5 with h5
  subst h5
  have e1:=iv_uniq h6 (plainW_ok μ h4)
  unfold Instr.keyThatStays
  have:((xs.toArray[i]?).map (·.key)).getD v=x.key:=by simp [hi]
  rw [this,e1,if_pos h]
  rfl
 ·cases h
theorem mod_arr (xs:List MapEntry) (i:Nat) (g:MapEntry→MapEntry):xs.toArray.modify i g=(xs.modify i g).toArray:=by
 apply Array.ext'
 simp
theorem xMup_ok (hr:HR P γ μ (fun q=>getRow q H) nx B w) (k:RegOk μ nt R a.tmps) {t kt el:TypeId} (ht:P.underlying t=some (.map kt el)) {m x y:Operand} {u:Out} (h:xMup P kt (px m) (px x) (px y) call R H nx=some u)
  {o:Oper} (ho:execOp a.eval o=(do Instr.mapUpdate t (a.eval m) (a.eval x) (a.eval y); pure Next.skip)):XRes P γ μ (fun q=>getRow q H) nx B w o a.eval u:=by
 unfold xMup at h
 split at h
 rotate_left
 ·cases h
 rename_i q he
 split at h
 rotate_left
 ·cases h
 rename_i es clk hq
 obtain ⟨p,xs,hp,hv,h3,h6⟩:=map_of hr (px_ok k m) he hq
 split at h
 rotate_left
 ·cases h
 rename_i hkn
 have hy:=(px_ok k y).resolve_left (known_iff.1 hkn)
 have run:∀ {r:Option (Nat×Value)} {w':World},(∀ w,(Instr.checkKey false 10000 kt (a.eval x)).run P w = .ok () w)→(∀ w,(Instr.findKey kt (a.eval x) xs).run P w = .ok r w) →
   ((match r with
     | some (i,_)=>(do
       let key ← Instr.keyThatStays (((xs.toArray[i]?).map (·.key)).getD (a.eval x)) (a.eval x)
       setObj p.blk (.map (xs.toArray.modify i fun e=>{ e with key,val:=a.eval y }) clk))
     | none=>setObj p.blk (.map (xs.toArray.push { key:=a.eval x,val:=a.eval y,born:=clk }) (clk+1)):Sem Unit)).run P w = .ok () w'→(execOp a.eval o).run P w = .ok .skip w':=by
  intro r w' c1 c2 c3
  rw [ho]
  refine skip_run ?_
  rw [hv]
  unfold Instr.mapUpdate
  rw [Sem.run_bind,under_run ht]
  simp only [Result.andThen_ok]
  rw [Sem.run_bind,getObj_run h3 (by intro _ _ _ h; cases h)]
  simp only [Result.andThen_ok]
  rw [Sem.run_bind,c1 w]
  simp only [Result.andThen_ok]
  rw [Sem.run_bind,c2 w]
  simp only [Result.andThen_ok]
  exact c3
 split at h
 ·rename_i i hf
  split at h
  rotate_left
  ·cases h
  rename_i hsame
  injection h with h
  subst h
  obtain ⟨hkx,c1,r,c2,x1,c3,c4⟩:=findE_ok (px_ok k x) h6 hf
  subst c4
  have hlt:=(List.getElem?_eq_some_iff.1 c3).1
  have hes:∃ y1,es[i]? = some y1:=⟨es[i]'(by rw [← h6.len]; exact hlt),List.getElem?_eq_getElem _⟩
  obtain ⟨y1,hy1⟩:=hes
  obtain ⟨x2,d1,d2,d3,d4⟩:=h6.get hy1
  rw [c3] at d1
  injection d1 with d1
  subst d1
  have hset:=h6.set (f:=fun y0=>⟨getX (px x) R,getX (px y) R,y0.born⟩) (g:=fun e=>{ e with key:=a.eval x,val:=a.eval y }) hy1 c3 ⟨hkx,hy,d4⟩
  obtain ⟨w',e1,f1,f2⟩:=map_write hr hp hq h3 (clk':=clk) hset
  refine ⟨undef,w',μ,.inr ⟨run c1 c2 ?_,rfl⟩,rfl,f1,f2,rfl⟩
  simp only []
  rw [Sem.run_bind,stays_run h6 c3 hkx hsame w]
  simp only [Result.andThen_ok]
  rw [mod_arr]
  exact e1
 ·rename_i hf
  injection h with h
  subst h
  obtain ⟨hkx,c1,r,c2,c4⟩:=findE_ok (px_ok k x) h6 hf
  subst c4
  obtain ⟨w',e1,f1,f2⟩:=map_write hr hp hq h3 (clk':=clk+1) (h6.push (y:=⟨getX (px x) R,getX (px y) R,clk⟩) (x:={ key:=a.eval x,val:=a.eval y,born:=clk }) ⟨hkx,hy,rfl⟩)
  refine ⟨undef,w',μ,.inr ⟨run c1 c2 ?_,rfl⟩,rfl,f1,f2,rfl⟩
  simpa using e1
 ·cases h
theorem xMent_ok (hr:HR P γ μ (fun q=>getRow q H) nx B w) (k:RegOk μ nt R a.tmps) {t kt el:TypeId} (ht:P.underlying t=some (.map kt el)) {zero:EV} (hz:zeroV P el=some zero) {m x:Operand} {u:Out} (h:xMent P kt zero (px m) (px x) call R H nx=some u)
  {o:Oper} (ho:o.op = .mapEntry t m x):XRes P γ μ (fun q=>getRow q H) nx B w o a.eval u:=by
 unfold xMent at h
 split at h
 rotate_left
 ·cases h
 rename_i q he
 split at h
 rotate_left
 ·cases h
 rename_i es clk hq
 obtain ⟨p,xs,hp,hv,h3,h6⟩:=map_of hr (px_ok k m) he hq
 have hexec:execOp a.eval o=(do pure (Next.value (← Instr.mapEntry t (a.eval m) (a.eval x)))):=by
  unfold execOp
  rw [ho]
 have run:∀ {r:Option (Nat×Value)} {w':World} {v:Value},(∀ w,(Instr.checkKey false 10000 kt (a.eval x)).run P w = .ok () w)→(∀ w,(Instr.findKey kt (a.eval x) xs).run P w = .ok r w) →
   ((match r with
     | some (i,v)=>(do
       let key ← Instr.keyThatStays (((xs.toArray[i]?).map (·.key)).getD (a.eval x)) (a.eval x)
       setObj p.blk (.map (xs.toArray.modify i fun e=>{ e with key }) clk)
       pure (.tuple #[v,goInt (((xs.toArray[i]?).map (·.born)).getD 0)]))
     | none=>(do
       let zero ← zeroValue el
       setObj p.blk (.map (xs.toArray.push { key:=a.eval x,val:=zero,born:=clk }) (clk+1))
       pure (.tuple #[zero,goInt clk])):Sem Value)).run P w = .ok v w'→(execOp a.eval o).run P w = .ok (.value v) w':=by
  intro r w' v c1 c2 c3
  rw [hexec]
  refine value_run ?_
  rw [hv]
  unfold Instr.mapEntry
  rw [Sem.run_bind,under_run ht]
  simp only [Result.andThen_ok]
  rw [Sem.run_bind,getObj_run h3 (by intro _ _ _ h; cases h)]
  simp only [Result.andThen_ok]
  rw [Sem.run_bind,c1 w]
  simp only [Result.andThen_ok]
  rw [Sem.run_bind,c2 w]
  simp only [Result.andThen_ok]
  exact c3
 split at h
 ·rename_i i hf
  split at h
  rotate_left
  ·cases h
  rename_i y1 hy1
  split at h
  rotate_left
  ·cases h
  rename_i hsame
  injection h with h
  subst h
  obtain ⟨hkx,c1,r,c2,x1,c3,c4⟩:=findE_ok (px_ok k x) h6 hf
  subst c4
  obtain ⟨x2,d1,d2,d3,d4⟩:=h6.get hy1
  rw [c3] at d1
  injection d1 with d1
  subst d1
  have hset:=h6.set (f:=fun y0=>⟨getX (px x) R,y0.v,y0.born⟩) (g:=fun e=>{ e with key:=a.eval x }) hy1 c3 ⟨hkx,d3,d4⟩
  obtain ⟨w',e1,f1,f2⟩:=map_write hr hp hq h3 (clk':=clk) hset
  refine ⟨.tuple #[x1.val,.int .i64 x1.born],w',μ,.inl (run c1 c2 ?_),?_,f1,f2,rfl⟩
  ·simp only []
   rw [Sem.run_bind,stays_run h6 c3 hkx hsame w]
   simp only [Result.andThen_ok]
   rw [mod_arr,Sem.run_bind,e1]
   simp [c3,goInt]
  ·show (ivs μ [y1.v,.nn y1.born]).map (fun l=>Value.tuple l.toArray)=_
   rw [ivs_mk d3 (ivs_mk (show iv μ (.nn y1.born)=some (.int .i64 y1.born) from rfl) (show ivs μ []=some [] from rfl)),d4]
   rfl
 ·rename_i hf
  injection h with h
  subst h
  obtain ⟨hkx,c1,r,c2,c4⟩:=findE_ok (px_ok k x) h6 hf
  subst c4
  have hzz:∃ zv,iv μ zero=some zv∧∀ w,(zeroValue el).run P w = .ok zv w:=by
   unfold zeroV at hz
   split at hz
   ·rename_i i hi
    split at hz
    ·rename_i zv hzv
     exact ⟨zv,valE_ok μ hz,fun w=>by simp [zeroValue,typeInfo,hi,hzv]⟩
    ·cases hz
   ·cases hz
  obtain ⟨zv,z1,z2⟩:=hzz
  obtain ⟨w',e1,f1,f2⟩:=map_write hr hp hq h3 (clk':=clk+1) (h6.push (y:=⟨getX (px x) R,zero,clk⟩) (x:={ key:=a.eval x,val:=zv,born:=clk }) ⟨hkx,z1,rfl⟩)
  refine ⟨.tuple #[zv,.int .i64 clk],w',μ,.inl (run c1 c2 ?_),?_,f1,f2,rfl⟩
  ·simp only []
   rw [Sem.run_bind,z2 w]
   simp only [Result.andThen_ok]
   rw [Sem.run_bind]
   have:(setObj p.blk (.map (xs.toArray.push { key:=a.eval x,val:=zv,born:=clk }) (clk+1))).run P w = .ok () w':=by simpa using e1
   rw [this]
   rfl
  ·show (ivs μ [zero,.nn clk]).map (fun l=>Value.tuple l.toArray)=_
   rw [ivs_mk z1 (ivs_mk (show iv μ (.nn clk)=some (.int .i64 clk) from rfl) (show ivs μ []=some [] from rfl))]
   rfl
 ·cases h
end Go.Proofs.YtaihbcmifjmapaaGreat.Ev
namespace Go.Proofs.YtaihbcmifjmapaaGreat.Ev
open Go Go.RowKit
set_option linter.unusedVariables false
variable {P:Program} {γ:Id→List MapEntry} {μ μ':Mu} {G G':Id→Row} {nx nx':Id} {B:Nat} {w w':World} {nt:Nat} {R:Regs} {a:Act} {H:Hp} {call:Caller}
theorem findIdx_ents (b:Nat):∀ {es:List Ent} {xs:List MapEntry},entsOk μ es xs→xs.findIdx? (fun e=>(e.born:Int)==(b:Int))=es.findIdx? (fun y=>y.born==b)
 | [],[],_=>rfl
 | e::es,x::xs,k=>by
   rw [List.findIdx?_cons,List.findIdx?_cons,findIdx_ents b k.2,k.1.2.2]
   have:((e.born:Int)==(b:Int))=(e.born==b):=by
    rw [Bool.eq_iff_iff]
    simp
    omega
   rw [this]
theorem xEst_ok (hr:HR P γ μ (fun q=>getRow q H) nx B w) (k:RegOk μ nt R a.tmps) {t:TypeId} {m st y:Operand} {u:Out} (h:xEst P (px m) (px st) (px y) call R H nx=some u)
  {o:Oper} (ho:o.op = .entryStore t m st y):XRes P γ μ (fun q=>getRow q H) nx B w o a.eval u:=by
 unfold xEst at h
 split at h
 rotate_left
 ·cases h
 rename_i q b he hb
 split at h
 rotate_left
 ·cases h
 rename_i es clk hq
 obtain ⟨p,xs,hp,hv,h3,h6⟩:=map_of hr (px_ok k m) he hq
 split at h
 rotate_left
 ·cases h
 rename_i hkn
 split at h
 rotate_left
 ·cases h
 rename_i i hi
 injection h with h
 subst h
 have hy:=(px_ok k y).resolve_left (known_iff.1 hkn)
 have hst:a.eval st = .int .i64 b:=by
  have:=px_ok k st
  rw [hb] at this
  have:=this.resolve_left (by intro h; cases h)
  injection this with this
  exact this.symm
 have hix:=findIdx_ents b h6
 rw [hi] at hix
 have hlt:i < xs.length:=by
  have:=List.findIdx?_eq_some_iff_findIdx_eq.1 hix
  omega
 have hlt2:i < es.length:=by rw [← h6.len]; exact hlt
 have hy1:=List.getElem?_eq_getElem hlt2
 obtain ⟨x1,d1,d2,d3,d4⟩:=h6.get hy1
 have hset:=h6.set (f:=fun y0=>⟨y0.k,getX (px y) R,y0.born⟩) (g:=fun e=>{ e with val:=a.eval y }) hy1 d1 ⟨d2,hy,d4⟩
 obtain ⟨w',e1,f1,f2⟩:=map_write hr hp hq h3 (clk':=clk) hset
 refine ⟨undef,w',μ,.inr ⟨?_,rfl⟩,rfl,f1,f2,rfl⟩
 have hexec:execOp a.eval o=(do Instr.entryStore t (a.eval m) (a.eval st) (a.eval y); pure Next.skip):=by
  unfold execOp
  rw [ho]
 rw [hexec]
 refine skip_run ?_
 rw [hv,hst]
 unfold Instr.entryStore
 simp only []
 rw [Sem.run_bind,getObj_run h3 (by intro _ _ _ h; cases h)]
 simp only [Result.andThen_ok,asInt,asIntOf,pure_bind,List.findIdx?_toArray,hix]
 rw [mod_arr]
 exact e1
theorem eqE_both:(∀ x y:EV,eqE x y=true→x=y)∧(∀ xs ys:List EV,eqEs xs ys=true→xs=ys):=by
 have both:∀ x:EV,∀ y,eqE x y=true→x=y:=by
  intro x
  refine EV.rec (motive_1:=fun x=>∀ y,eqE x y=true→x=y) (motive_2:=fun xs=>∀ ys,eqEs xs ys=true→xs=ys) ?_ ?_ ?_ ?_ ?_ ?_ ?_ ?_ ?_ ?_ ?_ ?_ ?_ ?_ ?_ ?_ ?_ ?_ x
  ·intro y h; cases y <;> simp [eqE] at h
  ·intro b y h; cases y <;> simp [eqE] at h; rw [h]
  ·intro b y h; cases y <;> simp [eqE] at h; rw [h]
  ·intro b c y h; cases y <;> simp [eqE] at h; rw [h.1,h.2]
  ·intro b c y h; cases y <;> simp [eqE] at h; rw [h.1,h.2]
  ·intro y h; cases y <;> simp [eqE] at h; rfl
  ·intro b c d e f g y h; cases y <;> simp [eqE] at h; obtain ⟨⟨⟨⟨⟨rfl,rfl⟩,rfl⟩,rfl⟩,rfl⟩,rfl⟩:=h; rfl
  ·intro y h; cases y <;> simp [eqE] at h; rfl
  ·intro b c d e y h; cases y <;> simp [eqE] at h; obtain ⟨⟨⟨rfl,rfl⟩,rfl⟩,rfl⟩:=h; rfl
  ·intro b y h; cases y <;> simp [eqE] at h; rw [h]
  ·intro y h; cases y <;> simp [eqE] at h; rfl
  ·intro f b c ib ic y h; cases y <;> simp [eqE] at h; rw [h.1.1,ib _ h.1.2,ic _ h.2]
  ·intro b y h; cases y <;> simp [eqE] at h; rw [h]
  ·intro y h; cases y <;> simp [eqE] at h; rfl
  ·intro b ib y h; cases y <;> simp [eqE] at h; rw [ib _ h]
  ·intro b ib y h; cases y <;> simp [eqE] at h; rw [ib _ h]
  ·intro ys h; cases ys <;> simp [eqEs] at h; rfl
  ·intro x xs ix ixs ys h; cases ys <;> simp [eqEs] at h; rw [ix _ h.1,ixs _ h.2]
 refine ⟨both,?_⟩
 intro xs
 induction xs with
 | nil=>intro ys h; cases ys <;> simp [eqEs] at h; rfl
 | cons x xs ih=>intro ys h; cases ys <;> simp [eqEs] at h; rw [both _ _ h.1,ih _ h.2]
theorem eqE_ok {x y:EV} (h:eqE x y=true):x=y:=eqE_both.1 x y h
theorem erase_arr (xs:List MapEntry) (i:Nat):xs.toArray.eraseIdxIfInBounds i=(xs.eraseIdx i).toArray:=by
 apply Array.ext'
 simp
theorem upd_self (H:Hp) (q:Id):(fun r=>getRow r H)=upd (fun r=>getRow r H) q (getRow q H):=by
 funext r
 unfold upd
 split
 ·rename_i h; rw [h]
 ·rfl
theorem xDel_ok (hr:HR P γ μ (fun q=>getRow q H) nx B w) (k:RegOk μ nt R a.tmps) {t kt el:TypeId} {ts:List TypeId} (ht:P.underlying t=some (.map kt el)) {m x:Operand} {u:Out} (h:xDel P kt (px m) (px x) call R H nx=some u)
  {o:Oper} (ho:execOp a.eval o=(do pure (Next.value (← Builtin.delete_ (t::ts).toArray o.type #[a.eval m,a.eval x])))):XRes P γ μ (fun q=>getRow q H) nx B w o a.eval u:=by
 unfold xDel at h
 split at h
 rotate_left
 ·cases h
 rename_i q he
 have run:∀ {xs:List MapEntry} {clk:Nat} {p:Pl} {r:Option (Nat×Value)} {w':World},a.eval m = .map (some p.blk)→w.heap[p.blk]? = some (.map xs.toArray clk) →
   (∀ w,(Instr.checkKey xs.toArray.isEmpty 10000 kt (a.eval x)).run P w = .ok () w)→(∀ w,(Instr.findKey kt (a.eval x) xs).run P w = .ok r w) →
   ((match r with
     | some (i,_)=>setObj p.blk (.map (xs.toArray.eraseIdxIfInBounds i) clk)
     | none=>setObj p.blk (.map xs.toArray clk):Sem Unit)).run P w = .ok () w'→(execOp a.eval o).run P w = .ok (.value (.tuple #[])) w':=by
  intro xs clk p r w' hv h3 c1 c2 c3
  rw [ho]
  refine value_run ?_
  rw [hv]
  unfold Builtin.delete_
  simp only [List.getElem?_toArray,List.getElem?_cons_zero,List.getElem?_cons_succ]
  rw [Sem.run_bind,under_run ht]
  simp only [Result.andThen_ok]
  rw [Sem.run_bind,getObj_run h3 (by intro _ _ _ h; cases h)]
  simp only [Result.andThen_ok]
  rw [Sem.run_bind,c1 w]
  simp only [Result.andThen_ok]
  rw [Sem.run_bind,c2 w]
  simp only [Result.andThen_ok]
  cases r with
  | none =>
    simp only [] at c3 ⊢
    rw [Sem.run_bind,c3]
    rfl
  | some r =>
    simp only [] at c3 ⊢
    rw [Sem.run_bind,c3]
    rfl
 split at h
 ·rename_i es clk hq
  obtain ⟨p,xs,hp,hv,h3,h6⟩:=map_of hr (px_ok k m) he hq
  have hb:es.isEmpty=xs.toArray.isEmpty:=by
   have:=h6.len
   cases es <;> cases xs <;> simp_all
  split at h
  ·rename_i i hf
   injection h with h
   subst h
   obtain ⟨hkx,c1,r,c2,x1,c3,c4⟩:=findE_ok (px_ok k x) h6 hf
   subst c4
   rw [hb] at c1
   obtain ⟨w',e1,f1,f2⟩:=map_write hr hp hq h3 (clk':=clk) (h6.erase i)
   refine ⟨.tuple #[],w',μ,.inl (run hv h3 c1 c2 ?_),rfl,f1,f2,rfl⟩
   simp only []
   rw [erase_arr]
   exact e1
  ·rename_i hf
   injection h with h
   subst h
   obtain ⟨hkx,c1,r,c2,c4⟩:=findE_ok (px_ok k x) h6 hf
   subst c4
   rw [hb] at c1
   obtain ⟨w',e1,f1,f2⟩:=map_write hr hp hq h3 (clk':=clk) h6
   have hsame:(fun r=>getRow r (setRow q (.map es clk) H))=fun r=>getRow r H:=by
    rw [setRow_fun,← hq,← upd_self]
   rw [hsame] at f1 f2
   exact ⟨.tuple #[],w',μ,.inl (run hv h3 c1 c2 e1),rfl,f1,f2,rfl⟩
  ·cases h
 ·rename_i kt' k' v b c hq
  split at h
  rotate_left
  ·cases h
  rename_i hc
  obtain ⟨rfl,hc⟩:=hc
  injection h with h
  subst h
  have hk:=eqE_ok hc
  have km:=px_ok k m
  rw [he] at km
  have km:=km.resolve_left (by intro h; cases h)
  simp only [iv,Option.map_eq_some_iff] at km
  obtain ⟨p,hp,hv⟩:=km
  obtain ⟨p',ob,h1, -,h3,h4⟩:=hr.live q (by show alive (getRow q H)=true; rw [hq]; rfl)
  rw [hp] at h1
  injection h1 with h1
  subst h1
  simp only [hq] at h4
  obtain ⟨h5,x1,h6,h7,h8,i,g1,g2,g3,g4⟩:=h4
  simp only [Bool.false_eq_true,if_false] at h5
  subst h5
  have hkx:a.eval x=x1.key:=by
   have:=px_ok k x
   rw [hk] at this
   rcases this with h | h
   ·rw [h] at h7; cases h7
   ·exact iv_uniq h h7
  obtain ⟨w',e1,e2⟩:=setObj_run (P:=P) h3 (by intro _ _ _ h; cases h) (.map ((γ q).eraseIdx i).toArray c)
  obtain ⟨f1,f2⟩:=hr.write (q:=q) (by show alive (getRow q H)=true; rw [hq]; rfl) hp (row := .one kt' k' v b c true) ⟨by rw [if_pos rfl,g2,h6],x1,h6,h7,h8,i,g1,g2,g3,g4⟩ e2
  rw [← setRow_fun] at f1 f2
  refine ⟨.tuple #[],w',μ,.inl (run hv.symm h3 (r:=some (i,x1.val)) ?_ ?_ ?_),rfl,f1,f2,rfl⟩
  ·intro w
   rw [hkx]
   have:=(g4 w).1
   simpa using this
  ·intro w
   rw [hkx]
   exact (g4 w).2
  ·simp only []
   rw [erase_arr]
   exact e1
 ·cases h
theorem sliceE_ok (hr:HR P γ μ (fun q=>getRow q H) nx B w) {e:EV} {v:Value} (kv:KV μ e v) {ys:List EV} (h:sliceE H e=some ys) :
  ∃ ad c vs,v = .slice ad (lenE e) c∧ivs μ ys=some vs∧∀ w':World,w'.heap=w.heap→∀ m sz,m * sz≤ys.length→(Builtin.firstCells sz m v).run P w' = .ok (vs.take (m * sz)).toArray w':=by
 have zero:∀ {ad:Option Addr} {n c:Nat} (m sz:Nat) (w':World),m * sz≤0→(Builtin.firstCells sz m (.slice ad n c)).run P w' = .ok (([]:List Value).take (m * sz)).toArray w':=by
  intro ad n c m sz w' hm
  have:m * sz=0:=by omega
  cases ad with
  | none=>simp [Builtin.firstCells]
  | some ad=>simp [Builtin.firstCells,this,loadCells,loadCellsFrom]
 unfold sliceE at h
 split at h
 ·injection h with h
  subst h
  have:=kv.resolve_left (by intro h; cases h)
  injection this with this
  subst this
  exact ⟨none,0,[],rfl,rfl,fun w' _ m sz hm=>zero m sz w' (by simpa using hm)⟩
 ·rename_i q o n z b ex
  split at h
  rotate_left
  ·cases h
  rename_i c len ty hq
  split at h
  rotate_left
  ·cases h
  rename_i hle
  injection h with h
  subst h
  obtain ⟨p,hp,hv, -⟩:=sl_of kv rfl
  obtain ⟨real,g1,g2,g3,g4,g5⟩:=hr.cells (q:=q) hq hp
  obtain ⟨l,k1,k2,k3⟩:=cl_ok g5 (n * z) o hle
  refine ⟨_,_,l,hv,k1,fun w' hw m sz hm=>?_⟩
  subst hv
  have hml:m * sz≤l.length:=by rw [k2]; have:=ivs_len k1; omega
  have:=run_firstCells_some (P:=P) w' sz m ⟨p.blk,p.base+o,none⟩ n (capOf p o z b ex) (l.take (m * sz)) (by rw [List.length_take]; omega) (by
   intro j u hj
   have hj':l[j]? = some u:=by
    rw [List.getElem?_take] at hj
    split at hj
    ·exact hj
    ·cases hj
   rw [add_none]
   have hc:w'.heap[p.blk]? = some (.cells real ty (0,0)):=by rw [hw]; exact g1
   rw [cell_at hc,← k3 j u hj']
   congr 1
   omega)
  exact this
 ·injection h with h
  subst h
  obtain ⟨p,hp,hv, -⟩:=emp_of kv rfl
  split at hv
  ·exact ⟨_,_,[],hv,rfl,fun w' _ m sz hm=>by rw [hv]; exact zero m sz w' (by simpa using hm)⟩
  ·exact ⟨_,_,[],hv,rfl,fun w' _ m sz hm=>by rw [hv]; exact zero m sz w' (by simpa using hm)⟩
 ·cases h
end Go.Proofs.YtaihbcmifjmapaaGreat.Ev
namespace Go.Proofs.YtaihbcmifjmapaaGreat.Ev
open Go Go.RowKit
set_option linter.unusedVariables false
variable {P:Program} {γ:Id→List MapEntry} {μ μ':Mu} {G G':Id→Row} {nx nx':Id} {B:Nat} {w w':World} {nt:Nat} {R:Regs} {a:Act} {H:Hp} {call:Caller}
def NewEls (P:Program) (t':TypeId) (z:Nat) (zv:Value) (x:Value) (m:Nat) (news:List Value) (w:World):Prop :=
 (∃ e2 ad c,P.underlying t'=some (.slice e2)∧x = .slice ad m c∧∀ w':World,w'.heap=w.heap→(Builtin.firstCells z m x).run P w' = .ok news.toArray w') ∨
 (∃ k,P.underlying t'=some (.int k)∧x = .int .i64 m∧news.toArray=Builtin.zeroCells zv.cells m∧m≤4096)
theorem append_fits {t t' ty el:TypeId} {i:TypeInfo} {zv:Value} {z:Nat} (ht:P.underlying t=some (.slice el)) (hi:P.info? el=some i) (hzv:i.zero=some zv) (hz:i.size=z) (hz0:0 < z) (hby:i.bytes≤2 ^ 20)
  {base:Option Addr} {n cap m:Nat} {x:Value} {news:List Value} (hx:NewEls P t' z zv x m news w) (hroom:n+m≤cap) (hm:m=0→news=[]) {w':World}
  (hst:(match base with
   | some a=>storeCells (a.add (n * z)) news
   | none=>pure ()).run P w = .ok () w'):(Builtin.append_ #[t,t'] ty #[.slice base n cap,x]).run P w = .ok (.slice base (n+m) cap) w':=by
 subst hz
 rcases hx with ⟨e2,ad,c,ht',rfl,hf⟩ | ⟨k,ht',rfl,hf,hm4⟩
 ·have hf:=hf w rfl
  cases base with
  | none =>
    injection hst with _ hst
    subst hst
    simp [Builtin.append_,run_underlying ht,run_underlying ht',sizeOf,typeInfo,hi,Builtin.lenOf,hroom,hf]
  | some ad0 =>
    simp only [] at hst
    simp [Builtin.append_,run_underlying ht,run_underlying ht',sizeOf,typeInfo,hi,Builtin.lenOf,hroom,hf,hst]
 ·have wm:IntKind.i64.wrap (m:Int)=(m:Int):=wrap_nat (by omega)
  have n1:¬ ((m:Int) < 0):=by omega
  have hb:i.bytes * m≤2 ^ 20 * 4096:=Nat.mul_le_mul hby hm4
  have n2:¬ ((m:Int) * (i.bytes:Int) > 2 ^ 48):=by
   have:((m * i.bytes:Nat):Int)≤4294967296:=by rw [Nat.mul_comm]; omega
   rw [Int.natCast_mul] at this
   omega
  have n2':¬ (281474976710656 < (m:Int) * (i.bytes:Int)):=by
   have:((m * i.bytes:Nat):Int)≤4294967296:=by rw [Nat.mul_comm]; omega
   rw [Int.natCast_mul] at this
   omega
  have hsz:i.size≠0:=by omega
  by_cases hm0:m=0
  ·have hn:=hm hm0
   subst hm0 hn
   have:w'=w:=by
    cases base with
    | none=>injection hst with _ hst; exact hst.symm
    | some ad0=>injection hst with _ hst; exact hst.symm
   subst this
   cases base with
   | none =>
     simp at hroom
     simp [Builtin.append_,run_underlying ht,run_underlying ht',sizeOf,typeInfo,hi,asInt,asIntOf,show IntKind.i64.wrap 0=0 from by decide,hroom]
   | some ad0 =>
     simp at hroom
     simp [Builtin.append_,run_underlying ht,run_underlying ht',sizeOf,typeInfo,hi,asInt,asIntOf,show IntKind.i64.wrap 0=0 from by decide,hroom,storeCells]
  ·have hmz:¬ (m * i.size=0):=by have:=Nat.mul_pos (Nat.pos_of_ne_zero hm0) hz0; omega
   have hnews:news=(Builtin.zeroCells zv.cells m).toList:=by rw [← hf]
   cases base with
   | none =>
     injection hst with _ hst
     subst hst
     simp [Builtin.append_,run_underlying ht,run_underlying ht',sizeOf,typeInfo,zeroValue,hi,hzv,asInt,asIntOf,wm,n1,n2',hroom]
   | some ad0 =>
     simp only [] at hst
     rw [hnews] at hst
     simp [Builtin.append_,run_underlying ht,run_underlying ht',sizeOf,typeInfo,zeroValue,hi,hzv,asInt,asIntOf,wm,n1,n2',hroom,hmz,hst]
theorem append_grows {t t' ty el:TypeId} {i:TypeInfo} {zv:Value} {z:Nat} (ht:P.underlying t=some (.slice el)) (hi:P.info? el=some i) (hzv:i.zero=some zv) (hz:i.size=z) (hz0:0 < z) (hb0:0 < i.bytes) (hby:i.bytes≤2 ^ 20)
  {base:Option Addr} {n cap m:Nat} {x:Value} {news olds:List Value} (hx:NewEls P t' z zv x m news w) (hold:∀ w':World,w'.heap=w.heap→(Builtin.firstCells z n (.slice base n cap)).run P w' = .ok olds.toArray w')
  (hroom:cap < n+m) (hm:0 < m) (h4:n+m≤4096) :
  (Builtin.append_ #[t,t'] ty #[.slice base n cap,x]).run P w = .ok (.slice (some ⟨w.heap.size,0,none⟩) (n+m) (grownCap w (n+m) cap el))
   (w.drew.alloc (.cells (olds.toArray++news.toArray++Builtin.zeroCells zv.cells (grownCap w (n+m) cap el-(n+m))) el)):=by
 subst hz
 have hn:¬ (n+m≤cap):=by omega
 have h63':¬ (9223372036854775807 < ((n:Int)+(m:Int))):=by omega
 have hmul:(n+m) * i.bytes≤4096 * 2 ^ 20:=Nat.mul_le_mul h4 hby
 have h48:=growslice_fits (need:=n+m) (old:=cap) (bytes:=i.bytes) (by omega) (by omega)
 have h48':¬ (281474976710656 < Builtin.nextslicecap (n+m) cap * i.bytes):=by omega
 have hbn:i.bytes≠0:=by omega
 have hfo:=hold w.drew rfl
 rcases hx with ⟨e2,ad,c,ht',rfl,hf⟩ | ⟨k,ht',rfl,hf,hm4⟩
 ·have hf:=hf w.drew rfl
  simp [Builtin.append_,run_underlying ht,run_underlying ht',sizeOf,typeInfo,zeroValue,hi,hzv,Builtin.lenOf,hn,h63',h48',Question.forced,hf,hfo,newRow,grownCap]
  congr 2
  apply Array.ext'
  simp [List.append_assoc]
 ·have wm:IntKind.i64.wrap (m:Int)=(m:Int):=wrap_nat (by omega)
  have n1:¬ ((m:Int) < 0):=by omega
  have hb:i.bytes * m≤2 ^ 20 * 4096:=Nat.mul_le_mul hby hm4
  have n2':¬ (281474976710656 < (m:Int) * (i.bytes:Int)):=by
   have:((m * i.bytes:Nat):Int)≤4294967296:=by rw [Nat.mul_comm]; omega
   rw [Int.natCast_mul] at this
   omega
  have hsz:i.size≠0:=by omega
  have hmz:¬ (m * i.size=0):=by have:=Nat.mul_pos hm hz0; omega
  rw [hf]
  simp [Builtin.append_,run_underlying ht,run_underlying ht',sizeOf,typeInfo,zeroValue,hi,hzv,asInt,asIntOf,wm,n1,n2',hn,h63',h48',Question.forced,hfo,newRow,grownCap,hmz]
end Go.Proofs.YtaihbcmifjmapaaGreat.Ev
namespace Go.Proofs.YtaihbcmifjmapaaGreat.Ev
open Go Go.RowKit
set_option linter.unusedVariables false
variable {P:Program} {γ:Id→List MapEntry} {μ μ':Mu} {G G':Id→Row} {nx nx':Id} {B:Nat} {w w':World} {nt:Nat} {R:Regs} {a:Act} {H:Hp} {call:Caller}
theorem HR.later (hr:HR P γ μ G nx B w) (h:nx.num≤nx'.num):HR P γ μ G nx' B w:=⟨fun r hn=>hr.fresh r (Nat.le_trans h hn),hr.live,hr.apart,hr.base⟩
theorem HR.drew (hr:HR P γ μ G nx B w):HR P γ μ G nx B w.drew:=⟨hr.fresh,hr.live,hr.apart,hr.base⟩
theorem Goes.later {μ0:Mu} {G0:Id→Row} {nx0:Id} {w0:World} (h:Goes μ0 G0 nx0 w0 μ G nx w) (hn:nx.num≤nx'.num):Goes μ0 G0 nx0 w0 μ G nx' w :=
 ⟨h.le,h.new,Nat.le_trans h.nxt hn,h.os,h.tape,h.output,h.size,h.keep,h.own,h.dom⟩
theorem Goes.drew {μ0:Mu} {G0:Id→Row} {nx0:Id} {w0:World} (h:Goes μ0 G0 nx0 w0 μ G nx w):Goes μ0 G0 nx0 w0 μ G nx w.drew :=
 ⟨h.le,h.new,h.nxt,h.os,h.tape,h.output,h.size,h.keep,h.own,h.dom⟩
theorem Goes.less {μ0:Mu} {G0:Id→Row} {nx0:Id} {w0:World} (h:Goes μ0 G0 nx0 w0 μ G nx w) (hg:∀ r,alive (G' r)=true→G' r=G r):Goes μ0 G0 nx0 w0 μ G' nx w :=
 ⟨h.le,h.new,h.nxt,h.os,h.tape,h.output,h.size,h.keep,fun r p ha hp=>h.own r p (by rw [← hg r ha]; exact ha) hp,fun r ha=>h.dom r (by rw [← hg r ha]; exact ha)⟩
theorem dead_less {q r:Id} (ha:alive (upd G q .dead r)=true):upd G q .dead r=G r:=by
 by_cases h:r=q
 ·subst h; rw [upd_same] at ha; cases ha
 ·exact upd_other _ _ h
theorem CsL.push {c:Cs} {l:List Value} (h:CsL μ c l) {es:List EV} {vs:List Value} (he:ivs μ es=some vs) {n:Nat} (hn:n=l.length) (ho:n+es.length≤4096):CsL μ (fillC es c n) (l++vs):=by
 subst hn
 have hl:=ivs_len he
 refine ⟨by rw [List.length_append]; omega,fun i v hv=>?_⟩
 have hi:i < l.length+vs.length:=by
  have:=(List.getElem?_eq_some_iff.1 hv).1
  rw [List.length_append] at this
  exact this
 rw [gC_fill (by omega) es c l.length ho]
 by_cases h1:i < l.length
 ·rw [if_neg (by omega)]
  rw [List.getElem?_append_left h1] at hv
  exact h.2 i v hv
 ·rw [if_pos (by omega)]
  rw [List.getElem?_append_right (by omega)] at hv
  have hlt:i-l.length < es.length:=by omega
  obtain ⟨u,h3,h4⟩:=ivs_get he (List.getElem?_eq_getElem hlt)
  rw [hv] at h3
  injection h3 with h3
  subst h3
  rw [List.getD_eq_getElem?_getD,List.getElem?_eq_getElem hlt]
  exact h4
theorem CsL.mono (h:μ.le μ') {c:Cs} {l:List Value} (k:CsL μ c l):CsL μ' c l:=⟨k.1,fun i v hv=>iv_mono h (k.2 i v hv)⟩
theorem CsL.at {c:Cs} {l:List Value} (h:CsL μ c l) {g:List MapEntry} {p:Pl} {real:Array Value} {t:TypeId} {len:Nat} (h1:real.size=p.total) (h2:p.base+l.length≤p.total) (hl:len=l.length) (h3:∀ i,i < l.length→real[p.base+i]? = l[i]?) :
  rowOk P g μ p (.cells real t (0,0)) (.cells c len t):=by
 subst hl
 refine ⟨real,rfl,h1,⟨h.1,h2⟩,fun i hi=>?_⟩
 have:=List.getElem?_eq_getElem hi
 exact ⟨_,h.2 i _ this,(h3 i hi).trans this⟩
structure Elem (P:Program) (el:TypeId) (z:Nat) (i:TypeInfo) (zv:Value):Prop where
 info:P.info? el=some i
 zero:i.zero=some zv
 size:i.size=z
 pos:0 < z
 bytes0:0 < i.bytes
 bytes:i.bytes≤2 ^ 20
 cells:zv.cells.size=z
theorem appE_ok (hr:HR P γ μ (fun q=>getRow q H) nx B w) {t t' ty el:TypeId} (ht:P.underlying t=some (.slice el)) {z:Nat} {i:TypeInfo} {zv:Value} (E:Elem P el z i zv) {s:EV} {vs:Value} (ks:KV μ s vs) {m:Nat} {ys:List EV} {news:List Value} {x:Value}
  (hys:ivs μ ys=some news) (hx:NewEls P t' z zv x m news w) (hn:inc nx=some nx') {e:EV} {H':Hp} (h:appE H nx el z s m ys=some (e,H')) :
  ∃ v w' μ',(Builtin.append_ #[t,t'] ty #[vs,x]).run P w = .ok v w'∧iv μ' e=some v∧HR P γ μ' (fun q=>getRow q H') nx' B w'∧Goes μ (fun q=>getRow q H) nx w μ' (fun q=>getRow q H') nx' w':=by
 have hlt:nx.num < nx'.num:=by rw [inc_num hn]; omega
 have hle:nx.num≤nx'.num:=Nat.le_of_lt hlt
 have hfr:μ nx=none:=hr.fresh nx (Nat.le_refl _)
 have hzp:=E.pos
 unfold appE at h
 split at h
 ·cases h
 rename_i hcond
 simp only [not_or,Decidable.not_not,Bool.not_eq_false] at hcond
 obtain ⟨hyl,hy1⟩:=hcond
 have hnl:news.length=m * z:=by rw [ivs_len hys,hyl]
 have hm0:m=0→news=[]:=fun h0=>List.length_eq_zero_iff.1 (by rw [hnl,h0]; simp)
 have grow:∀ {base:Option Addr} {n cap:Nat} {olds:List Value} {c:Cs} {H0:Hp},(∀ w':World,w'.heap=w.heap→(Builtin.firstCells z n (.slice base n cap)).run P w' = .ok olds.toArray w')→cap < n+m→0 < m→(n+m) * z≤4096→olds.length=n * z→CsL μ c (olds++news) →
   (∀ r,alive (getRow r H0)=true→getRow r H0=getRow r H)→vs = .slice base n cap→e = .sl nx 0 (n+m) z (n+m) false→H'=setRow nx (.cells c ((n+m) * z) el) H0 →
   ∃ v w' μ',(Builtin.append_ #[t,t'] ty #[vs,x]).run P w = .ok v w'∧iv μ' e=some v∧HR P γ μ' (fun q=>getRow q H') nx' B w'∧Goes μ (fun q=>getRow q H) nx w μ' (fun q=>getRow q H') nx' w':=by
  intro base n cap olds c H0 hold hcap hm h4 hol hc hless hvs he hH
  have hnm:n+m≤4096:=Nat.le_trans (Nat.le_mul_of_pos_right _ hzp) h4
  have hrun:=append_grows (ty:=ty) ht E.info E.zero E.size hzp E.bytes0 E.bytes hx hold hcap hm hnm
  have hge:=grownCap_ge w (n+m) cap el
  have hsz:(olds.toArray++news.toArray++Builtin.zeroCells zv.cells (grownCap w (n+m) cap el-(n+m))).size=grownCap w (n+m) cap el * z:=by
   simp only [Array.size_append,List.size_toArray,size_zeroCells,E.cells,hol,hnl,← Nat.add_mul]
   congr 1
   omega
  have hll:(olds++news).length=(n+m) * z:=by rw [List.length_append,hol,hnl,Nat.add_mul]
  have hmz:(n+m) * z≤grownCap w (n+m) cap el * z:=Nat.mul_le_mul_right z hge
  have hrow:rowOk P (γ nx) (upd μ nx (some ⟨w.heap.size,0,grownCap w (n+m) cap el * z⟩)) ⟨w.heap.size,0,grownCap w (n+m) cap el * z⟩ (.cells (olds.toArray++news.toArray++Builtin.zeroCells zv.cells (grownCap w (n+m) cap el-(n+m))) el (0,0)) (.cells c ((n+m) * z) el):=by
   refine (hc.mono (le_upd hfr _)).at hsz (by simp only []; omega) hll.symm fun i hi=>?_
   simp only [Nat.zero_add]
   rw [Array.getElem?_append_left (by simpa using hi),← Array.getElem?_toList]
   simp only [Array.toList_append]
  obtain f1:=(hr.less (G':=fun q=>getRow q H0) hless).drew.alloc (i:=nx) (nx':=nx') hfr hrow hlt hle
  obtain f2:=((Goes.refl μ (fun q=>getRow q H) nx w).less (G':=fun q=>getRow q H0) hless).drew.alloc (nx':=nx') hfr (Nat.le_refl _) (.cells (olds.toArray++news.toArray++Builtin.zeroCells zv.cells (grownCap w (n+m) cap el-(n+m))) el (0,0)) (grownCap w (n+m) cap el * z) (.cells c ((n+m) * z) el) hle
  rw [← setRow_fun] at f1 f2
  subst hvs he hH
  rw [show w.drew.heap.size=w.heap.size from rfl] at f1 f2
  refine ⟨_,_,_,hrun,?_,f1,f2⟩
  have hcap:capOf ⟨w.heap.size,0,grownCap w (n+m) cap el * z⟩ 0 z (n+m) false=grownCap w (n+m) cap el:=by
   show (grownCap w (n+m) cap el * z-(0+0)) / z=_
   simp [Nat.mul_div_cancel _ hzp]
  rw [sl_mk (upd_same _ _ _) ⟨by rw [hcap]; simp,Nat.le_refl _,by rw [hcap]; exact hge,hzp⟩,hcap]
 have take:∀ {q:Id} {p:Pl} {c0:Cs} {len:Nat} {o n cap:Nat} {olds:List Value} {c:Cs} {real:Array Value},alive (getRow q H)=true→μ q=some p→w.heap[p.blk]? = some (.cells real el (0,0))→real.size=p.total →
   (∀ j v,olds[j]? = some v→real[p.base+(o+j)]? = some v)→olds.length=n * z→n+m≤cap→cap=(p.total-(p.base+o)) / z→p.base+o≤p.total→(n+m) * z≤4096→CsL μ c (olds++news) →
   vs = .slice (some ⟨p.blk,p.base+o,none⟩) n cap→e = .sl nx 0 (n+m) z (n+m) false→H'=setRow nx (.cells c ((n+m) * z) el) (setRow q .dead H) →
   ∃ v w' μ',(Builtin.append_ #[t,t'] ty #[vs,x]).run P w = .ok v w'∧iv μ' e=some v∧HR P γ μ' (fun q=>getRow q H') nx' B w'∧Goes μ (fun q=>getRow q H) nx w μ' (fun q=>getRow q H') nx' w':=by
  intro q p c0 len o n cap olds c real hq hp hblk hsz hr1 hol hroom hcap hpo h4 hc hvs he hH
  have hcz:cap * z≤p.total-(p.base+o):=by rw [hcap]; exact Nat.div_mul_le_self _ _
  have hmz:(n+m) * z≤cap * z:=Nat.mul_le_mul_right z hroom
  have hnz:(n+m) * z=n * z+m * z:=Nat.add_mul _ _ _
  have hll:(olds++news).length=(n+m) * z:=by rw [List.length_append,hol,hnl,hnz]
  obtain ⟨w1,e1,e2⟩:=storeCells_run (P:=P) news (p.base+o+n * z) 0 real w hblk (by rw [hsz,hnl]; omega) (ones_ok hys hy1)
  have hrun:=append_fits (ty:=ty) (base:=some ⟨p.blk,p.base+o,none⟩) ht E.info E.zero E.size hzp E.bytes hx hroom hm0 (by simp only []; rw [add_none]; exact e1)
  have hrow:rowOk P (γ nx) (upd μ nx (some ⟨p.blk,p.base+o,p.total⟩)) ⟨p.blk,p.base+o,p.total⟩ (.cells (wr real (p.base+o+n * z+0) news) el (0,0)) (.cells c ((n+m) * z) el):=by
   refine (hc.mono (le_upd hfr _)).at (by rw [wr_size]; exact hsz) (by simp only []; omega) hll.symm fun i hi=>?_
   simp only []
   rw [wr_get _ _ _ (by omega)]
   by_cases h1:i < n * z
   ·rw [if_neg (by omega),List.getElem?_append_left (by omega)]
    have:=List.getElem?_eq_getElem (l:=olds) (i:=i) (by omega)
    rw [this,← hr1 i _ this]
    congr 1
    omega
   ·rw [if_pos (by omega),List.getElem?_append_right (by omega)]
    congr 1
    omega
  obtain ⟨f1,f2⟩:=hr.take (nx':=nx') hq hp hfr hrow e2 (Nat.le_refl _) hlt hle
  have hfun:(fun r=>getRow r (setRow nx (.cells c ((n+m) * z) el) (setRow q .dead H)))=upd (upd (fun r=>getRow r H) q .dead) nx (.cells c ((n+m) * z) el):=by
   rw [setRow_fun,setRow_fun]
  subst hvs he hH
  rw [hfun]
  refine ⟨_,_,_,hrun,?_,f1,f2⟩
  have hcap':capOf ⟨p.blk,p.base+o,p.total⟩ 0 z (n+m) false=cap:=by
   show (p.total-(p.base+o+0)) / z=_
   rw [hcap]
   rfl
  rw [sl_mk (upd_same _ _ _) ⟨by rw [hcap']; simp only []; omega,Nat.le_refl _,by rw [hcap']; exact hroom,hzp⟩,hcap']
  rfl
 have nothing:∀ {ad:Option Addr} {k:Nat} (w':World),(Builtin.firstCells z 0 (.slice ad 0 k)).run P w' = .ok ([]:List Value).toArray w':=by
  intro ad k w'
  cases ad with
  | none=>simp [Builtin.firstCells]
  | some ad=>simp [Builtin.firstCells,loadCells,loadCellsFrom]
 have none_le:CsL μ noCs []:=⟨by simp,fun i v h=>by simp at h⟩
 have fresh_c:m * z≤4096→CsL μ (fillC ys noCs 0) ([]++news):=fun h=>none_le.push hys rfl (by rw [hyl]; omega)
 split at h
 ·-- nothing to append
  rename_i h0
  have hn0:=hm0 h0
  subst h0 hn0
  have stay:∀ {base:Option Addr} {n cap:Nat},n≤cap→vs = .slice base n cap→e=s→H'=H→s ≠ .unk→∃ v w' μ',(Builtin.append_ #[t,t'] ty #[vs,x]).run P w = .ok v w'∧iv μ' e=some v∧HR P γ μ' (fun q=>getRow q H') nx' B w'∧Goes μ (fun q=>getRow q H) nx w μ' (fun q=>getRow q H') nx' w':=by
   intro base n cap hnc hvs he hH hs
   subst hvs he hH
   have hrun:=append_fits (ty:=ty) (base:=base) (n:=n) (cap:=cap) ht E.info E.zero E.size hzp E.bytes hx hnc hm0 (w':=w) (by cases base <;> rfl)
   exact ⟨_,_,μ,hrun,ks.known hs,hr.later hle,(Goes.refl _ _ _ _).later hle⟩
  split at h
  ·injection h with h
   injection h with h1 h2
   have:=ks.known (by intro h; cases h)
   injection this with this
   exact stay (base:=none) (n:=0) (cap:=0) (Nat.le_refl _) this.symm h1.symm h2.symm (by intro h; cases h)
  ·injection h with h
   injection h with h1 h2
   obtain ⟨p,hp,hv,g1,g2,g3,g4⟩:=sl_of ks rfl
   exact stay (Nat.le_trans g2 g3) hv h1.symm h2.symm (by intro h; cases h)
  ·injection h with h
   injection h with h1 h2
   obtain ⟨p,hp,hv, -⟩:=emp_of ks rfl
   split at hv
   ·exact stay (Nat.zero_le _) hv h1.symm h2.symm (by intro h; cases h)
   ·exact stay (Nat.zero_le _) hv h1.symm h2.symm (by intro h; cases h)
  ·cases h
 rename_i hmn
 have hm:0 < m:=Nat.pos_of_ne_zero hmn
 split at h
 ·-- nil
  split at h
  rotate_left
  ·cases h
  rename_i h4
  injection h with h
  injection h with h1 h2
  have:=ks.known (by intro h; cases h)
  injection this with this
  refine grow (base:=none) (n:=0) (cap:=0) (olds:=[]) (H0:=H) (fun w' _=>nothing w') (by omega) hm (by rw [Nat.zero_add]; exact h4) (by simp) (fresh_c h4) (fun _ _=>rfl) this.symm ?_ ?_
  ·rw [← h1,Nat.zero_add]
  ·rw [← h2,Nat.zero_add]
 ·-- a slice
  rename_i q o n z' b ex
  split at h
  ·cases h
  rename_i hz
  simp only [ne_eq,Decidable.not_not] at hz
  subst hz
  split at h
  rotate_left
  ·cases h
  rename_i c len tyq hq
  obtain ⟨p,hp,hv,g1,g2,g3,g4⟩:=sl_of ks rfl
  obtain ⟨real,r1,r2,r3,r4,r5⟩:=hr.cells (q:=q) hq hp
  have hqa:alive (getRow q H)=true:=by rw [hq]; rfl
  split at h
  ·-- in place
   rename_i hb
   split at h
   rotate_left
   ·cases h
   rename_i hlen
   injection h with h
   injection h with h1 h2
   have hnz:(n+m) * z'=n * z'+m * z':=Nat.add_mul _ _ _
   obtain ⟨w1,e1,e2⟩:=storeCells_run (P:=P) news (p.base+o+n * z') 0 real w r1 (by rw [r2,hnl]; omega) (ones_ok hys hy1)
   have hrun:=append_fits (ty:=ty) (base:=some ⟨p.blk,p.base+o,none⟩) ht E.info E.zero E.size hzp E.bytes hx (Nat.le_trans hb g3) hm0 (by simp only []; rw [add_none]; exact e1)
   have hrow:=row_fill (P:=P) (g:=γ q) (ty:=tyq) r2 r4 r5 hys (o:=o+n * z') (by rw [hyl]; omega)
   rw [show p.base+(o+n * z')=p.base+o+n * z'+0 by omega] at hrow
   obtain ⟨f1,f2⟩:=hr.write hqa hp hrow e2
   rw [← setRow_fun] at f1 f2
   subst h1 h2 hv
   refine ⟨_,_,μ,hrun,?_,f1.later hle,f2.later hle⟩
   exact sl_mk hp ⟨g1,hb,g3,g4⟩
  ·rename_i hb
   split at h
   rotate_left
   ·cases h
   rename_i hlen
   obtain ⟨hlen,h4,hty⟩:=hlen
   injection h with h
   injection h with h1 h2
   obtain ⟨olds,k1,k2,k3⟩:=cl_ok r5 (n * z') o hlen
   have hnz:(n+m) * z'=n * z'+m * z':=Nat.add_mul _ _ _
   have hc0:CsL μ (if o=0 then c else fillC (cl (n * z') c o) noCs 0) olds:=by
    split
    ·rename_i ho
     subst ho
     refine ⟨by omega,fun i v hv=>?_⟩
     have hi:=(List.getElem?_eq_some_iff.1 hv).1
     obtain ⟨u,u1,u2⟩:=r5 i (by omega)
     rw [u1]
     have:=k3 i v hv
     rw [Nat.zero_add,u2] at this
     exact this
    ·have:=none_le.push k1 (n:=0) rfl (by have:=ivs_len k1; omega)
     simpa using this
   have hcc:CsL μ (fillC ys (if o=0 then c else fillC (cl (n * z') c o) noCs 0) (n * z')) (olds++news):=hc0.push hys k2.symm (by rw [hyl]; omega)
   by_cases hcap:n+m≤capOf p o z' b ex
   ·have hex:ex=false:=by
     cases ex
     ·rfl
     ·exact absurd hcap hb
    subst hex
    simp only [Bool.false_or,beq_iff_eq] at hty
    subst hty
    exact take (c0:=c) (len:=len) hqa hp r1 r2 k3 k2 hcap rfl (by omega) h4 hcc hv h1.symm (by rw [← h2]; rfl)
   ·refine grow (H0:=if ex=true then H else setRow q .dead H) (base:=some ⟨p.blk,p.base+o,none⟩) (n:=n) (cap:=capOf p o z' b ex) (olds:=olds) (fun w' hw=>?_) (by omega) hm h4 k2 hcc (fun r hr'=>?_) hv h1.symm h2.symm
    ·refine run_firstCells_some (P:=P) w' z' n ⟨p.blk,p.base+o,none⟩ n (capOf p o z' b ex) olds k2 fun j u hj=>?_
     have hc:w'.heap[p.blk]? = some (.cells real tyq (0,0)):=by rw [hw]; exact r1
     rw [add_none,cell_at hc,← k3 j u hj]
     congr 1
     omega
    ·split
     ·rfl
     ·rename_i hx
      rw [if_neg hx] at hr'
      have:=congrFun (setRow_fun (H:=H) (i:=q) (row := .dead)) r
      rw [this] at hr' ⊢
      exact dead_less hr'
 ·-- a slice of no element that may have cells behind
  rename_i q o o2 z'
  split at h
  ·cases h
  rename_i hz
  simp only [ne_eq,Decidable.not_not] at hz
  subst hz
  split at h
  rotate_left
  ·cases h
  rename_i c len tyq hq
  split at h
  rotate_left
  ·cases h
  rename_i h4
  obtain ⟨h4,hty⟩:=h4
  injection h with h
  injection h with h1 h2
  obtain ⟨p,hp,hv,g1,g2⟩:=emp_of ks rfl
  obtain ⟨real,r1,r2,r3,r4,r5⟩:=hr.cells (q:=q) hq hp
  have hqa:alive (getRow q H)=true:=by rw [hq]; rfl
  simp only [beq_iff_eq] at hty
  subst hty
  have hless:∀ r,alive (getRow r (setRow q .dead H))=true→getRow r (setRow q .dead H)=getRow r H:=by
   intro r hr'
   have:=congrFun (setRow_fun (H:=H) (i:=q) (row := .dead)) r
   rw [this] at hr' ⊢
   exact dead_less hr'
  by_cases hcap:m≤(p.total-(p.base+o)) / z'
  ·have hne:(p.total-(p.base+o)) / z'≠0:=by omega
   rw [if_neg hne] at hv
   refine take (n:=0) (olds:=[]) (c0:=c) (len:=len) hqa hp r1 r2 (fun j v h=>by simp at h) (by simp) (by rw [Nat.zero_add]; exact hcap) rfl g1 (by rw [Nat.zero_add]; exact h4) (fresh_c h4) hv ?_ ?_
   ·rw [← h1,Nat.zero_add]
   ·rw [← h2,Nat.zero_add]
  ·have hv':∃ ad k,vs = .slice ad 0 k∧k < 0+m:=by
    split at hv
    ·exact ⟨_,_,hv,by omega⟩
    ·exact ⟨_,_,hv,by omega⟩
   obtain ⟨ad,k,hv',hk⟩:=hv'
   refine grow (base:=ad) (n:=0) (cap:=k) (olds:=[]) (H0:=setRow q .dead H) (fun w' _=>nothing w') hk hm (by rw [Nat.zero_add]; exact h4) (by simp) (fresh_c h4) hless hv' ?_ ?_
   ·rw [← h1,Nat.zero_add]
   ·rw [← h2,Nat.zero_add]
 ·cases h
end Go.Proofs.YtaihbcmifjmapaaGreat.Ev
namespace Go.Proofs.YtaihbcmifjmapaaGreat.Ev
open Go Go.RowKit
set_option linter.unusedVariables false
variable {P:Program} {γ:Id→List MapEntry} {μ μ':Mu} {G G':Id→Row} {nx nx':Id} {B:Nat} {w w':World} {nt:Nat} {R:Regs} {a:Act} {H:Hp} {call:Caller}
theorem elem_of {el:TypeId} {z:Nat} {zs:List EV} (h:elemE P el=some (z,zs)):∃ i zv,Elem P el z i zv∧(∀ μ:Mu,ivs μ zs=some zv.cells.toList)∧zs.length=z:=by
 obtain ⟨i,v,h1,h2,h3,h4,h5,h6,h7,h8⟩:=elemE_of h
 refine ⟨i,v,⟨h1,h2,h5,h6,h7,h8,?_⟩,h3,h4⟩
 have:=ivs_len (h3 (fun _=>none))
 rw [Array.length_toList] at this
 omega
theorem xApp_ok (hr:HR P γ μ (fun q=>getRow q H) nx B w) (k:RegOk μ nt R a.tmps) {t t' el e2:TypeId} (ht:P.underlying t=some (.slice el)) (ht':P.underlying t'=some (.slice e2)) {z:Nat} {zs:List EV} (hz:elemE P el=some (z,zs)) {s x:Operand} {u:Out}
  (h:xApp P el z (px s) (px x) call R H nx=some u) {o:Oper} (ho:execOp a.eval o=(do pure (Next.value (← Builtin.append_ #[t,t'] o.type #[a.eval s,a.eval x])))):XRes P γ μ (fun q=>getRow q H) nx B w o a.eval u:=by
 unfold xApp at h
 split at h
 rotate_left
 ·cases h
 rename_i ys nx' hys hn
 rw [Option.map_eq_some_iff] at h
 obtain ⟨⟨e,H'⟩,h1,h2⟩:=h
 subst h2
 obtain ⟨i,zv,E,g1,g2⟩:=elem_of hz
 obtain ⟨ad,c,vs,v1,v2,v3⟩:=sliceE_ok hr (px_ok k x) hys
 have hyl:ys.length=lenE (getX (px x) R) * z:=by
  unfold appE at h1
  split at h1
  ·cases h1
  rename_i hc
  simp only [not_or,Decidable.not_not] at hc
  exact hc.1
 have hx:NewEls P t' z zv (a.eval x) (lenE (getX (px x) R)) vs w := .inl ⟨e2,ad,c,ht',v1,fun w' hw=>by
  have:=v3 w' hw _ _ (Nat.le_of_eq hyl.symm)
  rw [List.take_of_length_le (by rw [ivs_len v2,hyl]; exact Nat.le_refl _)] at this
  exact this⟩
 obtain ⟨v,w',μ',f1,f2,f3,f4⟩:=appE_ok (ty:=o.type) hr ht E (px_ok k s) v2 hx hn h1
 exact ⟨v,w',μ',.inl (by rw [ho]; exact value_run f1),f2,f3,f4,rfl⟩
theorem xAppZ_ok (hr:HR P γ μ (fun q=>getRow q H) nx B w) (k:RegOk μ nt R a.tmps) {t t' el:TypeId} {ik:IntKind} (ht:P.underlying t=some (.slice el)) (ht':P.underlying t'=some (.int ik)) {z:Nat} {zs:List EV} (hz:elemE P el=some (z,zs)) {s x:Operand} {u:Out}
  (h:xAppZ P el z zs (px s) (px x) call R H nx=some u) {o:Oper} (ho:execOp a.eval o=(do pure (Next.value (← Builtin.append_ #[t,t'] o.type #[a.eval s,a.eval x])))):XRes P γ μ (fun q=>getRow q H) nx B w o a.eval u:=by
 unfold xAppZ at h
 split at h
 rotate_left
 ·cases h
 rename_i m nx' hm hn
 split at h
 rotate_left
 ·cases h
 rename_i hm4
 rw [Option.map_eq_some_iff] at h
 obtain ⟨⟨e,H'⟩,h1,h2⟩:=h
 subst h2
 obtain ⟨i,zv,E,g1,g2⟩:=elem_of hz
 obtain ⟨l,l1,l2,l3⟩:=repE_ok (g1 μ) m
 have hv:a.eval x = .int .i64 m:=by
  have:=px_ok k x
  rw [hm] at this
  have:=this.resolve_left (by intro h; cases h)
  injection this with this
  exact this.symm
 rw [g2] at l2 l3
 have hx:NewEls P t' z zv (a.eval x) m l w := .inr ⟨ik,ht',hv,by
  unfold Builtin.zeroCells
  rw [E.cells]
  have:=made_eq E.cells l2 l3
  rw [E.cells] at this
  exact this.symm,hm4⟩
 obtain ⟨v,w',μ',f1,f2,f3,f4⟩:=appE_ok (ty:=o.type) hr ht E (px_ok k s) l1 hx hn h1
 exact ⟨v,w',μ',.inl (by rw [ho]; exact value_run f1),f2,f3,f4,rfl⟩
theorem xClear_ok (hr:HR P γ μ (fun q=>getRow q H) nx B w) (k:RegOk μ nt R a.tmps) {t el:TypeId} {ts:List TypeId} (ht:P.underlying t=some (.slice el)) {z:Nat} {zs:List EV} (hz:elemE P el=some (z,zs)) {x:Operand} {u:Out}
  (h:xClear P z zs (px x) call R H nx=some u) {o:Oper} (ho:execOp a.eval o=(do pure (Next.value (← Builtin.clear_ (t::ts).toArray o.type #[a.eval x])))):XRes P γ μ (fun q=>getRow q H) nx B w o a.eval u:=by
 unfold xClear at h
 split at h
 rotate_left
 ·cases h
 rename_i q off n z' b ex he
 split at h
 rotate_left
 ·cases h
 rename_i c len ty hq
 split at h
 rotate_left
 ·cases h
 rename_i hc
 obtain ⟨hn,hzz,h1,hle⟩:=hc
 subst hzz
 injection h with h
 subst h
 obtain ⟨p,hp,hv, -⟩:=sl_of (px_ok k x) he
 obtain ⟨real,r1,r2,r3,r4,r5⟩:=hr.cells (q:=q) hq hp
 obtain ⟨i,zv,E,g1,g2⟩:=elem_of hz
 obtain ⟨l,l1,l2,l3⟩:=repE_ok (g1 μ) n
 rw [g2] at l2 l3
 have hlen:=ivs_len l1
 have hone:(repE zs n).all oneE=true:=by
  clear hle l1 l2 l3 hlen he hv ho hn
  induction n with
  | zero=>rfl
  | succ n ih=>rw [repE,List.all_append,h1,ih]; rfl
 obtain ⟨w',e1,e2⟩:=storeCells_run (P:=P) l (p.base+off) 0 real w r1 (by rw [r2,l2]; omega) (ones_ok l1 hone)
 have hrow:=row_fill (P:=P) (g:=γ q) (ty:=ty) r2 r4 r5 l1 (o:=off) (by rw [← hlen,l2]; exact hle)
 obtain ⟨f1,f2⟩:=hr.write (q:=q) (by show alive (getRow q H)=true; rw [hq]; rfl) hp hrow e2
 rw [← setRow_fun] at f1 f2
 refine ⟨.tuple #[],w',μ,.inl ?_,rfl,f1,f2,rfl⟩
 rw [ho]
 refine value_run ?_
 rw [hv]
 unfold Builtin.clear_
 simp only [List.getElem?_toArray,List.getElem?_cons_zero]
 rw [Sem.run_bind,under_run ht]
 have hzc:Builtin.zeroCells zv.cells n=l.toArray:=by
  unfold Builtin.zeroCells
  have:=made_eq E.cells l2 l3
  rw [E.cells] at this ⊢
  exact this
 cases n with
 | zero=>exact absurd rfl hn
 | succ n =>
   simp [zeroValue,typeInfo,E.info,E.zero,hzc,e1]
theorem xCopy_ok (hr:HR P γ μ (fun q=>getRow q H) nx B w) (k:RegOk μ nt R a.tmps) {t el:TypeId} {ts:List TypeId} (ht:P.underlying t=some (.slice el)) {z:Nat} (hz:sizeT P el=some z) {x y:Operand} {u:Out}
  (h:xCopy P z (px x) (px y) call R H nx=some u) {o:Oper} (ho:execOp a.eval o=(do pure (Next.value (← Builtin.copy_ (t::ts).toArray o.type #[a.eval x,a.eval y])))):XRes P γ μ (fun q=>getRow q H) nx B w o a.eval u:=by
 unfold xCopy at h
 split at h
 rotate_left
 ·cases h
 rename_i ys hys
 simp only [] at h
 split at h
 ·cases h
 rename_i hc
 simp only [not_or,Decidable.not_not,Bool.not_eq_false] at hc
 obtain ⟨hyl,hy1⟩:=hc
 obtain ⟨ad,c,vs,v1,v2,v3⟩:=sliceE_ok hr (px_ok k y) hys
 have hvl:=ivs_len v2
 have run:∀ {base:Option Addr} {d cp:Nat} {w':World},a.eval x = .slice base d cp →
   (match base with
    | some a=>storeCells a (vs.take (min (lenE (getX (px y) R)) d * z))
    | none=>pure ()).run P w = .ok () w'→(execOp a.eval o).run P w = .ok (.value (.int .i64 ((min (lenE (getX (px y) R)) d:Nat):Int))) w':=by
  intro base d cp w' hv hs
  rw [ho]
  refine value_run ?_
  have hf:=v3 w rfl (min (lenE (getX (px y) R)) d) z (by rw [hyl]; exact Nat.mul_le_mul_right z (Nat.min_le_left _ _))
  rw [v1] at hf ⊢
  rw [hv]
  unfold Builtin.copy_
  simp only [List.getElem?_toArray,List.getElem?_cons_zero,List.getElem?_cons_succ]
  rw [Sem.run_bind,under_run ht]
  simp only [Result.andThen_ok,Builtin.lenOf,pure_bind]
  rw [Sem.run_bind,sizeT_run hz]
  simp only [Result.andThen_ok]
  rw [Sem.run_bind,show Nat.min (lenE (getX (px y) R)) d=min (lenE (getX (px y) R)) d from rfl,hf]
  simp only [Result.andThen_ok]
  cases base with
  | none =>
    injection hs with _ hs
    subst hs
    rfl
  | some ad =>
    simp only [] at hs ⊢
    rw [Sem.run_bind,hs]
    rfl
 have zero:∀ {base:Option Addr} {d cp:Nat},a.eval x = .slice base d cp→min (lenE (getX (px y) R)) d=0→u=⟨.nn 0,H,nx,none⟩→XRes P γ μ (fun q=>getRow q H) nx B w o a.eval u:=by
  intro base d cp hv hm hu
  subst hu
  have:=run (w':=w) hv (by rw [hm]; cases base <;> simp [storeCells])
  rw [hm] at this
  exact ⟨_,w,μ,.inl this,rfl,hr,Goes.refl _ _ _ _,rfl⟩
 split at h
 ·rename_i he
  split at h
  rotate_left
  ·cases h
  rename_i hm
  injection h with h
  have:=(px_ok k x).resolve_left (by rw [he]; intro h; cases h)
  rw [he] at this hm
  injection this with this
  exact zero this.symm hm h.symm
 ·rename_i q o1 o2 z' he
  split at h
  rotate_left
  ·cases h
  rename_i hm
  injection h with h
  obtain ⟨p,hp,hv, -⟩:=emp_of (px_ok k x) he
  rw [he] at hm
  split at hv
  ·exact zero hv hm h.symm
  ·exact zero hv hm h.symm
 ·rename_i q off n z' b ex he
  obtain ⟨p,hp,hv, -⟩:=sl_of (px_ok k x) he
  rw [he,show lenE (.sl q off n z' b ex)=n from rfl] at h
  split at h
  ·rename_i hm
   injection h with h
   exact zero hv hm h.symm
  split at h
  rotate_left
  ·cases h
  rename_i c' len ty hq
  split at h
  rotate_left
  ·cases h
  rename_i hcc
  obtain ⟨hzz,hle⟩:=hcc
  subst hzz
  injection h with h
  subst h
  obtain ⟨real,r1,r2,r3,r4,r5⟩:=hr.cells (q:=q) hq hp
  have hmm:min (lenE (getX (px y) R)) n * z≤vs.length:=by rw [hvl,hyl]; exact Nat.mul_le_mul_right z (Nat.min_le_left _ _)
  have htk:=ivs_take v2 (min (lenE (getX (px y) R)) n * z)
  have hone:(ys.take (min (lenE (getX (px y) R)) n * z)).all oneE=true:=by
   rw [List.all_eq_true] at hy1 ⊢
   intro e h
   exact hy1 e (List.mem_of_mem_take h)
  obtain ⟨w',e1,e2⟩:=storeCells_run (P:=P) (vs.take (min (lenE (getX (px y) R)) n * z)) (p.base+off) 0 real w r1 (by rw [r2,List.length_take]; omega) (ones_ok htk hone)
  have hrow:=row_fill (P:=P) (g:=γ q) (ty:=ty) r2 r4 r5 htk (o:=off) (by rw [List.length_take]; omega)
  obtain ⟨f1,f2⟩:=hr.write (q:=q) (by show alive (getRow q H)=true; rw [hq]; rfl) hp hrow e2
  rw [← setRow_fun] at f1 f2
  exact ⟨_,w',μ,.inl (run hv e1),rfl,f1,f2,rfl⟩
 ·cases h
theorem xRange_ok (hr:HR P γ μ (fun q=>getRow q H) nx B w) (k:RegOk μ nt R a.tmps) {t kt el:TypeId} (ht:P.underlying t=some (.map kt el)) {x:Operand} {u:Out}
  (h:xRange P kt (px x) call R H nx=some u) {o:Oper} (ho:o.op = .range t x):XRes P γ μ (fun q=>getRow q H) nx B w o a.eval u:=by
 unfold xRange at h
 split at h
 rotate_left
 ·cases h
 rename_i q nx' he hn
 split at h
 rotate_left
 ·cases h
 rename_i es clk hq
 injection h with h
 subst h
 obtain ⟨p,xs,hp,hv,h3,h6⟩:=map_of hr (px_ok k x) he hq
 have hlt:nx.num < nx'.num:=by rw [inc_num hn]; omega
 have hfr:μ nx=none:=hr.fresh nx (Nat.le_refl _)
 have hqn:q≠nx:=by rintro rfl; rw [hfr] at hp; cases hp
 have hrow:rowOk P (γ nx) (upd μ nx (some ⟨w.heap.size,0,1⟩)) ⟨w.heap.size,0,1⟩ (.mapIter (some p.blk) clk #[] clk) (.iter q clk kt) :=
  ⟨rfl,p,by rw [upd_other _ _ hqn]; exact hp,rfl⟩
 have f1:=hr.alloc (i:=nx) (nx':=nx') hfr hrow hlt (Nat.le_of_lt hlt)
 have f2:=(Goes.refl μ (fun q=>getRow q H) nx w).alloc (nx':=nx') hfr (Nat.le_refl _) (.mapIter (some p.blk) clk #[] clk) 1 (.iter q clk kt) (Nat.le_of_lt hlt)
 rw [← setRow_fun] at f1 f2
 refine ⟨.pointer (some ⟨w.heap.size,0,none⟩),_,_,.inl ?_,?_,f1,f2,rfl⟩
 ·have hexec:execOp a.eval o=(do pure (Next.value (← Instr.range t (a.eval x)))):=by
   unfold execOp
   rw [ho]
  rw [hexec]
  refine value_run ?_
  rw [hv]
  unfold Instr.range
  simp [run_underlying ht,getObj_run h3 (by intro _ _ _ h; cases h),newObj]
  rfl
 ·show (upd μ nx _ nx).map _=_
  rw [upd_same]
  rfl
theorem doX_ok (hr:HR P γ μ (fun q=>getRow q H) nx B w) (k:RegOk μ nt R a.tmps) {o:Oper} {u:Out} (hk:kindO (prepO P o.op o.type) = .x) (h:doX P (prepO P o.op o.type) call R H nx=some u) :
  XRes P γ μ (fun q=>getRow q H) nx B w o a.eval u∨∃ c f,o.op = .call c∧c.callee = .value f∧xCall P (px f) (pxs c.args) call R H nx=some u:=by
 obtain ⟨dst,op,type,pos,after,guard⟩:=o
 simp only at hk h
 have m1:∀ x,(#[x]:Array Operand).map a.eval=#[a.eval x]:=by intros; simp
 have m2:∀ x y,(#[x,y]:Array Operand).map a.eval=#[a.eval x,a.eval y]:=by intros; simp
 cases op with
 | range t x =>
   simp only [prepO] at h
   split at h
   ·rename_i kt el ht
    exact .inl (xRange_ok (call:=call) hr k ht h rfl)
   ·cases h
 | store t x y =>
   simp only [prepO] at h
   split at h
   ·rename_i z hz
    exact .inl (xStore_ok (call:=call) hr k hz h rfl)
   ·cases h
 | mapUpdate t m x y =>
   simp only [prepO] at h
   split at h
   ·rename_i kt el ht
    exact .inl (xMup_ok (call:=call) hr k ht h rfl)
   ·cases h
 | insert t m x y =>
   simp only [prepO] at h
   split at h
   ·rename_i kt el ht
    exact .inl (xMup_ok (call:=call) hr k ht h rfl)
   ·cases h
 | mapEntry t m x =>
   simp only [prepO] at h
   split at h
   rotate_left
   ·cases h
   rename_i kt el ht
   split at h
   ·rename_i z hz
    exact .inl (xMent_ok (call:=call) hr k ht hz h rfl)
   ·cases h
 | entryStore t m st x =>
   exact .inl (xEst_ok (call:=call) hr k (t:=t) h rfl)
 | call c =>
   obtain ⟨callee,args,argTypes⟩:=c
   obtain ⟨args⟩:=args
   obtain ⟨argTypes⟩:=argTypes
   cases callee with
   | value f=>exact .inr ⟨_,_,rfl,rfl,h⟩
   | invoke r m=>cases h
   | builtin b =>
     simp only [prepO] at h hk
     split at h
     ·cases h
     ·cases h
     ·(repeat' split at h) <;> cases h
     ·(repeat' split at h) <;> cases h
     ·rename_i s x t t'
      split at h
      ·rename_i el e2 ht ht'
       split at h
       ·rename_i z zs hz
        exact .inl (xApp_ok (call:=call) hr k ht ht' hz h (congrArg (fun l=>(do pure (Next.value (← Builtin.append_ #[t,t'] type l)):Sem Next)) (m2 s x)))
       ·cases h
      ·rename_i el ik ht ht'
       split at h
       ·rename_i z zs hz
        exact .inl (xAppZ_ok (call:=call) hr k ht ht' hz h (congrArg (fun l=>(do pure (Next.value (← Builtin.append_ #[t,t'] type l)):Sem Next)) (m2 s x)))
       ·cases h
      ·cases h
     ·rename_i m x t ts
      split at h
      ·rename_i kt el ht
       exact .inl (xDel_ok (call:=call) hr k (ts:=ts) ht h (congrArg (fun l=>(do pure (Next.value (← Builtin.delete_ (t::ts).toArray type l)):Sem Next)) (m2 m x)))
      ·cases h
     ·rename_i x t ts
      split at h
      ·rename_i el ht
       split at h
       ·rename_i z zs hz
        exact .inl (xClear_ok (call:=call) hr k (ts:=ts) ht hz h (congrArg (fun l=>(do pure (Next.value (← Builtin.clear_ (t::ts).toArray type l)):Sem Next)) (m1 x)))
       ·cases h
      ·cases h
     ·rename_i x y t ts
      split at h
      ·rename_i el ht
       split at h
       ·rename_i z hz
        exact .inl (xCopy_ok (call:=call) hr k (ts:=ts) ht hz h (congrArg (fun l=>(do pure (Next.value (← Builtin.copy_ (t::ts).toArray type l)):Sem Next)) (m2 x y)))
       ·cases h
      ·cases h
     ·cases h
 | build t ps =>
   simp only [prepO] at h
   split at h
   ·split at h
    ·rename_i places hp; cases hq:placesE (fun i=>places[i]?) ps.toList with
     | none=>rw [hq] at h; cases h
     | some q=>rw [hq] at h; cases h
    ·cases h
   ·split at h
    ·rename_i z hz; cases hq:placesE (fun i=>some (i * z,z)) ps.toList with
     | none=>rw [hq] at h; cases h
     | some q=>rw [hq] at h; cases h
    ·cases h
   ·cases h
 | buildSlice t n ps =>
   simp only [prepO] at h
   split at h
   ·split at h
    ·split at h
     ·rename_i el ht z zs hz hn
      cases hq:placesE (fun i=>some (i * z,z)) ps.toList with
      | none=>rw [hq] at h; cases h
      | some q=>rw [hq] at h; cases h
     ·cases h
    ·cases h
   ·cases h
 | makeFunc fn f c=>cases fn <;> cases h
 | makeMap t r=>cases r <;> cases h
 | _=>first
   | (cases h; done)
   | (simp only [prepO] at h; (repeat' split at h) <;> (cases h; done))
end Go.Proofs.YtaihbcmifjmapaaGreat.Ev
namespace Go.Proofs.YtaihbcmifjmapaaGreat.Ev
open Go Go.RowKit
set_option linter.unusedVariables false
variable {P:Program} {γ:Id→List MapEntry} {μ μ':Mu} {G G':Id→Row} {nx nx':Id} {B:Nat} {w w':World} {nt:Nat} {R:Regs} {a:Act} {H:Hp} {call:Caller}
def nextFrame (P:Program):Next→Option Frame
 | .enter f args=>some (Frame.enter P f args .normal)
 | .round l f tmps assign body=>some (Frame.round l f tmps assign body .normal)
 | _=>none
def CallRuns (P:Program) (f:Value) (args:Array Value) (w:World) (v:Value) (w':World):Prop :=
 ∃ n fr w1,(do let d ← Deferred.ofValue f args; invoke d.target d.args:Sem Next).run P w = .ok n w1∧nextFrame P n=some fr∧∀ c cs,Steps P (lone fr (c::cs) w1) (lone (c.finish v) cs w')
def CallOk (P:Program) (B:Nat) (call:Caller):Prop :=
 ∀ γ μ H nx w g es u f vs,call g es H nx=some u→(g = .unk∨iv μ g=some f)→ivs μ es=some vs→HR P γ μ (fun q=>getRow q H) nx B w →
  ∃ v w' μ',CallRuns P f vs.toArray w v w'∧iv μ' u.e=some v∧HR P γ μ' (fun q=>getRow q u.H) u.nx B w'∧Goes μ (fun q=>getRow q H) nx w μ' (fun q=>getRow q u.H) u.nx w'∧u.st=none
def OpRun (P:Program) (o:Oper) (a:Act) (w:World) (v:Value) (w':World):Prop :=
 (execOp a.eval o).run P w = .ok (.value v) w'∨((execOp a.eval o).run P w = .ok .skip w'∧v=undef)∨∃ c f,o.op = .call c∧c.callee = .value f∧CallRuns P (a.eval f) (c.args.map a.eval) w v w'
theorem not_defer {o:Oper} {ρ:Operand→Value} {w w':World} {n:Next} (h:(execOp ρ o).run P w = .ok n w') (hn:∀ d,n ≠ .defer d):∀ c,o.op ≠ .defer c:=by
 intro c hc
 unfold execOp at h
 rw [hc] at h
 simp only [Sem.run_bind] at h
 cases hr:(resolve ρ c o.type).run P w with
 | ok d w1 =>
   rw [hr] at h
   injection h with h1 h2
   exact hn _ h1.symm
 | halt x w1=>rw [hr] at h; cases h
theorem op_step {ops:Array Oper} {i:Nat} {o:Oper} (ho:ops[i]? = some o) {v:Value} (hr:OpRun P o a w v w') (hw:Region.wanted o (yielded ops a.tmps)=true) (b:Frame) (rest:List Nat) (k:List Item) (cs:List Frame) :
  Steps P (lone (b.atR a (.inRegion ops (i::rest)::k)) cs w) (lone (b.atR (a.put o.dst v) (.inRegion ops rest::k)) cs w'):=by
 have hg:=stepGR_op (P:=P) (b:=b) (k:=k) (cs:=cs) (w:=w) (rest:=rest) ho hw
 have hfin:∀ v,(b.atR a (.inRegion ops (i::rest)::k)).finish v=b.atR (a.put o.dst v) (.inRegion ops rest::k):=by
  intro v; rw [Frame.finish_atR,ho]; rfl
 rcases hr with hr | ⟨hr,rfl⟩ | ⟨c,f,hc,hcf,n,fr,w1,hr,hfr,hs⟩
 ·rw [Oper.semAt_eq _ _ _ (not_defer hr (by intro d h; cases h))] at hg
  refine .one (step_lone_go ?_)
  rw [hg,← hfin]; simp [stepG.apply,hr]
 ·rw [Oper.semAt_eq _ _ _ (not_defer hr (by intro d h; cases h))] at hg
  refine .one (step_lone_go ?_)
  rw [hg,← hfin]; simp [stepG.apply,hr]
 ·have hexec:execOp a.eval o=(do let d ← Deferred.ofValue (a.eval f) (c.args.map a.eval); invoke d.target d.args):=by
   unfold execOp
   rw [hc]
   simp only [resolve,hcf]
  rw [Oper.semAt_eq _ _ _ (by intro c' h; rw [hc] at h; cases h),hexec] at hg
  rw [← hfin]
  refine .head ?_ (hs _ _)
  cases n with
  | enter f' args =>
    injection hfr with hfr
    subst hfr
    exact step_lone_go (by rw [hg]; simp [stepG.apply,hr,Frame.atR])
  | round l f' tmps assign body =>
    injection hfr with hfr
    subst hfr
    exact step_lone_go (by rw [hg]; simp [stepG.apply,hr,Frame.atR])
  | _=>cases hfr
theorem skip_step {ops:Array Oper} {i:Nat} {o:Oper} (ho:ops[i]? = some o) (hw:Region.wanted o (yielded ops a.tmps)=false) (b:Frame) (rest:List Nat) (k:List Item) (cs:List Frame) :
  Steps P (lone (b.atR a (.inRegion ops (i::rest)::k)) cs w) (lone (b.atR (a.put o.dst undef) (.inRegion ops rest::k)) cs w):=by
 have:=stepR_op_skip (P:=P) (b:=b) (a:=a) (k:=k) (cs:=cs) (w:=w) (ops:=ops) (i:=i) (rest:=rest) (by rw [ho]; exact hw)
 rw [ho] at this
 exact .one this
theorem wants_ok (k:RegOk μ nt R a.tmps) {ops:Array Oper} {o:Oper} {b:Bool} (h:wants (pg ops nt o) R=some b):Region.wanted o (yielded ops a.tmps)=b:=by
 unfold pg at h
 unfold Region.wanted
 cases hg:o.guard with
 | none =>
   rw [hg] at h
   injection h with h
 | some jw =>
   obtain ⟨j,want⟩:=jw
   rw [hg] at h
   simp only [] at h ⊢
   unfold yielded
   cases hd:(ops[j]?).bind (·.dst) with
   | none=>rw [hd] at h; cases h
   | some t =>
     rw [hd] at h
     simp only [] at h
     have c1:t < nt:=by
      by_cases h1:t < nt
      ·exact h1
      ·have e1:Nat.ble (Nat.succ t) nt=false:=by
        cases hb:Nat.ble (Nat.succ t) nt with
        | false=>rfl
        | true=>exact absurd (Nat.le_of_ble_eq_true hb) h1
       rw [e1] at h; cases h
     have e1:Nat.ble (Nat.succ t) nt=true:=Nat.ble_eq_true_of_le c1
     rw [e1] at h
     have c2:t < 256:=by
      by_cases h1:t < 256
      ·exact h1
      ·have e2:Nat.ble t 255=false:=by
        cases hb:Nat.ble t 255 with
        | false=>rfl
        | true=>exact absurd (Nat.lt_succ_of_le (Nat.le_of_ble_eq_true hb)) h1
       rw [e2] at h; cases h
     have e2:Nat.ble t 255=true:=Nat.ble_eq_true_of_le (Nat.le_of_lt_succ c2)
     rw [e2] at h
     have hm:mkG want (gE1 (toD (t % 16))) (gE2 (toD (t / 16))) = .at (fun R=>regAt t R) want:=by
      rw [gE1_eq,gE2_eq]; rfl
     replace h:wants (mkG want (gE1 (toD (t % 16))) (gE2 (toD (t / 16)))) R=some b:=h
     rw [hm] at h
     replace h:wantV want (regAt t R)=some b:=h
     unfold wantV at h
     rcases k.2 t c2 with hu | ⟨v,hv,hi⟩
     ·rw [hu] at h; cases h
     ·simp only [Option.bind_some,hv]
      generalize regAt t R=e at h hi
      cases e <;> first
       | (cases hi; done)
       | (rename_i x
          injection hi with hi
          subst hi
          replace h:wantB want x=some b:=h
          cases want <;> cases x <;> injection h with h <;> subst h <;> rfl)
       | (replace h:some false=some b:=h
          injection h with h
          subst h
          have:∀ x,v ≠ .bool x:=by
           intro x hx
           subst hx
           simp only [iv,Option.map_eq_some_iff,Option.bind_eq_some_iff,slV,empV] at hi
           first
            | (obtain ⟨_,_,hi⟩:=hi; first | (cases hi; done) | (split at hi <;> first | (cases hi; done) | (injection hi with hi; split at hi <;> cases hi)))
            | (split at hi <;> cases hi)
            | cases hi
          cases v <;> first | rfl | exact absurd rfl (this _))
theorem runs_p (k:RegOk μ nt R a.tmps) {o:Oper} {e:EV} (hk:kindO (prepO P o.op o.type) = .p) (h:doP P (prepO P o.op o.type) R=some e) (w:World):∃ v,KV μ e v∧OpRun P o a w v w:=by
 obtain ⟨v,h1,h2⟩:=doP_ok k hk h
 exact ⟨v,h1,.inl (h2 w)⟩
theorem runs_r (hr:HR P γ μ G nx B w) (k:RegOk μ nt R a.tmps) {o:Oper} {e:EV} (hk:kindO (prepO P o.op o.type) = .r)
  (h:rdV P (prepO P o.op o.type) (getX (rdX (prepO P o.op o.type)) R) (getX (rdX2 (prepO P o.op o.type)) R) G=some e):∃ v,KV μ e v∧OpRun P o a w v w:=by
 obtain ⟨v,h1,h2⟩:=rdV_ok hr k hk h
 exact ⟨v,.inr h1,.inl h2⟩
theorem runs_a (hr:HR P γ μ (fun q=>getRow q H) nx B w) (k:RegOk μ nt R a.tmps) {o:Oper} {i:Id} {e:EV} {row:Row} (hi:μ i=none) (h:mkA (prepO P o.op o.type) i R = .at e row) (h1:i.num < nx'.num) (h2:nx.num≤nx'.num) :
  ∃ v ob tot,OpRun P o a w v (w.alloc ob)∧iv (upd μ i (some ⟨w.heap.size,0,tot⟩)) e=some v∧HR P γ (upd μ i (some ⟨w.heap.size,0,tot⟩)) (fun q=>getRow q (setRow i row H)) nx' B (w.alloc ob) ∧
   ∀ {μ0:Mu} {G0:Id→Row} {nx0:Id} {w0:World},Goes μ0 G0 nx0 w0 μ (fun q=>getRow q H) nx w→nx0.num≤i.num→Goes μ0 G0 nx0 w0 (upd μ i (some ⟨w.heap.size,0,tot⟩)) (fun q=>getRow q (setRow i row H)) nx' (w.alloc ob):=by
 obtain ⟨v,ob,tot,e1,e2,e3, -⟩:=mkA_ok k hi h w (γ i)
 refine ⟨v,ob,tot,.inl e1,e2,?_,fun hg h0=>?_⟩
 ·rw [setRow_fun]
  exact hr.alloc hi e3 h1 h2
 ·rw [setRow_fun]
  exact hg.alloc hi h0 ob tot row h2
theorem runs_x (hc:CallOk P B call) (hr:HR P γ μ (fun q=>getRow q H) nx B w) (k:RegOk μ nt R a.tmps) {o:Oper} {u:Out} (hk:kindO (prepO P o.op o.type) = .x) (h:doX P (prepO P o.op o.type) call R H nx=some u) :
  ∃ v w' μ',OpRun P o a w v w'∧iv μ' u.e=some v∧HR P γ μ' (fun q=>getRow q u.H) u.nx B w'∧Goes μ (fun q=>getRow q H) nx w μ' (fun q=>getRow q u.H) u.nx w'∧u.st=none:=by
 rcases doX_ok hr k hk h with ⟨v,w',μ',h1,h2,h3,h4,h5⟩ | ⟨c,f,h1,h2,h3⟩
 ·refine ⟨v,w',μ',?_,h2,h3,h4,h5⟩
  rcases h1 with h1 | h1
  ·exact .inl h1
  ·exact .inr (.inl h1)
 ·unfold xCall at h3
  obtain ⟨h4,h5⟩:=bc_some h3
  obtain ⟨l,e1,rfl⟩:=getXs_ok k (show (getXs R (c.args.toList.map px)).all known=true from h4)
  obtain ⟨v,w',μ',f1,f2,f3,f4,f5⟩:=hc γ μ H nx w _ _ u _ _ h5 (px_ok k f) e1 hr
  refine ⟨v,w',μ',.inr (.inr ⟨c,f,h1,h2,?_⟩),f2,f3,f4,f5⟩
  have:(c.args.toList.map a.eval).toArray=c.args.map a.eval:=by
   apply Array.ext'
   simp
  rw [this] at f1
  exact f1
structure Made (P:Program) (ops:Array Oper) (nt:Nat) (o:Oper) (p:PR):Prop where
 k:p.k=kindO (prepO P o.op o.type)
 po:p.po=prepO P o.op o.type
 d:p.d=pd nt o.dst
 g:p.g=pg ops nt o
def Moves (P:Program) (ops:Array Oper) (l:List Nat) (a:Act) (w:World) (l':List Nat) (a':Act) (w':World):Prop :=
 a'.defers=a.defers∧∀ (b:Frame) (k:List Item) (cs:List Frame),Steps P (lone (b.atR a (.inRegion ops l::k)) cs w) (lone (b.atR a' (.inRegion ops l'::k)) cs w')
theorem put_defers (a:Act) (d:Option Tmp) (v:Value):(a.put d v).defers=a.defers:=by cases d <;> rfl
theorem Moves.trans {ops:Array Oper} {l l' l2:List Nat} {a' a2:Act} {w2:World} (h:Moves P ops l a w l' a' w') (k:Moves P ops l' a' w' l2 a2 w2):Moves P ops l a w l2 a2 w2 :=
 ⟨k.1.trans h.1,fun b kk cs=>(h.2 b kk cs).trans (k.2 b kk cs)⟩
theorem Moves.op {ops:Array Oper} {i:Nat} {o:Oper} (ho:ops[i]? = some o) {v:Value} (hr:OpRun P o a w v w') (hw:Region.wanted o (yielded ops a.tmps)=true) (rest:List Nat):Moves P ops (i::rest) a w rest (a.put o.dst v) w' :=
 ⟨put_defers _ _ _,fun b k cs=>op_step ho hr hw b rest k cs⟩
theorem Moves.skip {ops:Array Oper} {i:Nat} {o:Oper} (ho:ops[i]? = some o) (hw:Region.wanted o (yielded ops a.tmps)=false) (rest:List Nat):Moves P ops (i::rest) a w rest (a.put o.dst undef) w :=
 ⟨put_defers _ _ _,fun b k cs=>skip_step ho hw b rest k cs⟩
theorem undef_ok (μ:Mu):iv μ undefE=some undef:=rfl
theorem stepP_ok (hc:CallOk P B call) (hr:HR P γ μ (fun q=>getRow q H) nx B w) (k:RegOk μ nt R a.tmps) {ops:Array Oper} {i:Nat} {o:Oper} (ho:ops[i]? = some o) {p:PR} (m:Made P ops nt o p) {kk:Cont} {u:Out} (h:stepP P call p R H nx kk=some u) :
  ∃ R' H' nx' a' w' μ',kk R' H' nx'=some u∧RegOk μ' nt R' a'.tmps∧HR P γ μ' (fun q=>getRow q H') nx' B w'∧Goes μ (fun q=>getRow q H) nx w μ' (fun q=>getRow q H') nx' w'∧∀ rest,Moves P ops (i::rest) a w rest a' w':=by
 obtain ⟨kd,po,d,g,me,rank,hide,logd,again⟩:=p
 obtain ⟨m1,m2,m3,m4⟩:=m
 simp only at m1 m2 m3 m4
 subst m2 m3 m4
 unfold stepP kG at h
 cases hw:wants (pg ops nt o) R with
 | none=>simp only [hw] at h; cases h
 | some b =>
   simp only [hw] at h
   have hwant:=wants_ok k hw
   cases b with
   | false =>
     exact ⟨_,_,_,a.put o.dst undef,w,μ,h,k.put o.dst (.inr (undef_ok μ)),hr,Goes.refl _ _ _ _,fun rest=>Moves.skip ho hwant rest⟩
   | true =>
     simp only [] at h
     unfold runP at h
     simp only [] at h
     cases kd with
     | p =>
       replace h:kP (doP P (prepO P o.op o.type)) (putR (pd nt o.dst)) call R H nx kk=some u:=h
       unfold kP at h
       cases he:doP P (prepO P o.op o.type) R with
       | none=>simp only [he] at h; cases h
       | some e =>
         simp only [he] at h
         obtain ⟨v,h1,h2⟩:=runs_p k m1.symm he w
         exact ⟨_,_,_,a.put o.dst v,w,μ,h,k.put o.dst h1,hr,Goes.refl _ _ _ _,fun rest=>Moves.op ho h2 hwant rest⟩
     | r =>
       replace h:kR (rdV P (prepO P o.op o.type)) (getX (rdX (prepO P o.op o.type))) (getX (rdX2 (prepO P o.op o.type))) (putR (pd nt o.dst)) call R H nx kk=some u:=h
       unfold kR at h
       cases he:rdV P (prepO P o.op o.type) (getX (rdX (prepO P o.op o.type)) R) (getX (rdX2 (prepO P o.op o.type)) R) fun q=>getRow q H with
       | none=>simp only [he] at h; cases h
       | some e =>
         simp only [he] at h
         obtain ⟨v,h1,h2⟩:=runs_r hr k m1.symm he
         exact ⟨_,_,_,a.put o.dst v,w,μ,h,k.put o.dst h1,hr,Goes.refl _ _ _ _,fun rest=>Moves.op ho h2 hwant rest⟩
     | a =>
       replace h:kA (mkA (prepO P o.op o.type)) (putR (pd nt o.dst)) call R H nx kk=some u:=h
       unfold kA at h
       cases he:mkA (prepO P o.op o.type) nx R with
       | no=>simp only [he] at h; cases h
       | «at» e row =>
         simp only [he] at h
         cases hn:inc nx with
         | none=>simp only [hn] at h; cases h
         | some nx' =>
           simp only [hn] at h
           have hlt:nx.num < nx'.num:=by rw [inc_num hn]; omega
           have hfr:μ nx=none:=hr.fresh nx (Nat.le_refl _)
           obtain ⟨v,ob,tot,h1,h2,h3,h4⟩:=runs_a hr k hfr he hlt (Nat.le_of_lt hlt)
           exact ⟨_,_,_,a.put o.dst v,_,_,h,(k.mono (le_upd hfr _)).put o.dst (.inr h2),h3,h4 (Goes.refl _ _ _ _) (Nat.le_refl _),fun rest=>Moves.op ho h1 hwant rest⟩
     | x =>
       replace h:kX (doX P (prepO P o.op o.type)) (putR (pd nt o.dst)) call R H nx kk=some u:=h
       unfold kX at h
       cases he:doX P (prepO P o.op o.type) call R H nx with
       | none=>simp only [he] at h; cases h
       | some r =>
         simp only [he] at h
         obtain ⟨v,w',μ',h1,h2,h3,h4,h5⟩:=runs_x hc hr k m1.symm he
         simp only [h5] at h
         exact ⟨_,_,_,a.put o.dst v,w',μ',h,(k.mono h4.le).put o.dst (.inr h2),h3,h4,fun rest=>Moves.op ho h1 hwant rest⟩
theorem made_prep (P:Program) (ops:Array Oper) (nt:Nat) (o:Oper):Made P ops nt o (prep P ops nt o):=⟨rfl,rfl,rfl,rfl⟩
theorem evL_ok (hc:CallOk P B call) {ops:Array Oper}:∀ {l:List Oper} {i:Nat},(∀ j,ops[i+j]? = l[j]?)→∀ {μ:Mu} {H:Hp} {nx:Id} {w:World} {R:Regs} {a:Act},HR P γ μ (fun q=>getRow q H) nx B w→RegOk μ nt R a.tmps →
  ∀ {kk:Cont} {u:Out},evL call (prepL P ops nt l) R H nx kk=some u →
  ∃ R' H' nx' a' w' μ',kk R' H' nx'=some u∧RegOk μ' nt R' a'.tmps∧HR P γ μ' (fun q=>getRow q H') nx' B w'∧Goes μ (fun q=>getRow q H) nx w μ' (fun q=>getRow q H') nx' w'∧Moves P ops (List.range' i l.length) a w [] a' w'
 | [],i,hl,μ,H,nx,w,R,a,hr,k,kk,u,h=>⟨R,H,nx,a,w,μ,h,k,hr,Goes.refl _ _ _ _,rfl,fun _ _ _ => .refl _ _⟩
 | o::l,i,hl,μ,H,nx,w,R,a,hr,k,kk,u,h=>by
   have ho:ops[i]? = some o:=hl 0
   obtain ⟨f,hf1,hf2⟩:=comp_eq P (prep P ops nt o)
   have h':f call R H nx (fun R H nx=>evL call (prepL P ops nt l) R H nx kk)=some u:=by
    have:evL call (prepL P ops nt (o::l)) R H nx kk=FS.rec (motive:=fun _=>Regs→Hp→Id→Cont→Option Out) (fun f R H nx k=>f call R H nx fun R H nx=>evL call (prepL P ops nt l) R H nx k) (comp P (prep P ops nt o)) R H nx kk:=rfl
    rw [this,hf1] at h
    exact h
   rw [hf2] at h'
   obtain ⟨R1,H1,nx1,a1,w1,μ1,e1,e2,e3,e4,e5⟩:=stepP_ok hc hr k ho (made_prep P ops nt o) h'
   obtain ⟨R2,H2,nx2,a2,w2,μ2,f1,f2,f3,f4,f5⟩:=evL_ok hc (ops:=ops) (l:=l) (i:=i+1) (fun j=>by have:=hl (j+1); rw [show i+(j+1)=i+1+j by omega] at this; exact this) e3 e2 e1
   exact ⟨R2,H2,nx2,a2,w2,μ2,f1,f2,f3,e4.trans f4,(e5 _).trans f5⟩
end Go.Proofs.YtaihbcmifjmapaaGreat.Ev
namespace Go.Proofs.YtaihbcmifjmapaaGreat.Ev
open Go Go.RowKit
set_option linter.unusedVariables false
variable {P:Program} {R R':Regs}
def usesO:Option PX→List PX
 | some x=>[x]
 | none=>[]
def uses:PO→List PX
 | .mov x | .un _ x | .conv _ _ x | .nilc x | .faddr _ x | .fld _ _ _ x | .idxStr _ x | .extr _ x | .load _ _ x | .lenS x | .lenM x | .capS x | .entry x | .box _ x | .range _ x | .clear _ _ x=>[x]
 | .pick c a b=>[c,a,b]
 | .bin _ _ _ _ x y | .iaddrS _ x y | .iaddrA _ _ x y | .idxA _ _ _ x y | .look _ _ _ x y | .mkSl _ _ _ x y | .store _ x y | .app _ _ x y | .appZ _ _ _ x y | .ment _ _ x y | .del _ x y | .copy _ x y | .slA _ _ _ y x=>[x,y]
 | .mup _ x y z | .est x y z=>[x,y,z]
 | .build _ ps | .mkS _ _ _ _ ps=>ps.map (·.2.2)
 | .mkfn _ a b=>a++b
 | .slS _ x lo hi mx=>[x]++usesO lo++usesO hi++usesO mx
 | .mm _ _ _ xs=>xs
 | .call f args=>f::args
 | .alloc _ _ _ | .mkMap | .bad=>[]
theorem getXs_same:∀ {l:List PX},(∀ x∈l,getX x R=getX x R')→getXs R l=getXs R' l
 | [],_=>rfl
 | x::l,h=>by
   simp only [getXs]
   rw [h x (by simp),getXs_same (fun y hy=>h y (by simp [hy]))]
theorem fillE_same:∀ {l:List (Nat×Nat×PX)} {cs:List EV},(∀ x∈l.map (·.2.2),getX x R=getX x R')→fillE R l cs=fillE R' l cs
 | [],_,_=>rfl
 | (o,z,x)::l,cs,h=>by
   simp only [fillE]
   rw [h x (by simp)]
   split
   ·exact fillE_same (fun y hy=>h y (by simp only [List.map_cons,List.mem_cons]; exact .inr hy))
   ·rfl
theorem fillP_same:∀ {l:List (Nat×Nat×PX)} {n:Nat} {c:Cs},(∀ x∈l.map (·.2.2),getX x R=getX x R')→fillP R l n c=fillP R' l n c
 | [],_,_,_=>rfl
 | (o,z,x)::l,n,c,h=>by
   simp only [fillP]
   rw [h x (by simp)]
   split
   ·exact fillP_same (fun y hy=>h y (by simp only [List.map_cons,List.mem_cons]; exact .inr hy))
   ·rfl
theorem optN_same {o:Option PX} (h:∀ x∈usesO o,getX x R=getX x R'):optN R o=optN R' o:=by
 cases o with
 | none=>rfl
 | some x=>simp only [optN]; rw [h x (by simp [usesO])]
theorem doP_same {po:PO} (h:∀ x∈uses po,getX x R=getX x R'):doP P po R=doP P po R':=by
 cases po with
 | mov x=>show pMov _ _=pMov _ _; unfold pMov; rw [h x (by simp [uses])]
 | pick c a b=>show pPick _ _ _ _=pPick _ _ _ _; unfold pPick; rw [h c (by simp [uses]),h a (by simp [uses]),h b (by simp [uses])]
 | bin b t ox oy x y=>show pBin P _ _ _ _ _ _ _=pBin P _ _ _ _ _ _ _; unfold pBin; rw [h x (by simp [uses]),h y (by simp [uses])]
 | un u x=>show pUn P _ _ _=pUn P _ _ _; unfold pUn; rw [h x (by simp [uses])]
 | conv a b x=>show pConv P _ _ _ _=pConv P _ _ _ _; unfold pConv; rw [h x (by simp [uses])]
 | build zs ps=>show pBuild _ _ _=pBuild _ _ _; unfold pBuild; rw [fillE_same h]
 | nilc x=>show pNilc _ _=pNilc _ _; unfold pNilc; rw [h x (by simp [uses])]
 | mkfn f a b=>show pMkfn _ _ _ _=pMkfn _ _ _ _; unfold pMkfn; rw [getXs_same (l:=a) (fun x hx=>h x (by simp [uses,hx])),getXs_same (l:=b) (fun x hx=>h x (by simp [uses,hx]))]
 | faddr off x=>show pFaddr _ _ _=pFaddr _ _ _; unfold pFaddr; rw [h x (by simp [uses])]
 | fld g o z x=>show pFld _ _ _ _ _=pFld _ _ _ _ _; unfold pFld; rw [h x (by simp [uses])]
 | iaddrS z x y=>show pIaddrS _ _ _ _=pIaddrS _ _ _ _; unfold pIaddrS; rw [h x (by simp [uses]),h y (by simp [uses])]
 | iaddrA n z x y=>show pIaddrA _ _ _ _ _=pIaddrA _ _ _ _ _; unfold pIaddrA; rw [h x (by simp [uses]),h y (by simp [uses])]
 | idxA g n z x y=>show pIdxA _ _ _ _ _ _=pIdxA _ _ _ _ _ _; unfold pIdxA; rw [h x (by simp [uses]),h y (by simp [uses])]
 | idxStr s x=>show pIdxStr _ _ _=pIdxStr _ _ _; unfold pIdxStr; rw [h x (by simp [uses])]
 | extr i x=>show pExtr _ _ _=pExtr _ _ _; unfold pExtr; rw [h x (by simp [uses])]
 | slS z x lo hi mx =>
   show pSlS _ _ _ _ _ _=pSlS _ _ _ _ _ _
   unfold pSlS
   rw [h x (by simp [uses]),optN_same (o:=lo) (fun y hy=>h y (by simp [uses,hy])),optN_same (o:=hi) (fun y hy=>h y (by simp [uses,hy])),optN_same (o:=mx) (fun y hy=>h y (by simp [uses,hy]))]
 | mm b ts ty xs=>show pMm P _ _ _ _ _=pMm P _ _ _ _ _; unfold pMm; rw [getXs_same (l:=xs) h]
 | _=>rfl
theorem rdX_same {po:PO} (h:∀ x∈uses po,getX x R=getX x R'):getX (rdX po) R=getX (rdX po) R':=by
 cases po <;> first | rfl | exact h _ (by simp [uses,rdX])
theorem rdX2_same {po:PO} (h:∀ x∈uses po,getX x R=getX x R'):getX (rdX2 po) R=getX (rdX2 po) R':=by
 cases po <;> first | rfl | exact h _ (by simp [uses,rdX2])
theorem mkA_same {po:PO} (h:∀ x∈uses po,getX x R=getX x R') (i:Id):mkA po i R=mkA po i R':=by
 cases po with
 | box t x=>show mBox _ _ _ _=mBox _ _ _ _; unfold mBox; rw [h x (by simp [uses])]
 | mkS el z c n ps=>show mMkS _ _ _ _ _ _ _=mMkS _ _ _ _ _ _ _; unfold mMkS; rw [fillP_same h]
 | mkSl el z zs l c=>show mMkSl _ _ _ _ _ _ _=mMkSl _ _ _ _ _ _ _; unfold mMkSl; rw [h l (by simp [uses]),h c (by simp [uses])]
 | _=>rfl
theorem doX_same {po:PO} (h:∀ x∈uses po,getX x R=getX x R') (call:Caller) (H:Hp) (nx:Id):doX P po call R H nx=doX P po call R' H nx:=by
 cases po with
 | range t x=>have e:∀ R,doX P (.range t x) call R H nx=xRange P t x call R H nx:=fun _=>rfl; rw [e,e]; unfold xRange; rw [h x (by simp [uses])]
 | store z x y=>have e:∀ R,doX P (.store z x y) call R H nx=xStore P z x y call R H nx:=fun _=>rfl; rw [e,e]; unfold xStore; rw [h x (by simp [uses]),h y (by simp [uses])]
 | app el z x y=>have e:∀ R,doX P (.app el z x y) call R H nx=xApp P el z x y call R H nx:=fun _=>rfl; rw [e,e]; unfold xApp; rw [h x (by simp [uses]),h y (by simp [uses])]
 | appZ el z zs x y=>have e:∀ R,doX P (.appZ el z zs x y) call R H nx=xAppZ P el z zs x y call R H nx:=fun _=>rfl; rw [e,e]; unfold xAppZ; rw [h x (by simp [uses]),h y (by simp [uses])]
 | mup t x y z=>have e:∀ R,doX P (.mup t x y z) call R H nx=xMup P t x y z call R H nx:=fun _=>rfl; rw [e,e]; unfold xMup; rw [h x (by simp [uses]),h y (by simp [uses]),h z (by simp [uses])]
 | ment t zero x y=>have e:∀ R,doX P (.ment t zero x y) call R H nx=xMent P t zero x y call R H nx:=fun _=>rfl; rw [e,e]; unfold xMent; rw [h x (by simp [uses]),h y (by simp [uses])]
 | est x y z=>have e:∀ R,doX P (.est x y z) call R H nx=xEst P x y z call R H nx:=fun _=>rfl; rw [e,e]; unfold xEst; rw [h x (by simp [uses]),h y (by simp [uses]),h z (by simp [uses])]
 | del t x y=>have e:∀ R,doX P (.del t x y) call R H nx=xDel P t x y call R H nx:=fun _=>rfl; rw [e,e]; unfold xDel; rw [h x (by simp [uses]),h y (by simp [uses])]
 | clear z zs x=>have e:∀ R,doX P (.clear z zs x) call R H nx=xClear P z zs x call R H nx:=fun _=>rfl; rw [e,e]; unfold xClear; rw [h x (by simp [uses])]
 | copy z x y=>have e:∀ R,doX P (.copy z x y) call R H nx=xCopy P z x y call R H nx:=fun _=>rfl; rw [e,e]; unfold xCopy; rw [h x (by simp [uses]),h y (by simp [uses])]
 | call f args=>have e:∀ R,doX P (.call f args) call R H nx=xCall P f args call R H nx:=fun _=>rfl; rw [e,e]; unfold xCall; rw [h f (by simp [uses]),getXs_same (l:=args) (fun x hx=>h x (by simp [uses,hx]))]
 | _=>rfl
theorem places_uses {place:Nat→Option (Nat×Nat)}:∀ {ps:List (Nat×Operand)} {qs:List (Nat×Nat×PX)},placesE place ps=some qs→∀ x∈qs.map (·.2.2),∃ y∈ps.map (·.2),x=px y
 | [],qs,h,x,hx=>by injection h with h; subst h; cases hx
 | (i,y)::ps,qs,h,x,hx=>by
   simp only [placesE] at h
   cases h1:place i with
   | none=>rw [h1] at h; cases h
   | some oz =>
     obtain ⟨o,z⟩:=oz
     cases h2:placesE place ps with
     | none=>rw [h1,h2] at h; cases h
     | some qs' =>
       rw [h1,h2] at h
       injection h with h
       subst h
       simp only [List.map_cons,List.mem_cons] at hx ⊢
       rcases hx with rfl | hx
       ·exact ⟨y,.inl rfl,rfl⟩
       ·obtain ⟨y',h3,h4⟩:=places_uses h2 x hx
        exact ⟨y',.inr h3,h4⟩
theorem optP_uses {o:Option Operand} {x:PX} (h:x∈usesO (optP o)):∃ y∈o.toList,x=px y:=by
 cases o with
 | none=>cases h
 | some y=>simp only [optP,usesO,List.mem_singleton] at h; exact ⟨y,by simp,h⟩
theorem pxs_uses {l:Array Operand} {x:PX} (h:x∈pxs l):∃ y∈l.toList,x=px y:=by
 obtain ⟨y,h1,h2⟩:=List.mem_map.1 (show x∈l.toList.map px from h)
 exact ⟨y,h1,h2.symm⟩
theorem uses_prepO {op:Op} {ty:TypeId} {x:PX} (h:x∈uses (prepO P op ty)):(∃ y∈op.operands.toList,x=px y)∨∃ e,x = .con e:=by
 have bad:∀ {x:PX},x∈uses .bad→False:=fun h=>by cases h
 cases op with
 | build t ps =>
   simp only [prepO] at h
   split at h
   ·split at h
    ·rename_i places hp
     cases hq:placesE (fun i=>places[i]?) ps.toList with
     | none=>rw [hq] at h; cases h
     | some q =>
       rw [hq] at h
       obtain ⟨y,h1,h2⟩:=places_uses hq x h
       exact .inl ⟨y,by simpa [Op.operands] using h1,h2⟩
    ·cases h
   ·split at h
    ·rename_i z hz
     cases hq:placesE (fun i=>some (i * z,z)) ps.toList with
     | none=>rw [hq] at h; cases h
     | some q =>
       rw [hq] at h
       obtain ⟨y,h1,h2⟩:=places_uses hq x h
       exact .inl ⟨y,by simpa [Op.operands] using h1,h2⟩
    ·cases h
   ·cases h
 | buildSlice t n ps =>
   simp only [prepO] at h
   split at h
   ·split at h
    ·split at h
     ·rename_i el ht z zs hz hn
      cases hq:placesE (fun i=>some (i * z,z)) ps.toList with
      | none=>rw [hq] at h; cases h
      | some q =>
        rw [hq] at h
        obtain ⟨y,h1,h2⟩:=places_uses hq x h
        exact .inl ⟨y,by simpa [Op.operands] using h1,h2⟩
     ·cases h
    ·cases h
   ·cases h
 | makeFunc fn f c =>
   cases fn with
   | func fid =>
     simp only [prepO,uses,List.mem_append] at h
     rcases h with h | h
     ·obtain ⟨y,h1,h2⟩:=pxs_uses h; exact .inl ⟨y,by simp only [Op.operands,Array.toList_append,List.mem_append]; exact .inl h1,h2⟩
     ·obtain ⟨y,h1,h2⟩:=pxs_uses h; exact .inl ⟨y,by simp only [Op.operands,Array.toList_append,List.mem_append]; exact .inr h1,h2⟩
   | _=>cases h
 | makeMap t r=>cases r <;> cases h
 | slice t y lo hi mx =>
   simp only [prepO] at h
   split at h
   ·split at h
    ·split at h
     ·cases h
     ·simp only [uses,List.mem_append,List.mem_singleton] at h
      rcases h with ((h | h) | h) | h
      ·exact .inl ⟨y,by simp [Op.operands],h⟩
      ·obtain ⟨y,h1,h2⟩:=optP_uses h; exact .inl ⟨y,by simp only [Option.mem_toList] at h1; simp [Op.operands,h1],h2⟩
      ·obtain ⟨y,h1,h2⟩:=optP_uses h; exact .inl ⟨y,by simp only [Option.mem_toList] at h1; simp [Op.operands,h1],h2⟩
      ·obtain ⟨y,h1,h2⟩:=optP_uses h; exact .inl ⟨y,by simp only [Option.mem_toList] at h1; simp [Op.operands,h1],h2⟩
    ·cases h
   ·split at h
    ·simp only [uses,List.mem_cons,List.not_mem_nil,or_false] at h
     rcases h with h | h
     ·exact .inl ⟨y,by simp [Op.operands],h⟩
     ·cases hi with
      | none=>exact .inr ⟨_,h⟩
      | some y'=>exact .inl ⟨y',by simp [Op.operands],h⟩
    ·cases h
   ·cases h
 | call c =>
   obtain ⟨callee,args,argTypes⟩:=c
   cases callee with
   | value f =>
     simp only [prepO,uses,List.mem_cons] at h
     rcases h with h | h
     ·exact .inl ⟨f,by simp [Op.operands,Call.operands],h⟩
     ·obtain ⟨y,h1,h2⟩:=pxs_uses h; exact .inl ⟨y,by simp [Op.operands,Call.operands]; simp at h1; first | exact .inr h1 | exact .inl h1,h2⟩
   | invoke r m=>cases h
   | builtin b =>
     have goal:∀ {l:List Operand},args.toList=l→(∃ y∈l,x=px y)→∃ y∈(Op.call ⟨.builtin b,args,argTypes⟩).operands.toList,x=px y:=by
      rintro l rfl ⟨y,h1,h2⟩
      exact ⟨y,by simpa [Op.operands,Call.operands] using h1,h2⟩
     simp only [prepO] at h
     split at h
     ·exact .inl (goal rfl (pxs_uses h))
     ·exact .inl (goal rfl (pxs_uses h))
     all_goals
      rename_i h1 h2
      first
       | (refine .inl (goal h1 ?_)
          (repeat' split at h) <;> first | (cases h; done) | (simp only [uses,List.mem_cons,List.not_mem_nil,or_false] at h; rcases h with h | h <;> exact ⟨_,by simp,h⟩) | (simp only [uses,List.mem_cons,List.not_mem_nil,or_false] at h; exact ⟨_,by simp,h⟩))
       | (cases h; done)
 | _=>first
   | (cases h; done)
   | (simp only [prepO,uses,List.mem_cons,List.not_mem_nil,or_false] at h
      first
       | exact .inl ⟨_,by simp [Op.operands],h⟩
       | (rcases h with h | h <;> exact .inl ⟨_,by simp [Op.operands],h⟩)
       | (rcases h with h | h | h <;> exact .inl ⟨_,by simp [Op.operands],h⟩))
   | (simp only [prepO] at h
      (repeat' split at h) <;> first
       | (cases h; done)
       | (simp only [uses,List.mem_cons,List.not_mem_nil,or_false] at h
          first
           | exact .inl ⟨_,by simp [Op.operands],h⟩
           | (rcases h with h | h <;> exact .inl ⟨_,by simp [Op.operands],h⟩)
           | (rcases h with h | h | h <;> exact .inl ⟨_,by simp [Op.operands],h⟩)))
end Go.Proofs.YtaihbcmifjmapaaGreat.Ev
namespace Go.Proofs.YtaihbcmifjmapaaGreat.Ev
open Go Go.RowKit
set_option linter.unusedVariables false
variable {P:Program} {nt:Nat} {R R':Regs} {call:Caller} {nx0:Id}
theorem getX_tmp (t:Nat) (R:Regs):getX (px (.tmp t)) R=if t < 256 then regAt t R else .unk:=by
 show getX (bc (Nat.ble t 255) (mkReg (gE1 (toD (t % 16))) (gE2 (toD (t / 16)))) (.con .unk)) R=_
 by_cases h2:t < 256
 ·have e2:Nat.ble t 255=true:=Nat.ble_eq_true_of_le (Nat.le_of_lt_succ h2)
  rw [e2,if_pos h2]
  show getX (mkReg (gE1 (toD (t % 16))) (gE2 (toD (t / 16)))) R=_
  rw [mkReg_eq]
  exact getR_eq _ _ _
 ·have e2:Nat.ble t 255=false:=by
   cases hb:Nat.ble t 255 with
   | false=>rfl
   | true=>exact absurd (Nat.lt_succ_of_le (Nat.le_of_ble_eq_true hb)) h2
  rw [e2,if_neg h2]
  rfl
theorem regAt_put {t:Nat} (ht:t < 256) (d:Option Tmp) (hd:d≠some t) (e:EV) (R:Regs):regAt t (putR (pd nt d) e R)=regAt t R:=by
 cases d with
 | none=>rfl
 | some s =>
   show regAt t (putR (pdT nt s) e R)=_
   rcases pdT_cases nt s with ⟨h1,h2,h3⟩ | ⟨h1,h3⟩
   ·rw [h3,putR_at,regAt_set ht h2,if_neg]
    rintro rfl
    exact hd rfl
   ·rw [h3]; rfl
theorem getX_put (x:Operand) (d:Option Tmp) (hd:∀ t,x = .tmp t→d≠some t) (e:EV) (R:Regs):getX (px x) (putR (pd nt d) e R)=getX (px x) R:=by
 cases x with
 | tmp t =>
   rw [getX_tmp,getX_tmp]
   split
   ·rename_i h; exact regAt_put h d (hd t rfl) e R
   ·rfl
 | const v=>rfl
 | global g=>rfl
 | func f=>rfl
theorem put_comm (d1 d2:Option Tmp) (h:∀ t,d1=some t→d2≠some t) (e1 e2:EV) (R:Regs):putR (pd nt d1) e1 (putR (pd nt d2) e2 R)=putR (pd nt d2) e2 (putR (pd nt d1) e1 R):=by
 cases d1 with
 | none=>rfl
 | some s =>
   cases d2 with
   | none=>rfl
   | some t =>
     show putR (pdT nt s) e1 (putR (pdT nt t) e2 R)=putR (pdT nt t) e2 (putR (pdT nt s) e1 R)
     rcases pdT_cases nt s with ⟨h1,h2,h3⟩ | ⟨h1,h3⟩
     ·rcases pdT_cases nt t with ⟨g1,g2,g3⟩ | ⟨g1,g3⟩
      ·rw [h3,g3]
       simp only [putR_at,setR_eq]
       refine set2_comm _ _ _ _ _ _ _ ?_
       rintro ⟨a,b⟩
       have:=digits h2 g2 a b
       subst this
       exact h s rfl rfl
      ·rw [g3]; rfl
     ·rw [h3]; rfl
theorem wants_put {ops:Array Oper} {o:Oper} (d:Option Tmp) (hd:∀ t,d=some t→t∉o.looksAt ops) (e:EV) (R:Regs):wants (pg ops nt o) (putR (pd nt d) e R)=wants (pg ops nt o) R:=by
 unfold pg
 cases hg:o.guard with
 | none=>rfl
 | some jw =>
   obtain ⟨j,want⟩:=jw
   simp only []
   cases hj:(ops[j]?).bind (·.dst) with
   | none=>rfl
   | some t =>
     simp only []
     by_cases c1:Nat.ble (Nat.succ t) nt=true
     ·by_cases c2:Nat.ble t 255=true
      ·rw [c1,c2]
       have hm:mkG want (gE1 (toD (t % 16))) (gE2 (toD (t / 16))) = .at (fun R=>regAt t R) want:=by
        rw [gE1_eq,gE2_eq]; rfl
       show wants (mkG want (gE1 (toD (t % 16))) (gE2 (toD (t / 16)))) _=wants (mkG want (gE1 (toD (t % 16))) (gE2 (toD (t / 16)))) _
       rw [hm]
       show wantV want (regAt t _)=wantV want (regAt t _)
       rw [regAt_put (Nat.lt_succ_of_le (Nat.le_of_ble_eq_true c2))]
       intro hdt
       refine hd t hdt ?_
       unfold Oper.looksAt
       rw [hg]
       simp [hj]
      ·have c2:Nat.ble t 255=false:=Bool.eq_false_iff.2 c2
       rw [c1,c2]; rfl
     ·have c1:Nat.ble (Nat.succ t) nt=false:=Bool.eq_false_iff.2 c1
      rw [c1]; rfl
theorem uses_put {ops:Array Oper} {o:Oper} (d:Option Tmp) (hd:∀ t,d=some t→t∉o.looksAt ops) (e:EV) (R:Regs):∀ x∈uses (prepO P o.op o.type),getX x (putR (pd nt d) e R)=getX x R:=by
 intro x hx
 rcases uses_prepO hx with ⟨y,h1,h2⟩ | ⟨e',h2⟩
 ·subst h2
  refine getX_put y d (fun t ht hdt=>hd t hdt ?_) e R
  subst ht
  unfold Oper.looksAt
  exact List.mem_append_left _ (List.mem_filterMap.2 ⟨_,h1,rfl⟩)
 ·subst h2
  cases d <;> rfl
theorem N16.ext' {β:Type} {t t':N16 β} (h:∀ d,getN d t=getN d t'):t=t':=by
 cases t; cases t'
 have:=h .d0; have:=h .d1; have:=h .d2; have:=h .d3; have:=h .d4; have:=h .d5; have:=h .d6; have:=h .d7
 have:=h .d8; have:=h .d9; have:=h .d10; have:=h .d11; have:=h .d12; have:=h .d13; have:=h .d14; have:=h .d15
 simp_all [getN]
theorem H_ext {H H':Hp} (h:∀ q,getRow q H=getRow q H'):H=H':=by
 refine N16.ext' fun a=>N16.ext' fun b=>N16.ext' fun c=>N16.ext' fun e=>?_
 have:=h ⟨a,b,c,e⟩
 rw [getRow_eq,getRow_eq] at this
 exact this
theorem row_set (q i:Id) (row:Row) (H:Hp):getRow q (setRow i row H)=if q=i then row else getRow q H:=by
 rw [getRow_eq,setRow_eq,getH_setH,getRow_eq]
theorem row_hide (q:Id) (H:Hp):∀ l:List Nat,getRow q (hideE nx0 H l)=if hidden nx0 q l=true then .dead else getRow q H
 | []=>rfl
 | r::l=>by
   unfold hideE hidden
   cases hn:nthId nx0 r with
   | none=>simp only [Bool.false_or]; exact row_hide q H l
   | some i =>
     simp only [Bool.or_eq_true,decide_eq_true_eq]
     rw [row_set,row_hide q H l]
     by_cases h:q=i <;> simp [h]
theorem row_back (q:Id) (H0 H:Hp):∀ l:List Nat,getRow q (backE nx0 H0 H l)=if hidden nx0 q l=true then getRow q H0 else getRow q H
 | []=>rfl
 | r::l=>by
   unfold backE hidden
   cases hn:nthId nx0 r with
   | none=>simp only [Bool.false_or]; exact row_back q H0 H l
   | some i =>
     simp only [Bool.or_eq_true,decide_eq_true_eq]
     rw [row_set,row_back q H0 H l]
     by_cases h:q=i
     ·subst h; simp
     ·simp [h]
theorem vw_eq (H:Hp) (hide:List Nat) (q:Id):vw H nx0 hide q=if hidden nx0 q hide=true then .dead else getRow q H:=by
 cases hide with
 | nil=>rfl
 | cons r l =>
   show cond (hidden nx0 q (r::l)) .dead (getRow q H)=_
   cases hidden nx0 q (r::l) <;> rfl
theorem hidden_of {i:Id} {r:Nat} (hr:nthId nx0 r=some i):∀ {l:List Nat},r∈l→hidden nx0 i l=true
 | s::l,h=>by
   unfold hidden
   rcases List.mem_cons.1 h with rfl | h
   ·rw [hr]; simp
   ·rw [hidden_of hr h]; simp
theorem vw_set (H:Hp) {hide:List Nat} {i:Id} {r:Nat} (hr:nthId nx0 r=some i) (h:r∈hide) (row:Row):vw (setRow i row H) nx0 hide=vw H nx0 hide:=by
 funext q
 rw [vw_eq,vw_eq,row_set]
 by_cases hq:q=i
 ·subst hq; rw [hidden_of hr h]; rfl
 ·rw [if_neg hq]
theorem nthId_num:∀ {n:Nat} {r i:Id},nthId r n=some i→i.num=r.num+n
 | 0,r,i,h=>by injection h with h; subst h; exact (Nat.add_zero _).symm
 | n+1,r,i,h=>by
   unfold nthId at h
   cases hn:inc r with
   | none=>rw [hn] at h; cases h
   | some r' =>
     rw [hn] at h
     rw [nthId_num h,inc_num hn]
     omega
structure DS where
 R:Regs
 H:Hp
 nx:Id
 log:Log
structure Ef where
 e:EV
 H:Hp
 nx:Id
 log:Log
noncomputable def eff0 (P:Program) (call:Caller) (nx0:Id) (p:PR) (s:DS):Option Ef:=match p.k with
 | .p=>(doP P p.po s.R).map fun e=>⟨e,s.H,s.nx,s.log⟩
 | .r=>(rdV P p.po (getX (rdX p.po) s.R) (getX (rdX2 p.po) s.R) (vw s.H nx0 p.hide)).map fun e =>
   ⟨e,s.H,s.nx,bc p.logd (set2 (toD (p.me / 16)) (toD (p.me % 16)) (some (getX (rdX p.po) s.R,getX (rdX2 p.po) s.R,e)) s.log) s.log⟩
 | .a=>(nthId nx0 p.rank).bind fun i=>match mkA p.po i s.R with
   | .no=>none
   | .at e row=>some ⟨e,setRow i row s.H,s.nx,s.log⟩
 | .x=>(doX P p.po call s.R (hideE nx0 s.H p.hide) s.nx).bind fun u=>match u.st with
   | some _=>none
   | none=>some ⟨u.e,backE nx0 s.H u.H p.hide,u.nx,s.log⟩
noncomputable def eff (P:Program) (call:Caller) (nx0:Id) (p:PR) (s:DS):Option Ef:=(wants p.g s.R).bind fun b=>match b with
 | false=>some ⟨undefE,s.H,s.nx,s.log⟩
 | true=>eff0 P call nx0 p s
noncomputable def step0 (P:Program) (call:Caller) (nx0:Id) (p:PR) (s:DS):Option DS:=(eff P call nx0 p s).map fun x=>⟨putR p.d x.e s.R,x.H,x.nx,x.log⟩
def Again (P:Program) (nx0:Id) (p:PR) (s s':DS):Prop:=p.k = .x→wants p.g s.R=some true→chkLog P nx0 s'.H s'.log p.again=true
inductive Run (P:Program) (call:Caller) (nx0:Id):List PR→DS→DS→Prop
 | nil (s:DS):Run P call nx0 [] s s
 | cons {p:PR} {l:List PR} {s s1 s2:DS} (h:step0 P call nx0 p s=some s1) (k:Again P nx0 p s s1) (r:Run P call nx0 l s1 s2):Run P call nx0 (p::l) s s2
inductive Run0 (P:Program) (call:Caller) (nx0:Id):List PR→DS→DS→Prop
 | nil (s:DS):Run0 P call nx0 [] s s
 | cons {p:PR} {l:List PR} {s s1 s2:DS} (h:step0 P call nx0 p s=some s1) (r:Run0 P call nx0 l s1 s2):Run0 P call nx0 (p::l) s s2
theorem stepD_run {p:PR} {R:Regs} {H:Hp} {nx:Id} {log:Log} {k:ContD} {u:Out} (h:stepD P call nx0 p R H nx log k=some u) :
  ∃ s',step0 P call nx0 p ⟨R,H,nx,log⟩=some s'∧Again P nx0 p ⟨R,H,nx,log⟩ s'∧k s'.R s'.H s'.nx s'.log=some u:=by
 unfold stepD at h
 unfold step0 eff Again
 cases hw:wants p.g R with
 | none=>rw [hw] at h; cases h
 | some b =>
   rw [hw] at h
   simp only [Option.bind_some]
   replace h:goD P call nx0 p R H nx log k b=some u:=h
   unfold goD at h
   cases b with
   | false=>exact ⟨_,rfl,fun _ h=>(by cases h),h⟩
   | true =>
     replace h:runD P call nx0 p R H nx log k=some u:=h
     unfold runD at h
     unfold eff0
     cases hk:p.k with
     | p =>
       rw [hk] at h
       replace h:dP P call nx0 p R H nx log k=some u:=h
       unfold dP at h
       cases he:doP P p.po R with
       | none=>rw [he] at h; cases h
       | some e=>rw [he] at h; exact ⟨_,rfl,fun h=>(by cases h),h⟩
     | r =>
       rw [hk] at h
       replace h:dR P call nx0 p R H nx log k=some u:=h
       unfold dR at h
       cases he:rdV P p.po (getX (rdX p.po) R) (getX (rdX2 p.po) R) (vw H nx0 p.hide) with
       | none=>rw [he] at h; cases h
       | some e=>rw [he] at h; exact ⟨_,rfl,fun h=>(by cases h),h⟩
     | a =>
       rw [hk] at h
       replace h:dA P call nx0 p R H nx log k=some u:=h
       unfold dA at h
       cases hn:nthId nx0 p.rank with
       | none=>rw [hn] at h; cases h
       | some i =>
         rw [hn] at h
         simp only [Option.bind_some]
         cases he:mkA p.po i R with
         | no=>simp only [he] at h; cases h
         | «at» e row=>simp only [he] at h; exact ⟨_,rfl,fun h=>(by cases h),h⟩
     | x =>
       rw [hk] at h
       replace h:dX P call nx0 p R H nx log k=some u:=h
       unfold dX at h
       cases he:doX P p.po call R (hideE nx0 H p.hide) nx with
       | none=>rw [he] at h; cases h
       | some r =>
         rw [he] at h
         simp only [Option.bind_some]
         cases hs:r.st with
         | some R'=>simp only [hs] at h; cases h
         | none =>
           simp only [hs] at h
           unfold dX2 at h
           cases hc:chkLog P nx0 (backE nx0 H r.H p.hide) log p.again with
           | false=>rw [hc] at h; cases h
           | true=>rw [hc] at h; exact ⟨_,rfl,fun _ _=>hc,h⟩
theorem evD_run:∀ {l:List PR} {R:Regs} {H:Hp} {nx:Id} {log:Log} {k:ContD} {u:Out},evD P call nx0 l R H nx log k=some u →
  ∃ s',Run P call nx0 l ⟨R,H,nx,log⟩ s'∧k s'.R s'.H s'.nx s'.log=some u
 | [],R,H,nx,log,k,u,h=>⟨_,.nil _,h⟩
 | p::l,R,H,nx,log,k,u,h=>by
   replace h:stepD P call nx0 p R H nx log (fun R H nx log=>evD P call nx0 l R H nx log k)=some u:=h
   obtain ⟨s1,e1,e2,e3⟩:=stepD_run h
   obtain ⟨s2,f1,f2⟩:=evD_run e3
   exact ⟨s2,.cons e1 e2 f1,f2⟩
end Go.Proofs.YtaihbcmifjmapaaGreat.Ev
namespace Go.Proofs.YtaihbcmifjmapaaGreat.Ev
open Go Go.RowKit
set_option linter.unusedVariables false
variable {P:Program} {nt:Nat} {R R':Regs} {call:Caller} {nx0:Id} {ops:Array Oper}
theorem eff_put {o:Oper} {p:PR} (m:Made P ops nt o p) {d:Option Tmp} (hd:∀ t,d=some t→t∉o.looksAt ops) (e:EV) (s:DS):eff P call nx0 p { s with R:=putR (pd nt d) e s.R }=eff P call nx0 p s:=by
 obtain ⟨k,po,pd',g,me,rank,hide,logd,again⟩:=p
 obtain ⟨m1,m2,m3,m4⟩:=m
 simp only at m1 m2 m3 m4
 subst m2 m3 m4
 have hu:=uses_put (P:=P) (nt:=nt) d hd e s.R
 unfold eff eff0
 simp only
 rw [wants_put d hd,doP_same hu,rdX_same hu,rdX2_same hu,doX_same hu]
 simp only [mkA_same hu]
structure Swap (P:Program) (call:Caller) (nx0:Id) (t c:PR):Prop where
 me:t.me < 256∧c.me < 256∧t.me≠c.me
 fit:t.k = .x→c.k = .p
 ar:t.k = .a→c.k = .r→t.rank∈c.hide
 ra:t.k = .r→c.k = .a→c.rank∈t.hide
 aa:t.k = .a→c.k = .a→t.rank≠c.rank
 ax:t.k = .a→c.k = .x→t.rank∈c.hide
 rx:t.k = .r→c.k = .x→t.logd=true
theorem hide_set (H:Hp) {hide:List Nat} {i:Id} {r:Nat} (hr:nthId nx0 r=some i) (h:r∈hide) (row:Row):hideE nx0 (setRow i row H) hide=hideE nx0 H hide:=by
 refine H_ext fun q=>?_
 rw [row_hide,row_hide,row_set]
 by_cases hq:q=i
 ·subst hq; rw [if_pos (hidden_of hr h),if_pos (hidden_of hr h)]
 ·rw [if_neg hq]
theorem back_set (H H':Hp) {hide:List Nat} {i:Id} {r:Nat} (hr:nthId nx0 r=some i) (h:r∈hide) (row:Row):backE nx0 (setRow i row H) H' hide=setRow i row (backE nx0 H H' hide):=by
 refine H_ext fun q=>?_
 rw [row_back,row_set,row_set,row_back]
 by_cases hq:q=i
 ·subst hq; rw [if_pos (hidden_of hr h),if_pos rfl,if_pos rfl]
 ·rw [if_neg hq,if_neg hq]
theorem set_comm {i j:Id} (h:i≠j) (x y:Row) (H:Hp):setRow i x (setRow j y H)=setRow j y (setRow i x H):=by
 rw [setRow_eq,setRow_eq,setRow_eq,setRow_eq,setH_comm _ _ _ _ _ h]
theorem log_comm {i j:Nat} (hi:i < 256) (hj:j < 256) (h:i≠j) (b b':Bool) (x y:Option (EV×EV×EV)) (L:Log) :
  bc b (set2 (toD (i / 16)) (toD (i % 16)) x (bc b' (set2 (toD (j / 16)) (toD (j % 16)) y L) L)) (bc b' (set2 (toD (j / 16)) (toD (j % 16)) y L) L) =
   bc b' (set2 (toD (j / 16)) (toD (j % 16)) y (bc b (set2 (toD (i / 16)) (toD (i % 16)) x L) L)) (bc b (set2 (toD (i / 16)) (toD (i % 16)) x L) L):=by
 cases b <;> cases b' <;> first
  | rfl
  | (show set2 _ _ _ (set2 _ _ _ _)=set2 _ _ _ (set2 _ _ _ _)
     refine set2_comm _ _ _ _ _ _ _ ?_
     rintro ⟨a,b⟩
     exact h (digits hi hj a b))
noncomputable def lg (p:PR) (R:Regs) (e:EV) (log:Log):Log:=bc p.logd (set2 (toD (p.me / 16)) (toD (p.me % 16)) (some (getX (rdX p.po) R,getX (rdX2 p.po) R,e)) log) log
theorem eff_swap {t c:PR} (sw:Swap P call nx0 t c) {R:Regs} {H:Hp} {nx:Id} {log:Log} {x y:Ef} (h1:eff P call nx0 t ⟨R,H,nx,log⟩=some x) (h2:eff P call nx0 c ⟨R,x.H,x.nx,x.log⟩=some y)
  (hrx:t.k = .r→c.k = .x→wants c.g R=some true→∀ v v2 e,get2 (toD (t.me / 16)) (toD (t.me % 16)) y.log=some (v,v2,e)→rdV P t.po v v2 (vw y.H nx0 t.hide)=some e) :
  ∃ y' x',eff P call nx0 c ⟨R,H,nx,log⟩=some y'∧eff P call nx0 t ⟨R,y'.H,y'.nx,y'.log⟩=some x'∧x'.e=x.e∧y'.e=y.e∧x'.H=y.H∧x'.nx=y.nx∧x'.log=y.log:=by
 unfold eff at h1 h2 ⊢
 simp only at h1 h2 ⊢
 cases ht:wants t.g R with
 | none=>rw [ht] at h1; cases h1
 | some bt =>
 cases hc:wants c.g R with
 | none=>rw [hc] at h2; cases h2
 | some bcc =>
 rw [ht] at h1
 rw [hc] at h2
 simp only [Option.bind_some] at h1 h2 ⊢
 cases bt with
 | false =>
   injection h1 with h1
   subst h1
   exact ⟨y,⟨undefE,y.H,y.nx,y.log⟩,h2,rfl,rfl,rfl,rfl,rfl,rfl⟩
 | true =>
 simp only [] at h1 ⊢
 cases bcc with
 | false =>
   injection h2 with h2
   subst h2
   exact ⟨⟨undefE,H,nx,log⟩,x,rfl,h1,rfl,rfl,rfl,rfl,rfl⟩
 | true =>
 simp only [] at h2 ⊢
 unfold eff0 at h1 h2 ⊢
 simp only at h1 h2 ⊢
 obtain ⟨⟨me1,me2,me3⟩,fit,ar,ra,aa,ax,rx⟩:=sw
 cases hkt:t.k with
 | p =>
   rw [hkt] at h1
   simp only [Option.map_eq_some_iff] at h1
   obtain ⟨e,he,rfl⟩:=h1
   simp only at h2 ⊢
   refine ⟨y,⟨e,y.H,y.nx,y.log⟩,h2,?_,rfl,rfl,rfl,rfl,rfl⟩
   rw [he]; rfl
 | x =>
   have:=fit hkt
   rw [this] at h2 ⊢
   simp only [Option.map_eq_some_iff] at h2
   obtain ⟨e,he,rfl⟩:=h2
   rw [hkt] at h1
   simp only at h1 ⊢
   refine ⟨⟨e,H,nx,log⟩,x,by rw [he]; rfl,h1,rfl,rfl,rfl,rfl,rfl⟩
 | r =>
   rw [hkt] at h1
   simp only [Option.map_eq_some_iff] at h1
   obtain ⟨e,he,rfl⟩:=h1
   simp only at h2 ⊢
   cases hkc:c.k with
   | p =>
     rw [hkc] at h2
     simp only [Option.map_eq_some_iff] at h2
     obtain ⟨e2,he2,rfl⟩:=h2
     exact ⟨⟨e2,H,nx,log⟩,⟨e,H,nx,lg t R e log⟩,by rw [he2]; rfl,by rw [he]; rfl,rfl,rfl,rfl,rfl,rfl⟩
   | r =>
     rw [hkc] at h2
     simp only [Option.map_eq_some_iff] at h2
     obtain ⟨e2,he2,rfl⟩:=h2
     exact ⟨⟨e2,H,nx,lg c R e2 log⟩,⟨e,H,nx,lg t R e (lg c R e2 log)⟩,by rw [he2]; rfl,by simp only []; rw [he]; rfl,rfl,rfl,rfl,rfl,log_comm me1 me2 me3 _ _ _ _ _⟩
   | a =>
     rw [hkc] at h2
     simp only [Option.bind_eq_some_iff] at h2
     obtain ⟨i,hi,h2⟩:=h2
     cases hm:mkA c.po i R with
     | no=>rw [hm] at h2; cases h2
     | «at» e2 row =>
       rw [hm] at h2
       injection h2 with h2
       subst h2
       refine ⟨⟨e2,setRow i row H,nx,log⟩,⟨e,setRow i row H,nx,lg t R e log⟩,by rw [hi]; simp only [Option.bind_some,hm],by simp only []; rw [vw_set H hi (ra hkt hkc),he]; rfl,rfl,rfl,rfl,rfl,rfl⟩
   | x =>
     rw [hkc] at h2
     simp only [Option.bind_eq_some_iff] at h2
     obtain ⟨u,hu,h2⟩:=h2
     cases hs:u.st with
     | some R'=>rw [hs] at h2; cases h2
     | none =>
       rw [hs] at h2
       injection h2 with h2
       subst h2
       have hl:=rx hkt hkc
       have:=hrx hkt hkc hc (getX (rdX t.po) R) (getX (rdX2 t.po) R) e (by
        simp only [hl]
        show get2 _ _ (set2 _ _ _ _)=_
        rw [get2_set2,if_pos ⟨rfl,rfl⟩])
       simp only at this
       refine ⟨⟨u.e,backE nx0 H u.H c.hide,u.nx,log⟩,⟨e,backE nx0 H u.H c.hide,u.nx,lg t R e log⟩,by rw [hu]; simp only [Option.bind_some,hs],by simp only []; rw [this]; rfl,rfl,rfl,rfl,rfl,rfl⟩
 | a =>
   rw [hkt] at h1
   simp only [Option.bind_eq_some_iff] at h1
   obtain ⟨i,hi,h1⟩:=h1
   cases hm:mkA t.po i R with
   | no=>rw [hm] at h1; cases h1
   | «at» e row =>
   rw [hm] at h1
   injection h1 with h1
   subst h1
   simp only at h2 ⊢
   cases hkc:c.k with
   | p =>
     rw [hkc] at h2
     simp only [Option.map_eq_some_iff] at h2
     obtain ⟨e2,he2,rfl⟩:=h2
     exact ⟨⟨e2,H,nx,log⟩,⟨e,setRow i row H,nx,log⟩,by rw [he2]; rfl,by rw [hi]; simp only [Option.bind_some,hm],rfl,rfl,rfl,rfl,rfl⟩
   | r =>
     rw [hkc] at h2
     rw [vw_set H hi (ar hkt hkc)] at h2
     simp only [Option.map_eq_some_iff] at h2
     obtain ⟨e2,he2,rfl⟩:=h2
     exact ⟨⟨e2,H,nx,lg c R e2 log⟩,⟨e,setRow i row H,nx,lg c R e2 log⟩,by rw [he2]; rfl,by rw [hi]; simp only [Option.bind_some,hm],rfl,rfl,rfl,rfl,rfl⟩
   | a =>
     rw [hkc] at h2
     simp only [Option.bind_eq_some_iff] at h2
     obtain ⟨j,hj,h2⟩:=h2
     cases hm2:mkA c.po j R with
     | no=>rw [hm2] at h2; cases h2
     | «at» e2 row2 =>
       rw [hm2] at h2
       injection h2 with h2
       subst h2
       have hij:i≠j:=by
        rintro rfl
        have a:=nthId_num hi
        have b:=nthId_num hj
        exact aa hkt hkc (by omega)
       exact ⟨⟨e2,setRow j row2 H,nx,log⟩,⟨e,setRow i row (setRow j row2 H),nx,log⟩,by rw [hj]; simp only [Option.bind_some,hm2],by rw [hi]; simp only [Option.bind_some,hm],rfl,rfl,set_comm hij _ _ _,rfl,rfl⟩
   | x =>
     rw [hkc] at h2
     rw [hide_set H hi (ax hkt hkc)] at h2
     simp only [Option.bind_eq_some_iff] at h2
     obtain ⟨u,hu,h2⟩:=h2
     cases hs:u.st with
     | some R'=>rw [hs] at h2; cases h2
     | none =>
       rw [hs] at h2
       injection h2 with h2
       subst h2
       exact ⟨⟨u.e,backE nx0 H u.H c.hide,u.nx,log⟩,⟨e,setRow i row (backE nx0 H u.H c.hide),u.nx,log⟩,by rw [hu]; simp only [Option.bind_some,hs],by rw [hi]; simp only [Option.bind_some,hm],rfl,rfl,(back_set H u.H hi (ax hkt hkc) row).symm,rfl,rfl⟩
theorem step_swap {x y:Oper} {t c:PR} (mt:Made P ops nt x t) (mc:Made P ops nt y c) (sw:Swap P call nx0 t c) (hap:x.apart ops y=true) {s s1 s2:DS} (h1:step0 P call nx0 t s=some s1) (h2:step0 P call nx0 c s1=some s2)
  (hrx:t.k = .r→c.k = .x→wants c.g s1.R=some true→∀ v v2 e,get2 (toD (t.me / 16)) (toD (t.me % 16)) s2.log=some (v,v2,e)→rdV P t.po v v2 (vw s2.H nx0 t.hide)=some e) :
  ∃ s1',step0 P call nx0 c s=some s1'∧step0 P call nx0 t s1'=some s2:=by
 obtain ⟨a1,a2,a3⟩:=Oper.apart_spec hap
 obtain ⟨R,H,nx,log⟩:=s
 unfold step0 at h1 h2
 rw [Option.map_eq_some_iff] at h1 h2
 obtain ⟨u,hu,rfl⟩:=h1
 obtain ⟨v,hv,rfl⟩:=h2
 simp only at hv hrx ⊢
 have hv':eff P call nx0 c ⟨R,u.H,u.nx,u.log⟩=some v:=by
  have:=eff_put (call:=call) (nx0:=nx0) mc (d:=x.dst) a1 u.e ⟨R,u.H,u.nx,u.log⟩
  rw [← this]
  rw [← mt.d]
  exact hv
 obtain ⟨v',u',e1,e2,e3,e4,e5,e6,e7⟩:=eff_swap sw hu hv' (fun h1 h2 h3=>hrx h1 h2 (by rw [mt.d,mc.g,wants_put x.dst a1,← mc.g]; exact h3))
 refine ⟨⟨putR c.d v'.e R,v'.H,v'.nx,v'.log⟩,by unfold step0; rw [e1]; rfl,?_⟩
 have e2':eff P call nx0 t ⟨putR c.d v'.e R,v'.H,v'.nx,v'.log⟩=some u':=by
  have:=eff_put (call:=call) (nx0:=nx0) mt (d:=y.dst) a3 v'.e ⟨R,v'.H,v'.nx,v'.log⟩
  rw [← e2,← this]
  rw [mc.d]
 unfold step0
 rw [e2']
 simp only [Option.map_some,e3,e4,e5,e6,e7]
 rw [mt.d,mc.d,put_comm x.dst y.dst a2]
end Go.Proofs.YtaihbcmifjmapaaGreat.Ev
namespace Go.Proofs.YtaihbcmifjmapaaGreat.Ev
open Go Go.RowKit
set_option linter.unusedVariables false
variable {P:Program} {nt:Nat} {call:Caller} {nx0:Id} {ops:Array Oper}
structure Rgn (P:Program) (ops:Array Oper) (nt:Nat) (bf:Nat→Nat) (n:Nat) (op:Nat→Oper) (pr:Nat→PR):Prop where
 small:n≤256
 made:∀ i,i < n→Made P ops nt (op i) (pr i)
 me:∀ i,i < n→(pr i).me=i
 late:∀ i j,i < n→j < n→(pr i).k = .a→(pr j).k = .r→(bf j).testBit i=false→(pr i).rank∈(pr j).hide
 loose:∀ i j,i < n→j < n→(pr i).k = .a→(pr j).k = .x→(bf j).testBit i=false→(bf i).testBit j=false→(pr i).rank∈(pr j).hide
 ranks:∀ i j,i < n→j < n→i≠j→(pr i).k = .a→(pr j).k = .a→(pr i).rank≠(pr j).rank
 logd:∀ i j,i < n→j < n→(pr i).k = .r→(pr j).k = .x→(bf j).testBit i=false→(bf i).testBit j=false→(pr i).logd=true∧(i,(pr i).po,(pr i).hide)∈(pr j).again
def Good (bf:Nat→Nat) (S:List Nat):Prop:=∀ S1 i S2,S=S1++i::S2→∀ j,(bf i).testBit j=true→j∈S1
def Fits (ops:Array Oper) (bf:Nat→Nat) (op:Nat→Oper) (pr:Nat→PR) (C:List Nat):Prop :=
 ∀ C1 i C2,C=C1++i::C2→∀ j∈C1,(bf i).testBit j=true∨((op j).apart ops (op i)=true∧fitK (pr j).k (pr i).k=true)
theorem Run.split:∀ {l l':List PR} {s s':DS},Run P call nx0 (l++l') s s'→∃ sm,Run P call nx0 l s sm∧Run P call nx0 l' sm s'
 | [],l',s,s',h=>⟨s,.nil s,h⟩
 | p::l,l',s,s',h=>by
   cases h with
   | cons h k r =>
     obtain ⟨sm,e1,e2⟩:=Run.split r
     exact ⟨sm,.cons h k e1,e2⟩
theorem Run0.split:∀ {l l':List PR} {s s':DS},Run0 P call nx0 (l++l') s s'→∃ sm,Run0 P call nx0 l s sm∧Run0 P call nx0 l' sm s'
 | [],l',s,s',h=>⟨s,.nil s,h⟩
 | p::l,l',s,s',h=>by
   cases h with
   | cons h r =>
     obtain ⟨sm,e1,e2⟩:=Run0.split r
     exact ⟨sm,.cons h e1,e2⟩
theorem Run0.append:∀ {l l':List PR} {s sm s':DS},Run0 P call nx0 l s sm→Run0 P call nx0 l' sm s'→Run0 P call nx0 (l++l') s s'
 | [],l',s,sm,s',h,k=>by cases h; exact k
 | p::l,l',s,sm,s',h,k=>by
   cases h with
   | cons h r=>exact .cons h (r.append k)
theorem Run0.one {p:PR} {s s':DS} (h:Run0 P call nx0 [p] s s'):step0 P call nx0 p s=some s':=by
 cases h with
 | cons h r=>cases r; exact h
theorem Run.one {p:PR} {s s':DS} (h:Run P call nx0 [p] s s'):step0 P call nx0 p s=some s'∧Again P nx0 p s s':=by
 cases h with
 | cons h k r=>cases r; exact ⟨h,k⟩
theorem step_keeps {t:PR} (hm:t.me < 256) (hx:t.k ≠ .x) {hide:List Nat} (ha:t.k = .a→t.rank∈hide) {s s':DS} (h:step0 P call nx0 t s=some s') :
  vw s'.H nx0 hide=vw s.H nx0 hide∧∀ m,m < 256→m≠t.me→get2 (toD (m / 16)) (toD (m % 16)) s'.log=get2 (toD (m / 16)) (toD (m % 16)) s.log:=by
 unfold step0 at h
 rw [Option.map_eq_some_iff] at h
 obtain ⟨u,hu,rfl⟩:=h
 simp only
 unfold eff at hu
 rw [Option.bind_eq_some_iff] at hu
 obtain ⟨b,hb,hu⟩:=hu
 cases b with
 | false=>injection hu with hu; subst hu; exact ⟨rfl,fun _ _ _=>rfl⟩
 | true =>
   simp only [] at hu
   unfold eff0 at hu
   cases hk:t.k with
   | x=>exact absurd hk hx
   | p=>rw [hk] at hu; simp only [Option.map_eq_some_iff] at hu; obtain ⟨e, -,rfl⟩:=hu; exact ⟨rfl,fun _ _ _=>rfl⟩
   | r =>
     rw [hk] at hu
     simp only [Option.map_eq_some_iff] at hu
     obtain ⟨e, -,rfl⟩:=hu
     refine ⟨rfl,fun m hm' hne=>?_⟩
     simp only
     cases t.logd with
     | false=>rfl
     | true =>
       show get2 _ _ (set2 _ _ _ _)=_
       rw [get2_set2,if_neg]
       rintro ⟨a,b⟩
       exact hne (digits hm' hm a b)
   | a =>
     rw [hk] at hu
     simp only [Option.bind_eq_some_iff] at hu
     obtain ⟨i,hi,hu⟩:=hu
     split at hu
     ·cases hu
     ·injection hu with hu
      subst hu
      exact ⟨vw_set _ hi (ha hk) _,fun _ _ _=>rfl⟩
section
variable {bf:Nat→Nat} {n:Nat} {op:Nat→Oper} {pr:Nat→PR}
theorem fitK_facts {u v:K} (h:fitK u v=true):u = .x→v = .p:=by
 intro hu
 subst hu
 cases v <;> first | rfl | cases h
theorem move (g:Rgn P ops nt bf n op pr) {c:Nat} (hc:c < n):∀ (m:Nat) {S:List Nat},S.length=m→S.Nodup→c∉S→(∀ t∈S,t < n) →
  (∀ t∈S,(op t).apart ops (op c)=true∧fitK (pr t).k (pr c).k=true∧(bf c).testBit t=false∧(bf t).testBit c=false) →
  (∀ S1 t S2,S=S1++t::S2→∀ t2∈S1,(bf t2).testBit t=false) →
  ∀ {sa sm s':DS},Run0 P call nx0 (S.map pr) sa sm→step0 P call nx0 (pr c) sm=some s' →
  ((pr c).k = .x→wants (pr c).g sm.R=some true→∀ t∈S,(pr t).k = .r→∀ v v2 e,get2 (toD (t / 16)) (toD (t % 16)) s'.log=some (v,v2,e)→rdV P (pr t).po v v2 (vw s'.H nx0 (pr t).hide)=some e) →
  Run0 P call nx0 ((c::S).map pr) sa s':=by
 intro m
 induction m with
 | zero =>
   intro S hm _ _ _ _ _ sa sm s' hr hs _
   have:=List.length_eq_zero_iff.1 hm
   subst this
   cases hr
   exact .cons hs (.nil _)
 | succ m ih =>
   intro S hm hnd hcS hlt hfit hord sa sm s' hr hs hcond
   rcases List.eq_nil_or_concat S with h0 | ⟨S',t,rfl⟩
   ·subst h0; cases hm
   simp only [List.concat_eq_append] at *
   have hm':S'.length=m:=by simpa using hm
   rw [List.map_append] at hr
   obtain ⟨st,r1,r2⟩:=hr.split
   have r2:=Run0.one r2
   have htn:t < n:=hlt t (by simp)
   obtain ⟨f1,f2,f3,f4⟩:=hfit t (by simp)
   have htc:t≠c:=by rintro rfl; exact hcS (by simp)
   have met:=g.me t htn
   have mec:=g.me c hc
   have hn:=g.small
   have sw:Swap P call nx0 (pr t) (pr c):={
    me:=by rw [met,mec]; exact ⟨by omega,by omega,htc⟩
    fit:=fitK_facts f2
    ar:=fun h1 h2=>g.late t c htn hc h1 h2 f3
    ra:=fun h1 h2=>g.late c t hc htn h2 h1 f4
    aa:=fun h1 h2=>g.ranks t c htn hc htc h1 h2
    ax:=fun h1 h2=>g.loose t c htn hc h1 h2 f3 f4
    rx:=fun h1 h2=>(g.logd t c htn hc h1 h2 f3 f4).1 }
   obtain ⟨sc,e1,e2⟩:=step_swap (g.made t htn) (g.made c hc) sw f1 r2 hs (by
    intro h1 h2 h3 v v2 e hl
    rw [met] at hl
    exact hcond h2 h3 t (by simp) h1 v v2 e hl)
   have hwants:wants (pr c).g sm.R=wants (pr c).g st.R:=by
    obtain ⟨a1, -, -⟩:=Oper.apart_spec f1
    unfold step0 at r2
    rw [Option.map_eq_some_iff] at r2
    obtain ⟨u,hu,rfl⟩:=r2
    simp only
    rw [(g.made t htn).d,(g.made c hc).g,wants_put (op t).dst a1]
   have hnd':=List.nodup_append.1 hnd
   have:=ih (S:=S') hm' hnd'.1 (fun h=>hcS (by simp [h])) (fun t h=>hlt t (by simp [h])) (fun t h=>hfit t (by simp [h]))
    (fun S1 t1 S2 h t2 h2=>hord S1 t1 (S2++[t]) (by rw [h]; simp) t2 h2) r1 e1 (by
     intro h1 h2 t2 ht2 hk2 v v2 e hl
     have ht2n:=hlt t2 (by simp [ht2])
     have hx:(pr t).k ≠ .x:=by
      intro hx
      have:=fitK_facts f2 hx
      rw [h1] at this
      cases this
     have hne:t2≠t:=fun h=>hnd'.2.2 t2 ht2 t (by simp) h
     obtain ⟨k1,k2⟩:=step_keeps (hide:=(pr t2).hide) (by rw [met]; omega) hx (fun ha=>g.late t t2 htn ht2n ha hk2 (hord S' t [] rfl t2 ht2)) e2
     rw [← k1]
     refine hcond h1 (by rw [hwants]; exact h2) t2 (by simp [ht2]) hk2 v v2 e ?_
     rw [k2 t2 (by omega) (by rw [met]; exact hne)]
     exact hl)
   have fin:=this.append (.cons e2 (.nil _))
   rw [List.map_cons,List.map_append]
   exact fin
theorem chk_ok {H:Hp} {log:Log} {l:List (Nat×PO×List Nat)} (h:chkLog P nx0 H log l=true) {i:Nat} {po:PO} {hide:List Nat} (hm:(i,po,hide)∈l) (v v2 e:EV) (hl:get2 (toD (i / 16)) (toD (i % 16)) log=some (v,v2,e)) :
  rdV P po v v2 (vw H nx0 hide)=some e:=by
 induction l with
 | nil=>cases hm
 | cons x l ih =>
   obtain ⟨j,q,hd⟩:=x
   rw [chkLog,Bool.and_eq_true] at h
   rcases List.mem_cons.1 hm with he | hm
   ·injection he with h1 h2
    injection h2 with h2 h3
    subst h1 h2 h3
    have h:=h.1
    rw [hl] at h
    simp only [] at h
    unfold isE at h
    split at h
    ·rename_i y hy
     rw [hy,eqE_ok h]
    ·cases h
   ·exact ih h.2 hm
theorem reorder (g:Rgn P ops nt bf n op pr):∀ (m:Nat) {C:List Nat},C.length=m→C.Nodup→(∀ t∈C,t < n)→Good bf C→Fits ops bf op pr C→∀ {S:List Nat},S.Perm C→Good bf S →
  ∀ {s s':DS},Run P call nx0 (C.map pr) s s'→Run0 P call nx0 (S.map pr) s s':=by
 intro m
 induction m with
 | zero =>
   intro C hm _ _ _ _ S hp _ s s' hr
   have:=List.length_eq_zero_iff.1 hm
   subst this
   have:=List.Perm.eq_nil hp
   subst this
   cases hr
   exact .nil _
 | succ m ih =>
   intro C hm hnd hlt hgood hfits S hp hS s s' hr
   rcases List.eq_nil_or_concat C with h0 | ⟨C',c,rfl⟩
   ·subst h0; cases hm
   simp only [List.concat_eq_append] at *
   have hm':C'.length=m:=by simpa using hm
   have hc:c < n:=hlt c (by simp)
   rw [List.map_append] at hr
   obtain ⟨sm,r1,r2⟩:=hr.split
   obtain ⟨r2,r3⟩:=Run.one r2
   have hcS:c∈S:=hp.mem_iff.2 (by simp)
   obtain ⟨S1,S2,rfl⟩:=List.append_of_mem hcS
   have hndS:(S1++c::S2).Nodup:=hp.nodup_iff.2 hnd
   have hpp:(S1++S2).Perm C':=by
    have h1:(c::(S1++S2)).Perm (S1++c::S2):=List.perm_middle.symm
    have h2:(C'++[c]).Perm (c::C'):=by exact List.perm_append_comm (l₁:=C') (l₂:=[c])
    exact ((h1.trans hp).trans h2).cons_inv
   have hnd':=List.nodup_append.1 hnd
   have memC:∀ t,t∈S1++S2→t∈C':=fun t h=>hpp.mem_iff.1 h
   have notbf:∀ t∈C',(bf t).testBit c=false:=by
    intro t ht
    cases hb:(bf t).testBit c with
    | false=>rfl
    | true =>
      obtain ⟨A,B,hAB⟩:=List.append_of_mem ht
      have:=hgood A t (B++[c]) (by rw [hAB]; simp) c hb
      exact absurd (show c∈C' by rw [hAB]; simp [this]) (fun h=>hnd'.2.2 c h c (by simp) rfl)
   have hS12:Good bf (S1++S2):=by
    intro A i B hAB j hj
    have hi:i∈C':=memC i (by rw [hAB]; simp)
    have hjc:j≠c:=by
     rintro rfl
     rw [notbf i hi] at hj
     cases hj
    rcases List.append_eq_append_iff.1 hAB with ⟨D,h1,h2⟩ | ⟨D,h1,h2⟩
    ·-- A = S1 ++ D, S2 = D ++ i :: B
     have:=hS (S1++c::D) i B (by rw [h2]; simp) j hj
     rw [h1]
     simp only [List.mem_append,List.mem_cons] at this ⊢
     rcases this with h | h | h
     ·exact .inl h
     ·exact absurd h hjc
     ·exact .inr h
    ·cases D with
     | nil =>
       simp only [List.nil_append,List.append_nil] at h1 h2
       have:=hS (S1++[c]) i B (by rw [← h2]; simp) j hj
       subst h1
       simp only [List.mem_append,List.mem_singleton] at this
       rcases this with h | h
       ·exact h
       ·exact absurd h hjc
     | cons d D =>
       simp only [List.cons_append,List.cons.injEq] at h2
       obtain ⟨rfl,h2⟩:=h2
       exact hS A i (D++c::S2) (by rw [h1]; simp) j hj
   have hgood':Good bf C':=fun A i B h=>hgood A i (B++[c]) (by rw [h]; simp)
   have hfits':Fits ops bf op pr C':=fun A i B h=>hfits A i (B++[c]) (by rw [h]; simp)
   have r0:=ih hm' hnd'.1 (fun t h=>hlt t (by simp [h])) hgood' hfits' hpp hS12 r1
   rw [List.map_append] at r0
   obtain ⟨sa,q1,q2⟩:=r0.split
   have hndS':=List.nodup_append.1 hndS
   have hndS2:=List.nodup_cons.1 hndS'.2.1
   have nb:∀ t∈S2,(bf c).testBit t=false:=by
    intro t ht
    cases hb:(bf c).testBit t with
    | false=>rfl
    | true =>
      have:=hS S1 c S2 rfl t hb
      exact absurd rfl (hndS'.2.2 t this t (by simp [ht]))
   have fin:=move g hc S2.length rfl hndS2.2 hndS2.1 (fun t h=>hlt t (by simp [memC t (by simp [h])])) (fun t h=>by
     have htC:=memC t (by simp [h])
     rcases hfits C' c [] rfl t htC with hb | hb
     ·rw [nb t h] at hb; cases hb
     ·exact ⟨hb.1,hb.2,nb t h,notbf t htC⟩)
    (fun A t B hAB t2 ht2=>by
     cases hb:(bf t2).testBit t with
     | false=>rfl
     | true =>
       obtain ⟨A1,A2,hA⟩:=List.append_of_mem ht2
       have h3:=hS (S1++c::A1) t2 (A2++t::B) (by rw [hAB,hA]; simp) t hb
       have h4:(S1++c::S2).Nodup:=hndS
       rw [hAB,hA] at h4
       have h5:((S1++c::A1)++(t2::A2++t::B)).Nodup:=by simpa using h4
       exact absurd rfl ((List.nodup_append.1 h5).2.2 t h3 t (by simp)))
    q2 r2 (fun hk hw t ht hkt v v2 e hl=>by
     have htC:=memC t (by simp [ht])
     obtain ⟨-,h2⟩:=g.logd t c (hlt t (by simp [htC])) hc hkt hk (nb t ht) (notbf t htC)
     exact chk_ok (r3 hk hw) h2 v v2 e hl)
   rw [List.map_append]
   exact q1.append fin
end
end Go.Proofs.YtaihbcmifjmapaaGreat.Ev
namespace Go.Proofs.YtaihbcmifjmapaaGreat.Ev
open Go Go.RowKit
set_option linter.unusedVariables false
variable {P:Program} {γ:Id→List MapEntry} {μ μ':Mu} {G G':Id→Row} {nx nx':Id} {B:Nat} {w w':World} {nt:Nat} {R:Regs} {a:Act} {H:Hp} {call:Caller} {nx0:Id} {ops:Array Oper}
theorem HR.back {hd:Id→Bool} {Gh Gu Gb:Id→Row} (hr:HR P γ μ G nx B w) (eh:∀ q,Gh q=if hd q=true then .dead else G q) (eb:∀ q,Gb q=if hd q=true then G q else Gu q) (hr':HR P γ μ' Gu nx' B w') (g:Goes μ Gh nx w μ' Gu nx' w') :
  HR P γ μ' Gb nx' B w'∧Goes μ G nx w μ' Gb nx' w':=by
 have up:∀ r,alive (Gh r)=true→hd r=false∧alive (G r)=true:=by
  intro r h
  rw [eh] at h
  cases hh:hd r with
  | true=>rw [hh,if_pos rfl] at h; cases h
  | false=>rw [hh] at h; exact ⟨rfl,h⟩
 have mu:∀ r p,alive (G r)=true→μ' r=some p→μ r=some p:=by
  intro r p h1 h2
  obtain ⟨p1,ob,e1, -⟩:=hr.live r h1
  have:=g.le r p1 e1
  rw [h2] at this
  injection this with this
  subst this
  exact e1
 have lt:∀ r p,alive (G r)=true→μ r=some p→p.blk < w.heap.size:=by
  intro r p h1 h2
  obtain ⟨p1,ob,e1, -,e3, -⟩:=hr.live r h1
  rw [h2] at e1
  injection e1 with e1
  subst e1
  exact (Array.getElem?_eq_some_iff.1 e3).1
 have cross:∀ r r' p p',hd r=true→alive (G r)=true→alive (Gu r')=true→μ' r=some p→μ' r'=some p'→p.blk≠p'.blk:=by
  intro r r' p p' h1 h2 h3 h4 h5 h6
  have h7:=mu r p h2 h4
  rcases g.own r' p' h3 h5 with ⟨r0,p0,k1,k2,k3⟩ | k
  ·obtain ⟨k4,k5⟩:=up r0 k1
   have:=hr.apart r0 r p0 p k5 h2 k2 h7 (k3.trans h6.symm)
   subst this
   rw [h1] at k4
   cases k4
  ·have:=lt r p h2 h7
   omega
 refine ⟨⟨hr'.fresh,fun r ha=>?_,fun r r' p p' h1 h2 h3 h4 h5=>?_,hr'.base⟩,?_⟩
 ·rw [eb] at ha ⊢
  cases hh:hd r with
  | true =>
    rw [hh,if_pos rfl] at ha
    rw [if_pos rfl]
    obtain ⟨p,ob,e1,e2,e3,e4⟩:=hr.live r ha
    refine ⟨p,ob,g.le r p e1,e2,?_,e4.mono g.le⟩
    rw [g.keep p.blk (lt r p ha e1)]
    ·exact e3
    ·intro r0 p0 k1 k2 k3
     obtain ⟨k4,k5⟩:=up r0 k1
     have:=hr.apart r0 r p0 p k5 ha k2 e1 k3
     subst this
     rw [hh] at k4
     cases k4
  | false =>
    rw [hh] at ha
    exact hr'.live r ha
 ·rw [eb] at h1 h2
  cases hh:hd r with
  | true =>
    rw [hh,if_pos rfl] at h1
    cases hh':hd r' with
    | true =>
      rw [hh',if_pos rfl] at h2
      exact hr.apart r r' p p' h1 h2 (mu r p h1 h3) (mu r' p' h2 h4) h5
    | false =>
      rw [hh'] at h2
      exact absurd h5 (cross r r' p p' hh h1 h2 h3 h4)
  | false =>
    rw [hh] at h1
    cases hh':hd r' with
    | true =>
      rw [hh',if_pos rfl] at h2
      exact absurd h5.symm (cross r' r p' p hh' h2 h1 h4 h3)
    | false =>
      rw [hh'] at h2
      exact hr'.apart r r' p p' h1 h2 h3 h4 h5
 ·refine ⟨g.le,g.new,g.nxt,g.os,g.tape,g.output,g.size,fun k h1 h2=>g.keep k h1 fun r p k1 k2=>h2 r p (up r k1).2 k2,fun r p h1 h2=>?_,fun r h1=>?_⟩
  ·rw [eb] at h1
   cases hh:hd r with
   | true=>rw [hh,if_pos rfl] at h1; exact .inl ⟨r,p,h1,mu r p h1 h2,rfl⟩
   | false =>
     rw [hh] at h1
     rcases g.own r p h1 h2 with ⟨r0,p0,k1,k2,k3⟩ | k
     ·exact .inl ⟨r0,p0,(up r0 k1).2,k2,k3⟩
     ·exact .inr k
  ·rw [eb] at h1
   cases hh:hd r with
   | true=>rw [hh,if_pos rfl] at h1; exact .inl h1
   | false =>
     rw [hh] at h1
     rcases g.dom r h1 with k | k
     ·exact .inl (up r k).2
     ·exact .inr k
theorem step0_ok (hc:CallOk P B call) {i:Nat} {o:Oper} (ho:ops[i]? = some o) {p:PR} (m:Made P ops nt o p) {s s':DS} (hr:HR P γ μ (fun q=>getRow q s.H) s.nx B w) (k:RegOk μ nt s.R a.tmps)
  (hA:p.k = .a→∀ i,nthId nx0 p.rank=some i→μ i=none∧i.num < s.nx.num) (h:step0 P call nx0 p s=some s') :
  ∃ a' w' μ',RegOk μ' nt s'.R a'.tmps∧HR P γ μ' (fun q=>getRow q s'.H) s'.nx B w' ∧
   (∀ {μ0:Mu} {G0:Id→Row} {w0:World},Goes μ0 G0 nx0 w0 μ (fun q=>getRow q s.H) s.nx w→Goes μ0 G0 nx0 w0 μ' (fun q=>getRow q s'.H) s'.nx w') ∧
   (∀ r:Id,r.num < s.nx.num→(p.k = .a→nthId nx0 p.rank≠some r)→μ' r=μ r)∧s.nx.num≤s'.nx.num∧∀ rest,Moves P ops (i::rest) a w rest a' w':=by
 obtain ⟨kd,po,d,g,me,rank,hide,logd,again⟩:=p
 obtain ⟨m1,m2,m3,m4⟩:=m
 simp only at m1 m2 m3 m4 hA
 subst m2 m3 m4
 obtain ⟨R,H,nx,log⟩:=s
 unfold step0 eff at h
 rw [Option.map_eq_some_iff] at h
 obtain ⟨u,hu,rfl⟩:=h
 simp only at hr k hu ⊢
 cases hw:wants (pg ops nt o) R with
 | none=>rw [hw] at hu; cases hu
 | some b =>
 rw [hw] at hu
 simp only [Option.bind_some] at hu
 have hwant:=wants_ok k hw
 cases b with
 | false =>
   injection hu with hu
   subst hu
   exact ⟨a.put o.dst undef,w,μ,k.put o.dst (.inr (undef_ok μ)),hr,fun h=>h,fun _ _ _=>rfl,Nat.le_refl _,fun rest=>Moves.skip ho hwant rest⟩
 | true =>
 simp only [] at hu
 unfold eff0 at hu
 simp only at hu
 cases kd with
 | p =>
   simp only [Option.map_eq_some_iff] at hu
   obtain ⟨e,he,rfl⟩:=hu
   obtain ⟨v,h1,h2⟩:=runs_p k m1.symm he w
   exact ⟨a.put o.dst v,w,μ,k.put o.dst h1,hr,fun h=>h,fun _ _ _=>rfl,Nat.le_refl _,fun rest=>Moves.op ho h2 hwant rest⟩
 | r =>
   simp only [Option.map_eq_some_iff] at hu
   obtain ⟨e,he,rfl⟩:=hu
   have hr':HR P γ μ (vw H nx0 hide) nx B w:=hr.less fun q hq=>by
    rw [vw_eq] at hq ⊢
    split
    ·rename_i hh; rw [if_pos hh] at hq; cases hq
    ·rfl
   obtain ⟨v,h1,h2⟩:=runs_r hr' k m1.symm he
   exact ⟨a.put o.dst v,w,μ,k.put o.dst h1,hr,fun h=>h,fun _ _ _=>rfl,Nat.le_refl _,fun rest=>Moves.op ho h2 hwant rest⟩
 | a =>
   simp only [Option.bind_eq_some_iff] at hu
   obtain ⟨j,hj,hu⟩:=hu
   cases he:mkA (prepO P o.op o.type) j R with
   | no=>rw [he] at hu; cases hu
   | «at» e row =>
     rw [he] at hu
     injection hu with hu
     subst hu
     obtain ⟨hfr,hlt⟩:=hA rfl j hj
     obtain ⟨v,ob,tot,h1,h2,h3,h4⟩:=runs_a hr k hfr he hlt (Nat.le_refl _)
     have hnum:=nthId_num hj
     exact ⟨a.put o.dst v,_,_,(k.mono (le_upd hfr _)).put o.dst (.inr h2),h3,fun hg=>h4 hg (by omega),fun r _ hne=>upd_other _ _ (fun h=>hne rfl (by rw [h]; exact hj)),Nat.le_refl _,fun rest=>Moves.op ho h1 hwant rest⟩
 | x =>
   simp only [Option.bind_eq_some_iff] at hu
   obtain ⟨v,hv,hu⟩:=hu
   have hr':HR P γ μ (fun q=>getRow q (hideE nx0 H hide)) nx B w:=hr.less fun q hq=>by
    simp only [row_hide] at hq ⊢
    split
    ·rename_i hh; rw [if_pos hh] at hq; cases hq
    ·rfl
   obtain ⟨val,w',μ',h1,h2,h3,h4,h5⟩:=runs_x hc hr' k m1.symm hv
   rw [h5] at hu
   injection hu with hu
   subst hu
   obtain ⟨f1,f2⟩:=hr.back (hd:=fun q=>hidden nx0 q hide) (Gb:=fun q=>getRow q (backE nx0 H v.H hide)) (fun q=>row_hide q H hide) (fun q=>row_back q H v.H hide) h3 h4
   exact ⟨a.put o.dst val,w',μ',(k.mono h4.le).put o.dst (.inr h2),f1,fun hg=>hg.trans f2,fun r hr _=>h4.new r hr,h4.nxt,fun rest=>Moves.op ho h1 hwant rest⟩
theorem run0_ok (hc:CallOk P B call) {bf:Nat→Nat} {n:Nat} {op:Nat→Oper} {pr:Nat→PR} (g:Rgn P ops nt bf n op pr) (hop:∀ i,i < n→ops[i]? = some (op i)):∀ {S:List Nat},S.Nodup→(∀ t∈S,t < n) →
  ∀ {s s':DS} {μ:Mu} {w:World} {a:Act},HR P γ μ (fun q=>getRow q s.H) s.nx B w→RegOk μ nt s.R a.tmps→(∀ t∈S,(pr t).k = .a→∀ i,nthId nx0 (pr t).rank=some i→μ i=none∧i.num < s.nx.num)→Run0 P call nx0 (S.map pr) s s' →
  ∃ a' w' μ',RegOk μ' nt s'.R a'.tmps∧HR P γ μ' (fun q=>getRow q s'.H) s'.nx B w' ∧
   (∀ {μ0:Mu} {G0:Id→Row} {w0:World},Goes μ0 G0 nx0 w0 μ (fun q=>getRow q s.H) s.nx w→Goes μ0 G0 nx0 w0 μ' (fun q=>getRow q s'.H) s'.nx w')∧Moves P ops S a w [] a' w'
 | [],_,_,s,s',μ,w,a,hr,k,_,h=>by
   cases h
   exact ⟨a,w,μ,k,hr,fun h=>h,rfl,fun _ _ _ => .refl _ _⟩
 | t::S,hnd,hlt,s,s',μ,w,a,hr,k,hA,h=>by
   cases h with
   | cons h r =>
     obtain ⟨hn1,hn2⟩:=List.nodup_cons.1 hnd
     have htn:=hlt t (by simp)
     obtain ⟨a1,w1,μ1,e1,e2,e3,e4,e5,e6⟩:=step0_ok hc (hop t htn) (g.made t htn) hr k (hA t (by simp)) h
     obtain ⟨a2,w2,μ2,f1,f2,f3,f4⟩:=run0_ok hc g hop hn2 (fun t h=>hlt t (by simp [h])) e2 e1 (fun t2 ht2 hk i hi=>by
      obtain ⟨k1,k2⟩:=hA t2 (by simp [ht2]) hk i hi
      refine ⟨?_,Nat.lt_of_lt_of_le k2 e5⟩
      rw [e4 i k2 (fun hk1 hi1=>?_)]
      ·exact k1
      ·have:=g.ranks t t2 htn (hlt t2 (by simp [ht2])) (by rintro rfl; exact hn1 ht2) hk1 hk
       have a:=nthId_num hi1
       have b:=nthId_num hi
       omega) r
     exact ⟨a2,w2,μ2,f1,f2,fun h=>f3 (e3 h),(e6 _).trans f4⟩
end Go.Proofs.YtaihbcmifjmapaaGreat.Ev
namespace Go.Proofs.YtaihbcmifjmapaaGreat.Ev
open Go Go.RowKit
set_option linter.unusedVariables false
variable {ops:Array Oper}
theorem nodup_full {n:Nat} {l:List Nat} (h:l.Nodup) (hl:∀ x∈l,x < n) (hn:n≤l.length):∀ i,i < n→i∈l:=by
 intro i hi
 by_cases hm:i∈l
 ·exact hm
 ·have h2:(i::l).Nodup:=List.nodup_cons.2 ⟨hm,h⟩
  have:=h2.length_le_of_subset (l₂:=List.range n) (by
   intro x hx
   rcases List.mem_cons.1 hx with rfl | hx
   ·exact List.mem_range.2 hi
   ·exact List.mem_range.2 (hl x hx))
  simp at this
  omega
def Keeps (ops:Array Oper) (S:List Nat):Prop:=∀ S1 i S2,S=S1++i::S2→∀ o,ops[i]? = some o→∀ e∈o.after.toList,Region.binds .any e=true→e.on∈S1
def Backs (ops:Array Oper):Prop:=∀ i o,ops[i]? = some o→∀ e∈o.after.toList,Region.binds .any e=true→e.on < i
theorem missing {n:Nat} {D:List Nat} (h:D.length < n):∃ i,i < n∧i∉D∧∀ j,j < i→j∈D:=by
 have ex:∃ i,i < n∧i∉D:=by
  by_cases hall:∀ i,i < n→i∈D
  ·have:=(List.nodup_range (n:=n)).length_le_of_subset (l₂:=D) (fun x hx=>hall x (List.mem_range.1 hx))
   simp at this
   omega
  ·simp only [Classical.not_forall] at hall
   obtain ⟨i,h1,h2⟩:=hall
   exact ⟨i,h1,h2⟩
 have aux:∀ i,i < n→i∉D→∃ i,i < n∧i∉D∧∀ j,j < i→j∈D:=by
  intro i
  induction i using Nat.strongRecOn with
  | _ i ih =>
    intro h1 h2
    by_cases hj:∀ j,j < i→j∈D
    ·exact ⟨i,h1,h2,hj⟩
    ·simp only [Classical.not_forall] at hj
     obtain ⟨j,k1,k2⟩:=hj
     exact ih j k1 (by omega) k2
 obtain ⟨i,h1,h2⟩:=ex
 exact aux i h1 h2
theorem Keeps.snoc {D:List Nat} {i:Nat} (h:Keeps ops D) (hi:∀ o,ops[i]? = some o→∀ e∈o.after.toList,Region.binds .any e=true→e.on∈D):Keeps ops (D++[i]):=by
 intro S1 j S2 hs o ho e he hb
 rcases List.append_eq_append_iff.1 hs with ⟨A,h1,h2⟩ | ⟨A,h1,h2⟩
 ·cases A with
  | nil =>
    simp only [List.nil_append,List.append_nil,List.cons.injEq] at h1 h2
    obtain ⟨rfl, -⟩:=h2
    subst h1
    exact hi o ho e he hb
  | cons a A =>
    simp only [List.cons_append,List.cons.injEq] at h2
    obtain ⟨-,h2⟩:=h2
    cases A <;> cases h2
 ·cases A with
  | nil =>
    simp only [List.nil_append,List.append_nil,List.cons.injEq] at h1 h2
    obtain ⟨rfl, -⟩:=h2
    subst h1
    exact hi o ho e he hb
  | cons a A =>
    simp only [List.cons_append,List.cons.injEq] at h2
    obtain ⟨rfl,h2⟩:=h2
    exact h S1 j A h1 o ho e he hb
theorem linear_go (hb:Backs ops):∀ (fuel t:Nat) (listed:Array Bool) (D:List Nat),listed.size=ops.size→(∀ i,i < ops.size→(listed[i]? = some true↔i∈D))→D.Nodup→(∀ i∈D,i < ops.size)→D.length+fuel=ops.size→Keeps ops D →
  (D++Region.linearise.go .any ops fuel t listed []).Nodup∧(∀ i∈D++Region.linearise.go .any ops fuel t listed [],i < ops.size)∧(D++Region.linearise.go .any ops fuel t listed []).length=ops.size∧Keeps ops (D++Region.linearise.go .any ops fuel t listed []):=by
 intro fuel
 induction fuel with
 | zero =>
   intro t listed D hs hl hn hlt hlen hk
   have:Region.linearise.go .any ops 0 t listed []=[]:=rfl
   rw [this,List.append_nil]
   exact ⟨hn,hlt,by omega,hk⟩
 | succ fuel ih =>
   intro t listed D hs hl hn hlt hlen hk
   have mem_ready:∀ i,i∈Region.ready .any ops listed↔i < ops.size∧i∉D∧∀ o,ops[i]? = some o→∀ e∈o.after.toList,Region.binds .any e=true→e.on∈D:=by
    intro i
    unfold Region.ready
    rw [List.mem_filter,List.mem_range]
    constructor
    ·rintro ⟨h1,h2⟩
     rw [Bool.and_eq_true] at h2
     obtain ⟨h2,h3⟩:=h2
     refine ⟨h1,fun hm=>?_,fun o ho e he hbnd=>?_⟩
     ·have:=(hl i h1).2 hm
      simp [Array.getD_eq_getD_getElem?,this] at h2
     ·rw [ho] at h3
      simp only [Option.map_some,Option.getD_some,← Array.all_toList,List.all_eq_true] at h3
      have:=h3 e he
      rw [hbnd] at this
      simp only [Bool.not_true,Bool.false_or,Array.getD_eq_getD_getElem?] at this
      have hlt2:e.on < ops.size:=Nat.lt_trans (hb i o ho e he hbnd) h1
      refine (hl e.on hlt2).1 ?_
      have hsz:e.on < listed.size:=by rw [hs]; exact hlt2
      rw [Array.getElem?_eq_getElem hsz] at this ⊢
      simpa using this
    ·rintro ⟨h1,h2,h3⟩
     refine ⟨h1,?_⟩
     rw [Bool.and_eq_true]
     constructor
     ·have hsz:i < listed.size:=by rw [hs]; exact h1
      have:listed[i]? ≠ some true:=fun h=>h2 ((hl i h1).1 h)
      rw [Array.getD_eq_getD_getElem?,Array.getElem?_eq_getElem hsz] at *
      simp only [Option.getD_some,Bool.not_eq_true']
      cases hv:listed[i] with
      | false=>rfl
      | true=>rw [hv] at this; exact absurd rfl this
     ·have ho:=Array.getElem?_eq_getElem h1
      rw [ho]
      simp only [Option.map_some,Option.getD_some,← Array.all_toList,List.all_eq_true]
      intro e he
      cases hbnd:Region.binds .any e with
      | false=>rfl
      | true =>
        have hd:=h3 _ ho e he hbnd
        have:=(hl e.on (hlt _ hd)).2 hd
        simp [Array.getD_eq_getD_getElem?,this]
   obtain ⟨i0,a1,a2,a3⟩:=missing (n:=ops.size) (D:=D) (by omega)
   have r0:i0∈Region.ready .any ops listed:=(mem_ready i0).2 ⟨a1,a2,fun o ho e he hbnd=>a3 _ (hb i0 o ho e he hbnd)⟩
   have hpos:0 < (Region.ready .any ops listed).length:=List.length_pos_of_mem r0
   have hidx:=Nat.mod_lt t hpos
   obtain ⟨i,hi⟩:∃ i,(Region.ready .any ops listed)[t % (Region.ready .any ops listed).length]? = some i:=⟨_,List.getElem?_eq_getElem hidx⟩
   have hgo:Region.linearise.go .any ops (fuel+1) t listed []=i::Region.linearise.go .any ops fuel (t / (Region.ready .any ops listed).length) (listed.setIfInBounds i true) []:=by
    show (match (Region.ready .any ops listed)[t % (Region.ready .any ops listed).length]? with
     | some i=>Region.linearise.go .any ops fuel (t / (Region.ready .any ops listed).length) (listed.setIfInBounds i true) [i]
     | none=>[].reverse)=_
    rw [hi]
    simp only []
    rw [linearise_go_acc]
    rfl
   obtain ⟨b1,b2,b3⟩:=(mem_ready i).1 (List.mem_of_getElem? hi)
   have:=ih (t / (Region.ready .any ops listed).length) (listed.setIfInBounds i true) (D++[i]) (by simp [hs]) (fun j hj=>by
     by_cases hij:i=j
     ·subst hij
      rw [Array.getElem?_setIfInBounds_self_of_lt (by rw [hs]; exact hj)]
      simp
     ·rw [Array.getElem?_setIfInBounds_ne hij,hl j hj]
      simp only [List.mem_append,List.mem_singleton]
      constructor
      ·exact .inl
      ·rintro (h | h)
       ·exact h
       ·exact absurd h.symm hij)
    (List.nodup_append.2 ⟨hn,by simp,by rintro x hx y hy; rw [List.mem_singleton] at hy; subst hy; rintro rfl; exact b2 hx⟩)
    (by intro x hx; rcases List.mem_append.1 hx with hx | hx; exact hlt x hx; rw [List.mem_singleton] at hx; subst hx; exact b1)
    (by simp; omega) (hk.snoc b3)
   rw [hgo,show D++i::Region.linearise.go .any ops fuel (t / (Region.ready .any ops listed).length) (listed.setIfInBounds i true) []=(D++[i])++Region.linearise.go .any ops fuel (t / (Region.ready .any ops listed).length) (listed.setIfInBounds i true) [] by simp]
   exact this
theorem linear_ok (hb:Backs ops) (t:Nat):(Region.linearise .any ops t).Nodup∧(∀ i∈Region.linearise .any ops t,i < ops.size)∧(Region.linearise .any ops t).length=ops.size∧Keeps ops (Region.linearise .any ops t):=by
 have:=linear_go hb ops.size t (Array.replicate ops.size false) [] (by simp) (fun i hi=>by simp [hi]) (by simp) (fun i h=>by cases h) (by simp) (fun S1 i S2 h=>by cases S1 <;> cases h)
 exact this
end Go.Proofs.YtaihbcmifjmapaaGreat.Ev
namespace Go.Proofs.YtaihbcmifjmapaaGreat.Ev
open Go Go.RowKit
set_option linter.unusedVariables false
variable {P:Program} {γ:Id→List MapEntry} {μ μ':Mu} {nx nx':Id} {B:Nat} {w w':World} {nt:Nat} {R:Regs} {a:Act} {H:Hp} {call:Caller} {nx0:Id} {ops:Array Oper}
theorem mask_bit {T:List Nat} {n i:Nat}:∀ {l:List Edge},(maskOf T n l).testBit i=true→∃ e∈l,Region.binds .any e=true∧(i=e.on∨(tblAt T n e.on).testBit i=true)
 | [],h=>by simp [maskOf] at h
 | e::l,h=>by
   unfold maskOf at h
   split at h
   ·rename_i hb
    rw [Nat.testBit_or,Nat.testBit_or,Bool.or_eq_true,Bool.or_eq_true,Nat.testBit_two_pow] at h
    rcases h with h | h | h
    ·exact ⟨e,by simp,hb,.inl (by simpa using (of_decide_eq_true h).symm)⟩
    ·exact ⟨e,by simp,hb,.inr h⟩
    ·obtain ⟨e',h1,h2⟩:=mask_bit h
     exact ⟨e',by simp [h1],h2⟩
   ·obtain ⟨e',h1,h2⟩:=mask_bit h
    exact ⟨e',by simp [h1],h2⟩
theorem tblAt_cons {T:List Nat} {m n k:Nat} (hk:k < n):tblAt (m::T) (n+1) k=tblAt T n k:=by
 unfold tblAt
 rw [show n+1-1-k=(n-1-k)+1 by omega,List.getElem?_cons_succ]
theorem tbl_spec:∀ (l:List Oper) (T:List Nat) (n:Nat),T.length=n →
  (∀ k,k < n→tblAt (tbl l T n) (n+l.length) k=tblAt T n k) ∧
  ∀ m o,l[m]? = some o→(∀ e∈o.after.toList,Region.binds .any e=true→e.on < n+m)→∀ i,(tblAt (tbl l T n) (n+l.length) (n+m)).testBit i=true →
   ∃ e∈o.after.toList,Region.binds .any e=true∧(i=e.on∨(tblAt (tbl l T n) (n+l.length) e.on).testBit i=true)
 | [],T,n,hT=>⟨fun k hk=>rfl,fun m o h=>by simp at h⟩
 | o::l,T,n,hT=>by
   have hs:tbl (o::l) T n=tbl l (maskOf T n o.after.toList::T) (n+1):=by
    show force (maskOf T n o.after.toList) (fun m=>tbl l (m::T) (n+1))=_
    exact force_eq _ _
   obtain ⟨h1,h2⟩:=tbl_spec l (maskOf T n o.after.toList::T) (n+1) (by simp [hT])
   rw [hs,show n+(o::l).length=n+1+l.length by simp; omega]
   have old:∀ k,k < n→tblAt (tbl l (maskOf T n o.after.toList::T) (n+1)) (n+1+l.length) k=tblAt T n k:=by
    intro k hk
    rw [h1 k (by omega),tblAt_cons hk]
   refine ⟨old,fun m o' hm he i hi=>?_⟩
   cases m with
   | zero =>
     simp only [List.getElem?_cons_zero,Option.some.injEq] at hm
     subst hm
     rw [show n+0=n from rfl] at hi he
     rw [h1 n (by omega)] at hi
     have h0:tblAt (maskOf T n o.after.toList::T) (n+1) n=maskOf T n o.after.toList:=by
      unfold tblAt
      rw [show n+1-1-n=0 by omega]
      rfl
     rw [h0] at hi
     obtain ⟨e,e1,e2,e3⟩:=mask_bit hi
     refine ⟨e,e1,e2,e3.imp id fun h=>?_⟩
     rw [old e.on (by have:=he e e1 e2; omega)]
     exact h
   | succ m =>
     rw [List.getElem?_cons_succ] at hm
     rw [show n+(m+1)=n+1+m by omega] at hi he
     exact h2 m o' hm he i hi
noncomputable def bfOf (ops:Array Oper) (j:Nat):Nat:=tblAt (tbl ops.toList [] 0) ops.size j
theorem bf_edge (hb:Backs ops) {j i:Nat} (hj:j < ops.size) (h:(bfOf ops j).testBit i=true):∃ o,ops[j]? = some o∧∃ e∈o.after.toList,Region.binds .any e=true∧(i=e.on∨(bfOf ops e.on).testBit i=true):=by
 have ho:=Array.getElem?_eq_getElem hj
 obtain ⟨-,h2⟩:=tbl_spec ops.toList [] 0 rfl
 simp only [Nat.zero_add,Array.length_toList] at h2
 exact ⟨_,ho,h2 j _ (by simp) (fun e h1 h2=>hb j _ ho e h1 h2) i h⟩
theorem good_of_keeps (hb:Backs ops) {S:List Nat} (hlt:∀ i∈S,i < ops.size) (hk:Keeps ops S):Good (bfOf ops) S:=by
 intro S1 i
 induction i using Nat.strongRecOn generalizing S1 with
 | _ i ih =>
   intro S2 hS j hj
   obtain ⟨o,ho,e,e1,e2,e3⟩:=bf_edge hb (hlt i (by rw [hS]; simp)) hj
   have hm:=hk S1 i S2 hS o ho e e1 e2
   rcases e3 with rfl | e3
   ·exact hm
   ·obtain ⟨A,C,hAC⟩:=List.append_of_mem hm
    have:=ih e.on (hb i o ho e e1 e2) A (C++i::S2) (by rw [hS,hAC]; simp) j e3
    rw [hAC]
    simp [this]
theorem okC_ok {bf:Nat→Nat} {ks:Nat→K}:∀ {C:List Nat} {done:Nat} {past:List Nat},okC bf ks ops C done past=true→(∀ i,done.testBit i=true↔i∈past) →
  C.Nodup∧(∀ i∈C,i < ops.size∧i∉past)∧∀ C1 i C2,C=C1++i::C2→(∀ j,(bf i).testBit j=true→j∈past∨j∈C1)∧∀ j,(j∈past∨j∈C1)→fitE bf ks ops j i=true
 | [],done,past,_,_=>⟨List.nodup_nil,fun i h=>(by cases h),fun C1 i C2 h=>(by cases C1 <;> cases h)⟩
 | i::r,done,past,h,hd=>by
   unfold okC at h
   rw [force_eq] at h
   simp only [Bool.and_eq_true,decide_eq_true_eq,Bool.not_eq_true',beq_iff_eq] at h
   obtain ⟨⟨⟨⟨h1,h2⟩,h3⟩,h4⟩,h5⟩:=h
   have hni:i∉past:=fun hm=>by rw [(hd i).2 hm] at h2; cases h2
   obtain ⟨k1,k2,k3⟩:=okC_ok h5 (fun j=>by
    rw [show Nat.lor done (2 ^ i)=done ||| 2 ^ i from rfl,Nat.testBit_or,Nat.testBit_two_pow,Bool.or_eq_true,hd j,decide_eq_true_eq,List.mem_cons]
    constructor
    ·rintro (h | h)
     ·exact .inr h
     ·exact .inl h.symm
    ·rintro (h | h)
     ·exact .inr h.symm
     ·exact .inl h)
   refine ⟨List.nodup_cons.2 ⟨fun hm=>(k2 i hm).2 (by simp),k1⟩,fun j hj=>?_,fun C1 j C2 hC=>?_⟩
   ·rcases List.mem_cons.1 hj with rfl | hj
    ·exact ⟨h1,hni⟩
    ·exact ⟨(k2 j hj).1,fun hm=>(k2 j hj).2 (by simp [hm])⟩
   ·cases C1 with
    | nil =>
      simp only [List.nil_append,List.cons.injEq] at hC
      obtain ⟨rfl, -⟩:=hC
      refine ⟨fun j hj => .inl ((hd j).1 ?_),fun j hj=>?_⟩
      ·rw [← h3,show Nat.land (bf i) done=bf i &&& done from rfl,Nat.testBit_and,Bool.and_eq_true] at hj
       exact hj.2
      ·rcases hj with hj | hj
       ·exact List.all_eq_true.1 h4 j hj
       ·cases hj
    | cons c C1 =>
      simp only [List.cons_append,List.cons.injEq] at hC
      obtain ⟨rfl,hC⟩:=hC
      obtain ⟨q1,q2⟩:=k3 C1 j C2 hC
      refine ⟨fun j' hj'=>?_,fun j' hj'=>q2 j' ?_⟩
      ·rcases q1 j' hj' with h | h
       ·rcases List.mem_cons.1 h with rfl | h
        ·exact .inr (by simp)
        ·exact .inl h
       ·exact .inr (by simp [h])
      ·rcases hj' with h | h
       ·exact .inl (by simp [h])
       ·rcases List.mem_cons.1 h with rfl | h
        ·exact .inl (by simp)
        ·exact .inr h
end Go.Proofs.YtaihbcmifjmapaaGreat.Ev
namespace Go.Proofs.YtaihbcmifjmapaaGreat.Ev
open Go Go.RowKit
set_option linter.unusedVariables false
variable {P:Program} {γ:Id→List MapEntry} {μ μ':Mu} {nx nx':Id} {B:Nat} {w w':World} {nt:Nat} {R:Regs} {a:Act} {H:Hp} {call:Caller} {nx0:Id} {ops:Array Oper}
theorem ranks_mem {ks:Nat→K}:∀ {C:List Nat} {n:Nat},(∀ x∈ranks ks C n,n≤x.2∧x.2 < n+(ranks ks C n).length∧x.1∈C)∧(∀ x∈ranks ks C n,∀ y∈ranks ks C n,x.2=y.2→x=y)∧∀ i∈C,ks i = .a→∃ m,(i,m)∈ranks ks C n
 | [],n=>⟨fun x h=>(by cases h),fun x h=>(by cases h),fun i h=>(by cases h)⟩
 | c::C,n=>by
   unfold ranks
   split
   ·rename_i hc
    obtain ⟨h1,h2,h3⟩:=ranks_mem (ks:=ks) (C:=C) (n:=n+1)
    refine ⟨fun x hx=>?_,fun x hx y hy hxy=>?_,fun i hi hk=>?_⟩
    ·rcases List.mem_cons.1 hx with rfl | hx
     ·exact ⟨Nat.le_refl _,by simp,by simp⟩
     ·obtain ⟨a,b,d⟩:=h1 x hx
      exact ⟨by omega,by simp only [List.length_cons]; omega,by simp [d]⟩
    ·rcases List.mem_cons.1 hx with rfl | hx
     ·rcases List.mem_cons.1 hy with rfl | hy
      ·rfl
      ·have:=(h1 y hy).1; simp only at hxy; omega
     ·rcases List.mem_cons.1 hy with rfl | hy
      ·have:=(h1 x hx).1; simp only at hxy; omega
      ·exact h2 x hx y hy hxy
    ·rcases List.mem_cons.1 hi with rfl | hi
     ·exact ⟨n,by simp⟩
     ·obtain ⟨m,hm⟩:=h3 i hi hk
      exact ⟨m,by simp [hm]⟩
   ·rename_i hc
    obtain ⟨h1,h2,h3⟩:=ranks_mem (ks:=ks) (C:=C) (n:=n)
    refine ⟨fun x hx=>?_,h2,fun i hi hk=>?_⟩
    ·obtain ⟨a,b,d⟩:=h1 x hx
     exact ⟨a,b,by simp [d]⟩
    ·rcases List.mem_cons.1 hi with rfl | hi
     ·exact absurd hk hc
     ·exact h3 i hi hk
theorem rank_of {rk:List (Nat×Nat)} (inj:∀ x∈rk,∀ y∈rk,x.2=y.2→x=y) {i:Nat} (h:∃ m,(i,m)∈rk):(i,((rk.find? fun x=>x.1==i).map (·.2)).getD 0)∈rk:=by
 obtain ⟨m,hm⟩:=h
 cases hf:rk.find? fun x=>x.1==i with
 | none =>
   have:=List.find?_eq_none.1 hf (i,m) hm
   simp at this
 | some x =>
   have h1:=List.find?_some hf
   have h2:=List.mem_of_find?_eq_some hf
   simp only [beq_iff_eq] at h1
   obtain ⟨x1,x2⟩:=x
   simp only at h1
   subst h1
   exact h2
noncomputable def opAt (ops : Array Oper) (i : Nat) : Oper := (ops[i]?).getD ⟨none, .move (.const undef), 0, "", #[], none⟩
theorem opAt_eq {i:Nat} (h:i < ops.size):ops[i]? = some (opAt ops i):=by
 unfold opAt
 rw [Array.getElem?_eq_getElem h]
 rfl
theorem ksOf_eq (P:Program) {i:Nat} (h:i < ops.size):ksOf P ops i=kindO (prepO P (opAt ops i).op (opAt ops i).type):=by
 unfold ksOf
 rw [opAt_eq h]
theorem prDs_eq {bf:Nat→Nat} {ks:Nat→K} {rk:List (Nat×Nat)}:∀ {C:List Nat},(∀ i∈C,i < ops.size)→prDs P ops nt bf ks rk C=C.map fun i=>prD P ops nt bf ks rk i (opAt ops i)
 | [],_=>rfl
 | i::C,h=>by
   unfold prDs
   rw [opAt_eq (h i (by simp))]
   simp only [List.map_cons]
   rw [prDs_eq (fun j hj=>h j (by simp [hj]))]
theorem rgn_ok {bf:Nat→Nat} {C:List Nat} (hn:ops.size≤256) (hC:∀ i,i < ops.size→i∈C) :
  Rgn P ops nt bf ops.size (opAt ops) (fun i=>prD P ops nt bf (ksOf P ops) (ranks (ksOf P ops) C 0) i (opAt ops i)):=by
 obtain ⟨r1,r2,r3⟩:=ranks_mem (ks:=ksOf P ops) (C:=C) (n:=0)
 have rank:∀ i,i < ops.size→kindO (prepO P (opAt ops i).op (opAt ops i).type) = .a→(i,(prD P ops nt bf (ksOf P ops) (ranks (ksOf P ops) C 0) i (opAt ops i)).rank)∈ranks (ksOf P ops) C 0:=by
  intro i hi hk
  exact rank_of r2 (r3 i (hC i hi) (by rw [ksOf_eq P hi]; exact hk))
 refine ⟨hn,fun i _=>⟨rfl,rfl,rfl,rfl⟩,fun _ _=>rfl,fun i j hi hj h1 h2 h3=>?_,fun i j hi hj h1 h2 h3 h4=>?_,fun i j hi hj hij h1 h2 h3=>?_,fun i j hi hj h1 h2 h3 h4=>?_⟩
 ·replace h1:kindO (prepO P (opAt ops i).op (opAt ops i).type) = .a:=h1
  replace h2:kindO (prepO P (opAt ops j).op (opAt ops j).type) = .r:=h2
  have hm:=rank i hi h1
  show _∈(match kindO (prepO P (opAt ops j).op (opAt ops j).type) with | .p | .a=>[] | .r=>_ | .x=>_)
  rw [h2]
  exact List.mem_map.2 ⟨_,List.mem_filter.2 ⟨hm,by simp [h3]⟩,rfl⟩
 ·replace h1:kindO (prepO P (opAt ops i).op (opAt ops i).type) = .a:=h1
  replace h2:kindO (prepO P (opAt ops j).op (opAt ops j).type) = .x:=h2
  have hm:=rank i hi h1
  show _∈(match kindO (prepO P (opAt ops j).op (opAt ops j).type) with | .p | .a=>[] | .r=>_ | .x=>_)
  rw [h2]
  exact List.mem_map.2 ⟨_,List.mem_filter.2 ⟨hm,by simp [loose,h3,h4]⟩,rfl⟩
 ·have a:=rank i hi h1
  have b:=rank j hj h2
  have:=r2 _ a _ b h3
  injection this with this
  exact hij this
 ·replace h1:kindO (prepO P (opAt ops i).op (opAt ops i).type) = .r:=h1
  replace h2:kindO (prepO P (opAt ops j).op (opAt ops j).type) = .x:=h2
  refine ⟨List.any_eq_true.2 ⟨j,List.mem_range.2 hj,by rw [ksOf_eq P hj,h2]; simp [loose,h3,h4]⟩,?_⟩
  show _∈(if kindO (prepO P (opAt ops j).op (opAt ops j).type) = .x then _ else [])
  rw [if_pos h2]
  refine List.mem_filterMap.2 ⟨i,List.mem_range.2 hi,?_⟩
  rw [if_pos ⟨by rw [ksOf_eq P hi]; exact h1,by simp [loose,h3,h4]⟩,opAt_eq hi]
  show some _=some (i,prepO P (opAt ops i).op (opAt ops i).type,(match kindO (prepO P (opAt ops i).op (opAt ops i).type) with | .p | .a=>[] | .r=>_ | .x=>_))
  rw [h1]
theorem backs_of:∀ {l:List Oper} {n:Nat},edgesAll l n=true→∀ m o,l[m]? = some o→∀ e∈o.after.toList,Region.binds .any e=true→e.on < n+m
 | [],n,_,m,o,h,_,_,_=>by simp at h
 | x::l,n,h,m,o,hm,e,he,hb=>by
   unfold edgesAll at h
   rw [Bool.and_eq_true] at h
   cases m with
   | zero =>
     simp only [List.getElem?_cons_zero,Option.some.injEq] at hm
     subst hm
     have h1:=h.1
     unfold edgesOk at h1
     rw [Bool.and_eq_true,List.all_eq_true] at h1
     have:=h1.1 e he
     rw [hb] at this
     simpa using this
   | succ m =>
     rw [List.getElem?_cons_succ] at hm
     have:=backs_of h.2 m o hm e he hb
     omega
theorem regD_ok (hc:CallOk P B call) {l:List PR} {n:Nat} {nx1:Id} (hp:prepD P ops nt=some (l,n)) (hn:nthId nx n=some nx1) (hr:HR P γ μ (fun q=>getRow q H) nx B w) (k:RegOk μ nt R a.tmps) {kk:ContD} {u:Out}
  (h:evD P call nx l R H nx1 noLog kk=some u) (t:Nat) :
  ∃ R' H' nx' log a' w' μ',kk R' H' nx' log=some u∧RegOk μ' nt R' a'.tmps∧HR P γ μ' (fun q=>getRow q H') nx' B w'∧Goes μ (fun q=>getRow q H) nx w μ' (fun q=>getRow q H') nx' w'∧Moves P ops (Region.linearise .any ops t) a w.drew [] a' w':=by
 unfold prepD at hp
 simp only at hp
 split at hp
 rotate_left
 ·cases hp
 rename_i hcond
 simp only [Bool.and_eq_true,decide_eq_true_eq,beq_iff_eq] at hcond
 obtain ⟨⟨⟨c1,c2⟩,c3⟩,c4⟩:=hcond
 injection hp with hp
 injection hp with hp1 hp2
 have hb:Backs ops:=fun i o ho e he hbnd=>by
  have:=backs_of c2 i o (by simpa using ho) e he hbnd
  omega
 obtain ⟨k1,k2,k3⟩:=okC_ok c4 (fun i=>by simp)
 have hC:∀ i,i < ops.size→i∈canon (bfOf ops) (ksOf P ops) ops.size 0 (List.range ops.size):=nodup_full k1 (fun x hx=>(k2 x hx).1) (Nat.le_of_eq c3.symm)
 have g:=rgn_ok (P:=P) (nt:=nt) (bf:=bfOf ops) c1 hC
 obtain ⟨s',e1,e2⟩:=evD_run h
 rw [← hp1] at e1
 rw [prDs_eq (fun i hi=>(k2 i hi).1)] at e1
 obtain ⟨l1,l2,l3,l4⟩:=linear_ok hb t
 have hperm:=(List.perm_ext_iff_of_nodup l1 k1).2 fun i=>⟨fun hi=>hC i (l2 i hi),fun hi=>nodup_full l1 l2 (Nat.le_of_eq l3.symm) i (k2 i hi).1⟩
 have r:=reorder g _ rfl k1 (fun i hi=>(k2 i hi).1) (fun C1 i C2 h j hj=>by
   rcases (k3 C1 i C2 h).1 j hj with h | h
   ·cases h
   ·exact h) (fun C1 i C2 h j hj=>by
   have:=(k3 C1 i C2 h).2 j (.inr hj)
   unfold fitE at this
   rw [Bool.or_eq_true] at this
   have hjn:j < ops.size:=(k2 j (by rw [h]; simp [hj])).1
   have hin:i < ops.size:=(k2 i (by rw [h]; simp)).1
   refine this.imp id fun hf=>?_
   rw [opAt_eq hjn,opAt_eq hin] at hf
   simp only [Bool.and_eq_true] at hf
   refine ⟨hf.1,?_⟩
   rw [ksOf_eq P hjn,ksOf_eq P hin] at hf
   exact hf.2) hperm (good_of_keeps hb l2 l4) e1
 have hnum:=nthId_num hn
 have hle:nx.num≤nx1.num:=by omega
 obtain ⟨r1,r2,r3⟩:=ranks_mem (ks:=ksOf P ops) (C:=canon (bfOf ops) (ksOf P ops) ops.size 0 (List.range ops.size)) (n:=0)
 obtain ⟨a',w',μ',f1,f2,f3,f4⟩:=run0_ok (w:=w.drew) (a:=a) hc g (fun i hi=>opAt_eq hi) l1 l2 (s:=⟨R,H,nx1,noLog⟩) (hr.drew.later hle) k (fun i hi hk j hj=>by
   have hin:=l2 i hi
   have hm:=rank_of r2 (r3 i (hC i hin) (by rw [ksOf_eq P hin]; exact hk))
   have h1:=(r1 _ hm).2.1
   have h2:=nthId_num hj
   have h3:(prD P ops nt (bfOf ops) (ksOf P ops) (ranks (ksOf P ops) (canon (bfOf ops) (ksOf P ops) ops.size 0 (List.range ops.size)) 0) i (opAt ops i)).rank < n:=by
    rw [← hp2]
    have:0+(ranks (ksOf P ops) (canon (bfOf ops) (ksOf P ops) ops.size 0 (List.range ops.size)) 0).length=(ranks (ksOf P ops) (canon (bfOf ops) (ksOf P ops) ops.size 0 (List.range ops.size)) 0).length:=Nat.zero_add _
    rw [this] at h1
    exact h1
   exact ⟨hr.fresh j (by omega),by simp only; omega⟩) r
 exact ⟨s'.R,s'.H,s'.nx,s'.log,a',w',μ',e2,f1,f2,f3 ((Goes.refl _ _ _ _).drew.later hle),f4⟩
end Go.Proofs.YtaihbcmifjmapaaGreat.Ev
