/- Opening the arguments of a statement: the values of the arguments as lists and numbers; the last step out of Below. -/
import Derived.Test.YtjpfjklobnilkaaGreatPB
import Derived.Deep.Slices
import Derived.Deep.Fields
import Derived.ChangeSame
import Derived.Lib.SmallJoins
import Derived.Below
import Derived.Carry
namespace Go.Proofs.YtjpfjklobnilkaaGreat
open Go.RowKit Go.Shelf Go.Joins Go.ChangeShapes Go.WideShapes Go.Deep
set_option linter.unusedVariables false
section
variable {H:Type} {enc:TypeId×Value→H} {P:Program}
theorem last_of_below {f:Func} {s:ChangeSpec} {apart fresh handsOn again:Bool} {W W':World} {args:Array Value} {v:Value} {ds gs:List (DataW H)} {before pa pv:List MemPlace}
  (hW:DataW.Whole enc P f.params.toList s.vars apart W args.toList ds gs before)
  (hres:∀ (b:Nat) (sp:Nat→Bool) (hd:Bool),DataW.TrodAll enc P W' b sp hd f.resultTypes.toList (v.resultList f.resultTypes.size) (s.fn H (ds++gs)).results [])
  (hargs:∀ sp:Nat→Bool,(∀ p∈before,sp p.block=true)→DataW.TrodAll enc P W' 0 sp true f.params.toList args.toList (s.fn H (ds++gs)).args pa)
  (hvars:∀ sp:Nat→Bool,(∀ p∈before,sp p.block=true)→DataW.TrodVars enc P W' sp s.vars (s.fn H (ds++gs)).vars pv)
  (hps:before=pa++pv) (hb:Below W.heap.size W W')
  (hok:∀ (j:Nat) (t:TypeId) (r:Value),f.resultTypes[j]? = some t→(v.resultList f.resultTypes.size)[j]? = some r→Value.okWide P W' .any 0 t r) :
  s.post enc P f apart fresh handsOn again W args v W':=by
 have hlt:∀ p∈before,p.block < W.heap.size:=fun p hp=>hW.lt p hp
 have hold:∀ p∈before,(fun b=>decide (b < W.heap.size)) p.block=true:=fun p hp=>by simpa using hlt p hp
 refine ⟨ds,gs,before,[],pa,pv,hW,hres _ _ _,hargs _ hold,hvars _ hold,World.keptBut_mono (fun p hp=>⟨hp,?_⟩) (hb.frame (·∈before)),fun _=>?_⟩
 ·rw [hps,List.mem_append] at hp
  exact Or.inr hp
 ·obtain ⟨_,_,_,_,_,hz,hn⟩:=hW
  refine ⟨hok,_,_,([]++pa)++pv,⟨[]++pa,pv,trodAll_append (hargs _ (fun _ _=>rfl)) (hres _ _ _),hvars _ (fun _ _=>rfl),rfl,?_,?_⟩,?_⟩
  ·intro b off hp
   have hin:MemPlace.cell b off∈before:=by rw [hps]; simpa using hp
   rw [hb.frozen (hlt _ hin)]
   exact hz b off hin
  ·intro ha
   have:=hn ha
   rw [hps] at this
   simpa using this
  ·intro p hp _
   rw [hps]
   simpa using hp
variable {w:World} {base:Nat} {spare:Nat→Bool} {held:Bool}
theorem arr_of_trod {α:Type} [Inhabited α] {t e:TypeId} {size fuel:Nat} {cs:List Value} {x:DataW H×List MemPlace} {cell:α→Nat→Value} (ht:P.underlying t=some (.slice e)) (hC:P.cellsOf e=size) (hpos:0 < size)
  (hel:∀ (n:Nat) (cs':List Value) (y:DataW H×List MemPlace),DataW.trod enc P w base spare held n e cs'=some y→∃ x:α,∀ j,j < size→cs'[j]? = some (cell x j))
  (h:DataW.trod enc P w base spare held fuel t cs=some x):∃ v l,cs=[v]∧Arr w w.heap.size size v l cell:=by
 rcases open_slice ht h with ⟨h0,_⟩ | ⟨a,len,cap,m,n,D,Pl,hcs,hb,hl,hm,hmm,hx,hi⟩
 ·exact ⟨_,[],h0,Arr.nil_⟩
 ·have hlm:len≤m:=by rw [hmm]; split <;> omega
  have hc:∀ i,i < len→∃ x:α,∀ j,j < size→w.cell? (a.add (i * size+j))=some (cell x j):=by
   intro i him
   obtain ⟨cs',h1,h2⟩:=hi i (by omega)
   obtain ⟨x,hx⟩:=hel _ _ _ h2
   rw [hC] at h1
   obtain ⟨_,hcl,hat⟩:=World.cells?_some h1
   refine ⟨x,fun j hj=>?_⟩
   rw [← Go.Deep.add_add,hat j hj]
   exact hx j hj
  have hf:∀ i,∃ x:α,i < len→∀ j,j < size→w.cell? (a.add (i * size+j))=some (cell x j):=by
   intro i
   by_cases hil:i < len
   ·obtain ⟨x,hx⟩:=hc i hil
    exact ⟨x,fun _=>hx⟩
   ·exact ⟨default,fun h=>absurd h hil⟩
  let f:=fun i=>Classical.choose (hf i)
  have hf2:=fun i=>Classical.choose_spec (hf i)
  refine ⟨_,(List.range len).map f,hcs,some a,cap,by simp,by simpa using hl,by simp only [maxLen] at hm; omega,?_⟩
  intro hpos0
  have hpos1:0 < len:=by simpa using hpos0
  have h00:=hf2 0 hpos1 0 hpos
  have hblk:=World.block_lt_of_cell? _ _ h00
  obtain ⟨b,off,sel⟩:=a
  cases sel with
  | some s=>exact absurd h00 (by simp [Addr.add,World.cell?]; split <;> simp)
  | none =>
    refine ⟨b,off,rfl,by simpa [Addr.add] using hblk,?_⟩
    intro i x hx j hj
    simp only [List.getElem?_map,Option.map_eq_some_iff] at hx
    obtain ⟨i',hi',rfl⟩:=hx
    rw [List.getElem?_eq_some_iff] at hi'
    obtain ⟨hlt,rfl⟩:=hi'
    have:=hf2 i (by simpa using hlt) j hj
    simp only [List.getElem_range]
    rw [← this]
    congr 1
    unfold Addr.add
    split
    ·rename_i h0
     rw [Nat.add_assoc,h0]
     rfl
    ·simp [Nat.add_assoc]
theorem ints_of_struct {e:TypeId} {fs:Array Field} {n:Nat} {cs:List Value} {y:DataW H×List MemPlace} {k:IntKind} (he:P.underlying e=some (.struct fs)) (hone:oneCellFields P fs=true)
  (hk:∀ (j:Nat) (f:Field),fs[j]? = some f→P.underlying f.type=some (.int k)) (hC:P.cellsOf e=fs.size) (h:DataW.trod enc P w base spare held n e cs=some y):∀ j,j < fs.size→∃ z:Int,cs[j]? = some (.int k z):=by
 intro j hj
 obtain ⟨ys,n',hn',hy,hlen,hyl,hf⟩:=DataW.trod_struct he h
 rw [hC] at hlen
 have hjf:fs[j]? = some fs[j]:=Array.getElem?_eq_getElem hj
 obtain ⟨ho,hk'⟩:=hone_of hone j _ hjf
 have h1:=hf j _ hjf
 rw [ho,hk'] at h1
 have hys:ys[j]? = some (ys[j]'(by omega)):=List.getElem?_eq_getElem (by omega)
 rw [hys] at h1
 obtain ⟨z,hz,_⟩:=DataW.trod_int (hk j _ hjf) h1
 refine ⟨z,?_⟩
 have hl:j < cs.length:=by omega
 rw [List.drop_eq_getElem_cons hl,List.take_succ_cons,List.take_zero] at hz
 have hz':cs[j] = .int k z:=(List.cons.inj hz).1
 rw [List.getElem?_eq_getElem hl,hz']
end
section
variable {H:Type} {enc:TypeId×Value→H} {P:Program} {w:World} {base:Nat} {spare:Nat→Bool} {held:Bool}
theorem agg_five {r:Reach} {b0:Nat} {t:TypeId} {f0 f1 f2 f3 f4:Field} {v:Value} {d:DataW H} {p:List MemPlace} (hs:P.underlying t=some (.struct #[f0,f1,f2,f3,f4])) (hone:oneCellFields P #[f0,f1,f2,f3,f4]=true) (hC:P.cellsOf t=5)
  (hv:Value.okWide P w r b0 t v) (h:DataW.Trod enc P w base spare held t v d p) :
  ∃ (v0 v1 v2 v3 v4:Value) (y0 y1 y2 y3 y4:DataW H×List MemPlace) (n:Nat),v = .agg #[v0,v1,v2,v3,v4]∧d = .agg [y0.1,y1.1,y2.1,y3.1,y4.1]∧p=y0.2++(y1.2++(y2.2++(y3.2++y4.2))) ∧
   DataW.trod enc P w base spare held n f0.type [v0]=some y0∧DataW.trod enc P w base spare held n f1.type [v1]=some y1∧DataW.trod enc P w base spare held n f2.type [v2]=some y2∧DataW.trod enc P w base spare held n f3.type [v3]=some y3∧DataW.trod enc P w base spare held n f4.type [v4]=some y4:=by
 obtain ⟨cs,rfl,hsz⟩:=okWide_struct hs hv
 obtain ⟨l⟩:=cs
 match l,hsz.trans hC with
 | [c0,c1,c2,c3,c4],_ =>
   obtain ⟨fuel,hf⟩:=h
   obtain ⟨xs,n,_,hx,_,hlen,hg⟩:=DataW.trod_struct hs hf
   obtain ⟨o0,k0⟩:=hone_of hone 0 f0 rfl
   obtain ⟨o1,k1⟩:=hone_of hone 1 f1 rfl
   obtain ⟨o2,k2⟩:=hone_of hone 2 f2 rfl
   obtain ⟨o3,k3⟩:=hone_of hone 3 f3 rfl
   obtain ⟨o4,k4⟩:=hone_of hone 4 f4 rfl
   match xs,hlen with
   | [y0,y1,y2,y3,y4],_ =>
     simp only [Prod.mk.injEq] at hx
     exact ⟨c0,c1,c2,c3,c4,y0,y1,y2,y3,y4,n,rfl,by simpa using hx.1,by simpa using hx.2,by simpa [Value.cells,o0,k0] using hg 0 f0 rfl,by simpa [Value.cells,o1,k1] using hg 1 f1 rfl,by simpa [Value.cells,o2,k2] using hg 2 f2 rfl,by simpa [Value.cells,o3,k3] using hg 3 f3 rfl,by simpa [Value.cells,o4,k4] using hg 4 f4 rfl⟩
end
section
variable {H:Type} {enc:TypeId×Value→H} {w:World} {spare:Nat→Bool} {held:Bool} {fuel:Nat} {cs:List Value} {x:DataW H×List MemPlace}
theorem ints_arr {t e:TypeId} {k:IntKind} (ht:Tryz.prog.underlying t=some (.slice e)) (he:Tryz.prog.underlying e=some (.int k)) (hC:Tryz.prog.cellsOf e=1)
  (h:DataW.trod enc Tryz.prog w 0 spare held fuel t cs=some x):∃ v l,cs=[v]∧Arr w w.heap.size 1 v l (fun (i:Int) _ => .int k i):=by
 refine arr_of_trod ht hC (by omega) ?_ h
 intro n cs' y hy
 obtain ⟨z,rfl,_⟩:=DataW.trod_int he hy
 refine ⟨z,fun j hj=>?_⟩
 have:j=0:=by omega
 subst this
 rfl
theorem fields3 {fs:Array Field} {a b c:Field} (h:fs=#[a,b,c]) {p:Field→Prop} (ha:p a) (hb:p b) (hc:p c):∀ (j:Nat) (f:Field),fs[j]? = some f→p f:=by
 subst h
 intro j f hj
 match j,hj with
 | 0,hj=>simp at hj; exact hj ▸ ha
 | 1,hj=>simp at hj; exact hj ▸ hb
 | 2,hj=>simp at hj; exact hj ▸ hc
 | _+3,hj=>simp at hj
theorem pas_of {n:Nat} {cs':List Value} {y:DataW H×List MemPlace} (hy:DataW.trod enc Tryz.prog w 0 spare held n 30 cs'=some y):∃ x:Pas,∀ j,j < 3→cs'[j]? = some (pcell x j):=by
 have hi:=ints_of_struct (k := .i64) Tryz.underlying30 (by kernel_rfl) (fields3 rfl Tryz.underlying3 Tryz.underlying3 Tryz.underlying2) (by kernel_rfl) hy
 obtain ⟨a,ha⟩:=hi 0 (by decide)
 obtain ⟨b,hb⟩:=hi 1 (by decide)
 obtain ⟨c,hc⟩:=hi 2 (by decide)
 refine ⟨⟨a,b,c⟩,fun j hj=>?_⟩
 have:j=0∨j=1∨j=2:=by omega
 rcases this with rfl | rfl | rfl
 ·exact ha
 ·exact hb
 ·exact hc
theorem pas_arr (h:DataW.trod enc Tryz.prog w 0 spare held fuel 23 cs=some x):∃ v l,cs=[v]∧Arr w w.heap.size 3 v l pcell :=
 arr_of_trod Tryz.underlying23 (by kernel_rfl:Tryz.prog.cellsOf 30=3) (by omega) (fun n cs' y hy=>pas_of hy) h
set_option maxRecDepth 100000 in
theorem open_cyl {v:Value} {d:DataW H} {p:List MemPlace} {r:Reach} {b0:Nat} (hv:Value.okWide Tryz.prog w r b0 25 v) (h:DataW.Trod enc Tryz.prog w 0 spare held 25 v d p):∃ c,CylV w w.heap.size v c:=by
 obtain ⟨v0,v1,v2,v3,v4,y0,y1,y2,y3,y4,n,rfl,rfl,rfl,h0,h1,h2,h3,h4⟩:=agg_five Tryz.underlying25 (by kernel_rfl) (by kernel_rfl) hv h
 obtain ⟨z0,e0,_⟩:=DataW.trod_int (k := .i64) Tryz.underlying3 h0
 obtain ⟨z1,e1,_⟩:=DataW.trod_int (k := .i64) Tryz.underlying3 h1
 obtain ⟨z2,e2,_⟩:=DataW.trod_int (k := .i64) Tryz.underlying3 h2
 obtain ⟨fv,fl,e3,a3⟩:=ints_arr (k := .i64) (e:=3) Tryz.underlying22 Tryz.underlying3 (by kernel_rfl) h3
 obtain ⟨pv,pl,e4,a4⟩:=pas_arr h4
 simp at e0 e1 e2 e3 e4
 subst e0 e1 e2 e3 e4
 exact ⟨⟨z0,z1,z2,fl,pl⟩,v3,v4,rfl,a3,a4⟩
set_option maxRecDepth 100000 in
theorem arg_stays {t:TypeId} {v:Value} {d:DataW H} {ps before:List MemPlace} {sp:Nat→Bool} {W W':World} (hr:Tryz.prog.readableRec t=true) (hrow:t < Tryz.prog.types.size) (h:DataW.Trod enc Tryz.prog W 0 (fun _=>true) true t v d ps)
  (hb:Below W.heap.size W W') (hin:∀ x∈ps,x∈before) (hlt:∀ x∈before,x.block < W.heap.size) (hsp:∀ p∈before,sp p.block=true):DataW.Trod enc Tryz.prog W' 0 sp true t v d ps :=
 WideElems.Trod_stays (by kernel_rfl) hr hrow h (fun x hx=>hb.same (hlt x (hin x hx))) (fun x hx=>hsp x (hin x hx))
end
end Go.Proofs.YtjpfjklobnilkaaGreat
