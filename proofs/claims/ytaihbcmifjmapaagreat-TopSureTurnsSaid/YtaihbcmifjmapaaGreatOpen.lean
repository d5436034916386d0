/- Opening the arguments of a statement: the values of the arguments as lists and numbers; the last step out of Below. -/
import Derived.Test.YtaihbcmifjmapaaGreatPB
import Derived.Deep.Slices
import Derived.Deep.Fields
import Derived.ChangeSame
import Derived.Lib.SmallJoins
import Derived.Below
import Derived.Carry
namespace Go.Proofs.YtaihbcmifjmapaaGreat
open Go.RowKit Go.Shelf Go.Joins Go.ChangeShapes Go.WideShapes Go.Deep
set_option linter.unusedVariables false
section
variable {H:Type} {enc:TypeId×Value→H} {P:Program}
theorem last_of_below {f:Func} {s:ChangeSpec} {apart fresh handsOn again:Bool} {W W':World} {args:Array Value} {v:Value} {ds gs:List (DataW H)} {before pa pv:List MemPlace}
  (hW:DataW.Whole enc P f.params.toList s.vars apart W args.toList ds gs before)
  (hres:∀ (b:Nat) (sp:Nat→Bool) (hd:Bool),DataW.TrodAll enc P W' b sp hd f.resultTypes.toList (v.resultList f.resultTypes.size) (s.fn H (ds++gs)).results [])
  (hargs:∀ sp:Nat→Bool,(∀ p∈before,sp p.block=true)→DataW.TrodAll enc P W' 0 sp true f.params.toList args.toList (s.fn H (ds++gs)).args pa)
  (hvars:∀ sp:Nat→Bool,(∀ p∈before,sp p.block=true)→DataW.TrodVars enc P W' sp s.vars (s.fn H (ds++gs)).vars pv)
  (hps:before=pa++pv) (hb:Below W.heap.size W W')
  (hok:∀ (j:Nat) (t:TypeId) (r:Value),f.resultTypes[j]? = some t→(v.resultList f.resultTypes.size)[j]? = some r→Value.okWide P W' .any 0 t r) :
  s.post enc P f apart fresh handsOn again W args v W':=by
 have hlt:∀ p∈before,p.block < W.heap.size:=fun p hp=>hW.lt p hp
 have hold:∀ p∈before,(fun b=>decide (b < W.heap.size)) p.block=true:=fun p hp=>by simpa using hlt p hp
 refine ⟨ds,gs,before,[],pa,pv,hW,hres _ _ _,hargs _ hold,hvars _ hold,World.keptBut_mono (fun p hp=>⟨hp,?_⟩) (hb.frame (·∈before)),fun _=>?_⟩
 ·rw [hps,List.mem_append] at hp
  exact Or.inr hp
 ·obtain ⟨_,_,_,_,_,hz,hn⟩:=hW
  refine ⟨hok,_,_,([]++pa)++pv,⟨[]++pa,pv,trodAll_append (hargs _ (fun _ _=>rfl)) (hres _ _ _),hvars _ (fun _ _=>rfl),rfl,?_,?_⟩,?_⟩
  ·intro b off hp
   have hin:MemPlace.cell b off∈before:=by rw [hps]; simpa using hp
   rw [hb.frozen (hlt _ hin)]
   exact hz b off hin
  ·intro ha
   have:=hn ha
   rw [hps] at this
   simpa using this
  ·intro p hp _
   rw [hps]
   simpa using hp
variable {w:World} {base:Nat} {spare:Nat→Bool} {held:Bool}
theorem arr_of_trod {α:Type} [Inhabited α] {t e:TypeId} {size fuel:Nat} {cs:List Value} {x:DataW H×List MemPlace} {cell:α→Nat→Value} (ht:P.underlying t=some (.slice e)) (hC:P.cellsOf e=size) (hpos:0 < size)
  (hel:∀ (n:Nat) (cs':List Value) (y:DataW H×List MemPlace),DataW.trod enc P w base spare held n e cs'=some y→∃ x:α,∀ j,j < size→cs'[j]? = some (cell x j))
  (h:DataW.trod enc P w base spare held fuel t cs=some x):∃ v l,cs=[v]∧Arr w w.heap.size size v l cell:=by
 rcases open_slice ht h with ⟨h0,_⟩ | ⟨a,len,cap,m,n,D,Pl,hcs,hb,hl,hm,hmm,hx,hi⟩
 ·exact ⟨_,[],h0,Arr.nil_⟩
 ·have hlm:len≤m:=by rw [hmm]; split <;> omega
  have hc:∀ i,i < len→∃ x:α,∀ j,j < size→w.cell? (a.add (i * size+j))=some (cell x j):=by
   intro i him
   obtain ⟨cs',h1,h2⟩:=hi i (by omega)
   obtain ⟨x,hx⟩:=hel _ _ _ h2
   rw [hC] at h1
   obtain ⟨_,hcl,hat⟩:=World.cells?_some h1
   refine ⟨x,fun j hj=>?_⟩
   rw [← Go.Deep.add_add,hat j hj]
   exact hx j hj
  have hf:∀ i,∃ x:α,i < len→∀ j,j < size→w.cell? (a.add (i * size+j))=some (cell x j):=by
   intro i
   by_cases hil:i < len
   ·obtain ⟨x,hx⟩:=hc i hil
    exact ⟨x,fun _=>hx⟩
   ·exact ⟨default,fun h=>absurd h hil⟩
  let f:=fun i=>Classical.choose (hf i)
  have hf2:=fun i=>Classical.choose_spec (hf i)
  refine ⟨_,(List.range len).map f,hcs,some a,cap,by simp,by simpa using hl,by simp only [maxLen] at hm; omega,?_⟩
  intro hpos0
  have hpos1:0 < len:=by simpa using hpos0
  have h00:=hf2 0 hpos1 0 hpos
  have hblk:=World.block_lt_of_cell? _ _ h00
  obtain ⟨b,off,sel⟩:=a
  cases sel with
  | some s=>exact absurd h00 (by simp [Addr.add,World.cell?]; split <;> simp)
  | none =>
    refine ⟨b,off,rfl,by simpa [Addr.add] using hblk,?_⟩
    intro i x hx j hj
    simp only [List.getElem?_map,Option.map_eq_some_iff] at hx
    obtain ⟨i',hi',rfl⟩:=hx
    rw [List.getElem?_eq_some_iff] at hi'
    obtain ⟨hlt,rfl⟩:=hi'
    have:=hf2 i (by simpa using hlt) j hj
    simp only [List.getElem_range]
    rw [← this]
    congr 1
    unfold Addr.add
    split
    ·rename_i h0
     rw [Nat.add_assoc,h0]
     rfl
    ·simp [Nat.add_assoc]
theorem ints_of_struct {e:TypeId} {fs:Array Field} {n:Nat} {cs:List Value} {y:DataW H×List MemPlace} {k:IntKind} (he:P.underlying e=some (.struct fs)) (hone:oneCellFields P fs=true)
  (hk:∀ (j:Nat) (f:Field),fs[j]? = some f→P.underlying f.type=some (.int k)) (hC:P.cellsOf e=fs.size) (h:DataW.trod enc P w base spare held n e cs=some y):∀ j,j < fs.size→∃ z:Int,cs[j]? = some (.int k z):=by
 intro j hj
 obtain ⟨ys,n',hn',hy,hlen,hyl,hf⟩:=DataW.trod_struct he h
 rw [hC] at hlen
 have hjf:fs[j]? = some fs[j]:=Array.getElem?_eq_getElem hj
 obtain ⟨ho,hk'⟩:=hone_of hone j _ hjf
 have h1:=hf j _ hjf
 rw [ho,hk'] at h1
 have hys:ys[j]? = some (ys[j]'(by omega)):=List.getElem?_eq_getElem (by omega)
 rw [hys] at h1
 obtain ⟨z,hz,_⟩:=DataW.trod_int (hk j _ hjf) h1
 refine ⟨z,?_⟩
 have hl:j < cs.length:=by omega
 rw [List.drop_eq_getElem_cons hl,List.take_succ_cons,List.take_zero] at hz
 have hz':cs[j] = .int k z:=(List.cons.inj hz).1
 rw [List.getElem?_eq_getElem hl,hz']
end
section
variable {H:Type} {enc:TypeId×Value→H} {P:Program} {w:World} {base:Nat} {spare:Nat→Bool} {held:Bool}
theorem slice_arg {t e:TypeId} {v:Value} {d:DataW H} {p:List MemPlace} {r:Reach} {b0:Nat} {Q:Value→Prop} (ht:P.underlying t=some (.slice e)) (hv:Value.okWide P w r b0 t v) (h:DataW.Trod enc P w base spare held t v d p)
  (hq:∀ fuel x cs,DataW.trod enc P w base spare held fuel t cs=some x→∃ v',cs=[v']∧Q v'):Q v:=by
 obtain ⟨a,l,c,rfl⟩:=okWide_slice ht hv
 obtain ⟨fuel,hf⟩:=h
 obtain ⟨v',hc,hQ⟩:=hq _ _ _ hf
 simp [Value.cells] at hc
 exact hc ▸ hQ
end
section
variable {H:Type} {enc:TypeId×Value→H} {w:World} {spare:Nat→Bool} {held:Bool} {fuel:Nat} {cs:List Value} {x:DataW H×List MemPlace}
theorem fields3 {fs:Array Field} {a b c:Field} (h:fs=#[a,b,c]) {p:Field→Prop} (ha:p a) (hb:p b) (hc:p c):∀ (j:Nat) (f:Field),fs[j]? = some f→p f:=by
 subst h
 intro j f hj
 match j,hj with
 | 0,hj=>simp at hj; exact hj ▸ ha
 | 1,hj=>simp at hj; exact hj ▸ hb
 | 2,hj=>simp at hj; exact hj ▸ hc
 | _+3,hj=>simp at hj
theorem byte_of {n:Nat} {cs':List Value} {y:DataW H×List MemPlace} (hy:DataW.trod enc Tryz.prog w 0 spare held n 5 cs'=some y):∃ x:Fin 256,cs'=[.int .u8 x.val]:=by
 obtain ⟨z,rfl,_,hw⟩:=DataW.trod_int (k := .u8) Tryz.underlying5 hy
 have h2:0≤z∧z < 256:=by
  have e1:IntKind.u8.min=0:=rfl
  have e2:IntKind.u8.max=255:=rfl
  simp only [Lit.wf,e1,e2,Bool.and_eq_true,decide_eq_true_eq] at hw
  omega
 exact ⟨⟨z.toNat,by omega⟩,by congr 1; simp; congr 1; omega⟩
set_option maxRecDepth 100000 in
theorem arg_stays {t:TypeId} {v:Value} {d:DataW H} {ps before:List MemPlace} {sp:Nat→Bool} {W W':World} (hr:Tryz.prog.readableRec t=true) (hrow:t < Tryz.prog.types.size) (h:DataW.Trod enc Tryz.prog W 0 (fun _=>true) true t v d ps)
  (hb:Below W.heap.size W W') (hin:∀ x∈ps,x∈before) (hlt:∀ x∈before,x.block < W.heap.size) (hsp:∀ p∈before,sp p.block=true):DataW.Trod enc Tryz.prog W' 0 sp true t v d ps :=
 WideElems.Trod_stays (by kernel_rfl) hr hrow h (fun x hx=>hb.same (hlt x (hin x hx))) (fun x hx=>hsp x (hin x hx))
end
end Go.Proofs.YtaihbcmifjmapaaGreat
