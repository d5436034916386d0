/- Arguments opened: sheets, rules, threes of bytes. -/
import Derived.Test.YtaihbcmifjmapaaGreatOpen
import Derived.Test.YtaihbcmifjmapaaGreatSuC
namespace Go.Proofs.YtaihbcmifjmapaaGreat
open Go.RowKit Go.Shelf Go.Joins Go.ChangeShapes Go.WideShapes Go.Deep
set_option linter.unusedVariables false
section
variable {H:Type} {enc:TypeId×Value→H} {P:Program} {w:World} {base:Nat} {spare:Nat→Bool} {held:Bool}
theorem trodAll_five {t t1 t2 t3 t4:TypeId} {args:Array Value} {ds:List (DataW H)} {ps:List MemPlace} (h:DataW.TrodAll enc P w base spare held [t,t1,t2,t3,t4] args.toList ds ps) :
  ∃ v v1 v2 v3 v4 d d1 d2 d3 d4 p p1 p2 p3 p4,args=#[v,v1,v2,v3,v4]∧ds=[d,d1,d2,d3,d4]∧ps=p++(p1++(p2++(p3++p4)))∧DataW.Trod enc P w base spare held t v d p∧DataW.Trod enc P w base spare held t1 v1 d1 p1 ∧
   DataW.Trod enc P w base spare held t2 v2 d2 p2∧DataW.Trod enc P w base spare held t3 v3 d3 p3∧DataW.Trod enc P w base spare held t4 v4 d4 p4:=by
 obtain ⟨v,vs,d,ds',p,q,hargs,rfl,rfl,hd,hr⟩:=trodAll_cons h
 obtain ⟨v1,vs1,d1,ds1,p1,q1,rfl,rfl,rfl,hd1,hr1⟩:=trodAll_cons hr
 obtain ⟨v2,vs2,d2,ds2,p2,q2,rfl,rfl,rfl,hd2,hr2⟩:=trodAll_cons hr1
 obtain ⟨v3,vs3,d3,ds3,p3,q3,rfl,rfl,rfl,hd3,hr3⟩:=trodAll_cons hr2
 obtain ⟨v4,vs4,d4,ds4,p4,q4,rfl,rfl,rfl,hd4,hr4⟩:=trodAll_cons hr3
 obtain ⟨rfl,rfl,rfl⟩:=trodAll_nil hr4
 exact ⟨v,v1,v2,v3,v4,d,d1,d2,d3,d4,p,p1,p2,p3,p4,by cases args; simp_all,rfl,by simp,hd,hd1,hd2,hd3,hd4⟩
end
section
variable {H:Type} {enc:TypeId×Value→H} {w:World} {spare:Nat→Bool} {held:Bool} {fuel:Nat} {cs:List Value} {x:DataW H×List MemPlace}
theorem ru_of {n:Nat} {cs':List Value} {y:DataW H×List MemPlace} (hy:DataW.trod enc Tryz.prog w 0 spare held n 27 cs'=some y):∃ x:Ru,∀ j,j < 3→cs'[j]? = some (rucell x j):=by
 have hi:=ints_of_struct (k := .i64) Tryz.underlying27 (by kernel_rfl) (fields3 rfl Tryz.underlying3 Tryz.underlying3 Tryz.underlying2) (by kernel_rfl) hy
 obtain ⟨a,ha⟩:=hi 0 (by decide)
 obtain ⟨b,hb⟩:=hi 1 (by decide)
 obtain ⟨c,hc⟩:=hi 2 (by decide)
 refine ⟨⟨a,b,c⟩,fun j hj=>?_⟩
 have:j=0∨j=1∨j=2:=by omega
 rcases this with rfl | rfl | rfl
 ·exact ha
 ·exact hb
 ·exact hc
theorem ru_arr (h:DataW.trod enc Tryz.prog w 0 spare held fuel 22 cs=some x):∃ v l,cs=[v]∧Arr w w.heap.size 3 v l rucell :=
 arr_of_trod Tryz.underlying22 (by kernel_rfl:Tryz.prog.cellsOf 27=3) (by omega) (fun n cs' y hy=>ru_of hy) h
theorem th_of {n:Nat} {cs':List Value} {y:DataW H×List MemPlace} (hy:DataW.trod enc Tryz.prog w 0 spare held n 35 cs'=some y):∃ x:Th,∀ j,j < 3→cs'[j]? = some (thcell x j):=by
 obtain ⟨xs,m,_,_,hl,hxl,hf⟩:=DataW.trod_array (e:=5) (n:=3) Tryz.underlying35 hy
 rw [show Tryz.prog.cellsOf 35=3 from by kernel_rfl] at hl
 rw [show Tryz.prog.cellsOf 5=1 from by kernel_rfl] at hf
 match cs',hl with
 | [a,b,c],_ =>
   match xs,hxl with
   | [y0,y1,y2],_ =>
     obtain ⟨p,hp⟩:=byte_of (hf 0 (by omega))
     obtain ⟨q,hq⟩:=byte_of (hf 1 (by omega))
     obtain ⟨s,hs⟩:=byte_of (hf 2 (by omega))
     simp at hp hq hs
     subst hp hq hs
     refine ⟨(p,q,s),fun j hj=>?_⟩
     have:j=0∨j=1∨j=2:=by omega
     rcases this with rfl | rfl | rfl <;> rfl
theorem th_arr (h:DataW.trod enc Tryz.prog w 0 spare held fuel 28 cs=some x):∃ v l,cs=[v]∧Arr w w.heap.size 3 v l thcell :=
 arr_of_trod Tryz.underlying28 (by kernel_rfl:Tryz.prog.cellsOf 35=3) (by omega) (fun n cs' y hy=>th_of hy) h
set_option maxRecDepth 100000 in
theorem open_ths {v:Value} {d:DataW H} {p:List MemPlace} {r:Reach} {b0:Nat} (hv:Value.okWide Tryz.prog w r b0 28 v) (h:DataW.Trod enc Tryz.prog w 0 spare held 28 v d p):∃ l,Arr w w.heap.size 3 v l thcell :=
 slice_arg (P:=Tryz.prog) (Q:=fun v=>∃ l,Arr w w.heap.size 3 v l thcell) Tryz.underlying28 hv h fun fuel x cs hx=>by
  obtain ⟨v,l,e,ha⟩:=th_arr hx
  exact ⟨v,e,l,ha⟩
set_option maxRecDepth 100000 in
theorem open_rule {v:Value} {d:DataW H} {p:List MemPlace} {r:Reach} {b0:Nat} (hv:Value.okWide Tryz.prog w r b0 27 v) (h:DataW.Trod enc Tryz.prog w 0 spare held 27 v d p):∃ x:Ru,v = .agg #[.int .i64 x.f,.int .i64 x.t,.int .i64 x.m]:=by
 obtain ⟨cs,rfl,hsz⟩:=okWide_struct Tryz.underlying27 hv
 obtain ⟨fuel,hf⟩:=h
 obtain ⟨x,hx⟩:=ru_of hf
 have hsz':cs.size=3:=hsz.trans (by kernel_rfl)
 obtain ⟨l⟩:=cs
 have hl:l.length=3:=hsz'
 match l,hl with
 | [a,b,c],_ =>
   have h0:=hx 0 (by omega)
   have h1:=hx 1 (by omega)
   have h2:=hx 2 (by omega)
   simp [Value.cells,rucell] at h0 h1 h2
   exact ⟨x,by rw [h0,h1,h2]⟩
theorem agg_two {P:Program} {base:Nat} {r:Reach} {b0:Nat} {t:TypeId} {f0 f1:Field} {v:Value} {d:DataW H} {p:List MemPlace} (hs:P.underlying t=some (.struct #[f0,f1])) (hone:oneCellFields P #[f0,f1]=true) (hC:P.cellsOf t=2)
  (hv:Value.okWide P w r b0 t v) (h:DataW.Trod enc P w base spare held t v d p) :
  ∃ (v0 v1:Value) (y0 y1:DataW H×List MemPlace) (n:Nat),v = .agg #[v0,v1]∧DataW.trod enc P w base spare held n f0.type [v0]=some y0∧DataW.trod enc P w base spare held n f1.type [v1]=some y1:=by
 obtain ⟨cs,rfl,hsz⟩:=okWide_struct hs hv
 obtain ⟨l⟩:=cs
 match l,hsz.trans hC with
 | [c0,c1],_ =>
   obtain ⟨fuel,hf⟩:=h
   obtain ⟨xs,n,_,hx,_,hlen,hg⟩:=DataW.trod_struct hs hf
   obtain ⟨o0,k0⟩:=hone_of hone 0 f0 rfl
   obtain ⟨o1,k1⟩:=hone_of hone 1 f1 rfl
   match xs,hlen with
   | [y0,y1],_ =>
     exact ⟨c0,c1,y0,y1,n,rfl,by simpa [Value.cells,o0,k0] using hg 0 f0 rfl,by simpa [Value.cells,o1,k1] using hg 1 f1 rfl⟩
set_option maxRecDepth 100000 in
theorem open_sheet {v:Value} {d:DataW H} {p:List MemPlace} {r:Reach} {b0:Nat} (hv:Value.okWide Tryz.prog w r b0 24 v) (h:DataW.Trod enc Tryz.prog w 0 spare held 24 v d p):∃ y:Int×List Ru,SheetV w w.heap.size v y.1 y.2:=by
 obtain ⟨v0,v1,y0,y1,n,rfl,h0,h1⟩:=agg_two Tryz.underlying24 (by kernel_rfl) (by kernel_rfl) hv h
 obtain ⟨z0,e0,_⟩:=DataW.trod_int (k := .i64) Tryz.underlying3 h0
 obtain ⟨rv,rl,e1,a1⟩:=ru_arr h1
 simp at e0 e1
 subst e0 e1
 obtain ⟨A,c,rfl, -⟩:=id a1
 exact ⟨(z0,rl),A,c,rfl,a1⟩
set_option maxRecDepth 100000 in
theorem open_byte {v:Value} {d:DataW H} {p:List MemPlace} {r:Reach} {b0:Nat} (hv:Value.okWide Tryz.prog w r b0 5 v) (h:DataW.Trod enc Tryz.prog w 0 spare held 5 v d p):∃ x:Fin 256,v = .int .u8 x.val:=by
 obtain ⟨z,rfl⟩:=okWide_int Tryz.underlying5 hv
 obtain ⟨fuel,hf⟩:=h
 obtain ⟨q,hq⟩:=byte_of hf
 have hq':(.int .u8 z:Value) = .int .u8 q.val:=by simpa [Value.cells] using hq
 exact ⟨q,hq'⟩
set_option maxRecDepth 100000 in
theorem open_word {v:Value} {d:DataW H} {p:List MemPlace} {r:Reach} {b0:Nat} (hv:Value.okWide Tryz.prog w r b0 25 v) (h:DataW.Trod enc Tryz.prog w 0 spare held 25 v d p):∃ x:Fin 65536,v = .int .u16 x.val:=by
 obtain ⟨z,rfl, -, -,hw⟩:=open_int (k := .u16) Tryz.underlying25 hv h
 have h2:0≤z∧z < 65536:=by
  have e1:IntKind.u16.min=0:=rfl
  have e2:IntKind.u16.max=65535:=rfl
  simp only [Lit.wf,e1,e2,Bool.and_eq_true,decide_eq_true_eq] at hw
  omega
 exact ⟨⟨z.toNat,by omega⟩,by congr 1; simp; omega⟩
end
end Go.Proofs.YtaihbcmifjmapaaGreat
