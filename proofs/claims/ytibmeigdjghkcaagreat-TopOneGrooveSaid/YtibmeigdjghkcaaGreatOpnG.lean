/- Arguments opened. -/
import Derived.Test.YtibmeigdjghkcaaGreatGv6
import Derived.Deep.Slices
import Derived.Deep.Fields
import Derived.ChangeSame
import Derived.Lib.SmallJoins
import Derived.Below
import Derived.Carry
namespace Go.Proofs.YtibmeigdjghkcaaGreat.J
open Go.RowKit Go.Shelf Go.Joins Go.ChangeShapes Go.WideShapes Go.Deep
set_option linter.unusedVariables false
section
variable {H:Type} {enc:TypeId×Value→H} {P:Program}
theorem last_of_below {f:Func} {s:ChangeSpec} {apart fresh handsOn again:Bool} {W W':World} {args:Array Value} {v:Value} {ds gs:List (DataW H)} {befo pa pv:List MemPlace}
  (hW:DataW.Whole enc P f.params.toList s.vars apart W args.toList ds gs befo)
  (hres:∀ (b:Nat) (sp:Nat→Bool) (hd:Bool),DataW.TrodAll enc P W' b sp hd f.resultTypes.toList (v.resultList f.resultTypes.size) (s.fn H (ds++gs)).results [])
  (hargs:∀ sp:Nat→Bool,(∀ p∈befo,sp p.block=true)→DataW.TrodAll enc P W' 0 sp true f.params.toList args.toList (s.fn H (ds++gs)).args pa)
  (hvars:∀ sp:Nat→Bool,(∀ p∈befo,sp p.block=true)→DataW.TrodVars enc P W' sp s.vars (s.fn H (ds++gs)).vars pv)
  (hps:befo=pa++pv) (hb:Below W.heap.size W W')
  (hok:∀ (j:Nat) (t:TypeId) (r:Value),f.resultTypes[j]? = some t→(v.resultList f.resultTypes.size)[j]? = some r→Value.okWide P W' .any 0 t r) :
  s.post enc P f apart fresh handsOn again W args v W':=by
 have hlt:∀ p∈befo,p.block < W.heap.size:=fun p hp=>hW.lt p hp
 have hold:∀ p∈befo,(fun b=>decide (b < W.heap.size)) p.block=true:=fun p hp=>by simpa using hlt p hp
 refine ⟨ds,gs,befo,[],pa,pv,hW,hres _ _ _,hargs _ hold,hvars _ hold,World.keptBut_mono (fun p hp=>⟨hp,?_⟩) (hb.frame (·∈befo)),fun _=>?_⟩
 ·rw [hps,List.mem_append] at hp
  exact Or.inr hp
 ·obtain ⟨_,_,_,_,_,hz,hn⟩:=hW
  refine ⟨hok,_,_,([]++pa)++pv,⟨[]++pa,pv,trodAll_append (hargs _ (fun _ _=>rfl)) (hres _ _ _),hvars _ (fun _ _=>rfl),rfl,?_,?_⟩,?_⟩
  ·intro b off hp
   have hin:MemPlace.cell b off∈befo:=by rw [hps]; simpa using hp
   rw [hb.frozen (hlt _ hin)]
   exact hz b off hin
  ·intro ha
   have:=hn ha
   rw [hps] at this
   simpa using this
  ·intro p hp _
   rw [hps]
   simpa using hp
variable {w:World} {base:Nat} {spare:Nat→Bool} {held:Bool}
theorem arr_of_trod {α:Type} [Inhabited α] {t e:TypeId} {size fuel:Nat} {cs:List Value} {x:DataW H×List MemPlace} {cell:α→Nat→Value} (ht:P.underlying t=some (.slice e)) (hC:P.cellsOf e=size) (hpos:0 < size)
  (hel:∀ (n:Nat) (cs':List Value) (y:DataW H×List MemPlace),DataW.trod enc P w base spare held n e cs'=some y→∃ x:α,∀ j,j < size→cs'[j]? = some (cell x j))
  (h:DataW.trod enc P w base spare held fuel t cs=some x):∃ v l,cs=[v]∧Arr w w.heap.size size v l cell:=by
 rcases open_slice ht h with ⟨h0,_⟩ | ⟨a,len,cap,m,n,D,Pl,hcs,hb,hl,hm,hmm,hx,hi⟩
 ·exact ⟨_,[],h0,Arr.nil_⟩
 ·have hlm:len≤m:=by rw [hmm]; split <;> omega
  have hc:∀ i,i < len→∃ x:α,∀ j,j < size→w.cell? (a.add (i * size+j))=some (cell x j):=by
   intro i him
   obtain ⟨cs',h1,h2⟩:=hi i (by omega)
   obtain ⟨x,hx⟩:=hel _ _ _ h2
   rw [hC] at h1
   obtain ⟨_,hcl,hat⟩:=World.cells?_some h1
   refine ⟨x,fun j hj=>?_⟩
   rw [← Go.Deep.add_add,hat j hj]
   exact hx j hj
  have hf:∀ i,∃ x:α,i < len→∀ j,j < size→w.cell? (a.add (i * size+j))=some (cell x j):=by
   intro i
   by_cases hil:i < len
   ·obtain ⟨x,hx⟩:=hc i hil
    exact ⟨x,fun _=>hx⟩
   ·exact ⟨default,fun h=>absurd h hil⟩
  let f:=fun i=>Classical.choose (hf i)
  have hf2:=fun i=>Classical.choose_spec (hf i)
  refine ⟨_,(List.range len).map f,hcs,some a,cap,by simp,by simpa using hl,by simp only [maxLen] at hm; omega,?_⟩
  intro hpos0
  have hpos1:0 < len:=by simpa using hpos0
  have h00:=hf2 0 hpos1 0 hpos
  have hblk:=World.block_lt_of_cell? _ _ h00
  obtain ⟨b,off,sel⟩:=a
  cases sel with
  | some s=>exact absurd h00 (by simp [Addr.add,World.cell?]; split <;> simp)
  | none =>
    refine ⟨b,off,rfl,by simpa [Addr.add] using hblk,?_⟩
    intro i x hx j hj
    simp only [List.getElem?_map,Option.map_eq_some_iff] at hx
    obtain ⟨i',hi',rfl⟩:=hx
    rw [List.getElem?_eq_some_iff] at hi'
    obtain ⟨hlt,rfl⟩:=hi'
    have:=hf2 i (by simpa using hlt) j hj
    simp only [List.getElem_range]
    rw [← this]
    congr 1
    unfold Addr.add
    split
    ·rename_i h0
     rw [Nat.add_assoc,h0]
     rfl
    ·simp [Nat.add_assoc]
end
section
variable {H:Type} {enc:TypeId×Value→H} {P:Program} {w:World} {base:Nat} {spare:Nat→Bool} {held:Bool}
end
section
variable {H:Type} {enc:TypeId×Value→H} {w:World} {spare:Nat→Bool} {held:Bool} {fuel:Nat} {cs:List Value} {x:DataW H×List MemPlace}
theorem cells_int64:Tryz.prog.cellsOf 2=1:=by kernel_rfl
theorem cells_bool:Tryz.prog.cellsOf 4=1:=by kernel_rfl
theorem cells_rng:Tryz.prog.cellsOf 24=2:=by kernel_rfl
theorem cells_end:Tryz.prog.cellsOf 193=3:=by kernel_rfl
theorem cells_ends:Tryz.prog.cellsOf 194=6:=by kernel_rfl
theorem cells_piece:Tryz.prog.cellsOf 196=7:=by kernel_rfl
theorem cells_pcs:Tryz.prog.cellsOf 22=1:=by kernel_rfl
theorem cells_cyl:Tryz.prog.cellsOf 26=4:=by kernel_rfl
theorem rng_of {n:Nat} {cs:List Value} {y:DataW H×List MemPlace} (hy:DataW.trod enc Tryz.prog w 0 spare held n 24 cs=some y):∃ a b:Int,cs=[.int .i64 a,.int .i64 b]:=by
 obtain ⟨y0,y1,m, -,hl,h0,h1⟩:=trod_struct2 Tryz.underlying24 hy
 dsimp only at h0 h1
 rw [cells_int64] at h0 h1
 rw [cells_rng] at hl
 match cs,hl with
 | [c0,c1],_ =>
   obtain ⟨a,e0, -⟩:=DataW.trod_int (k := .i64) Tryz.underlying2 h0
   obtain ⟨b,e1, -⟩:=DataW.trod_int (k := .i64) Tryz.underlying2 h1
   simp at e0 e1
   exact ⟨a,b,by rw [e0,e1]⟩
theorem end_of {n:Nat} {cs:List Value} {y:DataW H×List MemPlace} (hy:DataW.trod enc Tryz.prog w 0 spare held n 193 cs=some y):∃ a b p:Int,cs=[.int .i64 a,.int .i64 b,.int .i64 p]:=by
 obtain ⟨y0,y1,m, -,hl,h0,h1⟩:=trod_struct2 Tryz.underlying193 hy
 dsimp only at h0 h1
 rw [cells_rng] at h0
 rw [cells_int64] at h1
 rw [cells_end] at hl
 match cs,hl with
 | [c0,c1,c2],_ =>
   obtain ⟨a,b,e0⟩:=rng_of h0
   obtain ⟨p,e1, -⟩:=DataW.trod_int (k := .i64) Tryz.underlying2 h1
   simp at e0 e1
   exact ⟨a,b,p,by rw [e0.1,e0.2,e1]⟩
theorem ends_of {n:Nat} {cs:List Value} {y:DataW H×List MemPlace} (hy:DataW.trod enc Tryz.prog w 0 spare held n 194 cs=some y) :
  ∃ a b p a' b' p':Int,cs=[.int .i64 a,.int .i64 b,.int .i64 p,.int .i64 a',.int .i64 b',.int .i64 p']:=by
 obtain ⟨xs,m,_,_,hl,hxl,hf⟩:=DataW.trod_array (e:=193) (n:=2) Tryz.underlying194 hy
 rw [cells_ends] at hl
 rw [cells_end] at hf
 match cs,hl with
 | [c0,c1,c2,c3,c4,cx5],_ =>
   match xs,hxl with
   | [y0,y1],_ =>
     obtain ⟨a,b,p,e0⟩:=end_of (hf 0 (by omega))
     obtain ⟨a',b',p',e1⟩:=end_of (hf 1 (by omega))
     simp at e0 e1
     exact ⟨a,b,p,a',b',p',by rw [e0.1,e0.2.1,e0.2.2,e1.1,e1.2.1,e1.2.2]⟩
theorem pc_of {n:Nat} {cs:List Value} {y:DataW H×List MemPlace} (hy:DataW.trod enc Tryz.prog w 0 spare held n 196 cs=some y):∃ p:Pc,∀ j,j < 7→cs[j]? = some (pccell p j):=by
 obtain ⟨y0,y1,m, -,hl,h0,h1⟩:=trod_struct2 Tryz.underlying196 hy
 dsimp only at h0 h1
 rw [cells_ends] at h0
 rw [cells_bool] at h1
 rw [cells_piece] at hl
 match cs,hl with
 | [c0,c1,c2,c3,c4,cx5,c6],_ =>
   obtain ⟨a,b,p,a',b',p',e0⟩:=ends_of h0
   obtain ⟨t,e1, -⟩:=DataW.trod_bool Tryz.underlying4 h1
   simp at e0 e1
   obtain ⟨rfl,rfl,rfl,rfl,rfl,rfl⟩:=e0
   subst e1
   refine ⟨⟨⟨a,b,p⟩,⟨a',b',p'⟩,t⟩,fun j hj=>?_⟩
   have:j=0∨j=1∨j=2∨j=3∨j=4∨j=5∨j=6:=by omega
   rcases this with rfl | rfl | rfl | rfl | rfl | rfl | rfl <;> rfl
theorem pcs_arr (h:DataW.trod enc Tryz.prog w 0 spare held fuel 22 cs=some x):∃ v l,cs=[v]∧Arr w w.heap.size 7 v l pccell :=
 arr_of_trod Tryz.underlying22 cells_piece (by omega) (fun n cs' y hy=>pc_of hy) h
set_option maxRecDepth 100000 in
theorem open_cyl {v:Value} {d:DataW H} {p:List MemPlace} {r:Reach} {b0:Nat} (hv:Value.okWide Tryz.prog w r b0 26 v) (h:DataW.Trod enc Tryz.prog w 0 spare held 26 v d p):∃ c,CylV w w.heap.size v c:=by
 obtain ⟨cs,rfl,hsz⟩:=okWide_struct Tryz.underlying26 hv
 rw [cells_cyl] at hsz
 obtain ⟨fuel,hf⟩:=h
 obtain ⟨y0,y1,y2,m, -,hl,h0,h1,h2⟩:=trod_struct3 Tryz.underlying26 hf
 dsimp only at h0 h1 h2
 rw [cells_pcs] at h0
 rw [cells_int64] at h1
 rw [cells_rng] at h2
 obtain ⟨l⟩:=cs
 have hl':l.length=4:=hsz
 match l,hl' with
 | [c0,c1,c2,c3],_ =>
   obtain ⟨pv,pl,e0,ha⟩:=pcs_arr h0
   obtain ⟨a,e1, -⟩:=DataW.trod_int (k := .i64) Tryz.underlying2 h1
   obtain ⟨b,b',e2⟩:=rng_of h2
   simp [Value.cells] at e0 e1 e2
   obtain ⟨rfl,rfl⟩:=e2
   subst e0 e1
   exact ⟨⟨pl,a,b,b'⟩,c0,rfl,ha⟩
set_option maxRecDepth 100000 in
theorem arg_stays {t:TypeId} {v:Value} {d:DataW H} {ps befo:List MemPlace} {sp:Nat→Bool} {W W':World} (hr:Tryz.prog.readableRec t=true) (hrow:t < Tryz.prog.types.size) (h:DataW.Trod enc Tryz.prog W 0 (fun _=>true) true t v d ps)
  (hb:Below W.heap.size W W') (hin:∀ x∈ps,x∈befo) (hlt:∀ x∈befo,x.block < W.heap.size) (hsp:∀ p∈befo,sp p.block=true):DataW.Trod enc Tryz.prog W' 0 sp true t v d ps :=
 WideElems.Trod_stays (by kernel_rfl) hr hrow h (fun x hx=>hb.same (hlt x (hin x hx))) (fun x hx=>hsp x (hin x hx))
end
section
variable {H:Type} {enc:TypeId×Value→H} {P:Program} {w:World} {base:Nat} {spare:Nat→Bool} {held:Bool}
end
theorem topGroove_said (v:Value) (c:Cyl) (x y z:Int) (w:World) (hv:CylV w w.heap.size v c) (h1:(Lit.int .u32 x).wf=true) (h2:(Lit.int .u8 y).wf=true) (h3:(Lit.int .u8 z).wf=true) :
  Calls Tryz.prog 3 #[v,.int .u32 x,.int .u8 y,.int .u8 z] w fun r w'=>r = .returned (.bool true)∧Below w.heap.size w w':=by
 have e1:IntKind.u8.min=0:=rfl
 have e2:IntKind.u8.max=255:=rfl
 have e3:IntKind.u32.min=0:=rfl
 have e4:IntKind.u32.max=4294967295:=rfl
 simp only [Lit.wf,e1,e2,e3,e4,Bool.and_eq_true,decide_eq_true_eq] at h1 h2 h3
 obtain ⟨n,rfl⟩:∃ n:Nat,x=(n:Int):=⟨x.toNat,by omega⟩
 obtain ⟨p,rfl⟩:∃ n:Nat,y=(n:Int):=⟨y.toNat,by omega⟩
 obtain ⟨q,rfl⟩:∃ n:Nat,z=(n:Int):=⟨z.toNat,by omega⟩
 exact topGroove_ok v c n p q w hv (by omega) (by omega) (by omega)
end Go.Proofs.YtibmeigdjghkcaaGreat.J
