/- A range over a function that hands out a known list, in order; no round leaves the loop. The same for every seat. Maps whose keys are numbers, or anything whose sameness can be told: lookup, update, delete. The same for every seat. Words for memory: rows of the call's own, rows by index; sheets of speeds, nets, tables of numbers. -/
import Derived.Test.YtaihbcmifjmapaaGreatPB
import Derived.RangeFuncNested
import Derived.Laws.StructEq
import Derived.Test.YtaihbcmifjmapaaGreatSA
import Derived.Test.YtaihbcmifjmapaaGreatPD
import Derived.Test.YtaihbcmifjmapaaGreatPC
import Derived.Test.YtaihbcmifjmapaaGreatPA
import Derived.Test.YtaihbcmifjmapaaGreatPT
import Derived.Laws.Rows
import Derived.Laws.Tables
namespace Go.Proofs.YtaihbcmifjmapaaGreat
open Go.RowKit Go.Shelf
set_option linter.unusedVariables false
def AbidesN {β:Type} (B:Nat) (J:β→World→Prop):Prop :=
 ∀ s W W' row,J s W→W.grownBy W' row→(∀ r,row=some r→B≤r∧∃ o:Obj,W.heap[r]? = some o∧o.isWalk=true)→J s W'
def SeqN {α:Type} (F:Fence) (n:Nat) (P:Program) (g:Nat) (lb:Array Value) (encs:α→Array Value) (Kp:World→World→Prop) (all:List α) (w:World):Prop :=
 ∀ (l:Nat) (J:List α→World→Prop) (W:World),Below w.heap.size w W→AbidesN W.heap.size J →
  (∀ pre x post W1,J pre W1→pre++x::post=all→YieldAt F (n-1) P l (encs x) W1 fun e W'=>e = .returned (.bool true)∧J (pre++[x]) W'∧Kp W1 W') →
  J [] W →
  CallsIn F n P g (#[.func (.yield l) #[] #[]]++lb) W fun e W'=>(∃ v,e = .returned v)∧J all W'
def roundN {α:Type} (B:Nat) (Kp:World→World→Prop) (I:List α→World→Prop) (xs:List α) (W:World):Exit→Act→World→Prop
 | .normal,_,W'=>KeepsFrom B W W'∧Kp W W'∧I xs W'
 | _,_,_=>False
variable {F:Fence} {n:Nat} {P:Program} {w:World}
def recN (fn:FuncId) (tmps:Array Value) (ps:Array Tmp) (assign body:Code) (D:Nat) (st:LoopState):Loop:={ state:=st,pending:=none,fn:=fn,tmps:=tmps,params:=ps,assign:=assign,body:=body,defers:=D }
theorem wpIn_range_list {α:Type} {g:Operand} {ps:Array Tmp} {assign body:Code} {Q:Exit→Act→World→Prop} {a:Act}
  (hro:F.round=none) (h1:1≤n) {gf:Nat} {lb:Array Value} (hg:a.eval g = .func (.func gf) #[] lb) (hFg:F.fn gf) (eg:∀ args w,(callFunc gf args).run P w = .ok (.enter gf args) w)
  {encs:α→Array Value} {Kp:World→World→Prop} {all:List α} {w0:World} (hseq:SeqN F (n-1) P gf lb encs Kp all w0)
  (hKt:∀ {A B C:World},Kp A B→Kp B C→Kp A C) (hKb:∀ (W:World) (l:Nat) (o o':Obj),w.heap.size≤l→W.heap[l]? = some o→o.isCells=false→o.isWalk=false→Kp W (W.putObj l o')) (hb0:Below w0.heap.size w0 w) (hps:∀ x,(encs x).size=ps.size)
  (I:List α→World→Prop) (hI:OwnFrom w.heap.size I) (h0:I [] w)
  (Ax:α→Act→World→Prop) (hAx:∀ x a',OwnFrom w.heap.size (fun (_:Unit) W=>Ax x a' W))
  (hassign:∀ (l:Nat) (pre:List α) (x:α) (post:List α) (W:World) (K:Act→World→Prop),I pre W→pre++x::post=all→w.heap.size+2≤W.heap.size→(∀ a' W',KeepsFrom w.heap.size W W'→Kp W W'→I pre W'→Ax x a' W'→K a' W') →
   assign.wpIn (F.inRound l) (n-1-1) P (Exit.then K (fun _ _ _=>False)) { tmps:=(ps.zip (encs x)).foldl (fun t (p,v)=>t.setIfInBounds p v) a.tmps,defers:=[] } W)
  (hbody:∀ (l:Nat) (pre:List α) (x:α) (post:List α) (a':Act) (W:World),I pre W→Ax x a' W→pre++x::post=all→body.wpIn (F.inRound l) (n-1-1) P (roundN w.heap.size Kp I (pre++[x]) W) a' W)
  (hdone:∀ (D:Nat) (W:World),w.heap.size≤D→I all W→W.heap[D]? = some (.deferred (some []))→Q .normal { a with defers:={ target := .collected D,args:=#[] }::a.defers } W) :
  (Code.rangeFunc g ps assign body).wpIn F n P Q a w:=by
 refine wpIn_rangeFunc ?_
 intro fn hfn
 rw [hro]
 obtain ⟨R,hR⟩:∃ R:LoopState→Loop,R=recN fn a.tmps ps assign body w.heap.size:=⟨_,rfl⟩
 have hRp:∀ st,(R st).params=ps:=fun st=>by rw [hR]; rfl
 have hRs:∀ st,(R st).state=st:=fun st=>by rw [hR]; rfl
 have hRu:∀ st st',{ R st with state:=st' }=R st':=fun st st'=>by rw [hR]; rfl
 have hRe:∀ st st',{ R st with state:=st',pending:=none }=R st':=fun st st'=>by rw [hR]; rfl
 have hRn:∀ st,(R st).pending=none:=fun st=>by rw [hR]; rfl
 obtain ⟨W1,hW1⟩:∃ W1,W1=(w.alloc (.deferred (some []))).alloc (.loop (R .ready)):=⟨_,rfl⟩
 have hs1:W1.heap.size=w.heap.size+2:=by rw [hW1]; simp
 have hL1:W1.heap[w.heap.size+1]? = some (.loop (R .ready)):=by
  have:=World.alloc_heap_new (w.alloc (.deferred (some []))) (.loop (R .ready))
  rw [World.size_alloc] at this
  rw [hW1]
  exact this
 have hD1:W1.heap[w.heap.size]? = some (.deferred (some [])):=by
  rw [hW1]
  exact (Below.heap_alloc _ _ _ (by simp)).trans (World.alloc_heap_new w _)
 have hb1:Below w0.heap.size w0 W1:=by
  have h2:=((Below.refl w.heap.size w).alloc (Nat.le_refl _) (.deferred (some []))).alloc (by simp) (.loop (R .ready))
  rw [← hW1] at h2
  exact hb0.trans (h2.mono hb0.size)
 have hI1:I [] W1:=by rw [hW1]; exact hI.alloc _ (hI.alloc _ h0)
 have hent:=run_enterLoop_outer (P:=P) (w:=w) fn a.tmps ps assign body
 refine ⟨w.heap.size+1,[{ target := .collected w.heap.size,args:=#[] }],W1,{ target := .fn (.func gf) lb,args:=#[.func (.yield (w.heap.size+1)) #[] #[]] },W1,gf,#[.func (.yield (w.heap.size+1)) #[] #[]]++lb,W1,?_,?_,?_,?_,fun _=>h1,?_⟩
 ·rw [hW1,hR]
  exact hent
 ·simp only [resolve,hg]
  simp [go_sem]
 ·intro f' hf'
  simp [Target.leads] at hf'
  exact hf' ▸ hFg
 ·simp [invoke,go_sem,eg]
 ·-- what holds between two rounds: the caller's invariant, and both records
  obtain ⟨J,hJ⟩:∃ J:List α→World→Prop,J=fun pre W=>I pre W∧W.heap[w.heap.size+1]? = some (.loop (R .ready))∧W.heap[w.heap.size]? = some (.deferred (some [])):=⟨_,rfl⟩
  have hJab:AbidesN W1.heap.size J:=by
   intro s A C row hs hgr hr
   rw [hJ] at hs ⊢
   obtain ⟨q1,q2,q3⟩:=hs
   have hkeep:∀ k o,A.heap[k]? = some o→k < w.heap.size+2→C.heap[k]? = some o:=by
    intro k o hk hlt
    refine (hgr.block k (Array.getElem?_eq_some_iff.1 hk).1 fun e=>?_).trans hk
    have:=(hr k e.symm).1; omega
   refine ⟨?_,hkeep _ _ q2 (by omega),hkeep _ _ q3 (by omega)⟩
   cases row with
   | none=>exact hI s A C none q1 hgr fun r e=>by cases e
   | some r =>
     obtain ⟨q,o,ho,hw⟩:=hr r rfl
     exact hI s A C (some r) q1 hgr fun r' e=>by
      injection e with e
      exact ⟨by omega,o,by rw [← e]; exact ho,Obj.not_cells_of_walk hw⟩
  refine (hseq (w.heap.size+1) J W1 hb1 hJab ?_ (by rw [hJ]; exact ⟨hI1,hL1,hD1⟩)).mono ?_
  ·intro pre x post W hJW hlen
   rw [hJ] at hJW
   obtain ⟨hi,hl,hd⟩:=hJW
   have hsz:w.heap.size+2≤W.heap.size:=by have:=(Array.getElem?_eq_some_iff.1 hl).1; omega
   have hy:=run_yield (P:=P) (args:=encs x) hl (by rw [hRp]; exact hps x)
   have e1:(R .ready).tmps=a.tmps:=by rw [hR]; rfl
   have e2:(R .ready).assign=assign:=by rw [hR]; rfl
   have e3:(R .ready).body=body:=by rw [hR]; rfl
   have e4:(R .ready).fn=fn:=by rw [hR]; rfl
   rw [hRp,e1,e2,e3,e4] at hy
   refine ⟨fn,_,assign,body,hy,roundIn_of_wpIn hfn (hassign _ pre x post W _ hi hlen hsz ?_)⟩
   intro a' Wa hka hkp hia hax
   have hla:=hka.same _ _ (by omega) hl rfl
   have hda:=hka.same _ _ (Nat.le_refl _) hd rfl
   have hlt:=(Array.getElem?_eq_some_iff.1 hla).1
   have hbeg:=run_beginRound (P:=P) hla (hRs _)
   rw [hRu] at hbeg
   refine ⟨_,hbeg,?_⟩
   obtain ⟨Wb,hWb⟩:∃ Wb,Wb=Wa.putObj (w.heap.size+1) (.loop (R .busy)):=⟨_,rfl⟩
   rw [← hWb]
   have hlb2:Wb.heap[w.heap.size+1]? = some (.loop (R .busy)):=by rw [hWb]; exact World.putObj_heap_same hlt
   have hdb2:Wb.heap[w.heap.size]? = some (.deferred (some [])):=by rw [hWb]; exact (World.putObj_heap_other (by omega)).trans hda
   have hkb:Kp Wa Wb:=by rw [hWb]; exact hKb _ _ _ _ (by omega) hla rfl rfl
   have hib:I pre Wb:=by rw [hWb]; exact hI.putObj _ hia (by omega) hla rfl
   have haxb:Ax x a' Wb:=by rw [hWb]; exact (hAx x a').putObj (s:=()) _ hax (by omega) hla rfl
   refine wpIn_mono (hbody _ pre x post a' Wb hib haxb hlen) ?_
   intro e a3 W3 hp
   cases e with
   | normal =>
     obtain ⟨hk3,hkp3,hi3⟩:=hp
     have hl3:=hk3.same _ _ (by omega) hlb2 rfl
     have hd3:=hk3.same _ _ (Nat.le_refl _) hdb2 rfl
     have hend:=run_endRound (P:=P) none hl3
     refine ⟨_,_,hend,rfl,?_,hKt hkp (hKt (hKt hkb hkp3) (hKb _ _ _ _ (by omega) hl3 rfl rfl))⟩
     rw [hJ]
     refine ⟨hI.putObj _ hi3 (by omega) hl3 rfl,?_,(World.putObj_heap_other (by omega)).trans hd3⟩
     have:=World.putObj_heap_same (w:=W3) (o := .loop { R .busy with state:=if (none:Option Code).isNone=true then .ready else .done,pending:=none }) (Array.getElem?_eq_some_iff.1 hl3).1
     rw [this]
     simp only [Option.isNone_none,if_true,hRe]
   | ret=>exact hp.elim
   | exit id=>exact hp.elim
   | goto t=>exact hp.elim
   | panic ch=>exact hp.elim
   | outgrown=>exact hp.elim
  ·rintro e W2 ⟨⟨v,rfl⟩,hJx⟩
   rw [hJ] at hJx
   obtain ⟨hi,hl,hd⟩:=hJx
   have hend:=run_endLoop (P:=P) hl (by rw [hRs]; simp)
   rw [hRn] at hend
   exact ⟨none,_,hend,hdone _ _ (Nat.le_refl _) (hI.putObj _ hi (by omega) hl rfl) ((World.putObj_heap_other (by omega)).trans hd)⟩
end Go.Proofs.YtaihbcmifjmapaaGreat
namespace Go.Proofs.YtaihbcmifjmapaaGreat
open Go.RowKit Go.Shelf
set_option linter.unusedVariables false
set_option linter.unusedSectionVars false
section
variable {α:Type} [DecidableEq α]
def findG (a:α):List (α×Value)→Nat→Option (Nat×Value)
 | [],_=>none
 | x::l,i=>if a=x.1 then some (i,x.2) else findG a l (i+1)
def entsG (kf:α→Value) (es:List MapEntry) (l:List (α×Value)):Prop:=es.map (fun e=>(e.key,e.val))=l.map fun x=>(kf x.1,x.2)
structure KeyG (k:TypeId) (kf:α→Value):Prop where
 find:∀ (a:α) (w:World) (es:List MapEntry) (l:List (α×Value)),entsG kf es l→(Instr.findKey k (kf a) es).run Tryz.prog w = .ok (findG a l 0) w
 ck:∀ e a w,(Instr.checkKey e 10000 k (kf a)).run Tryz.prog w = .ok () w
 stays:∀ a w,(Instr.keyThatStays (kf a) (kf a)).run Tryz.prog w = .ok (kf a) w
def MapG (kf:α→Value) (w:World) (g:Nat) (B:α→Option Value):Prop :=
 ∃ es clock l,w.heap[g]? = some (.map es clock)∧entsG kf es.toList l∧∀ a,(findG a l 0).map (·.2)=B a
def putMapI (w:World) (g:Nat) (es:Array MapEntry) (clock:Nat):World:={ w with heap:=w.heap.setIfInBounds g (.map es clock) }
theorem grown_putI {w:World} {g:Nat} (es:Array MapEntry) (cl:Nat):w.grownBy (putMapI w g es cl) (some g):=by
 refine ⟨rfl,rfl,rfl,by simp [putMapI],fun k hk hne=>?_⟩
 simp only [putMapI]
 rw [Array.getElem?_setIfInBounds_ne (fun e=>hne (by rw [e]))]
variable {kf:α→Value}
theorem MapG.lt {w:World} {g:Nat} {B:α→Option Value} (h:MapG kf w g B):g < w.heap.size:=by
 obtain ⟨es,clock,l,h1,_⟩:=h
 rcases Nat.lt_or_ge g w.heap.size with hl | hl
 ·exact hl
 ·rw [Array.getElem?_eq_none hl] at h1; cases h1
theorem MapG.heap {w w':World} {g:Nat} {B:α→Option Value} (h:MapG kf w g B) (hh:w'.heap[g]? = w.heap[g]?):MapG kf w' g B:=by
 obtain ⟨es,clock,l,h1,h2⟩:=h
 exact ⟨es,clock,l,hh.trans h1,h2⟩
theorem MapG.call {w w':World} {g:Nat} {B:α→Option Value} (h:MapG kf w g B) (hb:Below w.heap.size w w'):MapG kf w' g B:=h.heap (hb.block g h.lt)
theorem MapG.grown {w w':World} {g:Nat} {B:α→Option Value} {row:Option Nat} (h:MapG kf w g B) (hb:w.grownBy w' row) (hg:some g≠row):MapG kf w' g B:=h.heap (hb.block g h.lt hg)
theorem MapG.new (w:World):MapG kf (w.alloc (.map #[] 0)) w.heap.size fun _=>none :=
 ⟨#[],0,[],by unfold World.alloc; simp,rfl,fun _=>rfl⟩
theorem MapG.same {w:World} {g:Nat} {B B':α→Option Value} (h:MapG kf w g B) (e:∀ a,B' a=B a):MapG kf w g B':=by
 obtain ⟨es,cl,l,h1,h2,h3⟩:=h
 exact ⟨es,cl,l,h1,h2,fun a=>(h3 a).trans (e a).symm⟩
theorem MapG.cells {w:World} {g:Nat} {B:α→Option Value} (h:MapG kf w g B):∃ o,w.heap[g]? = some o∧o.isCells=false:=by
 obtain ⟨es,cl,l,h1, -⟩:=h
 exact ⟨_,h1,rfl⟩
theorem findG_shift (a:α):∀ (l:List (α×Value)) (i j:Nat),(findG a l i).map (·.2)=(findG a l j).map (·.2)
 | [],_,_=>rfl
 | x::l,i,j=>by
   unfold findG
   split
   ·rfl
   ·exact findG_shift a l _ _
theorem findG_snoc (a:α) (y:α×Value):∀ (l:List (α×Value)) (i:Nat),findG a l i=none→(findG a (l++[y]) i).map (·.2)=if a=y.1 then some y.2 else none
 | [],i,_=>by simp only [List.nil_append,findG]; split <;> rfl
 | x::l,i,h=>by
   simp only [List.cons_append,findG] at h ⊢
   split at h
   ·cases h
   ·rename_i hx
    rw [if_neg hx]
    exact findG_snoc a y l _ h
theorem findG_other (a:α) (y:α×Value) (hy:a≠y.1):∀ (l:List (α×Value)) (i:Nat),findG a (l++[y]) i=findG a l i
 | [],i=>by simp [findG,hy]
 | x::l,i=>by simp only [List.cons_append,findG,findG_other a y hy l]
theorem findG_some (a:α):∀ (l:List (α×Value)) (i n:Nat) (v:Value),findG a l i=some (n,v)→i≤n∧n-i < l.length∧l[n-i]? = some (a,v)
 | [],i,n,v,h=>by simp [findG] at h
 | x::l,i,n,v,h=>by
   unfold findG at h
   split at h
   ·rename_i hx
    simp only [Option.some.injEq,Prod.mk.injEq] at h
    obtain ⟨rfl,rfl⟩:=h
    refine ⟨Nat.le_refl _,by simp,?_⟩
    simp [hx]
   ·obtain ⟨h1,h2,h3⟩:=findG_some a l (i+1) n v h
    refine ⟨by omega,by simp; omega,?_⟩
    rw [show n-i=(n-(i+1))+1 by omega,List.getElem?_cons_succ]
    exact h3
theorem findG_set (a a':α) (v v':Value):∀ (l:List (α×Value)) (i n:Nat),findG a l i=some (n,v) →
  (findG a' (l.set (n-i) (a,v')) i).map (·.2)=if a'=a then some v' else (findG a' l i).map (·.2)
 | [],i,n,h=>by simp [findG] at h
 | x::l,i,n,h=>by
   unfold findG at h
   split at h
   ·rename_i hx
    simp only [Option.some.injEq,Prod.mk.injEq] at h
    obtain ⟨rfl,rfl⟩:=h
    simp only [Nat.sub_self,List.set_cons_zero,findG,← hx]
    split <;> rfl
   ·rename_i hx
    have h1:=(findG_some a l (i+1) n v h).1
    rw [show n-i=(n-(i+1))+1 by omega,List.set_cons_succ]
    have ih:=findG_set a a' v v' l (i+1) n h
    by_cases hx':a'=x.1
    ·have:a'≠a:=fun e=>hx (e ▸ hx')
     simp only [findG,if_pos hx',if_neg this]
    ·simp only [findG,if_neg hx']
     exact ih
theorem findG_erase (a a':α) (v:Value) (hne:a'≠a):∀ (l:List (α×Value)) (i n:Nat),findG a l i=some (n,v) →
  (findG a' (l.eraseIdx (n-i)) i).map (·.2)=(findG a' l i).map (·.2)
 | [],i,n,h=>by simp [findG] at h
 | x::l,i,n,h=>by
   unfold findG at h
   split at h
   ·rename_i hx
    simp only [Option.some.injEq,Prod.mk.injEq] at h
    obtain ⟨rfl,rfl⟩:=h
    simp only [Nat.sub_self,List.eraseIdx_zero,List.tail_cons,findG,← hx,if_neg hne]
    exact findG_shift _ _ _ _
   ·have h1:=(findG_some a l (i+1) n v h).1
    rw [show n-i=(n-(i+1))+1 by omega,List.eraseIdx_cons_succ]
    have ih:=findG_erase a a' v hne l (i+1) n h
    unfold findG
    split
    ·rfl
    ·exact ih
theorem MapG.lookup {t k e:TypeId} (K:KeyG k kf) (ht:Tryz.prog.underlying t=some (.map k e)) {w:World} {g:Nat} {B:α→Option Value} (h:MapG kf w g B) (a:α) {z:Value} (hz:(zeroValue e).run Tryz.prog w = .ok z w) :
  (Instr.lookup t (.map (some g)) (kf a) true).run Tryz.prog w = .ok (match B a with | some v => .tuple #[v,.bool true] | none => .tuple #[z,.bool false]) w:=by
 obtain ⟨es,clock,l,h1,h2,h3⟩:=h
 have hf:=K.find a w es.toList l h2
 have hb:=h3 a
 simp only [Instr.lookup,Sem.run_bind,run_underlying ht,Result.andThen_ok,MapKept.run_getObj_map h1,Sem.run_pure,K.ck,hf]
 cases hh:findG a l 0 with
 | none =>
   rw [hh] at hb
   simp only [Option.map_none] at hb
   simp [← hb,hz]
 | some r =>
   rw [hh] at hb
   simp only [Option.map_some] at hb
   simp [← hb]
theorem MapG.lookup1 {t k e:TypeId} (K:KeyG k kf) (ht:Tryz.prog.underlying t=some (.map k e)) {w:World} {g:Nat} {B:α→Option Value} (h:MapG kf w g B) (a:α) {z:Value} (hz:(zeroValue e).run Tryz.prog w = .ok z w) :
  (Instr.lookup t (.map (some g)) (kf a) false).run Tryz.prog w = .ok ((B a).getD z) w:=by
 obtain ⟨es,clock,l,h1,h2,h3⟩:=h
 have hf:=K.find a w es.toList l h2
 have hb:=h3 a
 simp only [Instr.lookup,Sem.run_bind,run_underlying ht,Result.andThen_ok,MapKept.run_getObj_map h1,Sem.run_pure,K.ck,hf]
 cases hh:findG a l 0 with
 | none =>
   rw [hh] at hb
   simp only [Option.map_none] at hb
   simp [← hb,hz]
 | some r =>
   rw [hh] at hb
   simp only [Option.map_some] at hb
   simp [← hb]
theorem erase_mapI {α β:Type} (f:α→β):∀ (l:List α) (n:Nat),(l.eraseIdx n).map f=(l.map f).eraseIdx n
 | [],n=>by simp
 | x::l,0=>by simp
 | x::l,n+1=>by simp [erase_mapI f l n]
theorem MapG.update {t k e:TypeId} (K:KeyG k kf) (ht:Tryz.prog.underlying t=some (.map k e)) {w:World} {g:Nat} {B:α→Option Value} (h:MapG kf w g B) (a:α) (v:Value) :
  ∃ es clock,(Instr.mapUpdate t (.map (some g)) (kf a) v).run Tryz.prog w = .ok () (putMapI w g es clock)∧MapG kf (putMapI w g es clock) g fun x=>if x=a then some v else B x:=by
 have hlt:=h.lt
 obtain ⟨es,clock,l,h1,h2,h3⟩:=h
 have hf:=K.find a w es.toList l h2
 cases hh:findG a l 0 with
 | none =>
   refine ⟨es.push { key:=kf a,val:=v,born:=clock },clock+1,?_,es.push { key:=kf a,val:=v,born:=clock },clock+1,l++[(a,v)],?_,?_,fun x=>?_⟩
   ·simp [Instr.mapUpdate,run_underlying ht,MapKept.run_getObj_map h1,K.ck,hf,hh,MapKept.run_setObj_map _ h1,Result.andThen,putMapI]
   ·simp [putMapI,hlt]
   ·unfold entsG at h2 ⊢
    simp [h2]
   ·show _=if x=a then some v else B x
    by_cases hx:x=a
    ·rw [if_pos hx,hx,findG_snoc a _ l 0 hh]
     simp
    ·rw [if_neg hx,findG_other x _ hx]
     exact h3 x
 | some r =>
   obtain ⟨n,u⟩:=r
   obtain ⟨_,h5,h6⟩:=findG_some a l 0 n u hh
   simp only [Nat.sub_zero] at h5 h6
   have hlen:es.toList.length=l.length:=by
    have:=congrArg List.length h2
    simpa using this
   have hen:n < es.size:=by simpa using (by omega:n < es.toList.length)
   have hkey:es[n].key=kf a:=by
    have:=congrArg (fun q=>q[n]?) h2
    simp [h6,hen] at this
    exact this.1
   refine ⟨es.modify n fun e=>{ e with key:=kf a,val:=v },clock,?_,es.modify n (fun e=>{ e with key:=kf a,val:=v }),clock,l.set n (a,v),?_,?_,fun x=>?_⟩
   ·simp [Instr.mapUpdate,run_underlying ht,MapKept.run_getObj_map h1,K.ck,hf,hh,hen,hkey,K.stays,MapKept.run_setObj_map _ h1,Result.andThen,putMapI]
   ·simp [putMapI,hlt]
   ·unfold entsG at h2 ⊢
    apply List.ext_getElem?
    intro i
    have:=congrArg (fun q=>q[i]?) h2
    simp only [List.getElem?_map,Array.getElem?_toList] at this ⊢
    rw [Array.getElem?_modify,List.getElem?_set]
    by_cases hi:n=i
    ·subst hi
     simp [hen,h5]
    ·simpa [hi] using this
   ·have:=findG_set a x u v l 0 n hh
    simp only [Nat.sub_zero] at this
    show _=if x=a then some v else B x
    rw [this]
    split
    ·rfl
    ·exact h3 x
theorem MapG.delete {t k e:TypeId} (K:KeyG k kf) (ht:Tryz.prog.underlying t=some (.map k e)) {w:World} {g:Nat} {B:α→Option Value} (h:MapG kf w g B) (a:α) (ty:TypeId) (ats:Array TypeId) (hat:ats[0]? = some t) :
  ∃ es clock B',(Builtin.delete_ ats ty #[.map (some g),kf a]).run Tryz.prog w = .ok (.tuple #[]) (putMapI w g es clock)∧MapG kf (putMapI w g es clock) g B'∧∀ x,x≠a→B' x=B x:=by
 have hlt:=h.lt
 obtain ⟨es,clock,l,h1,h2,h3⟩:=h
 have hf:=K.find a w es.toList l h2
 cases hh:findG a l 0 with
 | none =>
   refine ⟨es,clock,B,?_,⟨es,clock,l,by simp [putMapI,hlt],h2,h3⟩,fun _ _=>rfl⟩
   simp [Builtin.delete_,hat,run_underlying ht,MapKept.run_getObj_map h1,K.ck,hf,hh,MapKept.run_setObj_map _ h1,Result.andThen,putMapI]
 | some r =>
   obtain ⟨n,u⟩:=r
   obtain ⟨_,h5,h6⟩:=findG_some a l 0 n u hh
   simp only [Nat.sub_zero] at h5 h6
   refine ⟨es.eraseIdxIfInBounds n,clock,fun x=>(findG x (l.eraseIdx n) 0).map (·.2),?_,⟨es.eraseIdxIfInBounds n,clock,l.eraseIdx n,by simp [putMapI,hlt],?_,fun _=>rfl⟩,fun x hx=>?_⟩
   ·simp [Builtin.delete_,hat,run_underlying ht,MapKept.run_getObj_map h1,K.ck,hf,hh,MapKept.run_setObj_map _ h1,Result.andThen,putMapI]
   ·unfold entsG at h2 ⊢
    have hen:n < es.size:=by
     have:=congrArg List.length h2
     simp at this; omega
    simp only [Array.eraseIdxIfInBounds,hen,dif_pos,Array.toList_eraseIdx]
    rw [erase_mapI,erase_mapI,h2]
   ·have:=findG_erase a x u hx l 0 n hh
    simp only [Nat.sub_zero] at this
    exact this.trans (h3 x)
end
abbrev kI (n:Int):Value := .int .i64 n
theorem keyI_find {k:TypeId} (hk:Tryz.prog.underlying k=some (.int .i64)) (a:Int) (w:World) (es:List MapEntry) (l:List (Int×Value)) (h:entsG kI es l):(Instr.findKey k (kI a) es).run Tryz.prog w = .ok (findG a l 0) w:=by
 have key:∀ (es:List MapEntry) (l:List (Int×Value)) (i:Nat),entsG kI es l→Instr.findNow (.int .i64) (kI a) es i=some (findG a l i):=by
  intro es
  induction es with
  | nil =>
    intro l i h
    cases l with
    | nil=>rfl
    | cons x l=>simp [entsG] at h
  | cons e es ih =>
    intro l i h
    cases l with
    | nil=>simp [entsG] at h
    | cons x l =>
      simp only [entsG,List.map_cons,List.cons.injEq,Prod.mk.injEq] at h
      obtain ⟨⟨h1,h2⟩,h3⟩:=h
      unfold Instr.findNow findG
      rw [h1]
      unfold kI Instr.sameNow
      simp only [if_true]
      by_cases hx:a=x.1
      ·rw [if_pos hx]
       simp [hx,h2]
      ·rw [if_neg hx]
       have:(a==x.1)=false:=by simpa using hx
       rw [this]
       exact ih l (i+1) h3
 simp only [Instr.findKey,Sem.run_bind,run_underlying hk,Result.andThen_ok,key es l 0 h,Sem.run_pure]
theorem keyI_stays (a:Int) (w:World):(Instr.keyThatStays (kI a) (kI a)).run Tryz.prog w = .ok (kI a) w:=by
 simp [Instr.keyThatStays,Instr.sameBits,kI]
section
variable {α:Type} [DecidableEq α]
theorem key_ask {k:TypeId} {kf:α→Value} {d:TypeDesc} (hu:Tryz.prog.underlying k=some d) (hs:∀ a v,Instr.sameNow d (kf a) v=none) (he:∀ a b w,(Op.equal k (kf a) (kf b)).run Tryz.prog w = .ok (decide (a=b)) w) (a:α) (w:World) (es:List MapEntry) (l:List (α×Value)) (h:entsG kf es l) :
  (Instr.findKey k (kf a) es).run Tryz.prog w = .ok (findG a l 0) w:=by
 have key:∀ (es:List MapEntry) (l:List (α×Value)) (i:Nat),entsG kf es l→(Instr.findAsking k (kf a) es i).run Tryz.prog w = .ok (findG a l i) w:=by
  intro es
  induction es with
  | nil =>
    intro l i h
    cases l with
    | nil=>simp [Instr.findAsking,findG]
    | cons x l=>simp [entsG] at h
  | cons e es ih =>
    intro l i h
    cases l with
    | nil=>simp [entsG] at h
    | cons x l =>
      simp only [entsG,List.map_cons,List.cons.injEq,Prod.mk.injEq] at h
      obtain ⟨⟨h1,h2⟩,h3⟩:=h
      have ih':=ih l (i+1) h3
      simp only [Instr.findAsking,Sem.run_bind,h1,he,Result.andThen_ok,findG]
      by_cases hx:a=x.1
      ·simp [hx,h2]
      ·simpa [hx] using ih'
 simp only [Instr.findKey,Sem.run_bind,run_underlying hu,Result.andThen_ok]
 cases es with
 | nil =>
   cases l with
   | nil=>simp [Instr.findNow,findG]
   | cons x l=>simp [entsG] at h
 | cons e es =>
   have:Instr.findNow d (kf a) (e::es) 0=none:=by simp [Instr.findNow,hs]
   rw [this]
   exact key (e::es) l 0 h
end
end Go.Proofs.YtaihbcmifjmapaaGreat
namespace Go.Proofs.YtaihbcmifjmapaaGreat
open Go.RowKit Go.Shelf Sp
set_option linter.unusedVariables false
theorem wpListIn_of {P:Program} {ops:Array Oper} {Q:Exit→Act→World→Prop} {l n:Nat}:∀ {rest:List Oper} {a:Act} {w:World},(rest.all fun o=>match o.op with | .defer _=>false | _=>true)=true→wpList P ops (NoP Q) rest a w→wpListIn (Fence.wide.inRound l) n P ops (NoP Q) rest a w
 | [],a,w,_,h=>h
 | o::rest,a,w,hd,h=>by
   rw [List.all_cons,Bool.and_eq_true] at hd
   have hdo:∀ c,o.op ≠ .defer c:=by
    intro c hc
    have:=hd.1
    rw [hc] at this
    cases this
   unfold wpList at h
   unfold wpListIn
   split at h
   ·rename_i hw
    rw [if_pos hw]
    rcases h with h | ⟨_,a',w',h2⟩
    ·exact wpIn_of_wp hdo (Oper.wp_mono (fun a' w' hh=>wpListIn_of hd.2 hh) h)
    ·exact h2.elim
   ·rename_i hw
    rw [if_neg hw]
    exact ⟨fun _ _=>trivial,wpListIn_of hd.2 h⟩
theorem wpIn_region_plain {P:Program} {id l n:Nat} {Q:Exit→Act→World→Prop} {a:Act} {w:World} {ops:List Oper} (hd:(ops.all fun o=>match o.op with | .defer _=>false | _=>true)=true) (h:wpList P ops.toArray (NoP Q) ops a w) :
  (Code.region id ops.toArray false).wpIn (Fence.wide.inRound l) n P Q a w :=
 wpIn_mono (wpIn_region_lit (wpListIn_of hd h)) NoP_imp
theorem NoP_norm {Q:Exit→Act→World→Prop} {a:Act} {w:World} (h:Q .normal a w):NoP Q .normal a w:=h
theorem own_two {w:World} {base base' e e' size size' n n':Nat} {v v':Value} {xs xs':List Value} (h:w.ownsRow base e size v n xs) (h':w.ownsRow base' e' size' v' n' xs') (hne:e≠e'):v.ownBlock=none∨v.ownBlock≠v'.ownBlock:=by
 rcases h.2 with ⟨rfl,_⟩ | ⟨g,cap,cur,rfl,_,h2,_⟩
 ·exact .inl rfl
 ·refine .inr fun e0=>?_
  rcases h'.2 with ⟨rfl,_⟩ | ⟨g',cap',cur',rfl,_,h2',_⟩
  ·simp [Value.ownBlock] at e0
  ·simp only [Value.ownBlock,Option.some.injEq] at e0
   subst e0
   rw [h2] at h2'
   injection h2' with h2'
   injection h2' with _ h2'
   exact hne h2'
theorem own_cellz {w:World} {base e size n:Nat} {v:Value} {xs:List Value} (h:w.ownsRow base e size v n xs) {r:Nat} (hr:v.ownBlock=some r):base≤r∧∃ cs t f,w.heap[r]? = some (.cells cs t f):=by
 rcases h.2 with ⟨rfl,_⟩ | ⟨g,cap,cur,rfl,h1,h2,_⟩
 ·simp [Value.ownBlock] at hr
 ·simp only [Value.ownBlock,Option.some.injEq] at hr
  subst hr
  exact ⟨h1,_,_,_,h2⟩
theorem below_row {B:Nat} {w0 W W':World} {row:Option Nat} (h:Below B w0 W) (hg:W.grownBy W' row) (hB:B≤W.heap.size) (hr:∀ r,row=some r→B≤r):Below B w0 W' :=
 ⟨hg.os.trans h.os,hg.tape.trans h.tape,hg.output.trans h.output,Nat.le_trans h.size hg.size,fun k hk=>(hg.block k (Nat.lt_of_lt_of_le hk hB) fun e=>by have:=hr k e.symm; omega).trans (h.block k hk)⟩
theorem keeps_cells {W W':World} {base:Nat} {row:Option Nat} (hg:W.grownBy W' row) (hr:∀ r,row=some r→r < base∨∃ cs t f,W.heap[r]? = some (.cells cs t f)):KeepsFrom base W W' :=
 ⟨hg.size,fun k o hB hk ho=>(hg.block k (Array.getElem?_eq_some_iff.1 hk).1 fun e=>by
  rcases hr k e.symm with q | ⟨cs,t,f,q⟩
  ·omega
  ·rw [hk] at q
   injection q with q
   subst q
   simp [Obj.isCells] at ho).trans hk⟩
section
variable {W W':World} {B:Nat}
theorem le_of_keep (h:B≤W.heap.size) (hk:∀ k,k < B→W'.heap[k]? = W.heap[k]?):B≤W'.heap.size:=by
 rcases Nat.lt_or_ge W'.heap.size B with hl | hl
 ·have:=hk W'.heap.size hl
  rw [Array.getElem?_eq_none (Nat.le_refl _),Array.getElem?_eq_getElem (by omega)] at this
  cases this
 ·exact hl
end
theorem blk_own {B Bx:Nat} {cs:Array Value} {t:TypeId} {W W':World} {row:Option Nat} (h2:Blk W Bx t cs) (hg:W.grownBy W' row) (hr:∀ r,row=some r→B≤r∧∃ o:Obj,W.heap[r]? = some o∧o.isCells=false):Blk W' Bx t cs:=by
 refine h2.grown hg ?_
 intro e
 obtain ⟨_,o,ho,hc⟩:=hr Bx e.symm
 rw [h2] at ho
 injection ho with ho
 subst ho
 simp [Obj.isCells] at hc
def rowA (n:Nat) (f:Nat→Value):Array Value:=((List.range n).map f).toArray
theorem rowA_size (n:Nat) (f:Nat→Value):(rowA n f).size=n:=by simp [rowA]
theorem rowA_get {n i:Nat} {f:Nat→Value} (h:i < n):(rowA n f)[i]? = some (f i):=by
 unfold rowA
 simp only [List.getElem?_toArray,List.getElem?_map]
 rw [List.getElem?_range h]
 rfl
theorem rowA_congr {n:Nat} {f g:Nat→Value} (h:∀ i,i < n→f i=g i):rowA n f=rowA n g:=by
 unfold rowA
 congr 1
 exact List.map_congr_left fun i hi=>h i (List.mem_range.1 hi)
theorem rowA_set {n i:Nat} {f g:Nat→Value} {v:Value} (h:∀ j,j < n→g j=if j=i then v else f j):(rowA n f).setIfInBounds i v=rowA n g:=by
 apply Array.ext_getElem?
 intro j
 rw [Array.getElem?_setIfInBounds,rowA_size]
 by_cases hj:j < n
 ·rw [rowA_get hj,rowA_get hj,h j hj]
  by_cases e:i=j
  ·subst e
   rw [if_pos rfl,if_pos hj,if_pos rfl]
  ·rw [if_neg e,if_neg fun e2=>e e2.symm]
 ·have e1:(rowA n f)[j]? = none:=Array.getElem?_eq_none (by rw [rowA_size]; omega)
  have e2:(rowA n g)[j]? = none:=Array.getElem?_eq_none (by rw [rowA_size]; omega)
  rw [e1,e2]
  by_cases e:i=j
  ·rw [if_pos e,if_neg (by omega)]
  ·rw [if_neg e]
theorem quiet_load_row {C:World→Prop} {o:Oper} {a:Act} {K:Act→Prop} (ty:TypeId) (x:Operand) (ho:o.op = .load ty x) (g:Nat) (hx:a.eval x = .pointer (some ⟨g,0,none⟩)) (cs:Array Value)
  (hg:∀ w,C w→(loadVar ty ⟨g,0,none⟩).run Tryz.prog w = .ok (.agg cs) w) (h:K (a.put o.dst (.agg cs))):o.quiet Tryz.prog a C K:=by
 refine ⟨.agg cs,fun w hC=>?_,h⟩
 have h1:=hg w hC
 unfold Oper.quietAt execOp
 simp only [ho,hx,Instr.loadAt,Instr.sureAddr,Sem.run_bind,Sem.run_pure,Result.andThen_ok,h1,Oper.quietUpon]
 trivial
theorem far_part (xs:Array Value) (i:Nat) (v:Value) (h:xs[i]? = some v) (w:World):(Go.part 2 xs (i * 1)).run Tryz.prog w = .ok v w:=by
 have hi:(Tryz.prog.info? 2).map (·.size)=some 1:=by kernel_rfl
 have hu:=Tryz.underlying2
 cases hq:Tryz.prog.info? 2 with
 | none=>simp [hq] at hi
 | some ii =>
   have hs:ii.size=1:=by simpa [hq] using hi
   simp [Go.part,sizeOf,typeInfo,hq,hs,h,go_sem]
theorem far_loop (xs ys:Array Value) (f g:Nat→Int) (hx:∀ i,i < 21→xs[i]? = some (.int .i64 (f i))) (hy:∀ i,i < 21→ys[i]? = some (.int .i64 (g i))) (w:World):∀ l:List Nat,(∀ i∈l,i < 21) →
  (forIn l (none,()) fun i (__s:Option Bool×Unit)=>do
            let __do_lift ← Go.part 2 xs (i * 1)
            let __do_lift_1 ← Go.part 2 ys (i * 1)
            let __do_lift ← Op.equalIn 9999 2 __do_lift __do_lift_1
            if (!__do_lift)=true then pure (ForInStep.done (some false,())) else pure (ForInStep.yield (none,())):Sem (Option Bool×Unit)).run Tryz.prog w = .ok (if l.all (fun i=>f i==g i)=true then (none,()) else (some false,())) w
 | [],_=>by simp
 | i::r,h=>by
   have hi:=h i List.mem_cons_self
   have he:(Op.equalIn 9999 2 (.int .i64 (f i)) (.int .i64 (g i))).run Tryz.prog w = .ok (f i==g i) w:=by simp [go_sem]
   rw [List.forIn_cons]
   simp only [Sem.run_bind,far_part xs i _ (hx i hi),far_part ys i _ (hy i hi),he,Result.andThen_ok]
   cases hq:(f i==g i)
   ·simp [hq]
   ·simp only [Bool.not_true,Bool.false_eq_true,if_false,Sem.run_pure,Result.andThen_ok,List.all_cons,hq,Bool.true_and]
    exact far_loop xs ys f g hx hy w r fun j hj=>h j (List.mem_cons_of_mem _ hj)
theorem eq_far (xs ys:Array Value) (f g:Nat→Int) (hx:∀ i,i < 21→xs[i]? = some (.int .i64 (f i))) (hy:∀ i,i < 21→ys[i]? = some (.int .i64 (g i))) (w:World):(Op.equalIn 10000 119 (.agg xs) (.agg ys)).run Tryz.prog w = .ok ((List.range 21).all fun i=>f i==g i) w:=by
 show (Op.equalIn (9999+1) 119 _ _).run _ _=_
 unfold Op.equalIn
 have hu:=Tryz.underlying119
 have hi:(Tryz.prog.info? 2).map (·.size)=some 1:=by kernel_rfl
 cases hq:Tryz.prog.info? 2 with
 | none=>simp [hq] at hi
 | some ii =>
   have hs:ii.size=1:=by simpa [hq] using hi
   have hsz:(sizeOf 2).run Tryz.prog w = .ok 1 w:=by simp [sizeOf,typeInfo,hq,hs]
   simp only [Sem.run_bind,run_underlying hu,Result.andThen_ok,hsz,Std.Legacy.Range.forIn_eq_forIn_range']
   have hl:=far_loop xs ys f g hx hy w (List.range' 0 21) (by simp)
   have h16:(List.range 21)=List.range' 0 21:=by decide
   rw [h16]
   simp only [Std.Legacy.Range.size,Nat.sub_zero,Nat.add_sub_cancel,Nat.div_one]
   rw [hl]
   cases (List.range' 0 21).all fun i=>f i==g i <;> simp
def rucell (r:Ru):Nat→Value
 | 0 => .int .i64 r.f
 | 1 => .int .i64 r.t
 | _ => .int .i64 r.m
def SheetV (w:World) (B:Nat) (v:Value) (T:Int) (l:List Ru):Prop:=∃ A c,v = .agg #[.int .i64 T,.slice A l.length c]∧Arr w B 3 (.slice A l.length c) l rucell
def wholeR:Nat→List Ru
 | 0=>[]
 | t+1=>wholeR t++[⟨0,((t+1:Nat):Int),100000⟩,⟨((t+1:Nat):Int),0,0⟩]
def allR (T:Nat) (l:List Ru):List Ru:=l++wholeR T
theorem wholeR_rn:∀ T,(wholeR T).map rnOf=wholeL T
 | 0=>rfl
 | t+1=>by
   rw [wholeR,wholeL,List.map_append,wholeR_rn t]
   simp [rnOf]
theorem allR_rn (T:Nat) (l:List Ru):(allR T l).map rnOf=allL T l:=by unfold allR allL; rw [List.map_append,wholeR_rn]
theorem wholeR_len:∀ T,(wholeR T).length=2 * T
 | 0=>rfl
 | t+1=>by rw [wholeR,List.length_append,wholeR_len t]; simp; omega
theorem allR_len {T:Nat} {l:List Ru} (h:SheetOk T l):(allR T l).length≤100:=by
 have h1:=h.few
 have h2:=h.t20
 unfold allR
 rw [List.length_append,wholeR_len]
 omega
theorem allR_fit {T:Nat} {l:List Ru} (h:SheetOk T l):∀ r∈allR T l,0≤r.f∧r.f≤T∧0≤r.t∧r.t≤T ∧ -100000≤r.m∧r.m≤100000:=by
 intro r hr
 rcases List.mem_append.1 hr with hr | hr
 ·have:=h.fit r hr
  omega
 ·have:∀ t,r∈wholeR t→0≤r.f∧r.f≤t∧0≤r.t∧r.t≤t ∧ -100000≤r.m∧r.m≤100000:=by
   intro t
   induction t with
   | zero=>intro h; cases h
   | succ t ih =>
     intro h
     rw [wholeR,List.mem_append] at h
     rcases h with h | h
     ·have:=ih h
      omega
     ·simp only [List.mem_cons,List.not_mem_nil,or_false] at h
      rcases h with rfl | rfl <;> dsimp only <;> omega
  exact this T hr
structure NetAt (W:World) (B g:Nat) (T:Nat) (rv:Value) (al:List Ru) (A:Option Addr) (c:Nat):Prop where
 lt:g < B
 le:B≤W.heap.size
 blk:Blk W g 326 #[.int .i64 T,rv,.slice A al.length c]
 row:Arr W B 3 (.slice A al.length c) al rucell
section
variable {W W':World} {B g T:Nat} {rv:Value} {al:List Ru} {A:Option Addr} {c:Nat}
theorem NetAt.keep (h:NetAt W B g T rv al A c) (hk:∀ k,k < B→W'.heap[k]? = W.heap[k]?):NetAt W' B g T rv al A c :=
 ⟨h.lt,le_of_keep h.le hk,(hk _ h.lt).trans h.blk,h.row.keep fun p hp=>World.cell?_of_block (hk _ hp)⟩
theorem NetAt.call (h:NetAt W B g T rv al A c) (hb:Below W.heap.size W W'):NetAt W' B g T rv al A c:=h.keep fun k hk=>hb.block k (Nat.lt_of_lt_of_le hk h.le)
theorem NetAt.more (h:NetAt W B g T rv al A c) {B':Nat} (hb:B≤B') (hs:B'≤W.heap.size):NetAt W B' g T rv al A c:=⟨Nat.lt_of_lt_of_le h.lt hb,hs,h.blk,h.row.more hb⟩
end
abbrev farA (F:Nat→Int):Array Value:=rowA 21 fun u => .int .i64 (F u)
theorem far_zero:(rowA 21 fun _=>Value.int .i64 0)=#[.int .i64 0,.int .i64 0,.int .i64 0,.int .i64 0,.int .i64 0,.int .i64 0,.int .i64 0,.int .i64 0,.int .i64 0,.int .i64 0,.int .i64 0,.int .i64 0,.int .i64 0,.int .i64 0,.int .i64 0,.int .i64 0,.int .i64 0,.int .i64 0,.int .i64 0,.int .i64 0,.int .i64 0]:=by kernel_rfl
def FarB (W:World) (g:Nat) (F:Nat→Int):Prop:=Blk W g 119 (farA F)
section
variable {W W':World} {g:Nat} {F:Nat→Int}
theorem FarB.at_ (h:FarB W g F) {i:Nat} (hi:i < 21):W.cell? ⟨g,i,none⟩=some (.int .i64 (F i)):=by
 rw [Blk.cell h,rowA_get hi]
theorem FarB.put (h:FarB W g F) {i:Nat} {x:Int} {G:Nat→Int} (hg:∀ j,j < 21→G j=if j=i then x else F j):FarB (W.setCell ⟨g,i,none⟩ (.int .i64 x)) g G:=by
 have:=Blk.set_ h i (.int .i64 x)
 rwa [rowA_set (g:=fun i => .int .i64 (G i)) fun j hj=>by rw [hg j hj]; split <;> rfl] at this
theorem far_i21 (F:Nat→Int):(Tryz.prog.info? 119).map (·.size)=some (farA F).size:=by rw [show (farA F).size=21 from rowA_size _ _]; kernel_rfl
theorem far_one_ (F:Nat→Int):(farA F).all (·.oneCell')=true:=by
 rw [Array.all_eq_true_iff_forall_mem]
 intro x hx
 simp [farA,rowA] at hx
 obtain ⟨u, -,rfl⟩:=hx
 rfl
end
theorem keyInt:KeyG 3 kI:=⟨keyI_find Tryz.underlying3,fun e a w=>by kernel_rfl,keyI_stays⟩
def MapAny (w:World) (g:Nat):Prop:=∃ M:Int→Option Value,MapG kI w g M
theorem MapAny.lt {w:World} {g:Nat} (h:MapAny w g):g < w.heap.size:=by obtain ⟨M,h⟩:=h; exact h.lt
theorem MapAny.heap {w w':World} {g:Nat} (h:MapAny w g) (hh:w'.heap[g]? = w.heap[g]?):MapAny w' g:=by obtain ⟨M,h⟩:=h; exact ⟨M,h.heap hh⟩
end Go.Proofs.YtaihbcmifjmapaaGreat
