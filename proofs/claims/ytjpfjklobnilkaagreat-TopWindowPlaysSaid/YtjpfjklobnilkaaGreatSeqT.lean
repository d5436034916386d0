/- A range over a function that hands out a known list, in order; no round leaves the loop. The same for every seat. -/
import Derived.Test.YtjpfjklobnilkaaGreatPB
import Derived.RangeFuncNested
namespace Go.Proofs.YtjpfjklobnilkaaGreat
open Go.RowKit Go.Shelf
set_option linter.unusedVariables false
def AbidesN {β:Type} (B:Nat) (J:β→World→Prop):Prop :=
 ∀ s W W' row,J s W→W.grownBy W' row→(∀ r,row=some r→B≤r∧∃ o:Obj,W.heap[r]? = some o∧o.isWalk=true)→J s W'
def SeqN {α:Type} (F:Fence) (n:Nat) (P:Program) (g:Nat) (lb:Array Value) (encs:α→Array Value) (Kp:World→World→Prop) (all:List α) (w:World):Prop :=
 ∀ (l:Nat) (J:List α→World→Prop) (W:World),Below w.heap.size w W→AbidesN W.heap.size J →
  (∀ pre x post W1,J pre W1→pre++x::post=all→YieldAt F (n-1) P l (encs x) W1 fun e W'=>e = .returned (.bool true)∧J (pre++[x]) W'∧Kp W1 W') →
  J [] W →
  CallsIn F n P g (#[.func (.yield l) #[] #[]]++lb) W fun e W'=>(∃ v,e = .returned v)∧J all W'
def roundN {α:Type} (B:Nat) (Kp:World→World→Prop) (I:List α→World→Prop) (xs:List α) (W:World):Exit→Act→World→Prop
 | .normal,_,W'=>KeepsFrom B W W'∧Kp W W'∧I xs W'
 | _,_,_=>False
variable {F:Fence} {n:Nat} {P:Program} {w:World}
def recN (fn:FuncId) (tmps:Array Value) (ps:Array Tmp) (assign body:Code) (D:Nat) (st:LoopState):Loop:={ state:=st,pending:=none,fn:=fn,tmps:=tmps,params:=ps,assign:=assign,body:=body,defers:=D }
theorem wpIn_range_list {α:Type} {g:Operand} {ps:Array Tmp} {assign body:Code} {Q:Exit→Act→World→Prop} {a:Act}
  (hro:F.round=none) (h1:1≤n) {gf:Nat} {lb:Array Value} (hg:a.eval g = .func (.func gf) #[] lb) (hFg:F.fn gf) (eg:∀ args w,(callFunc gf args).run P w = .ok (.enter gf args) w)
  {encs:α→Array Value} {Kp:World→World→Prop} {all:List α} {w0:World} (hseq:SeqN F (n-1) P gf lb encs Kp all w0)
  (hKt:∀ {A B C:World},Kp A B→Kp B C→Kp A C) (hKb:∀ (W:World) (l:Nat) (o o':Obj),w.heap.size≤l→W.heap[l]? = some o→o.isCells=false→o.isWalk=false→Kp W (W.putObj l o')) (hb0:Below w0.heap.size w0 w) (hps:∀ x,(encs x).size=ps.size)
  (I:List α→World→Prop) (hI:OwnFrom w.heap.size I) (h0:I [] w)
  (Ax:α→Act→World→Prop) (hAx:∀ x a',OwnFrom w.heap.size (fun (_:Unit) W=>Ax x a' W))
  (hassign:∀ (l:Nat) (pre:List α) (x:α) (post:List α) (W:World) (K:Act→World→Prop),I pre W→pre++x::post=all→w.heap.size+2≤W.heap.size→(∀ a' W',KeepsFrom w.heap.size W W'→Kp W W'→I pre W'→Ax x a' W'→K a' W') →
   assign.wpIn (F.inRound l) (n-1-1) P (Exit.then K (fun _ _ _=>False)) { tmps:=(ps.zip (encs x)).foldl (fun t (p,v)=>t.setIfInBounds p v) a.tmps,defers:=[] } W)
  (hbody:∀ (l:Nat) (pre:List α) (x:α) (post:List α) (a':Act) (W:World),I pre W→Ax x a' W→pre++x::post=all→body.wpIn (F.inRound l) (n-1-1) P (roundN w.heap.size Kp I (pre++[x]) W) a' W)
  (hdone:∀ (D:Nat) (W:World),w.heap.size≤D→I all W→W.heap[D]? = some (.deferred (some []))→Q .normal { a with defers:={ target := .collected D,args:=#[] }::a.defers } W) :
  (Code.rangeFunc g ps assign body).wpIn F n P Q a w:=by
 refine wpIn_rangeFunc ?_
 intro fn hfn
 rw [hro]
 obtain ⟨R,hR⟩:∃ R:LoopState→Loop,R=recN fn a.tmps ps assign body w.heap.size:=⟨_,rfl⟩
 have hRp:∀ st,(R st).params=ps:=fun st=>by rw [hR]; rfl
 have hRs:∀ st,(R st).state=st:=fun st=>by rw [hR]; rfl
 have hRu:∀ st st',{ R st with state:=st' }=R st':=fun st st'=>by rw [hR]; rfl
 have hRe:∀ st st',{ R st with state:=st',pending:=none }=R st':=fun st st'=>by rw [hR]; rfl
 have hRn:∀ st,(R st).pending=none:=fun st=>by rw [hR]; rfl
 obtain ⟨W1,hW1⟩:∃ W1,W1=(w.alloc (.deferred (some []))).alloc (.loop (R .ready)):=⟨_,rfl⟩
 have hs1:W1.heap.size=w.heap.size+2:=by rw [hW1]; simp
 have hL1:W1.heap[w.heap.size+1]? = some (.loop (R .ready)):=by
  have:=World.alloc_heap_new (w.alloc (.deferred (some []))) (.loop (R .ready))
  rw [World.size_alloc] at this
  rw [hW1]
  exact this
 have hD1:W1.heap[w.heap.size]? = some (.deferred (some [])):=by
  rw [hW1]
  exact (Below.heap_alloc _ _ _ (by simp)).trans (World.alloc_heap_new w _)
 have hb1:Below w0.heap.size w0 W1:=by
  have h2:=((Below.refl w.heap.size w).alloc (Nat.le_refl _) (.deferred (some []))).alloc (by simp) (.loop (R .ready))
  rw [← hW1] at h2
  exact hb0.trans (h2.mono hb0.size)
 have hI1:I [] W1:=by rw [hW1]; exact hI.alloc _ (hI.alloc _ h0)
 have hent:=run_enterLoop_outer (P:=P) (w:=w) fn a.tmps ps assign body
 refine ⟨w.heap.size+1,[{ target := .collected w.heap.size,args:=#[] }],W1,{ target := .fn (.func gf) lb,args:=#[.func (.yield (w.heap.size+1)) #[] #[]] },W1,gf,#[.func (.yield (w.heap.size+1)) #[] #[]]++lb,W1,?_,?_,?_,?_,fun _=>h1,?_⟩
 ·rw [hW1,hR]
  exact hent
 ·simp only [resolve,hg]
  simp [go_sem]
 ·intro f' hf'
  simp [Target.leads] at hf'
  exact hf' ▸ hFg
 ·simp [invoke,go_sem,eg]
 ·-- what holds between two rounds: the caller's invariant, and both records
  obtain ⟨J,hJ⟩:∃ J:List α→World→Prop,J=fun pre W=>I pre W∧W.heap[w.heap.size+1]? = some (.loop (R .ready))∧W.heap[w.heap.size]? = some (.deferred (some [])):=⟨_,rfl⟩
  have hJab:AbidesN W1.heap.size J:=by
   intro s A C row hs hgr hr
   rw [hJ] at hs ⊢
   obtain ⟨q1,q2,q3⟩:=hs
   have hkeep:∀ k o,A.heap[k]? = some o→k < w.heap.size+2→C.heap[k]? = some o:=by
    intro k o hk hlt
    refine (hgr.block k (Array.getElem?_eq_some_iff.1 hk).1 fun e=>?_).trans hk
    have:=(hr k e.symm).1; omega
   refine ⟨?_,hkeep _ _ q2 (by omega),hkeep _ _ q3 (by omega)⟩
   cases row with
   | none=>exact hI s A C none q1 hgr fun r e=>by cases e
   | some r =>
     obtain ⟨q,o,ho,hw⟩:=hr r rfl
     exact hI s A C (some r) q1 hgr fun r' e=>by
      injection e with e
      exact ⟨by omega,o,by rw [← e]; exact ho,Obj.not_cells_of_walk hw⟩
  refine (hseq (w.heap.size+1) J W1 hb1 hJab ?_ (by rw [hJ]; exact ⟨hI1,hL1,hD1⟩)).mono ?_
  ·intro pre x post W hJW hlen
   rw [hJ] at hJW
   obtain ⟨hi,hl,hd⟩:=hJW
   have hsz:w.heap.size+2≤W.heap.size:=by have:=(Array.getElem?_eq_some_iff.1 hl).1; omega
   have hy:=run_yield (P:=P) (args:=encs x) hl (by rw [hRp]; exact hps x)
   have e1:(R .ready).tmps=a.tmps:=by rw [hR]; rfl
   have e2:(R .ready).assign=assign:=by rw [hR]; rfl
   have e3:(R .ready).body=body:=by rw [hR]; rfl
   have e4:(R .ready).fn=fn:=by rw [hR]; rfl
   rw [hRp,e1,e2,e3,e4] at hy
   refine ⟨fn,_,assign,body,hy,roundIn_of_wpIn hfn (hassign _ pre x post W _ hi hlen hsz ?_)⟩
   intro a' Wa hka hkp hia hax
   have hla:=hka.same _ _ (by omega) hl rfl
   have hda:=hka.same _ _ (Nat.le_refl _) hd rfl
   have hlt:=(Array.getElem?_eq_some_iff.1 hla).1
   have hbeg:=run_beginRound (P:=P) hla (hRs _)
   rw [hRu] at hbeg
   refine ⟨_,hbeg,?_⟩
   obtain ⟨Wb,hWb⟩:∃ Wb,Wb=Wa.putObj (w.heap.size+1) (.loop (R .busy)):=⟨_,rfl⟩
   rw [← hWb]
   have hlb2:Wb.heap[w.heap.size+1]? = some (.loop (R .busy)):=by rw [hWb]; exact World.putObj_heap_same hlt
   have hdb2:Wb.heap[w.heap.size]? = some (.deferred (some [])):=by rw [hWb]; exact (World.putObj_heap_other (by omega)).trans hda
   have hkb:Kp Wa Wb:=by rw [hWb]; exact hKb _ _ _ _ (by omega) hla rfl rfl
   have hib:I pre Wb:=by rw [hWb]; exact hI.putObj _ hia (by omega) hla rfl
   have haxb:Ax x a' Wb:=by rw [hWb]; exact (hAx x a').putObj (s:=()) _ hax (by omega) hla rfl
   refine wpIn_mono (hbody _ pre x post a' Wb hib haxb hlen) ?_
   intro e a3 W3 hp
   cases e with
   | normal =>
     obtain ⟨hk3,hkp3,hi3⟩:=hp
     have hl3:=hk3.same _ _ (by omega) hlb2 rfl
     have hd3:=hk3.same _ _ (Nat.le_refl _) hdb2 rfl
     have hend:=run_endRound (P:=P) none hl3
     refine ⟨_,_,hend,rfl,?_,hKt hkp (hKt (hKt hkb hkp3) (hKb _ _ _ _ (by omega) hl3 rfl rfl))⟩
     rw [hJ]
     refine ⟨hI.putObj _ hi3 (by omega) hl3 rfl,?_,(World.putObj_heap_other (by omega)).trans hd3⟩
     have:=World.putObj_heap_same (w:=W3) (o := .loop { R .busy with state:=if (none:Option Code).isNone=true then .ready else .done,pending:=none }) (Array.getElem?_eq_some_iff.1 hl3).1
     rw [this]
     simp only [Option.isNone_none,if_true,hRe]
   | ret=>exact hp.elim
   | exit id=>exact hp.elim
   | goto t=>exact hp.elim
   | panic ch=>exact hp.elim
   | outgrown=>exact hp.elim
  ·rintro e W2 ⟨⟨v,rfl⟩,hJx⟩
   rw [hJ] at hJx
   obtain ⟨hi,hl,hd⟩:=hJx
   have hend:=run_endLoop (P:=P) hl (by rw [hRs]; simp)
   rw [hRn] at hend
   exact ⟨none,_,hend,hdone _ _ (Nat.le_refl _) (hI.putObj _ hi (by omega) hl rfl) ((World.putObj_heap_other (by omega)).trans hd)⟩
end Go.Proofs.YtjpfjklobnilkaaGreat
