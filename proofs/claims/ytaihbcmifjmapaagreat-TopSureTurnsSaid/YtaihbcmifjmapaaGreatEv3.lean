/- Evaluator, part Z: frames: their items, their marks, how they are left. Evaluator, part ZA: how a frame ends; what calls do. Evaluator, part ZB: statements. Evaluator, part ZC: ranges over maps. Evaluator, part ZD: ranges over maps, the rounds. Evaluator, part ZE: the evaluator is sound. Evaluator, part ZF: a function without arguments that the evaluator finds to return true does. Evaluator, part ZG: a function's statements a few at a time, between states that are written down. -/
import Derived.Test.YtaihbcmifjmapaaGreatEv2
import Derived.RangeFuncRecord
namespace Go.Proofs.YtaihbcmifjmapaaGreat.Ev
open Go Go.RowKit
set_option linter.unusedVariables false
variable {P:Program} {γ:Id→List MapEntry} {μ μ':Mu} {G G':Id→Row} {nx nx':Id} {B:Nat} {w w':World} {nt:Nat} {R:Regs} {a:Act} {H:Hp} {call:Caller}
def todoOf (k0:List Item):List AI→List Item
 | []=>[]
 | .code c::r => .code c::todoOf k0 r
 | .inBlock i::r => .inBlock i::todoOf k0 r
 | .inLoop c::r => .inLoop c::todoOf k0 r
 | .inScope c::r => .inScope c::todoOf k0 r
 | .begin::r => .beginRound::todoOf k0 r
 | .stop::_=>k0
theorem exit_ok (k0:List Item) (id:Nat):∀ {r r':List AI},aExit id r=some r'→exitTo id (todoOf k0 r)=some (todoOf k0 r')∧hasStop r'=hasStop r
 | [],r',h=>by cases h
 | .inBlock i::r,r',h=>by
   simp only [aExit] at h
   simp only [todoOf,exitTo,hasStop]
   by_cases hi:(i==id)=true
   ·rw [if_pos hi] at h ⊢
    injection h with h
    subst h
    exact ⟨rfl,rfl⟩
   ·rw [if_neg hi] at h ⊢
    exact exit_ok k0 id h
 | .code c::r,r',h=>exit_ok k0 id (r:=r) h
 | .inLoop c::r,r',h=>exit_ok k0 id (r:=r) h
 | .inScope c::r,r',h=>exit_ok k0 id (r:=r) h
 | .begin::r,r',h=>exit_ok k0 id (r:=r) h
 | .stop::r,r',h=>by cases h
theorem exit_none (k0:List Item) (id:Nat):∀ {r:List AI},aExit id r=none→hasStop r=false→exitTo id (todoOf k0 r)=none
 | [],_,_=>rfl
 | .inBlock i::r,h,hs=>by
   simp only [aExit] at h
   simp only [todoOf,exitTo]
   by_cases hi:(i==id)=true
   ·rw [if_pos hi] at h
    cases h
   ·rw [if_neg hi] at h ⊢
    exact exit_none k0 id h hs
 | .code c::r,h,hs=>exit_none k0 id (r:=r) h hs
 | .inLoop c::r,h,hs=>exit_none k0 id (r:=r) h hs
 | .inScope c::r,h,hs=>exit_none k0 id (r:=r) h hs
 | .begin::r,h,hs=>exit_none k0 id (r:=r) h hs
 | .stop::r,h,hs=>by cases hs
theorem goto_ok (k0:List Item) (l:Nat):∀ {r r':List AI},aGoto l r=some r'→gotoIn l (todoOf k0 r)=some (todoOf k0 r')∧hasStop r'=hasStop r
 | [],r',h=>by cases h
 | .inScope c::r,r',h=>by
   simp only [aGoto] at h
   simp only [todoOf,gotoIn,hasStop]
   cases hf:findLabel c l with
   | some rest =>
     rw [hf] at h
     injection h with h
     subst h
     exact ⟨rfl,rfl⟩
   | none =>
     rw [hf] at h
     exact goto_ok k0 l h
 | .code c::r,r',h=>goto_ok k0 l (r:=r) h
 | .inLoop c::r,r',h=>goto_ok k0 l (r:=r) h
 | .inBlock c::r,r',h=>goto_ok k0 l (r:=r) h
 | .begin::r,r',h=>goto_ok k0 l (r:=r) h
 | .stop::r,r',h=>by cases h
theorem goto_none (k0:List Item) (l:Nat):∀ {r:List AI},aGoto l r=none→hasStop r=false→gotoIn l (todoOf k0 r)=none
 | [],_,_=>rfl
 | .inScope c::r,h,hs=>by
   simp only [aGoto] at h
   simp only [todoOf,gotoIn]
   cases hf:findLabel c l with
   | some rest=>rw [hf] at h; cases h
   | none =>
     rw [hf] at h
     exact goto_none k0 l h hs
 | .code c::r,h,hs=>goto_none k0 l (r:=r) h hs
 | .inLoop c::r,h,hs=>goto_none k0 l (r:=r) h hs
 | .inBlock c::r,h,hs=>goto_none k0 l (r:=r) h hs
 | .begin::r,h,hs=>goto_none k0 l (r:=r) h hs
 | .stop::r,h,hs=>by cases hs
def markOf (q:Nat):Deferred:={ target := .collected q,args:=#[] }
def Marks (μ:Mu):List Id→List Deferred→Prop
 | [],[]=>True
 | d::ds,m::ms=>(∃ p,μ d=some p∧m=markOf p.blk)∧Marks μ ds ms
 | _,_=>False
theorem Marks.mono (h:μ.le μ'):∀ {ds:List Id} {ms:List Deferred},Marks μ ds ms→Marks μ' ds ms
 | [],[],_=>trivial
 | d::ds,m::ms,k=>⟨k.1.elim fun p x=>⟨p,h _ _ x.1,x.2⟩,k.2.mono h⟩
theorem putObj_wr {b:Nat} (h:b < w.heap.size) (o:Obj):Wr w b o (w.putObj b o):=Wr.set h o
def RoundOk (μ:Mu):Option Id→Option Nat→Prop
 | none,none=>True
 | some l,some q=>∃ p,μ l=some p∧p.blk=q
 | _,_=>False
theorem RoundOk.mono (h:μ.le μ'):∀ {l:Option Id} {q:Option Nat},RoundOk μ l q→RoundOk μ' l q
 | none,none,_=>trivial
 | some l,some q,⟨p,h1,h2⟩=>⟨p,h _ _ h1,h2⟩
theorem take_ok:∀ {dfs:List Id} {H H':Hp} {dm:List Deferred} {w:World},takeDfs H dfs=some H'→HR P γ μ (fun q=>getRow q H) nx B w→Marks μ dfs dm →
  ∃ w',HR P γ μ (fun q=>getRow q H') nx B w'∧Goes μ (fun q=>getRow q H) nx w μ (fun q=>getRow q H') nx w' ∧
   ∀ fr:Frame,fr.mode = .returning→fr.defers=dm→∀ cs,Steps P (lone fr cs w) (lone { fr with defers:=[] } cs w')
 | [],H,H',[],w,h,hr,_=>by
   injection h with h
   subst h
   refine ⟨w,hr,Goes.refl _ _ _ _,fun fr _ hd cs=>?_⟩
   have:({ fr with defers:=[] }:Frame)=fr:=by rw [← hd]
   rw [this]
   exact .refl _ _
 | d::dfs,H,H',m::dm,w,h,hr,hm=>by
   obtain ⟨⟨p,hp,rfl⟩,hm⟩:=hm
   simp only [takeDfs] at h
   cases hrow:getRow d H with
   | deferred =>
     simp only [hrow] at h
     have hal:alive (getRow d H)=true:=by rw [hrow]; rfl
     obtain ⟨p',ob,e1, -,e3,e4⟩:=hr.live d hal
     rw [hp] at e1
     injection e1 with e1
     subst e1
     simp only [hrow] at e4
     have e4:ob = .deferred (some []):=e4
     subst e4
     have hlt:=(Array.getElem?_eq_some_iff.1 e3).1
     have hrun:=run_takeDeferred (P:=P) e3
     obtain ⟨f1,f2⟩:=hr.write (q:=d) (row := .dead) hal hp (trivial:rowOk P (γ d) μ p (.deferred none) .dead) (putObj_wr hlt (.deferred none))
     rw [← setRow_fun] at f1 f2
     obtain ⟨w',g1,g2,g3⟩:=take_ok h f1 hm
     refine ⟨w',g1,f2.trans g2,fun fr h1 h2 cs => .head (step_collected (by rw [h1]; intro h; cases h) h2 rfl hrun) ?_⟩
     exact g3 { fr with defers:=dm } h1 rfl cs
   | _=>simp only [hrow] at h; cases h
def resF (tmps:Array Value):ResultVar→Sem Value
 | .tmp t=>pure (tmps.getD t undef)
 | .cell b t=>do loadVar t (← asAddr (tmps.getD b undef))
theorem res_ok (hr:HR P γ μ (fun q=>getRow q H) nx B w) (k:RegOk μ nt R a.tmps):∀ {rs:List ResultVar} {es:List EV},resE P R H rs=some es →
  ∃ vs,ivs μ es=some vs∧(rs.mapM (resF a.tmps)).run P w = .ok vs w
 | [],es,h=>by injection h with h; subst h; exact ⟨[],rfl,rfl⟩
 | .tmp t::rs,es,h=>by
   simp only [resE] at h
   split at h
   rotate_left
   ·cases h
   rename_i e es' h1 h2
   injection h with h
   subst h
   obtain ⟨vs,e1,e2⟩:=res_ok hr k h2
   have hk:e=getX (px (.tmp t)) R∧e ≠ .unk:=by
    unfold ifK at h1
    generalize getX (px (.tmp t)) R=e0 at h1
    cases e0 <;> first | (cases h1; done) | (injection h1 with h1; subst h1; exact ⟨rfl,fun h=>by cases h⟩)
   have hv:=px_known k hk.1.symm hk.2
   refine ⟨_,ivs_mk hv e1,?_⟩
   rw [List.mapM_cons,Sem.run_bind]
   simp only [resF,Sem.run_pure,Result.andThen_ok]
   rw [Sem.run_bind,e2]
   rfl
 | .cell b t::rs,es,h=>by
   simp only [resE] at h
   split at h
   rotate_left
   ·cases h
   rename_i e es' h1 h2
   injection h with h
   subst h
   obtain ⟨vs,e1,e2⟩:=res_ok hr k h2
   have hkd:kindO (prepO P (.load t (.tmp b)) t) = .r∨prepO P (.load t (.tmp b)) t = .bad:=by
    show kindO (match isAggT P t,sizeT P t with
     | some g,some z=>PO.load g z (px (.tmp b))
     | _,_ => .bad) = .r∨(match isAggT P t,sizeT P t with
     | some g,some z=>PO.load g z (px (.tmp b))
     | _,_ => .bad) = .bad
    cases isAggT P t <;> cases sizeT P t <;> first | exact .inr rfl | exact .inl rfl
   rcases hkd with hkd | hkd
   rotate_left
   ·rw [hkd] at h1; cases h1
   have hx:getX (rdX (prepO P (.load t (.tmp b)) t)) R=getX (px (.tmp b)) R∧∀ x,rdV P (prepO P (.load t (.tmp b)) t) (getX (px (.tmp b)) R) x (fun q=>getRow q H)=rdV P (prepO P (.load t (.tmp b)) t) (getX (px (.tmp b)) R) .unk (fun q=>getRow q H):=by
    have:∃ g z,prepO P (.load t (.tmp b)) t = .load g z (px (.tmp b)):=by
     revert hkd
     show kindO (match isAggT P t,sizeT P t with
      | some g,some z=>PO.load g z (px (.tmp b))
      | _,_ => .bad) = .r→∃ g z,(match isAggT P t,sizeT P t with
      | some g,some z=>PO.load g z (px (.tmp b))
      | _,_ => .bad) = .load g z (px (.tmp b))
     cases isAggT P t <;> cases sizeT P t <;> intro hk <;> first | (cases hk; done) | exact ⟨_,_,rfl⟩
    obtain ⟨g,z,hgz⟩:=this
    rw [hgz]
    exact ⟨rfl,fun x=>rfl⟩
   obtain ⟨v,f1,f2⟩:=rdV_ok (o:={ (default:Oper) with op := .load t (.tmp b),type:=t }) hr k hkd (by
    rw [← hx.1] at h1
    show rdV P (prepO P (.load t (.tmp b)) t) (getX (rdX (prepO P (.load t (.tmp b)) t)) R) (getX (rdX2 (prepO P (.load t (.tmp b)) t)) R) (fun q=>getRow q H)=some e
    rw [hx.1,hx.2,← hx.1]
    exact h1)
   have hev:a.eval (.tmp b)=a.tmps.getD b undef:=rfl
   have hload:(do loadVar t (← asAddr (a.tmps.getD b undef)):Sem Value).run P w = .ok v w:=by
    have f3:(do pure (.value (← Instr.loadAt t (a.eval (.tmp b)))):Sem Next).run P w = .ok (.value v) w:=f2
    rw [hev] at f3
    unfold Instr.loadAt at f3
    cases hv:a.tmps.getD b undef <;> rw [hv] at f3 <;> try (cases f3; done)
    rename_i ad
    cases ad with
    | none=>cases f3
    | some ad =>
      simp only [Instr.sureAddr,pure_bind] at f3
      simp only [asAddr,pure_bind]
      rw [Sem.run_bind] at f3
      cases hl:(loadVar t ad).run P w with
      | ok x w1 =>
        rw [hl] at f3
        injection f3 with f4 f5
        injection f4 with f4
        subst f4 f5
        rfl
      | halt x w1=>rw [hl] at f3; cases f3
   refine ⟨_,ivs_mk f1 e1,?_⟩
   rw [List.mapM_cons,Sem.run_bind]
   rw [show (resF a.tmps (.cell b t)).run P w = .ok v w from hload]
   simp only [Result.andThen_ok]
   rw [Sem.run_bind,e2]
   rfl
theorem results_ok (hr:HR P γ μ (fun q=>getRow q H) nx B w) (k:RegOk μ nt R a.tmps) {fn:Func} {es:List EV} (h:resE P R H fn.results.toList=some es) :
  ∃ v,iv μ (match es with
   | [e]=>e
   | es => .tup es)=some v∧(results fn a.tmps).run P w = .ok v w:=by
 obtain ⟨vs,e1,e2⟩:=res_ok hr k h
 have hl:=ivs_len e1
 have hrun:(results fn a.tmps).run P w = .ok (if h:vs.toArray.size=1 then vs.toArray[0] else .tuple vs.toArray) w:=by
  unfold results
  show (do let vs ← fn.results.mapM (resF a.tmps); pure (if h:vs.size=1 then vs[0] else .tuple vs):Sem Value).run P w=_
  rw [Sem.run_bind,Array.mapM_eq_mapM_toList]
  show ((do let l ← fn.results.toList.mapM (resF a.tmps); pure l.toArray:Sem (Array Value)).run P w).andThen _=_
  rw [Sem.run_bind,e2]
  rfl
 refine ⟨_,?_,hrun⟩
 cases es with
 | nil =>
   cases vs with
   | nil=>rfl
   | cons v vs=>cases hl
 | cons e es =>
   cases vs with
   | nil=>cases hl
   | cons v vs =>
     obtain ⟨v',r,h1,h2,h3⟩:=ivs_cons e1
     injection h1 with h1 h4
     subst h1 h4
     cases es with
     | nil =>
       cases vs with
       | nil=>exact h2
       | cons u us=>cases hl
     | cons e' es =>
       cases vs with
       | nil=>cases hl
       | cons u us =>
         rw [dif_neg (by simp)]
         simp only [iv,e1,Option.map_some]
end Go.Proofs.YtaihbcmifjmapaaGreat.Ev
namespace Go.Proofs.YtaihbcmifjmapaaGreat.Ev
open Go Go.RowKit
set_option linter.unusedVariables false
variable {P:Program} {γ:Id→List MapEntry} {μ μ':Mu} {G G':Id→Row} {nx nx':Id} {B:Nat} {w w':World} {nt:Nat} {R:Regs} {a:Act} {H:Hp} {call:Caller} {b:Frame} {k0:List Item} {d0:List Deferred}
def Left (P:Program) (b:Frame) (m:List Frame→Machine) (w':World) (v:Value):Prop:=match b.roundOf with
 | none=>∃ fr:Frame,fr.fn=b.fn∧fr.leaving P w' (.returned v)∧∀ cs,Steps P (m cs) (lone fr cs w')
 | some _=>∀ c cs,Steps P (m (c::cs)) (lone (c.finish v) cs w')
theorem Left.steps {m m':List Frame→Machine} {v:Value} (h:Left P b m' w' v) (k:∀ cs,Steps P (m cs) (m' cs)):Left P b m w' v:=by
 unfold Left at h ⊢
 cases hb:b.roundOf with
 | none =>
   rw [hb] at h
   obtain ⟨fr,h1,h2,h3⟩:=h
   exact ⟨fr,h1,h2,fun cs=>(k cs).trans (h3 cs)⟩
 | some l =>
   rw [hb] at h
   exact fun c cs=>(k _).trans (h c cs)
theorem Left.back {m:List Frame→Machine} {v:Value} (h:Left P b m w' v) (c:Frame) (cs:List Frame):Steps P (m (c::cs)) (lone (c.finish v) cs w'):=by
 unfold Left at h
 cases hb:b.roundOf with
 | none =>
   rw [hb] at h
   obtain ⟨fr,h1,h2,h3⟩:=h
   exact (h3 _).trans (.one (step_leave_returned h2))
 | some l =>
   rw [hb] at h
   exact h c cs
def Ends (P:Program) (B:Nat) (γ:Id→List MapEntry) (k0:List Item) (d0:List Deferred) (b:Frame) (m:List Frame→Machine) (μ:Mu) (G:Id→Row) (nx:Id) (w:World) (u:Out):Prop :=
 ∃ w' μ',HR P γ μ' (fun q=>getRow q u.H) u.nx B w'∧Goes μ G nx w μ' (fun q=>getRow q u.H) u.nx w' ∧
  ((∃ R' a',u.st=some R'∧RegOk μ' (ntOf P b.fn) R' a'.tmps∧a'.defers=d0∧∀ cs,Steps P (m cs) (lone (b.atR a' k0) cs w')) ∨
    (u.st=none∧∃ v,iv μ' u.e=some v∧Left P b m w' v))
theorem Ends.from {m m':List Frame→Machine} {u:Out} (h:Ends P B γ k0 d0 b m' μ' G' nx' w' u) (hg:Goes μ G nx w μ' G' nx' w') (hs:∀ cs,Steps P (m cs) (m' cs)):Ends P B γ k0 d0 b m μ G nx w u:=by
 obtain ⟨w2,μ2,h1,h2,h3⟩:=h
 refine ⟨w2,μ2,h1,hg.trans h2,?_⟩
 rcases h3 with ⟨R',a',e1,e2,e3,e4⟩ | ⟨e1,v,e2,e3⟩
 ·exact .inl ⟨R',a',e1,e2,e3,fun cs=>(hs cs).trans (e4 cs)⟩
 ·exact .inr ⟨e1,v,e2,e3.steps hs⟩
theorem leave_none {fn:FuncId} {dfs:List Id} {jump:Option Code} {u:Out} (h:leaveE P fn R dfs none jump H nx=some u) :
  (jump=none∨jump=some .ret)∧∃ f H' es,P.funcs[fn]? = some f∧takeDfs H dfs=some H'∧resE P R H' f.results.toList=some es∧u.H=H'∧u.nx=nx∧u.st=none∧u.e=(match es with
   | [e]=>e
   | es => .tup es):=by
 have key:(match P.funcs[fn]?,takeDfs H dfs with
   | some f,some H'=>match resE P R H' f.results.toList with
     | some [e]=>some ⟨e,H',nx,none⟩
     | some es=>some ⟨.tup es,H',nx,none⟩
     | none=>none
   | _,_=>none)=some u→∃ f H' es,P.funcs[fn]? = some f∧takeDfs H dfs=some H'∧resE P R H' f.results.toList=some es∧u.H=H'∧u.nx=nx∧u.st=none∧u.e=(match es with
   | [e]=>e
   | es => .tup es):=by
  intro h
  split at h
  rotate_left
  ·cases h
  rename_i f H' h1 h2
  split at h
  ·rename_i e h3
   injection h with h
   subst h
   exact ⟨f,H',_,h1,h2,h3,rfl,rfl,rfl,rfl⟩
  ·rename_i es h3 h4
   injection h with h
   subst h
   refine ⟨f,H',_,h1,h2,h4,rfl,rfl,rfl,?_⟩
   cases es with
   | nil=>rfl
   | cons e es =>
     cases es with
     | nil=>exact absurd rfl (h3 e)
     | cons e' es=>rfl
  ·cases h
 unfold leaveE at h
 cases jump with
 | none=>exact ⟨.inl rfl,key h⟩
 | some c=>cases c <;> first | (cases h; done) | exact ⟨.inr rfl,key h⟩
theorem leave_ok {dfs:List Id} {round:Option Id} {jump:Option Code} {u:Out} (h:leaveE P b.fn R dfs round jump H nx=some u) (hr:HR P γ μ (fun q=>getRow q H) nx B w) (k:RegOk μ (ntOf P b.fn) R a.tmps) (hm:Marks μ dfs a.defers)
  (hk:b.kind = .normal) (hro:RoundOk μ round b.roundOf) {K:List Item}
  (h1:b.roundOf=none→(jump=none∨jump=some .ret)→∀ cs,step P (lone (b.atR a K) cs w) = .next (lone { b.atR a K with mode := .returning } cs w))
  (h2:∀ l v w',b.roundOf=some l→(Instr.endRound l jump).run P w = .ok v w'→∀ c cs,step P (lone (b.atR a K) (c::cs) w) = .next (lone (c.finish v) cs w')) :
  Ends P B γ k0 d0 b (fun cs=>lone (b.atR a K) cs w) μ (fun q=>getRow q H) nx w u:=by
 cases round with
 | none =>
   have hb:b.roundOf=none:=by
    cases hb:b.roundOf with
    | none=>rfl
    | some q=>rw [hb] at hro; exact hro.elim
   obtain ⟨hj,f,H',es,e1,e2,e3,e4,e5,e6,e7⟩:=leave_none h
   obtain ⟨w',f1,f2,f3⟩:=take_ok e2 hr hm
   obtain ⟨v,g1,g2⟩:=results_ok f1 k e3
   refine ⟨w',μ,by rw [e4,e5]; exact f1,by rw [e4,e5]; exact f2,.inr ⟨e6,v,by rw [e7]; exact g1,?_⟩⟩
   unfold Left
   rw [hb]
   refine ⟨{ { b.atR a K with mode := .returning } with defers:=[] },rfl,⟨rfl,rfl,hk,f,e1,g2⟩,fun cs => .head (h1 hb hj cs) (f3 _ rfl rfl cs)⟩
 | some l =>
   cases hb:b.roundOf with
   | none=>rw [hb] at hro; exact hro.elim
   | some q =>
     rw [hb] at hro
     obtain ⟨p,hp,rfl⟩:=hro
     unfold leaveE at h
     simp only [] at h
     cases hrow:getRow l H with
     | loop st pend fn' R' ps asg body d =>
       simp only [hrow] at h
       injection h with h
       subst h
       have hal:alive (getRow l H)=true:=by rw [hrow]; rfl
       obtain ⟨p',ob,e1, -,e3,e4⟩:=hr.live l hal
       rw [hp] at e1
       injection e1 with e1
       subst e1
       simp only [hrow] at e4
       obtain ⟨tmps,q,pq,e5,e6,e7,e8⟩:=e4
       subst e5
       have hlt:=(Array.getElem?_eq_some_iff.1 e3).1
       have hrun:=run_endRound (P:=P) jump e3
       obtain ⟨f1,f2⟩:=hr.write (q:=l) (row := .loop (if jump.isNone then .ready else .done) jump fn' R' ps asg body d) hal hp (⟨tmps,q,pq,rfl,e6,e7,e8⟩) (putObj_wr hlt _)
       rw [← setRow_fun] at f1 f2
       refine ⟨_,μ,f1,f2,.inr ⟨rfl,_,rfl,?_⟩⟩
       unfold Left
       rw [hb]
       exact fun c cs => .one (h2 _ _ _ hb hrun c cs)
     | _=>simp only [hrow] at h; cases h
structure In (P:Program) (B:Nat) (γ:Id→List MapEntry) (μ:Mu) (H:Hp) (nx:Id) (w:World) (R:Regs) (dfs:List Id) (round:Option Id) (a:Act) (d0:List Deferred) (b:Frame) (stop:Bool):Prop where
 hr:HR P γ μ (fun q=>getRow q H) nx B w
 regs:RegOk μ (ntOf P b.fn) R a.tmps
 marks:∃ dm,Marks μ dfs dm∧a.defers=dm++d0
 none:stop=false→d0=[]
 kind:b.kind = .normal
 round:RoundOk μ round b.roundOf
def ItOk (P:Program) (B:Nat) (todo:List AI) (f:BF):Prop:=∀ (γ:Id→List MapEntry) (μ:Mu) (H:Hp) (nx:Id) (w:World) (R:Regs) (dfs:List Id) (round:Option Id) (a:Act) (d0:List Deferred) (b:Frame) (k0:List Item) (u:Out),
 In P B γ μ H nx w R dfs round a d0 b (hasStop todo)→f b.fn R dfs round H nx=some u→Ends P B γ k0 d0 b (fun cs=>lone (b.atR a (todoOf k0 todo)) cs w) μ (fun q=>getRow q H) nx w u
def EvOk (P:Program) (B:Nat) (ev:Ev):Prop:=∀ todo,ItOk P B todo fun fn R dfs round H nx=>ev fn R todo dfs round H nx
theorem left_some {o:Option Out} {u:Out} (h:left o=some u):o=some u∧u.st=none:=by
 cases o with
 | none=>cases h
 | some x =>
   replace h:(Option.casesOn x.st (some x) fun _=>none:Option Out)=some u:=h
   cases hx:x.st with
   | none=>rw [hx] at h; injection h with h; subst h; exact ⟨rfl,hx⟩
   | some r=>rw [hx] at h; cases h
theorem putAll_ok {arr:Array Value}:∀ {es:List EV} {vs:List Value} {i:Nat} {R:Regs},ivs μ es=some vs→RegOk μ nt R arr→i+es.length≤256→(∀ j v,vs[j]? = some v→arr[i+j]? = some v)→RegOk μ nt (putAll i es R) arr
 | [],vs,i,R,_,k,_,_=>k
 | e::es,vs,i,R,h,k,h1,h2=>by
   obtain ⟨v,r,rfl,e1,e2⟩:=ivs_cons h
   simp only [List.length_cons] at h1
   show RegOk μ nt (putAll (i+1) es (VE.rec (motive:=fun _=>Regs) (fun e=>setR (toD (i / 16)) (toD (i % 16)) e R) (strict e))) arr
   rw [strict_eq]
   refine putAll_ok e2 ⟨k.1,fun t ht=>?_⟩ (by omega) fun j u hj=>by
    have:=h2 (j+1) u (by simpa using hj)
    rw [← this]
    congr 1
    omega
   show regAt t (setR (toD (i / 16)) (toD (i % 16)) e R) = .unk∨∃ v,arr[t]? = some v∧iv μ (regAt t (setR (toD (i / 16)) (toD (i % 16)) e R))=some v
   rw [regAt_set ht (by omega)]
   by_cases hti:t=i
   ·subst hti
    rw [if_pos rfl]
    exact .inr ⟨v,h2 0 v rfl,e1⟩
   ·rw [if_neg hti]
    exact k.2 t ht
theorem noRegs_ok {arr:Array Value} (h:arr.size=nt):RegOk μ nt noRegs arr:=⟨h,fun t ht => .inl (regAt_no t)⟩
theorem putPs_ok:∀ {ps:List Tmp} {es:List EV} {vs:List Value} {R:Regs} {tmps:Array Value},ivs μ es=some vs→RegOk μ nt R tmps→RegOk μ nt (putPs nt ps es R) ((ps.zip vs).foldl (fun tmps x=>tmps.setIfInBounds x.1 x.2) tmps)
 | [],es,vs,R,tmps,h,k=>by cases es <;> exact k
 | p::ps,[],vs,R,tmps,h,k=>by
   injection h with h
   subst h
   exact k
 | p::ps,e::es,vs,R,tmps,h,k=>by
   obtain ⟨v,r,rfl,e1,e2⟩:=ivs_cons h
   exact putPs_ok (ps:=ps) e2 (RegOk.put (a:=⟨tmps,[]⟩) k (some p) (.inr e1))
def NoCount (P : Program) : Prop := ∀ (f : FuncId) (fn : Func), P.funcs[f]? = some fn → (fn.name == "runtime.NumGoroutine") = false
theorem enter_ok (hn:NoCount P) {ev:Ev} (he:EvOk P B ev):CallOk P B (enterE P ev):=by
 intro γ μ H nx w g es u f vs h hg hvs hr
 cases g with
 | fn f0 first cap =>
   have hg:iv μ (.fn f0 first cap)=some f:=hg.resolve_left (by intro h; cases h)
   simp only [iv] at hg
   cases hx:ivs μ first with
   | none=>rw [hx] at hg; cases hg
   | some x =>
     cases hy:ivs μ cap with
     | none=>rw [hx,hy] at hg; cases hg
     | some y =>
       rw [hx,hy] at hg
       injection hg with hg
       subst hg
       replace h:(Option.casesOn (P.funcs[f0]?) none fun fn=>enterF P ev f0 fn (first++(es++cap)) H nx:Option Out)=some u:=h
       cases hf:P.funcs[f0]? with
       | none=>rw [hf] at h; cases h
       | some fn =>
         rw [hf] at h
         replace h:enterF P ev f0 fn (first++(es++cap)) H nx=some u:=h
         unfold enterF at h
         cases hbd:fn.body with
         | none=>rw [hbd] at h; cases h
         | some c =>
           rw [hbd] at h
           obtain ⟨h1,h⟩:=bc_some h
           obtain ⟨h2,h⟩:=bc_some h
           have h1:=ble_le h1
           have h2:=ble_le h2
           obtain ⟨h,hst⟩:=left_some h
           have hall:ivs μ (first++(es++cap))=some (x++(vs++y)):=ivs_append hx (ivs_append hvs hy)
           have hlen:=ivs_len hall
           obtain ⟨args,hargs⟩:∃ args:Array Value,args=x.toArray++vs.toArray++y.toArray:=⟨_,rfl⟩
           have hargs':args.toList=x++(vs++y):=by rw [hargs]; simp
           have hasz:args.size=(x++(vs++y)).length:=by rw [← hargs']; simp
           have hnt:ntOf P f0=fn.ntmps:=by unfold ntOf; rw [hf]; rfl
           have hin:In P B γ μ H nx w (putAll 0 (first++(es++cap)) noRegs) [] none ⟨args++Array.replicate (fn.ntmps-args.size) undef,[]⟩ [] (Frame.enter P f0 args .normal) (hasStop [.code c]):=by
            refine ⟨hr,?_,⟨[],trivial,rfl⟩,fun _=>rfl,rfl,trivial⟩
            show RegOk μ (ntOf P f0) _ (args++Array.replicate (fn.ntmps-args.size) undef)
            rw [hnt]
            refine putAll_ok hall (noRegs_ok ?_) (by omega) fun j v hj=>?_
            ·simp only [Array.size_append,Array.size_replicate]
             omega
            ·have hj':j < args.size:=by
              rw [hasz]
              exact (List.getElem?_eq_some_iff.1 hj).1
             rw [Nat.zero_add,Array.getElem?_append_left hj',← Array.getElem?_toList,hargs']
             exact hj
           obtain ⟨w',μ',e1,e2,e3⟩:=he [.code c] γ μ H nx w _ _ _ _ [] (Frame.enter P f0 args .normal) [] u hin h
           rcases e3 with ⟨R',a',e4, -⟩ | ⟨-,v,e4,e5⟩
           ·rw [hst] at e4; cases e4
           refine ⟨v,w',μ',⟨.enter f0 args,Frame.enter P f0 args .normal,w,?_,rfl,fun c' cs=>?_⟩,e4,e1,e2,hst⟩
           ·have:(callFunc f0 args).run P w = .ok (.enter f0 args) w:=by
             unfold callFunc
             simp only [Sem.run_bind]
             show (match P.funcs[f0]? with
              | none=>_
              | some fn=>_:Sem Next).run P w=_
             rw [hf]
             simp only [hn f0 fn hf,hbd,Option.isNone_some,Bool.false_eq_true,if_false]
             rfl
            rw [← this,hargs]
            rfl
           ·have hfr:Frame.enter P f0 args .normal=(Frame.enter P f0 args .normal).atR ⟨args++Array.replicate (fn.ntmps-args.size) undef,[]⟩ (todoOf [] [.code c]):=by
             simp [Frame.enter,Frame.atR,todoOf,hf,hbd]
            have:Steps P (lone ((Frame.enter P f0 args .normal).atR ⟨args++Array.replicate (fn.ntmps-args.size) undef,[]⟩ (todoOf [] [.code c])) (c'::cs) w) (lone (c'.finish v) cs w'):=e5.back c' cs
            rw [← hfr] at this
            exact this
 | yld l =>
   have hg:iv μ (.yld l)=some f:=hg.resolve_left (by intro h; cases h)
   simp only [iv,Option.map_eq_some_iff] at hg
   obtain ⟨p,hp,rfl⟩:=hg
   replace h:enterY P ev l es H nx (getRow l H)=some u:=h
   cases hrow:getRow l H with
   | loop st pend fn R ps asg body d =>
     rw [hrow] at h
     cases st <;> try (cases h; done)
     replace h:bc (Nat.beq es.length ps.size) (left (ev fn (putPs (ntOf P fn) ps.toList es R) [.code asg,.begin,.code body] [] (some l) H nx)) none=some u:=h
     obtain ⟨h1,h⟩:=bc_some h
     have h1:=Nat.eq_of_beq_eq_true h1
     obtain ⟨h,hst⟩:=left_some h
     have hal:alive (getRow l H)=true:=by rw [hrow]; rfl
     obtain ⟨p',ob,e1, -,e3,e4⟩:=hr.live l hal
     rw [hp] at e1
     injection e1 with e1
     subst e1
     simp only [hrow] at e4
     obtain ⟨tmps,q,pq,e5,e6,e7,e8⟩:=e4
     subst e5
     have hvl:=ivs_len hvs
     obtain ⟨tm,htm⟩:∃ tm,tm=(ps.zip vs.toArray).foldl (fun tmps (t,a)=>tmps.setIfInBounds t a) tmps:=⟨_,rfl⟩
     have htm':tm=(ps.toList.zip vs).foldl (fun tmps x=>tmps.setIfInBounds x.1 x.2) tmps:=by
      rw [htm,← Array.foldl_toList]
      simp
     have hin:In P B γ μ H nx w (putPs (ntOf P fn) ps.toList es R) [] (some l) ⟨tm,[]⟩ [] (Frame.round p.blk fn tm asg body .normal) (hasStop [.code asg,.begin,.code body]):=by
      refine ⟨hr,?_,⟨[],trivial,rfl⟩,fun _=>rfl,rfl,⟨p,hp,rfl⟩⟩
      show RegOk μ (ntOf P fn) _ tm
      rw [htm']
      exact putPs_ok hvs e6
     obtain ⟨w',μ',f1,f2,f3⟩:=he [.code asg,.begin,.code body] γ μ H nx w _ _ _ _ [] (Frame.round p.blk fn tm asg body .normal) [] u hin h
     rcases f3 with ⟨R',a',f4, -⟩ | ⟨-,v,f4,f5⟩
     ·rw [hst] at f4; cases f4
     refine ⟨v,w',μ',⟨.round p.blk fn tm asg body,Frame.round p.blk fn tm asg body .normal,w,?_,rfl,fun c' cs=>?_⟩,f4,f1,f2,hst⟩
     ·have:=run_yield (P:=P) (args:=vs.toArray) e3 (by simp [hvl,h1])
      rw [htm,← this]
      simp [Deferred.ofValue,invoke]
     ·exact f5.back c' cs
   | _=>rw [hrow] at h; cases h
 | _=>cases h
end Go.Proofs.YtaihbcmifjmapaaGreat.Ev
namespace Go.Proofs.YtaihbcmifjmapaaGreat.Ev
open Go Go.RowKit
set_option linter.unusedVariables false
variable {P:Program} {γ:Id→List MapEntry} {μ μ':Mu} {G G':Id→Row} {nx nx':Id} {B:Nat} {w w':World} {nt:Nat} {R:Regs} {a:Act} {H:Hp} {call:Caller} {b:Frame} {k0:List Item} {d0:List Deferred} {ih:Ev} {r:List AI}
theorem ItOk.step {todo todo':List AI} {f:BF} (h:ItOk P B todo' f) (hs:hasStop todo'=hasStop todo) (st:∀ (b:Frame) (a:Act) (k0:List Item) (cs:List Frame) (w:World),step P (lone (b.atR a (todoOf k0 todo)) cs w) = .next (lone (b.atR a (todoOf k0 todo')) cs w)):ItOk P B todo f :=
 fun γ μ H nx w R dfs round a d0 b k0 u i e=>(h γ μ H nx w R dfs round a d0 b k0 u (hs ▸ i) e).from (Goes.refl _ _ _ _) fun cs => .one (st _ _ _ _ _)
theorem In.later {dfs:List Id} {round:Option Id} {stop:Bool} (i:In P B γ μ H nx w R dfs round a d0 b stop) {H':Hp} {nx':Id} {R':Regs} {a':Act} (hr:HR P γ μ' (fun q=>getRow q H') nx' B w') (g:Goes μ G nx w μ' G' nx' w')
  (k:RegOk μ' (ntOf P b.fn) R' a'.tmps) (hd:a'.defers=a.defers):In P B γ μ' H' nx' w' R' dfs round a' d0 b stop :=
 ⟨hr,k,i.marks.elim fun dm h=>⟨dm,h.1.mono g.le,hd.trans h.2⟩,i.none,i.kind,i.round.mono g.le⟩
theorem reg_ok (hn:NoCount P) (he:EvOk P B ih) {id:Nat} {ops:Array Oper}:ItOk P B (.code (.region id ops false)::r) (bReg P ih ops r):=by
 intro γ μ H nx w R dfs round a d0 b k0 u i h
 unfold bReg at h
 obtain ⟨R',H',nx',a',w',μ',e1,e2,e3,e4,e5⟩:=evL_ok (enter_ok hn he) (ops:=ops) (l:=ops.toList) (i:=0) (fun j=>by simp) i.hr i.regs h
 refine (he r γ μ' H' nx' w' R' dfs round a' d0 b k0 u (i.later e3 e4 e2 e5.1) e1).from e4 fun cs=>?_
 have hl:List.range ops.size=List.range' 0 ops.toList.length:=by rw [List.range_eq_range',Array.length_toList]
 refine .head stepR_region ?_
 rw [hl]
 exact (e5.2 _ _ _).trans (.one stepR_region_end)
theorem regD_it (hm:P.follows .mixedOrders=true) (hn:NoCount P) (he:EvOk P B ih) {id:Nat} {ops:Array Oper}:ItOk P B (.code (.region id ops true)::r) (bRegD P ih ops r):=by
 intro γ μ H nx w R dfs round a d0 b k0 u i h
 unfold bRegD at h
 split at h
 rotate_left
 ·cases h
 rename_i l n hp
 split at h
 rotate_left
 ·cases h
 rename_i nx1 hnth
 obtain ⟨R',H',nx',log,a',w',μ',e1,e2,e3,e4,e5⟩:=regD_ok (enter_ok hn he) hp hnth i.hr i.regs h (w.tape w.drawn (.order b.fn id))
 refine (he r γ μ' H' nx' w' R' dfs round a' d0 b k0 u (i.later e3 e4 e2 e5.1) e1).from e4 fun cs=>?_
 refine .head stepR_region_draw ?_
 have:Region.schedule (P.follows .mixedOrders) ops (w.tape w.drawn (.order b.fn id))=Region.linearise .any ops (w.tape w.drawn (.order b.fn id)):=by
  simp only [Region.schedule,hm,Bool.true_or,if_true]
 rw [this]
 exact (e5.2 _ _ _).trans (.one stepR_region_end)
theorem region_ok (hm:P.follows .mixedOrders=true) (hn:NoCount P) (he:EvOk P B ih) {id:Nat} {ops:Array Oper} {draw:Bool}:ItOk P B (.code (.region id ops draw)::r) (bRegion P ih id ops draw r):=by
 cases draw with
 | false=>exact reg_ok hn he
 | true=>exact regD_it hm hn he
theorem cond_ok {x:Operand} {c d:Code} {ia ib:List AI→BF} (ha:ItOk P B (.code c::r) (ia r)) (hb:ItOk P B (.code d::r) (ib r)):ItOk P B (.code (.cond x c d)::r) (bCond x ia ib r):=by
 intro γ μ H nx w R dfs round a d0 b k0 u i h
 unfold bCond at h
 cases ht:asB (getX (px x) R) with
 | no=>rw [ht] at h; cases h
 | «at» t =>
   rw [ht] at h
   have hv:=px_known i.regs (asB_eq ht) (by intro h; cases h)
   have hv:a.eval x = .bool t:=by
    injection hv with hv
    exact hv.symm
   cases t with
   | true=>exact (ha γ μ H nx w R dfs round a d0 b k0 u i h).from (Goes.refl _ _ _ _) fun cs => .one (stepR_cond hv)
   | false=>exact (hb γ μ H nx w R dfs round a d0 b k0 u i h).from (Goes.refl _ _ _ _) fun cs => .one (stepR_cond hv)
theorem stepR_scope {k:List Item} {cs:List Frame} {c:Code}:step P (lone (b.atR a (.code (.scope c)::k)) cs w) = .next (lone (b.atR a (.code c :: .inScope c::k)) cs w) :=
 step_lone_go (by simp [stepG,stepG.exec,Frame.atR])
theorem stepR_inScope {k:List Item} {cs:List Frame} {c:Code}:step P (lone (b.atR a (.inScope c::k)) cs w) = .next (lone (b.atR a k) cs w) :=
 step_lone_go (by simp [stepG,stepG.exec,Frame.atR])
theorem In.defers {dfs:List Id} {round:Option Id} (i:In P B γ μ H nx w R dfs round a d0 b false):Marks μ dfs a.defers:=by
 obtain ⟨dm,h1,h2⟩:=i.marks
 rw [i.none rfl,List.append_nil] at h2
 rw [h2]
 exact h1
theorem out_ok {c:Code} (hc:c ≠ .ret) {r':List AI} {dfs:List Id} {round:Option Id} {u:Out} (i:In P B γ μ H nx w R dfs round a d0 b (hasStop r)) (h:bOut P c r b.fn R dfs round H nx=some u) {K:List Item}
  (h2:hasStop r=false→∀ l v w',b.roundOf=some l→(Instr.endRound l (some c)).run P w = .ok v w'→∀ c' cs,step P (lone (b.atR a K) (c'::cs) w) = .next (lone (c'.finish v) cs w')) :
  Ends P B γ k0 d0 b (fun cs=>lone (b.atR a K) cs w) μ (fun q=>getRow q H) nx w u:=by
 unfold bOut at h
 split at h
 rotate_left
 ·cases h
 rename_i hcond
 simp only [Bool.and_eq_true,Bool.not_eq_true'] at hcond
 obtain ⟨hrs,hst⟩:=hcond
 rw [hst] at i
 refine leave_ok h i.hr i.regs i.defers i.kind i.round (fun _ hj=>?_) (h2 hst)
 rcases hj with hj | hj
 ·cases hj
 ·injection hj with hj
  exact absurd hj hc
theorem exit_it (he:EvOk P B ih) {id:Nat}:ItOk P B (.code (.exit id)::r) (bExit P ih id r):=by
 intro γ μ H nx w R dfs round a d0 b k0 u i h
 unfold bExit at h
 cases hx:aExit id r with
 | some r' =>
   rw [hx] at h
   obtain ⟨h1,h2⟩:=exit_ok k0 id hx
   have i':In P B γ μ H nx w R dfs round a d0 b (hasStop r'):=by rw [h2]; exact i
   exact (he r' γ μ H nx w R dfs round a d0 b k0 u i' h).from (Goes.refl _ _ _ _) fun cs => .one (stepR_exit h1)
 | none =>
   rw [hx] at h
   exact out_ok (r:=r) (r':=r) (by intro h; cases h) i h fun hs l v w' hb hr c' cs=>stepR_round_exit hb i.kind (exit_none k0 id hx hs) hr
theorem goto_it (he:EvOk P B ih) {l:Nat}:ItOk P B (.code (.goto l)::r) (bGoto P ih l r):=by
 intro γ μ H nx w R dfs round a d0 b k0 u i h
 unfold bGoto at h
 cases hx:aGoto l r with
 | some r' =>
   rw [hx] at h
   obtain ⟨h1,h2⟩:=goto_ok k0 l hx
   have i':In P B γ μ H nx w R dfs round a d0 b (hasStop r'):=by rw [h2]; exact i
   exact (he r' γ μ H nx w R dfs round a d0 b k0 u i' h).from (Goes.refl _ _ _ _) fun cs => .one (stepR_goto h1)
 | none =>
   rw [hx] at h
   exact out_ok (r:=r) (r':=r) (by intro h; cases h) i h fun hs l' v w' hb hr c' cs=>stepR_round_goto hb i.kind (goto_none k0 l hx hs) hr
theorem ret_it:ItOk P B (.code .ret::r) (bRet P r):=by
 intro γ μ H nx w R dfs round a d0 b k0 u i h
 unfold bRet at h
 cases hs:hasStop r with
 | true=>rw [hs] at h; cases h
 | false =>
   rw [hs] at h
   replace i:In P B γ μ H nx w R dfs round a d0 b (hasStop r):=i
   rw [hs] at i
   replace h:leaveE P b.fn R dfs round (some .ret) H nx=some u:=h
   exact leave_ok h i.hr i.regs i.defers i.kind i.round (fun hb _ cs=>stepR_ret hb) fun l v w' hb hr c' cs=>stepR_round_ret hb i.kind hr
theorem end_it:ItOk P B [] (bEnd P):=by
 intro γ μ H nx w R dfs round a d0 b k0 u i h
 replace i:In P B γ μ H nx w R dfs round a d0 b false:=i
 exact leave_ok h i.hr i.regs i.defers i.kind i.round (fun hb _ cs=>stepR_end hb) fun l v w' hb hr c' cs=>stepR_round_end hb i.kind hr
theorem begin_it (he:EvOk P B ih):ItOk P B (.begin::r) (bBegin ih r):=by
 intro γ μ H nx w R dfs round a d0 b k0 u i h
 unfold bBegin at h
 cases round with
 | none=>cases h
 | some l =>
   simp only [] at h
   cases hrow:getRow l H with
   | loop st pend fn' R' ps asg body d =>
     simp only [hrow] at h
     cases st <;> try (cases h; done)
     simp only [] at h
     have hro:=i.round
     cases hb:b.roundOf with
     | none=>rw [hb] at hro; exact hro.elim
     | some q =>
       rw [hb] at hro
       obtain ⟨p,hp,rfl⟩:=hro
       have hal:alive (getRow l H)=true:=by rw [hrow]; rfl
       obtain ⟨p',ob,e1, -,e3,e4⟩:=i.hr.live l hal
       rw [hp] at e1
       injection e1 with e1
       subst e1
       simp only [hrow] at e4
       obtain ⟨tmps,q,pq,e5,e6,e7,e8⟩:=e4
       subst e5
       have hlt:=(Array.getElem?_eq_some_iff.1 e3).1
       have hrun:=run_beginRound (P:=P) e3 rfl
       obtain ⟨f1,f2⟩:=i.hr.write (q:=l) (row := .loop .busy pend fn' R' ps asg body d) hal hp (⟨tmps,q,pq,rfl,e6,e7,e8⟩) (putObj_wr hlt _)
       rw [← setRow_fun] at f1 f2
       exact (he r γ μ _ nx _ R dfs (some l) a d0 b k0 u (i.later f1 f2 i.regs rfl) h).from f2 fun cs => .one (stepR_beginRound hb hrun)
   | _=>simp only [hrow] at h; cases h
theorem stop_it:ItOk P B (.stop::r) (bStop r):=by
 intro γ μ H nx w R dfs round a d0 b k0 u i h
 unfold bStop at h
 cases dfs with
 | cons d ds=>cases h
 | nil =>
   injection h with h
   subst h
   obtain ⟨dm,h1,h2⟩:=i.marks
   have:dm=[]:=by cases dm with
    | nil=>rfl
    | cons x xs=>exact h1.elim
   subst this
   exact ⟨w,μ,i.hr,Goes.refl _ _ _ _,.inl ⟨R,a,rfl,i.regs,h2,fun cs => .refl _ _⟩⟩
theorem rangeStep {k:List Item} {cs:List Frame} {g:Operand} {ps:Array Tmp} {assign body:Code} {l:Nat} {mark:List Deferred} {w1 w2:World} {n:Next} {fr:Frame} (he:(Instr.enterLoop b.fn a.tmps ps assign body b.roundOf).run P w = .ok (l,mark) w1)
  (hres:(do let d ← Deferred.ofValue (a.eval g) #[.func (.yield l) #[] #[]]; invoke d.target d.args:Sem Next).run P w1 = .ok n w2) (hf:nextFrame P n=some fr) :
  step P (lone (b.atR a (.code (.rangeFunc g ps assign body)::k)) cs w) = .next (lone fr (b.atR { a with defers:=mark++a.defers } (.inRangeFunc l::k)::cs) w2) :=
 step_lone_go (by
  have hev:=Frame.eval_atR b { a with defers:=mark++a.defers } (.inRangeFunc l::k)
  simp only [Frame.atR] at hev
  have hres':Sem.run P (do let d ← resolve ({ tmps:=a.tmps,defers:=mark++a.defers }:Act).eval { callee := .value g,args:=#[.const (.func (.yield l) #[] #[])],argTypes:=#[] } 0; invoke d.target d.args) w1 = .ok n w2:=by
   rw [← hres]
   simp only [resolve,List.map_toArray,List.map_cons,List.map_nil,Act.eval]
  cases n with
  | enter f args =>
    injection hf with hf
    subst hf
    simp [stepG,stepG.exec,Frame.atR,Sem.runT_eq,he,GStep.bare_after,stepG.apply,hev,hres']
  | round l' f tmps assign' body' =>
    injection hf with hf
    subst hf
    simp [stepG,stepG.exec,Frame.atR,Sem.runT_eq,he,GStep.bare_after,stepG.apply,hev,hres']
  | _=>cases hf)
theorem Marks.append:∀ {ds ds':List Id} {ms ms':List Deferred},Marks μ ds ms→Marks μ ds' ms'→Marks μ (ds++ds') (ms++ms')
 | [],ds',[],ms',_,k=>k
 | d::ds,ds',m::ms,ms',h,k=>⟨h.1,h.2.append k⟩
theorem todo_pend (k0:List Item) (pend:Option Code) (r:List AI):todoOf k0 ((pend.map AI.code).toList++r)=(pend.map Item.code).toList++todoOf k0 r∧hasStop ((pend.map AI.code).toList++r)=hasStop r:=by
 cases pend with
 | none=>exact ⟨rfl,rfl⟩
 | some c=>exact ⟨rfl,rfl⟩
theorem loop_laid {dfs:List Id} {round:Option Id} {stop:Bool} {mark:List Id} {d:Id} {H1:Hp} {l:Id}
  (h:(match round with
   | none=>match inc nx with
     | some nx'=>some ([nx],nx,setRow nx .deferred H,nx')
     | none=>none
   | some l=>match getRow l H with
     | .loop _ _ _ _ _ _ _ d=>some ([],d,H,nx)
     | _=>none:Option (List Id×Id×Hp×Id))=some (mark,d,H1,l)) (i:In P B γ μ H nx w R dfs round a d0 b stop) (ps:Array Tmp) (assign body:Code) :
  ∃ w1 μ1 pq ml,HR P γ μ1 (fun q=>getRow q H1) l B w1∧Goes μ (fun q=>getRow q H) nx w μ1 (fun q=>getRow q H1) l w1∧μ1 d=some pq∧Marks μ1 mark ml ∧
   (Instr.enterLoop b.fn a.tmps ps assign body b.roundOf).run P w = .ok (w1.heap.size,ml) (w1.alloc (.loop { state := .ready,pending:=none,fn:=b.fn,tmps:=a.tmps,params:=ps,assign,body,defers:=pq.blk })):=by
 have hro:=i.round
 cases round with
 | none =>
   cases hb:b.roundOf with
   | some q=>rw [hb] at hro; exact hro.elim
   | none =>
     simp only [] at h
     cases hi:inc nx with
     | none=>rw [hi] at h; cases h
     | some nx' =>
       rw [hi] at h
       simp only [Option.some.injEq,Prod.mk.injEq] at h
       obtain ⟨rfl,rfl,rfl,rfl⟩:=h
       have hlt:nx.num < nx'.num:=by rw [inc_num hi]; omega
       have hfr:μ nx=none:=i.hr.fresh nx (Nat.le_refl _)
       have f1:=i.hr.alloc (nx':=nx') hfr (ob := .deferred (some [])) (tot:=0) (row := .deferred) rfl hlt (Nat.le_of_lt hlt)
       have f2:=(Goes.refl μ (fun q=>getRow q H) nx w).alloc (nx':=nx') hfr (Nat.le_refl _) (.deferred (some [])) 0 .deferred (Nat.le_of_lt hlt)
       rw [← setRow_fun] at f1 f2
       refine ⟨_,_,⟨w.heap.size,0,0⟩,[markOf w.heap.size],f1,f2,upd_same _ _ _,⟨⟨_,upd_same _ _ _,rfl⟩,trivial⟩,?_⟩
       rw [run_enterLoop_outer,World.size_alloc]
       rfl
 | some l0 =>
   cases hb:b.roundOf with
   | none=>rw [hb] at hro; exact hro.elim
   | some q0 =>
     rw [hb] at hro
     obtain ⟨p,hp,rfl⟩:=hro
     simp only [] at h
     cases hrow:getRow l0 H with
     | loop st pend fn' R' ps' asg' body' d' =>
       simp only [hrow,Option.some.injEq,Prod.mk.injEq] at h
       obtain ⟨rfl,rfl,rfl,rfl⟩:=h
       have hal:alive (getRow l0 H)=true:=by rw [hrow]; rfl
       obtain ⟨p',ob,e1, -,e3,e4⟩:=i.hr.live l0 hal
       rw [hp] at e1
       injection e1 with e1
       subst e1
       simp only [hrow] at e4
       obtain ⟨tmps,q,pq,e5,e6,e7,e8⟩:=e4
       subst e5
       refine ⟨w,μ,pq,[],i.hr,Goes.refl _ _ _ _,e7,trivial,?_⟩
       unfold Instr.enterLoop
       simp only [Sem.run_bind,run_getLoop e3,run_newObj_alloc,Result.andThen,Sem.run_pure,e8]
     | _=>simp only [hrow] at h; cases h
theorem range_it (hn:NoCount P) (he:EvOk P B ih) {g:Operand} {ps:Array Tmp} {assign body:Code}:ItOk P B (.code (.rangeFunc g ps assign body)::r) (bRange P ih g ps assign body r):=by
 intro γ μ H nx w R dfs round a d0 b k0 u i h
 unfold bRange at h
 simp only [] at h
 split at h
 rotate_left
 ·cases h
 rename_i mark d H1 l hen
 obtain ⟨w1,μ1,pq,ml,g1,g2,g3,g4,g5⟩:=loop_laid hen i ps assign body
 cases hi:inc l with
 | none=>simp only [hi] at h; cases h
 | some nx1 =>
   simp only [hi] at h
   have hlt:l.num < nx1.num:=by rw [inc_num hi]; omega
   have hfr:μ1 l=none:=g1.fresh l (Nat.le_refl _)
   have hle:=le_upd hfr ⟨w1.heap.size,0,0⟩
   obtain ⟨rc,hrc⟩:∃ rc:Loop,rc={ state := .ready,pending:=none,fn:=b.fn,tmps:=a.tmps,params:=ps,assign,body,defers:=pq.blk }:=⟨_,rfl⟩
   have f1:=g1.alloc (nx':=nx1) hfr (ob := .loop rc) (tot:=0) (row := .loop .ready none b.fn R ps assign body d)
    ⟨a.tmps,pq.blk,pq,by rw [hrc],(i.regs.mono g2.le).mono hle,hle _ _ g3,rfl⟩ hlt (Nat.le_of_lt hlt)
   have f2:=g2.alloc (nx':=nx1) hfr g2.nxt (.loop rc) 0 (.loop .ready none b.fn R ps assign body d) (Nat.le_of_lt hlt)
   rw [← setRow_fun] at f1 f2
   cases hcall:enterE P ih (getX (px g) R) [.yld l] (setRow l (.loop .ready none b.fn R ps assign body d) H1) nx1 with
   | none=>simp only [hcall] at h; cases h
   | some out =>
     simp only [hcall] at h
     have hg:getX (px g) R = .unk∨iv (upd μ1 l (some ⟨w1.heap.size,0,0⟩)) (getX (px g) R)=some (a.eval g):=(px_ok ((i.regs.mono g2.le).mono hle) g)
     have hy:ivs (upd μ1 l (some ⟨w1.heap.size,0,0⟩)) [.yld l]=some [.func (.yield w1.heap.size) #[] #[]]:=by
      refine ivs_mk ?_ rfl
      simp only [iv,upd_same,Option.map_some]
     obtain ⟨v,w',μ',⟨n,fr,w3,e1,e2,e3⟩,e4,e5,e6,e7⟩:=enter_ok hn he γ _ _ nx1 _ _ _ out (a.eval g) _ hcall hg hy f1
     have hml:μ' l=some ⟨w1.heap.size,0,0⟩:=e6.le _ _ (upd_same _ _ _)
     cases hrow:getRow l out.H with
     | loop st pend fn' R' ps' asg' body' d' =>
       simp only [hrow] at h
       split at h
       ·cases h
       rename_i hst
       have hal:alive (getRow l out.H)=true:=by rw [hrow]; rfl
       obtain ⟨p',ob,k1, -,k3,k4⟩:=e5.live l hal
       rw [hml] at k1
       injection k1 with k1
       subst k1
       simp only [hrow] at k4
       obtain ⟨tmps,q,pq',k5,k6,k7,k8⟩:=k4
       subst k5
       have hlt':=(Array.getElem?_eq_some_iff.1 k3).1
       have hrun:=run_endLoop (P:=P) k3 hst
       obtain ⟨m1,m2⟩:=e5.write (q:=l) (row := .dead) (ob := .loop { state := .exhausted,pending:=pend,fn:=fn',tmps:=tmps,params:=ps',assign:=asg',body:=body',defers:=q }) hal hml trivial (putObj_wr hlt' _)
       rw [← setRow_fun] at m1 m2
       have hgoes:=f2.trans (e6.trans m2)
       obtain ⟨dm,d1,d2⟩:=i.marks
       have i':In P B γ μ' (setRow l .dead out.H) out.nx (w'.putObj w1.heap.size (.loop { state := .exhausted,pending:=pend,fn:=fn',tmps:=tmps,params:=ps',assign:=asg',body:=body',defers:=q })) R (mark++dfs) round ⟨a.tmps,ml++a.defers⟩ d0 b (hasStop ((pend.map AI.code).toList++r)):=by
        rw [(todo_pend k0 pend r).2]
        refine ⟨m1,i.regs.mono hgoes.le,⟨ml++dm,(g4.mono (Mu.le_trans hle e6.le)).append (d1.mono hgoes.le),?_⟩,i.none,i.kind,i.round.mono hgoes.le⟩
        rw [d2,List.append_assoc]
       refine (he _ γ μ' _ out.nx _ R (mark++dfs) round ⟨a.tmps,ml++a.defers⟩ d0 b k0 u i' h).from hgoes fun cs=>?_
       rw [(todo_pend k0 pend r).1]
       refine .head (rangeStep (g5.trans (by rw [hrc])) e1 e2) ((e3 _ _).trans ?_)
       rw [finish_atR_inRangeFunc]
       exact .one (stepR_endRangeFunc hrun)
     | _=>simp only [hrow] at h; cases h
end Go.Proofs.YtaihbcmifjmapaaGreat.Ev
namespace Go.Proofs.YtaihbcmifjmapaaGreat.Ev
open Go Go.RowKit
set_option linter.unusedVariables false
variable {P:Program} {γ γ':Id→List MapEntry} {μ μ':Mu} {G G':Id→Row} {nx nx':Id} {B:Nat} {w w':World} {nt:Nat} {R:Regs} {a:Act} {H:Hp} {call:Caller} {b:Frame} {k0:List Item} {d0:List Deferred} {ih:Ev} {r:List AI}
theorem own_now {d:TypeDesc} {x:MapEntry}:∀ {g:List MapEntry} (i0:Nat),(g.map (·.born)).Nodup→x∈g→(∀ y∈g,Instr.sameNow d x.key y.key=some (x.born==y.born)) →
  ∃ i,g[i]? = some x∧g.eraseIdx i=(g.filter fun y=>y.born != x.born)∧(g.find? fun y=>y.born==x.born)=some x∧Instr.findNow d x.key g i0=some (some (i0+i,x.val))
 | [],i0,_,h,_=>by cases h
 | y::g,i0,hn,h,hs=>by
   simp only [List.map_cons,List.nodup_cons,List.mem_map,not_exists,not_and] at hn
   by_cases hy:y.born=x.born
   ·have hyx:y=x:=by
     rcases List.mem_cons.1 h with h | h
     ·exact h.symm
     ·exact absurd hy.symm (hn.1 x h)
    subst hyx
    refine ⟨0,rfl,?_,?_,?_⟩
    ·rw [List.eraseIdx_cons_zero,List.filter_cons]
     simp only [bne_self_eq_false,Bool.false_eq_true,if_false]
     symm
     rw [List.filter_eq_self]
     intro z hz
     have:=hn.1 z hz
     simp only [bne_iff_ne,ne_eq]
     exact this
    ·simp
    ·simp only [Instr.findNow]
     rw [hs y (by simp)]
     simp
   ·have hx:x∈g:=by
     rcases List.mem_cons.1 h with h | h
     ·subst h; exact absurd rfl hy
     ·exact h
    obtain ⟨i,h1,h2,h3,h4⟩:=own_now (i0+1) hn.2 hx fun z hz=>hs z (by simp [hz])
    refine ⟨i+1,by simpa using h1,?_,?_,?_⟩
    ·rw [List.eraseIdx_cons_succ,h2,List.filter_cons]
     simp [hy]
    ·rw [List.find?_cons]
     simp only [beq_eq_false_iff_ne.2 hy]
     exact h3
    ·simp only [Instr.findNow]
     rw [hs y (by simp),beq_eq_false_iff_ne.2 (fun e=>hy e.symm)]
     simp only []
     rw [h4]
     simp only [Option.some.injEq,Prod.mk.injEq,and_true]
     omega
theorem own_ask {kt:TypeId} {x:MapEntry}:∀ {g:List MapEntry} (i0:Nat),(g.map (·.born)).Nodup→x∈g→(∀ y∈g,semP P (Op.equal kt x.key y.key)=some (x.born==y.born)) →
  ∃ i,g[i]? = some x∧g.eraseIdx i=(g.filter fun y=>y.born != x.born)∧(g.find? fun y=>y.born==x.born)=some x∧∀ w,(Instr.findAsking kt x.key g i0).run P w = .ok (some (i0+i,x.val)) w
 | [],i0,_,h,_=>by cases h
 | y::g,i0,hn,h,hs=>by
   simp only [List.map_cons,List.nodup_cons,List.mem_map,not_exists,not_and] at hn
   by_cases hy:y.born=x.born
   ·have hyx:y=x:=by
     rcases List.mem_cons.1 h with h | h
     ·exact h.symm
     ·exact absurd hy.symm (hn.1 x h)
    subst hyx
    refine ⟨0,rfl,?_,?_,fun w=>?_⟩
    ·rw [List.eraseIdx_cons_zero,List.filter_cons]
     simp only [bne_self_eq_false,Bool.false_eq_true,if_false]
     symm
     rw [List.filter_eq_self]
     intro z hz
     have:=hn.1 z hz
     simp only [bne_iff_ne,ne_eq]
     exact this
    ·simp
    ·simp only [Instr.findAsking]
     rw [Sem.run_bind,semP_ok (hs y (by simp)) w]
     simp
   ·have hx:x∈g:=by
     rcases List.mem_cons.1 h with h | h
     ·subst h; exact absurd rfl hy
     ·exact h
    obtain ⟨i,h1,h2,h3,h4⟩:=own_ask (i0+1) hn.2 hx fun z hz=>hs z (by simp [hz])
    refine ⟨i+1,by simpa using h1,?_,?_,fun w=>?_⟩
    ·rw [List.eraseIdx_cons_succ,h2,List.filter_cons]
     simp [hy]
    ·rw [List.find?_cons]
     simp only [beq_eq_false_iff_ne.2 hy]
     exact h3
    ·simp only [Instr.findAsking]
     rw [Sem.run_bind,semP_ok (hs y (by simp)) w,beq_eq_false_iff_ne.2 (fun e=>hy e.symm)]
     simp only [Result.andThen_ok,Bool.false_eq_true,if_false]
     rw [h4]
     simp only [Result.ok.injEq,Option.some.injEq,Prod.mk.injEq,and_true]
     omega
def EntOk (μ:Mu) (p:Ent×MapEntry):Prop:=iv μ p.1.k=some p.2.key∧iv μ p.1.v=some p.2.val∧p.2.born=p.1.born
theorem ents_zip:∀ {es:List Ent} {xs:List MapEntry},entsOk μ es xs→(∀ p∈es.zip xs,EntOk μ p)∧(es.zip xs).map (·.1)=es∧(es.zip xs).map (·.2)=xs
 | [],[],_=>⟨fun p h=>(by cases h),rfl,rfl⟩
 | e::es,x::xs,h=>by
   obtain ⟨h1,h2,h3⟩:=ents_zip h.2
   refine ⟨fun p hp=>?_,by simp [h2],by simp [h3]⟩
   rcases List.mem_cons.1 (by simpa using hp:p∈(e,x)::es.zip xs) with hp | hp
   ·subst hp; exact h.1
   ·exact h1 p hp
theorem ents_of:∀ {l:List (Ent×MapEntry)},(∀ p∈l,EntOk μ p)→entsOk μ (l.map (·.1)) (l.map (·.2))
 | [],_=>trivial
 | p::l,h=>⟨h p (by simp),ents_of fun q hq=>h q (by simp [hq])⟩
theorem keys_own {kt:TypeId} {es:List Ent} (hk:keysOk P kt es=true) {l:List (Ent×MapEntry)} (hl:∀ p∈l,EntOk μ p∧p.1∈es) (hn:((l.map (·.2)).map (·.born)).Nodup) {e:Ent} {x:MapEntry} (hx:(e,x)∈l):OwnEnt P kt (l.map (·.2)) x:=by
 unfold keysOk at hk
 cases hd:P.underlying kt with
 | none=>rw [hd] at hk; cases hk
 | some d =>
   rw [hd] at hk
   simp only [Bool.and_eq_true,Bool.or_eq_true,List.all_eq_true] at hk
   obtain ⟨h1,h2⟩:=hk
   have hxm:x∈l.map (·.2):=List.mem_map.2 ⟨(e,x),hx,rfl⟩
   have key:∀ {p:Ent×MapEntry} {v:Value},p∈l→plainW p.1.k=some v→v=p.2.key:=by
    intro p v hp hv
    exact iv_uniq (plainW_ok μ hv) (hl p hp).1.1
   have hchk:∀ w,(Instr.checkKey (l.map (·.2)).isEmpty 10000 kt x.key).run P w = .ok () w:=by
    intro w
    have:=h1 e (hl _ hx).2
    unfold keyChk at this
    cases hp:plainW e.k with
    | none=>rw [hp] at this; cases this
    | some v =>
      rw [hp] at this
      simp only [Option.isSome_iff_exists] at this
      obtain ⟨y,hy⟩:=this
      have hv:=key hx hp
      subst hv
      have hne:(l.map (·.2)).isEmpty=false:=by
       cases l with
       | nil=>cases hx
       | cons p l=>rfl
      rw [hne]
      exact semP_ok hy w
   rcases h2 with h2 | h2
   ·obtain ⟨i,e1,e2,e3,e4⟩:=own_now (d:=d) 0 hn hxm fun y hy=>by
     obtain ⟨p,hp,rfl⟩:=List.mem_map.1 hy
     have:=h2 e (hl _ hx).2 p.1 (hl _ hp).2
     unfold keyNow at this
     split at this
     rotate_left
     ·cases this
     rename_i v c k1 k2
     have hv:=key hx k1
     have hc:=key hp k2
     subst hv hc
     rw [eq_of_beq this,← (hl _ hx).1.2.2,← (hl _ hp).1.2.2]
    refine ⟨i,e1,e2,e3,fun w=>⟨hchk w,?_⟩⟩
    unfold Instr.findKey
    rw [Sem.run_bind,under_run hd]
    simp only [Result.andThen_ok,e4,Nat.zero_add]
    rfl
   ·obtain ⟨i,e1,e2,e3,e4⟩:=own_ask (P:=P) (kt:=kt) 0 hn hxm fun y hy=>by
     obtain ⟨p,hp,rfl⟩:=List.mem_map.1 hy
     have:=h2 e (hl _ hx).2 p.1 (hl _ hp).2
     unfold keyAsk at this
     split at this
     rotate_left
     ·cases this
     rename_i v c k1 k2
     have hv:=key hx k1
     have hc:=key hp k2
     subst hv hc
     simp only [Bool.and_eq_true] at this
     rw [eq_of_beq this.2,← (hl _ hx).1.2.2,← (hl _ hp).1.2.2]
    have hnone:Instr.findNow d x.key (l.map (·.2)) 0=none:=by
     cases l with
     | nil=>cases hx
     | cons p l =>
       have:=h2 e (hl _ hx).2 p.1 (hl _ (by simp)).2
       unfold keyAsk at this
       split at this
       rotate_left
       ·cases this
       rename_i v c k1 k2
       have hv:=key hx k1
       have hc:=key (p:=p) (by simp) k2
       subst hv hc
       simp only [Bool.and_eq_true,Option.isNone_iff_eq_none] at this
       simp only [List.map_cons,Instr.findNow,this.1]
    refine ⟨i,e1,e2,e3,fun w=>⟨hchk w,?_⟩⟩
    unfold Instr.findKey
    rw [Sem.run_bind,under_run hd]
    simp only [Result.andThen_ok,hnone]
    have:=e4 w
    rw [Nat.zero_add] at this
    exact this
theorem borns_ok {clock:Nat}:∀ {es:List Ent},bornsOk clock es=true→(∀ e∈es,e.born < clock)∧(es.map (·.born)).Nodup
 | [],_=>⟨fun e h=>(by cases h),by simp⟩
 | e::es,h=>by
   simp only [bornsOk,Bool.and_eq_true,decide_eq_true_eq,List.all_eq_true] at h
   obtain ⟨⟨h1,h2⟩,h3⟩:=h
   obtain ⟨h4,h5⟩:=borns_ok h3
   refine ⟨fun x hx=>?_,?_⟩
   ·rcases List.mem_cons.1 hx with hx | hx
    ·subst hx; exact h1
    ·exact h4 x hx
   ·simp only [List.map_cons,List.nodup_cons,List.mem_map,not_exists,not_and]
    refine ⟨fun x hx hb=>?_,h5⟩
    have:=h2 x hx
    simp only [bne_iff_ne,ne_eq] at this
    exact this hb.symm
theorem next_run {ty:TypeId} {rb mb clock:Nat} {seen:Array Nat} {es:List MapEntry} (hr:w.heap[rb]? = some (.mapIter (some mb) clock seen clock)) (hm:w.heap[mb]? = some (.map es.toArray clock)) (hold:∀ x∈es,x.born < clock) :
  ((∀ x∈es,seen.contains x.born=true)∧(Instr.next (.pointer (some ⟨rb,0,none⟩)) false ty).run P w = .ok (.tuple #[.bool false]) w) ∨
  ∃ x∈es,seen.contains x.born=false∧∃ w1:World,(w1=w∨w1=w.drew)∧(Instr.next (.pointer (some ⟨rb,0,none⟩)) false ty).run P w = .ok (.tuple #[.bool true,x.key,x.val]) (w1.putObj rb (.mapIter (some mb) clock (seen.push x.born) clock)):=by
 have htest:(!seen.isEmpty&&!es.toArray.isEmpty&&es.toArray.all (fun x=>decide (x.born≥clock)))=false:=by
  cases es with
  | nil=>simp
  | cons e es =>
    have:=hold e (by simp)
    have:decide (e.born≥clock)=false:=by simp; omega
    simp [this]
 simp only [Instr.next,getObj,Sem.run_bind,Sem.run,hr,hm,Result.andThen,htest,Bool.false_eq_true,if_false]
 have hmem:∀ x∈(Array.filter (fun e=>!seen.contains e.born) es.toArray),x∈es∧seen.contains x.born=false:=fun x hx=>by simpa using hx
 have hall:(Array.filter (fun e=>!seen.contains e.born) es.toArray).size=0→∀ x∈es,seen.contains x.born=true:=fun h0 x hx=>by
  have h0:=Array.eq_empty_of_size_eq_zero h0
  rw [Array.filter_eq_empty_iff] at h0
  have:=h0 x (by simpa using hx)
  simpa using this
 generalize Array.filter (fun e=>!seen.contains e.born) es.toArray=L at hmem hall ⊢
 have e1:L.filter (fun x=>decide (x.born < clock))=L:=Array.filter_eq_self.2 (fun x hx=>by simpa using hold x (hmem x hx).1)
 have e2:L.filter (fun x=>decide (x.born≥clock))=#[]:=by
  rw [Array.filter_eq_empty_iff]
  intro x hx
  have:=hold x (hmem x hx).1
  simp
  omega
 simp only [e1,e2,Array.append_empty]
 by_cases h0:L.size=0
 ·left
  refine ⟨hall h0,?_⟩
  have:L=#[]:=Array.eq_empty_of_size_eq_zero h0
  subst this
  simp [choose,Sem.run,Question.forced]
 ·right
  have hne:L.isEmpty=false:=by simp [Array.isEmpty,h0]
  simp only [hne,Bool.false_eq_true,if_false,Array.empty_append,Array.size_map]
  have hch:∃ (j:Nat) (w1:World),j < L.size∧(w1=w∨w1=w.drew)∧(choose (Question.mapNext L.size)).run P w = .ok j w1:=by
   by_cases hf:L.size≤1
   ·exact ⟨0,w,by omega,.inl rfl,by simp [choose,Sem.run,Question.forced,hf]⟩
   ·exact ⟨_,w.drew,Nat.mod_lt _ (by omega),.inr rfl,by
     simp only [choose,Sem.run,Question.forced,decide_eq_true_eq,hf,if_false,Question.cut]
     rfl⟩
  obtain ⟨j,w1,hj,hal,hrun⟩:=hch
  have hx:=hmem L[j] (Array.getElem_mem hj)
  refine ⟨L[j],hx.1,hx.2,w1,hal,?_⟩
  have hset:(setObj rb (.mapIter (some mb) clock (seen.push L[j].born) clock)).run P w1 = .ok () (w1.putObj rb (.mapIter (some mb) clock (seen.push L[j].born) clock)):=by
   have:w1.heap[rb]? = some (.mapIter (some mb) clock seen clock):=by rcases hal with rfl | rfl <;> exact hr
   simp [setObj,Sem.run,this,World.putObj]
  simp only [hrun,Array.getElem?_map,Array.getElem?_eq_getElem hj,Option.map_some,Sem.run_bind,hset,Result.andThen]
  rfl
end Go.Proofs.YtaihbcmifjmapaaGreat.Ev
namespace Go.Proofs.YtaihbcmifjmapaaGreat.Ev
open Go Go.RowKit
set_option linter.unusedVariables false
variable {P:Program} {γ γ':Id→List MapEntry} {μ μ':Mu} {G G':Id→Row} {nx nx':Id} {B:Nat} {w w':World} {nt:Nat} {R:Regs} {a:Act} {H:Hp} {call:Caller} {b:Frame} {k0:List Item} {d0:List Deferred} {ih:Ev} {r:List AI}
theorem HR.keep (hr:HR P γ μ G nx B w) (h:∀ r p,alive (G r)=true→μ r=some p→w'.heap[p.blk]? = w.heap[p.blk]?) (hs:w.heap.size≤w'.heap.size):HR P γ μ G nx B w' :=
 ⟨hr.fresh,fun r ha=>by
  obtain ⟨p,ob,h1,h2,h3,h4⟩:=hr.live r ha
  exact ⟨p,ob,h1,h2,by rw [h r p ha h1]; exact h3,h4⟩,hr.apart,Nat.le_trans hr.base hs⟩
theorem HR.add (hr:HR P γ μ G nx B w) {q:Id} {p:Pl} {ob:Obj} {row:Row} (hp:μ q=some p) (hB:B≤p.blk) (ho:w.heap[p.blk]? = some ob) (hrow:rowOk P (γ q) μ p ob row) (hap:∀ r p',r≠q→alive (G r)=true→μ r=some p'→p'.blk≠p.blk) :
  HR P γ μ (upd G q row) nx B w:=by
 refine ⟨hr.fresh,fun r ha=>?_,fun r r' p1 p2 h1 h2 h3 h4 h5=>?_,hr.base⟩
 ·by_cases hq:r=q
  ·subst hq
   rw [upd_same]
   exact ⟨p,ob,hp,hB,ho,hrow⟩
  ·rw [upd_other _ _ hq] at ha ⊢
   exact hr.live r ha
 ·by_cases hq:r=q
  ·by_cases hq':r'=q
   ·rw [hq,hq']
   ·subst hq
    rw [upd_other _ _ hq'] at h2
    rw [hp] at h3
    injection h3 with h3
    subst h3
    exact absurd h5.symm (hap r' p2 hq' h2 h4)
  ·by_cases hq':r'=q
   ·subst hq'
    rw [upd_other _ _ hq] at h1
    rw [hp] at h4
    injection h4 with h4
    subst h4
    exact absurd h5 (hap r p1 hq h1 h3)
   ·rw [upd_other _ _ hq] at h1
    rw [upd_other _ _ hq'] at h2
    exact hr.apart r r' p1 p2 h1 h2 h3 h4 h5
theorem noRows_get (q:Id):getRow q noRows = .dead:=by
 obtain ⟨a,b,c,e⟩:=q
 show getW1 e (getW2 c (getW3 b (getW4 a noRows))) = .dead
 unfold noRows
 rw [getW1_eq,getW2_eq,getW3_eq,getW4_eq,getN_k16,getN_k16,getN_k16,getN_k16]
theorem HR.none (hr:HR P γ μ G nx B w):HR P γ' μ (fun q=>getRow q noRows) nx B w :=
 ⟨hr.fresh,fun r ha=>(by simp only [noRows_get] at ha; cases ha),fun r r' p p' h1=>(by simp only [noRows_get] at h1; cases h1),hr.base⟩
theorem leR1_ok {a b:N16 EV}:∀ {l:List D16},leR1 a b l=true→∀ d∈l,getN d a = .unk∨getN d a=getN d b
 | [],_,d,h=>by cases h
 | e::l,h,d,hd=>by
   simp only [leR1,Bool.and_eq_true] at h
   rcases List.mem_cons.1 hd with hd | hd
   ·subst hd
    have h1:=h.1
    cases hk:known (getN d a) with
    | false =>
      refine .inl ?_
      by_cases hu:getN d a = .unk
      ·exact hu
      ·rw [known_iff.2 hu] at hk; cases hk
    | true =>
      rw [hk] at h1
      exact .inr (eqE_ok h1)
   ·exact leR1_ok h.2 d hd
theorem leR_ok {a b:Regs} {all:List D16}:∀ {l:List D16},leR a b all l=true→∀ d∈l,leR1 (getN d a) (getN d b) all=true
 | [],_,d,h=>by cases h
 | e::l,h,d,hd=>by
   simp only [leR,Bool.and_eq_true] at h
   rcases List.mem_cons.1 hd with hd | hd
   ·subst hd; exact h.1
   ·exact leR_ok h.2 d hd
theorem mem_allD (d:D16):d∈allD:=by cases d <;> simp [allD]
theorem leR_at {R0 R':Regs} (h:leR R0 R' allD allD=true) (t:Nat):regAt t R0 = .unk∨regAt t R0=regAt t R' :=
 leR1_ok (leR_ok h _ (mem_allD (toD (t / 16)))) _ (mem_allD (toD (t % 16)))
theorem leR_regs {R0 R':Regs} (h:leR R0 R' allD allD=true) {tm tm':Array Value} (k0:RegOk μ nt R0 tm) (hle:μ.le μ') (k':RegOk μ' nt R' tm'):RegOk μ nt R0 tm':=by
 refine ⟨k'.1,fun t ht=>?_⟩
 rcases leR_at h t with hu | he
 ·exact .inl hu
 ·rcases k0.2 t ht with hu | ⟨v,h1,h2⟩
  ·exact .inl hu
  ·refine .inr ⟨v,?_,h2⟩
   rcases k'.2 t ht with hu | ⟨v',h3,h4⟩
   ·rw [← he] at hu; rw [hu] at h2; cases h2
   ·rw [← he] at h4
    rw [iv_uniq (iv_mono hle h2) h4]
    exact h3
theorem putR_unk (k:RegOk μ nt R a.tmps) (d:Option Tmp):RegOk μ nt (putR (pd nt d) .unk R) a.tmps:=by
 cases d with
 | none=>exact k
 | some t =>
   show RegOk μ nt (putR (pdT nt t) .unk R) a.tmps
   rcases pdT_cases nt t with ⟨h1,h2,h3⟩ | ⟨h1,h3⟩
   ·rw [h3,putR_at]
    refine ⟨k.1,fun s hs=>?_⟩
    rw [regAt_set hs h2]
    by_cases hst:s=t
    ·rw [if_pos hst]; exact .inl rfl
    ·rw [if_neg hst]; exact k.2 s hs
   ·rw [h3]; exact k
theorem dsts_pd (nt:Nat):∀ (c:Code) (d:PD),d∈dstsC nt c→∃ t,d=pd nt t
 | .skip,d,h=>by cases h
 | .region _ ops _,d,h=>by
   obtain ⟨o,_,rfl⟩:=List.mem_map.1 (show d∈ops.toList.map fun o=>pd nt o.dst from h)
   exact ⟨_,rfl⟩
 | .seq x y,d,h=>(List.mem_append.1 (show d∈dstsC nt x++dstsC nt y from h)).elim (dsts_pd nt x d) (dsts_pd nt y d)
 | .cond _ x y,d,h=>(List.mem_append.1 (show d∈dstsC nt x++dstsC nt y from h)).elim (dsts_pd nt x d) (dsts_pd nt y d)
 | .block _ x,d,h=>dsts_pd nt x d h
 | .loop x,d,h=>dsts_pd nt x d h
 | .scope x,d,h=>dsts_pd nt x d h
 | .rangeFunc _ _ x y,d,h=>(List.mem_append.1 (show d∈dstsC nt x++dstsC nt y from h)).elim (dsts_pd nt x d) (dsts_pd nt y d)
 | .exit _,d,h=>by cases h
 | .label _,d,h=>by cases h
 | .goto _,d,h=>by cases h
 | .ret,d,h=>by cases h
 | .refuse _,d,h=>by cases h
theorem clear_ok:∀ {ds:List PD} {R:Regs},(∀ d∈ds,∃ t,d=pd nt t)→RegOk μ nt R a.tmps→RegOk μ nt (clearR ds R) a.tmps
 | [],R,_,k=>k
 | d::ds,R,h,k=>by
   obtain ⟨t,ht⟩:=h d (by simp)
   subst ht
   exact clear_ok (ds:=ds) (fun x hx=>h x (by simp [hx])) (putR_unk k t)
theorem rounds_ok {L:NL} {fn:FuncId} {R0:Regs} {round:Option Id} {ri qm:Id} {kt:TypeId} {clock:Nat}:∀ {es es':List Ent},mapRounds P ih call L fn R0 round ri qm kt clock nx es=some es' →
  (∀ e∈es,∃ g,mapRound P ih call L fn R0 round ri qm kt clock nx e=some g)∧es'=es.filter fun e=>!(mapRound P ih call L fn R0 round ri qm kt clock nx e==some true)
 | [],es',h=>by injection h with h; subst h; exact ⟨fun e h=>(by cases h),rfl⟩
 | e::es,es',h=>by
   simp only [mapRounds] at h
   split at h
   rotate_left
   ·cases h
   rename_i g l h1 h2
   injection h with h
   obtain ⟨h3,h4⟩:=rounds_ok h2
   refine ⟨fun x hx=>?_,?_⟩
   ·rcases List.mem_cons.1 hx with hx | hx
    ·subst hx; exact ⟨g,h1⟩
    ·exact h3 x hx
   ·rw [List.filter_cons,h1,← h4,← h]
    cases g <;> rfl
theorem round_ok {L:NL} {fn:FuncId} {R0:Regs} {round:Option Id} {ri qm:Id} {kt:TypeId} {clock:Nat} {e:Ent} {g:Bool} (h:mapRound P ih call L fn R0 round ri qm kt clock nx e=some g) :
  ∃ u R',evL call L.prs (putR L.d (.tup [.bool true,e.k,e.v]) R0) (setRow ri (.at1 qm e.born clock) (setRow qm (.one kt e.k e.v e.born clock false) noRows)) nx (fun R H nx=>ih fn R [.code L.rest,.stop] [] round H nx)=some u ∧
   u.st=some R'∧leR R0 R' allD allD=true∧getRow qm u.H = .one kt e.k e.v e.born clock g∧getRow ri u.H = .at1 qm e.born clock:=by
 unfold mapRound at h
 split at h
 rotate_left
 ·cases h
 rename_i u h1
 split at h
 rotate_left
 ·cases h
 rename_i R' h2
 cases h3:leR R0 R' allD allD with
 | false=>rw [h3] at h; cases h
 | true =>
   rw [h3] at h
   simp only [cond_true] at h
   split at h
   rotate_left
   ·cases h
   rename_i kt' k v b c gone m b' c' h4 h5
   split at h
   rotate_left
   ·cases h
   rename_i hc
   injection h with h
   obtain ⟨rfl,k1,k2,rfl,rfl,rfl,rfl,rfl⟩:=hc
   have k1:=eqE_ok k1
   have k2:=eqE_ok k2
   subst k1 k2 h
   exact ⟨u,R',h1,h2,h3,h4,h5⟩
theorem next_some {b:Code} {L:NL} (h:nextL P nt b=some L):∃ id ops rest o os it,b = .seq (.region id ops false) rest∧ops.toList=o::os∧o.op = .next it false∧o.guard=none∧L=⟨px it,pd nt o.dst,prepL P ops nt os,rest,dstsC nt b⟩:=by
 unfold nextL at h
 split at h
 rotate_left
 ·cases h
 rename_i id ops rest
 split at h
 rotate_left
 ·cases h
 rename_i o os ho
 split at h
 rotate_left
 ·cases h
 rename_i it h1 h2
 injection h with h
 exact ⟨id,ops,rest,o,os,it,rfl,ho,h1,h2,h.symm⟩
structure Inv (P:Program) (γ:Id→List MapEntry) (μ:Mu) (G:Id→Row) (nx:Id) (B:Nat) (w0:World) (nt:Nat) (R0:Regs) (D:List Deferred) (ri qm:Id) (pr pm:Pl) (clock:Nat) (cur:List MapEntry) (seen:Array Nat) (a:Act) (w:World):Prop where
 it:w.heap[pr.blk]? = some (.mapIter (some pm.blk) clock seen clock)
 map:w.heap[pm.blk]? = some (.map cur.toArray clock)
 hr:HR P γ μ (upd (upd G ri .dead) qm .dead) nx B w
 goes:Goes μ G nx w0 μ (upd (upd G ri .dead) qm .dead) nx w
 regs:RegOk μ nt R0 a.tmps
 defers:a.defers=D
def curOf (gE:Ent→Bool) (ps:List (Ent×MapEntry)) (seen:Array Nat):List MapEntry:=(ps.filter fun p=>!(seen.contains p.2.born&&gE p.1)).map (·.2)
theorem nodup_inj {α β:Type} {f:α→β}:∀ {l:List α},(l.map f).Nodup→∀ x∈l,∀ y∈l,f x=f y→x=y
 | [],_,x,hx,_,_,_=>by cases hx
 | z::l,h,x,hx,y,hy,he=>by
   simp only [List.map_cons,List.nodup_cons,List.mem_map,not_exists,not_and] at h
   rcases List.mem_cons.1 hx with hx | hx
   ·rcases List.mem_cons.1 hy with hy | hy
    ·rw [hx,hy]
    ·exact absurd (hx ▸ he).symm (h.1 y hy)
   ·rcases List.mem_cons.1 hy with hy | hy
    ·exact absurd (hy ▸ he) (h.1 x hx)
    ·exact nodup_inj h.2 x hx y hy he
theorem cur_push {gE:Ent→Bool} {ps:List (Ent×MapEntry)} {seen:Array Nat} {e:Ent} {x:MapEntry} (hx:(e,x)∈ps) (hn:((ps.map (·.2)).map (·.born)).Nodup) :
  curOf gE ps (seen.push x.born)=if gE e=true then (curOf gE ps seen).filter (fun y=>y.born != x.born) else curOf gE ps seen:=by
 have same:∀ p∈ps,p.2.born=x.born→p=(e,x):=by
  intro p hp hb
  rw [List.map_map] at hn
  exact nodup_inj hn p hp _ hx hb
 unfold curOf
 split
 ·rename_i hg
  rw [List.filter_map,List.filter_filter]
  congr 1
  refine List.filter_congr fun p hp=>?_
  simp only [Function.comp_def,Array.contains_push]
  by_cases hb:p.2.born=x.born
  ·have:=same p hp hb
   subst this
   simp [hg]
  ·have h1:(p.2.born==x.born)=false:=beq_eq_false_iff_ne.2 hb
   simp [h1,bne]
 ·rename_i hg
  congr 1
  refine List.filter_congr fun p hp=>?_
  simp only [Array.contains_push]
  by_cases hb:p.2.born=x.born
  ·have:=same p hp hb
   subst this
   simp [hg]
  ·have h1:(p.2.born==x.born)=false:=beq_eq_false_iff_ne.2 hb
   simp [h1]
theorem Goes.on {μ0:Mu} {G0:Id→Row} {nx0:Id} {w0:World} (h:Goes μ0 G0 nx0 w0 μ G nx w) (ho:w'.os=w.os) (ht:w'.tape=w.tape) (hu:w'.output=w.output) (hs:w.heap.size≤w'.heap.size)
  (hk:∀ k,k < w0.heap.size→(∀ r p,alive (G0 r)=true→μ0 r=some p→p.blk≠k)→w'.heap[k]? = w.heap[k]?):Goes μ0 G0 nx0 w0 μ G nx w' :=
 ⟨h.le,h.new,h.nxt,ho.trans h.os,ht.trans h.tape,hu.trans h.output,Nat.le_trans h.size hs,fun k h1 h2=>(hk k h1 h2).trans (h.keep k h1 h2),h.own,h.dom⟩
theorem map_loop (hn:NoCount P) (he:EvOk P B ih) {b:Frame} (hkind:b.kind = .normal) {id:Nat} {ops:Array Oper} {rest:Code} {o:Oper} {os:List Oper} {it:Operand} (ho:ops.toList=o::os) (hop:o.op = .next it false) (hgd:o.guard=none) {L:NL}
  (hL1:L.d=pd (ntOf P b.fn) o.dst) (hL2:L.prs=prepL P ops (ntOf P b.fn) os) (hL3:L.rest=rest) {round:Option Id} (hro:RoundOk μ round b.roundOf) {R0:Regs} {ri qm:Id} (hit:getX (px it) R0 = .ptr ri 0) {kt:TypeId} {clock:Nat} {w0:World}
  (hr0:HR P γ μ G nx B w0) (hne:ri≠qm) (ha1:alive (G ri)=true) (ha2:alive (G qm)=true) {pr pm:Pl} (hpr:μ ri=some pr) (hpm:μ qm=some pm) (hbase:pr.base=0) {ps:List (Ent×MapEntry)} (hps:∀ p∈ps,EntOk μ p) (hnd:((ps.map (·.2)).map (·.born)).Nodup)
  (hcl:∀ p∈ps,p.2.born < clock) (hk:keysOk P kt (ps.map (·.1))=true) (hrd:∀ p∈ps,∃ g,mapRound P ih (enterE P ih) L b.fn R0 round ri qm kt clock nx p.1=some g) {gE:Ent→Bool} (hgE:∀ e,gE e=(mapRound P ih (enterE P ih) L b.fn R0 round ri qm kt clock nx e==some true)) {D:List Deferred} (K:List Item) :
  ∀ (n:Nat) (seen:Array Nat) (a:Act) (w:World),(ps.filter fun p=>!seen.contains p.2.born).length≤n→Inv P γ μ G nx B w0 (ntOf P b.fn) R0 D ri qm pr pm clock (curOf gE ps seen) seen a w →
   ∃ seen' a' w',Inv P γ μ G nx B w0 (ntOf P b.fn) R0 D ri qm pr pm clock (curOf gE ps seen') seen' a' w'∧(∀ p∈ps,seen'.contains p.2.born=true) ∧
    ∀ cs:List Frame,Steps P (lone (b.atR a (.code (.seq (.region id ops false) rest) :: .inLoop (.seq (.region id ops false) rest)::K)) cs w) (lone (b.atR (a'.put o.dst (.tuple #[.bool false])) (.inRegion ops (List.range' 1 os.length) :: .code rest :: .inLoop (.seq (.region id ops false) rest)::K)) cs w'):=by
 have ho0:ops[0]? = some o:=by rw [← Array.getElem?_toList,ho]; rfl
 have hrange:List.range ops.size=0::List.range' 1 os.length:=by
  have:ops.size=os.length+1:=by rw [← Array.length_toList,ho]; rfl
  rw [this,List.range_eq_range',List.range'_succ]
 have hblk:∀ {r p r' p'},r≠r'→alive (G r)=true→alive (G r')=true→μ r=some p→μ r'=some p'→p.blk≠p'.blk:=fun hrr h1 h2 h3 h4 h5=>hrr (hr0.apart _ _ _ _ h1 h2 h3 h4 h5)
 have hbb:pm.blk≠pr.blk:=hblk hne.symm ha2 ha1 hpm hpr
 have hB:B≤pr.blk∧B≤pm.blk:=by
  obtain ⟨p1,_,e1,e2, -⟩:=hr0.live ri ha1
  obtain ⟨p2,_,e3,e4, -⟩:=hr0.live qm ha2
  rw [hpr] at e1; injection e1 with e1; subst e1
  rw [hpm] at e3; injection e3 with e3; subst e3
  exact ⟨e2,e4⟩
 have hup:∀ r,alive (upd (upd G ri Row.dead) qm Row.dead r)=true→r≠ri∧r≠qm∧alive (G r)=true:=by
  intro r hr
  by_cases h1:r=qm
  ·subst h1; rw [upd_same] at hr; cases hr
  ·rw [upd_other _ _ h1] at hr
   by_cases h2:r=ri
   ·subst h2; rw [upd_same] at hr; cases hr
   ·rw [upd_other _ _ h2] at hr
    exact ⟨h2,h1,hr⟩
 have hwant:∀ f,Region.wanted o f=true:=fun f=>by unfold Region.wanted; rw [hgd]
 have one:∀ (seen:Array Nat) (a:Act) (w:World),Inv P γ μ G nx B w0 (ntOf P b.fn) R0 D ri qm pr pm clock (curOf gE ps seen) seen a w →
   ((∀ p∈ps,seen.contains p.2.born=true)∧∀ cs:List Frame,Steps P (lone (b.atR a (.code (.seq (.region id ops false) rest) :: .inLoop (.seq (.region id ops false) rest)::K)) cs w) (lone (b.atR (a.put o.dst (.tuple #[.bool false])) (.inRegion ops (List.range' 1 os.length) :: .code rest :: .inLoop (.seq (.region id ops false) rest)::K)) cs w)) ∨
   ∃ seen' a' w',Inv P γ μ G nx B w0 (ntOf P b.fn) R0 D ri qm pr pm clock (curOf gE ps seen') seen' a' w'∧(ps.filter fun p=>!seen'.contains p.2.born).length < (ps.filter fun p=>!seen.contains p.2.born).length ∧
    ∀ cs:List Frame,Steps P (lone (b.atR a (.code (.seq (.region id ops false) rest) :: .inLoop (.seq (.region id ops false) rest)::K)) cs w) (lone (b.atR a' (.code (.seq (.region id ops false) rest) :: .inLoop (.seq (.region id ops false) rest)::K)) cs w'):=by
  intro seen a w inv
  have hev:a.eval it = .pointer (some ⟨pr.blk,0,none⟩):=by
   have:=px_known inv.regs hit (by intro h; cases h)
   simp only [iv,hpr,Option.map_some,Option.some.injEq] at this
   rw [← this,hbase]
  have hcur:∀ x∈curOf gE ps seen,∃ e,(e,x)∈ps:=by
   intro x hx
   unfold curOf at hx
   obtain ⟨p,h1,h2⟩:=List.mem_map.1 hx
   obtain ⟨e,x'⟩:=p
   simp only at h2
   subst h2
   exact ⟨e,(List.mem_filter.1 h1).1⟩
  have hexec:∀ {v w1},(Instr.next (a.eval it) false o.type).run P w = .ok v w1→OpRun P o a w v w1:=by
   intro v w1 h
   refine .inl ?_
   have:execOp a.eval o=(do pure (.value (← Instr.next (a.eval it) false o.type))):=by
    unfold execOp
    rw [hop]
   rw [this,Sem.run_bind,h]
   rfl
  have first:∀ {v w1} (K:List Item) (cs:List Frame),OpRun P o a w v w1→Steps P (lone (b.atR a (.code (.seq (.region id ops false) rest)::K)) cs w) (lone (b.atR (a.put o.dst v) (.inRegion ops (List.range' 1 os.length) :: .code rest::K)) cs w1):=by
   intro v w1 K cs h
   refine .head stepR_seq (.head stepR_region ?_)
   rw [hrange]
   exact op_step ho0 h (hwant _) _ _ _ _
  rcases next_run (P:=P) (ty:=o.type) inv.it inv.map (fun x hx=>by obtain ⟨e,he⟩:=hcur x hx; exact hcl _ he) with ⟨h1,h2⟩ | ⟨x,h1,h2,w1,h3,h4⟩
  ·refine .inl ⟨fun p hp=>?_,fun cs=>first _ cs (hexec (by rw [hev]; exact h2))⟩
   by_cases hs:seen.contains p.2.born=true
   ·exact hs
   ·refine h1 p.2 ?_
    unfold curOf
    refine List.mem_map.2 ⟨p,List.mem_filter.2 ⟨hp,?_⟩,rfl⟩
    simp only [Bool.not_eq_true] at hs
    rw [hs]
    rfl
  ·refine .inr ?_
   obtain ⟨e,hex⟩:=hcur x h1
   obtain ⟨k1,k2,k3⟩:=hps _ hex
   simp only at k1 k2 k3
   obtain ⟨g,hg⟩:=hrd _ hex
   simp only at hg
   obtain ⟨u,R',hu1,hu2,hu3,hu4,hu5⟩:=round_ok hg
   have hgg:gE e=g:=by rw [hgE,hg]; cases g <;> rfl
   have hw1:w1.heap=w.heap∧w1.os=w.os∧w1.tape=w.tape∧w1.output=w.output:=by rcases h3 with rfl | rfl <;> exact ⟨rfl,rfl,rfl,rfl⟩
   obtain ⟨w2,hw2⟩:∃ w2,w2=w1.putObj pr.blk (.mapIter (some pm.blk) clock (seen.push x.born) clock):=⟨_,rfl⟩
   rw [← hw2] at h4
   have hlt:pr.blk < w1.heap.size:=by rw [hw1.1]; exact (Array.getElem?_eq_some_iff.1 inv.it).1
   have hsz:w2.heap.size=w.heap.size:=by rw [hw2,World.putObj_size,hw1.1]
   have hit2:w2.heap[pr.blk]? = some (.mapIter (some pm.blk) clock (seen.push x.born) clock):=by rw [hw2]; exact World.putObj_heap_same hlt
   have hoth:∀ k,k≠pr.blk→w2.heap[k]? = w.heap[k]? := fun k hk=>by rw [hw2,World.putObj_heap_other hk,hw1.1]
   have hmap2:w2.heap[pm.blk]? = some (.map (curOf gE ps seen).toArray clock):=by rw [hoth _ hbb]; exact inv.map
   obtain ⟨ghost,hgh⟩:∃ ghost:List MapEntry,ghost.map (·.born)=clock::(seen.push x.born).toList:=⟨(clock::(seen.push x.born).toList).map fun n=>{ key := .bool false,val := .bool false,born:=n },by rw [List.map_map]; exact List.map_id _⟩
   obtain ⟨γ',hγ⟩:∃ γ':Id→List MapEntry,γ'=upd (upd γ qm (curOf gE ps seen)) ri ghost:=⟨_,rfl⟩
   have hγ1:γ' ri=ghost:=by rw [hγ,upd_same]
   have hγ2:γ' qm=curOf gE ps seen:=by rw [hγ,upd_other _ _ hne.symm,upd_same]
   have hown:OwnEnt P kt (curOf gE ps seen) x:=by
    unfold curOf
    refine keys_own (μ:=μ) hk (fun p hp=>?_) ?_ ?_ (e:=e)
    ·have hp:=(List.mem_filter.1 hp).1
     exact ⟨hps p hp,List.mem_map.2 ⟨p,hp,rfl⟩⟩
    ·exact hnd.sublist ((List.filter_sublist.map _).map _)
    ·refine List.mem_filter.2 ⟨hex,?_⟩
     simp only
     rw [h2]
     rfl
   have hr2:HR P γ μ (upd (upd G ri .dead) qm .dead) nx B w2:=inv.hr.keep (fun r p h1 h2=>hoth _ (hblk (hup r h1).1 (hup r h1).2.2 ha1 h2 hpr)) (by rw [hsz]; exact Nat.le_refl _)
   have hr3:HR P γ' μ (fun q=>getRow q (setRow ri (.at1 qm e.born clock) (setRow qm (.one kt e.k e.v e.born clock false) noRows))) nx B w2:=by
    rw [setRow_fun,setRow_fun]
    have a1:=hr2.none (γ':=γ')
    have a2:=a1.add (q:=qm) (row := .one kt e.k e.v e.born clock false) hpm hB.2 hmap2 (by
     rw [hγ2]
     exact ⟨rfl,x,k3,k1,k2,hown⟩) (fun r p _ ha=>by simp only [noRows_get] at ha; cases ha)
    refine a2.add (q:=ri) (row := .at1 qm e.born clock) hpr hB.1 hit2 ?_ (fun r p hrr ha hp=>?_)
    ·rw [hγ1]
     exact ⟨hbase,pm,clock,seen.push x.born,hpm,rfl,by rw [← k3]; simp,hgh⟩
    ·by_cases hq:r=qm
     ·subst hq
      rw [hpm] at hp
      injection hp with hp
      subst hp
      exact hbb
     ·rw [upd_other _ _ hq] at ha
      simp only [noRows_get] at ha
      cases ha
   have hv:iv μ (.tup [.bool true,e.k,e.v])=some (.tuple #[.bool true,x.key,x.val]):=by
    have:ivs μ [.bool true,e.k,e.v]=some [.bool true,x.key,x.val]:=ivs_mk rfl (ivs_mk k1 (ivs_mk k2 rfl))
    simp only [iv,this,Option.map_some]
   have hregs:=inv.regs.put o.dst (e := .tup [.bool true,e.k,e.v]) (v := .tuple #[.bool true,x.key,x.val]) (.inr hv)
   rw [hL1,hL2] at hu1
   obtain ⟨R3,H3,nx3,a3,w3,μ3,f1,f2,f3,f4,f5⟩:=evL_ok (enter_ok hn he) (γ:=γ') (ops:=ops) (l:=os) (i:=1) (fun j=>by rw [← Array.getElem?_toList,ho,Nat.add_comm]; rfl) hr3 hregs hu1
   have hIn:In P B γ' μ3 H3 nx3 w3 R3 [] round a3 a3.defers b (hasStop [.code L.rest,.stop]):=⟨f3,f2,⟨[],trivial,rfl⟩,(fun h=>by cases h),hkind,hro.mono f4.le⟩
   obtain ⟨w4,μ4,g1,g2,g3⟩:=he [.code L.rest,.stop] γ' μ3 H3 nx3 w3 R3 [] round a3 a3.defers b (.inLoop (.seq (.region id ops false) rest)::K) u hIn f1
   rcases g3 with ⟨R4,a4,s1,s2,s3,s4⟩ | ⟨s1, -⟩
   rotate_left
   ·rw [hu2] at s1; cases s1
   rw [hu2] at s1
   injection s1 with s1
   subst s1
   have hg4:=f4.trans g2
   have hlive1:∀ r p,alive (getRow r (setRow ri (.at1 qm e.born clock) (setRow qm (.one kt e.k e.v e.born clock false) noRows)))=true→μ r=some p→p.blk=pr.blk∨p.blk=pm.blk:=by
    intro r p ha hp
    have hf:getRow r (setRow ri (.at1 qm e.born clock) (setRow qm (.one kt e.k e.v e.born clock false) noRows))=_:=congrFun (setRow_fun ri (.at1 qm e.born clock) (setRow qm (.one kt e.k e.v e.born clock false) noRows)) r
    rw [hf,setRow_fun] at ha
    by_cases hq1:r=ri
    ·subst hq1; rw [hpr] at hp; injection hp with hp; subst hp; exact .inl rfl
    ·rw [upd_other _ _ hq1] at ha
     by_cases hq2:r=qm
     ·subst hq2; rw [hpm] at hp; injection hp with hp; subst hp; exact .inr rfl
     ·rw [upd_other _ _ hq2] at ha
      simp only [noRows_get] at ha
      cases ha
   have hkeep:∀ k,k < w.heap.size→k≠pr.blk→k≠pm.blk→w4.heap[k]? = w.heap[k]? := by
    intro k hk1 hk2 hk3
    rw [hg4.keep k (by rw [hsz]; exact hk1) fun r p ha hp hb=>?_,hoth k hk2]
    rcases hlive1 r p ha hp with h | h
    ·exact hk2 (by rw [← hb,h])
    ·exact hk3 (by rw [← hb,h])
   have hsz4:w.heap.size≤w4.heap.size:=by rw [← hsz]; exact hg4.size
   have hit4:w4.heap[pr.blk]? = some (.mapIter (some pm.blk) clock (seen.push x.born) clock):=by
    obtain ⟨p',ob,e1, -,e3,e4⟩:=g1.live ri (by rw [hu5]; rfl)
    rw [hg4.le _ _ hpr] at e1
    injection e1 with e1
    subst e1
    simp only [hu5] at e4
    obtain ⟨-,pm',since',seen',e5,e6, -,e7⟩:=e4
    rw [hg4.le _ _ hpm] at e5
    injection e5 with e5
    subst e5
    rw [hγ1,hgh] at e7
    injection e7 with e7 e8
    have e8:=Array.toList_inj.1 e8
    subst e7 e8
    rw [e3,e6]
   have hmap4:w4.heap[pm.blk]? = some (.map (curOf gE ps (seen.push x.born)).toArray clock):=by
    obtain ⟨p',ob,e1, -,e3,e4⟩:=g1.live qm (by rw [hu4]; rfl)
    rw [hg4.le _ _ hpm] at e1
    injection e1 with e1
    subst e1
    simp only [hu4] at e4
    rw [e3,e4.1,hγ2,cur_push hex hnd,hgg,k3]
   refine ⟨seen.push x.born,a4,w4,⟨hit4,hmap4,?_,?_,?_,?_⟩,?_,fun cs=>?_⟩
   ·refine inv.hr.keep (fun r p h1 h2=>?_) hsz4
    obtain ⟨n1,n2,n3⟩:=hup r h1
    obtain ⟨p',_,q1, -,q3, -⟩:=hr0.live r n3
    obtain ⟨p2,_,t1, -,t3, -⟩:=inv.hr.live r h1
    rw [h2] at t1
    injection t1 with t1
    subst t1
    exact hkeep _ (Array.getElem?_eq_some_iff.1 t3).1 (hblk n1 n3 ha1 h2 hpr) (hblk n2 n3 ha2 h2 hpm)
   ·refine inv.goes.on ?_ ?_ ?_ hsz4 fun k hk1 hk2=>?_
    ·rw [hg4.os,hw2]; exact hw1.2.1
    ·rw [hg4.tape,hw2]; exact hw1.2.2.1
    ·rw [hg4.output,hw2]; exact hw1.2.2.2
    ·exact hkeep k (Nat.lt_of_lt_of_le hk1 inv.goes.size) (fun h=>hk2 ri pr ha1 hpr h.symm) (fun h=>hk2 qm pm ha2 hpm h.symm)
   ·exact leR_regs hu3 inv.regs hg4.le s2
   ·rw [s3,f5.1,put_defers]
    exact inv.defers
   ·have:(ps.filter fun p=>!(seen.push x.born).contains p.2.born)=(ps.filter fun p=>!seen.contains p.2.born).filter fun p=>p.2.born != x.born:=by
     rw [List.filter_filter]
     refine List.filter_congr fun p hp=>?_
     simp only [Array.contains_push]
     by_cases hb:p.2.born=x.born
     ·simp [hb]
     ·have h1:(p.2.born==x.born)=false:=beq_eq_false_iff_ne.2 hb
      simp [h1,bne]
    rw [this]
    refine List.length_filter_lt_length_iff_exists.2 ⟨(e,x),List.mem_filter.2 ⟨hex,by simp only; rw [h2]; rfl⟩,by simp⟩
   ·refine (first _ cs (hexec (by rw [hev]; exact h4))).trans ((f5.2 b _ cs).trans (.head stepR_region_end ?_))
    have:=s4 cs
    rw [hL3] at this
    exact this.trans (.one stepR_inLoop)
 intro n
 induction n with
 | zero =>
   intro seen a w hlen inv
   rcases one seen a w inv with ⟨h1,h2⟩ | ⟨seen',a',w',h1,h2,h3⟩
   ·exact ⟨seen,a,w,inv,h1,h2⟩
   ·omega
 | succ n IH =>
   intro seen a w hlen inv
   rcases one seen a w inv with ⟨h1,h2⟩ | ⟨seen',a',w',h1,h2,h3⟩
   ·exact ⟨seen,a,w,inv,h1,h2⟩
   ·obtain ⟨seen2,a2,w2,e1,e2,e3⟩:=IH seen' a' w' (by omega) h1
    exact ⟨seen2,a2,w2,e1,e2,fun cs=>(h3 cs).trans (e3 cs)⟩
end Go.Proofs.YtaihbcmifjmapaaGreat.Ev
namespace Go.Proofs.YtaihbcmifjmapaaGreat.Ev
open Go Go.RowKit
set_option linter.unusedVariables false
variable {P:Program} {γ γ':Id→List MapEntry} {μ μ':Mu} {G G':Id→Row} {nx nx':Id} {B:Nat} {w w':World} {nt:Nat} {R:Regs} {a:Act} {H:Hp} {call:Caller} {b:Frame} {k0:List Item} {d0:List Deferred} {ih:Ev} {r:List AI}
theorem upd_upd {α:Type} (f:Id→α) (i:Id) (x y:α):upd (upd f i x) i y=upd f i y:=by
 funext q
 by_cases h:q=i
 ·subst h; rw [upd_same,upd_same]
 ·rw [upd_other _ _ h,upd_other _ _ h,upd_other _ _ h]
theorem Goes.add {μ0:Mu} {G0:Id→Row} {nx0:Id} {w0:World} (h:Goes μ0 G0 nx0 w0 μ G nx w) {q:Id} {p:Pl} (hq:alive (G0 q)=true) (hp:μ0 q=some p) (row:Row):Goes μ0 G0 nx0 w0 μ (upd G q row) nx w :=
 ⟨h.le,h.new,h.nxt,h.os,h.tape,h.output,h.size,h.keep,fun r p' ha hp'=>by
  by_cases hr:r=q
  ·subst hr
   refine .inl ⟨r,p,hq,hp,?_⟩
   rw [h.le _ _ hp] at hp'
   injection hp' with hp'
   rw [hp']
  ·rw [upd_other _ _ hr] at ha
   exact h.own r p' ha hp',fun r ha=>by
  by_cases hr:r=q
  ·subst hr; exact .inl hq
  ·rw [upd_other _ _ hr] at ha
   exact h.dom r ha⟩
theorem map_ok (hn:NoCount P) (he:EvOk P B ih) {body:Code} {L:NL} (hL:nextL P (ntOf P b.fn) body=some L) {dfs:List Id} {round:Option Id} {u:Out} (i:In P B γ μ H nx w R dfs round a d0 b (hasStop r)) (h:bMap P ih L body r b.fn R dfs round H nx=some u) :
  Ends P B γ k0 d0 b (fun cs=>lone (b.atR a (.code (.loop body)::todoOf k0 r)) cs w) μ (fun q=>getRow q H) nx w u:=by
 obtain ⟨id,ops,rest,o,os,it,rfl,ho,hop,hgd,hLe⟩:=next_some hL
 obtain ⟨body,hbody⟩:∃ body,body=Code.seq (.region id ops false) rest:=⟨_,rfl⟩
 have hL1:L.d=pd (ntOf P b.fn) o.dst:=by rw [hLe]
 have hL2:L.prs=prepL P ops (ntOf P b.fn) os:=by rw [hLe]
 have hL3:L.rest=rest:=by rw [hLe]
 have hL4:L.it=px it:=by rw [hLe]
 have hL5:L.dsts=dstsC (ntOf P b.fn) body:=by rw [hLe,hbody]
 unfold bMap at h
 rw [hL5] at h
 have hregs:=clear_ok (dsts_pd (ntOf P b.fn) body) i.regs
 generalize clearR (dstsC (ntOf P b.fn) body) R=R0 at h hregs
 split at h
 rotate_left
 ·cases h
 rename_i ri hit
 rw [hL4] at hit
 split at h
 rotate_left
 ·cases h
 rename_i qm since kt hri
 split at h
 rotate_left
 ·cases h
 rename_i es clock hqm
 split at h
 rotate_left
 ·cases h
 rename_i hcond
 obtain ⟨rfl,hbo,hke⟩:=hcond
 split at h
 rotate_left
 ·cases h
 rename_i es' hes
 have hne:ri≠qm:=by rintro rfl; rw [hri] at hqm; cases hqm
 have ha1:alive (getRow ri H)=true:=by rw [hri]; rfl
 have ha2:alive (getRow qm H)=true:=by rw [hqm]; rfl
 obtain ⟨pr,ob1,hpr,hB1,hb1,hrow1⟩:=i.hr.live ri ha1
 obtain ⟨pm,ob2,hpm,hB2,hb2,hrow2⟩:=i.hr.live qm ha2
 simp only [hri] at hrow1
 simp only [hqm] at hrow2
 obtain ⟨hbase,pm',hpm',hob1⟩:=hrow1
 rw [hpm] at hpm'
 injection hpm' with hpm'
 subst hpm' hob1
 obtain ⟨xs,rfl,hents⟩:=hrow2
 obtain ⟨hz1,hz2,hz3⟩:=ents_zip hents
 obtain ⟨hbo1,hbo2⟩:=borns_ok hbo
 obtain ⟨hr1,hr2⟩:=rounds_ok hes
 obtain ⟨ps,hps⟩:∃ ps,ps=es.zip xs:=⟨_,rfl⟩
 rw [← hps] at hz1 hz2 hz3
 have hnd:((ps.map (·.2)).map (·.born)).Nodup:=by
  have:(ps.map (·.2)).map (·.born)=es.map (·.born):=by
   rw [← hz2,List.map_map,List.map_map]
   refine List.map_congr_left fun p hp=>?_
   exact (hz1 p hp).2.2
  rw [this]
  exact hbo2
 have hmem:∀ p∈ps,p.1∈es:=fun p hp=>by rw [← hz2]; exact List.mem_map.2 ⟨p,hp,rfl⟩
 obtain ⟨gE,hgE⟩:∃ gE:Ent→Bool,∀ e,gE e=(mapRound P ih (enterE P ih) L b.fn R0 round ri qm kt since nx e==some true):=⟨_,fun e=>rfl⟩
 have hcur0:curOf gE ps #[]=xs:=by
  unfold curOf
  rw [List.filter_eq_self.2 (fun p _=>by simp),hz3]
 have hinv:Inv P γ μ (fun q=>getRow q H) nx B w (ntOf P b.fn) R0 a.defers ri qm pr pm since (curOf gE ps #[]) #[] a w:=by
  have hless:∀ q,alive (upd (upd (fun q=>getRow q H) ri .dead) qm .dead q)=true→upd (upd (fun q=>getRow q H) ri .dead) qm .dead q=getRow q H:=by
   intro q hq
   by_cases h1:q=qm
   ·subst h1; rw [upd_same] at hq; cases hq
   ·rw [upd_other _ _ h1] at hq ⊢
    by_cases h2:q=ri
    ·subst h2; rw [upd_same] at hq; cases hq
    ·rw [upd_other _ _ h2]
  exact ⟨hb1,by rw [hcur0]; exact hb2,i.hr.less hless,(Goes.refl _ _ _ _).less hless,hregs,rfl⟩
 obtain ⟨seen',a',w',inv',hall,hsteps⟩:=map_loop hn he i.kind (id:=id) (rest:=rest) (R0:=R0) ho hop hgd hL1 hL2 hL3 i.round hit i.hr hne ha1 ha2 hpr hpm hbase hz1 hnd
  (fun p hp=>by rw [(hz1 p hp).2.2]; exact hbo1 _ (hmem p hp)) (by rw [hz2]; exact hke) (fun p hp=>hr1 _ (hmem p hp)) hgE (todoOf k0 r) _ #[] a w (Nat.le_refl _) hinv
 have hfin:curOf gE ps seen'=(ps.filter fun p=>!gE p.1).map (·.2):=by
  unfold curOf
  congr 1
  refine List.filter_congr fun p hp=>?_
  rw [hall p hp,Bool.true_and]
 have hes':es'=(ps.filter fun p=>!gE p.1).map (·.1):=by
  rw [hr2,← hz2,List.filter_map]
  congr 1
  refine List.filter_congr fun p hp=>?_
  simp only [Function.comp_def,hgE]
 have hrF:=inv'.hr.add (q:=qm) (row := .map es' since) hpm hB2 inv'.map (by
  refine ⟨_,rfl,?_⟩
  rw [hes',hfin]
  exact ents_of fun p hp=>hz1 p (List.mem_filter.1 hp).1) (fun q p' hq ha hp'=>by
  rw [upd_other _ _ hq] at ha
  have:alive (getRow q H)=true:=by
   by_cases h2:q=ri
   ·subst h2; rw [upd_same] at ha; cases ha
   ·rw [upd_other _ _ h2] at ha; exact ha
  exact fun hb=>hq (i.hr.apart q qm p' pm this ha2 hp' hpm hb))
 have hgF:=inv'.goes.add ha2 hpm (.map es' since)
 rw [upd_upd,← setRow_fun,← setRow_fun] at hrF hgF
 have hv:iv μ (.tup [.bool false])=some (.tuple #[.bool false]):=rfl
 have hregs':=inv'.regs.put o.dst (e := .tup [.bool false]) (v := .tuple #[.bool false]) (.inr hv)
 rw [hL1,hL2] at h
 obtain ⟨R3,H3,nx3,a3,w3,μ3,f1,f2,f3,f4,f5⟩:=evL_ok (enter_ok hn he) (ops:=ops) (l:=os) (i:=1) (fun j=>by rw [← Array.getElem?_toList,ho,Nat.add_comm]; rfl) hrF hregs' h
 have hg:=hgF.trans f4
 have i':In P B γ μ3 H3 nx3 w3 R3 dfs round a3 d0 b (hasStop (.code L.rest :: .inLoop (.seq (.region id ops false) rest)::r)):=i.later f3 hg f2 (by rw [f5.1,put_defers,inv'.defers])
 refine (he _ γ μ3 H3 nx3 w3 R3 dfs round a3 d0 b k0 u i' f1).from hg fun cs=>?_
 refine .head stepR_loop ((hsteps cs).trans ((f5.2 b _ cs).trans (.head stepR_region_end ?_)))
 rw [hL3]
 exact .refl _ _
theorem loop_it (hn:NoCount P) (he:EvOk P B ih) {c:Code} {ib:List AI→BF} (h:ItOk P B (.code c :: .inLoop c::r) (ib (.inLoop c::r))):ItOk P B (.code (.loop c)::r) (bLoop P ih c ib r):=by
 intro γ μ H nx w R dfs round a d0 b k0 u i hu
 unfold bLoop at hu
 cases hL:nextL P (ntOf P b.fn) c with
 | none =>
   rw [hL] at hu
   exact (h γ μ H nx w R dfs round a d0 b k0 u i hu).from (Goes.refl _ _ _ _) fun cs => .one stepR_loop
 | some L =>
   rw [hL] at hu
   exact map_ok hn he hL i hu
theorem code_ok (hm:P.follows .mixedOrders=true) (hn:NoCount P) (he:EvOk P B ih):∀ (c:Code) (r:List AI),ItOk P B (.code c::r) (bCode P ih c r)
 | .skip,r=>(he r).step rfl fun _ _ _ _ _=>stepR_skip
 | .region id ops draw,r=>region_ok hm hn he
 | .seq x y,r=>(code_ok hm hn he x (.code y::r)).step rfl fun _ _ _ _ _=>stepR_seq
 | .cond x c d,r=>cond_ok (code_ok hm hn he c r) (code_ok hm hn he d r)
 | .block id c,r=>(code_ok hm hn he c (.inBlock id::r)).step rfl fun _ _ _ _ _=>stepR_block
 | .loop c,r=>loop_it hn he (code_ok hm hn he c (.inLoop c::r))
 | .rangeFunc g ps x y,r=>range_it hn he
 | .exit id,r=>exit_it he
 | .scope c,r=>(code_ok hm hn he c (.inScope c::r)).step rfl fun _ _ _ _ _=>stepR_scope
 | .label l,r=>(he r).step rfl fun _ _ _ _ _=>stepR_label
 | .goto l,r=>goto_it he
 | .ret,r=>ret_it
 | .refuse _,r=>fun γ μ H nx w R dfs round a d0 b k0 u i hu=>by cases hu
theorem evB_ok (hm:P.follows .mixedOrders=true) (hn:NoCount P) (he:EvOk P B ih):EvOk P B (evB P ih)
 | []=>end_it
 | .code c::r=>code_ok hm hn he c r
 | .inBlock id::r=>(he r).step rfl fun _ _ _ _ _=>stepR_inBlock
 | .inLoop c::r=>(code_ok hm hn he c (.inLoop c::r)).step rfl fun _ _ _ _ _=>stepR_inLoop
 | .inScope c::r=>(he r).step rfl fun _ _ _ _ _=>stepR_inScope
 | .begin::r=>begin_it he
 | .stop::r=>stop_it
theorem evF_ok (hm:P.follows .mixedOrders=true) (hn:NoCount P):∀ fuel,EvOk P B (evF P fuel)
 | 0=>fun todo γ μ H nx w R dfs round a d0 b k0 u i hu=>by cases hu
 | n+1=>evB_ok hm hn (evF_ok hm hn n)
end Go.Proofs.YtaihbcmifjmapaaGreat.Ev
namespace Go.Proofs.YtaihbcmifjmapaaGreat.Ev
open Go Go.RowKit
set_option linter.unusedVariables false
variable {P:Program}
noncomputable def id0:Id:=⟨.d0,.d0,.d0,.d0⟩
def isT:Option Out→Bool
 | some ⟨.bool true,_,_,none⟩=>true
 | _=>false
def named (P : Program) : Bool := P.funcs.toList.all fun f => !(f.name == "runtime.NumGoroutine")
theorem named_ok (h:named P=true):NoCount P:=by
 intro f fn hf
 unfold named at h
 rw [List.all_eq_true] at h
 have:=h fn (List.mem_of_getElem? (by rw [Array.getElem?_toList]; exact hf))
 simpa using this
end Go.Proofs.YtaihbcmifjmapaaGreat.Ev
namespace Go.Proofs.YtaihbcmifjmapaaGreat.Ev
open Go Go.RowKit
set_option linter.unusedVariables false
variable {P:Program}
structure Lit where
 regs:List (Nat×EV)
 rows:List (Id×TypeId×List EV)
 nx:Id
noncomputable def regsL:List (Nat×EV)→Regs→Regs
 | [],R=>R
 | (t,e)::r,R=>regsL r (setR (toD (t / 16)) (toD (t % 16)) e R)
noncomputable def rowsL:List (Id×TypeId×List EV)→Hp→Hp
 | [],H=>H
 | (q,t,l)::r,H=>rowsL r (setRow q (.cells (fillC l noCs 0) l.length t) H)
noncomputable def eqCl (c:Cs):Nat→List EV→Bool
 | _,[]=>true
 | i,e::r=>eqE (gC i c) e&&eqCl c (i+1) r
noncomputable def covR (R:Regs):List (Nat×EV)→Bool
 | []=>true
 | (t,e)::r=>Nat.blt t 256&&(eqE (getR (toD (t / 16)) (toD (t % 16)) R) e&&covR R r)
noncomputable def covRow (q:Row) (t:TypeId) (l:List EV):Bool:=match q with
 | .cells c len ty=>Nat.ble l.length len&&(Nat.beq ty t&&eqCl c 0 l)
 | _=>false
noncomputable def covH (H:Hp):List (Id×TypeId×List EV)→Bool
 | []=>true
 | (q,t,l)::r=>covRow (getRow q H) t l&&covH H r
noncomputable def stopL (L:Lit):Option Out→Bool
 | some ⟨_,H,nx,some R⟩=>decide (nx=L.nx)&&(covR R L.regs&&covH H L.rows)
 | _=>false
noncomputable def runS (P:Program) (fuel f:Nat):List Code→Regs→Hp→Id→Option Out
 | [],R,H,nx=>some ⟨.unk,H,nx,some R⟩
 | c::r,R,H,nx=>match evF P fuel f R [.code c,.stop] [] none H nx with
   | some ⟨_,H',nx',some R'⟩=>runS P fuel f r R' H' nx'
   | _=>none
noncomputable def runL (P:Program) (fuel f:Nat) (L:Lit) (cs:List Code):Option Out:=runS P fuel f cs (regsL L.regs noRegs) (rowsL L.rows noRows) L.nx
noncomputable def lastL (P:Program) (fuel f:Nat) (L:Lit) (c:Code):Option Out:=evF P fuel f (regsL L.regs noRegs) [.code c] [] none (rowsL L.rows noRows) L.nx
def takeC:Nat→Code→List Code
 | n+1,.seq x y=>x::takeC n y
 | _,_=>[]
def dropC:Nat→Code→Code
 | n+1,.seq _ y=>dropC n y
 | _,c=>c
def seqs:Nat→Code→Bool
 | 0,_=>true
 | n+1,.seq _ y=>seqs n y
 | _,_=>false
def bodyOf (P:Program) (f:Nat):Code:=((P.funcs[f]?).bind (·.body)).getD .skip
def Fin (P:Program) (f:Nat) (R:Regs) (H:Hp) (nx:Id) (c:Code):Prop:=∀ (B:Nat) (γ:Id→List MapEntry) (μ:Mu) (w:World) (a:Act) (b:Frame),HR P γ μ (fun q=>getRow q H) nx B w→RegOk μ (ntOf P f) R a.tmps→a.defers=[] →
 b.fn=f→b.kind = .normal→b.roundOf=none→∃ w' μ' G' nx',Goes μ (fun q=>getRow q H) nx w μ' G' nx' w'∧Left P b (fun cs=>lone (b.atR a [.code c]) cs w) w' (.bool true)
theorem eqCl_ok {c:Cs}:∀ {l:List EV} {i:Nat},eqCl c i l=true→∀ j e,l[j]? = some e→gC (i+j) c=e
 | [],i,_,j,e,h=>by simp at h
 | x::l,i,h,j,e,he=>by
   simp only [eqCl,Bool.and_eq_true] at h
   cases j with
   | zero =>
     simp only [List.getElem?_cons_zero,Option.some.injEq] at he
     subst he
     exact eqE_ok h.1
   | succ j =>
     have:=eqCl_ok h.2 j e (by simpa using he)
     rw [← this]
     congr 1
     omega
theorem covR_ok {R:Regs} {μ:Mu} {nt:Nat} {tm:Array Value} (k:RegOk μ nt R tm):∀ {l:List (Nat×EV)} {R0:Regs},covR R l=true→RegOk μ nt R0 tm→RegOk μ nt (regsL l R0) tm
 | [],R0,_,h=>h
 | (t,e)::l,R0,hc,h=>by
   simp only [covR,Bool.and_eq_true] at hc
   obtain ⟨h1,h2,h3⟩:=hc
   have h1:t < 256:=Nat.le_of_ble_eq_true h1
   have h2:=eqE_ok h2
   refine covR_ok (l:=l) (R0:=setR (toD (t / 16)) (toD (t % 16)) e R0) k h3 ⟨k.1,fun s hs=>?_⟩
   rw [regAt_set hs h1]
   by_cases hst:s=t
   ·subst hst
    rw [if_pos rfl]
    have:=k.2 s hs
    have he:regAt s R=e:=by rw [← h2,getR_eq]; rfl
    rw [he] at this
    exact this
   ·rw [if_neg hst]
    exact h.2 s hs
theorem covH_ok {P:Program} {γ:Id→List MapEntry} {μ:Mu} {H:Hp} {nx:Id} {B:Nat} {w:World} (hr:HR P γ μ (fun q=>getRow q H) nx B w):∀ {l:List (Id×TypeId×List EV)} {H0:Hp},covH H l=true →
  (∀ r,alive (getRow r H0)=true→alive (getRow r H)=true)→HR P γ μ (fun q=>getRow q H0) nx B w→HR P γ μ (fun q=>getRow q (rowsL l H0)) nx B w∧∀ r,alive (getRow r (rowsL l H0))=true→alive (getRow r H)=true
 | [],H0,_,ha,h=>⟨h,ha⟩
 | (q,t,l)::ls,H0,hc,ha,h=>by
   simp only [covH,Bool.and_eq_true] at hc
   obtain ⟨h1,h2⟩:=hc
   unfold covRow at h1
   cases hq:getRow q H with
   | cells c len ty =>
     rw [hq] at h1
     simp only [Bool.and_eq_true] at h1
     obtain ⟨h3,h4,h5⟩:=h1
     have h3:=ble_le h3
     have h4:=Nat.eq_of_beq_eq_true h4
     subst h4
     have hal:alive (getRow q H)=true:=by rw [hq]; rfl
     obtain ⟨p,ob,e1,e2,e3,e4⟩:=hr.live q hal
     simp only [hq] at e4
     obtain ⟨real,f1,f2,f3,f4⟩:=e4
     have hal':∀ r,alive (getRow r (setRow q (.cells (fillC l noCs 0) l.length ty) H0))=true→alive (getRow r H)=true:=by
      intro r hr'
      have hs:getRow r (setRow q (.cells (fillC l noCs 0) l.length ty) H0)=upd (fun q=>getRow q H0) q (.cells (fillC l noCs 0) l.length ty) r:=congrFun (setRow_fun q (.cells (fillC l noCs 0) l.length ty) H0) r
      rw [hs] at hr'
      by_cases hrq:r=q
      ·subst hrq; exact hal
      ·rw [upd_other _ _ hrq] at hr'
       exact ha r hr'
     refine covH_ok (l:=ls) (H0:=setRow q (.cells (fillC l noCs 0) l.length ty) H0) hr h2 hal' ?_
     rw [setRow_fun]
     refine h.add e1 e2 e3 ?_ (fun r p' hrq hra hp' hb=>hrq (hr.apart r q p' p (ha r hra) hal hp' e1 hb))
     refine ⟨real,f1,f2,⟨Nat.le_trans h3 f3.1,Nat.le_trans (Nat.add_le_add_left h3 _) f3.2⟩,fun i hi=>?_⟩
     obtain ⟨v,g1,g2⟩:=f4 i (Nat.lt_of_lt_of_le hi h3)
     refine ⟨v,?_,g2⟩
     have hg:=eqCl_ok h5 i l[i] (List.getElem?_eq_getElem hi)
     rw [Nat.zero_add] at hg
     rw [hg] at g1
     have hlen:=f3.1
     rw [gC_fill (by omega) l noCs 0 (by omega),if_pos (by omega),Nat.sub_zero,List.getD_eq_getElem?_getD,List.getElem?_eq_getElem hi]
     exact g1
   | _=>rw [hq] at h1; cases h1
theorem takeC0 (c:Code):takeC 0 c=[]:=by unfold takeC; rfl
theorem dropC0 (c:Code):dropC 0 c=c:=by unfold dropC; rfl
theorem takeCS (n:Nat) (x y:Code):takeC (n+1) (.seq x y)=x::takeC n y:=by rw [takeC]
theorem dropCS (n:Nat) (x y:Code):dropC (n+1) (.seq x y)=dropC n y:=by rw [dropC]
theorem runS0 (P:Program) (fuel f:Nat) (R:Regs) (H:Hp) (nx:Id):runS P fuel f [] R H nx=some ⟨.unk,H,nx,some R⟩:=by rw [runS]
theorem runSS (P:Program) (fuel f:Nat) (c:Code) (r:List Code) (R:Regs) (H:Hp) (nx:Id):runS P fuel f (c::r) R H nx=(match evF P fuel f R [.code c,.stop] [] none H nx with
  | some ⟨_,H',nx',some R'⟩=>runS P fuel f r R' H' nx'
  | _=>none):=by rw [runS]
theorem run_step (hm:P.follows .mixedOrders=true) (hn:NoCount P) {fuel f:Nat} {L':Lit} {n:Nat} {c:Code} {R:Regs} {H:Hp} {nx:Id} (hs:seqs n c=true) (h:stopL L' (runS P fuel f (takeC n c) R H nx)=true)
  (k:Fin P f (regsL L'.regs noRegs) (rowsL L'.rows noRows) L'.nx (dropC n c)):Fin P f R H nx c:=by
 induction n generalizing c R H nx with
 | zero =>
   rw [takeC0,runS0] at h
   rw [dropC0] at k
   simp only [stopL,Bool.and_eq_true,decide_eq_true_eq] at h
   obtain ⟨rfl,h2,h3⟩:=h
   intro B γ μ w a b hr hk ha h4 h5 h6
   obtain ⟨hr',hal⟩:=covH_ok hr (H0:=noRows) h3 (fun r hra=>(by simp only [noRows_get] at hra; cases hra)) hr.none
   obtain ⟨w',μ',G',nx',g1,g2⟩:=k B γ μ w a b hr' (covR_ok hk h2 (noRegs_ok hk.1)) ha h4 h5 h6
   refine ⟨w',μ',G',nx',⟨g1.le,g1.new,g1.nxt,g1.os,g1.tape,g1.output,g1.size,fun k hk1 hk2=>g1.keep k hk1 fun r p hra hp=>hk2 r p (hal r hra) hp,fun r p hra hp=>?_,fun r hra=>(g1.dom r hra).imp (hal r) id⟩,g2⟩
   rcases g1.own r p hra hp with ⟨r0,p0,q1,q2,q3⟩ | q
   ·exact .inl ⟨r0,p0,hal r0 q1,q2,q3⟩
   ·exact .inr q
 | succ n IH0 =>
   cases c <;> try (cases hs; done)
   rename_i x y
   rw [takeCS,runSS] at h
   rw [dropCS] at k
   replace hs:seqs n y=true:=hs
   cases hu:evF P fuel f R [.code x,.stop] [] none H nx with
   | none=>rw [hu] at h; cases h
   | some u =>
     obtain ⟨e,H',nx',st⟩:=u
     cases st with
     | none=>rw [hu] at h; cases h
     | some R' =>
       rw [hu] at h
       have IH:=IH0 hs h k
       intro B γ μ w a b hr hk ha h4 h5 h6
       subst h4
       have hin:In P B γ μ H nx w R [] none a [] b (hasStop [.code x,.stop]):=⟨hr,hk,⟨[],trivial,by rw [ha]; rfl⟩,fun _=>rfl,h5,by rw [h6]; trivial⟩
       obtain ⟨w1,μ1,e1,e2,e3⟩:=evF_ok (B:=B) hm hn fuel [.code x,.stop] γ μ H nx w R [] none a [] b [.code y] _ hin hu
       rcases e3 with ⟨R1,a1,s1,s2,s3,s4⟩ | ⟨s1, -⟩
       ·injection s1 with s1
        subst s1
        obtain ⟨w',μ',G',nx2,g1,g2⟩:=IH B γ μ1 w1 a1 b e1 s2 s3 rfl h5 h6
        exact ⟨w',μ',G',nx2,e2.trans g1,g2.steps fun cs => .head stepR_seq (s4 cs)⟩
       ·cases s1
theorem isT_some {o:Option Out} (h:isT o=true):∃ u,o=some u∧u.e = .bool true∧u.st=none:=by
 cases o with
 | none=>cases h
 | some u =>
   refine ⟨u,rfl,?_⟩
   obtain ⟨e,H',nx',st⟩:=u
   cases e <;> try (cases st <;> cases h; done)
   rename_i x
   cases x <;> cases st <;> first | (cases h; done) | exact ⟨rfl,rfl⟩
theorem run_last (hm:P.follows .mixedOrders=true) (hn:NoCount P) {fuel f:Nat} {c:Code} {R:Regs} {H:Hp} {nx:Id} (h:isT (evF P fuel f R [.code c] [] none H nx)=true):Fin P f R H nx c:=by
 obtain ⟨u,hu,h1,h2⟩:=isT_some h
 intro B γ μ w a b hr hk ha h4 h5 h6
 subst h4
 have hin:In P B γ μ H nx w R [] none a [] b (hasStop [.code c]):=⟨hr,hk,⟨[],trivial,by rw [ha]; rfl⟩,fun _=>rfl,h5,by rw [h6]; trivial⟩
 obtain ⟨w',μ',e1,e2,e3⟩:=evF_ok (B:=B) hm hn fuel [.code c] γ μ H nx w R [] none a [] b [] u hin hu
 rcases e3 with ⟨R',a',e4, -⟩ | ⟨-,v,e4,e5⟩
 ·rw [h2] at e4; cases e4
 ·rw [h1] at e4
  injection e4 with e4
  subst e4
  exact ⟨w',μ',_,_,e2,e5⟩
theorem fin_calls {f:Nat} {fn:Func} {c:Code} (hf:P.funcs[f]? = some fn) (hb:fn.body=some c) (h:Fin P f noRegs noRows id0 c) (w:World):Calls P f #[] w fun r w'=>r = .returned (.bool true)∧Below w.heap.size w w':=by
 have hnt:ntOf P f=fn.ntmps:=by unfold ntOf; rw [hf]; rfl
 have hr:HR P (fun _=>[]) (fun _=>none) (fun q=>getRow q noRows) id0 w.heap.size w :=
  ⟨fun _ _=>rfl,fun r ha=>(by simp only [noRows_get] at ha; cases ha),fun r r' p p' h1=>(by simp only [noRows_get] at h1; cases h1),Nat.le_refl _⟩
 obtain ⟨w',μ',G',nx',e2,e5⟩:=h w.heap.size _ _ w ⟨#[]++Array.replicate (fn.ntmps-0) undef,[]⟩ (Frame.enter P f #[] .normal) hr (by rw [hnt]; exact noRegs_ok (by simp)) rfl rfl rfl rfl
 obtain ⟨fr,g1,g2,g3⟩:∃ fr:Frame,fr.fn=f∧fr.leaving P w' (.returned (.bool true))∧∀ cs,Steps P (lone ((Frame.enter P f #[] .normal).atR ⟨#[]++Array.replicate (fn.ntmps-0) undef,[]⟩ [.code c]) cs w) (lone fr cs w'):=e5
 intro cs
 refine ⟨.returned (.bool true),w',fr,⟨rfl,e2.below hr⟩,?_,g1,g2⟩
 have hfr:Frame.enter P f #[] .normal=(Frame.enter P f #[] .normal).atR ⟨#[]++Array.replicate (fn.ntmps-0) undef,[]⟩ [.code c]:=by
  simp [Frame.enter,Frame.atR,hf,hb]
 have:=g3 cs
 rw [← hfr] at this
 exact this
theorem works_fin {f:Nat} {fn:Func} (hf:P.funcs[f]? = some fn) (hb:fn.body.isSome=true) (h:Fin P f noRegs noRows id0 (bodyOf P f)) (w:World):Calls P f #[] w fun r w'=>r = .returned (.bool true)∧Below w.heap.size w w':=by
 obtain ⟨c,hc⟩:=Option.isSome_iff_exists.1 hb
 have:bodyOf P f=c:=by unfold bodyOf; rw [hf]; simp [hc]
 rw [this] at h
 exact fin_calls hf hc h w
noncomputable def lit0:Lit:=⟨[],[],id0⟩
def FinL (P:Program) (f:Nat) (L:Lit) (c:Code):Prop:=Fin P f (regsL L.regs noRegs) (rowsL L.rows noRows) L.nx c
theorem lit_last (hm:P.follows .mixedOrders=true) (hn:NoCount P) {fuel f:Nat} {L:Lit} {c:Code} (h:isT (lastL P fuel f L c)=true):FinL P f L c:=run_last hm hn h
theorem lit_step (hm:P.follows .mixedOrders=true) (hn:NoCount P) {fuel f n:Nat} {L L':Lit} {c:Code} (h:seqs n c=true∧stopL L' (runL P fuel f L (takeC n c))=true) (k:FinL P f L' (dropC n c)):FinL P f L c:=run_step hm hn h.1 h.2 k
theorem lit_fin {f:Nat} {fn:Func} (hf:P.funcs[f]? = some fn) (hb:fn.body.isSome=true) (h:FinL P f lit0 (bodyOf P f)) (w:World):Calls P f #[] w fun r w'=>r = .returned (.bool true)∧Below w.heap.size w w':=works_fin hf hb h w
end Go.Proofs.YtaihbcmifjmapaaGreat.Ev
