/- Regions that draw their order, whose operations read and whose calls make memory but change none that is there. Regions that draw their order, walked in one order of our choosing: reads may be taken first, the other operations come up one by one. In a plain frame, and within the round of a range over a function. Regions that draw their order, walked in one order of our choosing, guards and all; the class of worlds holds behind each operation, the last one too. Schedules of a region: the last operation need wait only for those that are taken first. Regions that draw their order: a head of operations that read or call what reads and makes memory, and behind all of them a tail that may write, which runs in the order of the text. Regions that draw their order, inside the wide fence: a head of operations that read or call what reads and makes memory, and behind all of them a tail in which the body of a range may be called. -/
import Derived.Test.YtibmeigdjghkcaaGreatProg
import Derived.WalkKit
import Derived.Deep.QuietTactic
import Derived.Deep.Draws
import Derived.BigQuiet
import Derived.OrdersHeld
import Derived.OrdersIn
import Derived.RangeFuncNested
import Derived.RangeFuncBound
import Derived.RangeFuncCalls
import Derived.RangeFuncLeaves
import Derived.OwnWalkIn
import Derived.TacticsInMore
import Derived.LoopNIn
import Derived.LoopIn
import Derived.StillTail
import Derived.Deep.Quiet
namespace Go.Proofs.YtibmeigdjghkcaaGreat
open Go.RowKit
set_option linter.unusedVariables false
structure Ext (W:World) where
 w:World
 h:Below W.heap.size W w
instance extNonempty (W:World):Nonempty (Ext W):=⟨⟨W,Below.refl _ _⟩⟩
theorem wp_region_ext {P:Program} {id:Nat} {Q:Exit→Act→World→Prop} {a:Act} {W:World} {l:List Oper} (hm:P.follows .mixedOrders=true) (hB:Region.lexB .any l.toArray=true)
  (h:wpQuiet P l.toArray (fun w'=>∃ x:Ext W,w'=x.w) (fun a'=>∀ w',(∃ x:Ext W,w'=x.w)→Q .normal a' w') l a):(Code.region id l.toArray true).wp P Q a W :=
 wp_region_quiet (C:=fun w'=>∃ x:Ext W,w'=x.w) hm hB ⟨⟨{ W with drawn:=W.drawn+1 },⟨rfl,rfl,rfl,Nat.le_refl _,fun _ _=>rfl⟩⟩,rfl⟩ (by simpa using h)
theorem cell_lt {w:World} {b o:Nat} {v:Value} (h:w.cell? ⟨b,o,none⟩=some v):b < w.heap.size:=by
 rcases Nat.lt_or_ge b w.heap.size with hl | hl
 ·exact hl
 ·simp [World.cell?,Array.getElem?_eq_none hl] at h
theorem Ext.of {W:World} {b o:Nat} {v:Value} (h:W.cell? ⟨b,o,none⟩=some v) (x:Ext W):x.w.cell? ⟨b,o,none⟩=some v :=
 (x.h.cell (p:=⟨b,o,none⟩) (cell_lt h)).trans h
theorem ext_call {P:Program} {f:FuncId} {args:Array Value} {W:World} {v:Value} (x:Ext W)
  (h:Calls P f args x.w fun e w'=>e = .returned v∧Below x.w.heap.size x.w w'):Calls P f args x.w fun e w''=>e = .returned v∧∃ y:Ext W,w''=y.w :=
 h.mono fun _ w' ⟨he,hw⟩=>⟨he,⟨w',x.h.trans (hw.mono x.h.size)⟩,rfl⟩
end Go.Proofs.YtibmeigdjghkcaaGreat
namespace Go.Proofs.YtibmeigdjghkcaaGreat
open Go.RowKit
set_option linter.unusedVariables false
def valOnly (o:Oper):Bool :=
 match o.op with
 | .move _ | .assign _ | .load _ _ | .fieldAddr _ _ _ | .indexAddr _ _ _ | .binOp _ _ _ _ _ | .unOp _ _ _ | .nilCheck _ | .build _ _ | .pick _ _ _ | .field _ _ _ | .index _ _ _ | .convert _ _ _ | .slice _ _ _ _ _ | .extract _ _ | .lookup _ _ _ _=>true
 | .call { callee := .builtin .len,args:=_,argTypes:=_ }=>true
 | _=>false
theorem andThen_value {P:Program} {w:World} (s:Sem Value) (f:FuncId) (args:Array Value) (w':World):(do pure (Next.value (← s)):Sem Next).run P w ≠ .ok (.enter f args) w'∧(do pure (Next.value (← s)):Sem Next).run P w ≠ .ok .skip w':=by
 rw [Sem.run_bind]
 cases s.run P w <;> simp [Result.andThen]
theorem valOnly_spec {P:Program} {o:Oper} (h:valOnly o=true) (ρ:Operand→Value) (w:World) (f:FuncId) (args:Array Value) (w':World):(execOp ρ o).run P w ≠ .ok (.enter f args) w'∧(execOp ρ o).run P w ≠ .ok .skip w':=by
 obtain ⟨dst,op,type,pos,after,guard⟩:=o
 cases op
 case nilCheck x =>
  simp only [execOp]
  generalize ρ x=y
  split
  ·simp [runtimePanic]
  ·simp [runtimePanic]
  ·simp [runtimePanic]
  ·split
   ·simp [runtimePanic]
   ·simp only [Sem.run_bind,run_program,Result.andThen_ok]
    generalize (nilAhead _ _ _ _).run P w=r
    cases r with
    | ok b w1 =>
      simp only [Result.andThen_ok]
      split <;> simp [Result.andThen,unsupported]
    | halt x w1=>simp [Result.andThen]
   ·simp
  ·simp
 case pick c a b =>
  simp only [execOp]
  rw [Sem.run_bind]
  cases (asBool (ρ c)).run P w <;> simp [Result.andThen]
 case call c =>
  obtain ⟨callee,xs,ts⟩:=c
  cases callee
  case builtin b =>
   cases b <;> first
    | (simp [valOnly] at h; done)
    | (simp only [execOp,resolve,Sem.run_bind,invoke,builtin]
       exact andThen_value _ _ _ _)
  all_goals (simp [valOnly] at h; done)
 all_goals first
  | (simp [valOnly] at h; done)
  | (simp [execOp]; done)
  | (simp only [execOp]; exact andThen_value _ _ _ _)
section
variable {P:Program} {ops:Array Oper} {Q:Exit→Act→World→Prop} {C:World→Prop}
theorem yieldsIf_of_quiet {o:Oper} {a:Act} {v:Value} (hv:valOnly o=true) (hw:Region.wanted o (yielded ops a.tmps)=true) (h:∀ w,C w→o.quietAt P a C w v):YieldsIf P ops C o v a:=by
 refine .inl ⟨hw,fun w hC=>?_⟩
 have h1:=h w hC
 have h2:=valOnly_spec (P:=P) hv a.eval w
 unfold Oper.quietAt at h1
 generalize (execOp a.eval o).run P w=r at *
 cases r with
 | ok n w' =>
   cases n <;> simp only [Oper.quietUpon] at h1
   case value u=>rw [h1.1,h1.2]
   case skip=>exact absurd rfl (h2 0 #[] w').2
   case enter f args=>exact absurd rfl (h2 f args w').1
 | halt x w'=>simp only [Oper.quietUpon] at h1
def wpSched (P:Program) (ops:Array Oper) (C:World→Prop) (Q:Exit→Act→World→Prop):List (Nat×Bool)→Act→World→Prop
 | [],a,w=>Q .normal a w
 | (i,true)::r,a,w=>match ops[i]? with
   | none=>False
   | some o=>if Region.wanted o (yielded ops a.tmps) then o.quiet P a C (fun a'=>wpSched P ops C Q r a' w) else wpSched P ops C Q r (a.put o.dst undef) w
 | (i,false)::r,a,w=>match ops[i]? with
   | none=>False
   | some o=>if Region.wanted o (yielded ops a.tmps) then o.wp P a w (fun a' w'=>(r=[]∨C w')∧wpSched P ops C Q r a' w') Q else wpSched P ops C Q r (a.put o.dst undef) w
def lastB (ops:Array Oper) (z:Nat):Bool :=
 match ops[z]? with
 | none=>false
 | some oz=>(List.range ops.size).all fun i=>i==z||oz.after.any fun e=>Region.binds .any e&&e.on==i
def schedB (ops:Array Oper) (z:Nat):List (Nat×Bool)→Array Bool→Bool
 | [],listed=>(Region.ready .any ops listed).isEmpty
 | (i,true)::r,listed=>((ops[i]?).map valOnly).getD false&&Region.free .any ops listed i&&(Region.ready .any ops listed).contains i&&(i != z)&&schedB ops z r (listed.setIfInBounds i true)
 | (i,false)::r,listed=>(Region.ready .any ops listed==[i])&&(!r.isEmpty||i==z)&&schedB ops z r (listed.setIfInBounds i true)
def NoP (Q:Exit→Act→World→Prop):Exit→Act→World→Prop
 | .normal,a,w=>Q .normal a w
 | _,_,_=>False
def AnyZ (P:Program) (ops:Array Oper) (Q:Exit→Act→World→Prop) (S:World→Prop) (z:Nat):Nat→Array Bool→Act→World→Prop
 | 0,listed,a,w=>Region.ready .any ops listed=[]∧Q .normal a w
 | n+1,listed,a,w =>
   (Region.ready .any ops listed=[]→Q .normal a w) ∧
   ∀ i∈Region.ready .any ops listed,wpOp P ops Q i (fun a' w'=>(i=z∨S w')∧AnyZ P ops Q S z n (listed.setIfInBounds i true) a' w') a w
theorem AnyZ.any {z:Nat}:∀ (n:Nat) (listed:Array Bool) (a:Act) (w:World),AnyZ P ops Q C z n listed a w→wpAny P .any ops Q n listed a w
 | 0,_,_,_,h=>h
 | n+1,_,_,_,h=>⟨h.1,fun i hi=>wpOp_mono (fun a' w' h'=>AnyZ.any n _ a' w' h'.2) (h.2 i hi)⟩
theorem AnyZ.take {z i:Nat} {oi:Oper} {v:Value} (hi:ops[i]? = some oi) (hiz:i≠z) (hz:lastB ops z=true) (hsel:Region.noSelect ops=true) (hQ:∀ c a w,Q (.panic c) (a.put oi.dst v) w→Q (.panic c) a w) :
  ∀ (n:Nat) (listed:Array Bool) (a:Act) (w:World),Region.free .any ops listed i=true→i∈Region.ready .any ops listed→YieldsIf P ops C oi v a→C w →
   AnyZ P ops Q C z n (listed.setIfInBounds i true) (a.put oi.dst v) w→AnyZ P ops Q C z (n+1) listed a w:=by
 have hs:=Region.noSelect_spec hsel
 have hwait:∀ oz,ops[z]? = some oz→∃ e∈oz.after,Region.binds .any e=true∧e.on=i:=by
  intro oz hoz
  unfold lastB at hz
  simp only [hoz] at hz
  have h1:=List.all_eq_true.1 hz i (List.mem_range.2 (Array.getElem?_eq_some_iff.1 hi).1)
  simp only [Bool.or_eq_true,beq_iff_eq] at h1
  rcases h1 with h1 | h1
  ·exact absurd h1 hiz
  ·obtain ⟨k,hk,h2,h3⟩:∃ k,∃ h:k < oz.after.size,Region.binds .any oz.after[k]=true∧oz.after[k].on=i:=by simpa using h1
   exact ⟨_,Array.getElem_mem hk,h2,h3⟩
 have main:∀ (n:Nat) (listed:Array Bool) (a:Act) (w:World),
   (∀ j oj,ops[j]? = some oj→j≠i→listed.getD j true=false→(∀ e∈oj.after,Region.binds .any e=true→e.on≠i)→oi.apart ops oj=true) →
   i∈Region.ready .any ops listed→YieldsIf P ops C oi v a→C w →
   AnyZ P ops Q C z n (listed.setIfInBounds i true) (a.put oi.dst v) w→AnyZ P ops Q C z (n+1) listed a w:=by
  intro n
  induction n with
  | zero =>
    intro listed a w _ hr hy hS H
    refine ⟨fun h=>(by rw [h] at hr; cases hr),fun j hj=>?_⟩
    by_cases hji:j=i
    ·subst hji; exact hy.wpOp hi hS ⟨.inr hS,H⟩
    ·have h1:=ready_mono hj hji
     rw [H.1] at h1
     cases h1
  | succ n ih =>
    intro listed a w hfree hr hy hS H
    refine ⟨fun h=>(by rw [h] at hr; cases hr),fun j hj=>?_⟩
    by_cases hji:j=i
    ·subst hji; exact hy.wpOp hi hS ⟨.inr hS,H⟩
    ·have h1:=H.2 j (ready_mono hj hji)
     obtain ⟨hjun,oj,hoj,hall⟩:=mem_ready.1 hj
     have hnot:∀ e∈oj.after,Region.binds .any e=true→e.on≠i:=fun e he hb heq=>by
      have h1:=hall e he hb
      have h0:=(mem_ready.1 hr).1
      rw [heq] at h1
      rcases Nat.lt_or_ge i listed.size with h' | h'
      ·simp [h'] at h0 h1; rw [h0] at h1; cases h1
      ·simp [Array.getElem?_eq_none h'] at h1
     have hjz:j≠z:=by
      rintro rfl
      obtain ⟨e,he,hb,hon⟩:=hwait oj hoj
      exact hnot e he hb hon
     have h2:=wpOp_putIf hoj (hfree j oj hoj hji hjun hnot) (fun cs b=>hs i oi cs b hi) (fun cs b=>hs j oj cs b hoj) hQ hy h1
     have hfree':∀ k ok,ops[k]? = some ok→k≠i→(listed.setIfInBounds j true).getD k true=false →
       (∀ e∈ok.after,Region.binds .any e=true→e.on≠i)→oi.apart ops ok=true:=fun k ok hk hki hun hno=>by
      refine hfree k ok hk hki ?_ hno
      by_cases hjk:j=k
      ·subst hjk; exact hjun
      ·rw [getD_set_ne true hjk] at hun; exact hun
     refine wpOp_mono (fun a' w' h3=>?_) h2
     have hS':=h3.2.1.resolve_left hjz
     refine ⟨.inr hS',ih (listed.setIfInBounds j true) a' w' hfree' (ready_mono hr (Ne.symm hji)) h3.1 hS' ?_⟩
     rw [Array.setIfInBounds_comm _ _ hji]
     exact h3.2.2
 intro n listed a w hf
 exact main n listed a w (Region.free_spec hi hf)
theorem AnyZ.of_sched {z:Nat} (hs:Region.noSelect ops=true) (hz:lastB ops z=true):∀ (l:List (Nat×Bool)) (fuel:Nat) (listed:Array Bool) (a:Act) (w:World),l.length≤fuel→(l=[]∨C w)→schedB ops z l listed=true →
  wpSched P ops C (NoP Q) l a w→AnyZ P ops (NoP Q) C z fuel listed a w
 | [],fuel,listed,a,w,_,_,hb,h=>by
   simp only [schedB,List.isEmpty_iff] at hb
   cases fuel with
   | zero=>exact ⟨hb,h⟩
   | succ n=>exact ⟨fun _=>h,by rw [hb]; simp⟩
 | (i,true)::r,0,listed,a,w,hf,_,_,_=>by simp at hf
 | (i,false)::r,0,listed,a,w,hf,_,_,_=>by simp at hf
 | (i,true)::r,fuel+1,listed,a,w,hf,hC,hb,h=>by
   have hC:=hC.resolve_left (by simp)
   simp only [schedB,Bool.and_eq_true,bne_iff_ne] at hb
   obtain ⟨⟨⟨⟨h1,h2⟩,h3⟩,h5⟩,h4⟩:=hb
   have h3:i∈Region.ready .any ops listed:=by simpa using h3
   simp only [wpSched] at h
   cases ho:ops[i]? with
   | none=>simp [ho] at h1
   | some o =>
     simp only [ho,Option.map_some,Option.getD_some] at h1
     simp only [ho] at h
     have hlen:r.length≤fuel:=by simp at hf; omega
     by_cases hw:Region.wanted o (yielded ops a.tmps)=true
     ·rw [if_pos hw] at h
      obtain ⟨v,hv,hn⟩:=h
      exact AnyZ.take ho h5 hz hs (fun c a w hh=>hh.elim) fuel listed a w h2 h3 (yieldsIf_of_quiet h1 hw hv) hC (AnyZ.of_sched hs hz r fuel _ _ w hlen (.inr hC) h4 hn)
     ·rw [if_neg hw] at h
      exact AnyZ.take (v:=undef) ho h5 hz hs (fun c a w hh=>hh.elim) fuel listed a w h2 h3 (.inr ⟨by simpa using hw,rfl⟩) hC (AnyZ.of_sched hs hz r fuel _ _ w hlen (.inr hC) h4 h)
 | (i,false)::r,fuel+1,listed,a,w,hf,hC,hb,h=>by
   have hCw:C w:=by
    rcases hC with h | h
    ·cases h
    ·exact h
   clear hC
   simp only [schedB,Bool.and_eq_true,beq_iff_eq] at hb
   obtain ⟨⟨h1,h5⟩,h4⟩:=hb
   simp only [wpSched] at h
   have hlen:r.length≤fuel:=by simp at hf; omega
   refine ⟨fun h0=>(by rw [h1] at h0; cases h0),fun j hj=>?_⟩
   rw [h1] at hj
   obtain rfl:j=i:=by simpa using hj
   have hlast:r=[]→j=z:=by
    intro hr
    simpa [hr] using h5
   unfold wpOp
   cases ho:ops[j]? with
   | none=>simp [ho] at h
   | some o =>
     simp only [ho] at h
     show if _ then _ else _
     by_cases hw:Region.wanted o (yielded ops a.tmps)=true
     ·rw [if_pos hw] at h ⊢
      exact .inl (Oper.wp_mono (fun a' w' ⟨hc,hh⟩=>⟨hc.imp hlast id,AnyZ.of_sched hs hz r fuel _ a' w' hlen hc h4 hh⟩) h)
     ·rw [if_neg hw] at h ⊢
      exact ⟨.inr hCw,AnyZ.of_sched hs hz r fuel _ _ w hlen (.inr hCw) h4 h⟩
def schedOk (ops:Array Oper) (σ:List (Nat×Bool)):Bool:=Region.noSelect ops&&decide (σ.length≤ops.size)&&!σ.isEmpty&&lastB ops ((σ.getLast?.map (·.1)).getD 0)&&schedB ops ((σ.getLast?.map (·.1)).getD 0) σ (Array.replicate ops.size false)
theorem NoP_imp {Q:Exit→Act→World→Prop} (e:Exit) (a:Act) (w:World) (h:NoP Q e a w):Q e a w:=by
 cases e <;> first | exact h | exact h.elim
theorem any_of_sched {a:Act} {W:World} (σ:List (Nat×Bool)) (hs:schedOk ops σ=true) (hC:C W.drew) (h:wpSched P ops C (NoP Q) σ a W.drew):wpAny P .any ops (NoP Q) ops.size (Array.replicate ops.size false) a W.drew:=by
 simp only [schedOk,Bool.and_eq_true,decide_eq_true_eq] at hs
 obtain ⟨⟨⟨⟨h1,h2⟩,h3⟩,h4⟩,h5⟩:=hs
 exact AnyZ.any _ _ _ _ (AnyZ.of_sched h1 h4 σ _ _ a _ h2 (.inr hC) h5 h)
theorem wp_region_sched {id:Nat} {a:Act} {W:World} (σ:List (Nat×Bool)) (hm:P.follows .mixedOrders=true) (hs:schedOk ops σ=true) (hC:C W.drew)
  (h:wpSched P ops C (NoP Q) σ a W.drew):(Code.region id ops true).wp P Q a W :=
 wp_mono (wp_region_any hm (any_of_sched σ hs hC h)) NoP_imp
theorem wpIn_of_wp {o:Oper} {l n:Nat} (hd:∀ c,o.op ≠ .defer c) {a:Act} {w:World} {K:Act→World→Prop} {Q:Exit→Act→World→Prop} (h:o.wp P a w K Q):o.wpIn (Fence.wide.inRound l) n P a w K Q:=by
 refine ⟨fun f _=>trivial,?_⟩
 rw [Oper.semAt_eq _ _ _ hd]
 unfold Oper.wp at h
 generalize (execOp a.eval o).run P w=r at *
 cases r with
 | ok x w' =>
   cases x <;> simp only [Oper.upon,Oper.uponIn] at h ⊢
   case value v=>exact h
   case skip=>exact h
   case defer d=>exact h
   case enter f args=>exact ⟨fun hh=>by simp [Fence.wide,Fence.inRound] at hh,CallsIn.inRound l (callsIn_wide.2 h)⟩
   case row row args =>
    refine ⟨fun hh=>by simp [Fence.wide,Fence.inRound] at hh,fun c cs _=>?_⟩
    obtain ⟨v,w'',hR,hs⟩:=h c cs
    exact ⟨v,w'',hR,stepsIn_wide.2 hs⟩
 | halt x w'=>cases x <;> simp only [Oper.upon,Oper.uponIn] at h ⊢ <;> exact h
def noDefer (ops:Array Oper):Bool:=ops.all fun o=>match o.op with | .defer _=>false | _=>true
theorem wpAnyIn_of_wpAny {l n:Nat} (hnd:noDefer ops=true):∀ (fuel:Nat) (listed:Array Bool) (a:Act) (w:World),wpAny P .any ops (NoP Q) fuel listed a w→wpAnyIn (Fence.wide.inRound l) n P .any ops (NoP Q) fuel listed a w
 | 0,_,_,_,h=>h
 | fuel+1,listed,a,w,h=>by
   refine ⟨h.1,fun i hi=>?_⟩
   have h2:=h.2 i hi
   unfold wpOp at h2
   unfold wpOpIn
   cases ho:ops[i]? with
   | none =>
     simp only [ho] at h2 ⊢
     exact wpAnyIn_of_wpAny hnd fuel _ _ _ h2
   | some o =>
     simp only [ho] at h2 ⊢
     have hd:∀ c,o.op ≠ .defer c:=by
      intro c hc
      have:=Array.all_eq_true_iff_forall_mem.1 hnd o (Array.mem_of_getElem? ho)
      simp [hc] at this
     split
     ·rename_i hw
      rw [if_pos hw] at h2
      rcases h2 with h2 | ⟨_,a',w',h3⟩
      ·exact wpIn_of_wp hd (Oper.wp_mono (fun a' w' hh=>wpAnyIn_of_wpAny hnd fuel _ a' w' hh) h2)
      ·exact h3.elim
     ·rename_i hw
      rw [if_neg hw] at h2
      exact ⟨fun _ _=>trivial,wpAnyIn_of_wpAny hnd fuel _ _ _ h2⟩
theorem wpIn_region_sched {id l n:Nat} {a:Act} {W:World} (σ:List (Nat×Bool)) (hm:P.follows .mixedOrders=true) (hs:schedOk ops σ=true) (hnd:noDefer ops=true) (hC:C W.drew)
  (h:wpSched P ops C (NoP Q) σ a W.drew):(Code.region id ops true).wpIn (Fence.wide.inRound l) n P Q a W :=
 wpIn_mono (wpIn_region_any hm (wpAnyIn_of_wpAny hnd _ _ _ _ (any_of_sched σ hs hC h))) NoP_imp
theorem wpIn_region_ext {id r n:Nat} {a:Act} {W:World} {l:List Oper} (hm:P.follows .mixedOrders=true) (hB:Region.lexB .any l.toArray=true) (hnd:noDefer l.toArray=true)
  (h:wpQuiet P l.toArray (fun w'=>∃ x:Ext W,w'=x.w) (fun a'=>∀ w',(∃ x:Ext W,w'=x.w)→Q .normal a' w') l a):(Code.region id l.toArray true).wpIn (Fence.wide.inRound r) n P Q a W:=by
 have hC:(fun w'=>∃ x:Ext W,w'=x.w) W.drew:=⟨⟨W.drew,⟨rfl,rfl,rfl,Nat.le_refl _,fun _ _=>rfl⟩⟩,rfl⟩
 simp only [Region.lexB,Bool.and_eq_true] at hB
 refine wpIn_mono (Q:=NoP Q) (wpIn_region_any hm (wpAnyIn_of_wpAny hnd _ _ _ _ (wpAny_of_quiet (Q:=fun a'=>∀ w',(∃ x:Ext W,w'=x.w)→Q .normal a' w') (Q':=NoP Q) (fun _ w' hw' h=>h w' hw') _ _ _ _ hC ?_))) NoP_imp
 have:=wpAnyQ_lex (C:=fun w'=>∃ x:Ext W,w'=x.w) (md := .any) hB.1 l.toArray.toList 0 (Array.replicate l.toArray.size false) a (by simp) (by simpa using hB.2) (by simpa using h)
 simpa using this
theorem getElem?_of_drop {α:Type} {l:List α} {i:Nat} {o:α} {rest:List α} (h:l.drop i=o::rest):l.toArray[i]? = some o:=by
 have h1:(l.drop i)[0]? = some o:=by rw [h]; rfl
 rw [List.getElem?_drop] at h1
 simpa using h1
theorem sched_q {l rest:List Oper} {i:Nat} {r:List (Nat×Bool)} {a:Act} {w:World} {o:Oper} (hi:l.drop i=o::rest) (hg:o.guard=none) (h:∀ K:Act→Prop,(∀ a',wpSched P l.toArray C Q r a' w→K a')→o.quiet P a C K):wpSched P l.toArray C Q ((i,true)::r) a w:=by
 have hi:=getElem?_of_drop hi
 have hw:Region.wanted o (yielded l.toArray a.tmps)=true:=by simp [Region.wanted,hg]
 simp only [wpSched,hi,hw,if_true]
 exact h _ fun _ h=>h
theorem sched_c {l rest:List Oper} {i:Nat} {r:List (Nat×Bool)} {a:Act} {w:World} {o:Oper} (hi:l.drop i=o::rest) (hg:o.guard=none) (h:∀ K:Act→World→Prop,(∀ a' w',(r=[]∨C w')∧wpSched P l.toArray C (NoP Q) r a' w'→K a' w')→wpList P l.toArray (NoP (Exit.then K Q)) [o] a w):wpSched P l.toArray C (NoP Q) ((i,false)::r) a w:=by
 have hi:=getElem?_of_drop hi
 have hw:Region.wanted o (yielded l.toArray a.tmps)=true:=by simp [Region.wanted,hg]
 simp only [wpSched,hi,hw,if_true]
 have h1:=h _ fun _ _ h=>h
 simp only [wpList,hw,if_true] at h1
 rcases h1 with h1 | ⟨_,a',w',h2⟩
 ·unfold Oper.wp at h1 ⊢
  generalize (execOp a.eval o).run P w=q at *
  cases q with
  | ok x w' =>
    cases x <;> simp only [Oper.upon] at h1 ⊢
    case value v=>exact h1
    case skip=>exact h1
    case defer d=>exact h1
    case enter f args =>
     refine h1.mono fun e w'' hh=>?_
     cases e with
     | returned v=>exact hh
     | panicked ch=>exact hh.elim
     | outgrown=>obtain ⟨a,w,hh⟩:=hh; exact hh.elim
    case row row args=>exact h1
  | halt x w'=>cases x <;> simp only [Oper.upon] at h1 ⊢ <;> first | exact h1 | exact h1.elim
 ·exact h2.elim
theorem sched_nil {a:Act} {w:World} (h:Q .normal a w):wpSched P ops C (NoP Q) [] a w:=h
end
structure SubW (F:World→Prop) where
 w:World
 h:F w
end Go.Proofs.YtibmeigdjghkcaaGreat
namespace Go.Proofs.YtibmeigdjghkcaaGreat
open Go.RowKit
set_option linter.unusedVariables false
section
variable {P:Program} {ops:Array Oper} {Q:Exit→Act→World→Prop} {C:World→Prop}
def wpSchedH0 (P:Program) (ops:Array Oper) (C:World→Prop) (Q:Exit→Act→World→Prop):List (Nat×Bool)→Act→World→Prop
 | [],a,w=>Q .normal a w
 | (i,true)::r,a,w=>match ops[i]? with
   | none=>False
   | some o=>if Region.wanted o (yielded ops a.tmps) then o.quiet P a C (fun a'=>wpSchedH0 P ops C Q r a' w) else wpSchedH0 P ops C Q r (a.put o.dst undef) w
 | (i,false)::r,a,w=>match ops[i]? with
   | none=>False
   | some o=>if Region.wanted o (yielded ops a.tmps) then o.wp P a w (fun a' w'=>C w'∧wpSchedH0 P ops C Q r a' w') Q else wpSchedH0 P ops C Q r (a.put o.dst undef) w
def schedBH (ops:Array Oper):List (Nat×Bool)→Array Bool→Bool
 | [],listed=>(Region.ready .any ops listed).isEmpty
 | (i,true)::r,listed=>((ops[i]?).map valOnly).getD false&&Region.free .any ops listed i&&(Region.ready .any ops listed).contains i&&schedBH ops r (listed.setIfInBounds i true)
 | (i,false)::r,listed=>(Region.ready .any ops listed==[i])&&schedBH ops r (listed.setIfInBounds i true)
theorem held_of_sched (hs:Region.noSelect ops=true):∀ (l:List (Nat×Bool)) (fuel:Nat) (listed:Array Bool) (a:Act) (w:World),l.length≤fuel→C w→schedBH ops l listed=true →
  wpSchedH0 P ops C (NoP Q) l a w→wpAnyH P .any ops (NoP Q) C fuel listed a w
 | [],fuel,listed,a,w,_,_,hb,h=>wpAnyH_done (by simpa [schedBH] using hb) h fuel
 | (i,true)::r,0,listed,a,w,hf,_,_,_=>by simp at hf
 | (i,false)::r,0,listed,a,w,hf,_,_,_=>by simp at hf
 | (i,true)::r,fuel+1,listed,a,w,hf,hC,hb,h=>by
   simp only [schedBH,Bool.and_eq_true] at hb
   obtain ⟨⟨⟨h1,h2⟩,h3⟩,h4⟩:=hb
   simp only [wpSchedH0] at h
   cases ho:ops[i]? with
   | none=>simp [ho] at h1
   | some o =>
     simp only [ho,Option.map_some,Option.getD_some] at h1
     simp only [ho] at h
     have hlen:r.length≤fuel:=by simp at hf; omega
     by_cases hw:Region.wanted o (yielded ops a.tmps)=true
     ·rw [if_pos hw] at h
      obtain ⟨v,hv,hn⟩:=h
      exact wpAnyH_take ho hs h2 h3 (fun c a w hh=>hh.elim) (yieldsIf_of_quiet h1 hw hv) hC (held_of_sched hs r fuel _ _ w hlen hC h4 hn)
     ·rw [if_neg hw] at h
      exact wpAnyH_take (v:=undef) ho hs h2 h3 (fun c a w hh=>hh.elim) (.inr ⟨by simpa using hw,rfl⟩) hC (held_of_sched hs r fuel _ _ w hlen hC h4 h)
 | (i,false)::r,fuel+1,listed,a,w,hf,hC,hb,h=>by
   simp only [schedBH,Bool.and_eq_true,beq_iff_eq] at hb
   obtain ⟨h1,h4⟩:=hb
   simp only [wpSchedH0] at h
   have hlen:r.length≤fuel:=by simp at hf; omega
   refine wpAnyH_all h1 (by simp) fun j hj=>?_
   obtain rfl:j=i:=by simpa using hj
   unfold wpOp
   cases ho:ops[j]? with
   | none=>simp [ho] at h
   | some o =>
     simp only [ho] at h
     show if _ then _ else _
     by_cases hw:Region.wanted o (yielded ops a.tmps)=true
     ·rw [if_pos hw] at h ⊢
      exact .inl (Oper.wp_mono (fun a' w' ⟨hc,hh⟩=>⟨hc,held_of_sched hs r fuel _ a' w' hlen hc h4 hh⟩) h)
     ·rw [if_neg hw] at h ⊢
      exact ⟨hC,held_of_sched hs r fuel _ _ w hlen hC h4 h⟩
def schedOkH (ops:Array Oper) (σ:List (Nat×Bool)):Bool:=Region.noSelect ops&&decide (σ.length≤ops.size)&&schedBH ops σ (Array.replicate ops.size false)
structure wpSchedH (P:Program) (ops:Array Oper) (C:World→Prop) (Q:Exit→Act→World→Prop) (l:List (Nat×Bool)) (a:Act) (w:World):Prop where
 go:wpSchedH0 P ops C Q l a w
theorem wp_region_schedH {id:Nat} {a:Act} {W:World} (σ:List (Nat×Bool)) (hm:P.follows .mixedOrders=true) (hs:schedOkH ops σ=true) (hC:C W.drew)
  (h:wpSchedH P ops C (NoP Q) σ a W.drew):(Code.region id ops true).wp P Q a W:=by
 simp only [schedOkH,Bool.and_eq_true,decide_eq_true_eq] at hs
 obtain ⟨⟨h1,h2⟩,h3⟩:=hs
 exact wp_mono (wp_region_held hm (held_of_sched h1 σ _ _ a _ h2 hC h3 h.go)) NoP_imp
theorem schedH_q {l rest:List Oper} {i:Nat} {r:List (Nat×Bool)} {a:Act} {w:World} {o:Oper} (hi:l.drop i=o::rest) (hw:Region.wanted o (yielded l.toArray a.tmps)=true) (h:∀ K:Act→Prop,(∀ a',wpSchedH P l.toArray C Q r a' w→K a')→o.quiet P a C K):wpSchedH P l.toArray C Q ((i,true)::r) a w:=by
 have hi:=getElem?_of_drop hi
 refine ⟨?_⟩
 simp only [wpSchedH0,hi,hw,if_true]
 obtain ⟨v,h1,h2⟩:=h (fun a'=>wpSchedH P l.toArray C Q r a' w) fun _ h=>h
 exact ⟨v,h1,h2.go⟩
theorem schedH_s {l rest:List Oper} {i:Nat} {b:Bool} {r:List (Nat×Bool)} {a:Act} {w:World} {o:Oper} (hi:l.drop i=o::rest) (hw:Region.wanted o (yielded l.toArray a.tmps)=false) (h:wpSchedH P l.toArray C Q r (a.put o.dst undef) w):wpSchedH P l.toArray C Q ((i,b)::r) a w:=by
 have hi:=getElem?_of_drop hi
 refine ⟨?_⟩
 have h:=h.go
 cases b <;> (simp only [wpSchedH0,hi,hw]; exact h)
theorem schedH_c {l rest:List Oper} {i:Nat} {r:List (Nat×Bool)} {a:Act} {w:World} {o:Oper} (hi:l.drop i=o::rest) (hw:Region.wanted o (yielded l.toArray a.tmps)=true) (h:∀ K:Act→World→Prop,(∀ a' w',C w'∧wpSchedH P l.toArray C (NoP Q) r a' w'→K a' w')→wpList P l.toArray (NoP (Exit.then K Q)) [o] a w):wpSchedH P l.toArray C (NoP Q) ((i,false)::r) a w:=by
 have hi:=getElem?_of_drop hi
 refine ⟨?_⟩
 simp only [wpSchedH0,hi,hw,if_true]
 have h1:=h (fun a' w'=>C w'∧wpSchedH0 P l.toArray C (NoP Q) r a' w') fun _ _ h=>⟨h.1,h.2.go⟩
 simp only [wpList,hw,if_true] at h1
 rcases h1 with h1 | ⟨_,a',w',h2⟩
 ·unfold Oper.wp at h1 ⊢
  generalize (execOp a.eval o).run P w=q at *
  cases q with
  | ok x w' =>
    cases x <;> simp only [Oper.upon] at h1 ⊢
    case value v=>exact h1
    case skip=>exact h1
    case defer d=>exact h1
    case enter f args =>
     refine h1.mono fun e w'' hh=>?_
     cases e with
     | returned v=>exact hh
     | panicked ch=>exact hh.elim
     | outgrown=>obtain ⟨a,w,hh⟩:=hh; exact hh.elim
    case row row args=>exact h1
  | halt x w'=>cases x <;> simp only [Oper.upon] at h1 ⊢ <;> first | exact h1 | exact h1.elim
 ·exact h2.elim
theorem schedH_nil {a:Act} {w:World} (h:Q .normal a w):wpSchedH P ops C (NoP Q) [] a w:=⟨h⟩
end
end Go.Proofs.YtibmeigdjghkcaaGreat
namespace Go.Proofs.YtibmeigdjghkcaaGreat
open Go.RowKit
set_option linter.unusedVariables false
section
variable {m:Nat} {P:Program} {ops:Array Oper} {Q:Exit→Act→World→Prop} {C:World→Prop}
def waitB (ops:Array Oper) (z i:Nat):Bool :=
 match ops[z]? with
 | none=>false
 | some oz=>oz.after.any fun e=>Region.binds .any e&&e.on==i
theorem waitB_spec {z i:Nat} (h:waitB ops z i=true):∀ oz,ops[z]? = some oz→∃ e∈oz.after,Region.binds .any e=true∧e.on=i:=by
 intro oz hoz
 unfold waitB at h
 simp only [hoz] at h
 obtain ⟨k,hk,h2,h3⟩:∃ k,∃ h:k < oz.after.size,Region.binds .any oz.after[k]=true∧oz.after[k].on=i:=by simpa using h
 exact ⟨_,Array.getElem_mem hk,h2,h3⟩
def schedW (ops:Array Oper) (z:Nat):List (Nat×Bool)→Array Bool→Bool
 | [],listed=>(Region.ready .any ops listed).isEmpty
 | (i,true)::r,listed=>((ops[i]?).map valOnly).getD false&&Region.free .any ops listed i&&(Region.ready .any ops listed).contains i&&waitB ops z i&&schedW ops z r (listed.setIfInBounds i true)
 | (i,false)::r,listed=>(Region.ready .any ops listed==[i])&&(!r.isEmpty||i==z)&&schedW ops z r (listed.setIfInBounds i true)
theorem AnyZ.takeW {z i:Nat} {oi:Oper} {v:Value} (hi:ops[i]? = some oi) (hwait:∀ oz,ops[z]? = some oz→∃ e∈oz.after,Region.binds .any e=true∧e.on=i) (hsel:Region.noSelect ops=true) (hQ:∀ c a w,Q (.panic c) (a.put oi.dst v) w→Q (.panic c) a w) :
  ∀ (n:Nat) (listed:Array Bool) (a:Act) (w:World),Region.free .any ops listed i=true→i∈Region.ready .any ops listed→YieldsIf P ops C oi v a→C w →
   AnyZ P ops Q C z n (listed.setIfInBounds i true) (a.put oi.dst v) w→AnyZ P ops Q C z (n+1) listed a w:=by
 have hs:=Region.noSelect_spec hsel
 have main:∀ (n:Nat) (listed:Array Bool) (a:Act) (w:World),
   (∀ j oj,ops[j]? = some oj→j≠i→listed.getD j true=false→(∀ e∈oj.after,Region.binds .any e=true→e.on≠i)→oi.apart ops oj=true) →
   i∈Region.ready .any ops listed→YieldsIf P ops C oi v a→C w →
   AnyZ P ops Q C z n (listed.setIfInBounds i true) (a.put oi.dst v) w→AnyZ P ops Q C z (n+1) listed a w:=by
  intro n
  induction n with
  | zero =>
    intro listed a w _ hr hy hS H
    refine ⟨fun h=>(by rw [h] at hr; cases hr),fun j hj=>?_⟩
    by_cases hji:j=i
    ·subst hji; exact hy.wpOp hi hS ⟨.inr hS,H⟩
    ·have h1:=ready_mono hj hji
     rw [H.1] at h1
     cases h1
  | succ n ih =>
    intro listed a w hfree hr hy hS H
    refine ⟨fun h=>(by rw [h] at hr; cases hr),fun j hj=>?_⟩
    by_cases hji:j=i
    ·subst hji; exact hy.wpOp hi hS ⟨.inr hS,H⟩
    ·have h1:=H.2 j (ready_mono hj hji)
     obtain ⟨hjun,oj,hoj,hall⟩:=mem_ready.1 hj
     have hnot:∀ e∈oj.after,Region.binds .any e=true→e.on≠i:=fun e he hb heq=>by
      have h1:=hall e he hb
      have h0:=(mem_ready.1 hr).1
      rw [heq] at h1
      rcases Nat.lt_or_ge i listed.size with h' | h'
      ·simp [h'] at h0 h1; rw [h0] at h1; cases h1
      ·simp [Array.getElem?_eq_none h'] at h1
     have hjz:j≠z:=by
      rintro rfl
      obtain ⟨e,he,hb,hon⟩:=hwait oj hoj
      exact hnot e he hb hon
     have h2:=wpOp_putIf hoj (hfree j oj hoj hji hjun hnot) (fun cs b=>hs i oi cs b hi) (fun cs b=>hs j oj cs b hoj) hQ hy h1
     have hfree':∀ k ok,ops[k]? = some ok→k≠i→(listed.setIfInBounds j true).getD k true=false →
       (∀ e∈ok.after,Region.binds .any e=true→e.on≠i)→oi.apart ops ok=true:=fun k ok hk hki hun hno=>by
      refine hfree k ok hk hki ?_ hno
      by_cases hjk:j=k
      ·subst hjk; exact hjun
      ·rw [getD_set_ne true hjk] at hun; exact hun
     refine wpOp_mono (fun a' w' h3=>?_) h2
     have hS':=h3.2.1.resolve_left hjz
     refine ⟨.inr hS',ih (listed.setIfInBounds j true) a' w' hfree' (ready_mono hr (Ne.symm hji)) h3.1 hS' ?_⟩
     rw [Array.setIfInBounds_comm _ _ hji]
     exact h3.2.2
 intro n listed a w hf
 exact main n listed a w (Region.free_spec hi hf)
theorem AnyZ.of_schedW {z:Nat} (hs:Region.noSelect ops=true):∀ (l:List (Nat×Bool)) (fuel:Nat) (listed:Array Bool) (a:Act) (w:World),l.length≤fuel→(l=[]∨C w)→schedW ops z l listed=true →
  wpSched P ops C (NoP Q) l a w→AnyZ P ops (NoP Q) C z fuel listed a w
 | [],fuel,listed,a,w,_,_,hb,h=>by
   simp only [schedW,List.isEmpty_iff] at hb
   cases fuel with
   | zero=>exact ⟨hb,h⟩
   | succ n=>exact ⟨fun _=>h,by rw [hb]; simp⟩
 | (i,true)::r,0,listed,a,w,hf,_,_,_=>by simp at hf
 | (i,false)::r,0,listed,a,w,hf,_,_,_=>by simp at hf
 | (i,true)::r,fuel+1,listed,a,w,hf,hC,hb,h=>by
   have hC:=hC.resolve_left (by simp)
   simp only [schedW,Bool.and_eq_true] at hb
   obtain ⟨⟨⟨⟨h1,h2⟩,h3⟩,h5⟩,h4⟩:=hb
   have h3:i∈Region.ready .any ops listed:=by simpa using h3
   simp only [wpSched] at h
   cases ho:ops[i]? with
   | none=>simp [ho] at h1
   | some o =>
     simp only [ho,Option.map_some,Option.getD_some] at h1
     simp only [ho] at h
     have hlen:r.length≤fuel:=by simp at hf; omega
     by_cases hw:Region.wanted o (yielded ops a.tmps)=true
     ·rw [if_pos hw] at h
      obtain ⟨v,hv,hn⟩:=h
      exact AnyZ.takeW ho (waitB_spec h5) hs (fun c a w hh=>hh.elim) fuel listed a w h2 h3 (yieldsIf_of_quiet h1 hw hv) hC (AnyZ.of_schedW hs r fuel _ _ w hlen (.inr hC) h4 hn)
     ·rw [if_neg hw] at h
      exact AnyZ.takeW (v:=undef) ho (waitB_spec h5) hs (fun c a w hh=>hh.elim) fuel listed a w h2 h3 (.inr ⟨by simpa using hw,rfl⟩) hC (AnyZ.of_schedW hs r fuel _ _ w hlen (.inr hC) h4 h)
 | (i,false)::r,fuel+1,listed,a,w,hf,hC,hb,h=>by
   have hCw:C w:=by
    rcases hC with h | h
    ·cases h
    ·exact h
   clear hC
   simp only [schedW,Bool.and_eq_true,beq_iff_eq] at hb
   obtain ⟨⟨h1,h5⟩,h4⟩:=hb
   simp only [wpSched] at h
   have hlen:r.length≤fuel:=by simp at hf; omega
   refine ⟨fun h0=>(by rw [h1] at h0; cases h0),fun j hj=>?_⟩
   rw [h1] at hj
   obtain rfl:j=i:=by simpa using hj
   have hlast:r=[]→j=z:=by
    intro hr
    simpa [hr] using h5
   unfold wpOp
   cases ho:ops[j]? with
   | none=>simp [ho] at h
   | some o =>
     simp only [ho] at h
     show if _ then _ else _
     by_cases hw:Region.wanted o (yielded ops a.tmps)=true
     ·rw [if_pos hw] at h ⊢
      exact .inl (Oper.wp_mono (fun a' w' ⟨hc,hh⟩=>⟨hc.imp hlast id,AnyZ.of_schedW hs r fuel _ a' w' hlen hc h4 hh⟩) h)
     ·rw [if_neg hw] at h ⊢
      exact ⟨.inr hCw,AnyZ.of_schedW hs r fuel _ _ w hlen (.inr hCw) h4 h⟩
def schedOkW (ops:Array Oper) (σ:List (Nat×Bool)):Bool:=Region.noSelect ops&&decide (σ.length≤ops.size)&&!σ.isEmpty&&schedW ops ((σ.getLast?.map (·.1)).getD 0) σ (Array.replicate ops.size false)
theorem any_of_schedW {a:Act} {W:World} (σ:List (Nat×Bool)) (hs:schedOkW ops σ=true) (hC:C W.drew) (h:wpSched P ops C (NoP Q) σ a W.drew):wpAny P .any ops (NoP Q) ops.size (Array.replicate ops.size false) a W.drew:=by
 simp only [schedOkW,Bool.and_eq_true,decide_eq_true_eq] at hs
 obtain ⟨⟨⟨h1,h2⟩,h3⟩,h5⟩:=hs
 exact AnyZ.any _ _ _ _ (AnyZ.of_schedW h1 σ _ _ a _ h2 (.inr hC) h5 h)
theorem wp_region_schedW {id:Nat} {a:Act} {W:World} (σ:List (Nat×Bool)) (hm:P.follows .mixedOrders=true) (hs:schedOkW ops σ=true) (hC:C W.drew)
  (h:wpSched P ops C (NoP Q) σ a W.drew):(Code.region id ops true).wp P Q a W :=
 wp_mono (wp_region_any hm (any_of_schedW σ hs hC h)) NoP_imp
end
end Go.Proofs.YtibmeigdjghkcaaGreat
namespace Go.Proofs.YtibmeigdjghkcaaGreat
open Go.RowKit
set_option linter.unusedVariables false
section
variable {P:Program} {ops:Array Oper} {Q:Exit→Act→World→Prop} {C:World→Prop} {md:Region.Mode}
def backB (md:Region.Mode) (ops:Array Oper) (n:Nat):Bool :=
 (List.range n).all fun i=>match ops[i]? with
  | none=>false
  | some o=>(o.after.all fun e=>!Region.binds md e||decide (e.on < i))&&match o.guard with
    | none=>true
    | some (j,_)=>decide (j < n)
def headL (m n:Nat):Array Bool:=(Array.range m).map fun i=>decide (i < n)
def tailOk (ops:Array Oper) (n:Nat):Bool :=
 decide (n < ops.size)&&Region.sinkB .any ops n&&Region.chainB .any ops n&&backB .any ops n&&Region.noSelect (ops.take n)&&Region.lexFrom .any (ops.take n) n 0 (Array.replicate ops.size false)&&Region.seqB .any ops (ops.size-n) n (headL ops.size n)
theorem wpAny_more {Q':Exit→Act→World→Prop}:∀ (f:Nat) (listed:Array Bool) (a:Act) (w:World),wpAny P md ops Q' f listed a w→wpAny P md ops Q' (f+1) listed a w
 | 0,listed,a,w,h=>⟨fun _=>h.2,by rw [h.1]; simp⟩
 | f+1,listed,a,w,h=>⟨h.1,fun i hi=>wpOp_mono (fun a' w' h'=>wpAny_more f _ a' w' h') (h.2 i hi)⟩
theorem wpAny_plus {Q':Exit→Act→World→Prop} {g:Nat} {listed:Array Bool} {a:Act} {w:World} (h:wpAny P md ops Q' g listed a w):∀ f,wpAny P md ops Q' (f+g) listed a w
 | 0=>by rw [Nat.zero_add]; exact h
 | f+1=>by rw [show f+1+g=(f+g)+1 by omega]; exact wpAny_more _ _ _ _ (wpAny_plus h f)
theorem take_get {n i:Nat} (h:i < n):(ops.take n)[i]? = ops[i]? := by
 simp only [Array.take_eq_extract,Array.getElem?_extract]
 split
 ·simp
 ·symm; apply Array.getElem?_eq_none; omega
theorem take_none {n i:Nat} (h:n≤i):(ops.take n)[i]? = none:=by
 simp only [Array.take_eq_extract,Array.getElem?_extract]
 rw [if_neg (by omega)]
theorem ready_take {n i:Nat} {listed:Array Bool}:i∈Region.ready md (ops.take n) listed↔i < n∧i∈Region.ready md ops listed:=by
 rw [mem_ready,mem_ready]
 constructor
 ·rintro ⟨h1,o,h2,h3⟩
  have hi:i < n:=by
   rcases Nat.lt_or_ge i n with h | h
   ·exact h
   ·rw [take_none h] at h2; cases h2
  rw [take_get hi] at h2
  exact ⟨hi,h1,o,h2,h3⟩
 ·rintro ⟨hi,h1,o,h2,h3⟩
  exact ⟨h1,o,by rw [take_get hi]; exact h2,h3⟩
theorem backB_spec {n i:Nat} {o:Oper} (h:backB md ops n=true) (hi:i < n) (ho:ops[i]? = some o):(∀ e∈o.after,Region.binds md e=true→e.on < i)∧∀ j b,o.guard=some (j,b)→j < n:=by
 have h1:=List.all_eq_true.1 h i (List.mem_range.2 hi)
 simp only [ho,Bool.and_eq_true] at h1
 refine ⟨fun e he hb=>?_,fun j b hg=>?_⟩
 ·have:=Array.all_eq_true_iff_forall_mem.1 h1.1 e he
  simpa [hb] using this
 ·have:=h1.2
  rw [hg] at this
  simpa using this
theorem qOp_take {n i:Nat} {K:Act→Prop} {a:Act} (hb:backB md ops n=true) (hi:i < n) (h:qOp P (ops.take n) C i K a):qOp P ops C i K a:=by
 unfold qOp at h ⊢
 rw [take_get hi] at h
 cases ho:ops[i]? with
 | none=>simpa [ho] using h
 | some o =>
   simp only [ho] at h ⊢
   have hw:Region.wanted o (yielded (ops.take n) a.tmps)=Region.wanted o (yielded ops a.tmps):=by
    unfold Region.wanted
    cases hg:o.guard with
    | none=>rfl
    | some p =>
      obtain ⟨j,b⟩:=p
      have hj:=(backB_spec hb hi ho).2 j b hg
      simp only [yielded,take_get hj]
   rw [hw] at h
   exact h
theorem head_done {n:Nat} {listed:Array Bool} (hb:backB md ops n=true) (hn:n < ops.size) (inv:HeadInv md ops n listed) (h:Region.ready md (ops.take n) listed=[]):∀ i,i < n→listed.getD i true=true:=by
 intro i
 induction i using Nat.strongRecOn with
 | _ i ih =>
   intro hi
   cases hl:listed.getD i true with
   | true=>rfl
   | false =>
     exfalso
     obtain ⟨o,ho⟩:∃ o,ops[i]? = some o:=⟨ops[i]'(by omega),Array.getElem?_eq_getElem (by omega)⟩
     have hr:i∈Region.ready md (ops.take n) listed:=by
      rw [ready_take,mem_ready]
      refine ⟨hi,hl,o,ho,fun e he hbe=>?_⟩
      have h1:=(backB_spec hb hi ho).1 e he hbe
      have h2:=ih e.on h1 (by omega)
      have hs:e.on < listed.size:=by rw [inv.size]; omega
      simp [hs] at h2 ⊢
      exact h2
     rw [h] at hr
     cases hr
theorem listed_eq {n:Nat} {listed:Array Bool} (hn:n < ops.size) (inv:HeadInv md ops n listed) (h:∀ i,i < n→listed.getD i true=true):listed=headL ops.size n:=by
 apply Array.ext
 ·simp [headL,inv.size]
 ·intro i h1 h2
  have hs:i < ops.size:=by rw [← inv.size]; exact h1
  have e:(headL ops.size n)[i]=decide (i < n):=by simp [headL]
  rw [e]
  by_cases hi:i < n
  ·have:=h i hi
   simp [h1] at this
   simp [this,hi]
  ·have:=inv.tail i (by omega) hs
   simp [h1] at this
   simp [this,hi]
theorem any_tail {n:Nat} {Q':Exit→Act→World→Prop} {Lq:Act→World→Prop} (hs:Region.sinkB md ops n=true) (hc:Region.chainB md ops n=true) (hb:backB md ops n=true) (hn:n < ops.size) {g:Nat}
  (hL:∀ a w,C w→Lq a w→wpAny P md ops Q' g (headL ops.size n) a w):∀ (f:Nat) (listed:Array Bool) (a:Act) (w:World),HeadInv md ops n listed→C w →
  wpAnyQ P md (ops.take n) C (fun a'=>∀ w',C w'→Lq a' w') f listed a→wpAny P md ops Q' (f+g) listed a w:=by
 have hfin:∀ (f:Nat) (listed:Array Bool) (a:Act) (w:World),HeadInv md ops n listed→C w→Region.ready md (ops.take n) listed=[]→(∀ w',C w'→Lq a w')→wpAny P md ops Q' (f+g) listed a w:=by
  intro f listed a w inv hC hr hq
  rw [listed_eq hn inv (head_done hb hn inv hr)]
  exact wpAny_plus (hL a w hC (hq w hC)) f
 intro f
 induction f with
 | zero =>
   intro listed a w inv hC h
   exact hfin 0 listed a w inv hC h.1 h.2
 | succ f ih =>
   intro listed a w inv hC h
   by_cases hr:Region.ready md (ops.take n) listed=[]
   ·exact hfin (f+1) listed a w inv hC hr (h.1 hr)
   ·obtain ⟨i0,hi0⟩:=List.exists_mem_of_ne_nil _ hr
    obtain ⟨hi0n,hi0r⟩:=ready_take.1 hi0
    have hun:=(mem_ready.1 hi0r).1
    rw [show f+1+g=(f+g)+1 by omega]
    refine ⟨fun h0=>(by rw [h0] at hi0r; cases hi0r),fun j hj=>?_⟩
    have hjn:j < n:=by
     rcases Nat.lt_or_ge j n with h' | h'
     ·exact h'
     ·exact absurd hj (tail_waits hs hc hn inv _ i0 rfl hi0n hun j h')
    have hq:=h.2 j (ready_take.2 ⟨hjn,hj⟩)
    exact wpOp_of_qOp hC (fun a' w' hw' hh=>ih _ a' w' (inv.set hj hjn) hw' hh) (qOp_take hb hjn hq)
theorem any_of_tailOk {Q':Exit→Act→World→Prop} {l:List Oper} {n:Nat} {a:Act} {W:World} (hB:tailOk l.toArray n=true) (hC:C W.drew)
  (h:wpQuiet P (l.take n).toArray C (fun a'=>∀ w',C w'→wpList P l.toArray Q' (l.drop n) a' w') (l.take n) a):wpAny P .any l.toArray Q' l.toArray.size (Array.replicate l.toArray.size false) a W.drew:=by
 simp only [tailOk,Bool.and_eq_true,decide_eq_true_eq] at hB
 obtain ⟨⟨⟨⟨⟨⟨hn,hs⟩,hc⟩,hb⟩,hsel⟩,hlex⟩,hseq⟩:=hB
 have hn':n < l.length:=by simpa using hn
 have htk:l.toArray.take n=(l.take n).toArray:=by simp
 have htl:(l.take n).length=n:=by simp; omega
 have inv0:HeadInv .any l.toArray n (Array.replicate l.toArray.size false) :=
  ⟨by simp,fun j oj _ hl=>(by rw [getD_replicate_false] at hl; cases hl),fun t _ ht=>getD_in (by simpa using ht) (getD_replicate_false _ _)⟩
 rw [htk] at hsel hlex
 have hq:=wpAnyQ_lex (C:=C) (md := .any) hsel (l.take n) 0 (Array.replicate l.toArray.size false) a (by simp) (by rw [htl]; exact hlex) h
 rw [htl] at hq
 have:=any_tail (P:=P) (Q':=Q') (Lq:=fun a' w'=>wpList P l.toArray Q' (l.drop n) a' w') hs hc hb hn (g:=l.toArray.size-n) (fun a w _ hl=>by
  have:=wpAny_of_seq (md := .any) (ops:=l.toArray) (Q':=Q') (l.drop n) n (headL l.toArray.size n) a w (fun j=>by simp [List.getElem?_drop]) (by rw [show (l.drop n).length=l.toArray.size-n by simp]; exact hseq) hl
  rwa [show (l.drop n).length=l.toArray.size-n by simp] at this) n _ a W.drew inv0 hC (by rw [htk]; exact hq)
 rwa [show n+(l.toArray.size-n)=l.toArray.size by omega] at this
theorem wp_region_tail {id:Nat} {a:Act} {W:World} {l:List Oper} (n:Nat) (hm:P.follows .mixedOrders=true) (hB:tailOk l.toArray n=true) (hC:C W.drew)
  (h:wpQuiet P (l.take n).toArray C (fun a'=>∀ w',C w'→wpList P l.toArray Q (l.drop n) a' w') (l.take n) a):(Code.region id l.toArray true).wp P Q a W :=
 wp_region_any hm (any_of_tailOk hB hC h)
theorem NoP_then (Q:Exit→Act→World→Prop):NoP (Exit.then (Q .normal) Q)=NoP Q:=by
 funext e a w
 cases e <;> rfl
theorem wpQuiet_weak {R R':Act→Prop} (h:∀ a,R a→R' a):∀ (l:List Oper) (a:Act),wpQuiet P ops C R l a→wpQuiet P ops C R' l a
 | [],a,hh=>h a hh
 | o::l,a,hh=>by
   simp only [wpQuiet] at hh ⊢
   split
   ·rename_i hw
    rw [if_pos hw] at hh
    exact Oper.quiet_mono (fun a'=>wpQuiet_weak h l a') hh
   ·rename_i hw
    rw [if_neg hw] at hh
    exact wpQuiet_weak h l _ hh
theorem wpIn_region_tail {id r m:Nat} {a:Act} {W:World} {l:List Oper} (n:Nat) (hm:P.follows .mixedOrders=true) (hB:tailOk l.toArray n=true) (hnd:noDefer l.toArray=true) (hC:C W.drew)
  (h:wpQuiet P (l.take n).toArray C (fun a'=>∀ w',C w'→∀ K:Act→World→Prop,(∀ a w,Q .normal a w→K a w)→wpList P l.toArray (NoP (Exit.then K Q)) (l.drop n) a' w') (l.take n) a):(Code.region id l.toArray true).wpIn (Fence.wide.inRound r) m P Q a W:=by
 refine wpIn_mono (wpIn_region_any hm (wpAnyIn_of_wpAny hnd _ _ _ _ (any_of_tailOk (Q':=NoP Q) hB hC ?_))) NoP_imp
 refine wpQuiet_weak (fun a' hh w' hw'=>?_) _ _ h
 have:=hh w' hw' (Q .normal) fun _ _ h=>h
 rwa [NoP_then] at this
end
end Go.Proofs.YtibmeigdjghkcaaGreat
namespace Go.Proofs.YtibmeigdjghkcaaGreat
open Go.RowKit
set_option linter.unusedVariables false
section
variable {m:Nat} {P:Program} {ops:Array Oper} {Q:Exit→Act→World→Prop} {C:World→Prop} {md:Region.Mode}
theorem wideOp_of_qOp {i:Nat} {a:Act} {K:Act→Prop} {K':Act→World→Prop} {Q':Exit→Act→World→Prop} {w:World} (hC:C w) (h:∀ a w',C w'→K a→K' a w') (hh:qOp P ops C i K a):wpOpIn Fence.wide m P ops Q' i K' a w:=by
 unfold qOp at hh
 unfold wpOpIn
 split
 ·rename_i ho; simp only [ho] at hh; exact h _ _ hC hh
 ·rename_i o ho
  simp only [ho] at hh
  split
  ·rename_i hw
   simp only [hw,if_true] at hh
   obtain ⟨v,h1,h2⟩:=hh
   have h3:=h1 w hC
   unfold Oper.quietAt at h3
   unfold Oper.wpIn
   refine ⟨fun _ _=>trivial,?_⟩
   rw [show Fence.wide.round=none from rfl,Oper.semAt_none]
   generalize (execOp a.eval o).run P w=r at *
   cases r with
   | ok n w' =>
     cases n <;> simp only [Oper.quietUpon] at h3 <;> simp only [Oper.uponIn]
     case value u =>
      obtain ⟨e1,e2⟩:=h3
      rw [e1,e2]
      exact h _ _ hC h2
     case skip =>
      obtain ⟨e1,e2⟩:=h3
      rw [e1,← e2]
      exact h _ _ hC h2
     case enter f args =>
      obtain ⟨e1,hc⟩:=h3
      rw [e1]
      exact ⟨fun hh=>by simp [Fence.wide] at hh,callsIn_wide.2 (hc.mono fun e w'' ⟨he,hw''⟩=>by subst he; exact h _ _ hw'' h2)⟩
   | halt x w'=>simp only [Oper.quietUpon] at h3
  ·rename_i hw; simp only [hw] at hh; exact ⟨fun _ _=>trivial,h _ _ hC hh⟩
theorem wideAny_more {Q':Exit→Act→World→Prop}:∀ (f:Nat) (listed:Array Bool) (a:Act) (w:World),wpAnyIn Fence.wide m P md ops Q' f listed a w→wpAnyIn Fence.wide m P md ops Q' (f+1) listed a w
 | 0,listed,a,w,h=>⟨fun _=>h.2,by rw [h.1]; simp⟩
 | f+1,listed,a,w,h=>⟨h.1,fun i hi=>wpOpIn_mono (fun a' w' h'=>wideAny_more f _ a' w' h') (h.2 i hi)⟩
theorem wideAny_plus {Q':Exit→Act→World→Prop} {g:Nat} {listed:Array Bool} {a:Act} {w:World} (h:wpAnyIn Fence.wide m P md ops Q' g listed a w):∀ f,wpAnyIn Fence.wide m P md ops Q' (f+g) listed a w
 | 0=>by rw [Nat.zero_add]; exact h
 | f+1=>by rw [show f+1+g=(f+g)+1 by omega]; exact wideAny_more _ _ _ _ (wideAny_plus h f)
theorem wideAny_of_seq {Q':Exit→Act→World→Prop}:∀ (l:List Oper) (k:Nat) (listed:Array Bool) (a:Act) (w:World),(∀ j,l[j]? = ops[k+j]?) →
  Region.seqB md ops l.length k listed=true→wpListIn Fence.wide m P ops Q' l a w→wpAnyIn Fence.wide m P md ops Q' l.length listed a w
 | [],_,_,_,_,_,hB,h=>⟨by simpa [Region.seqB] using hB,h⟩
 | o::l,k,listed,a,w,hl,hB,h=>by
   have h0:ops[k]? = some o:=by simpa using (hl 0).symm
   simp only [List.length_cons,Region.seqB,Bool.and_eq_true,decide_eq_true_eq] at hB
   refine ⟨fun h1=>(by rw [hB.1] at h1; cases h1),fun i hi=>?_⟩
   rw [hB.1] at hi
   have hik:i=k:=by simpa using hi
   subst hik
   have hw:wpOpIn Fence.wide m P ops Q' i (wpListIn Fence.wide m P ops Q' l) a w:=by unfold wpOpIn; simp only [h0]; exact h
   exact wpOpIn_mono (fun a' w' h'=>wideAny_of_seq l (i+1) _ a' w' (fun j=>by have:=hl (j+1); simpa [Nat.add_assoc,Nat.add_comm 1 j] using this) hB.2 h') hw
theorem wide_tail {n:Nat} {Q':Exit→Act→World→Prop} {Lq:Act→World→Prop} (hs:Region.sinkB md ops n=true) (hc:Region.chainB md ops n=true) (hb:backB md ops n=true) (hn:n < ops.size) {g:Nat}
  (hL:∀ a w,C w→Lq a w→wpAnyIn Fence.wide m P md ops Q' g (headL ops.size n) a w):∀ (f:Nat) (listed:Array Bool) (a:Act) (w:World),HeadInv md ops n listed→C w →
  wpAnyQ P md (ops.take n) C (fun a'=>∀ w',C w'→Lq a' w') f listed a→wpAnyIn Fence.wide m P md ops Q' (f+g) listed a w:=by
 have hfin:∀ (f:Nat) (listed:Array Bool) (a:Act) (w:World),HeadInv md ops n listed→C w→Region.ready md (ops.take n) listed=[]→(∀ w',C w'→Lq a w')→wpAnyIn Fence.wide m P md ops Q' (f+g) listed a w:=by
  intro f listed a w inv hC hr hq
  rw [listed_eq hn inv (head_done hb hn inv hr)]
  exact wideAny_plus (hL a w hC (hq w hC)) f
 intro f
 induction f with
 | zero =>
   intro listed a w inv hC h
   exact hfin 0 listed a w inv hC h.1 h.2
 | succ f ih =>
   intro listed a w inv hC h
   by_cases hr:Region.ready md (ops.take n) listed=[]
   ·exact hfin (f+1) listed a w inv hC hr (h.1 hr)
   ·obtain ⟨i0,hi0⟩:=List.exists_mem_of_ne_nil _ hr
    obtain ⟨hi0n,hi0r⟩:=ready_take.1 hi0
    have hun:=(mem_ready.1 hi0r).1
    rw [show f+1+g=(f+g)+1 by omega]
    refine ⟨fun h0=>(by rw [h0] at hi0r; cases hi0r),fun j hj=>?_⟩
    have hjn:j < n:=by
     rcases Nat.lt_or_ge j n with h' | h'
     ·exact h'
     ·exact absurd hj (tail_waits hs hc hn inv _ i0 rfl hi0n hun j h')
    have hq:=h.2 j (ready_take.2 ⟨hjn,hj⟩)
    exact wideOp_of_qOp hC (fun a' w' hw' hh=>ih _ a' w' (inv.set hj hjn) hw' hh) (qOp_take hb hjn hq)
theorem wide_of_tailOk {Q':Exit→Act→World→Prop} {l:List Oper} {n:Nat} {a:Act} {W:World} (hB:tailOk l.toArray n=true) (hC:C W.drew)
  (h:wpQuiet P (l.take n).toArray C (fun a'=>∀ w',C w'→wpListIn Fence.wide m P l.toArray Q' (l.drop n) a' w') (l.take n) a):wpAnyIn Fence.wide m P .any l.toArray Q' l.toArray.size (Array.replicate l.toArray.size false) a W.drew:=by
 simp only [tailOk,Bool.and_eq_true,decide_eq_true_eq] at hB
 obtain ⟨⟨⟨⟨⟨⟨hn,hs⟩,hc⟩,hb⟩,hsel⟩,hlex⟩,hseq⟩:=hB
 have hn':n < l.length:=by simpa using hn
 have htk:l.toArray.take n=(l.take n).toArray:=by simp
 have htl:(l.take n).length=n:=by simp; omega
 have inv0:HeadInv .any l.toArray n (Array.replicate l.toArray.size false) :=
  ⟨by simp,fun j oj _ hl=>(by rw [getD_replicate_false] at hl; cases hl),fun t _ ht=>getD_in (by simpa using ht) (getD_replicate_false _ _)⟩
 rw [htk] at hsel hlex
 have hq:=wpAnyQ_lex (C:=C) (md := .any) hsel (l.take n) 0 (Array.replicate l.toArray.size false) a (by simp) (by rw [htl]; exact hlex) h
 rw [htl] at hq
 have:=wide_tail (m:=m) (P:=P) (Q':=Q') (Lq:=fun a' w'=>wpListIn Fence.wide m P l.toArray Q' (l.drop n) a' w') hs hc hb hn (g:=l.toArray.size-n) (fun a w _ hl=>by
  have:=wideAny_of_seq (m:=m) (md := .any) (ops:=l.toArray) (Q':=Q') (l.drop n) n (headL l.toArray.size n) a w (fun j=>by simp [List.getElem?_drop]) (by rw [show (l.drop n).length=l.toArray.size-n by simp]; exact hseq) hl
  rwa [show (l.drop n).length=l.toArray.size-n by simp] at this) n _ a W.drew inv0 hC (by rw [htk]; exact hq)
 rwa [show n+(l.toArray.size-n)=l.toArray.size by omega] at this
theorem wide_region_tail {id:Nat} {a:Act} {W:World} {l:List Oper} (n:Nat) (hm:P.follows .mixedOrders=true) (hB:tailOk l.toArray n=true) (hC:C W.drew)
  (h:wpQuiet P (l.take n).toArray C (fun a'=>∀ w',C w'→wpListIn Fence.wide m P l.toArray Q (l.drop n) a' w') (l.take n) a):(Code.region id l.toArray true).wpIn Fence.wide m P Q a W :=
 wpIn_region_any hm (wide_of_tailOk hB hC h)
theorem wide_skip {o:Oper} {rest:List Oper} {a:Act} {w:World} (hw:Region.wanted o (yielded ops a.tmps)=false) (h:wpListIn Fence.wide m P ops Q rest (a.put o.dst undef) w):wpListIn Fence.wide m P ops Q (o::rest) a w:=by
 simp only [wpListIn,hw]
 exact ⟨fun _ _=>trivial,h⟩
end
end Go.Proofs.YtibmeigdjghkcaaGreat
