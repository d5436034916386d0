/- Regions that draw their order, whose operations read and whose calls make memory but change none that is there. Regions that draw their order, walked in one order of our choosing: reads may be taken first, the other operations come up one by one. In a plain frame, and within the round of a range over a function. Regions that draw their order, walked in one order of our choosing, guards and all; the class of worlds holds behind each operation, the last one too. -/
import Derived.Test.YtaihbcmifjmapaaGreatProg
import Derived.WalkKit
import Derived.Deep.QuietTactic
import Derived.Deep.Draws
import Derived.BigQuiet
import Derived.OrdersHeld
import Derived.OrdersIn
import Derived.RangeFuncNested
import Derived.RangeFuncBound
import Derived.RangeFuncCalls
import Derived.RangeFuncLeaves
import Derived.OwnWalkIn
import Derived.TacticsInMore
import Derived.LoopNIn
import Derived.LoopIn
namespace Go.Proofs.YtaihbcmifjmapaaGreat
open Go.RowKit
set_option linter.unusedVariables false
structure Ext (W:World) where
 w:World
 h:Below W.heap.size W w
instance extNonempty (W:World):Nonempty (Ext W):=⟨⟨W,Below.refl _ _⟩⟩
theorem wp_region_ext {P:Program} {id:Nat} {Q:Exit→Act→World→Prop} {a:Act} {W:World} {l:List Oper} (hm:P.follows .mixedOrders=true) (hB:Region.lexB .any l.toArray=true)
  (h:wpQuiet P l.toArray (fun w'=>∃ x:Ext W,w'=x.w) (fun a'=>∀ w',(∃ x:Ext W,w'=x.w)→Q .normal a' w') l a):(Code.region id l.toArray true).wp P Q a W :=
 wp_region_quiet (C:=fun w'=>∃ x:Ext W,w'=x.w) hm hB ⟨⟨{ W with drawn:=W.drawn+1 },⟨rfl,rfl,rfl,Nat.le_refl _,fun _ _=>rfl⟩⟩,rfl⟩ (by simpa using h)
theorem cell_lt {w:World} {b o:Nat} {v:Value} (h:w.cell? ⟨b,o,none⟩=some v):b < w.heap.size:=by
 rcases Nat.lt_or_ge b w.heap.size with hl | hl
 ·exact hl
 ·simp [World.cell?,Array.getElem?_eq_none hl] at h
theorem Ext.of {W:World} {b o:Nat} {v:Value} (h:W.cell? ⟨b,o,none⟩=some v) (x:Ext W):x.w.cell? ⟨b,o,none⟩=some v :=
 (x.h.cell (p:=⟨b,o,none⟩) (cell_lt h)).trans h
theorem ext_call {P:Program} {f:FuncId} {args:Array Value} {W:World} {v:Value} (x:Ext W)
  (h:Calls P f args x.w fun e w'=>e = .returned v∧Below x.w.heap.size x.w w'):Calls P f args x.w fun e w''=>e = .returned v∧∃ y:Ext W,w''=y.w :=
 h.mono fun _ w' ⟨he,hw⟩=>⟨he,⟨w',x.h.trans (hw.mono x.h.size)⟩,rfl⟩
end Go.Proofs.YtaihbcmifjmapaaGreat
namespace Go.Proofs.YtaihbcmifjmapaaGreat
open Go.RowKit
set_option linter.unusedVariables false
def valOnly (o:Oper):Bool :=
 match o.op with
 | .move _ | .assign _ | .load _ _ | .fieldAddr _ _ _ | .indexAddr _ _ _ | .binOp _ _ _ _ _ | .unOp _ _ _ | .nilCheck _ | .build _ _ | .pick _ _ _ | .field _ _ _ | .index _ _ _ | .convert _ _ _ | .slice _ _ _ _ _ | .extract _ _ | .lookup _ _ _ _=>true
 | _=>false
theorem andThen_value {P:Program} {w:World} (s:Sem Value) (f:FuncId) (args:Array Value) (w':World):(do pure (Next.value (← s)):Sem Next).run P w ≠ .ok (.enter f args) w'∧(do pure (Next.value (← s)):Sem Next).run P w ≠ .ok .skip w':=by
 rw [Sem.run_bind]
 cases s.run P w <;> simp [Result.andThen]
theorem valOnly_spec {P:Program} {o:Oper} (h:valOnly o=true) (ρ:Operand→Value) (w:World) (f:FuncId) (args:Array Value) (w':World):(execOp ρ o).run P w ≠ .ok (.enter f args) w'∧(execOp ρ o).run P w ≠ .ok .skip w':=by
 obtain ⟨dst,op,type,pos,after,guard⟩:=o
 cases op
 case nilCheck x =>
  simp only [execOp]
  generalize ρ x=y
  split
  ·simp [runtimePanic]
  ·simp [runtimePanic]
  ·simp [runtimePanic]
  ·split
   ·simp [runtimePanic]
   ·simp only [Sem.run_bind,run_program,Result.andThen_ok]
    generalize (nilAhead _ _ _ _).run P w=r
    cases r with
    | ok b w1 =>
      simp only [Result.andThen_ok]
      split <;> simp [Result.andThen,unsupported]
    | halt x w1=>simp [Result.andThen]
   ·simp
  ·simp
 case pick c a b =>
  simp only [execOp]
  rw [Sem.run_bind]
  cases (asBool (ρ c)).run P w <;> simp [Result.andThen]
 all_goals first
  | (simp [valOnly] at h; done)
  | (simp [execOp]; done)
  | (simp only [execOp]; exact andThen_value _ _ _ _)
section
variable {P:Program} {ops:Array Oper} {Q:Exit→Act→World→Prop} {C:World→Prop}
theorem yieldsIf_of_quiet {o:Oper} {a:Act} {v:Value} (hv:valOnly o=true) (hw:Region.wanted o (yielded ops a.tmps)=true) (h:∀ w,C w→o.quietAt P a C w v):YieldsIf P ops C o v a:=by
 refine .inl ⟨hw,fun w hC=>?_⟩
 have h1:=h w hC
 have h2:=valOnly_spec (P:=P) hv a.eval w
 unfold Oper.quietAt at h1
 generalize (execOp a.eval o).run P w=r at *
 cases r with
 | ok n w' =>
   cases n <;> simp only [Oper.quietUpon] at h1
   case value u=>rw [h1.1,h1.2]
   case skip=>exact absurd rfl (h2 0 #[] w').2
   case enter f args=>exact absurd rfl (h2 f args w').1
 | halt x w'=>simp only [Oper.quietUpon] at h1
def wpSched (P:Program) (ops:Array Oper) (C:World→Prop) (Q:Exit→Act→World→Prop):List (Nat×Bool)→Act→World→Prop
 | [],a,w=>Q .normal a w
 | (i,true)::r,a,w=>match ops[i]? with
   | none=>False
   | some o=>if Region.wanted o (yielded ops a.tmps) then o.quiet P a C (fun a'=>wpSched P ops C Q r a' w) else wpSched P ops C Q r (a.put o.dst undef) w
 | (i,false)::r,a,w=>match ops[i]? with
   | none=>False
   | some o=>if Region.wanted o (yielded ops a.tmps) then o.wp P a w (fun a' w'=>(r=[]∨C w')∧wpSched P ops C Q r a' w') Q else wpSched P ops C Q r (a.put o.dst undef) w
def lastB (ops:Array Oper) (z:Nat):Bool :=
 match ops[z]? with
 | none=>false
 | some oz=>(List.range ops.size).all fun i=>i==z||oz.after.any fun e=>Region.binds .any e&&e.on==i
def schedB (ops:Array Oper) (z:Nat):List (Nat×Bool)→Array Bool→Bool
 | [],listed=>(Region.ready .any ops listed).isEmpty
 | (i,true)::r,listed=>((ops[i]?).map valOnly).getD false&&Region.free .any ops listed i&&(Region.ready .any ops listed).contains i&&(i != z)&&schedB ops z r (listed.setIfInBounds i true)
 | (i,false)::r,listed=>(Region.ready .any ops listed==[i])&&(!r.isEmpty||i==z)&&schedB ops z r (listed.setIfInBounds i true)
def NoP (Q:Exit→Act→World→Prop):Exit→Act→World→Prop
 | .normal,a,w=>Q .normal a w
 | _,_,_=>False
def AnyZ (P:Program) (ops:Array Oper) (Q:Exit→Act→World→Prop) (S:World→Prop) (z:Nat):Nat→Array Bool→Act→World→Prop
 | 0,listed,a,w=>Region.ready .any ops listed=[]∧Q .normal a w
 | n+1,listed,a,w =>
   (Region.ready .any ops listed=[]→Q .normal a w) ∧
   ∀ i∈Region.ready .any ops listed,wpOp P ops Q i (fun a' w'=>(i=z∨S w')∧AnyZ P ops Q S z n (listed.setIfInBounds i true) a' w') a w
theorem AnyZ.any {z:Nat}:∀ (n:Nat) (listed:Array Bool) (a:Act) (w:World),AnyZ P ops Q C z n listed a w→wpAny P .any ops Q n listed a w
 | 0,_,_,_,h=>h
 | n+1,_,_,_,h=>⟨h.1,fun i hi=>wpOp_mono (fun a' w' h'=>AnyZ.any n _ a' w' h'.2) (h.2 i hi)⟩
theorem AnyZ.take {z i:Nat} {oi:Oper} {v:Value} (hi:ops[i]? = some oi) (hiz:i≠z) (hz:lastB ops z=true) (hsel:Region.noSelect ops=true) (hQ:∀ c a w,Q (.panic c) (a.put oi.dst v) w→Q (.panic c) a w) :
  ∀ (n:Nat) (listed:Array Bool) (a:Act) (w:World),Region.free .any ops listed i=true→i∈Region.ready .any ops listed→YieldsIf P ops C oi v a→C w →
   AnyZ P ops Q C z n (listed.setIfInBounds i true) (a.put oi.dst v) w→AnyZ P ops Q C z (n+1) listed a w:=by
 have hs:=Region.noSelect_spec hsel
 have hwait:∀ oz,ops[z]? = some oz→∃ e∈oz.after,Region.binds .any e=true∧e.on=i:=by
  intro oz hoz
  unfold lastB at hz
  simp only [hoz] at hz
  have h1:=List.all_eq_true.1 hz i (List.mem_range.2 (Array.getElem?_eq_some_iff.1 hi).1)
  simp only [Bool.or_eq_true,beq_iff_eq] at h1
  rcases h1 with h1 | h1
  ·exact absurd h1 hiz
  ·obtain ⟨k,hk,h2,h3⟩:∃ k,∃ h:k < oz.after.size,Region.binds .any oz.after[k]=true∧oz.after[k].on=i:=by simpa using h1
   exact ⟨_,Array.getElem_mem hk,h2,h3⟩
 have main:∀ (n:Nat) (listed:Array Bool) (a:Act) (w:World),
   (∀ j oj,ops[j]? = some oj→j≠i→listed.getD j true=false→(∀ e∈oj.after,Region.binds .any e=true→e.on≠i)→oi.apart ops oj=true) →
   i∈Region.ready .any ops listed→YieldsIf P ops C oi v a→C w →
   AnyZ P ops Q C z n (listed.setIfInBounds i true) (a.put oi.dst v) w→AnyZ P ops Q C z (n+1) listed a w:=by
  intro n
  induction n with
  | zero =>
    intro listed a w _ hr hy hS H
    refine ⟨fun h=>(by rw [h] at hr; cases hr),fun j hj=>?_⟩
    by_cases hji:j=i
    ·subst hji; exact hy.wpOp hi hS ⟨.inr hS,H⟩
    ·have h1:=ready_mono hj hji
     rw [H.1] at h1
     cases h1
  | succ n ih =>
    intro listed a w hfree hr hy hS H
    refine ⟨fun h=>(by rw [h] at hr; cases hr),fun j hj=>?_⟩
    by_cases hji:j=i
    ·subst hji; exact hy.wpOp hi hS ⟨.inr hS,H⟩
    ·have h1:=H.2 j (ready_mono hj hji)
     obtain ⟨hjun,oj,hoj,hall⟩:=mem_ready.1 hj
     have hnot:∀ e∈oj.after,Region.binds .any e=true→e.on≠i:=fun e he hb heq=>by
      have h1:=hall e he hb
      have h0:=(mem_ready.1 hr).1
      rw [heq] at h1
      rcases Nat.lt_or_ge i listed.size with h' | h'
      ·simp [h'] at h0 h1; rw [h0] at h1; cases h1
      ·simp [Array.getElem?_eq_none h'] at h1
     have hjz:j≠z:=by
      rintro rfl
      obtain ⟨e,he,hb,hon⟩:=hwait oj hoj
      exact hnot e he hb hon
     have h2:=wpOp_putIf hoj (hfree j oj hoj hji hjun hnot) (fun cs b=>hs i oi cs b hi) (fun cs b=>hs j oj cs b hoj) hQ hy h1
     have hfree':∀ k ok,ops[k]? = some ok→k≠i→(listed.setIfInBounds j true).getD k true=false →
       (∀ e∈ok.after,Region.binds .any e=true→e.on≠i)→oi.apart ops ok=true:=fun k ok hk hki hun hno=>by
      refine hfree k ok hk hki ?_ hno
      by_cases hjk:j=k
      ·subst hjk; exact hjun
      ·rw [getD_set_ne true hjk] at hun; exact hun
     refine wpOp_mono (fun a' w' h3=>?_) h2
     have hS':=h3.2.1.resolve_left hjz
     refine ⟨.inr hS',ih (listed.setIfInBounds j true) a' w' hfree' (ready_mono hr (Ne.symm hji)) h3.1 hS' ?_⟩
     rw [Array.setIfInBounds_comm _ _ hji]
     exact h3.2.2
 intro n listed a w hf
 exact main n listed a w (Region.free_spec hi hf)
theorem AnyZ.of_sched {z:Nat} (hs:Region.noSelect ops=true) (hz:lastB ops z=true):∀ (l:List (Nat×Bool)) (fuel:Nat) (listed:Array Bool) (a:Act) (w:World),l.length≤fuel→(l=[]∨C w)→schedB ops z l listed=true →
  wpSched P ops C (NoP Q) l a w→AnyZ P ops (NoP Q) C z fuel listed a w
 | [],fuel,listed,a,w,_,_,hb,h=>by
   simp only [schedB,List.isEmpty_iff] at hb
   cases fuel with
   | zero=>exact ⟨hb,h⟩
   | succ n=>exact ⟨fun _=>h,by rw [hb]; simp⟩
 | (i,true)::r,0,listed,a,w,hf,_,_,_=>by simp at hf
 | (i,false)::r,0,listed,a,w,hf,_,_,_=>by simp at hf
 | (i,true)::r,fuel+1,listed,a,w,hf,hC,hb,h=>by
   have hC:=hC.resolve_left (by simp)
   simp only [schedB,Bool.and_eq_true,bne_iff_ne] at hb
   obtain ⟨⟨⟨⟨h1,h2⟩,h3⟩,h5⟩,h4⟩:=hb
   have h3:i∈Region.ready .any ops listed:=by simpa using h3
   simp only [wpSched] at h
   cases ho:ops[i]? with
   | none=>simp [ho] at h1
   | some o =>
     simp only [ho,Option.map_some,Option.getD_some] at h1
     simp only [ho] at h
     have hlen:r.length≤fuel:=by simp at hf; omega
     by_cases hw:Region.wanted o (yielded ops a.tmps)=true
     ·rw [if_pos hw] at h
      obtain ⟨v,hv,hn⟩:=h
      exact AnyZ.take ho h5 hz hs (fun c a w hh=>hh.elim) fuel listed a w h2 h3 (yieldsIf_of_quiet h1 hw hv) hC (AnyZ.of_sched hs hz r fuel _ _ w hlen (.inr hC) h4 hn)
     ·rw [if_neg hw] at h
      exact AnyZ.take (v:=undef) ho h5 hz hs (fun c a w hh=>hh.elim) fuel listed a w h2 h3 (.inr ⟨by simpa using hw,rfl⟩) hC (AnyZ.of_sched hs hz r fuel _ _ w hlen (.inr hC) h4 h)
 | (i,false)::r,fuel+1,listed,a,w,hf,hC,hb,h=>by
   have hCw:C w:=by
    rcases hC with h | h
    ·cases h
    ·exact h
   clear hC
   simp only [schedB,Bool.and_eq_true,beq_iff_eq] at hb
   obtain ⟨⟨h1,h5⟩,h4⟩:=hb
   simp only [wpSched] at h
   have hlen:r.length≤fuel:=by simp at hf; omega
   refine ⟨fun h0=>(by rw [h1] at h0; cases h0),fun j hj=>?_⟩
   rw [h1] at hj
   obtain rfl:j=i:=by simpa using hj
   have hlast:r=[]→j=z:=by
    intro hr
    simpa [hr] using h5
   unfold wpOp
   cases ho:ops[j]? with
   | none=>simp [ho] at h
   | some o =>
     simp only [ho] at h
     show if _ then _ else _
     by_cases hw:Region.wanted o (yielded ops a.tmps)=true
     ·rw [if_pos hw] at h ⊢
      exact .inl (Oper.wp_mono (fun a' w' ⟨hc,hh⟩=>⟨hc.imp hlast id,AnyZ.of_sched hs hz r fuel _ a' w' hlen hc h4 hh⟩) h)
     ·rw [if_neg hw] at h ⊢
      exact ⟨.inr hCw,AnyZ.of_sched hs hz r fuel _ _ w hlen (.inr hCw) h4 h⟩
def schedOk (ops:Array Oper) (σ:List (Nat×Bool)):Bool:=Region.noSelect ops&&decide (σ.length≤ops.size)&&!σ.isEmpty&&lastB ops ((σ.getLast?.map (·.1)).getD 0)&&schedB ops ((σ.getLast?.map (·.1)).getD 0) σ (Array.replicate ops.size false)
theorem NoP_imp {Q:Exit→Act→World→Prop} (e:Exit) (a:Act) (w:World) (h:NoP Q e a w):Q e a w:=by
 cases e <;> first | exact h | exact h.elim
theorem any_of_sched {a:Act} {W:World} (σ:List (Nat×Bool)) (hs:schedOk ops σ=true) (hC:C W.drew) (h:wpSched P ops C (NoP Q) σ a W.drew):wpAny P .any ops (NoP Q) ops.size (Array.replicate ops.size false) a W.drew:=by
 simp only [schedOk,Bool.and_eq_true,decide_eq_true_eq] at hs
 obtain ⟨⟨⟨⟨h1,h2⟩,h3⟩,h4⟩,h5⟩:=hs
 exact AnyZ.any _ _ _ _ (AnyZ.of_sched h1 h4 σ _ _ a _ h2 (.inr hC) h5 h)
theorem wp_region_sched {id:Nat} {a:Act} {W:World} (σ:List (Nat×Bool)) (hm:P.follows .mixedOrders=true) (hs:schedOk ops σ=true) (hC:C W.drew)
  (h:wpSched P ops C (NoP Q) σ a W.drew):(Code.region id ops true).wp P Q a W :=
 wp_mono (wp_region_any hm (any_of_sched σ hs hC h)) NoP_imp
theorem wpIn_of_wp {o:Oper} {l n:Nat} (hd:∀ c,o.op ≠ .defer c) {a:Act} {w:World} {K:Act→World→Prop} {Q:Exit→Act→World→Prop} (h:o.wp P a w K Q):o.wpIn (Fence.wide.inRound l) n P a w K Q:=by
 refine ⟨fun f _=>trivial,?_⟩
 rw [Oper.semAt_eq _ _ _ hd]
 unfold Oper.wp at h
 generalize (execOp a.eval o).run P w=r at *
 cases r with
 | ok x w' =>
   cases x <;> simp only [Oper.upon,Oper.uponIn] at h ⊢
   case value v=>exact h
   case skip=>exact h
   case defer d=>exact h
   case enter f args=>exact ⟨fun hh=>by simp [Fence.wide,Fence.inRound] at hh,CallsIn.inRound l (callsIn_wide.2 h)⟩
   case row row args =>
    refine ⟨fun hh=>by simp [Fence.wide,Fence.inRound] at hh,fun c cs _=>?_⟩
    obtain ⟨v,w'',hR,hs⟩:=h c cs
    exact ⟨v,w'',hR,stepsIn_wide.2 hs⟩
 | halt x w'=>cases x <;> simp only [Oper.upon,Oper.uponIn] at h ⊢ <;> exact h
def noDefer (ops:Array Oper):Bool:=ops.all fun o=>match o.op with | .defer _=>false | _=>true
theorem wpAnyIn_of_wpAny {l n:Nat} (hnd:noDefer ops=true):∀ (fuel:Nat) (listed:Array Bool) (a:Act) (w:World),wpAny P .any ops (NoP Q) fuel listed a w→wpAnyIn (Fence.wide.inRound l) n P .any ops (NoP Q) fuel listed a w
 | 0,_,_,_,h=>h
 | fuel+1,listed,a,w,h=>by
   refine ⟨h.1,fun i hi=>?_⟩
   have h2:=h.2 i hi
   unfold wpOp at h2
   unfold wpOpIn
   cases ho:ops[i]? with
   | none =>
     simp only [ho] at h2 ⊢
     exact wpAnyIn_of_wpAny hnd fuel _ _ _ h2
   | some o =>
     simp only [ho] at h2 ⊢
     have hd:∀ c,o.op ≠ .defer c:=by
      intro c hc
      have:=Array.all_eq_true_iff_forall_mem.1 hnd o (Array.mem_of_getElem? ho)
      simp [hc] at this
     split
     ·rename_i hw
      rw [if_pos hw] at h2
      rcases h2 with h2 | ⟨_,a',w',h3⟩
      ·exact wpIn_of_wp hd (Oper.wp_mono (fun a' w' hh=>wpAnyIn_of_wpAny hnd fuel _ a' w' hh) h2)
      ·exact h3.elim
     ·rename_i hw
      rw [if_neg hw] at h2
      exact ⟨fun _ _=>trivial,wpAnyIn_of_wpAny hnd fuel _ _ _ h2⟩
theorem wpIn_region_sched {id l n:Nat} {a:Act} {W:World} (σ:List (Nat×Bool)) (hm:P.follows .mixedOrders=true) (hs:schedOk ops σ=true) (hnd:noDefer ops=true) (hC:C W.drew)
  (h:wpSched P ops C (NoP Q) σ a W.drew):(Code.region id ops true).wpIn (Fence.wide.inRound l) n P Q a W :=
 wpIn_mono (wpIn_region_any hm (wpAnyIn_of_wpAny hnd _ _ _ _ (any_of_sched σ hs hC h))) NoP_imp
theorem getElem?_of_drop {α:Type} {l:List α} {i:Nat} {o:α} {rest:List α} (h:l.drop i=o::rest):l.toArray[i]? = some o:=by
 have h1:(l.drop i)[0]? = some o:=by rw [h]; rfl
 rw [List.getElem?_drop] at h1
 simpa using h1
theorem sched_q {l rest:List Oper} {i:Nat} {r:List (Nat×Bool)} {a:Act} {w:World} {o:Oper} (hi:l.drop i=o::rest) (hg:o.guard=none) (h:∀ K:Act→Prop,(∀ a',wpSched P l.toArray C Q r a' w→K a')→o.quiet P a C K):wpSched P l.toArray C Q ((i,true)::r) a w:=by
 have hi:=getElem?_of_drop hi
 have hw:Region.wanted o (yielded l.toArray a.tmps)=true:=by simp [Region.wanted,hg]
 simp only [wpSched,hi,hw,if_true]
 exact h _ fun _ h=>h
theorem sched_c {l rest:List Oper} {i:Nat} {r:List (Nat×Bool)} {a:Act} {w:World} {o:Oper} (hi:l.drop i=o::rest) (hg:o.guard=none) (h:∀ K:Act→World→Prop,(∀ a' w',(r=[]∨C w')∧wpSched P l.toArray C (NoP Q) r a' w'→K a' w')→wpList P l.toArray (NoP (Exit.then K Q)) [o] a w):wpSched P l.toArray C (NoP Q) ((i,false)::r) a w:=by
 have hi:=getElem?_of_drop hi
 have hw:Region.wanted o (yielded l.toArray a.tmps)=true:=by simp [Region.wanted,hg]
 simp only [wpSched,hi,hw,if_true]
 have h1:=h _ fun _ _ h=>h
 simp only [wpList,hw,if_true] at h1
 rcases h1 with h1 | ⟨_,a',w',h2⟩
 ·unfold Oper.wp at h1 ⊢
  generalize (execOp a.eval o).run P w=q at *
  cases q with
  | ok x w' =>
    cases x <;> simp only [Oper.upon] at h1 ⊢
    case value v=>exact h1
    case skip=>exact h1
    case defer d=>exact h1
    case enter f args =>
     refine h1.mono fun e w'' hh=>?_
     cases e with
     | returned v=>exact hh
     | panicked ch=>exact hh.elim
     | outgrown=>obtain ⟨a,w,hh⟩:=hh; exact hh.elim
    case row row args=>exact h1
  | halt x w'=>cases x <;> simp only [Oper.upon] at h1 ⊢ <;> first | exact h1 | exact h1.elim
 ·exact h2.elim
theorem sched_nil {a:Act} {w:World} (h:Q .normal a w):wpSched P ops C (NoP Q) [] a w:=h
end
structure SubW (F:World→Prop) where
 w:World
 h:F w
end Go.Proofs.YtaihbcmifjmapaaGreat
namespace Go.Proofs.YtaihbcmifjmapaaGreat
open Go.RowKit
set_option linter.unusedVariables false
section
variable {P:Program} {ops:Array Oper} {Q:Exit→Act→World→Prop} {C:World→Prop}
def wpSchedH (P:Program) (ops:Array Oper) (C:World→Prop) (Q:Exit→Act→World→Prop):List (Nat×Bool)→Act→World→Prop
 | [],a,w=>Q .normal a w
 | (i,true)::r,a,w=>match ops[i]? with
   | none=>False
   | some o=>if Region.wanted o (yielded ops a.tmps) then o.quiet P a C (fun a'=>wpSchedH P ops C Q r a' w) else wpSchedH P ops C Q r (a.put o.dst undef) w
 | (i,false)::r,a,w=>match ops[i]? with
   | none=>False
   | some o=>if Region.wanted o (yielded ops a.tmps) then o.wp P a w (fun a' w'=>C w'∧wpSchedH P ops C Q r a' w') Q else wpSchedH P ops C Q r (a.put o.dst undef) w
def schedBH (ops:Array Oper):List (Nat×Bool)→Array Bool→Bool
 | [],listed=>(Region.ready .any ops listed).isEmpty
 | (i,true)::r,listed=>((ops[i]?).map valOnly).getD false&&Region.free .any ops listed i&&(Region.ready .any ops listed).contains i&&schedBH ops r (listed.setIfInBounds i true)
 | (i,false)::r,listed=>(Region.ready .any ops listed==[i])&&schedBH ops r (listed.setIfInBounds i true)
theorem held_of_sched (hs:Region.noSelect ops=true):∀ (l:List (Nat×Bool)) (fuel:Nat) (listed:Array Bool) (a:Act) (w:World),l.length≤fuel→C w→schedBH ops l listed=true →
  wpSchedH P ops C (NoP Q) l a w→wpAnyH P .any ops (NoP Q) C fuel listed a w
 | [],fuel,listed,a,w,_,_,hb,h=>wpAnyH_done (by simpa [schedBH] using hb) h fuel
 | (i,true)::r,0,listed,a,w,hf,_,_,_=>by simp at hf
 | (i,false)::r,0,listed,a,w,hf,_,_,_=>by simp at hf
 | (i,true)::r,fuel+1,listed,a,w,hf,hC,hb,h=>by
   simp only [schedBH,Bool.and_eq_true] at hb
   obtain ⟨⟨⟨h1,h2⟩,h3⟩,h4⟩:=hb
   simp only [wpSchedH] at h
   cases ho:ops[i]? with
   | none=>simp [ho] at h1
   | some o =>
     simp only [ho,Option.map_some,Option.getD_some] at h1
     simp only [ho] at h
     have hlen:r.length≤fuel:=by simp at hf; omega
     by_cases hw:Region.wanted o (yielded ops a.tmps)=true
     ·rw [if_pos hw] at h
      obtain ⟨v,hv,hn⟩:=h
      exact wpAnyH_take ho hs h2 h3 (fun c a w hh=>hh.elim) (yieldsIf_of_quiet h1 hw hv) hC (held_of_sched hs r fuel _ _ w hlen hC h4 hn)
     ·rw [if_neg hw] at h
      exact wpAnyH_take (v:=undef) ho hs h2 h3 (fun c a w hh=>hh.elim) (.inr ⟨by simpa using hw,rfl⟩) hC (held_of_sched hs r fuel _ _ w hlen hC h4 h)
 | (i,false)::r,fuel+1,listed,a,w,hf,hC,hb,h=>by
   simp only [schedBH,Bool.and_eq_true,beq_iff_eq] at hb
   obtain ⟨h1,h4⟩:=hb
   simp only [wpSchedH] at h
   have hlen:r.length≤fuel:=by simp at hf; omega
   refine wpAnyH_all h1 (by simp) fun j hj=>?_
   obtain rfl:j=i:=by simpa using hj
   unfold wpOp
   cases ho:ops[j]? with
   | none=>simp [ho] at h
   | some o =>
     simp only [ho] at h
     show if _ then _ else _
     by_cases hw:Region.wanted o (yielded ops a.tmps)=true
     ·rw [if_pos hw] at h ⊢
      exact .inl (Oper.wp_mono (fun a' w' ⟨hc,hh⟩=>⟨hc,held_of_sched hs r fuel _ a' w' hlen hc h4 hh⟩) h)
     ·rw [if_neg hw] at h ⊢
      exact ⟨hC,held_of_sched hs r fuel _ _ w hlen hC h4 h⟩
def schedOkH (ops:Array Oper) (σ:List (Nat×Bool)):Bool:=Region.noSelect ops&&decide (σ.length≤ops.size)&&schedBH ops σ (Array.replicate ops.size false)
theorem wp_region_schedH {id:Nat} {a:Act} {W:World} (σ:List (Nat×Bool)) (hm:P.follows .mixedOrders=true) (hs:schedOkH ops σ=true) (hC:C W.drew)
  (h:wpSchedH P ops C (NoP Q) σ a W.drew):(Code.region id ops true).wp P Q a W:=by
 simp only [schedOkH,Bool.and_eq_true,decide_eq_true_eq] at hs
 obtain ⟨⟨h1,h2⟩,h3⟩:=hs
 exact wp_mono (wp_region_held hm (held_of_sched h1 σ _ _ a _ h2 hC h3 h)) NoP_imp
theorem schedH_q {l rest:List Oper} {i:Nat} {r:List (Nat×Bool)} {a:Act} {w:World} {o:Oper} (hi:l.drop i=o::rest) (hw:Region.wanted o (yielded l.toArray a.tmps)=true) (h:∀ K:Act→Prop,(∀ a',wpSchedH P l.toArray C Q r a' w→K a')→o.quiet P a C K):wpSchedH P l.toArray C Q ((i,true)::r) a w:=by
 have hi:=getElem?_of_drop hi
 simp only [wpSchedH,hi,hw,if_true]
 exact h _ fun _ h=>h
theorem schedH_c {l rest:List Oper} {i:Nat} {r:List (Nat×Bool)} {a:Act} {w:World} {o:Oper} (hi:l.drop i=o::rest) (hw:Region.wanted o (yielded l.toArray a.tmps)=true) (h:∀ K:Act→World→Prop,(∀ a' w',C w'∧wpSchedH P l.toArray C (NoP Q) r a' w'→K a' w')→wpList P l.toArray (NoP (Exit.then K Q)) [o] a w):wpSchedH P l.toArray C (NoP Q) ((i,false)::r) a w:=by
 have hi:=getElem?_of_drop hi
 simp only [wpSchedH,hi,hw,if_true]
 have h1:=h _ fun _ _ h=>h
 simp only [wpList,hw,if_true] at h1
 rcases h1 with h1 | ⟨_,a',w',h2⟩
 ·unfold Oper.wp at h1 ⊢
  generalize (execOp a.eval o).run P w=q at *
  cases q with
  | ok x w' =>
    cases x <;> simp only [Oper.upon] at h1 ⊢
    case value v=>exact h1
    case skip=>exact h1
    case defer d=>exact h1
    case enter f args =>
     refine h1.mono fun e w'' hh=>?_
     cases e with
     | returned v=>exact hh
     | panicked ch=>exact hh.elim
     | outgrown=>obtain ⟨a,w,hh⟩:=hh; exact hh.elim
    case row row args=>exact h1
  | halt x w'=>cases x <;> simp only [Oper.upon] at h1 ⊢ <;> first | exact h1 | exact h1.elim
 ·exact h2.elim
theorem schedH_nil {a:Act} {w:World} (h:Q .normal a w):wpSchedH P ops C (NoP Q) [] a w:=h
end
end Go.Proofs.YtaihbcmifjmapaaGreat
