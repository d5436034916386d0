/- Regions that draw their order, walked in every order that is left: reads are taken first, what comes up beside others parts the walk. Schedules of a region: the last operation need wait only for those that are taken first. Words for slices that a call makes: append of one element, and how such a slice reads. A cylinder that lies in a box of the call's own. -/
import Derived.Test.YtaihbcmifjmapaaGreatPA
import Derived.Test.YtaihbcmifjmapaaGreatPB
import Derived.Below
import Derived.Deep.Cut
import Derived.Deep.CutBlock
import Derived.Deep.DeepCutAuto
import Derived.ArgAppend
import Derived.Laws.OwnMore
import Derived.StillTailTactics
namespace Go.Proofs.YtaihbcmifjmapaaGreat
open Go.RowKit
set_option linter.unusedVariables false
section
variable {P:Program} {Q:Exit→Act→World→Prop} {C:World→Prop} {l:List Oper}
theorem ways_start {id:Nat} {a:Act} {W:World} (n:Nat) (C:World→Prop) (hn:l.toArray.size=n) (hm:P.follows .mixedOrders=true) (h:wpAnyH P .any l.toArray (NoP Q) C n (Array.replicate n false) a W.drew):(Code.region id l.toArray true).wp P Q a W:=by
 subst hn
 exact wp_mono (wp_region_held hm h) NoP_imp
def Way (P:Program) (l:List Oper) (Q:Exit→Act→World→Prop) (C:World→Prop) (fuel:Nat) (listed:Array Bool) (a:Act) (w:World) (i:Nat):Prop :=
 ∃ o rest,l.drop i=o::rest∧Region.wanted o (yielded l.toArray a.tmps)=true ∧
  ∀ K:Act→World→Prop,(∀ a' w',C w'∧wpAnyH P .any l.toArray (NoP Q) C fuel (listed.setIfInBounds i true) a' w'→K a' w')→wpList P l.toArray (NoP (Exit.then K Q)) [o] a w
theorem Way.op {fuel:Nat} {listed:Array Bool} {a:Act} {w:World} {i:Nat} (h:Way P l Q C fuel listed a w i):wpOp P l.toArray (NoP Q) i (fun a' w'=>C w'∧wpAnyH P .any l.toArray (NoP Q) C fuel (listed.setIfInBounds i true) a' w') a w:=by
 obtain ⟨o,rest,hi,hw,h⟩:=h
 have hi:=getElem?_of_drop hi
 have h1:=h _ fun _ _ h=>h
 simp only [wpList,hw,if_true] at h1
 unfold wpOp
 simp only [hi]
 show if _ then _ else _
 rw [if_pos hw]
 left
 rcases h1 with h1 | ⟨_,a',w',h2⟩
 ·unfold Oper.wp at h1 ⊢
  generalize (execOp a.eval o).run P w=q at *
  cases q with
  | ok x w' =>
    cases x <;> simp only [Oper.upon] at h1 ⊢
    case value v=>exact h1
    case skip=>exact h1
    case defer d=>exact h1
    case enter f args =>
     refine h1.mono fun e w'' hh=>?_
     cases e with
     | returned v=>exact hh
     | panicked ch=>exact hh.elim
     | outgrown=>obtain ⟨a,w,hh⟩:=hh; exact hh.elim
    case row row args=>exact h1
  | halt x w'=>cases x <;> simp only [Oper.upon] at h1 ⊢ <;> first | exact h1 | exact h1.elim
 ·exact h2.elim
end
end Go.Proofs.YtaihbcmifjmapaaGreat
namespace Go.Proofs.YtaihbcmifjmapaaGreat
open Go.RowKit
set_option linter.unusedVariables false
section
variable {m:Nat} {P:Program} {ops:Array Oper} {Q:Exit→Act→World→Prop} {C:World→Prop}
def waitB (ops:Array Oper) (z i:Nat):Bool :=
 match ops[z]? with
 | none=>false
 | some oz=>oz.after.any fun e=>Region.binds .any e&&e.on==i
theorem waitB_spec {z i:Nat} (h:waitB ops z i=true):∀ oz,ops[z]? = some oz→∃ e∈oz.after,Region.binds .any e=true∧e.on=i:=by
 intro oz hoz
 unfold waitB at h
 simp only [hoz] at h
 obtain ⟨k,hk,h2,h3⟩:∃ k,∃ h:k < oz.after.size,Region.binds .any oz.after[k]=true∧oz.after[k].on=i:=by simpa using h
 exact ⟨_,Array.getElem_mem hk,h2,h3⟩
def schedW (ops:Array Oper) (z:Nat):List (Nat×Bool)→Array Bool→Bool
 | [],listed=>(Region.ready .any ops listed).isEmpty
 | (i,true)::r,listed=>((ops[i]?).map valOnly).getD false&&Region.free .any ops listed i&&(Region.ready .any ops listed).contains i&&waitB ops z i&&schedW ops z r (listed.setIfInBounds i true)
 | (i,false)::r,listed=>(Region.ready .any ops listed==[i])&&(!r.isEmpty||i==z)&&schedW ops z r (listed.setIfInBounds i true)
theorem AnyZ.takeW {z i:Nat} {oi:Oper} {v:Value} (hi:ops[i]? = some oi) (hwait:∀ oz,ops[z]? = some oz→∃ e∈oz.after,Region.binds .any e=true∧e.on=i) (hsel:Region.noSelect ops=true) (hQ:∀ c a w,Q (.panic c) (a.put oi.dst v) w→Q (.panic c) a w) :
  ∀ (n:Nat) (listed:Array Bool) (a:Act) (w:World),Region.free .any ops listed i=true→i∈Region.ready .any ops listed→YieldsIf P ops C oi v a→C w →
   AnyZ P ops Q C z n (listed.setIfInBounds i true) (a.put oi.dst v) w→AnyZ P ops Q C z (n+1) listed a w:=by
 have hs:=Region.noSelect_spec hsel
 have main:∀ (n:Nat) (listed:Array Bool) (a:Act) (w:World),
   (∀ j oj,ops[j]? = some oj→j≠i→listed.getD j true=false→(∀ e∈oj.after,Region.binds .any e=true→e.on≠i)→oi.apart ops oj=true) →
   i∈Region.ready .any ops listed→YieldsIf P ops C oi v a→C w →
   AnyZ P ops Q C z n (listed.setIfInBounds i true) (a.put oi.dst v) w→AnyZ P ops Q C z (n+1) listed a w:=by
  intro n
  induction n with
  | zero =>
    intro listed a w _ hr hy hS H
    refine ⟨fun h=>(by rw [h] at hr; cases hr),fun j hj=>?_⟩
    by_cases hji:j=i
    ·subst hji; exact hy.wpOp hi hS ⟨.inr hS,H⟩
    ·have h1:=ready_mono hj hji
     rw [H.1] at h1
     cases h1
  | succ n ih =>
    intro listed a w hfree hr hy hS H
    refine ⟨fun h=>(by rw [h] at hr; cases hr),fun j hj=>?_⟩
    by_cases hji:j=i
    ·subst hji; exact hy.wpOp hi hS ⟨.inr hS,H⟩
    ·have h1:=H.2 j (ready_mono hj hji)
     obtain ⟨hjun,oj,hoj,hall⟩:=mem_ready.1 hj
     have hnot:∀ e∈oj.after,Region.binds .any e=true→e.on≠i:=fun e he hb heq=>by
      have h1:=hall e he hb
      have h0:=(mem_ready.1 hr).1
      rw [heq] at h1
      rcases Nat.lt_or_ge i listed.size with h' | h'
      ·simp [h'] at h0 h1; rw [h0] at h1; cases h1
      ·simp [Array.getElem?_eq_none h'] at h1
     have hjz:j≠z:=by
      rintro rfl
      obtain ⟨e,he,hb,hon⟩:=hwait oj hoj
      exact hnot e he hb hon
     have h2:=wpOp_putIf hoj (hfree j oj hoj hji hjun hnot) (fun cs b=>hs i oi cs b hi) (fun cs b=>hs j oj cs b hoj) hQ hy h1
     have hfree':∀ k ok,ops[k]? = some ok→k≠i→(listed.setIfInBounds j true).getD k true=false →
       (∀ e∈ok.after,Region.binds .any e=true→e.on≠i)→oi.apart ops ok=true:=fun k ok hk hki hun hno=>by
      refine hfree k ok hk hki ?_ hno
      by_cases hjk:j=k
      ·subst hjk; exact hjun
      ·rw [getD_set_ne true hjk] at hun; exact hun
     refine wpOp_mono (fun a' w' h3=>?_) h2
     have hS':=h3.2.1.resolve_left hjz
     refine ⟨.inr hS',ih (listed.setIfInBounds j true) a' w' hfree' (ready_mono hr (Ne.symm hji)) h3.1 hS' ?_⟩
     rw [Array.setIfInBounds_comm _ _ hji]
     exact h3.2.2
 intro n listed a w hf
 exact main n listed a w (Region.free_spec hi hf)
theorem AnyZ.of_schedW {z:Nat} (hs:Region.noSelect ops=true):∀ (l:List (Nat×Bool)) (fuel:Nat) (listed:Array Bool) (a:Act) (w:World),l.length≤fuel→(l=[]∨C w)→schedW ops z l listed=true →
  wpSched P ops C (NoP Q) l a w→AnyZ P ops (NoP Q) C z fuel listed a w
 | [],fuel,listed,a,w,_,_,hb,h=>by
   simp only [schedW,List.isEmpty_iff] at hb
   cases fuel with
   | zero=>exact ⟨hb,h⟩
   | succ n=>exact ⟨fun _=>h,by rw [hb]; simp⟩
 | (i,true)::r,0,listed,a,w,hf,_,_,_=>by simp at hf
 | (i,false)::r,0,listed,a,w,hf,_,_,_=>by simp at hf
 | (i,true)::r,fuel+1,listed,a,w,hf,hC,hb,h=>by
   have hC:=hC.resolve_left (by simp)
   simp only [schedW,Bool.and_eq_true] at hb
   obtain ⟨⟨⟨⟨h1,h2⟩,h3⟩,h5⟩,h4⟩:=hb
   have h3:i∈Region.ready .any ops listed:=by simpa using h3
   simp only [wpSched] at h
   cases ho:ops[i]? with
   | none=>simp [ho] at h1
   | some o =>
     simp only [ho,Option.map_some,Option.getD_some] at h1
     simp only [ho] at h
     have hlen:r.length≤fuel:=by simp at hf; omega
     by_cases hw:Region.wanted o (yielded ops a.tmps)=true
     ·rw [if_pos hw] at h
      obtain ⟨v,hv,hn⟩:=h
      exact AnyZ.takeW ho (waitB_spec h5) hs (fun c a w hh=>hh.elim) fuel listed a w h2 h3 (yieldsIf_of_quiet h1 hw hv) hC (AnyZ.of_schedW hs r fuel _ _ w hlen (.inr hC) h4 hn)
     ·rw [if_neg hw] at h
      exact AnyZ.takeW (v:=undef) ho (waitB_spec h5) hs (fun c a w hh=>hh.elim) fuel listed a w h2 h3 (.inr ⟨by simpa using hw,rfl⟩) hC (AnyZ.of_schedW hs r fuel _ _ w hlen (.inr hC) h4 h)
 | (i,false)::r,fuel+1,listed,a,w,hf,hC,hb,h=>by
   have hCw:C w:=by
    rcases hC with h | h
    ·cases h
    ·exact h
   clear hC
   simp only [schedW,Bool.and_eq_true,beq_iff_eq] at hb
   obtain ⟨⟨h1,h5⟩,h4⟩:=hb
   simp only [wpSched] at h
   have hlen:r.length≤fuel:=by simp at hf; omega
   refine ⟨fun h0=>(by rw [h1] at h0; cases h0),fun j hj=>?_⟩
   rw [h1] at hj
   obtain rfl:j=i:=by simpa using hj
   have hlast:r=[]→j=z:=by
    intro hr
    simpa [hr] using h5
   unfold wpOp
   cases ho:ops[j]? with
   | none=>simp [ho] at h
   | some o =>
     simp only [ho] at h
     show if _ then _ else _
     by_cases hw:Region.wanted o (yielded ops a.tmps)=true
     ·rw [if_pos hw] at h ⊢
      exact .inl (Oper.wp_mono (fun a' w' ⟨hc,hh⟩=>⟨hc.imp hlast id,AnyZ.of_schedW hs r fuel _ a' w' hlen hc h4 hh⟩) h)
     ·rw [if_neg hw] at h ⊢
      exact ⟨.inr hCw,AnyZ.of_schedW hs r fuel _ _ w hlen (.inr hCw) h4 h⟩
def schedOkW (ops:Array Oper) (σ:List (Nat×Bool)):Bool:=Region.noSelect ops&&decide (σ.length≤ops.size)&&!σ.isEmpty&&schedW ops ((σ.getLast?.map (·.1)).getD 0) σ (Array.replicate ops.size false)
theorem any_of_schedW {a:Act} {W:World} (σ:List (Nat×Bool)) (hs:schedOkW ops σ=true) (hC:C W.drew) (h:wpSched P ops C (NoP Q) σ a W.drew):wpAny P .any ops (NoP Q) ops.size (Array.replicate ops.size false) a W.drew:=by
 simp only [schedOkW,Bool.and_eq_true,decide_eq_true_eq] at hs
 obtain ⟨⟨⟨h1,h2⟩,h3⟩,h5⟩:=hs
 exact AnyZ.any _ _ _ _ (AnyZ.of_schedW h1 σ _ _ a _ h2 (.inr hC) h5 h)
theorem wp_region_schedW {id:Nat} {a:Act} {W:World} (σ:List (Nat×Bool)) (hm:P.follows .mixedOrders=true) (hs:schedOkW ops σ=true) (hC:C W.drew)
  (h:wpSched P ops C (NoP Q) σ a W.drew):(Code.region id ops true).wp P Q a W :=
 wp_mono (wp_region_any hm (any_of_schedW σ hs hC h)) NoP_imp
theorem wpIn_region_schedW {id l n:Nat} {a:Act} {W:World} (σ:List (Nat×Bool)) (hm:P.follows .mixedOrders=true) (hs:schedOkW ops σ=true) (hnd:noDefer ops=true) (hC:C W.drew)
  (h:wpSched P ops C (NoP Q) σ a W.drew):(Code.region id ops true).wpIn (Fence.wide.inRound l) n P Q a W :=
 wpIn_mono (wpIn_region_any hm (wpAnyIn_of_wpAny hnd _ _ _ _ (any_of_schedW σ hs hC h))) NoP_imp
end
end Go.Proofs.YtaihbcmifjmapaaGreat
namespace Go.Proofs.YtaihbcmifjmapaaGreat
open Go.RowKit Go.Shelf
set_option linter.unusedVariables false
def SlT (t e size bytes:Nat) (z:Value):Prop :=
 Tryz.prog.underlying t=some (.slice e)∧((Tryz.prog.info? e).map fun i=>(i.zero,i.size,i.bytes))=some (some z,size,bytes)∧z.cells.size=size∧0 < size
theorem own_mono {w:World} {base base':Nat} {e:TypeId} {size n:Nat} {v:Value} {xs:List Value} (h:w.ownsRow base' e size v n xs) (hb:base≤base'):w.ownsRow base e size v n xs:=by
 obtain ⟨h1,h2⟩:=h
 refine ⟨h1,?_⟩
 rcases h2 with h2 | ⟨g,cap,cur,h3,h4,h5⟩
 ·exact .inl h2
 ·exact .inr ⟨g,cap,cur,h3,by omega,h5⟩
theorem own_below {w w':World} {base B:Nat} {e:TypeId} {size n:Nat} {v:Value} {xs:List Value} (h:w.ownsRow base e size v n xs) (hb:Below B w w') (hB:w.heap.size≤B):w'.ownsRow base e size v n xs:=by
 obtain ⟨h1,h2⟩:=h
 refine ⟨h1,?_⟩
 rcases h2 with h2 | ⟨g,cap,cur,h3,h4,h5,h6⟩
 ·exact .inl h2
 ·have hg:g < w.heap.size:=by
   rcases Nat.lt_or_ge g w.heap.size with h | h
   ·exact h
   ·rw [Array.getElem?_eq_none h] at h5; cases h5
  exact .inr ⟨g,cap,cur,h3,h4,(hb.block g (by omega)).trans h5,h6⟩
theorem own_call {w w':World} {base:Nat} {e:TypeId} {size n:Nat} {v:Value} {xs:List Value} (h:w.ownsRow base e size v n xs) (hb:Below w.heap.size w w'):w'.ownsRow base e size v n xs:=own_below h hb (Nat.le_refl _)
theorem wpList_app1 {W:World} {ops:Array Oper} {rest:List Oper} {o:Oper} {a:Act} {Q:Exit→Act→World→Prop} {t e size bytes:Nat} {z:Value} (hT:SlT t e size bytes z)
  (hgd:o.guard=none) (s x:Operand) (ho:o.op = .call { callee := .builtin .append,args:=#[s,x],argTypes:=#[t,t] })
  {base n c cc:Nat} {A:Option Addr} {xs:List Value} {vals:Array Value} (hs:a.eval s = .slice A n cc) (hown:∃ cap,W.ownsRow base e size (.slice A n cap) n xs∧(cc=cap∨cc=n))
  (hx:a.eval x = .slice (some ⟨W.heap.size,0,none⟩) 1 c) (hvals:vals.size=size) (h1:∀ u∈vals.toList,u.oneCell'=true) (hbase:base≤W.heap.size)
  (h63:n+1≤1048576) (hby:bytes≤1024)
  (h:∀ v' w',w'.ownsRow base e size v' (n+1) (xs++vals.toList)→Below base W w'→(∀ g,g < W.heap.size→(∀ ad,A=some ad→ad.block≠g)→w'.heap[g]? = W.heap[g]?)→wpList Tryz.prog ops Q rest (a.put o.dst v') w') :
  wpList Tryz.prog ops Q (o::rest) a (W.alloc (.cells vals e)):=by
 obtain ⟨hT1,hT2,hT3,hT4⟩:=hT
 obtain ⟨i0,hi,hz0,hz1,hz2⟩:=info_parts hT2
 obtain ⟨cap,hown,hcc⟩:=hown
 have hbytes:(n+1) * bytes≤140737488355328:=Nat.le_trans (Nat.mul_le_mul h63 hby) (by decide)
 have hnew:Blk (W.alloc (.cells vals e)) W.heap.size e vals:=Blk.new _ _ _
 have hcell:∀ j u,vals.toList[j]? = some u→(W.alloc (.cells vals e)).cell? ((⟨W.heap.size,0,none⟩:Addr).add j)=some u:=by
  intro j u hu
  have:(⟨W.heap.size,0,none⟩:Addr).add j=⟨W.heap.size,j,none⟩:=by
   unfold Addr.add; split <;> simp_all
  rw [this,hnew.cell]
  simpa using hu
 have hlen:vals.toList.length=1 * size:=by simp [hvals]
 by_cases hfull:cc=cap
 ·subst hfull
  refine wpList_append_own (P:=Tryz.prog) (W.alloc (.cells vals e)) hgd s x t ho base e i0 z size bytes hT1 hi hz0 hz1 hz2 hT3 hT4 _ n xs hs (hown.alloc _) ⟨W.heap.size,0,none⟩ 1 c vals.toList hx hlen hcell h1 (by simp only [maxLen]; omega) hbytes (by simp; omega) ?_
  intro v' w' hown' hgrow _
  refine h v' w' hown' (((Below.refl _ _).alloc hbase _).grown hgrow (by simp; omega) fun k hk=>?_) fun g hg hne=>?_
  ·exact (hown.lt k hk).1
  ·refine (hgrow.block g (by simp; omega) fun hk=>?_).trans (Below.heap_alloc W _ g hg)
   cases A with
   | none=>simp [Value.ownBlock] at hk
   | some ad=>simp only [Value.ownBlock,Option.some.injEq] at hk; exact hne ad rfl hk.symm
 ·have hcn:cc=n:=hcc.resolve_left hfull
  subst hcn
  refine wpList_append_grows (P:=Tryz.prog) (W.alloc (.cells vals e)) hgd s x t ho e i0 z size bytes hT1 hi hz0 hz1 hz2 hT3 hT4 A cc cc xs hs ?_ hown.1 ?_ ⟨W.heap.size,0,none⟩ 1 c vals.toList hx hlen hcell h1 (by omega) (by simp only [maxLen]; omega) hbytes ?_
  ·intro hA
   rcases hown.2 with ⟨h2,h3⟩ | ⟨g,cap',cur,h3,_⟩
   ·exact ⟨h3,h3⟩
   ·rw [hA] at h3; cases h3
  ·intro b hb j u hu
   rcases hown.2 with ⟨h2,h3⟩ | ⟨g,cap',cur,h3,h4,h5,h6,h7,h8,h9⟩
   ·rw [hb] at h2; cases h2
   ·have hcl:=World.ownsRow.cells (hown.alloc (.cells vals e)) (g:=b.block) (by rw [hb]; rfl) j u hu
    have hb0:b=⟨g,0,none⟩:=by
     rw [hb] at h3
     simp only [Value.slice.injEq,Option.some.injEq] at h3
     exact h3.1
    have hb1:(⟨b.block,0,none⟩:Addr)=b:=by rw [hb0]
    rw [hb1] at hcl
    exact hcl
  ·intro v' w' hown' hgrow
   refine h v' w' (own_mono hown' (by simp; omega)) (((Below.refl _ _).alloc hbase _).grown hgrow (by simp; omega) fun k hk=>by cases hk) fun g hg hne=>?_
   exact (hgrow.block g (by simp; omega) fun hk=>by cases hk).trans (Below.heap_alloc W _ g hg)
theorem own_cap {w:World} {base:Nat} {e:TypeId} {size n m cap:Nat} {A:Option Addr} {xs:List Value} (h:w.ownsRow base e size (.slice A m cap) n xs):m=n∧n≤cap∧cap≤9223372036854775807:=by
 rcases h.2 with ⟨h1,h2⟩ | ⟨g,c,cur,h1,h2,h3,h4,h5,h6⟩
 ·injection h1 with _ h3 h4
  subst h3 h4 h2
  omega
 ·injection h1 with _ h7 h8
  subst h7 h8
  exact ⟨rfl,h4,by simpa only [maxLen] using h5⟩
theorem one_1 {k:IntKind} {n:Int}:∀ u∈(#[Value.int k n]:Array Value).toList,u.oneCell'=true:=by simp [Value.oneCell']
theorem one_3 {k k' k'':IntKind} {n n' n'':Int}:∀ u∈(#[Value.int k n,Value.int k' n',Value.int k'' n'']:Array Value).toList,u.oneCell'=true:=by simp [Value.oneCell']
theorem own_form {w:World} {base:Nat} {e:TypeId} {size n:Nat} {v:Value} {xs:List Value} (h:w.ownsRow base e size v n xs):∃ A cap,v = .slice A n cap:=by
 rcases h.2 with ⟨h1,h2⟩ | ⟨g,c,cur,h1,_⟩
 ·exact ⟨none,0,by rw [h1,h2]⟩
 ·exact ⟨_,_,h1⟩
theorem own_ne {w:World} {base:Nat} {e:TypeId} {size n cap:Nat} {A:Option Addr} {xs:List Value} {g:Nat} (h:w.ownsRow base e size (.slice A n cap) n xs) (hg:w.heap.size≤g):∀ ad,A=some ad→ad.block≠g:=by
 intro ad ha
 have:=(h.lt ad.block (by rw [ha]; rfl)).2
 omega
theorem ret_t2 {a a':Value} {k':IntKind} {c c':Int} (h1:a=a') (h3:c=c'):Ending.returned (.tuple #[a,.int k' c])=Ending.returned (.tuple #[a',.int k' c']):=by rw [h1,h3]
def cellsOf {α:Type} (size:Nat) (cell:α→Nat→Value) (x:α):List Value:=(List.range size).map (cell x)
theorem flat_get {α:Type} (size:Nat) (cell:α→Nat→Value) (l:List α):∀ (i:Nat) (x:α),l[i]? = some x→∀ j,j < size→(l.flatMap (cellsOf size cell))[i * size+j]? = some (cell x j):=by
 induction l with
 | nil=>intro i x h; simp at h
 | cons y r ih =>
   intro i x h j hj
   have hlen:(cellsOf size cell y).length=size:=by simp [cellsOf]
   cases i with
   | zero =>
     simp at h
     subst h
     rw [List.flatMap_cons,List.getElem?_append_left (by omega)]
     simp [cellsOf,hj]
   | succ i =>
     rw [List.getElem?_cons_succ] at h
     rw [List.flatMap_cons,List.getElem?_append_right (by rw [hlen,Nat.add_mul]; omega),hlen]
     rw [show (i+1) * size+j-size=i * size+j by rw [Nat.add_mul]; omega]
     exact ih i x h j hj
theorem Arr.of_own {α:Type} {w:World} {base:Nat} {e:TypeId} {size:Nat} {v:Value} {l:List α} {cell:α→Nat→Value} (h:w.ownsRow base e size v l.length (l.flatMap (cellsOf size cell))):Arr w w.heap.size size v l cell:=by
 obtain ⟨h1,h2⟩:=h
 rcases h2 with ⟨hv,hn⟩ | ⟨g,cap,cur,hv,hg,hh,hc,hm,hs,ht⟩
 ·refine ⟨none,0,by rw [hv,hn],by omega,by omega,fun h=>by omega⟩
 ·refine ⟨some ⟨g,0,none⟩,cap,hv,hc,by simpa only [maxLen] using hm,fun hl=>⟨g,0,rfl,?_,fun i x hx j hj=>?_⟩⟩
  ·rcases Nat.lt_or_ge g w.heap.size with hlt | hge
   ·exact hlt
   ·rw [Array.getElem?_eq_none hge] at hh; cases hh
  ·have hf:=flat_get size cell l i x hx j hj
   rw [← ht,List.getElem?_take] at hf
   split at hf
   ·have hb:Blk w g e cur:=hh
    rw [hb.cell,Nat.zero_add]
    simpa using hf
   ·cases hf
theorem own_snoc {α:Type} {w:World} {base:Nat} {e:TypeId} {size n:Nat} {v:Value} {l:List α} {cell:α→Nat→Value} {x:α} {vals:Array Value} (hn:n=l.length) (hv:vals.toList=cellsOf size cell x)
  (h:w.ownsRow base e size v (n+1) (l.flatMap (cellsOf size cell)++vals.toList)):w.ownsRow base e size v (l++[x]).length ((l++[x]).flatMap (cellsOf size cell)):=by
 subst hn
 simpa [hv] using h
end Go.Proofs.YtaihbcmifjmapaaGreat
namespace Go.Proofs.YtaihbcmifjmapaaGreat
open Go.RowKit Go.Shelf
set_option linter.unusedVariables false
theorem CylV.open_ {w:World} {B:Nat} {v:Value} {c:Cyl} (h:CylV w B v c) :
  ∃ fa fc pa pc,v = .agg #[.int .i64 c.turns,.int .i64 c.long,.int .i64 c.plays,.slice fa c.frag.length fc,.slice pa c.pas.length pc] ∧
   Arr w B 1 (.slice fa c.frag.length fc) c.frag icell∧Arr w B 3 (.slice pa c.pas.length pc) c.pas pcell:=by
 obtain ⟨fv,pv,rfl,hf,hp⟩:=h
 have hf':=hf
 have hp':=hp
 obtain ⟨fa,fc,rfl,_⟩:=hf
 obtain ⟨pa,pc,rfl,_⟩:=hp
 exact ⟨fa,fc,pa,pc,rfl,hf',hp'⟩
structure CB (W:World) (B g:Nat) (c:Cyl) (fa:Option Addr) (fc:Nat) (pa:Option Addr) (pc:Nat):Prop where
 blk:Blk W g 34 #[.int .i64 c.turns,.int .i64 c.long,.int .i64 c.plays,.slice fa c.frag.length fc,.slice pa c.pas.length pc]
 fr:Arr W B 1 (.slice fa c.frag.length fc) c.frag icell
 ps:Arr W B 3 (.slice pa c.pas.length pc) c.pas pcell
 le:B≤g
section
variable {W W':World} {B g:Nat} {c:Cyl} {fa pa:Option Addr} {fc pc:Nat}
theorem CB.new {w:World} (hf:Arr w w.heap.size 1 (.slice fa c.frag.length fc) c.frag icell) (hp:Arr w w.heap.size 3 (.slice pa c.pas.length pc) c.pas pcell) :
  CB (w.alloc (.cells #[.int .i64 c.turns,.int .i64 c.long,.int .i64 c.plays,.slice fa c.frag.length fc,.slice pa c.pas.length pc] 34)) w.heap.size w.heap.size c fa fc pa pc :=
 ⟨Blk.new _ _ _,hf.alloc (Nat.le_refl _) _,hp.alloc (Nat.le_refl _) _,Nat.le_refl _⟩
theorem CB.cyl (h:CB W B g c fa fc pa pc):CylV W W.heap.size (.agg #[.int .i64 c.turns,.int .i64 c.long,.int .i64 c.plays,.slice fa c.frag.length fc,.slice pa c.pas.length pc]) c :=
 ⟨_,_,rfl,h.fr.more (by have:=h.le; have:=h.blk.lt; omega),h.ps.more (by have:=h.le; have:=h.blk.lt; omega)⟩
theorem CB.call (h:CB W B g c fa fc pa pc) (hb:Below W.heap.size W W'):CB W' B g c fa fc pa pc:=by
 have h1:=h.le
 have h2:=h.blk.lt
 exact ⟨h.blk.call hb,h.fr.below (hb.mono (by omega)),h.ps.below (hb.mono (by omega)),h1⟩
theorem CB.belowB {B0:Nat} (h:CB W B g c fa fc pa pc) (hb:Below B0 W W') (hg:g < B0):CB W' B g c fa fc pa pc:=by
 have h1:=h.le
 exact ⟨h.blk.below hb hg,h.fr.below (hb.mono (by omega)),h.ps.below (hb.mono (by omega)),h1⟩
theorem CB.alloc (h:CB W B g c fa fc pa pc) (o:Obj):CB (W.alloc o) B g c fa fc pa pc:=h.call ((Below.refl _ _).alloc (Nat.le_refl _) _)
theorem CB.drew (h:CB W B g c fa fc pa pc):CB W.drew B g c fa fc pa pc:=⟨h.blk,h.fr,h.ps,h.le⟩
theorem CB.drewN (h:CB W B g c fa fc pa pc) (n:Nat):CB (W.drewN n) B g c fa fc pa pc:=⟨h.blk,h.fr,h.ps,h.le⟩
theorem CB.c5 (h:CB W B g c fa fc pa pc) :
  W.cell? ⟨g,0,none⟩=some (.int .i64 c.turns)∧W.cell? ⟨g,1,none⟩=some (.int .i64 c.long)∧W.cell? ⟨g,2,none⟩=some (.int .i64 c.plays)∧W.cell? ⟨g,3,none⟩=some (.slice fa c.frag.length fc)∧W.cell? ⟨g,4,none⟩=some (.slice pa c.pas.length pc) :=
 h.blk.c5
end
theorem Arr.at_ {α:Type} {w:World} {B size n c:Nat} {A:Option Addr} {l:List α} {cell:α→Nat→Value} (h:Arr w B size (.slice A n c) l cell) {k:Nat} (hk:k < l.length) :
  ∃ b off x,A=some ⟨b,off,none⟩∧b < B∧l[k]? = some x∧∀ j,j < size→w.cell? ⟨b,off+k * size+j,none⟩=some (cell x j):=by
 obtain ⟨A',c',hv,h1,h2,h3⟩:=h
 injection hv with hA _ _
 subst hA
 obtain ⟨b,off,ha,hb,hc⟩:=h3 (by omega)
 exact ⟨b,off,l[k],ha,hb,List.getElem?_eq_getElem hk,hc k _ (List.getElem?_eq_getElem hk)⟩
theorem Arr.len_ {α:Type} {w:World} {B size n c:Nat} {A:Option Addr} {l:List α} {cell:α→Nat→Value} (h:Arr w B size (.slice A n c) l cell):n=l.length∧l.length≤c∧c≤9223372036854775807:=by
 obtain ⟨A',c',hv,h1,h2,h3⟩:=h
 injection hv with _ hn hc
 subst hn hc
 exact ⟨rfl,h1,h2⟩
theorem cyl_valid {c:Cyl} (h:checkCyl c=0):argOk c=true∧fragOk c.turns (-1) c.frag=true∧c.pas.length≤12∧c.pas.all (pasOk c.turns)=true:=by
 unfold checkCyl at h
 split at h
 ·omega
 ·split at h
  ·omega
  ·split at h
   ·omega
   ·split at h
    ·omega
    ·rename_i h1 h2 h3 h4
     exact ⟨by simpa using h1,by simpa using h2,by omega,by simpa using h4⟩
end Go.Proofs.YtaihbcmifjmapaaGreat
