/- Schedules of a region: the last operation need wait only for those that are taken first. -/
import Derived.Test.YtjpfjklobnilkaaGreatPC
namespace Go.Proofs.YtjpfjklobnilkaaGreat
open Go.RowKit
set_option linter.unusedVariables false
section
variable {m:Nat} {P:Program} {ops:Array Oper} {Q:Exit→Act→World→Prop} {C:World→Prop}
def waitB (ops:Array Oper) (z i:Nat):Bool :=
 match ops[z]? with
 | none=>false
 | some oz=>oz.after.any fun e=>Region.binds .any e&&e.on==i
theorem waitB_spec {z i:Nat} (h:waitB ops z i=true):∀ oz,ops[z]? = some oz→∃ e∈oz.after,Region.binds .any e=true∧e.on=i:=by
 intro oz hoz
 unfold waitB at h
 simp only [hoz] at h
 obtain ⟨k,hk,h2,h3⟩:∃ k,∃ h:k < oz.after.size,Region.binds .any oz.after[k]=true∧oz.after[k].on=i:=by simpa using h
 exact ⟨_,Array.getElem_mem hk,h2,h3⟩
def schedW (ops:Array Oper) (z:Nat):List (Nat×Bool)→Array Bool→Bool
 | [],listed=>(Region.ready .any ops listed).isEmpty
 | (i,true)::r,listed=>((ops[i]?).map valOnly).getD false&&Region.free .any ops listed i&&(Region.ready .any ops listed).contains i&&waitB ops z i&&schedW ops z r (listed.setIfInBounds i true)
 | (i,false)::r,listed=>(Region.ready .any ops listed==[i])&&(!r.isEmpty||i==z)&&schedW ops z r (listed.setIfInBounds i true)
theorem AnyZ.takeW {z i:Nat} {oi:Oper} {v:Value} (hi:ops[i]? = some oi) (hwait:∀ oz,ops[z]? = some oz→∃ e∈oz.after,Region.binds .any e=true∧e.on=i) (hsel:Region.noSelect ops=true) (hQ:∀ c a w,Q (.panic c) (a.put oi.dst v) w→Q (.panic c) a w) :
  ∀ (n:Nat) (listed:Array Bool) (a:Act) (w:World),Region.free .any ops listed i=true→i∈Region.ready .any ops listed→YieldsIf P ops C oi v a→C w →
   AnyZ P ops Q C z n (listed.setIfInBounds i true) (a.put oi.dst v) w→AnyZ P ops Q C z (n+1) listed a w:=by
 have hs:=Region.noSelect_spec hsel
 have main:∀ (n:Nat) (listed:Array Bool) (a:Act) (w:World),
   (∀ j oj,ops[j]? = some oj→j≠i→listed.getD j true=false→(∀ e∈oj.after,Region.binds .any e=true→e.on≠i)→oi.apart ops oj=true) →
   i∈Region.ready .any ops listed→YieldsIf P ops C oi v a→C w →
   AnyZ P ops Q C z n (listed.setIfInBounds i true) (a.put oi.dst v) w→AnyZ P ops Q C z (n+1) listed a w:=by
  intro n
  induction n with
  | zero =>
    intro listed a w _ hr hy hS H
    refine ⟨fun h=>(by rw [h] at hr; cases hr),fun j hj=>?_⟩
    by_cases hji:j=i
    ·subst hji; exact hy.wpOp hi hS ⟨.inr hS,H⟩
    ·have h1:=ready_mono hj hji
     rw [H.1] at h1
     cases h1
  | succ n ih =>
    intro listed a w hfree hr hy hS H
    refine ⟨fun h=>(by rw [h] at hr; cases hr),fun j hj=>?_⟩
    by_cases hji:j=i
    ·subst hji; exact hy.wpOp hi hS ⟨.inr hS,H⟩
    ·have h1:=H.2 j (ready_mono hj hji)
     obtain ⟨hjun,oj,hoj,hall⟩:=mem_ready.1 hj
     have hnot:∀ e∈oj.after,Region.binds .any e=true→e.on≠i:=fun e he hb heq=>by
      have h1:=hall e he hb
      have h0:=(mem_ready.1 hr).1
      rw [heq] at h1
      rcases Nat.lt_or_ge i listed.size with h' | h'
      ·simp [h'] at h0 h1; rw [h0] at h1; cases h1
      ·simp [Array.getElem?_eq_none h'] at h1
     have hjz:j≠z:=by
      rintro rfl
      obtain ⟨e,he,hb,hon⟩:=hwait oj hoj
      exact hnot e he hb hon
     have h2:=wpOp_putIf hoj (hfree j oj hoj hji hjun hnot) (fun cs b=>hs i oi cs b hi) (fun cs b=>hs j oj cs b hoj) hQ hy h1
     have hfree':∀ k ok,ops[k]? = some ok→k≠i→(listed.setIfInBounds j true).getD k true=false →
       (∀ e∈ok.after,Region.binds .any e=true→e.on≠i)→oi.apart ops ok=true:=fun k ok hk hki hun hno=>by
      refine hfree k ok hk hki ?_ hno
      by_cases hjk:j=k
      ·subst hjk; exact hjun
      ·rw [getD_set_ne true hjk] at hun; exact hun
     refine wpOp_mono (fun a' w' h3=>?_) h2
     have hS':=h3.2.1.resolve_left hjz
     refine ⟨.inr hS',ih (listed.setIfInBounds j true) a' w' hfree' (ready_mono hr (Ne.symm hji)) h3.1 hS' ?_⟩
     rw [Array.setIfInBounds_comm _ _ hji]
     exact h3.2.2
 intro n listed a w hf
 exact main n listed a w (Region.free_spec hi hf)
theorem AnyZ.of_schedW {z:Nat} (hs:Region.noSelect ops=true):∀ (l:List (Nat×Bool)) (fuel:Nat) (listed:Array Bool) (a:Act) (w:World),l.length≤fuel→(l=[]∨C w)→schedW ops z l listed=true →
  wpSched P ops C (NoP Q) l a w→AnyZ P ops (NoP Q) C z fuel listed a w
 | [],fuel,listed,a,w,_,_,hb,h=>by
   simp only [schedW,List.isEmpty_iff] at hb
   cases fuel with
   | zero=>exact ⟨hb,h⟩
   | succ n=>exact ⟨fun _=>h,by rw [hb]; simp⟩
 | (i,true)::r,0,listed,a,w,hf,_,_,_=>by simp at hf
 | (i,false)::r,0,listed,a,w,hf,_,_,_=>by simp at hf
 | (i,true)::r,fuel+1,listed,a,w,hf,hC,hb,h=>by
   have hC:=hC.resolve_left (by simp)
   simp only [schedW,Bool.and_eq_true] at hb
   obtain ⟨⟨⟨⟨h1,h2⟩,h3⟩,h5⟩,h4⟩:=hb
   have h3:i∈Region.ready .any ops listed:=by simpa using h3
   simp only [wpSched] at h
   cases ho:ops[i]? with
   | none=>simp [ho] at h1
   | some o =>
     simp only [ho,Option.map_some,Option.getD_some] at h1
     simp only [ho] at h
     have hlen:r.length≤fuel:=by simp at hf; omega
     by_cases hw:Region.wanted o (yielded ops a.tmps)=true
     ·rw [if_pos hw] at h
      obtain ⟨v,hv,hn⟩:=h
      exact AnyZ.takeW ho (waitB_spec h5) hs (fun c a w hh=>hh.elim) fuel listed a w h2 h3 (yieldsIf_of_quiet h1 hw hv) hC (AnyZ.of_schedW hs r fuel _ _ w hlen (.inr hC) h4 hn)
     ·rw [if_neg hw] at h
      exact AnyZ.takeW (v:=undef) ho (waitB_spec h5) hs (fun c a w hh=>hh.elim) fuel listed a w h2 h3 (.inr ⟨by simpa using hw,rfl⟩) hC (AnyZ.of_schedW hs r fuel _ _ w hlen (.inr hC) h4 h)
 | (i,false)::r,fuel+1,listed,a,w,hf,hC,hb,h=>by
   have hCw:C w:=by
    rcases hC with h | h
    ·cases h
    ·exact h
   clear hC
   simp only [schedW,Bool.and_eq_true,beq_iff_eq] at hb
   obtain ⟨⟨h1,h5⟩,h4⟩:=hb
   simp only [wpSched] at h
   have hlen:r.length≤fuel:=by simp at hf; omega
   refine ⟨fun h0=>(by rw [h1] at h0; cases h0),fun j hj=>?_⟩
   rw [h1] at hj
   obtain rfl:j=i:=by simpa using hj
   have hlast:r=[]→j=z:=by
    intro hr
    simpa [hr] using h5
   unfold wpOp
   cases ho:ops[j]? with
   | none=>simp [ho] at h
   | some o =>
     simp only [ho] at h
     show if _ then _ else _
     by_cases hw:Region.wanted o (yielded ops a.tmps)=true
     ·rw [if_pos hw] at h ⊢
      exact .inl (Oper.wp_mono (fun a' w' ⟨hc,hh⟩=>⟨hc.imp hlast id,AnyZ.of_schedW hs r fuel _ a' w' hlen hc h4 hh⟩) h)
     ·rw [if_neg hw] at h ⊢
      exact ⟨.inr hCw,AnyZ.of_schedW hs r fuel _ _ w hlen (.inr hCw) h4 h⟩
def schedOkW (ops:Array Oper) (σ:List (Nat×Bool)):Bool:=Region.noSelect ops&&decide (σ.length≤ops.size)&&!σ.isEmpty&&schedW ops ((σ.getLast?.map (·.1)).getD 0) σ (Array.replicate ops.size false)
theorem any_of_schedW {a:Act} {W:World} (σ:List (Nat×Bool)) (hs:schedOkW ops σ=true) (hC:C W.drew) (h:wpSched P ops C (NoP Q) σ a W.drew):wpAny P .any ops (NoP Q) ops.size (Array.replicate ops.size false) a W.drew:=by
 simp only [schedOkW,Bool.and_eq_true,decide_eq_true_eq] at hs
 obtain ⟨⟨⟨h1,h2⟩,h3⟩,h5⟩:=hs
 exact AnyZ.any _ _ _ _ (AnyZ.of_schedW h1 σ _ _ a _ h2 (.inr hC) h5 h)
theorem wp_region_schedW {id:Nat} {a:Act} {W:World} (σ:List (Nat×Bool)) (hm:P.follows .mixedOrders=true) (hs:schedOkW ops σ=true) (hC:C W.drew)
  (h:wpSched P ops C (NoP Q) σ a W.drew):(Code.region id ops true).wp P Q a W :=
 wp_mono (wp_region_any hm (any_of_schedW σ hs hC h)) NoP_imp
end
end Go.Proofs.YtjpfjklobnilkaaGreat
