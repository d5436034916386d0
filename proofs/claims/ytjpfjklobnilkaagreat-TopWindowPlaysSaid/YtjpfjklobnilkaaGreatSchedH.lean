/- Regions that draw their order, walked in one order of our choosing, guards and all; the class of worlds holds behind each operation, the last one too. -/
import Derived.Test.YtjpfjklobnilkaaGreatPC
namespace Go.Proofs.YtjpfjklobnilkaaGreat
open Go.RowKit
set_option linter.unusedVariables false
section
variable {P:Program} {ops:Array Oper} {Q:Exit→Act→World→Prop} {C:World→Prop}
def wpSchedH (P:Program) (ops:Array Oper) (C:World→Prop) (Q:Exit→Act→World→Prop):List (Nat×Bool)→Act→World→Prop
 | [],a,w=>Q .normal a w
 | (i,true)::r,a,w=>match ops[i]? with
   | none=>False
   | some o=>if Region.wanted o (yielded ops a.tmps) then o.quiet P a C (fun a'=>wpSchedH P ops C Q r a' w) else wpSchedH P ops C Q r (a.put o.dst undef) w
 | (i,false)::r,a,w=>match ops[i]? with
   | none=>False
   | some o=>if Region.wanted o (yielded ops a.tmps) then o.wp P a w (fun a' w'=>C w'∧wpSchedH P ops C Q r a' w') Q else wpSchedH P ops C Q r (a.put o.dst undef) w
def schedBH (ops:Array Oper):List (Nat×Bool)→Array Bool→Bool
 | [],listed=>(Region.ready .any ops listed).isEmpty
 | (i,true)::r,listed=>((ops[i]?).map valOnly).getD false&&Region.free .any ops listed i&&(Region.ready .any ops listed).contains i&&schedBH ops r (listed.setIfInBounds i true)
 | (i,false)::r,listed=>(Region.ready .any ops listed==[i])&&schedBH ops r (listed.setIfInBounds i true)
theorem held_of_sched (hs:Region.noSelect ops=true):∀ (l:List (Nat×Bool)) (fuel:Nat) (listed:Array Bool) (a:Act) (w:World),l.length≤fuel→C w→schedBH ops l listed=true →
  wpSchedH P ops C (NoP Q) l a w→wpAnyH P .any ops (NoP Q) C fuel listed a w
 | [],fuel,listed,a,w,_,_,hb,h=>wpAnyH_done (by simpa [schedBH] using hb) h fuel
 | (i,true)::r,0,listed,a,w,hf,_,_,_=>by simp at hf
 | (i,false)::r,0,listed,a,w,hf,_,_,_=>by simp at hf
 | (i,true)::r,fuel+1,listed,a,w,hf,hC,hb,h=>by
   simp only [schedBH,Bool.and_eq_true] at hb
   obtain ⟨⟨⟨h1,h2⟩,h3⟩,h4⟩:=hb
   simp only [wpSchedH] at h
   cases ho:ops[i]? with
   | none=>simp [ho] at h1
   | some o =>
     simp only [ho,Option.map_some,Option.getD_some] at h1
     simp only [ho] at h
     have hlen:r.length≤fuel:=by simp at hf; omega
     by_cases hw:Region.wanted o (yielded ops a.tmps)=true
     ·rw [if_pos hw] at h
      obtain ⟨v,hv,hn⟩:=h
      exact wpAnyH_take ho hs h2 h3 (fun c a w hh=>hh.elim) (yieldsIf_of_quiet h1 hw hv) hC (held_of_sched hs r fuel _ _ w hlen hC h4 hn)
     ·rw [if_neg hw] at h
      exact wpAnyH_take (v:=undef) ho hs h2 h3 (fun c a w hh=>hh.elim) (.inr ⟨by simpa using hw,rfl⟩) hC (held_of_sched hs r fuel _ _ w hlen hC h4 h)
 | (i,false)::r,fuel+1,listed,a,w,hf,hC,hb,h=>by
   simp only [schedBH,Bool.and_eq_true,beq_iff_eq] at hb
   obtain ⟨h1,h4⟩:=hb
   simp only [wpSchedH] at h
   have hlen:r.length≤fuel:=by simp at hf; omega
   refine wpAnyH_all h1 (by simp) fun j hj=>?_
   obtain rfl:j=i:=by simpa using hj
   unfold wpOp
   cases ho:ops[j]? with
   | none=>simp [ho] at h
   | some o =>
     simp only [ho] at h
     show if _ then _ else _
     by_cases hw:Region.wanted o (yielded ops a.tmps)=true
     ·rw [if_pos hw] at h ⊢
      exact .inl (Oper.wp_mono (fun a' w' ⟨hc,hh⟩=>⟨hc,held_of_sched hs r fuel _ a' w' hlen hc h4 hh⟩) h)
     ·rw [if_neg hw] at h ⊢
      exact ⟨hC,held_of_sched hs r fuel _ _ w hlen hC h4 h⟩
def schedOkH (ops:Array Oper) (σ:List (Nat×Bool)):Bool:=Region.noSelect ops&&decide (σ.length≤ops.size)&&schedBH ops σ (Array.replicate ops.size false)
theorem wp_region_schedH {id:Nat} {a:Act} {W:World} (σ:List (Nat×Bool)) (hm:P.follows .mixedOrders=true) (hs:schedOkH ops σ=true) (hC:C W.drew)
  (h:wpSchedH P ops C (NoP Q) σ a W.drew):(Code.region id ops true).wp P Q a W:=by
 simp only [schedOkH,Bool.and_eq_true,decide_eq_true_eq] at hs
 obtain ⟨⟨h1,h2⟩,h3⟩:=hs
 exact wp_mono (wp_region_held hm (held_of_sched h1 σ _ _ a _ h2 hC h3 h)) NoP_imp
theorem schedH_q {l rest:List Oper} {i:Nat} {r:List (Nat×Bool)} {a:Act} {w:World} {o:Oper} (hi:l.drop i=o::rest) (hw:Region.wanted o (yielded l.toArray a.tmps)=true) (h:∀ K:Act→Prop,(∀ a',wpSchedH P l.toArray C Q r a' w→K a')→o.quiet P a C K):wpSchedH P l.toArray C Q ((i,true)::r) a w:=by
 have hi:=getElem?_of_drop hi
 simp only [wpSchedH,hi,hw,if_true]
 exact h _ fun _ h=>h
theorem schedH_c {l rest:List Oper} {i:Nat} {r:List (Nat×Bool)} {a:Act} {w:World} {o:Oper} (hi:l.drop i=o::rest) (hw:Region.wanted o (yielded l.toArray a.tmps)=true) (h:∀ K:Act→World→Prop,(∀ a' w',C w'∧wpSchedH P l.toArray C (NoP Q) r a' w'→K a' w')→wpList P l.toArray (NoP (Exit.then K Q)) [o] a w):wpSchedH P l.toArray C (NoP Q) ((i,false)::r) a w:=by
 have hi:=getElem?_of_drop hi
 simp only [wpSchedH,hi,hw,if_true]
 have h1:=h _ fun _ _ h=>h
 simp only [wpList,hw,if_true] at h1
 rcases h1 with h1 | ⟨_,a',w',h2⟩
 ·unfold Oper.wp at h1 ⊢
  generalize (execOp a.eval o).run P w=q at *
  cases q with
  | ok x w' =>
    cases x <;> simp only [Oper.upon] at h1 ⊢
    case value v=>exact h1
    case skip=>exact h1
    case defer d=>exact h1
    case enter f args =>
     refine h1.mono fun e w'' hh=>?_
     cases e with
     | returned v=>exact hh
     | panicked ch=>exact hh.elim
     | outgrown=>obtain ⟨a,w,hh⟩:=hh; exact hh.elim
    case row row args=>exact h1
  | halt x w'=>cases x <;> simp only [Oper.upon] at h1 ⊢ <;> first | exact h1 | exact h1.elim
 ·exact h2.elim
theorem schedH_nil {a:Act} {w:World} (h:Q .normal a w):wpSchedH P ops C (NoP Q) [] a w:=h
end
end Go.Proofs.YtjpfjklobnilkaaGreat
