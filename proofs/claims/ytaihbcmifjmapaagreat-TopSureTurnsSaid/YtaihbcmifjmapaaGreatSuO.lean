/- Regions that draw their order, walked by what holds whatever has come up so far; appends, and where the new row lies. -/
import Derived.Test.YtaihbcmifjmapaaGreatPC
import Derived.Test.YtaihbcmifjmapaaGreatPG
import Derived.Test.YtaihbcmifjmapaaGreatPT
import Derived.Maps.AppendAt
namespace Go.Proofs.YtaihbcmifjmapaaGreat
open Go.RowKit Go.Shelf
set_option linter.unusedVariables false
section
variable {P:Program} {Q:Exit→Act→World→Prop} {C:World→Prop} {l:List Oper}
theorem ways_qr {rest:List Oper} {fuel:Nat} {listed:Array Bool} {a:Act} {w:World} {o:Oper} (i:Nat) (hi:l.drop i=o::rest) (hv:valOnly o=true) (hs:Region.noSelect l.toArray=true) (hf:Region.free .any l.toArray listed i=true) (hr:(Region.ready .any l.toArray listed).contains i=true)
  (hw:Region.wanted o (yielded l.toArray a.tmps)=true) (hC:C w) (h:∀ K:Act→Prop,(∀ a',wpAnyH P .any l.toArray (NoP Q) C fuel (listed.setIfInBounds i true) a' w→K a')→o.quiet P a C K) :
  wpAnyH P .any l.toArray (NoP Q) C (fuel+1) listed a w:=by
 have hi:=getElem?_of_drop hi
 obtain ⟨v,hv',hn⟩:=h _ fun _ h=>h
 exact wpAnyH_take hi hs hf hr (fun c a w hh=>hh.elim) (yieldsIf_of_quiet hv hw hv') hC hn
theorem cnt_set {ls:Array Bool} {i:Nat} (h:ls.getD i true=false):(ls.setIfInBounds i true).toList.count false < ls.toList.count false:=by
 have hi:i < ls.size:=by
  rcases Nat.lt_or_ge i ls.size with h' | h'
  ·exact h'
  ·rw [show ls.getD i true=true by simp [Array.getD_eq_getD_getElem?,Array.getElem?_eq_none h']] at h
   cases h
 have hx:ls.toList[i]'(by simpa using hi)=false:=by
  simpa [hi] using h
 rw [Array.toList_setIfInBounds,List.count_set (by simpa using hi),hx]
 have hpos:0 < ls.toList.count false:=List.count_pos_iff.2 (by rw [← hx]; exact List.getElem_mem _)
 simp only [beq_self_eq_true,if_true,show (true==false)=false from rfl,Bool.false_eq_true,if_false]
 omega
theorem any_inv (J:Array Bool→Act→World→Prop) (hC:∀ ls a w,J ls a w→C w) (hend:∀ ls a w,J ls a w→Region.ready .any l.toArray ls=[]→Q .normal a w)
  (hstep:∀ ls a w i,J ls a w→i∈Region.ready .any l.toArray ls→∃ o rest,l.drop i=o::rest∧Region.wanted o (yielded l.toArray a.tmps)=true ∧
   ∀ K:Act→World→Prop,(∀ a' w',J (ls.setIfInBounds i true) a' w'→K a' w')→wpList P l.toArray (NoP (Exit.then K Q)) [o] a w) :
  ∀ (n:Nat) (ls:Array Bool) (a:Act) (w:World),J ls a w→ls.toList.count false≤n→wpAnyH P .any l.toArray (NoP Q) C n ls a w
 | 0,ls,a,w,hJ,hn=>by
   have hr:Region.ready .any l.toArray ls=[]:=by
    refine List.eq_nil_iff_forall_not_mem.2 fun i hi=>?_
    have:=cnt_set (mem_ready.1 hi).1
    omega
   exact ⟨hr,hend ls a w hJ hr⟩
 | n+1,ls,a,w,hJ,hn=>by
   refine ⟨fun hr=>hend ls a w hJ hr,fun i hi=>?_⟩
   obtain ⟨o,rest,h1,h2,h3⟩:=hstep ls a w i hJ hi
   refine Way.op ⟨o,rest,h1,h2,fun K hK=>h3 K fun a' w' hJ'=>hK a' w' ⟨hC _ _ _ hJ',any_inv J hC hend hstep n _ a' w' hJ' ?_⟩⟩
   have:=cnt_set (mem_ready.1 hi).1
   omega
theorem any_inv1 (J:Act→Array Bool→Act→World→Prop) {a1:Act} {n:Nat} {ls:Array Bool} {w:World} (hn:ls.toList.count false≤n) (hJ:J a1 ls a1 w) (hC:∀ ls a w,J a1 ls a w→C w)
  (hstep:∀ ls a w i,J a1 ls a w→i∈Region.ready .any l.toArray ls→∃ o rest,l.drop i=o::rest∧Region.wanted o (yielded l.toArray a.tmps)=true ∧
   ∀ K:Act→World→Prop,(∀ a' w',J a1 (ls.setIfInBounds i true) a' w'→K a' w')→wpList P l.toArray (NoP (Exit.then K Q)) [o] a w)
  (hend:∀ ls a w,J a1 ls a w→Region.ready .any l.toArray ls=[]→Q .normal a w):wpAnyH P .any l.toArray (NoP Q) C n ls a1 w :=
 any_inv (J a1) hC hend hstep n ls a1 w hJ hn
end
theorem wpList_appMA {W:World} {ops:Array Oper} {rest:List Oper} {o:Oper} {a:Act} {Q:Exit→Act→World→Prop} {t e size bytes:Nat} {z:Value} (hT:SlT t e size bytes z)
  (hgd:o.guard=none) (s x:Operand) (ho:o.op = .call { callee := .builtin .append,args:=#[s,x],argTypes:=#[t,t] })
  {base n c m:Nat} {sv:Value} {xs:List Value} (hs:a.eval s=sv) (hown:W.ownsRow base e size sv n xs) (ad:Addr)
  (hx:a.eval x = .slice (some ad) m c) (news:List Value) (hlen:news.length=m * size) (hcell:∀ j u,news[j]? = some u→W.cell? (ad.add j)=some u) (h1:∀ u∈news,u.oneCell'=true) (hbase:base≤W.heap.size)
  (h63:n+m≤1048576) (hby:bytes≤1024)
  (h:∀ v' w',w'.ownsRow base e size v' (n+m) (xs++news)→Below base W w'→W.grownBy w' sv.ownBlock→(v'.ownBlock=sv.ownBlock∨v'.ownBlock=some W.heap.size)→wpList Tryz.prog ops Q rest (a.put o.dst v') w') :
  wpList Tryz.prog ops Q (o::rest) a W:=by
 obtain ⟨hT1,hT2,hT3,hT4⟩:=hT
 obtain ⟨i0,hi,hz0,hz1,hz2⟩:=info_parts hT2
 have hbytes:(n+m) * bytes≤140737488355328:=Nat.le_trans (Nat.mul_le_mul h63 hby) (by decide)
 refine wpList_append_own_at (P:=Tryz.prog) W hgd s x t ho base e i0 z size bytes hT1 hi hz0 hz1 hz2 hT3 hT4 _ n xs hs hown ad m c news hx hlen hcell h1 (by simp only [maxLen]; omega) hbytes hbase ?_
 intro v' w' hown' hgrow _ hat
 refine h v' w' hown' ((Below.refl _ _).grown hgrow hbase fun k hk=>?_) hgrow hat
 exact (hown.lt k hk).1
theorem wpList_appArrA {α:Type} {W:World} {ops:Array Oper} {rest:List Oper} {o:Oper} {a:Act} {Q:Exit→Act→World→Prop} {t e size bytes:Nat} {z:Value} (hT:SlT t e size bytes z)
  (hgd:o.guard=none) (s x:Operand) (ho:o.op = .call { callee := .builtin .append,args:=#[s,x],argTypes:=#[t,t] })
  {base n c B:Nat} {sv:Value} {xs:List Value} {A:Option Addr} {l:List α} {cell:α→Nat→Value} (hs:a.eval s=sv) (hown:W.ownsRow base e size sv n xs)
  (hx:a.eval x = .slice A l.length c) (harr:Arr W B size (.slice A l.length c) l cell) (h1:∀ u∈l.flatMap (cellsOf size cell),u.oneCell'=true) (hbase:base≤W.heap.size)
  (h63:n+l.length≤1048576) (hby:bytes≤1024)
  (h:∀ v' w',w'.ownsRow base e size v' (n+l.length) (xs++l.flatMap (cellsOf size cell))→Below base W w'→W.grownBy w' sv.ownBlock→(v'.ownBlock=sv.ownBlock∨v'.ownBlock=some W.heap.size)→wpList Tryz.prog ops Q rest (a.put o.dst v') w') :
  wpList Tryz.prog ops Q (o::rest) a W:=by
 obtain ⟨A',c',hv,hb1,hb2,hb3⟩:=harr
 injection hv with hA _ hc
 subst hA hc
 cases A with
 | none =>
   have hl:l.length=0:=by
    rcases Nat.eq_zero_or_pos l.length with h0 | h0
    ·exact h0
    ·obtain ⟨b,off,hh,_⟩:=hb3 h0
     cases hh
   have hnil:l=[]:=List.length_eq_zero_iff.1 hl
   subst hnil
   obtain ⟨hT1,hT2,hT3,hT4⟩:=hT
   obtain ⟨i0,hi,hz0,hz1,hz2⟩:=info_parts hT2
   refine wpList_plain hgd fun _ hK=>?_
   have hr:=append_none (w:=W) base t o.type e i0 size c hT1 hi sv n xs hown
   unfold Oper.wp execOp
   simp only [List.length_nil] at hx
   simp only [ho,resolve,invoke,builtin,Sem.run_bind,Sem.run_pure,Result.andThen_ok,List.map_toArray,List.map_cons,List.map_nil,hs,hx,hr]
   exact hK _ _ (h sv W (by simpa using hown) (Below.refl _ _) (World.grownBy.refl _ _) (.inl rfl))
 | some ad =>
   refine wpList_appMA hT hgd s x ho hs hown ad hx (l.flatMap (cellsOf size cell)) (flat_len size cell l) ?_ h1 hbase h63 hby fun v' w' k1 k2 k3 k4=>h v' w' k1 k2 k3 k4
   intro j u hu
   have hj:=(List.getElem?_eq_some_iff.1 hu).1
   rw [flat_len] at hj
   have hpos:0 < l.length:=by
    rcases Nat.eq_zero_or_pos l.length with h0 | h0
    ·rw [h0] at hj; simp at hj
    ·exact h0
   have hsz:0 < size:=by
    rcases Nat.eq_zero_or_pos size with h0 | h0
    ·rw [h0] at hj; simp at hj
    ·exact h0
   obtain ⟨b,off,hh,hb,hcell⟩:=hb3 hpos
   injection hh with hh
   subst hh
   have hi:j / size < l.length:=Nat.div_lt_of_lt_mul (by rw [Nat.mul_comm]; exact hj)
   have hm:j % size < size:=Nat.mod_lt _ hsz
   have hdm:j / size * size+j % size=j:=by rw [Nat.mul_comm]; exact Nat.div_add_mod j size
   have h2:=flat_get size cell l (j / size) _ (List.getElem?_eq_getElem hi) (j % size) hm
   rw [hdm,hu] at h2
   injection h2 with h2
   have h3:=hcell (j / size) _ (List.getElem?_eq_getElem hi) (j % size) hm
   rw [h2]
   have ha:(⟨b,off,none⟩:Addr).add j=⟨b,off+j / size * size+j % size,none⟩:=by
    unfold Addr.add
    split
    ·rename_i h0
     simp only [Addr.mk.injEq,and_true,true_and]
     omega
    ·simp only [Addr.mk.injEq,and_true,true_and]
     omega
   rw [ha]
   exact h3
section
variable {P:Program} {ops:Array Oper} {Q:Exit→Act→World→Prop} {C:World→Prop}
def valOnlyV (o:Oper):Bool:=valOnly o||match o.op with
 | .call c=>match c.callee with
   | .builtin .min | .builtin .max=>true
   | _=>false
 | _=>false
theorem valOnlyV_spec {o:Oper} (h:valOnlyV o=true) (ρ:Operand→Value) (w:World) (f:FuncId) (args:Array Value) (w':World):(execOp ρ o).run P w ≠ .ok (.enter f args) w'∧(execOp ρ o).run P w ≠ .ok .skip w':=by
 unfold valOnlyV at h
 cases hv:valOnly o
 ·rw [hv,Bool.false_or] at h
  obtain ⟨dst,op,type,pos,after,guard⟩:=o
  cases op <;> try (simp at h; done)
  rename_i c
  obtain ⟨callee,cas,cats⟩:=c
  cases callee <;> try (simp at h; done)
  rename_i b
  cases b <;> try (simp at h; done)
  all_goals
   simp only [execOp,resolve,invoke,builtin,Sem.run_bind,Sem.run_pure,Result.andThen_ok]
   generalize Sem.run P _ w=q
   cases q <;> simp [Result.andThen]
 ·exact valOnly_spec hv ρ w f args w'
theorem yieldsIf_of_quietV {o:Oper} {a:Act} {v:Value} (hv:valOnlyV o=true) (hw:Region.wanted o (yielded ops a.tmps)=true) (h:∀ w,C w→o.quietAt P a C w v):YieldsIf P ops C o v a:=by
 refine .inl ⟨hw,fun w hC=>?_⟩
 have h1:=h w hC
 have h2:=valOnlyV_spec (P:=P) hv a.eval w
 unfold Oper.quietAt at h1
 generalize (execOp a.eval o).run P w=r at *
 cases r with
 | ok n w' =>
   cases n <;> simp only [Oper.quietUpon] at h1
   case value u=>rw [h1.1,h1.2]
   case skip=>exact absurd rfl (h2 0 #[] w').2
   case enter f args=>exact absurd rfl (h2 f args w').1
 | halt x w'=>simp only [Oper.quietUpon] at h1
def schedV (ops:Array Oper) (z:Nat):List (Nat×Bool)→Array Bool→Bool
 | [],listed=>(Region.ready .any ops listed).isEmpty
 | (i,true)::r,listed=>((ops[i]?).map valOnlyV).getD false&&Region.free .any ops listed i&&(Region.ready .any ops listed).contains i&&waitB ops z i&&schedV ops z r (listed.setIfInBounds i true)
 | (i,false)::r,listed=>(Region.ready .any ops listed==[i])&&(!r.isEmpty||i==z)&&schedV ops z r (listed.setIfInBounds i true)
theorem AnyZ.of_schedV {z:Nat} (hs:Region.noSelect ops=true):∀ (l:List (Nat×Bool)) (fuel:Nat) (listed:Array Bool) (a:Act) (w:World),l.length≤fuel→(l=[]∨C w)→schedV ops z l listed=true →
  wpSched P ops C (NoP Q) l a w→AnyZ P ops (NoP Q) C z fuel listed a w
 | [],fuel,listed,a,w,_,_,hb,h=>by
   simp only [schedV,List.isEmpty_iff] at hb
   cases fuel with
   | zero=>exact ⟨hb,h⟩
   | succ n=>exact ⟨fun _=>h,by rw [hb]; simp⟩
 | (i,true)::r,0,listed,a,w,hf,_,_,_=>by simp at hf
 | (i,false)::r,0,listed,a,w,hf,_,_,_=>by simp at hf
 | (i,true)::r,fuel+1,listed,a,w,hf,hC,hb,h=>by
   have hC:=hC.resolve_left (by simp)
   simp only [schedV,Bool.and_eq_true] at hb
   obtain ⟨⟨⟨⟨h1,h2⟩,h3⟩,h5⟩,h4⟩:=hb
   have h3:i∈Region.ready .any ops listed:=by simpa using h3
   simp only [wpSched] at h
   cases ho:ops[i]? with
   | none=>simp [ho] at h1
   | some o =>
     simp only [ho,Option.map_some,Option.getD_some] at h1
     simp only [ho] at h
     have hlen:r.length≤fuel:=by simp at hf; omega
     by_cases hw:Region.wanted o (yielded ops a.tmps)=true
     ·rw [if_pos hw] at h
      obtain ⟨v,hv,hn⟩:=h
      exact AnyZ.takeW ho (waitB_spec h5) hs (fun c a w hh=>hh.elim) fuel listed a w h2 h3 (yieldsIf_of_quietV h1 hw hv) hC (AnyZ.of_schedV hs r fuel _ _ w hlen (.inr hC) h4 hn)
     ·rw [if_neg hw] at h
      exact AnyZ.takeW (v:=undef) ho (waitB_spec h5) hs (fun c a w hh=>hh.elim) fuel listed a w h2 h3 (.inr ⟨by simpa using hw,rfl⟩) hC (AnyZ.of_schedV hs r fuel _ _ w hlen (.inr hC) h4 h)
 | (i,false)::r,fuel+1,listed,a,w,hf,hC,hb,h=>by
   have hCw:C w:=by
    rcases hC with h | h
    ·cases h
    ·exact h
   clear hC
   simp only [schedV,Bool.and_eq_true,beq_iff_eq] at hb
   obtain ⟨⟨h1,h5⟩,h4⟩:=hb
   simp only [wpSched] at h
   have hlen:r.length≤fuel:=by simp at hf; omega
   refine ⟨fun h0=>(by rw [h1] at h0; cases h0),fun j hj=>?_⟩
   rw [h1] at hj
   obtain rfl:j=i:=by simpa using hj
   have hlast:r=[]→j=z:=by
    intro hr
    simpa [hr] using h5
   unfold wpOp
   cases ho:ops[j]? with
   | none=>simp [ho] at h
   | some o =>
     simp only [ho] at h
     show if _ then _ else _
     by_cases hw:Region.wanted o (yielded ops a.tmps)=true
     ·rw [if_pos hw] at h ⊢
      exact .inl (Oper.wp_mono (fun a' w' ⟨hc,hh⟩=>⟨hc.imp hlast id,AnyZ.of_schedV hs r fuel _ a' w' hlen hc h4 hh⟩) h)
     ·rw [if_neg hw] at h ⊢
      exact ⟨.inr hCw,AnyZ.of_schedV hs r fuel _ _ w hlen (.inr hCw) h4 h⟩
def schedOkV (ops:Array Oper) (σ:List (Nat×Bool)):Bool:=Region.noSelect ops&&decide (σ.length≤ops.size)&&!σ.isEmpty&&schedV ops ((σ.getLast?.map (·.1)).getD 0) σ (Array.replicate ops.size false)
theorem any_of_schedV {a:Act} {W:World} (σ:List (Nat×Bool)) (hs:schedOkV ops σ=true) (hC:C W.drew) (h:wpSched P ops C (NoP Q) σ a W.drew):wpAny P .any ops (NoP Q) ops.size (Array.replicate ops.size false) a W.drew:=by
 simp only [schedOkV,Bool.and_eq_true,decide_eq_true_eq] at hs
 obtain ⟨⟨⟨h1,h2⟩,h3⟩,h5⟩:=hs
 exact AnyZ.any _ _ _ _ (AnyZ.of_schedV h1 σ _ _ a _ h2 (.inr hC) h5 h)
theorem wp_region_schedV {id:Nat} {a:Act} {W:World} (σ:List (Nat×Bool)) (hm:P.follows .mixedOrders=true) (hs:schedOkV ops σ=true) (hC:C W.drew)
  (h:wpSched P ops C (NoP Q) σ a W.drew):(Code.region id ops true).wp P Q a W :=
 wp_mono (wp_region_any hm (any_of_schedV σ hs hC h)) NoP_imp
end
end Go.Proofs.YtaihbcmifjmapaaGreat
