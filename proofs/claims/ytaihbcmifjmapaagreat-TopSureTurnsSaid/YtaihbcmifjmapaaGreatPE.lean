/- Plans and what they are worth: what a table that is filled by the recurrence says about them. Nothing of the program is imported here. What the exported functions of the layer compute, as plain functions. -/
import Derived.Test.YtaihbcmifjmapaaGreatPT
namespace Go.Proofs.YtaihbcmifjmapaaGreat
set_option linter.unusedVariables false
def OkS (c:Cyl) (s:Str):Prop:=0≤s.a∧s.a≤s.b∧s.b < c.turns∧s.b-s.a < c.long∧worn c s.a s.b=false
def SeqP (c:Cyl):Int→List Str→Prop
 | _,[]=>True
 | last,s::r=>last < s.a∧OkS c s∧SeqP c s.b r
def valI (ws:Nat→Int) (i:Nat) (pas:List Pas):List Str→Int
 | []=>0
 | s::r=>sumW ws s i pas+valI ws i pas r
theorem valI_append (ws:Nat→Int) (i:Nat) (pas:List Pas) (q:List Str):∀ p,valI ws i pas (p++q)=valI ws i pas p+valI ws i pas q
 | []=>by simp [valI]
 | s::r=>by simp only [List.cons_append,valI,valI_append ws i pas q r]; omega
def savW (ws:Nat→Int) (plan:List Str):Nat→List Pas→Int
 | _,[]=>0
 | i,p::r=>(if saved plan p then ws i else 0)+savW ws plan (i+1) r
theorem seqP_after {c:Cyl}:∀ {p:List Str} {last:Int},SeqP c last p→∀ s∈p,last < s.a∧OkS c s
 | [],last,_,s,hs=>by simp at hs
 | x::r,last,h,s,hs=>by
   obtain ⟨h1,h2,h3⟩:=h
   rcases List.mem_cons.1 hs with rfl | hs
   ·exact ⟨h1,h2⟩
   ·have:=seqP_after h3 s hs
    exact ⟨by have:=h2.2.1; omega,this.2⟩
theorem seqP_snoc {c:Cyl} {s:Str}:∀ {p:List Str} {last:Int},SeqP c last (p++[s])↔SeqP c last p∧OkS c s∧last < s.a∧∀ x∈p,x.b < s.a
 | [],last=>by simp [SeqP]; exact ⟨fun ⟨a,b⟩=>⟨b,a⟩,fun ⟨a,b⟩=>⟨b,a⟩⟩
 | x::r,last=>by
   have ih:=@seqP_snoc c s r x.b
   simp only [List.cons_append,SeqP]
   rw [ih]
   constructor
   ·rintro ⟨h1,h2,h3,h4,h5,h6⟩
    refine ⟨⟨h1,h2,h3⟩,h4,by have:=h2.2.1; omega,fun y hy=>?_⟩
    rcases List.mem_cons.1 hy with rfl | hy
    ·exact h5
    ·exact h6 y hy
   ·rintro ⟨⟨h1,h2,h3⟩,h4,h5,h6⟩
    exact ⟨h1,h2,h3,h4,h6 x (List.mem_cons_self ..),fun y hy=>h6 y (List.mem_cons_of_mem _ hy)⟩
theorem once {c:Cyl} (x:Int) (p:Pas) (hp:p.a≤p.b):∀ {plan:List Str} {last:Int},SeqP c last plan →
  (plan.map fun s=>if hasP s p then x else 0).sum=if saved plan p then x else 0
 | [],last,_=>by simp [saved]
 | s::r,last,h=>by
   obtain ⟨h1,h2,h3⟩:=h
   have ih:=once x p hp h3
   rw [List.map_cons,List.sum_cons,ih]
   have hsv:saved (s::r) p=(hasP s p||saved r p):=rfl
   rw [hsv]
   by_cases hs:hasP s p=true
   ·have hr:saved r p=false:=by
     unfold saved
     rw [List.any_eq_false]
     intro y hy
     have:=(seqP_after h3 y hy).1
     simp only [hasP,Bool.and_eq_true,decide_eq_true_eq] at hs ⊢
     omega
    simp [hs,hr]
   ·simp [hs]
theorem valI_cons (ws:Nat→Int) (i:Nat) (p:Pas) (r:List Pas):∀ plan,valI ws i (p::r) plan=(plan.map fun s=>if hasP s p then ws i else 0).sum+valI ws (i+1) r plan
 | []=>by simp [valI]
 | s::q=>by
   simp only [valI,List.map_cons,List.sum_cons,valI_cons ws i p r q,sumW]
   omega
theorem valI_nil (ws:Nat→Int) (i:Nat):∀ plan,valI ws i [] plan=0
 | []=>rfl
 | s::q=>by simp [valI,sumW,valI_nil ws i q]
theorem savW_eq {c:Cyl} (ws:Nat→Int) {plan:List Str} {last:Int} (h:SeqP c last plan):∀ (pas:List Pas) (i:Nat),(∀ p∈pas,p.a≤p.b)→savW ws plan i pas=valI ws i pas plan
 | [],i,_=>by simp [savW,valI_nil]
 | p::r,i,hp=>by
   rw [valI_cons,once (ws i) p (hp p (List.mem_cons_self ..)) h,savW,savW_eq ws h r (i+1) fun q hq=>hp q (List.mem_cons_of_mem _ hq)]
theorem savesGo_savW (ws:Nat→Int) (plan:List Str):∀ (pas:List Pas) (i:Nat),(∀ j p,pas[j]? = some p→ws (i+j)=p.w)→(savesGo plan i pas).2=savW ws plan i pas
 | [],i,_=>rfl
 | p::r,i,h=>by
   have ih:=savesGo_savW ws plan r (i+1) fun j q hq=>by
    have:=h (j+1) q (by simpa using hq)
    rwa [show i+1+j=i+(j+1) by omega]
   have h0:=h 0 p rfl
   rw [Nat.add_zero] at h0
   simp only [savesGo,savW]
   split
   ·simp [h0,ih]
   ·simp [ih]
def ownW (pas:List Pas) (i:Nat):Int:=((pas[i]?).map (·.w)).getD 0
theorem ownW_get {pas:List Pas} {i:Nat} {p:Pas} (h:pas[i]? = some p):ownW pas i=p.w:=by simp [ownW,h]
theorem saves_worth {c:Cyl} {plan:List Str} {last:Int} (h:SeqP c last plan) (hp:∀ p∈c.pas,p.a≤p.b):(savesGo plan 0 c.pas).2=valI (ownW c.pas) 0 c.pas plan:=by
 rw [savesGo_savW (ownW c.pas) plan c.pas 0 fun j p hj=>by rw [Nat.zero_add]; exact ownW_get hj]
 exact savW_eq _ h _ _ hp
structure IsUp (c:Cyl) (ws:Nat→Int) (T K:Nat) (V:Nat→Nat→Int):Prop where
 zero:0≤V 0 0
 keep:∀ t k,t < T→k≤K→V t k≤V (t+1) k
 more:∀ t k,t≤T→k < K→V t k≤V t (k+1)
 ext:∀ t k s,t < T→k < K→OkS c s→s.b=(t:Int)→V s.a.toNat k+sumW ws s 0 c.pas≤V (t+1) (k+1)
theorem IsUp.nonneg {c:Cyl} {ws:Nat→Int} {T K:Nat} {V:Nat→Nat→Int} (h:IsUp c ws T K V):∀ t k,t≤T→k≤K→0≤V t k
 | 0,0,_,_=>h.zero
 | 0,k+1,_,hk=>Int.le_trans (h.nonneg 0 k (by omega) (by omega)) (h.more 0 k (by omega) (by omega))
 | t+1,k,ht,hk=>Int.le_trans (h.nonneg t k (by omega) hk) (h.keep t k (by omega) hk)
theorem IsUp.upper {c:Cyl} {ws:Nat→Int} {T K:Nat} {V:Nat→Nat→Int} (h:IsUp c ws T K V):∀ (n t k:Nat) (p:List Str),t≤n→t≤T→k≤K→SeqP c (-1) p→(∀ s∈p,s.b < (t:Int))→p.length≤k→valI ws 0 c.pas p≤V t k:=by
 intro n
 induction n with
 | zero =>
   intro t k p hn ht hk hp hb hl
   cases p with
   | nil=>exact h.nonneg t k ht hk
   | cons s r =>
     have h1:=hb s (List.mem_cons_self ..)
     have h2:=hp.2.1
     unfold OkS at h2
     omega
 | succ n ih =>
   intro t k p hn ht hk hp hb hl
   rcases List.eq_nil_or_concat p with rfl | ⟨q,s,rfl⟩
   ·exact h.nonneg t k ht hk
   ·rw [List.concat_eq_append] at hp hb hl ⊢
    obtain ⟨h1,h2,h3,h4⟩:=seqP_snoc.1 hp
    have hs:=hb s (by simp)
    have hok:=h2
    unfold OkS at hok
    by_cases hst:s.b+1=(t:Int)
    ·rw [List.length_append] at hl
     simp only [List.length_cons,List.length_nil] at hl
     obtain ⟨t',rfl⟩:∃ t',t=t'+1:=⟨t-1,by omega⟩
     obtain ⟨k',rfl⟩:∃ k',k=k'+1:=⟨k-1,by omega⟩
     have i1:=ih s.a.toNat k' q (by omega) (by omega) (by omega) h1 (fun x hx=>by have:=h4 x hx; omega) (by omega)
     have i2:=h.ext t' k' s (by omega) (by omega) h2 (by omega)
     rw [valI_append]
     simp only [valI]
     omega
    ·obtain ⟨t',rfl⟩:∃ t',t=t'+1:=⟨t-1,by omega⟩
     have i1:=ih t' k (q++[s]) (by omega) (by omega) hk hp (fun x hx=>by
      rcases List.mem_append.1 hx with hx | hx
      ·have:=h4 x hx; omega
      ·simp at hx; subst hx; omega) hl
     have:=h.keep t' k (by omega) hk
     omega
structure IsTab (c:Cyl) (ws:Nat→Int) (T K:Nat) (V:Nat→Nat→Int):Prop where
 zero:∀ k,k≤K→V 0 k=0
 none_:∀ t,t≤T→V t 0=0
 keep:∀ t k,t < T→k < K→V t (k+1)≤V (t+1) (k+1)
 ext:∀ t k s,t < T→k < K→OkS c s→s.b=(t:Int)→V s.a.toNat k+sumW ws s 0 c.pas≤V (t+1) (k+1)
 att:∀ t k,t < T→k < K→V (t+1) (k+1)=V t (k+1)∨∃ s,OkS c s∧s.b=(t:Int)∧V (t+1) (k+1)=V s.a.toNat k+sumW ws s 0 c.pas
theorem IsTab.up {c:Cyl} {ws:Nat→Int} {T K:Nat} {V:Nat→Nat→Int} (h:IsTab c ws T K V):IsUp c ws T K V:=by
 have hkeep:∀ t k,t < T→k≤K→V t k≤V (t+1) k:=by
  intro t k ht hk
  cases k with
  | zero=>rw [h.none_ t (by omega),h.none_ (t+1) (by omega)]; omega
  | succ k=>exact h.keep t k ht (by omega)
 have h0:∀ t,t≤T→∀ k,k≤K→0≤V t k:=by
  intro t
  induction t with
  | zero=>intro _ k hk; rw [h.zero k hk]; omega
  | succ t ih=>intro ht k hk; exact Int.le_trans (ih (by omega) k hk) (hkeep t k (by omega) hk)
 refine ⟨by rw [h.none_ 0 (by omega)]; omega,hkeep,?_,h.ext⟩
 have:∀ n t,t≤n→t≤T→∀ k,k < K→V t k≤V t (k+1):=by
  intro n
  induction n with
  | zero =>
    intro t hn ht k hk
    obtain rfl:t=0:=by omega
    rw [h.zero k (by omega),h.zero (k+1) (by omega)]; omega
  | succ n ih =>
    intro t hn ht k hk
    cases k with
    | zero=>rw [h.none_ t ht]; exact h0 t ht 1 (by omega)
    | succ k =>
      cases t with
      | zero=>rw [h.zero (k+1) (by omega),h.zero (k+2) (by omega)]; omega
      | succ t =>
        rcases h.att t k (by omega) (by omega) with e | ⟨s,hs,hb,e⟩
        ·rw [e]
         exact Int.le_trans (ih t (by omega) (by omega) (k+1) (by omega)) (h.keep t (k+1) (by omega) (by omega))
        ·rw [e]
         have h1:=h.ext t (k+1) s (by omega) (by omega) hs hb
         have h2:=ih s.a.toNat (by unfold OkS at hs; omega) (by unfold OkS at hs; omega) k (by omega)
         omega
 exact fun t k ht hk=>this t t (Nat.le_refl _) ht k hk
theorem IsTab.attained {c:Cyl} {ws:Nat→Int} {T K:Nat} {V:Nat→Nat→Int} (h:IsTab c ws T K V):∀ (n t k:Nat),t≤n→t≤T→k≤K→∃ p,SeqP c (-1) p∧(∀ s∈p,s.b < (t:Int))∧p.length≤k∧valI ws 0 c.pas p=V t k:=by
 intro n
 induction n with
 | zero =>
   intro t k hn ht hk
   obtain rfl:t=0:=by omega
   exact ⟨[],trivial,by simp,by simp,by rw [h.zero k hk]; rfl⟩
 | succ n ih =>
   intro t k hn ht hk
   cases t with
   | zero=>exact ih 0 k (by omega) ht hk
   | succ t =>
     cases k with
     | zero=>exact ⟨[],trivial,by simp,by simp,by rw [h.none_ (t+1) ht]; rfl⟩
     | succ k =>
       rcases h.att t k (by omega) (by omega) with e | ⟨s,hs,hb,e⟩
       ·obtain ⟨p,h1,h2,h3,h4⟩:=ih t (k+1) (by omega) (by omega) hk
        exact ⟨p,h1,fun x hx=>by have:=h2 x hx; omega,h3,by rw [h4,e]⟩
       ·have hs':=hs
        unfold OkS at hs'
        obtain ⟨p,h1,h2,h3,h4⟩:=ih s.a.toNat k (by omega) (by omega) (by omega)
        refine ⟨p++[s],seqP_snoc.2 ⟨h1,hs,by omega,fun x hx=>by have:=h2 x hx; omega⟩,fun x hx=>?_,by simp; omega,?_⟩
        ·rcases List.mem_append.1 hx with hx | hx
         ·have:=h2 x hx; omega
         ·simp at hx; subst hx; omega
        ·rw [valI_append,h4,e]; simp only [valI]; omega
def IsPlan (c:Cyl) (k:Nat) (p:List Str):Prop:=SeqP c (-1) p∧p.length≤k
theorem seqP_turns {c:Cyl} {p:List Str} {last:Int} (h:SeqP c last p):∀ s∈p,s.b < c.turns:=fun s hs=>(seqP_after h s hs).2.2.2.1
def IsMost (c:Cyl) (ws:Nat→Int) (k:Nat) (x:Int):Prop:=(∀ p,IsPlan c k p→valI ws 0 c.pas p≤x)∧∃ p,IsPlan c k p∧valI ws 0 c.pas p=x
theorem IsTab.most {c:Cyl} {ws:Nat→Int} {T K:Nat} {V:Nat→Nat→Int} (h:IsTab c ws T K V) (hT:c.turns=(T:Int)) {k:Nat} (hk:k≤K):IsMost c ws k (V T k):=by
 refine ⟨fun p hp=>h.up.upper T T k p (Nat.le_refl _) (Nat.le_refl _) hk hp.1 (fun s hs=>by have:=seqP_turns hp.1 s hs; omega) hp.2,?_⟩
 obtain ⟨p,h1,h2,h3,h4⟩:=h.attained T T k (Nat.le_refl _) (Nat.le_refl _) hk
 exact ⟨p,⟨h1,h3⟩,h4⟩
theorem IsUp.most {c:Cyl} {ws:Nat→Int} {T K:Nat} {V:Nat→Nat→Int} (h:IsUp c ws T K V) (hT:c.turns=(T:Int)) {k:Nat} (hk:k≤K) {p:List Str} (hp:IsPlan c k p):valI ws 0 c.pas p≤V T k :=
 h.upper T T k p (Nat.le_refl _) (Nat.le_refl _) hk hp.1 (fun s hs=>by have:=seqP_turns hp.1 s hs; omega) hp.2
/- what fill fills is such a table -/
theorem strFrom_iff (c:Cyl) (t:Nat) (s:Str):∀ n,s∈strFrom c t n↔s.b=(t:Int)∧0≤s.a∧s.a < (n:Int)∧∀ x:Int,s.a≤x→x < (n:Int)→(t:Int)-x < c.long∧c.frag.any (fun y=>x==y)=false
 | 0=>by
   simp only [strFrom,List.not_mem_nil,false_iff]
   intro h
   omega
 | n+1=>by
   have ih:=strFrom_iff c t s n
   unfold strFrom
   by_cases h:(decide ((t:Int)-n < c.long)&&!(c.frag.any fun x=>(n:Int)==x))=true
   ·rw [if_pos h]
    simp only [Bool.and_eq_true,decide_eq_true_eq,Bool.not_eq_true'] at h
    rw [List.mem_cons,ih]
    constructor
    ·rintro (rfl | ⟨h1,h2,h3,h4⟩)
     ·refine ⟨rfl,by simp,by simp; omega,fun x hx hx2=>?_⟩
      simp at hx
      obtain rfl:x=(n:Int):=by omega
      exact h
     ·refine ⟨h1,h2,by omega,fun x hx hx2=>?_⟩
      by_cases hxn:x=(n:Int)
      ·subst hxn; exact h
      ·exact h4 x hx (by omega)
    ·rintro ⟨h1,h2,h3,h4⟩
     by_cases hs:s.a=(n:Int)
     ·left
      obtain ⟨a,b⟩:=s
      simp at h1 hs
      rw [h1,hs]
     ·exact .inr ⟨h1,h2,by omega,fun x hx hx2=>h4 x hx (by omega)⟩
   ·rw [if_neg h]
    simp only [List.not_mem_nil,false_iff]
    rintro ⟨h1,h2,h3,h4⟩
    have:=h4 (n:Int) (by omega) (by omega)
    apply h
    simp only [Bool.and_eq_true,decide_eq_true_eq,Bool.not_eq_true']
    exact this
theorem okS_strFrom (c:Cyl) (t:Nat) (ht:(t:Int) < c.turns) (s:Str):s∈strFrom c t (t+1)↔OkS c s∧s.b=(t:Int):=by
 rw [strFrom_iff]
 unfold OkS
 constructor
 ·rintro ⟨h1,h2,h3,h4⟩
  refine ⟨⟨h2,by omega,by omega,by have:=(h4 s.a (by omega) (by omega)).1; omega,?_⟩,h1⟩
  unfold worn
  rw [List.any_eq_false]
  intro f hf hh
  simp only [Bool.and_eq_true,decide_eq_true_eq] at hh
  have h5:=(h4 f hh.1 (by omega)).2
  rw [List.any_eq_false] at h5
  exact h5 f hf (by simp)
 ·rintro ⟨⟨h1,h2,h3,h4,h5⟩,h6⟩
  refine ⟨h6,h1,by omega,fun x hx hx2=>⟨by omega,?_⟩⟩
  rw [List.any_eq_false]
  intro f hf hh
  simp only [beq_iff_eq] at hh
  subst hh
  unfold worn at h5
  rw [List.any_eq_false] at h5
  exact h5 x hf (by simp; omega)
theorem okS_allStr (c:Cyl) (s:Str):∀ T:Nat,(T:Int)≤c.turns→(s∈allStr c T↔OkS c s∧s.b < (T:Int))
 | 0,_=>by
   simp only [allStr,List.not_mem_nil,false_iff]
   rintro ⟨h,h2⟩
   unfold OkS at h
   omega
 | T+1,h=>by
   unfold allStr
   rw [List.mem_append,okS_allStr c s T (by omega),okS_strFrom c T (by omega) s]
   constructor
   ·rintro (⟨h1,h2⟩ | ⟨h1,h2⟩)
    ·exact ⟨h1,by omega⟩
    ·exact ⟨h1,by omega⟩
   ·rintro ⟨h1,h2⟩
    by_cases hb:s.b=(T:Int)
    ·exact .inr ⟨h1,hb⟩
    ·exact .inl ⟨h1,by omega⟩
theorem foldl_greater_ge:∀ (r:List Cho) (y:Cho),y.x≤(r.foldl greater y).x∧∀ z∈r,z.x≤(r.foldl greater y).x
 | [],y=>⟨Int.le_refl _,by simp⟩
 | z::r,y=>by
   rw [List.foldl_cons]
   have ih:=foldl_greater_ge r (greater y z)
   have h1:y.x≤(greater y z).x∧z.x≤(greater y z).x:=by
    unfold greater
    split <;> omega
   refine ⟨by omega,fun q hq=>?_⟩
   rcases List.mem_cons.1 hq with rfl | hq
   ·omega
   ·exact ih.2 q hq
theorem pick_ge (y:Cho) (r:List Cho):∀ z∈y::r,z.x≤(pick (y::r)).x:=by
 intro z hz
 have h:=foldl_greater_ge r y
 show _≤(r.foldl greater y).x
 rcases List.mem_cons.1 hz with rfl | hz
 ·exact h.1
 ·exact h.2 z hz
theorem tabN_row (E:Nat→List Cho) (K n j:Nat) (hj:1≤j) (hK:j≤K):tabN E K (n+1) (n+1) j=(choW E (tabN E K n) (n+1) j).x:=by
 conv=>lhs; unfold tabN
 rw [if_pos rfl,if_pos ⟨hj,hK⟩]
theorem endsOf_mem (ws:Nat→Int) (c:Cyl) (T:Nat) (hT:c.turns=(T:Int)) (i:Nat) (y:Cho):y∈endsOf ws c.pas (allStr c T) i↔OkS c y.s∧y.s.b+1=(i:Int)∧y.x=sumW ws y.s 0 c.pas:=by
 unfold endsOf
 rw [List.mem_map]
 constructor
 ·rintro ⟨s,hs,rfl⟩
  obtain ⟨h1,h2⟩:=List.mem_filter.1 hs
  exact ⟨((okS_allStr c s T (by omega)).1 h1).1,by simpa using h2,rfl⟩
 ·rintro ⟨h1,h2,h3⟩
  refine ⟨y.s,List.mem_filter.2 ⟨(okS_allStr c y.s T (by omega)).2 ⟨h1,by have:=h1.2.2.1; omega⟩,by simpa using h2⟩,?_⟩
  obtain ⟨s,x⟩:=y
  simp at h3
  rw [h3]
theorem tabN_zero (E:Nat→List Cho) (K:Nat):∀ n t,tabN E K n t 0=0
 | 0,t=>rfl
 | n+1,t=>by
   unfold tabN
   split
   ·rw [if_neg (by omega)]; exact tabN_zero E K n n
   ·exact tabN_zero E K n t
theorem tabN_isTab (ws:Nat→Int) (c:Cyl) (T K:Nat) (hT:c.turns=(T:Int)):IsTab c ws T K (tabN (endsOf ws c.pas (allStr c T)) K T):=by
 obtain ⟨E,hE⟩:∃ E,E=endsOf ws c.pas (allStr c T):=⟨_,rfl⟩
 rw [← hE]
 have hmem:∀ i y,y∈E i↔OkS c y.s∧y.s.b+1=(i:Int)∧y.x=sumW ws y.s 0 c.pas:=fun i y=>by rw [hE]; exact endsOf_mem ws c T hT i y
 have hrow:∀ t k,t < T→k < K→tabN E K T (t+1) (k+1)=(choW E (tabN E K t) (t+1) (k+1)).x:=by
  intro t k ht hk
  rw [tabN_eq E K (t+1) T (k+1) (by omega),tabN_row E K t (k+1) (by omega) (by omega)]
 have hlow:∀ t n k,t≤n→n≤T→tabN E K n t k=tabN E K T t k:=by
  intro t n k h1 h2
  rw [tabN_eq E K t n k h1,tabN_eq E K t T k (by omega)]
 refine ⟨fun k hk=>?_,fun t ht=>tabN_zero E K T t,fun t k ht hk=>?_,fun t k s ht hk hs hb=>?_,fun t k ht hk=>?_⟩
 ·rw [tabN_eq E K 0 T k (by omega)]; rfl
 ·rw [hrow t k ht hk]
  have:=pick_ge _ ((E (t+1)).map fun y=>⟨y.s,y.x+tabN E K t y.s.a.toNat (k+1-1)⟩) ⟨⟨-1,0⟩,tabN E K t (t+1-1) (k+1)⟩ (List.mem_cons_self ..)
  rw [← hlow t t (k+1) (Nat.le_refl _) (by omega)]
  exact this
 ·rw [hrow t k ht hk]
  have hy:(⟨s,sumW ws s 0 c.pas⟩:Cho)∈E (t+1):=(hmem _ _).2 ⟨hs,by simp; omega,rfl⟩
  have:=pick_ge ⟨⟨-1,0⟩,tabN E K t (t+1-1) (k+1)⟩ ((E (t+1)).map fun y=>⟨y.s,y.x+tabN E K t y.s.a.toNat (k+1-1)⟩) ⟨s,sumW ws s 0 c.pas+tabN E K t s.a.toNat k⟩ (List.mem_cons_of_mem _ (List.mem_map.2 ⟨_,hy,rfl⟩))
  have hs':=hs
  unfold OkS at hs'
  rw [hlow s.a.toNat t k (by omega) (by omega)] at this
  have h2:sumW ws s 0 c.pas+tabN E K T s.a.toNat k≤(choW E (tabN E K t) (t+1) (k+1)).x:=this
  omega
 ·rw [hrow t k ht hk]
  have hm:=pick_mem ⟨⟨-1,0⟩,tabN E K t (t+1-1) (k+1)⟩ ((E (t+1)).map fun y=>⟨y.s,y.x+tabN E K t y.s.a.toNat (k+1-1)⟩)
  have hm:choW E (tabN E K t) (t+1) (k+1)∈_:=hm
  rcases List.mem_cons.1 hm with h | h
  ·left
   rw [h]
   exact hlow t t (k+1) (Nat.le_refl _) (by omega)
  ·right
   obtain ⟨y,hy,h2⟩:=List.mem_map.1 h
   obtain ⟨h3,h4,h5⟩:=(hmem _ _).1 hy
   refine ⟨y.s,h3,by omega,?_⟩
   rw [← h2]
   show y.x+tabN E K t y.s.a.toNat (k+1-1)=_
   have h3':=h3
   unfold OkS at h3'
   rw [show k+1-1=k by omega,hlow y.s.a.toNat t k (by omega) (by omega),h5]
   omega
end Go.Proofs.YtaihbcmifjmapaaGreat
namespace Go.Proofs.YtaihbcmifjmapaaGreat
set_option linter.unusedVariables false
def tT (c:Cyl):Nat:=c.turns.toNat
def tK (c:Cyl):Nat:=c.plays.toNat
def endC (c:Cyl) (ws:Nat→Int):Nat→List Cho:=endsOf ws c.pas (allStr c (tT c))
def tabC (c:Cyl) (ws:Nat→Int):Nat→Nat→Int:=tabN (endC c ws) (tK c) (tT c)
def rowL (V:Nat→Nat→Int) (K t:Nat):List Int:=(List.range (K+1)).map (V t)
def worthsOf (c:Cyl):List Int:=if checkCyl c=0 then rowL (tabC c (ownW c.pas)) (tK c) (tT c) else []
def mostOf (c:Cyl):Int:=tabC c (ownW c.pas) (tT c) (tK c)
theorem rowL_length (V:Nat→Nat→Int) (K t:Nat):(rowL V K t).length=K+1:=by simp [rowL]
theorem rowL_get (V:Nat→Nat→Int) (K t j:Nat) (h:j≤K):(rowL V K t)[j]? = some (V t j):=by
 unfold rowL
 rw [List.getElem?_map,List.getElem?_range (by omega)]
 rfl
theorem pas_fit {c:Cyl} (h:c.pas.all (pasOk c.turns)=true):∀ p∈c.pas,0≤p.a∧p.a≤p.b∧p.b < c.turns∧0≤p.w∧p.w≤1000:=by
 intro p hp
 have:=List.all_eq_true.1 h p hp
 simp only [pasOk,Bool.and_eq_true,decide_eq_true_eq] at this
 omega
theorem ownW_bound {c:Cyl} (h:c.pas.all (pasOk c.turns)=true) (i:Nat):0≤ownW c.pas i∧ownW c.pas i≤1000:=by
 unfold ownW
 cases hp:c.pas[i]? with
 | none=>simp
 | some p =>
   have:=pas_fit h p (List.mem_of_getElem? hp)
   simp
   omega
theorem cyl_nat {c:Cyl} (h:checkCyl c=0):c.turns=(tT c:Int)∧c.plays=(tK c:Int)∧1≤tT c∧tT c≤30∧tK c≤6∧1≤c.long∧c.long≤c.turns:=by
 unfold checkCyl at h
 split at h
 ·omega
 ·rename_i h1
  simp only [argOk,Bool.not_eq_false,Bool.and_eq_true,decide_eq_true_eq] at h1
  unfold tT tK
  omega
theorem tabC_isTab (c:Cyl) (ws:Nat→Int) (h:checkCyl c=0):IsTab c ws (tT c) (tK c) (tabC c ws):=tabN_isTab ws c (tT c) (tK c) (cyl_nat h).1
end Go.Proofs.YtaihbcmifjmapaaGreat
