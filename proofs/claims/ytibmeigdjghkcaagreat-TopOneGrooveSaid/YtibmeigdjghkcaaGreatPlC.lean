/- Flows in a net of links, cuts, heights: what a flow that cannot be greater is. Nothing of the program is imported here. The greatest flow by pushing down and raising: what holds between two steps, and why it comes to an end. Nothing of the program is imported here. Words that pairs join: classes as the program merges them, and labels as the reference lowers them. Nothing of the program is imported here. What can be reached in a net: looked for breadth first; groups; chains. Nothing of the program is imported here. Groups of joined names, as the reference's labels tell them and as the program finds them; chains. Nothing of the program is imported here. Lists of names: when they are valid, and what a valid one is as a net. Nothing of the program is imported here. Cheapest sides of a valid list: what a greatest flow tells of them. Nothing of the program is imported here. A list with Left and Right exchanged, and one whose links are turned. Nothing of the program is imported here. A list with one link more, or with more trust in a link; groups with one link more in the drop. Nothing of the program is imported here. The reference's sides: all of them, by bits, and the cheapest ones. Nothing of the program is imported here. The least one of the cheapest sides, without a flow: sides have a least one by what they have in common. Nothing of the program is imported here. Chains of names. Nothing of the program is imported here. Flows as they are given: when they are right, and how great; bounds of what is kept. Nothing of the program is imported here. The beginning of the greatest flow, name by name and link by link. Nothing of the program is imported here. -/
namespace Go.Proofs.YtibmeigdjghkcaaGreat
set_option linter.unusedVariables false
def isum {α:Type} (f:α→Int) (l:List α):Int:=(l.map f).sum
theorem isum_nil {α:Type} (f:α→Int):isum f []=0:=rfl
theorem isum_cons {α:Type} (f:α→Int) (x:α) (l:List α):isum f (x::l)=f x+isum f l:=rfl
theorem isum_append {α:Type} (f:α→Int):∀ (l m:List α),isum f (l++m)=isum f l+isum f m
 | [],m=>by rw [List.nil_append,isum_nil]; omega
 | x::l,m=>by rw [List.cons_append,isum_cons,isum_cons,isum_append f l m]; omega
theorem isum_congr {α:Type} {f g:α→Int}:∀ {l:List α},(∀ x∈l,f x=g x)→isum f l=isum g l
 | [],_=>rfl
 | x::l,h=>by rw [isum_cons,isum_cons,h x (List.mem_cons_self ..),isum_congr fun y hy=>h y (List.mem_cons_of_mem _ hy)]
theorem isum_add {α:Type} (f g:α→Int):∀ (l:List α),isum (fun x=>f x+g x) l=isum f l+isum g l
 | []=>rfl
 | x::l=>by rw [isum_cons,isum_cons,isum_cons,isum_add f g l]; omega
theorem isum_sub {α:Type} (f g:α→Int):∀ (l:List α),isum (fun x=>f x-g x) l=isum f l-isum g l
 | []=>rfl
 | x::l=>by rw [isum_cons,isum_cons,isum_cons,isum_sub f g l]; omega
theorem isum_neg {α:Type} (f:α→Int):∀ (l:List α),isum (fun x => - f x) l = - isum f l
 | []=>rfl
 | x::l=>by rw [isum_cons,isum_cons,isum_neg f l]; omega
theorem isum_zero {α:Type} {f:α→Int}:∀ {l:List α},(∀ x∈l,f x=0)→isum f l=0
 | [],_=>rfl
 | x::l,h=>by rw [isum_cons,h x (List.mem_cons_self ..),isum_zero fun y hy=>h y (List.mem_cons_of_mem _ hy)]; rfl
theorem isum_mono {α:Type} {f g:α→Int}:∀ {l:List α},(∀ x∈l,f x≤g x)→isum f l≤isum g l
 | [],_=>Int.le_refl _
 | x::l,h=>by
   have h1:=h x (List.mem_cons_self ..)
   have h2:=isum_mono fun y hy=>h y (List.mem_cons_of_mem x hy)
   rw [isum_cons,isum_cons]
   omega
theorem isum_swap {α β:Type} (f:α→β→Int) (l:List α):∀ (m:List β),isum (fun x=>isum (f x) m) l=isum (fun y=>isum (fun x=>f x y) l) m
 | []=>isum_zero fun _ _=>rfl
 | y::m=>by
   rw [isum_cons,← isum_swap f l m,← isum_add]
   exact isum_congr fun x _=>rfl
theorem isum_one {α:Type} [DecidableEq α] {l:List α} (hn:l.Nodup) (x:α) (k:Int):isum (fun y=>if y=x then k else 0) l=if x∈l then k else 0:=by
 induction l with
 | nil=>rfl
 | cons y l ih =>
   rw [List.nodup_cons] at hn
   rw [isum_cons,ih hn.2]
   by_cases h:y=x
   ·subst h
    rw [if_pos rfl,if_neg hn.1,if_pos (List.mem_cons_self ..)]
    omega
   ·rw [if_neg h]
    by_cases hx:x∈l
    ·rw [if_pos hx,if_pos (List.mem_cons_of_mem _ hx)]; omega
    ·rw [if_neg hx,if_neg fun hm=>(List.mem_cons.1 hm).elim (fun e=>h e.symm) hx]; rfl
theorem isum_eq {α:Type} {f g:α→Int}:∀ {l:List α},(∀ x∈l,f x≤g x)→isum g l≤isum f l→∀ x∈l,f x=g x
 | [],_,_,x,hx=>by cases hx
 | y::l,h,he,x,hx=>by
   rw [isum_cons,isum_cons] at he
   have h1:=h y (List.mem_cons_self ..)
   have h2:=isum_mono fun z hz=>h z (List.mem_cons_of_mem y hz)
   rcases List.mem_cons.1 hx with rfl | hx
   ·omega
   ·exact isum_eq (fun z hz=>h z (List.mem_cons_of_mem _ hz)) (by omega) x hx
theorem isum_pos {α:Type} {f:α→Int} {l:List α} (h:∀ x∈l,0≤f x):0≤isum f l:=by
 have:=isum_mono (f:=fun _=>0) (g:=f) h
 rw [isum_zero (f:=fun _=>(0:Int)) fun _ _=>rfl] at this
 exact this
theorem isum_lt {α:Type} {f:α→Int} {l:List α} (h:∀ x∈l,0≤f x) {x:α} (hx:x∈l) (hp:0 < f x):0 < isum f l:=by
 have h0:=isum_pos h
 rcases Int.lt_or_eq_of_le h0 with h1 | h1
 ·exact h1
 ·have:=isum_eq (f:=fun _=>0) (g:=f) h (by rw [isum_zero (f:=fun _=>(0:Int)) fun _ _=>rfl]; omega) x hx
  omega
structure Lk where
 a:Nat
 b:Nat
 t:Int
 deriving Inhabited,DecidableEq
def lkAt (L:List Lk) (i:Nat):Lk:=L.getD i default
structure Net (N:Nat) (L:List Lk):Prop where
 a:∀ i,i < L.length→(lkAt L i).a < N
 b:∀ i,i < L.length→(lkAt L i).b < N
 ne:∀ i,i < L.length→(lkAt L i).a≠(lkAt L i).b
 t:∀ i,i < L.length→0 < (lkAt L i).t
def inTo (L:List Lk) (f:Nat→Int) (u i:Nat):Int:=(if (lkAt L i).b=u then f i else 0)-(if (lkAt L i).a=u then f i else 0)
def keptF (L:List Lk) (f:Nat→Int) (u:Nat):Int:=isum (inTo L f u) (List.range L.length)
def Fits (L:List Lk) (f:Nat→Int):Prop:=∀ i,i < L.length → -(lkAt L i).t≤f i∧f i≤(lkAt L i).t
def resF (L:List Lk) (f:Nat→Int) (u i:Nat):Int:=if (lkAt L i).a=u then (lkAt L i).t-f i else (lkAt L i).t+f i
def IsWay (L:List Lk) (u v i:Nat):Prop:=i < L.length∧(((lkAt L i).a=u∧(lkAt L i).b=v)∨((lkAt L i).b=u∧(lkAt L i).a=v))
def outOf (L:List Lk) (S:Nat→Bool) (f:Nat→Int) (i:Nat):Int:=if S (lkAt L i).a=true∧S (lkAt L i).b=false then f i else if S (lkAt L i).b=true∧S (lkAt L i).a=false then-f i else 0
def cutC (L:List Lk) (S:Nat→Bool):Int:=isum (fun i=>if S (lkAt L i).a≠S (lkAt L i).b then (lkAt L i).t else 0) (List.range L.length)
variable {N:Nat} {L:List Lk}
theorem range_sum_one {n x:Nat} (hx:x < n) (k:Int):isum (fun y=>if y=x then k else 0) (List.range n)=k:=by
 rw [isum_one List.nodup_range,if_pos (List.mem_range.2 hx)]
theorem kept_set (h:Net N L) (S:Nat→Bool) (f:Nat→Int):isum (fun u=>if S u=true then keptF L f u else 0) (List.range N) = - isum (outOf L S f) (List.range L.length):=by
 have e1:isum (fun u=>if S u=true then keptF L f u else 0) (List.range N)=isum (fun u=>isum (fun i=>if S u=true then inTo L f u i else 0) (List.range L.length)) (List.range N):=by
  refine isum_congr fun u _=>?_
  by_cases hs:S u=true
  ·simp only [if_pos hs]; rfl
  ·simp only [if_neg hs]; exact (isum_zero fun _ _=>rfl).symm
 rw [e1,isum_swap,← isum_neg]
 refine isum_congr fun i hi=>?_
 rw [List.mem_range] at hi
 have ha:=h.a i hi
 have hb:=h.b i hi
 have e2:isum (fun u=>if S u=true then inTo L f u i else 0) (List.range N)=isum (fun u=>(if u=(lkAt L i).b then (if S (lkAt L i).b=true then f i else 0) else 0)-(if u=(lkAt L i).a then (if S (lkAt L i).a=true then f i else 0) else 0)) (List.range N):=by
  refine isum_congr fun u _=>?_
  unfold inTo
  by_cases hs:S u=true
  ·rw [if_pos hs]
   congr 1
   ·by_cases e:(lkAt L i).b=u
    ·rw [if_pos e,if_pos e.symm,e,if_pos hs]
    ·rw [if_neg e,if_neg fun e2=>e e2.symm]
   ·by_cases e:(lkAt L i).a=u
    ·rw [if_pos e,if_pos e.symm,e,if_pos hs]
    ·rw [if_neg e,if_neg fun e2=>e e2.symm]
  ·rw [if_neg hs]
   have h1:(if u=(lkAt L i).b then (if S (lkAt L i).b=true then f i else 0) else 0)=(0:Int):=by
    by_cases e:u=(lkAt L i).b
    ·rw [if_pos e,← e,if_neg hs]
    ·rw [if_neg e]
   have h2:(if u=(lkAt L i).a then (if S (lkAt L i).a=true then f i else 0) else 0)=(0:Int):=by
    by_cases e:u=(lkAt L i).a
    ·rw [if_pos e,← e,if_neg hs]
    ·rw [if_neg e]
   rw [h1,h2]; rfl
 rw [e2,isum_sub,range_sum_one hb,range_sum_one ha]
 unfold outOf
 cases h1:S (lkAt L i).a <;> cases h2:S (lkAt L i).b <;> simp
theorem out_le {f:Nat→Int} (hf:Fits L f) (S:Nat→Bool) {i:Nat} (hi:i < L.length):outOf L S f i≤if S (lkAt L i).a≠S (lkAt L i).b then (lkAt L i).t else 0:=by
 have:=hf i hi
 unfold outOf
 cases h1:S (lkAt L i).a <;> cases h2:S (lkAt L i).b <;> simp <;> omega
theorem out_cut {f:Nat→Int} (hf:Fits L f) (S:Nat→Bool):isum (outOf L S f) (List.range L.length)≤cutC L S :=
 isum_mono fun i hi=>out_le hf S (List.mem_range.1 hi)
def Shut (L:List Lk) (f:Nat→Int) (S:Nat→Bool):Prop:=∀ u v i,IsWay L u v i→S u=true→S v=false→resF L f u i≤0
theorem out_shut {f:Nat→Int} (h:Net N L) (hf:Fits L f) {S:Nat→Bool} (hs:Shut L f S):isum (outOf L S f) (List.range L.length)=cutC L S:=by
 refine isum_congr fun i hi=>?_
 rw [List.mem_range] at hi
 have hi2:=hf i hi
 have hne:=h.ne i hi
 unfold outOf
 cases h1:S (lkAt L i).a <;> cases h2:S (lkAt L i).b
 ·simp
 ·have:=hs _ _ i ⟨hi,.inr ⟨rfl,rfl⟩⟩ h2 h1
  unfold resF at this
  rw [if_neg hne] at this
  simp
  omega
 ·have:=hs _ _ i ⟨hi,.inl ⟨rfl,rfl⟩⟩ h1 h2
  unfold resF at this
  rw [if_pos rfl] at this
  simp
  omega
 ·simp
theorem shut_out {f:Nat→Int} (h:Net N L) (hf:Fits L f) {S:Nat→Bool} (he:cutC L S≤isum (outOf L S f) (List.range L.length)):Shut L f S:=by
 have key:=isum_eq (fun i hi=>out_le hf S (List.mem_range.1 hi)) he
 rintro u v i ⟨hi,hw⟩ hu hv
 have hk:=key i (List.mem_range.2 hi)
 have hne:=h.ne i hi
 unfold outOf at hk
 unfold resF
 rcases hw with ⟨h1,h2⟩ | ⟨h1,h2⟩
 ·rw [h1,h2,hu,hv] at hk
  simp at hk
  rw [if_pos h1]
  omega
 ·rw [h1,h2,hu,hv] at hk
  simp at hk
  rw [if_neg (by rw [h2]; intro e; rw [e,hu] at hv; cases hv)]
  omega
structure Ends (N:Nat) (A B:Nat→Bool):Prop where
 dis:∀ u,A u=true→B u=true→False
 a:∃ u,u < N∧A u=true
 b:∃ u,u < N∧B u=true
def IsSide (A B S:Nat→Bool):Prop:=(∀ u,A u=true→S u=true)∧∀ u,B u=true→S u=false
def greatF (N:Nat) (L:List Lk) (f:Nat→Int) (A:Nat→Bool):Int := - isum (fun u=>if A u=true then keptF L f u else 0) (List.range N)
def Right (N:Nat) (L:List Lk) (f:Nat→Int) (A B:Nat→Bool):Prop:=Fits L f∧∀ u,u < N→A u=false→B u=false→keptF L f u=0
theorem great_side {f:Nat→Int} (h:Net N L) {A B S:Nat→Bool} (hf:Right N L f A B) (hS:IsSide A B S):greatF N L f A=isum (outOf L S f) (List.range L.length):=by
 have e:isum (fun u=>if S u=true then keptF L f u else 0) (List.range N)=isum (fun u=>if A u=true then keptF L f u else 0) (List.range N):=by
  refine isum_congr fun u hu=>?_
  rw [List.mem_range] at hu
  by_cases ha:A u=true
  ·rw [if_pos ha,if_pos (hS.1 u ha)]
  ·rw [if_neg ha]
   by_cases hs:S u=true
   ·rw [if_pos hs]
    refine hf.2 u hu (by simpa using ha) ?_
    cases hb:B u with
    | false=>rfl
    | true=>rw [hS.2 u hb] at hs; cases hs
   ·rw [if_neg hs]
 unfold greatF
 rw [← e,kept_set h]
 omega
theorem great_le {f:Nat→Int} (h:Net N L) {A B S:Nat→Bool} (hf:Right N L f A B) (hS:IsSide A B S):greatF N L f A≤cutC L S:=by
 rw [great_side h hf hS]
 exact out_cut hf.1 S
theorem great_shut {f:Nat→Int} (h:Net N L) {A B S:Nat→Bool} (hf:Right N L f A B) (hS:IsSide A B S):greatF N L f A=cutC L S↔Shut L f S:=by
 rw [great_side h hf hS]
 exact ⟨fun e=>shut_out h hf.1 (Int.le_of_eq e.symm),fun hs=>out_shut h hf.1 hs⟩
theorem gap {M:Nat} (hs:List Nat) (lo:Nat) (h:hs.length < M):∃ t,lo≤t∧t < lo+M∧t∉hs:=by
 apply Classical.byContradiction
 intro hn
 have hall:∀ t∈List.range' lo M,t∈hs:=by
  intro t ht
  rw [List.mem_range'] at ht
  obtain ⟨i,hi,rfl⟩:=ht
  apply Classical.byContradiction
  intro hno
  exact hn ⟨_,by omega,by omega,hno⟩
 have key:∀ {l m:List Nat},l.Nodup→(∀ x∈l,x∈m)→l.length≤m.length:=by
  intro l
  induction l with
  | nil=>intro m _ _; exact Nat.zero_le _
  | cons x l ih =>
    intro m hnd hm
    rw [List.nodup_cons] at hnd
    have hx:=hm x (List.mem_cons_self ..)
    have:=ih (m:=m.erase x) hnd.2 fun y hy=>by
     refine (List.mem_erase_of_ne ?_).2 (hm y (List.mem_cons_of_mem _ hy))
     rintro rfl
     exact hnd.1 hy
    rw [List.length_erase_of_mem hx] at this
    have:=List.length_pos_of_mem hx
    rw [List.length_cons]
    omega
 have:=key (List.nodup_range' ) hall
 rw [List.length_range'] at this
 omega
def Slope (L:List Lk) (f:Nat→Int) (h:Nat→Nat):Prop:=∀ u v i,IsWay L u v i→0 < resF L f u i→h u≤h v+1
theorem slope_gap {f:Nat→Int} {h:Nat→Nat} (hs:Slope L f h) {x y:Nat} (hx:x < N) (hy:y < N) (hd:h x+N≤h y) (hlo:x≠y) (hN:Net N L):∃ S:Nat→Bool,S y=true∧S x=false∧Shut L f S∧(∀ u,S u=true→h x < h u)∧∀ u,u < N→h y≤h u→S u=true:=by
 obtain ⟨t,h1,h2,h3⟩:=gap (M:=N-1) (((List.range N).filter fun u=>decide (u≠x∧u≠y)).map h) (h x+1) (by
  rw [List.length_map]
  have e1:((List.range N).filter fun u=>decide (u≠x∧u≠y))=((List.range N).erase x).erase y:=by
   rw [(List.nodup_range.erase x).erase_eq_filter,List.nodup_range.erase_eq_filter,List.filter_filter]
   refine List.filter_congr fun u _=>?_
   rw [Bool.eq_iff_iff]
   simp
   exact And.comm
  rw [e1,List.length_erase_of_mem,List.length_erase_of_mem,List.length_range]
  ·have:2≤N:=by omega
   omega
  ·exact List.mem_range.2 hx
  ·exact (List.mem_erase_of_ne fun e=>hlo e.symm).2 (List.mem_range.2 hy))
 have hno:∀ u,u < N→h u≠t:=by
  intro u hu e
  by_cases hux:u=x
  ·subst hux; omega
  ·by_cases huy:u=y
   ·subst huy; omega
   ·exact h3 (List.mem_map.2 ⟨u,List.mem_filter.2 ⟨List.mem_range.2 hu,by simp [hux,huy]⟩,e⟩)
 refine ⟨fun u=>decide (t < h u),by simp; omega,by simp; omega,?_,fun u hu=>by simp at hu; omega,fun u hu hl=>by simp; omega⟩
 rintro u v i hw hu hv
 simp only [decide_eq_true_eq,decide_eq_false_iff_not] at hu hv
 apply Int.le_of_not_gt
 intro hp
 have h4:=hs u v i hw hp
 have hvN:v < N:=by
  obtain ⟨hi,hw⟩:=hw
  rcases hw with ⟨-,e⟩ | ⟨-,e⟩
  ·rw [← e]; exact hN.b i hi
  ·rw [← e]; exact hN.a i hi
 have:=hno v hvN
 omega
theorem high_le {f:Nat→Int} {h:Nat→Nat} (hN:Net N L) {A:Nat→Bool} (hf:Fits L f) (hs:Slope L f h) (hk:∀ u,u < N→A u=false→0≤keptF L f u) (hA:∀ u,A u=true→h u=N) {a:Nat} (ha:a < N) (haA:A a=true) {u:Nat} (hu:u < N) (hp:0 < keptF L f u) (hAu:A u=false):h u < 2 * N:=by
 apply Nat.lt_of_not_le
 intro hge
 have hne:a≠u:=by intro e; rw [← e,haA] at hAu; cases hAu
 obtain ⟨S,h1,h2,h3,h4, -⟩:=slope_gap hs ha hu (by rw [hA a haA]; omega) hne hN
 have e:=kept_set hN S f
 rw [out_shut hN hf h3] at e
 have hc:0≤cutC L S:=isum_pos fun i hi=>by
  have:=hN.t i (List.mem_range.1 hi)
  split <;> omega
 have hpos:0 < isum (fun u=>if S u=true then keptF L f u else 0) (List.range N):=by
  refine isum_lt (fun v hv=>?_) (x:=u) (List.mem_range.2 hu) (by rw [if_pos h1]; exact hp)
  split
  ·rename_i hSv
   refine hk v (List.mem_range.1 hv) ?_
   cases hAv:A v with
   | false=>rfl
   | true=>have:=h4 v hSv; rw [hA v hAv,hA a haA] at this; omega
  ·exact Int.le_refl _
 omega
theorem side_of_heights {f:Nat→Int} {h:Nat→Nat} (hN:Net N L) {A B:Nat→Bool} (hE:Ends N A B) (hAN:∀ u,A u=true→u < N) (hs:Slope L f h) (hA:∀ u,A u=true→h u=N) (hB:∀ u,B u=true→h u=0):∃ S,IsSide A B S∧Shut L f S:=by
 obtain ⟨a,ha,haA⟩:=hE.a
 obtain ⟨b,hb,hbB⟩:=hE.b
 have hne:b≠a:=by intro e; rw [e] at hbB; exact hE.dis a haA hbB
 obtain ⟨S,h1,h2,h3,h4,h5⟩:=slope_gap hs hb ha (by rw [hA a haA,hB b hbB]; omega) hne hN
 refine ⟨S,⟨fun u hu=>h5 u (hAN u hu) (by rw [hA u hu,hA a haA]; omega),fun u hu=>?_⟩,h3⟩
 cases hSu:S u with
 | false=>rfl
 | true=>have:=h4 u hSu; rw [hB u hu,hB b hbB] at this; omega
end Go.Proofs.YtibmeigdjghkcaaGreat
namespace Go.Proofs.YtibmeigdjghkcaaGreat
set_option linter.unusedVariables false
variable {N:Nat} {L:List Lk}
def pushF (L:List Lk) (f:Nat→Int) (k i:Nat) (x:Int):Nat→Int:=fun j=>if j=i then (if (lkAt L i).a=k then f i+x else f i-x) else f j
theorem way_ne (hN:Net N L) {u v i:Nat} (hw:IsWay L u v i):u≠v:=by
 obtain ⟨hi,hw⟩:=hw
 have:=hN.ne i hi
 rcases hw with ⟨h1,h2⟩ | ⟨h1,h2⟩
 ·rw [← h1,← h2]; exact this
 ·rw [← h1,← h2]; exact fun e=>this e.symm
theorem way_lt (hN:Net N L) {u v i:Nat} (hw:IsWay L u v i):u < N∧v < N:=by
 obtain ⟨hi,hw⟩:=hw
 have h1:=hN.a i hi
 have h2:=hN.b i hi
 rcases hw with ⟨e1,e2⟩ | ⟨e1,e2⟩
 ·rw [← e1,← e2]; exact ⟨h1,h2⟩
 ·rw [← e1,← e2]; exact ⟨h2,h1⟩
theorem kept_push (hN:Net N L) {f:Nat→Int} {k v i:Nat} (hw:IsWay L k v i) (x:Int) (u:Nat):keptF L (pushF L f k i x) u=keptF L f u+(if u=v then x else 0)-(if u=k then x else 0):=by
 have hne:=way_ne hN hw
 have hab:=hN.ne i hw.1
 have e:∀ j∈List.range L.length,inTo L (pushF L f k i x) u j=inTo L f u j+(if j=i then (if u=v then x else 0)-(if u=k then x else 0) else 0):=by
  intro j _
  unfold inTo pushF
  by_cases hj:j=i
  ·subst hj
   simp only [if_true]
   rcases hw.2 with ⟨h1,h2⟩ | ⟨h1,h2⟩
   ·subst h1 h2
    by_cases c1:(lkAt L j).b=u
    ·have c2:¬ (lkAt L j).a=u:=fun e=>hab (e.trans c1.symm)
     have c3:u=(lkAt L j).b:=c1.symm
     have c4:¬ u=(lkAt L j).a:=fun e=>c2 e.symm
     simp only [if_true,if_pos c1,if_neg c2,if_pos c3,if_neg c4]
     omega
    ·by_cases c2:(lkAt L j).a=u
     ·have c3:¬ u=(lkAt L j).b:=fun e=>c1 e.symm
      have c4:u=(lkAt L j).a:=c2.symm
      simp only [if_true,if_neg c1,if_pos c2,if_neg c3,if_pos c4]
      omega
     ·have c3:¬ u=(lkAt L j).b:=fun e=>c1 e.symm
      have c4:¬ u=(lkAt L j).a:=fun e=>c2 e.symm
      simp only [if_neg c1,if_neg c2,if_neg c3,if_neg c4]
      omega
   ·subst h1 h2
    have c0:¬ (lkAt L j).a=(lkAt L j).b:=hab
    by_cases c1:(lkAt L j).b=u
    ·have c2:¬ (lkAt L j).a=u:=fun e=>hab (e.trans c1.symm)
     have c3:u=(lkAt L j).b:=c1.symm
     have c4:¬ u=(lkAt L j).a:=fun e=>c2 e.symm
     simp only [if_neg c0,if_pos c1,if_neg c2,if_pos c3,if_neg c4]
     omega
    ·by_cases c2:(lkAt L j).a=u
     ·have c3:¬ u=(lkAt L j).b:=fun e=>c1 e.symm
      have c4:u=(lkAt L j).a:=c2.symm
      simp only [if_neg c0,if_neg c1,if_pos c2,if_neg c3,if_pos c4]
      omega
     ·have c3:¬ u=(lkAt L j).b:=fun e=>c1 e.symm
      have c4:¬ u=(lkAt L j).a:=fun e=>c2 e.symm
      simp only [if_neg c1,if_neg c2,if_neg c3,if_neg c4]
      omega
  ·simp only [if_neg hj]
   omega
 unfold keptF
 rw [isum_congr e,isum_add,range_sum_one hw.1]
 omega
theorem res_push (hN:Net N L) {f:Nat→Int} {k v i:Nat} (hw:IsWay L k v i) (x:Int):resF L (pushF L f k i x) k i=resF L f k i-x∧resF L (pushF L f k i x) v i=resF L f v i+x:=by
 have hne:=way_ne hN hw
 have hab:=hN.ne i hw.1
 unfold resF pushF
 rcases hw.2 with ⟨h1,h2⟩ | ⟨h1,h2⟩
 ·have c:¬ (lkAt L i).a=v:=fun e=>hne (h1.symm.trans e)
  simp only [if_true,if_pos h1,if_neg c]
  omega
 ·have c:¬ (lkAt L i).a=k:=fun e=>hab (e.trans h1.symm)
  simp only [if_true,if_pos h2,if_neg c]
  omega
theorem res_other {f:Nat→Int} {k i:Nat} (x:Int) {u j:Nat} (hj:j≠i):resF L (pushF L f k i x) u j=resF L f u j:=by
 unfold resF pushF
 simp only [if_neg hj]
theorem fits_push (hN:Net N L) {f:Nat→Int} (hf:Fits L f) {k v i:Nat} (hw:IsWay L k v i) {x:Int} (h0:0≤x) (h1:x≤resF L f k i):Fits L (pushF L f k i x):=by
 intro j hj
 have:=hf j hj
 have hab:=hN.ne i hw.1
 unfold pushF
 unfold resF at h1
 by_cases e:j=i
 ·subst e
  simp only [if_true]
  split
  ·rename_i h
   rw [if_pos h] at h1
   omega
  ·rename_i h
   rw [if_neg h] at h1
   omega
 ·rw [if_neg e]
  exact this
structure Pre (N:Nat) (L:List Lk) (A B:Nat→Bool) (f:Nat→Int) (h:Nat→Nat):Prop where
 fits:Fits L f
 pos:∀ u,u < N→A u=false→0≤keptF L f u
 slope:Slope L f h
 hA:∀ u,A u=true→h u=N
 hB:∀ u,B u=true→h u=0
 hi:∀ u,h u≤2 * N+1
variable {A B:Nat→Bool} {f:Nat→Int} {h:Nat→Nat}
theorem Pre.push (p:Pre N L A B f h) (hN:Net N L) {k v i:Nat} (hw:IsWay L k v i) {x:Int} (h0:0 < x) (h1:x≤resF L f k i) (h2:x≤keptF L f k) (hd:h k=h v+1):Pre N L A B (pushF L f k i x) h:=by
 have hne:=way_ne hN hw
 refine ⟨fits_push hN p.fits hw (by omega) h1,fun u hu hA=>?_,fun u w j hj hr=>?_,p.hA,p.hB,p.hi⟩
 ·have:=p.pos u hu hA
  rw [kept_push hN hw]
  by_cases c1:u=v
  ·rw [if_pos c1,if_neg (by omega)]; omega
  ·rw [if_neg c1]
   by_cases c2:u=k
   ·rw [if_pos c2]; rw [c2]; omega
   ·rw [if_neg c2]; omega
 ·by_cases e:j=i
  ·subst e
   have hends:(u=k∧w=v)∨(u=v∧w=k):=by
    rcases hw.2 with ⟨g1,g2⟩ | ⟨g1,g2⟩ <;> rcases hj.2 with ⟨g3,g4⟩ | ⟨g3,g4⟩ <;> omega
   rcases hends with ⟨rfl,rfl⟩ | ⟨rfl,rfl⟩
   ·omega
   ·omega
  ·rw [res_other x e] at hr
   exact p.slope u w j hj hr
def raiseH (h:Nat→Nat) (k n:Nat):Nat→Nat:=fun u=>if u=k then n else h u
theorem Pre.raise (p:Pre N L A B f h) (hN:Net N L) {k low:Nat} (hA:A k=false) (hB:B k=false) (h1:h k≤low) (h2:low≤2 * N) (h3:∀ v i,IsWay L k v i→0 < resF L f k i→low≤h v):Pre N L A B f (raiseH h k (low+1)):=by
 refine ⟨p.fits,p.pos,fun u v i hw hr=>?_,fun u hu=>?_,fun u hu=>?_,fun u=>?_⟩
 ·have:=p.slope u v i hw hr
  have hne:=way_ne hN hw
  unfold raiseH
  by_cases c1:u=k
  ·subst c1
   have:=h3 v i hw hr
   rw [if_pos rfl,if_neg fun e=>hne e.symm]
   omega
  ·rw [if_neg c1]
   by_cases c2:v=k
   ·rw [if_pos c2]; rw [c2] at this; omega
   ·rw [if_neg c2]; exact this
 ·unfold raiseH
  rw [if_neg (by intro e; rw [e,hA] at hu; cases hu)]
  exact p.hA u hu
 ·unfold raiseH
  rw [if_neg (by intro e; rw [e,hB] at hu; cases hu)]
  exact p.hB u hu
 ·unfold raiseH
  have:=p.hi u
  split <;> omega
def isEnd (A B:Nat→Bool) (u:Nat):Bool:=A u||B u
structure Wait (N:Nat) (L:List Lk) (A B:Nat→Bool) (f:Nat→Int) (x:Option Nat) (wait:List Nat):Prop where
 nd:wait.Nodup
 is:∀ u∈wait,u < N∧isEnd A B u=false∧0 < keptF L f u∧x≠some u
 all:∀ u,u < N→isEnd A B u=false→0 < keptF L f u→x=some u∨u∈wait
structure Mid (N:Nat) (L:List Lk) (A B:Nat→Bool) (h:Nat→Nat) (k:Nat) (w0:List Nat) (done:List (Nat×Nat)) (f:Nat→Int) (wait:List Nat):Prop where
 pre:Pre N L A B f h
 wt:Wait N L A B f (some k) wait
 grew:∃ more,wait=w0++more∧∀ v∈more,h v+1=h k
 kk:k < N∧isEnd A B k=false∧0≤keptF L f k
 no:0 < keptF L f k→∀ p∈done,0 < resF L f k p.2→h k≤h p.1
theorem end_false {u:Nat}:isEnd A B u=false↔A u=false∧B u=false:=by
 unfold isEnd
 rw [Bool.or_eq_false_iff]
theorem Mid.skip {k:Nat} {w0 wait:List Nat} {done:List (Nat×Nat)} (m:Mid N L A B h k w0 done f wait) {v i:Nat} (hno:¬ (0 < min (keptF L f k) (resF L f k i)∧h k=h v+1)) (hw:IsWay L k v i):Mid N L A B h k w0 (done++[(v,i)]) f wait:=by
 refine ⟨m.pre,m.wt,m.grew,m.kk,fun hp p hpd hr=>?_⟩
 rcases List.mem_append.1 hpd with hpd | hpd
 ·exact m.no hp p hpd hr
 ·rw [List.mem_singleton] at hpd
  subst hpd
  have:=m.pre.slope k v i hw hr
  have hr':0 < resF L f k i:=hr
  simp only
  omega
theorem Mid.push {k:Nat} {w0 wait:List Nat} {done:List (Nat×Nat)} (m:Mid N L A B h k w0 done f wait) (hN:Net N L) {v i:Nat} (hw:IsWay L k v i) (hl:∀ p∈done,p.2≠i) (hp:0 < min (keptF L f k) (resF L f k i)) (hd:h k=h v+1) :
  Mid N L A B h k w0 (done++[(v,i)]) (pushF L f k i (min (keptF L f k) (resF L f k i))) (if isEnd A B v=false∧keptF L f v=0 then wait++[v] else wait):=by
 obtain ⟨x,hx⟩:∃ x,x=min (keptF L f k) (resF L f k i):=⟨_,rfl⟩
 rw [← hx] at hp ⊢
 have h1:x≤resF L f k i:=by omega
 have h2:x≤keptF L f k:=by omega
 have hne:=way_ne hN hw
 have hlt:=way_lt hN hw
 have hpre:=m.pre.push hN hw hp h1 h2 hd
 have hkk:keptF L (pushF L f k i x) k=keptF L f k-x:=by rw [kept_push hN hw,if_neg hne,if_pos rfl]; omega
 have hkv:keptF L (pushF L f k i x) v=keptF L f v+x:=by rw [kept_push hN hw,if_pos rfl,if_neg fun e=>hne e.symm]; omega
 have hko:∀ u,u≠k→u≠v→keptF L (pushF L f k i x) u=keptF L f u:=fun u c1 c2=>by rw [kept_push hN hw,if_neg c2,if_neg c1]; omega
 have hnot:∀ u∈wait,u≠k:=fun u hu e=>(m.wt.is u hu).2.2.2 (by rw [e])
 refine ⟨hpre,?_,?_,⟨m.kk.1,m.kk.2.1,by rw [hkk]; omega⟩,fun hpos p hpd hr=>?_⟩
 ·by_cases hc:isEnd A B v=false∧keptF L f v=0
  ·rw [if_pos hc]
   have hvw:v∉wait:=fun hv=>by have:=(m.wt.is v hv).2.2.1; omega
   refine ⟨?_,fun u hu=>?_,fun u hu he hk=>?_⟩
   ·rw [List.nodup_append]
    exact ⟨m.wt.nd,by simp,fun a ha b hb=>by rw [List.mem_singleton] at hb; rw [hb]; exact fun e=>hvw (e ▸ ha)⟩
   ·rcases List.mem_append.1 hu with hu | hu
    ·obtain ⟨g1,g2,g3,g4⟩:=m.wt.is u hu
     refine ⟨g1,g2,?_,g4⟩
     by_cases e:u=v
     ·exact absurd (e ▸ hu) hvw
     ·rw [hko u (hnot u hu) e]; exact g3
    ·rw [List.mem_singleton] at hu
     subst hu
     exact ⟨hlt.2,hc.1,by rw [hkv]; omega,fun e=>hne (by injection e)⟩
   ·by_cases e:u=v
    ·exact .inr (by rw [e]; simp)
    ·by_cases e2:u=k
     ·exact .inl (by rw [e2])
     ·rw [hko u e2 e] at hk
      rcases m.wt.all u hu he hk with g | g
      ·exact .inl g
      ·exact .inr (List.mem_append_left _ g)
  ·rw [if_neg hc]
   refine ⟨m.wt.nd,fun u hu=>?_,fun u hu he hk=>?_⟩
   ·obtain ⟨g1,g2,g3,g4⟩:=m.wt.is u hu
    refine ⟨g1,g2,?_,g4⟩
    by_cases e:u=v
    ·rw [e,hkv]; rw [e] at g3; omega
    ·rw [hko u (hnot u hu) e]; exact g3
   ·by_cases e2:u=k
    ·exact .inl (by rw [e2])
    ·by_cases e:u=v
     ·subst e
      have hv0:keptF L f u≠0:=fun e=>hc ⟨he,e⟩
      have:=m.pre.pos u hu (end_false.1 he).1
      exact m.wt.all u hu he (by omega)
     ·rw [hko u e2 e] at hk
      exact m.wt.all u hu he hk
 ·obtain ⟨more,g1,g2⟩:=m.grew
  by_cases hc:isEnd A B v=false∧keptF L f v=0
  ·rw [if_pos hc]
   refine ⟨more++[v],by rw [g1,List.append_assoc],fun u hu=>?_⟩
   rcases List.mem_append.1 hu with hu | hu
   ·exact g2 u hu
   ·rw [List.mem_singleton] at hu
    rw [hu,hd]
  ·rw [if_neg hc]
   exact ⟨more,g1,g2⟩
 ·rw [hkk] at hpos
  rcases List.mem_append.1 hpd with hpd | hpd
  ·rw [res_other x (hl p hpd)] at hr
   exact m.no (by omega) p hpd hr
  ·rw [List.mem_singleton] at hpd
   subst hpd
   simp only at hr
   rw [(res_push hN hw x).1] at hr
   omega
def hsum (l:List Nat) (g:Nat→Nat):Nat:=(l.map g).sum
theorem hsum_le {g g':Nat→Nat}:∀ {l:List Nat},(∀ u∈l,g u≤g' u)→hsum l g≤hsum l g'
 | [],_=>Nat.le_refl _
 | u::l,hh=>by
   have h1:=hh u (List.mem_cons_self ..)
   have h2:=hsum_le fun v hv=>hh v (List.mem_cons_of_mem u hv)
   unfold hsum at h2 ⊢
   simp only [List.map_cons,List.sum_cons]
   omega
theorem hsum_lt {g g':Nat→Nat}:∀ {l:List Nat},(∀ u∈l,g u≤g' u)→(∃ u∈l,g u < g' u)→hsum l g < hsum l g'
 | [],_,⟨u,hu,_⟩=>by cases hu
 | u::l,hh,⟨v,hv,hlt⟩=>by
   have h1:=hh u (List.mem_cons_self ..)
   have hm:=fun v hv=>hh v (List.mem_cons_of_mem u hv)
   have h2:=hsum_le hm
   unfold hsum at h2 ⊢
   simp only [List.map_cons,List.sum_cons]
   rcases List.mem_cons.1 hv with rfl | hv
   ·omega
   ·have:=hsum_lt hm ⟨v,hv,hlt⟩
    unfold hsum at this
    omega
theorem hsum_const {g:Nat→Nat} {c:Nat}:∀ {l:List Nat},(∀ u∈l,g u≤c)→hsum l g≤l.length * c
 | [],_=>by simp [hsum]
 | u::l,hh=>by
   have h1:=hh u (List.mem_cons_self ..)
   have h2:=hsum_const fun v hv=>hh v (List.mem_cons_of_mem u hv)
   unfold hsum at h2 ⊢
   rw [List.map_cons,List.sum_cons,List.length_cons,Nat.succ_mul]
   omega
theorem hsum_append (g:Nat→Nat) (l m:List Nat):hsum (l++m) g=hsum l g+hsum m g:=by
 unfold hsum
 rw [List.map_append,List.sum_append]
def wtW (N:Nat) (h:Nat→Nat) (u:Nat):Nat:=(N+1) ^ h u
def capC (N:Nat):Nat:=N * (N+1) ^ (2 * N+1)+1
def meas (N:Nat) (h:Nat→Nat) (wait:List Nat):Nat:=hsum (List.range N) (fun u=>2 * N+1-h u) * capC N+hsum wait (wtW N h)
theorem nodup_len {l:List Nat} (hn:l.Nodup) (hl:∀ u∈l,u < N):l.length≤N:=by
 have key:∀ {l m:List Nat},l.Nodup→(∀ x∈l,x∈m)→l.length≤m.length:=by
  intro l
  induction l with
  | nil=>intro m _ _; exact Nat.zero_le _
  | cons x l ih =>
    intro m hnd hm
    rw [List.nodup_cons] at hnd
    have hx:=hm x (List.mem_cons_self ..)
    have:=ih (m:=m.erase x) hnd.2 fun y hy=>by
     refine (List.mem_erase_of_ne ?_).2 (hm y (List.mem_cons_of_mem _ hy))
     rintro rfl
     exact hnd.1 hy
    rw [List.length_erase_of_mem hx] at this
    have:=List.length_pos_of_mem hx
    rw [List.length_cons]
    omega
 have:=key hn fun u hu=>List.mem_range.2 (hl u hu)
 rwa [List.length_range] at this
theorem wt_cap {wait:List Nat} (hh:∀ u,h u≤2 * N+1) (hn:wait.Nodup) (hl:∀ u∈wait,u < N):hsum wait (wtW N h) < capC N:=by
 have h1:=hsum_const (g:=wtW N h) (l:=wait) (c:=(N+1) ^ (2 * N+1)) fun u _=>Nat.pow_le_pow_right (by omega) (hh u)
 have h2:=nodup_len hn hl
 have h3:wait.length * (N+1) ^ (2 * N+1)≤N * (N+1) ^ (2 * N+1):=Nat.mul_le_mul_right _ h2
 unfold capC
 omega
theorem meas_down {k:Nat} {w0 more:List Nat} (hn:more.Nodup) (hl:∀ u∈more,u < N) (hm:∀ v∈more,h v+1=h k):meas N h (w0++more) < meas N h (k::w0):=by
 unfold meas
 rw [hsum_append]
 have h1:hsum (k::w0) (wtW N h)=wtW N h k+hsum w0 (wtW N h):=by unfold hsum; rw [List.map_cons,List.sum_cons]
 have h2:hsum more (wtW N h) < wtW N h k:=by
  rcases List.eq_nil_or_concat more with rfl | ⟨r,v,rfl⟩
  ·show 0 < _
   unfold wtW
   exact Nat.pow_pos (by omega)
  ·rw [List.concat_eq_append] at *
   have hv:=hm v (by simp)
   have h3:=hsum_const (g:=wtW N h) (l:=r++[v]) (c:=(N+1) ^ h v) fun u hu=>by
    have:=hm u hu
    unfold wtW
    rw [show h u=h v by omega]
    exact Nat.le_refl _
   have h4:=nodup_len hn hl
   have h5:(r++[v]).length * (N+1) ^ h v≤N * (N+1) ^ h v:=Nat.mul_le_mul_right _ h4
   have h6:wtW N h k=(N+1) ^ h v * (N+1):=by unfold wtW; rw [← hv,Nat.pow_succ]
   have h7:0 < (N+1) ^ h v:=Nat.pow_pos (by omega)
   rw [h6,Nat.mul_succ]
   rw [Nat.mul_comm N] at h5
   omega
 omega
theorem meas_raise {k n:Nat} {w w':List Nat} (hk:k < N) (hn:h k < n) (h2:n≤2 * N+1) (hh:∀ u,h u≤2 * N+1) (hd:w'.Nodup) (hl:∀ u∈w',u < N):meas N (raiseH h k n) w' < meas N h w:=by
 have h3:=wt_cap (N:=N) (h:=raiseH h k n) (wait:=w') (fun u=>by unfold raiseH; have:=hh u; split <;> omega) hd hl
 have h4:hsum (List.range N) (fun u=>2 * N+1-raiseH h k n u) < hsum (List.range N) (fun u=>2 * N+1-h u):=by
  refine hsum_lt (fun u _=>?_) ⟨k,List.mem_range.2 hk,?_⟩
  ·unfold raiseH
   split
   ·rename_i e; rw [e]; omega
   ·exact Nat.le_refl _
  ·unfold raiseH
   rw [if_pos rfl]
   omega
 unfold meas
 have h5:(hsum (List.range N) (fun u=>2 * N+1-raiseH h k n u)+1) * capC N≤hsum (List.range N) (fun u=>2 * N+1-h u) * capC N:=Nat.mul_le_mul_right _ h4
 rw [Nat.succ_mul] at h5
 omega
structure Rnd (N:Nat) (L:List Lk) (A B:Nat→Bool) (f:Nat→Int) (h:Nat→Nat) (wait:List Nat):Prop where
 pre:Pre N L A B f h
 wt:Wait N L A B f none wait
theorem Rnd.mid {k:Nat} {w0:List Nat} (r:Rnd N L A B f h (k::w0)):Mid N L A B h k w0 [] f w0:=by
 obtain ⟨hp,hw⟩:=r
 obtain ⟨g1,g2,g3, -⟩:=hw.is k (List.mem_cons_self ..)
 have hnd:=List.nodup_cons.1 hw.nd
 refine ⟨hp,⟨hnd.2,fun u hu=>?_,fun u hu he hk=>?_⟩,⟨[],by simp,fun v hv=>by cases hv⟩,⟨g1,g2,by omega⟩,fun _ p hp=>by cases hp⟩
 ·obtain ⟨q1,q2,q3, -⟩:=hw.is u (List.mem_cons_of_mem _ hu)
  exact ⟨q1,q2,q3,fun e=>by injection e with e; rw [← e] at hu; exact hnd.1 hu⟩
 ·rcases hw.all u hu he hk with e | e
  ·cases e
  ·rcases List.mem_cons.1 e with e | e
   ·exact .inl (by rw [e])
   ·exact .inr e
theorem Mid.empty {k:Nat} {w0 wait:List Nat} {done:List (Nat×Nat)} (m:Mid N L A B h k w0 done f wait) (hz:¬ 0 < keptF L f k):Rnd N L A B f h wait∧meas N h wait < meas N h (k::w0):=by
 refine ⟨⟨m.pre,m.wt.nd,fun u hu=>?_,fun u hu he hk=>?_⟩,?_⟩
 ·obtain ⟨q1,q2,q3, -⟩:=m.wt.is u hu
  exact ⟨q1,q2,q3,fun e=>by cases e⟩
 ·rcases m.wt.all u hu he hk with e | e
  ·injection e with e
   rw [← e] at hk
   exact absurd hk hz
  ·exact .inr e
 ·obtain ⟨more,g1,g2⟩:=m.grew
  rw [g1]
  have hnd:=m.wt.nd
  rw [g1,List.nodup_append] at hnd
  exact meas_down hnd.2.1 (fun u hu=>(m.wt.is u (by rw [g1]; exact List.mem_append_right _ hu)).1) g2
def lowOf (L:List Lk) (f:Nat→Int) (h:Nat→Nat) (k:Nat):List (Nat×Nat)→Nat→Nat
 | [],n=>n
 | p::r,n=>lowOf L f h k r (if 0 < resF L f k p.2 then min n (h p.1) else n)
theorem lowOf_le (L:List Lk) (f:Nat→Int) (h:Nat→Nat) (k:Nat):∀ (l:List (Nat×Nat)) (n:Nat),lowOf L f h k l n≤n∧∀ p∈l,0 < resF L f k p.2→lowOf L f h k l n≤h p.1
 | [],n=>⟨Nat.le_refl _,fun p hp=>by cases hp⟩
 | q::r,n=>by
   obtain ⟨h1,h2⟩:=lowOf_le L f h k r (if 0 < resF L f k q.2 then min n (h q.1) else n)
   have e:lowOf L f h k (q::r) n=lowOf L f h k r (if 0 < resF L f k q.2 then min n (h q.1) else n):=rfl
   rw [e]
   refine ⟨Nat.le_trans h1 (by split <;> omega),fun p hp hr=>?_⟩
   rcases List.mem_cons.1 hp with rfl | hp
   ·rw [if_pos hr] at h1 ⊢
    omega
   ·exact h2 p hp hr
theorem lowOf_ge {c:Nat} (L:List Lk) (f:Nat→Int) (h:Nat→Nat) (k:Nat):∀ (l:List (Nat×Nat)) (n:Nat),c≤n→(∀ p∈l,0 < resF L f k p.2→c≤h p.1)→c≤lowOf L f h k l n
 | [],n,hn,_=>hn
 | q::r,n,hn,hp=>by
   refine lowOf_ge L f h k r _ ?_ fun p hpp=>hp p (List.mem_cons_of_mem _ hpp)
   split
   ·have:=hp q (List.mem_cons_self ..) ‹_›
    omega
   ·exact hn
def AllWays (L:List Lk) (k:Nat) (l:List (Nat×Nat)):Prop:=(∀ p∈l,IsWay L k p.1 p.2)∧∀ v i,IsWay L k v i→(v,i)∈l
theorem Mid.raise {k:Nat} {w0 wait:List Nat} {done:List (Nat×Nat)} (m:Mid N L A B h k w0 done f wait) (hN:Net N L) {a:Nat} (ha:a < N) (haA:A a=true) (hall:AllWays L k done) (hz:0 < keptF L f k) :
  Rnd N L A B f (raiseH h k (lowOf L f h k done (2 * N)+1)) (wait++[k])∧meas N (raiseH h k (lowOf L f h k done (2 * N)+1)) (wait++[k]) < meas N h (k::w0):=by
 obtain ⟨hkN,hke, -⟩:=m.kk
 obtain ⟨hkA,hkB⟩:=end_false.1 hke
 have hhi:=high_le hN m.pre.fits m.pre.slope m.pre.pos m.pre.hA ha haA hkN hz hkA
 obtain ⟨l1,l2⟩:=lowOf_le L f h k done (2 * N)
 have l3:=lowOf_ge (c:=h k) L f h k done (2 * N) (by omega) (m.no hz)
 have hkw:k∉wait:=fun hk=>(m.wt.is k hk).2.2.2 rfl
 have hnd:(wait++[k]).Nodup:=by
  rw [List.nodup_append]
  exact ⟨m.wt.nd,by simp,fun x hx y hy=>by rw [List.mem_singleton] at hy; rw [hy]; exact fun e=>hkw (e ▸ hx)⟩
 have hlt:∀ u∈wait++[k],u < N:=by
  intro u hu
  rcases List.mem_append.1 hu with hu | hu
  ·exact (m.wt.is u hu).1
  ·rw [List.mem_singleton] at hu; rw [hu]; exact hkN
 refine ⟨⟨m.pre.raise hN hkA hkB l3 l1 fun v i hw hr=>l2 _ (hall.2 v i hw) hr,hnd,fun u hu=>?_,fun u hu he hk=>?_⟩,meas_raise hkN (by omega) (by omega) m.pre.hi hnd hlt⟩
 ·rcases List.mem_append.1 hu with hu | hu
  ·obtain ⟨q1,q2,q3, -⟩:=m.wt.is u hu
   exact ⟨q1,q2,q3,fun e=>by cases e⟩
  ·rw [List.mem_singleton] at hu
   subst hu
   exact ⟨hkN,hke,hz,fun e=>by cases e⟩
 ·rcases m.wt.all u hu he hk with e | e
  ·injection e with e
   exact .inr (by rw [e]; simp)
  ·exact .inr (List.mem_append_left _ e)
theorem Rnd.right (r:Rnd N L A B f h []):Right N L f A B:=by
 refine ⟨r.pre.fits,fun u hu hA hB=>?_⟩
 have h1:=r.pre.pos u hu hA
 have h2:¬ 0 < keptF L f u:=fun hk=>by
  rcases r.wt.all u hu (end_false.2 ⟨hA,hB⟩) hk with e | e <;> cases e
 omega
theorem Rnd.side {wait:List Nat} (r:Rnd N L A B f h wait) (hN:Net N L) (hE:Ends N A B) (hAN:∀ u,A u=true→u < N):∃ S,IsSide A B S∧Shut L f S :=
 side_of_heights hN hE hAN r.pre.slope r.pre.hA r.pre.hB
def startF (L:List Lk) (A:Nat→Bool) (i:Nat):Int:=if A (lkAt L i).a=true∧A (lkAt L i).b=false then (lkAt L i).t else if A (lkAt L i).b=true∧A (lkAt L i).a=false then -(lkAt L i).t else 0
def startH (N:Nat) (A:Nat→Bool) (u:Nat):Nat:=if A u=true then N else 0
theorem start_pre (hN:Net N L) (hE:Ends N A B):Pre N L A B (startF L A) (startH N A):=by
 refine ⟨fun i hi=>?_,fun u hu hA=>?_,fun u v i hw hr=>?_,fun u hu=>?_,fun u hu=>?_,fun u=>?_⟩
 ·have:=hN.t i hi
  unfold startF
  split
  ·omega
  ·split <;> omega
 ·refine isum_pos fun i hi=>?_
  rw [List.mem_range] at hi
  have ht:=hN.t i hi
  have hne:=hN.ne i hi
  unfold inTo startF
  by_cases c1:(lkAt L i).b=u
  ·have c2:¬ (lkAt L i).a=u:=fun e=>hne (e.trans c1.symm)
   rw [if_pos c1,if_neg c2,c1,hA]
   cases hAa:A (lkAt L i).a <;> simp
   omega
  ·rw [if_neg c1]
   by_cases c2:(lkAt L i).a=u
   ·rw [if_pos c2,c2,hA]
    cases hAb:A (lkAt L i).b <;> simp
    omega
   ·rw [if_neg c2]
    exact Int.le_refl _
 ·unfold startH
  cases hAu:A u with
  | false=>simp
  | true =>
    cases hAv:A v with
    | true=>simp
    | false =>
      exfalso
      have hne:=hN.ne i hw.1
      unfold resF startF at hr
      rcases hw.2 with ⟨h1,h2⟩ | ⟨h1,h2⟩
      ·rw [if_pos h1,h1,h2,hAu,hAv] at hr
       simp at hr
      ·rw [if_neg (by rw [h2]; intro e; rw [e,hAu] at hAv; cases hAv),h1,h2,hAu,hAv] at hr
       simp at hr
       omega
 ·unfold startH; rw [if_pos hu]
 ·unfold startH
  rw [if_neg (by intro e; exact hE.dis u e hu)]
 ·unfold startH; split <;> omega
theorem start_wait (hN:Net N L) (hE:Ends N A B):Rnd N L A B (startF L A) (startH N A) ((List.range N).filter fun u=>!isEnd A B u&&decide (0 < keptF L (startF L A) u)):=by
 refine ⟨start_pre hN hE,List.nodup_range.filter _,fun u hu=>?_,fun u hu he hk => .inr (List.mem_filter.2 ⟨List.mem_range.2 hu,by simp [he,hk]⟩)⟩
 obtain ⟨h1,h2⟩:=List.mem_filter.1 hu
 simp only [Bool.and_eq_true,Bool.not_eq_true',decide_eq_true_eq] at h2
 exact ⟨List.mem_range.1 h1,h2.1,h2.2,fun e=>by cases e⟩
end Go.Proofs.YtibmeigdjghkcaaGreat
namespace Go.Proofs.YtibmeigdjghkcaaGreat
set_option linter.unusedVariables false
inductive Conn (ps:List (Nat×Nat)):Nat→Nat→Prop
 | refl (x:Nat):Conn ps x x
 | step {x y z:Nat}:(x,y)∈ps∨(y,x)∈ps→Conn ps y z→Conn ps x z
theorem Conn.trans {ps:List (Nat×Nat)} {x y z:Nat} (h:Conn ps x y) (k:Conn ps y z):Conn ps x z:=by
 induction h with
 | refl=>exact k
 | step h1 _ ih=>exact .step h1 (ih k)
theorem Conn.one {ps:List (Nat×Nat)} {x y:Nat} (h:(x,y)∈ps∨(y,x)∈ps):Conn ps x y := .step h (.refl y)
theorem Conn.symm {ps:List (Nat×Nat)} {x y:Nat} (h:Conn ps x y):Conn ps y x:=by
 induction h with
 | refl=>exact .refl _
 | step h1 _ ih=>exact ih.trans (.one h1.symm)
theorem Conn.mono {ps qs:List (Nat×Nat)} {x y:Nat} (h:Conn ps x y) (hs:∀ p∈ps,p∈qs):Conn qs x y:=by
 induction h with
 | refl=>exact .refl _
 | step h1 _ ih=>exact .step (h1.imp (hs _) (hs _)) ih
theorem Conn.same {α:Type} {ps:List (Nat×Nat)} {f:Nat→α} (hf:∀ p∈ps,f p.1=f p.2) {x y:Nat} (h:Conn ps x y):f x=f y:=by
 induction h with
 | refl=>rfl
 | step h1 _ ih =>
   rcases h1 with h1 | h1
   ·exact (hf _ h1).trans ih
   ·exact (hf _ h1).symm.trans ih
theorem snoc_ind {α:Type} {P:List α→Prop} (h0:P []) (h1:∀ l x,P l→P (l++[x])) (l:List α):P l:=by
 have:∀ n (l:List α),l.length=n→P l:=by
  intro n
  induction n with
  | zero=>intro l hl; rw [List.length_eq_zero_iff.1 hl]; exact h0
  | succ n ih =>
    intro l hl
    have hne:l≠[]:=by intro e; rw [e] at hl; simp at hl
    rw [← List.dropLast_concat_getLast hne]
    exact h1 _ _ (ih _ (by rw [List.length_dropLast]; omega))
 exact this _ l rfl
def relax (L:Nat→Nat) (p:Nat×Nat):Nat→Nat:=fun n=>if n=p.1∨n=p.2 then min (L p.1) (L p.2) else L n
def round (ps:List (Nat×Nat)) (L:Nat→Nat):Nat→Nat:=ps.foldl relax L
def rounds (ps:List (Nat×Nat)):Nat→Nat→Nat
 | 0=>id
 | r+1=>round ps (rounds ps r)
theorem relax_le (L:Nat→Nat) (p:Nat×Nat) (n:Nat):relax L p n≤L n:=by
 unfold relax
 split
 ·rename_i h
  rcases h with h | h <;> rw [h]
  ·exact Nat.min_le_left _ _
  ·exact Nat.min_le_right _ _
 ·exact Nat.le_refl _
theorem round_le:∀ (ps:List (Nat×Nat)) (L:Nat→Nat) (n:Nat),round ps L n≤L n
 | [],L,n=>Nat.le_refl _
 | p::r,L,n=>Nat.le_trans (round_le r (relax L p) n) (relax_le L p n)
theorem round_pair:∀ (ps:List (Nat×Nat)) (L:Nat→Nat) (p:Nat×Nat),p∈ps→round ps L p.1≤min (L p.1) (L p.2)∧round ps L p.2≤min (L p.1) (L p.2)
 | q::r,L,p,hp=>by
   rcases List.mem_cons.1 hp with rfl | hp
   ·have h1:=round_le r (relax L p) p.1
    have h2:=round_le r (relax L p) p.2
    have e1:relax L p p.1=min (L p.1) (L p.2):=by unfold relax; simp
    have e2:relax L p p.2=min (L p.1) (L p.2):=by unfold relax; simp
    rw [e1] at h1
    rw [e2] at h2
    exact ⟨h1,h2⟩
   ·have h:=round_pair r (relax L q) p hp
    have h1:=relax_le L q p.1
    have h2:=relax_le L q p.2
    have e:round (q::r) L=round r (relax L q):=rfl
    rw [e]
    omega
theorem relax_conn {qs:List (Nat×Nat)} {L:Nat→Nat} (h:∀ n,Conn qs n (L n)) {p:Nat×Nat} (hp:p∈qs) (n:Nat):Conn qs n (relax L p n):=by
 unfold relax
 split
 ·rename_i hn
  have hc:Conn qs p.1 p.2 := .one (.inl hp)
  have key:∀ z,z=p.1∨z=p.2→Conn qs n z:=by
   intro z hz
   rcases hn with hn | hn <;> rcases hz with hz | hz <;> rw [hn,hz]
   ·exact .refl _
   ·exact hc
   ·exact hc.symm
   ·exact .refl _
  rcases Nat.le_total (L p.1) (L p.2) with hl | hl
  ·rw [Nat.min_eq_left hl]; exact (key _ (.inl rfl)).trans (h _)
  ·rw [Nat.min_eq_right hl]; exact (key _ (.inr rfl)).trans (h _)
 ·exact h n
theorem round_conn {qs:List (Nat×Nat)}:∀ (ps:List (Nat×Nat)) (L:Nat→Nat),(∀ p∈ps,p∈qs)→(∀ n,Conn qs n (L n))→∀ n,Conn qs n (round ps L n)
 | [],L,_,h,n=>h n
 | p::r,L,hs,h,n=>round_conn r (relax L p) (fun q hq=>hs q (List.mem_cons_of_mem _ hq)) (relax_conn h (hs p (List.mem_cons_self ..))) n
theorem rounds_conn (ps:List (Nat×Nat)):∀ (r n:Nat),Conn ps n (rounds ps r n)
 | 0,n => .refl n
 | r+1,n=>round_conn ps _ (fun _ h=>h) (rounds_conn ps r) n
theorem rounds_le (ps:List (Nat×Nat)) (r n:Nat):rounds ps (r+1) n≤rounds ps r n:=round_le _ _ _
theorem rounds_self (ps:List (Nat×Nat)):∀ (r n:Nat),rounds ps r n≤n
 | 0,n=>Nat.le_refl _
 | r+1,n=>Nat.le_trans (rounds_le ps r n) (rounds_self ps r n)
theorem least_conn (ps:List (Nat×Nat)) (x:Nat):∃ m,Conn ps x m∧∀ y,Conn ps x y→m≤y:=by
 have:∀ n,(∃ y,y≤n∧Conn ps x y)→∃ m,Conn ps x m∧∀ y,Conn ps x y→m≤y:=by
  intro n
  induction n with
  | zero =>
    rintro ⟨y,hy,hc⟩
    obtain rfl:y=0:=by omega
    exact ⟨0,hc,fun _ _=>Nat.zero_le _⟩
  | succ n ih =>
    rintro ⟨y,hy,hc⟩
    by_cases h:∃ y,y≤n∧Conn ps x y
    ·exact ih h
    ·refine ⟨y,hc,fun z hz=>?_⟩
     apply Nat.le_of_not_lt
     intro hlt
     exact h ⟨z,by omega,hz⟩
 exact this x ⟨x,Nat.le_refl _,.refl _⟩
theorem cross {ps:List (Nat×Nat)} {P:Nat→Prop} {x y:Nat} (h:Conn ps x y) (hx:P x) (hy:¬ P y):∃ a b,((a,b)∈ps∨(b,a)∈ps)∧P a∧¬ P b:=by
 classical
 induction h with
 | refl=>exact absurd hx hy
 | @step x z y h1 _ ih =>
   by_cases hz:P z
   ·exact ih hz hy
   ·exact ⟨x,z,h1,hx,hz⟩
theorem countP_lt {α:Type} {p q:α→Bool}:∀ {l:List α},(∀ x∈l,p x=true→q x=true)→(∃ x∈l,p x=false∧q x=true)→l.countP p < l.countP q
 | [],_,⟨x,hx,_⟩=>by cases hx
 | y::l,hs,⟨x,hx,h1,h2⟩=>by
   have hm:∀ z∈l,p z=true→q z=true:=fun z hz=>hs z (List.mem_cons_of_mem _ hz)
   have hle:l.countP p≤l.countP q:=List.countP_mono_left hm
   rw [List.countP_cons,List.countP_cons]
   rcases List.mem_cons.1 hx with rfl | hx
   ·simp only [h1,h2,Bool.false_eq_true,if_false,if_true]
    omega
   ·have:=countP_lt hm ⟨x,hx,h1,h2⟩
    have h3:=hs y (List.mem_cons_self ..)
    cases hp:p y
    ·simp only [Bool.false_eq_true,if_false]; omega
    ·simp only [h3 hp,if_true]; omega
structure Least (ps:List (Nat×Nat)) (x m:Nat):Prop where
 conn:Conn ps x m
 least:∀ y,Conn ps x y→m≤y
theorem Least.label {ps:List (Nat×Nat)} {x m:Nat} (h:Least ps x m) {y:Nat} (hy:Conn ps x y) (r:Nat):m≤rounds ps r y :=
 h.least _ (hy.trans (rounds_conn ps r y))
theorem Least.own {ps:List (Nat×Nat)} {x m:Nat} (h:Least ps x m) (r:Nat):rounds ps r m=m :=
 Nat.le_antisymm (rounds_self ps r m) (h.label h.conn r)
theorem Least.stays {ps:List (Nat×Nat)} {x m:Nat} (h:Least ps x m) {y r:Nat} (hy:Conn ps x y) (hr:rounds ps r y=m):rounds ps (r+1) y=m :=
 Nat.le_antisymm (hr ▸ rounds_le ps r y) (h.label hy _)
theorem Least.pair {ps:List (Nat×Nat)} {x m:Nat} (h:Least ps x m) {a b r:Nat} (hp:(a,b)∈ps∨(b,a)∈ps) (ha:Conn ps x a) (hr:rounds ps r a=m):rounds ps (r+1) b=m∧rounds ps (r+1) a=m:=by
 have hb:Conn ps x b:=ha.trans (.one hp)
 refine ⟨Nat.le_antisymm ?_ (h.label hb _),h.stays ha hr⟩
 show round ps (rounds ps r) b≤m
 rcases hp with hp | hp
 ·have:=(round_pair ps (rounds ps r) _ hp).2
  simp only at this
  omega
 ·have:=(round_pair ps (rounds ps r) _ hp).1
  simp only at this
  omega
theorem Least.pairs {ps:List (Nat×Nat)} {x m:Nat} (h:Least ps x m):∀ r,(∃ y,Conn ps x y∧rounds ps r y≠m)→r≤ps.countP fun p=>rounds ps r p.1==m&&rounds ps r p.2==m
 | 0,_=>Nat.zero_le _
 | r+1,⟨y,hy,hne⟩=>by
   have hne':rounds ps r y≠m:=fun e=>hne (h.stays hy e)
   have ih:=h.pairs r ⟨y,hy,hne'⟩
   have hmy:Conn ps m y:=h.conn.symm.trans hy
   obtain ⟨a,b,hp,ha,hb⟩:=cross (P:=fun z=>rounds ps r z=m) hmy (h.own r) hne'
   have hac:Conn ps x a:=by have:=rounds_conn ps r a; rw [ha] at this; exact h.conn.trans this.symm
   have hn:=h.pair hp hac ha
   refine Nat.lt_of_le_of_lt ih (countP_lt ?_ ?_)
   ·intro p _ hpp
    simp only [Bool.and_eq_true,beq_iff_eq] at hpp ⊢
    have key:∀ z,rounds ps r z=m→rounds ps (r+1) z=m:=fun z hz=>h.stays (by have:=rounds_conn ps r z; rw [hz] at this; exact h.conn.trans this.symm) hz
    exact ⟨key _ hpp.1,key _ hpp.2⟩
   ·rcases hp with hp | hp
    ·exact ⟨(a,b),hp,by simp [hb],by simp [hn.1,hn.2]⟩
    ·exact ⟨(b,a),hp,by simp [hb],by simp [hn.1,hn.2]⟩
theorem Least.done {ps:List (Nat×Nat)} {x m:Nat} (h:Least ps x m) {y:Nat} (hy:Conn ps x y):rounds ps ps.length y=m:=by
 apply Classical.byContradiction
 intro hne
 have h1:=h.pairs ps.length ⟨y,hy,hne⟩
 have hmy:Conn ps m y:=h.conn.symm.trans hy
 obtain ⟨a,b,hp,ha,hb⟩:=cross (P:=fun z=>rounds ps ps.length z=m) hmy (h.own _) hne
 have h2:(ps.countP fun p=>rounds ps ps.length p.1==m&&rounds ps ps.length p.2==m)=ps.length:=Nat.le_antisymm List.countP_le_length h1
 rw [List.countP_eq_length] at h2
 rcases hp with hp | hp
 ·have:=h2 _ hp
  simp only [Bool.and_eq_true,beq_iff_eq] at this
  exact hb this.2
 ·have:=h2 _ hp
  simp only [Bool.and_eq_true,beq_iff_eq] at this
  exact hb this.1
end Go.Proofs.YtibmeigdjghkcaaGreat
namespace Go.Proofs.YtibmeigdjghkcaaGreat
set_option linter.unusedVariables false
variable {N:Nat} {L:List Lk}
def otherE (L:List Lk) (u i:Nat):Nat:=if (lkAt L i).b=u then (lkAt L i).a else (lkAt L i).b
def touches (L:List Lk) (drop:List Nat) (u i:Nat):Bool:=!drop.contains i&&(decide ((lkAt L i).a=u)||decide ((lkAt L i).b=u))
def waysL (L:List Lk) (drop:List Nat) (u:Nat):List (Nat×Nat):=((List.range L.length).filter (touches L drop u)).map fun i=>(otherE L u i,i)
theorem mem_waysL (hN:Net N L) {drop:List Nat} {u v i:Nat}:(v,i)∈waysL L drop u↔IsWay L u v i∧i∉drop:=by
 unfold waysL
 rw [List.mem_map]
 constructor
 ·rintro ⟨j,hj,e⟩
  injection e with e1 e2
  subst e2
  obtain ⟨h1,h2⟩:=List.mem_filter.1 hj
  rw [List.mem_range] at h1
  unfold touches at h2
  simp only [Bool.and_eq_true,Bool.not_eq_true',Bool.or_eq_true,decide_eq_true_eq] at h2
  have hne:=hN.ne j h1
  unfold otherE at e1
  refine ⟨⟨h1,?_⟩,by simpa using h2.1⟩
  rcases h2.2 with h3 | h3
  ·refine .inl ⟨h3,?_⟩
   rw [if_neg (by rw [← h3]; exact fun e=>hne e.symm)] at e1
   exact e1
  ·refine .inr ⟨h3,?_⟩
   rw [if_pos h3] at e1
   exact e1
 ·rintro ⟨⟨hi,hw⟩,hd⟩
  have hne:=hN.ne i hi
  refine ⟨i,List.mem_filter.2 ⟨List.mem_range.2 hi,?_⟩,?_⟩
  ·unfold touches
   simp only [Bool.and_eq_true,Bool.not_eq_true',Bool.or_eq_true,decide_eq_true_eq]
   exact ⟨by simpa using hd,hw.elim (fun h => .inl h.1) fun h => .inr h.1⟩
  ·unfold otherE
   rcases hw with ⟨h1,h2⟩ | ⟨h1,h2⟩
   ·rw [if_neg (by rw [← h1]; exact fun e=>hne e.symm),h2]
   ·rw [if_pos h1,h2]
theorem allWays (hN:Net N L) (u:Nat):AllWays L u (waysL L [] u) :=
 ⟨fun p hp=>((mem_waysL hN).1 (show (p.1,p.2)∈_ from hp)).1,fun v i hw=>(mem_waysL hN).2 ⟨hw,by simp⟩⟩
theorem ways_links (L:List Lk) (drop:List Nat) (u:Nat):(waysL L drop u).Pairwise fun p q=>p.2 < q.2:=by
 unfold waysL
 rw [List.pairwise_map]
 exact List.pairwise_lt_range.filter _
abbrev Pass:=Nat→Nat→Nat→Bool
inductive Rch (L:List Lk) (drop:List Nat) (p:Pass) (src:List Nat):Nat→Prop
 | root {u:Nat}:u∈src→Rch L drop p src u
 | step {u v i:Nat}:Rch L drop p src u→(v,i)∈waysL L drop u→p u v i=true→Rch L drop p src v
abbrev Ord1:=List (Nat×Option (Nat×Nat))
def found (o:Ord1) (v:Nat):Option (Option (Nat×Nat)):=(o.find? fun e=>e.1==v).map (·.2)
theorem found_none {o:Ord1} {v:Nat}:found o v=none↔v∉o.map (·.1):=by
 unfold found
 rw [Option.map_eq_none_iff,List.find?_eq_none]
 simp
 constructor
 ·intro h e he
  exact h v e he rfl
 ·intro h a b hab e
  subst e
  exact h b hab
theorem found_some {o:Ord1} {v:Nat} {w:Option (Nat×Nat)} (h:found o v=some w):(v,w)∈o:=by
 unfold found at h
 rw [Option.map_eq_some_iff] at h
 obtain ⟨e,he,rfl⟩:=h
 have h1:=List.find?_some he
 have h2:=List.mem_of_find?_eq_some he
 simp at h1
 rw [← h1]
 exact h2
theorem found_mem {o:Ord1} {v:Nat} (h:v∈o.map (·.1)):∃ w,found o v=some w:=by
 cases hf:found o v with
 | none=>exact absurd h (found_none.1 hf)
 | some w=>exact ⟨w,rfl⟩
theorem found_snoc {o:Ord1} {v:Nat} {w:Option (Nat×Nat)} (h:v∉o.map (·.1)) (x:Nat):found (o++[(v,w)]) x=if x=v then some w else found o x:=by
 unfold found
 rw [List.find?_append]
 by_cases e:x=v
 ·subst e
  have:o.find? (fun e=>e.1==x)=none:=by
   have:=found_none.2 h
   unfold found at this
   simpa using this
  rw [this,if_pos rfl]
  simp
 ·rw [if_neg e]
  have e2:¬ v=x:=fun e3=>e e3.symm
  cases o.find? (fun e=>e.1==x) <;> simp [e2]
structure Bfs (N:Nat) (L:List Lk) (drop:List Nat) (p:Pass) (src:List Nat) (o:Ord1) (q:Nat) (ws:List (Nat×Nat)) (k:Nat):Prop where
 nd:(o.map (·.1)).Nodup
 lt:∀ e∈o,e.1 < N
 rch:∀ e∈o,Rch L drop p src e.1
 par:∀ a b v w,o=a++(v,w)::b→match w with
  | none=>v∈src
  | some (u,i)=>(v,i)∈waysL L drop u∧p u v i=true∧u∈a.map (·.1)
 src:∀ u∈src,u∈o.map (·.1)
 closed:∀ j e,j < q→o[j]? = some e→∀ v i,(v,i)∈waysL L drop e.1→p e.1 v i=true→v∈o.map (·.1)
 half:∀ v i,(v,i)∈ws→p k v i=true→v∈o.map (·.1)
 q:q≤o.length
variable {drop:List Nat} {p:Pass} {src:List Nat} {o:Ord1} {q k:Nat} {ws:List (Nat×Nat)}
theorem Bfs.start (hsrc:src.Nodup) (hlt:∀ u∈src,u < N) (k:Nat):Bfs N L drop p src (src.map fun u=>(u,none)) 0 [] k:=by
 refine ⟨?_,fun e he=>?_,fun e he=>?_,fun a b v w e=>?_,fun u hu=>?_,(fun j e hj=>absurd hj (Nat.not_lt_zero _)),(fun v i h=>by cases h),Nat.zero_le _⟩
 ·rw [List.map_map]
  simpa [Function.comp_def] using hsrc
 ·obtain ⟨u,hu,rfl⟩:=List.mem_map.1 he
  exact hlt u hu
 ·obtain ⟨u,hu,rfl⟩:=List.mem_map.1 he
  exact .root hu
 ·have:(v,w)∈src.map fun u=>(u,(none:Option (Nat×Nat))):=by rw [e]; simp
  obtain ⟨u,hu,e2⟩:=List.mem_map.1 this
  injection e2 with e3 e4
  subst e3 e4
  exact hu
 ·rw [List.map_map]
  simpa [Function.comp_def] using hu
theorem Bfs.find (b:Bfs N L drop p src o q ws k) (hN:Net N L) (hk:k∈o.map (·.1)) {v i:Nat} (hw:(v,i)∈waysL L drop k) (hp:p k v i=true) (hv:v∉o.map (·.1)):Bfs N L drop p src (o++[(v,some (k,i))]) q (ws++[(v,i)]) k:=by
 have hsub:∀ u,u∈o.map (·.1)→u∈(o++[(v,some (k,i))]).map (·.1):=fun u hu=>by rw [List.map_append]; exact List.mem_append_left _ hu
 refine ⟨?_,fun e he=>?_,fun e he=>?_,fun a c x w e=>?_,fun u hu=>hsub u (b.src u hu),fun j e hj he x y hx hy=>?_,fun x y hx hy=>?_,?_⟩
 ·rw [List.map_append,List.nodup_append]
  refine ⟨b.nd,by simp,fun x hx y hy=>?_⟩
  simp at hy
  rw [hy]
  exact fun e=>hv (e ▸ hx)
 ·rcases List.mem_append.1 he with he | he
  ·exact b.lt e he
  ·rw [List.mem_singleton] at he
   subst he
   exact (way_lt hN ((mem_waysL hN).1 hw).1).2
 ·rcases List.mem_append.1 he with he | he
  ·exact b.rch e he
  ·rw [List.mem_singleton] at he
   subst he
   obtain ⟨e',he',rfl⟩:=List.mem_map.1 hk
   exact .step (b.rch e' he') hw hp
 ·rcases List.append_eq_append_iff.1 e with ⟨c',h1,h2⟩ | ⟨c',h1,h2⟩
  ·-- the element lies at the new place, or behind
   cases c' with
   | nil =>
     simp at h1 h2
     obtain ⟨⟨rfl,rfl⟩,rfl⟩:=h2
     subst h1
     exact ⟨hw,hp,hk⟩
   | cons y c'=>simp at h2
  ·cases c' with
   | nil =>
     simp at h1 h2
     obtain ⟨⟨rfl,rfl⟩,rfl⟩:=h2
     subst h1
     exact ⟨hw,hp,hk⟩
   | cons y c' =>
     rw [List.cons_append] at h2
     injection h2 with h3 h4
     subst h3
     exact b.par a c' x w h1
 ·rw [List.getElem?_append_left (by have:=b.q; omega)] at he
  exact hsub x (b.closed j e hj he x y hx hy)
 ·rcases List.mem_append.1 hx with hx | hx
  ·exact hsub x (b.half x y hx hy)
  ·rw [List.mem_singleton] at hx
   injection hx with h1 h2
   rw [h1]
   simp
 ·rw [List.length_append]
  have:=b.q
  omega
theorem Bfs.pass (b:Bfs N L drop p src o q ws k) {v i:Nat} (h:p k v i=true→v∈o.map (·.1)):Bfs N L drop p src o q (ws++[(v,i)]) k:=by
 refine { b with half:=fun x y hx hy=>?_ }
 rcases List.mem_append.1 hx with hx | hx
 ·exact b.half x y hx hy
 ·rw [List.mem_singleton] at hx
  injection hx with h1 h2
  rw [h1]
  rw [h1,h2] at hy
  exact h hy
theorem Bfs.take (b:Bfs N L drop p src o q ws k) (k':Nat):Bfs N L drop p src o q [] k':={ b with half:=fun v i h=>by cases h }
theorem Bfs.done (b:Bfs N L drop p src o q (waysL L drop k) k) {w:Option (Nat×Nat)} (hq:o[q]? = some (k,w)):Bfs N L drop p src o (q+1) [] k:=by
 refine { b with closed:=fun j e hj he v i hv hp=>?_,half:=(fun v i h=>by cases h),q:=(List.getElem?_eq_some_iff.1 hq).1 }
 by_cases h:j < q
 ·exact b.closed j e h he v i hv hp
 ·obtain rfl:j=q:=by omega
  rw [hq] at he
  injection he with he
  subst he
  exact b.half v i hv hp
theorem Bfs.all (b:Bfs N L drop p src o q ws k) (hq:q=o.length) (v:Nat):v∈o.map (·.1)↔Rch L drop p src v:=by
 constructor
 ·intro h
  obtain ⟨e,he,rfl⟩:=List.mem_map.1 h
  exact b.rch e he
 ·intro h
  induction h with
  | root hu=>exact b.src _ hu
  | @step u v i _ hw hp ih =>
    obtain ⟨e,he,rfl⟩:=List.mem_map.1 ih
    obtain ⟨j,hj⟩:=List.mem_iff_getElem?.1 he
    exact b.closed j e (by have:=(List.getElem?_eq_some_iff.1 hj).1; omega) hj v i hw hp
theorem Bfs.len (b:Bfs N L drop p src o q ws k):o.length≤N:=by
 have:=nodup_len b.nd (N:=N) fun u hu=>by
  obtain ⟨e,he,rfl⟩:=List.mem_map.1 hu
  exact b.lt e he
 rwa [List.length_map] at this
inductive Back (L:List Lk) (drop:List Nat) (p:Pass) (src:List Nat) (o:Ord1):Nat→List Nat→Prop
 | root {v:Nat}:found o v=some none→v∈src→Back L drop p src o v [v]
 | step {v u i:Nat} {r:List Nat}:found o v=some (some (u,i))→(v,i)∈waysL L drop u→p u v i=true→Back L drop p src o u r→v∉r→Back L drop p src o v (v::r)
theorem found_at {o a b:Ord1} {v:Nat} {w:Option (Nat×Nat)} (hn:(o.map (·.1)).Nodup) (h:o=a++(v,w)::b):found o v=some w:=by
 subst h
 have hv:v∉a.map (·.1):=by
  rw [List.map_append,List.nodup_append] at hn
  exact fun hv=>hn.2.2 v hv v (by simp) rfl
 have h1:a.find? (fun e=>e.1==v)=none:=by
  have:=found_none.2 hv
  unfold found at this
  simpa using this
 unfold found
 rw [List.find?_append,h1]
 simp
theorem Bfs.back (b:Bfs N L drop p src o q ws k):∀ (n:Nat) (v:Nat) (w:Option (Nat×Nat)) (a c:Ord1),o=a++(v,w)::c→a.length=n→∃ r,Back L drop p src o v r∧∀ x∈r,x∈(a++[(v,w)]).map (·.1):=by
 intro n
 induction n using Nat.strongRecOn with
 | _ n ih =>
   intro v w a c e hl
   have hpar:=b.par a c v w e
   have hf:=found_at b.nd e
   cases w with
   | none=>exact ⟨[v],.root hf hpar,fun x hx=>by rw [List.mem_singleton] at hx; rw [hx]; simp⟩
   | some ui =>
     obtain ⟨u,i⟩:=ui
     obtain ⟨h1,h2,h3⟩:=hpar
     obtain ⟨e1,he1,hu⟩:=List.mem_map.1 h3
     obtain ⟨a1,a2,ha⟩:=List.append_of_mem he1
     obtain ⟨u',w'⟩:=e1
     simp only at hu
     subst hu
     obtain ⟨r,hr,hx⟩:=ih a1.length (by rw [← hl,ha,List.length_append,List.length_cons]; omega) u' w' a1 (a2++(v,some (u',i))::c) (by rw [e,ha]; simp) rfl
     have hsub:∀ x∈r,x∈a.map (·.1):=by
      intro x hx'
      have:=hx x hx'
      rw [ha]
      rw [List.map_append] at this ⊢
      rcases List.mem_append.1 this with h | h
      ·exact List.mem_append_left _ h
      ·refine List.mem_append_right _ ?_
       simp at h
       rw [h]
       simp
     refine ⟨v::r,.step hf h1 h2 hr fun hv=>?_,fun x hx'=>?_⟩
     ·have h4:=hsub v hv
      have h5:=b.nd
      rw [e,List.map_append,List.nodup_append] at h5
      exact h5.2.2 v h4 v (by simp) rfl
     ·rw [List.map_append]
      rcases List.mem_cons.1 hx' with rfl | hx'
      ·exact List.mem_append_right _ (by simp)
      ·exact List.mem_append_left _ (hsub x hx')
theorem Bfs.backOf (b:Bfs N L drop p src o q ws k) {v:Nat} (hv:v∈o.map (·.1)):∃ r,Back L drop p src o v r:=by
 obtain ⟨⟨v',w⟩,he,rfl⟩:=List.mem_map.1 hv
 obtain ⟨a,c,e⟩:=List.append_of_mem he
 obtain ⟨r,hr, -⟩:=b.back _ v' w a c e rfl
 exact ⟨r,hr⟩
theorem Back.head {v:Nat} {r:List Nat} (h:Back L drop p src o v r):∃ r',r=v::r':=by
 cases h with
 | root _ _=>exact ⟨[],rfl⟩
 | step _ _ _ _ _=>exact ⟨_,rfl⟩
theorem Back.last {v:Nat} {r:List Nat} (h:Back L drop p src o v r):∃ u∈src,r.getLast? = some u:=by
 induction h with
 | root _ hs=>exact ⟨_,hs,rfl⟩
 | step _ _ _ hb _ ih =>
   obtain ⟨u,hu,hl⟩:=ih
   obtain ⟨r',rfl⟩:=hb.head
   exact ⟨u,hu,by rw [List.getLast?_cons_cons]; exact hl⟩
theorem Back.nodup {v:Nat} {r:List Nat} (h:Back L drop p src o v r):r.Nodup:=by
 induction h with
 | root _ _=>simp
 | step _ _ _ _ hn ih=>exact List.nodup_cons.2 ⟨hn,ih⟩
theorem Back.linked {v:Nat} {r:List Nat} (h:Back L drop p src o v r):∀ a b x y,r=a++x::y::b→∃ i,(x,i)∈waysL L drop y:=by
 induction h with
 | root _ _ =>
   intro a b x y e
   have:=congrArg List.length e
   simp at this
   omega
 | @step v u i r hf hw hp hb hn ih =>
   intro a b x y e
   cases a with
   | nil =>
     obtain ⟨r',rfl⟩:=hb.head
     simp at e
     obtain ⟨rfl,rfl,rfl⟩:=e
     exact ⟨i,hw⟩
   | cons z a =>
     rw [List.cons_append] at e
     injection e with e1 e2
     exact ih a b x y e2
end Go.Proofs.YtibmeigdjghkcaaGreat
namespace Go.Proofs.YtibmeigdjghkcaaGreat
set_option linter.unusedVariables false
theorem Least.names {ps:List (Nat×Nat)} {x m N:Nat} (h:Least ps x m) (hb:∀ p∈ps,p.1 < N∧p.2 < N) (hm:m < N):∀ r,(∃ y,y < N∧Conn ps x y∧rounds ps r y≠m)→r+1≤(List.range N).countP fun n=>rounds ps r n==m
 | 0,_=>by
   refine List.countP_pos_iff.2 ⟨m,List.mem_range.2 hm,?_⟩
   rw [h.own]
   exact beq_self_eq_true m
 | r+1,⟨y,hyN,hy,hne⟩=>by
   have hne':rounds ps r y≠m:=fun e=>hne (h.stays hy e)
   have ih:=h.names hb hm r ⟨y,hyN,hy,hne'⟩
   have hmy:Conn ps m y:=h.conn.symm.trans hy
   obtain ⟨a,b,hp,ha,hb'⟩:=cross (P:=fun z=>rounds ps r z=m) hmy (h.own r) hne'
   have hac:Conn ps x a:=by have:=rounds_conn ps r a; rw [ha] at this; exact h.conn.trans this.symm
   have hn:=h.pair hp hac ha
   have hbN:b < N:=by
    rcases hp with hp | hp
    ·exact (hb _ hp).2
    ·exact (hb _ hp).1
   refine Nat.lt_of_le_of_lt ih (countP_lt ?_ ⟨b,List.mem_range.2 hbN,by simp [hb'],by simp [hn.1]⟩)
   intro z _ hz
   simp only [beq_iff_eq] at hz ⊢
   exact h.stays (by have:=rounds_conn ps r z; rw [hz] at this; exact h.conn.trans this.symm) hz
theorem Least.doneN {ps:List (Nat×Nat)} {x m N:Nat} (h:Least ps x m) (hb:∀ p∈ps,p.1 < N∧p.2 < N) (hm:m < N) {y:Nat} (hyN:y < N) (hy:Conn ps x y):rounds ps N y=m:=by
 apply Classical.byContradiction
 intro hne
 have h1:=h.names hb hm N ⟨y,hyN,hy,hne⟩
 have h2:((List.range N).countP fun n=>rounds ps N n==m)≤(List.range N).length:=List.countP_le_length
 rw [List.length_range] at h2
 omega
theorem conn_lt {ps:List (Nat×Nat)} {N:Nat} (hb:∀ p∈ps,p.1 < N∧p.2 < N) {x y:Nat} (h:Conn ps x y) (hx:x < N):y < N:=by
 induction h with
 | refl=>exact hx
 | step h1 _ ih =>
   rcases h1 with h1 | h1
   ·exact ih (hb _ h1).2
   ·exact ih (hb _ h1).1
def labN (ps:List (Nat×Nat)) (N x:Nat):Nat:=rounds ps N x
theorem labN_least {ps:List (Nat×Nat)} {N:Nat} (hb:∀ p∈ps,p.1 < N∧p.2 < N) {x:Nat} (hx:x < N):Conn ps x (labN ps N x)∧∀ y,Conn ps x y→labN ps N x≤y:=by
 obtain ⟨m,h1,h2⟩:=least_conn ps x
 have e:=Least.doneN ⟨h1,h2⟩ hb (conn_lt hb h1 hx) hx (.refl x)
 unfold labN
 rw [e]
 exact ⟨h1,h2⟩
theorem labN_iff {ps:List (Nat×Nat)} {N:Nat} (hb:∀ p∈ps,p.1 < N∧p.2 < N) {x y:Nat} (hx:x < N) (hy:y < N):labN ps N x=labN ps N y↔Conn ps x y:=by
 obtain ⟨h1,h2⟩:=labN_least hb hx
 obtain ⟨h3,h4⟩:=labN_least hb hy
 constructor
 ·intro e
  rw [e] at h1
  exact h1.trans h3.symm
 ·intro h
  exact Nat.le_antisymm (h2 _ (h.trans h3)) (h4 _ (h.symm.trans h1))
theorem labN_le {ps:List (Nat×Nat)} {N:Nat} (hb:∀ p∈ps,p.1 < N∧p.2 < N) {x:Nat} (hx:x < N):labN ps N x≤x:=(labN_least hb hx).2 x (.refl x)
theorem labN_idem {ps:List (Nat×Nat)} {N:Nat} (hb:∀ p∈ps,p.1 < N∧p.2 < N) {x:Nat} (hx:x < N):labN ps N (labN ps N x)=labN ps N x:=by
 obtain ⟨h1,h2⟩:=labN_least hb hx
 exact ((labN_iff hb hx (conn_lt hb h1 hx)).2 h1).symm
def groupAt (ps:List (Nat×Nat)) (N n:Nat):List Nat:=(List.range N).filter fun k=>labN ps N k==n
def groupsTo (ps:List (Nat×Nat)) (N n:Nat):List (List Nat):=((List.range n).map (groupAt ps N)).filter fun g=>!g.isEmpty
def groupsOf (ps:List (Nat×Nat)) (N:Nat):List (List Nat):=groupsTo ps N N
theorem groupsTo_succ (ps:List (Nat×Nat)) (N n:Nat):groupsTo ps N (n+1)=groupsTo ps N n++if groupAt ps N n=[] then [] else [groupAt ps N n]:=by
 unfold groupsTo
 rw [List.range_succ,List.map_append,List.filter_append]
 congr 1
 simp only [List.map_cons,List.map_nil,List.filter_cons,List.filter_nil]
 cases groupAt ps N n <;> simp
theorem groupsTo_len (ps:List (Nat×Nat)) (N:Nat):∀ n,(groupsTo ps N n).length≤n:=by
 intro n
 unfold groupsTo
 exact Nat.le_trans (List.length_filter_le _ _) (by simp)
theorem mem_group {ps:List (Nat×Nat)} {N n k:Nat}:k∈groupAt ps N n↔k < N∧labN ps N k=n:=by
 unfold groupAt
 rw [List.mem_filter,List.mem_range,beq_iff_eq]
theorem groupsTo_gap {ps:List (Nat×Nat)} {N:Nat} (hb:∀ p∈ps,p.1 < N∧p.2 < N) {s:Nat}:∀ (d:Nat),(∀ k,k < s+d→k < N→labN ps N k < s)→groupsTo ps N (s+d)=groupsTo ps N s
 | 0,_=>rfl
 | d+1,h=>by
   rw [show s+(d+1)=(s+d)+1 by omega,groupsTo_succ,groupsTo_gap hb d fun k hk=>h k (by omega)]
   rw [if_pos,List.append_nil]
   unfold groupAt
   rw [List.filter_eq_nil_iff]
   intro k hk hl
   rw [List.mem_range] at hk
   simp only [beq_iff_eq] at hl
   have h1:=labN_idem hb hk
   rw [hl] at h1
   have hsd:s+d < N:=by have:=labN_le hb hk; omega
   have:=h (s+d) (by omega) hsd
   omega
theorem next_group {ps:List (Nat×Nat)} {N:Nat} (hb:∀ p∈ps,p.1 < N∧p.2 < N) {s n:Nat} (hn:n < N) (h1:s≤labN ps N n) (h2:∀ k,k < n→labN ps N k < s):labN ps N n=n∧s≤n∧groupsTo ps N (n+1)=groupsTo ps N s++[groupAt ps N n]:=by
 have hle:=labN_le hb hn
 have e:labN ps N n=n:=by
  apply Nat.le_antisymm hle
  apply Nat.le_of_not_lt
  intro hlt
  have:=h2 _ hlt
  rw [labN_idem hb hn] at this
  omega
 have hs:s≤n:=by omega
 refine ⟨e,hs,?_⟩
 rw [groupsTo_succ]
 have hgap:groupsTo ps N n=groupsTo ps N s:=by
  obtain ⟨d,rfl⟩:∃ d,n=s+d:=⟨n-s,by omega⟩
  exact groupsTo_gap hb d fun k hk _=>h2 k hk
 rw [hgap,if_neg]
 intro hnil
 have:n∈groupAt ps N n:=mem_group.2 ⟨hn,e⟩
 rw [hnil] at this
 cases this
theorem groups_end {ps:List (Nat×Nat)} {N:Nat} (hb:∀ p∈ps,p.1 < N∧p.2 < N) {s:Nat} (hs:s≤N) (h:∀ k,k < N→labN ps N k < s):groupsTo ps N s=groupsOf ps N:=by
 obtain ⟨d,rfl⟩:∃ d,N=s+d:=⟨N-s,by omega⟩
 exact (groupsTo_gap hb d fun k hk hk2=>h k hk2).symm
theorem done_next {ps:List (Nat×Nat)} {N:Nat} (hb:∀ p∈ps,p.1 < N∧p.2 < N) {s n:Nat} (hn:n < N) (h1:s≤labN ps N n) (h2:∀ k,k < n→labN ps N k < s) (k:Nat) (hk:k < N):labN ps N k < n+1↔labN ps N k < s∨labN ps N k=n:=by
 obtain ⟨e,hs, -⟩:=next_group hb hn h1 h2
 constructor
 ·intro h
  by_cases h3:labN ps N k < s
  ·exact .inl h3
  ·right
   apply Classical.byContradiction
   intro h4
   have:=h2 (labN ps N k) (by omega)
   rw [labN_idem hb hk] at this
   omega
 ·rintro (h | h) <;> omega
variable {N:Nat} {L:List Lk}
def pairsOf (L:List Lk) (drop:List Nat):List (Nat×Nat):=((List.range L.length).filter fun i=>!drop.contains i).map fun i=>((lkAt L i).a,(lkAt L i).b)
theorem mem_pairs {drop:List Nat} {a b:Nat}:(a,b)∈pairsOf L drop↔∃ i,i < L.length∧i∉drop∧(lkAt L i).a=a∧(lkAt L i).b=b:=by
 unfold pairsOf
 rw [List.mem_map]
 constructor
 ·rintro ⟨i,hi,e⟩
  obtain ⟨h1,h2⟩:=List.mem_filter.1 hi
  injection e with e1 e2
  exact ⟨i,List.mem_range.1 h1,by simpa using h2,e1,e2⟩
 ·rintro ⟨i,h1,h2,h3,h4⟩
  exact ⟨i,List.mem_filter.2 ⟨List.mem_range.2 h1,by simpa using h2⟩,by rw [h3,h4]⟩
theorem pairs_lt (hN:Net N L) (drop:List Nat):∀ p∈pairsOf L drop,p.1 < N∧p.2 < N:=by
 rintro ⟨a,b⟩ hp
 obtain ⟨i,h1, -,h3,h4⟩:=mem_pairs.1 hp
 rw [← h3,← h4]
 exact ⟨hN.a i h1,hN.b i h1⟩
theorem way_pair (hN:Net N L) {drop:List Nat} {u v:Nat}:(∃ i,(v,i)∈waysL L drop u)↔((u,v)∈pairsOf L drop∨(v,u)∈pairsOf L drop):=by
 constructor
 ·rintro ⟨i,hi⟩
  obtain ⟨⟨h1,h2⟩,h3⟩:=(mem_waysL hN).1 hi
  rcases h2 with ⟨e1,e2⟩ | ⟨e1,e2⟩
  ·exact .inl (mem_pairs.2 ⟨i,h1,h3,e1,e2⟩)
  ·exact .inr (mem_pairs.2 ⟨i,h1,h3,e2,e1⟩)
 ·rintro (h | h)
  ·obtain ⟨i,h1,h2,h3,h4⟩:=mem_pairs.1 h
   exact ⟨i,(mem_waysL hN).2 ⟨⟨h1,.inl ⟨h3,h4⟩⟩,h2⟩⟩
  ·obtain ⟨i,h1,h2,h3,h4⟩:=mem_pairs.1 h
   exact ⟨i,(mem_waysL hN).2 ⟨⟨h1,.inr ⟨h4,h3⟩⟩,h2⟩⟩
theorem rch_conn (hN:Net N L) {drop src:List Nat} {v:Nat}:Rch L drop (fun _ _ _=>true) src v↔∃ u∈src,Conn (pairsOf L drop) u v:=by
 constructor
 ·intro h
  induction h with
  | root hu=>exact ⟨_,hu,.refl _⟩
  | step _ hw _ ih =>
    obtain ⟨x,hx,hc⟩:=ih
    exact ⟨x,hx,hc.trans (.one ((way_pair hN).1 ⟨_,hw⟩))⟩
 ·rintro ⟨u,hu,hc⟩
  have key:∀ {x y},Conn (pairsOf L drop) x y→Rch L drop (fun _ _ _=>true) src x→Rch L drop (fun _ _ _=>true) src y:=by
   intro x y h
   induction h with
   | refl=>exact id
   | step h1 _ ih =>
     intro hx
     obtain ⟨i,hi⟩:=(way_pair hN).2 h1
     exact ih (.step hx hi rfl)
  exact key hc (.root hu)
def leftP (L:List Lk) (f:Nat→Int):Pass:=fun u _ i=>decide (0 < resF L f u i)
theorem rch_shut (hN:Net N L) {f:Nat→Int} {src:List Nat} {S:Nat→Bool} (hS:∀ v,v < N→(S v=true↔Rch L [] (leftP L f) src v)):Shut L f S:=by
 intro u v i hw hu hv
 obtain ⟨huN,hvN⟩:=way_lt hN hw
 apply Int.le_of_not_gt
 intro hr
 have h1:=(hS u huN).1 hu
 have h2:Rch L [] (leftP L f) src v := .step h1 ((mem_waysL hN).2 ⟨hw,by simp⟩) (by unfold leftP; simpa using hr)
 rw [(hS v hvN).2 h2] at hv
 cases hv
theorem rch_in (hN:Net N L) {f:Nat→Int} {src:List Nat} {S:Nat→Bool} (hs:Shut L f S) (h0:∀ u∈src,S u=true) {v:Nat} (h:Rch L [] (leftP L f) src v):S v=true:=by
 induction h with
 | root hu=>exact h0 _ hu
 | @step u v i _ hw hp ih =>
   obtain ⟨h1, -⟩:=(mem_waysL hN).1 hw
   cases hv:S v with
   | true=>rfl
   | false =>
     have:=hs u v i h1 ih hv
     unfold leftP at hp
     simp at hp
     omega
end Go.Proofs.YtibmeigdjghkcaaGreat
namespace Go.Proofs.YtibmeigdjghkcaaGreat
set_option linter.unusedVariables false
structure LkI where
 one:Int
 two:Int
 trust:Int
 deriving Inhabited,DecidableEq
structure NL where
 n:Int
 links:List LkI
 left:List Int
 right:List Int
def LkI.lk (x:LkI):Lk:=⟨x.one.toNat,x.two.toNat,x.trust⟩
def NL.N (l:NL):Nat:=l.n.toNat
def NL.L (l:NL):List Lk:=l.links.map LkI.lk
def natL (l:List Int):List Nat:=l.map Int.toNat
def NL.A (l:NL) (u:Nat):Bool:=(natL l.left).contains u
def NL.B (l:NL) (u:Nat):Bool:=(natL l.right).contains u
def risesFrom (lo below:Int):List Int→Bool
 | []=>true
 | x::l=>decide (lo < x)&&decide (x < below)&&risesFrom x below l
def rises (below:Int) (l:List Int):Bool:=risesFrom (-1) below l
def inN (n x:Int):Bool:=decide (0≤x)&&decide (x < n)
def badLk (n:Int) (x:LkI):Bool:=!inN n x.one||!inN n x.two||x.one==x.two||decide (x.trust < 1)||decide (1000000 < x.trust)
def endsB (l:List Int):Bool:=decide (0 < l.length)&&decide (l.length≤10)
def manyL (l:NL):Bool:=decide (l.n < 2)||decide (40 < l.n)||decide (120 < l.links.length)||!endsB l.left||!endsB l.right
def checkL (l:NL):Int :=
 if manyL l=true then 6
 else if (l.links.any (badLk l.n))=true then 2
 else if (rises l.n l.left&&rises l.n l.right)=false then 3
 else if (l.left.any fun x=>l.right.contains x)=true then 21
 else 0
def openE (l:NL) (drop:List Int):Int:=if checkL l≠0 then checkL l else if rises l.links.length drop=true then 0 else 3
theorem rises_lo:∀ {l:List Int} {lo below:Int},risesFrom lo below l=true→∀ x∈l,lo < x∧x < below
 | [],_,_,_,x,hx=>by cases hx
 | y::l,lo,below,h,x,hx=>by
   simp only [risesFrom,Bool.and_eq_true,decide_eq_true_eq] at h
   rcases List.mem_cons.1 hx with e | hx
   ·subst e; exact h.1
   ·have:=rises_lo h.2 x hx
    exact ⟨by omega,this.2⟩
theorem rises_pair:∀ {l:List Int} {lo below:Int},risesFrom lo below l=true→l.Pairwise (· < ·)
 | [],_,_,_ => .nil
 | y::l,lo,below,h=>by
   simp only [risesFrom,Bool.and_eq_true,decide_eq_true_eq] at h
   exact List.pairwise_cons.2 ⟨fun x hx=>(rises_lo h.2 x hx).1,rises_pair h.2⟩
theorem rises_nat {n:Int} {l:List Int} (h:rises n l=true):(natL l).Pairwise (· < ·)∧(∀ u∈natL l,(u:Int) < n)∧l=(natL l).map fun u:Nat=>(u:Int):=by
 have h1:=rises_lo h
 have h2:=rises_pair h
 refine ⟨?_,?_,?_⟩
 ·unfold natL
  rw [List.pairwise_map]
  exact h2.imp_of_mem fun {a b} ha hb hab=>by have:=h1 a ha; have:=h1 b hb; omega
 ·intro u hu
  obtain ⟨x,hx,rfl⟩:=List.mem_map.1 hu
  have:=h1 x hx
  omega
 ·unfold natL
  rw [List.map_map]
  conv=>lhs; rw [← List.map_id l]
  exact List.map_congr_left fun x hx=>by have:=h1 x hx; simp only [id,Function.comp]; omega
theorem nat_map (l:List Nat):natL (l.map fun u:Nat=>(u:Int))=l:=by
 unfold natL
 rw [List.map_map]
 conv=>rhs; rw [← List.map_id l]
 exact List.map_congr_left fun x _=>by simp
theorem nodup_of_lt {l:List Nat} (h:l.Pairwise (· < ·)):l.Nodup:=h.imp fun hab=>by omega
structure Good (l:NL):Prop where
 two:2≤l.n
 forty:l.n≤40
 few:l.links.length≤120
 la:0 < l.left.length
 la10:l.left.length≤10
 lb:0 < l.right.length
 lb10:l.right.length≤10
 link:∀ x∈l.links,0≤x.one∧x.one < l.n∧0≤x.two∧x.two < l.n∧x.one≠x.two∧1≤x.trust∧x.trust≤1000000
 ra:rises l.n l.left=true
 rb:rises l.n l.right=true
 apart:∀ x∈l.left,x∉l.right
theorem bad_false {n:Int} {x:LkI}:badLk n x=false↔0≤x.one∧x.one < n∧0≤x.two∧x.two < n∧x.one≠x.two∧1≤x.trust∧x.trust≤1000000:=by
 unfold badLk inN
 simp only [Bool.or_eq_false_iff,Bool.not_eq_false',Bool.and_eq_true,decide_eq_true_eq,beq_eq_false_iff_ne,ne_eq,decide_eq_false_iff_not]
 omega
theorem many_false {l:NL}:manyL l=false↔2≤l.n∧l.n≤40∧l.links.length≤120∧0 < l.left.length∧l.left.length≤10∧0 < l.right.length∧l.right.length≤10:=by
 unfold manyL endsB
 simp only [Bool.or_eq_false_iff,Bool.not_eq_false',Bool.and_eq_true,decide_eq_true_eq,decide_eq_false_iff_not]
 omega
theorem check_good {l:NL}:checkL l=0↔Good l:=by
 unfold checkL
 constructor
 ·intro h
  by_cases h1:manyL l=true
  ·rw [if_pos h1] at h; cases h
  rw [if_neg h1] at h
  by_cases h2:(l.links.any (badLk l.n))=true
  ·rw [if_pos h2] at h; cases h
  rw [if_neg h2] at h
  by_cases h3:(rises l.n l.left&&rises l.n l.right)=false
  ·rw [if_pos h3] at h; cases h
  rw [if_neg h3] at h
  by_cases h4:(l.left.any fun x=>l.right.contains x)=true
  ·rw [if_pos h4] at h; cases h
  obtain ⟨k1,k2,k3,k4,k5,k6,k7⟩:=many_false.1 (by simpa using h1)
  have h3':rises l.n l.left=true∧rises l.n l.right=true:=by simpa [Bool.and_eq_true] using h3
  refine ⟨k1,k2,k3,k4,k5,k6,k7,fun x hx=>bad_false.1 ?_,h3'.1,h3'.2,fun x hx hr=>h4 ?_⟩
  ·cases hb:badLk l.n x
   ·rfl
   ·exact absurd (List.any_eq_true.2 ⟨x,hx,hb⟩) h2
  ·exact List.any_eq_true.2 ⟨x,hx,by simpa using hr⟩
 ·intro g
  rw [if_neg (by rw [many_false.2 ⟨g.two,g.forty,g.few,g.la,g.la10,g.lb,g.lb10⟩]; simp),if_neg,if_neg,if_neg]
  ·intro h
   obtain ⟨x,hx,h2⟩:=List.any_eq_true.1 h
   exact g.apart x hx (by simpa using h2)
  ·rw [g.ra,g.rb]; simp
  ·intro h
   obtain ⟨x,hx,h2⟩:=List.any_eq_true.1 h
   rw [bad_false.2 (g.link x hx)] at h2
   cases h2
theorem NL.len (l:NL):l.L.length=l.links.length:=List.length_map ..
theorem NL.at_ {l:NL} {i:Nat} {x:LkI} (h:l.links[i]? = some x):lkAt l.L i=x.lk:=by
 unfold lkAt NL.L
 rw [List.getD_eq_getElem?_getD,List.getElem?_map,h]
 rfl
theorem NL.ex {l:NL} {i:Nat} (h:i < l.L.length):∃ x,l.links[i]? = some x∧x∈l.links:=by
 rw [l.len] at h
 exact ⟨l.links[i],List.getElem?_eq_getElem h,List.getElem_mem h⟩
theorem Good.net {l:NL} (g:Good l):Net l.N l.L:=by
 have hk:∀ i,i < l.L.length→(lkAt l.L i).a < l.N∧(lkAt l.L i).b < l.N∧(lkAt l.L i).a≠(lkAt l.L i).b∧0 < (lkAt l.L i).t:=by
  intro i hi
  obtain ⟨x,hx,hm⟩:=NL.ex hi
  rw [NL.at_ hx]
  have:=g.link x hm
  have:=g.two
  unfold NL.N LkI.lk
  dsimp only
  omega
 exact ⟨fun i hi=>(hk i hi).1,fun i hi=>(hk i hi).2.1,fun i hi=>(hk i hi).2.2.1,fun i hi=>(hk i hi).2.2.2⟩
theorem NL.mA {l:NL} {u:Nat}:l.A u=true↔u∈natL l.left:=by unfold NL.A; simp
theorem NL.mB {l:NL} {u:Nat}:l.B u=true↔u∈natL l.right:=by unfold NL.B; simp
theorem Good.ltA {l:NL} (g:Good l) {u:Nat} (h:l.A u=true):u < l.N:=by
 have:=(rises_nat g.ra).2.1 u (NL.mA.1 h)
 unfold NL.N
 omega
theorem Good.ltB {l:NL} (g:Good l) {u:Nat} (h:l.B u=true):u < l.N:=by
 have:=(rises_nat g.rb).2.1 u (NL.mB.1 h)
 unfold NL.N
 omega
theorem Good.both {l:NL} (g:Good l) {u:Nat} (h:l.A u=true):l.B u=false:=by
 cases hb:l.B u
 ·rfl
 ·obtain ⟨x,hx,e⟩:=List.mem_map.1 (NL.mA.1 h)
  obtain ⟨y,hy,e2⟩:=List.mem_map.1 (NL.mB.1 hb)
  have h1:=rises_lo g.ra x hx
  have h2:=rises_lo g.rb y hy
  have:x=y:=by omega
  subst this
  exact absurd hy (g.apart x hx)
theorem Good.ends {l:NL} (g:Good l):Ends l.N l.A l.B:=by
 refine ⟨fun u h k=>absurd k (by rw [g.both h]; simp),?_,?_⟩
 ·have h0:0 < (natL l.left).length:=by unfold natL; rw [List.length_map]; exact g.la
  have:l.A (natL l.left)[0]=true:=NL.mA.2 (List.getElem_mem h0)
  exact ⟨_,g.ltA this,this⟩
 ·have h0:0 < (natL l.right).length:=by unfold natL; rw [List.length_map]; exact g.lb
  have:l.B (natL l.right)[0]=true:=NL.mB.2 (List.getElem_mem h0)
  exact ⟨_,g.ltB this,this⟩
theorem Good.nN {l:NL} (g:Good l):(l.N:Int)=l.n:=by have:=g.two; unfold NL.N; omega
end Go.Proofs.YtibmeigdjghkcaaGreat
namespace Go.Proofs.YtibmeigdjghkcaaGreat
set_option linter.unusedVariables false
def Side (l:NL) (S:Nat→Bool):Prop:=IsSide l.A l.B S
def Cheap (l:NL) (S:Nat→Bool):Prop:=Side l S∧∀ T,Side l T→cutC l.L S≤cutC l.L T
def LeastP (l:NL) (u:Nat):Prop:=∀ S,Cheap l S→S u=true
structure MaxFlow (l:NL) (f:Nat→Int):Prop where
 right:Right l.N l.L f l.A l.B
 side:∃ S,Side l S∧Shut l.L f S
variable {l:NL} {f:Nat→Int}
theorem MaxFlow.le (m:MaxFlow l f) (g:Good l) {S:Nat→Bool} (h:Side l S):greatF l.N l.L f l.A≤cutC l.L S:=great_le g.net m.right h
theorem MaxFlow.cheap_iff (m:MaxFlow l f) (g:Good l) {S:Nat→Bool} (h:Side l S):Cheap l S↔Shut l.L f S:=by
 obtain ⟨S0,h0,hs0⟩:=m.side
 have e0:=(great_shut g.net m.right h0).2 hs0
 constructor
 ·intro hc
  have h1:=hc.2 S0 h0
  have h2:=m.le g h
  exact (great_shut g.net m.right h).1 (by omega)
 ·intro hs
  have e1:=(great_shut g.net m.right h).2 hs
  exact ⟨h,fun T hT=>by have:=m.le g hT; omega⟩
theorem MaxFlow.cost (m:MaxFlow l f) (g:Good l) {S:Nat→Bool} (h:Cheap l S):greatF l.N l.L f l.A=cutC l.L S :=
 (great_shut g.net m.right h.1).2 ((m.cheap_iff g h.1).1 h)
theorem MaxFlow.some (m:MaxFlow l f) (g:Good l):∃ S,Cheap l S:=by
 obtain ⟨S,h,hs⟩:=m.side
 exact ⟨S,(m.cheap_iff g h).2 hs⟩
open Classical in
theorem MaxFlow.least (m:MaxFlow l f) (g:Good l) {u:Nat} (hu:u < l.N):Rch l.L [] (leftP l.L f) (natL l.left) u↔LeastP l u:=by
 constructor
 ·intro h S hS
  exact rch_in g.net ((m.cheap_iff g hS.1).1 hS) (fun v hv=>hS.1.1 v (NL.mA.2 hv)) h
 ·intro h
  obtain ⟨S0,h0,hs0⟩:=m.side
  have hS:Side l (fun v=>decide (Rch l.L [] (leftP l.L f) (natL l.left) v)):=by
   refine ⟨fun v hv=>decide_eq_true (.root (NL.mA.1 hv)),fun v hv=>decide_eq_false fun hr=>?_⟩
   have:=rch_in g.net hs0 (fun w hw=>h0.1 w (NL.mA.2 hw)) hr
   rw [h0.2 v hv] at this
   cases this
  have:=h _ ((m.cheap_iff g hS).2 (rch_shut g.net (src:=natL l.left) fun v _=>decide_eq_true_iff))
  exact decide_eq_true_iff.1 this
theorem sub4 {t:Int} (ht:0≤t) (p q r s:Bool):((if (p&&r)≠(q&&s) then t else 0)+if (p||r)≠(q||s) then t else 0)≤(if p≠q then t else 0)+if r≠s then t else 0:=by
 cases p <;> cases q <;> cases r <;> cases s <;> simp <;> omega
theorem cut_parts (L:List Lk) (S T:Nat→Bool):cutC L (fun u=>S u&&T u)+cutC L (fun u=>S u||T u)≤cutC L S+cutC L T∨∃ i,i < L.length∧(lkAt L i).t < 0:=by
 by_cases h:∃ i,i < L.length∧(lkAt L i).t < 0
 ·exact .inr h
 ·left
  unfold cutC
  rw [← isum_add,← isum_add]
  refine isum_mono fun i hi=>?_
  have ht:0≤(lkAt L i).t:=Int.not_lt.1 fun hh=>h ⟨i,List.mem_range.1 hi,hh⟩
  exact sub4 ht _ _ _ _
theorem Good.cut_parts (g:Good l) (S T:Nat→Bool):cutC l.L (fun u=>S u&&T u)+cutC l.L (fun u=>S u||T u)≤cutC l.L S+cutC l.L T:=by
 rcases Go.Proofs.YtibmeigdjghkcaaGreat.cut_parts l.L S T with h | ⟨i,hi,h⟩
 ·exact h
 ·have:=g.net.t i hi
  omega
theorem Side.inter {S T:Nat→Bool} (h:Side l S) (k:Side l T):Side l fun u=>S u&&T u :=
 ⟨fun u hu=>by dsimp only; rw [h.1 u hu,k.1 u hu]; rfl,fun u hu=>by dsimp only; rw [h.2 u hu]; rfl⟩
theorem Side.union {S T:Nat→Bool} (h:Side l S) (k:Side l T):Side l fun u=>S u||T u :=
 ⟨fun u hu=>by dsimp only; rw [h.1 u hu]; rfl,fun u hu=>by dsimp only; rw [h.2 u hu,k.2 u hu]; rfl⟩
theorem Good.common (g:Good l) {S T:Nat→Bool} (h:Side l S) (k:Cheap l T):cutC l.L (fun u=>S u&&T u)≤cutC l.L S:=by
 have h1:=g.cut_parts S T
 have h2:=k.2 _ (h.union k.1)
 omega
theorem Good.cut_congr (g:Good l) {S T:Nat→Bool} (h:∀ u,u < l.N→S u=T u):cutC l.L S=cutC l.L T:=by
 unfold cutC
 refine isum_congr fun i hi=>?_
 have hi:=List.mem_range.1 hi
 rw [h _ (g.net.a i hi),h _ (g.net.b i hi)]
theorem Good.side_congr (g:Good l) {S T:Nat→Bool} (h:∀ u,u < l.N→S u=T u) (hS:Side l S):Side l T :=
 ⟨fun u hu=>by rw [← h u (g.ltA hu)]; exact hS.1 u hu,fun u hu=>by rw [← h u (g.ltB hu)]; exact hS.2 u hu⟩
theorem Good.cheap_congr (g:Good l) {S T:Nat→Bool} (h:∀ u,u < l.N→S u=T u) (hS:Cheap l S):Cheap l T :=
 ⟨g.side_congr h hS.1,fun U hU=>by rw [← g.cut_congr h]; exact hS.2 U hU⟩
open Classical in
theorem MaxFlow.cheap_least (m:MaxFlow l f) (g:Good l):Cheap l fun u=>decide (LeastP l u):=by
 obtain ⟨S0,h0,hs0⟩:=m.side
 have hS:Side l (fun v=>decide (LeastP l v)):=by
  refine ⟨fun v hv=>decide_eq_true fun S hS=>hS.1.1 v hv,fun v hv=>decide_eq_false fun hr=>?_⟩
  have:=hr S0 ((m.cheap_iff g h0).2 hs0)
  rw [h0.2 v hv] at this
  cases this
 exact (m.cheap_iff g hS).2 (rch_shut g.net (src:=natL l.left) fun v hv=>by rw [decide_eq_true_iff]; exact (m.least g hv).symm)
end Go.Proofs.YtibmeigdjghkcaaGreat
namespace Go.Proofs.YtibmeigdjghkcaaGreat
set_option linter.unusedVariables false
variable {l:NL}
end Go.Proofs.YtibmeigdjghkcaaGreat
namespace Go.Proofs.YtibmeigdjghkcaaGreat
set_option linter.unusedVariables false
variable {l:NL}
end Go.Proofs.YtibmeigdjghkcaaGreat
namespace Go.Proofs.YtibmeigdjghkcaaGreat
set_option linter.unusedVariables false
open Classical in
noncomputable def leastL (l:NL):List Nat:=(List.range l.N).filter fun u=>decide (LeastP l u)
open Classical in
noncomputable def costL (l:NL):Int:=cutC l.L fun u=>decide (LeastP l u)
def bitB (s n:Nat):Bool:=s / 2 ^ n % 2==1
def bitsOf:(Nat→Bool)→Nat→Nat
 | _,0=>0
 | S,n+1=>(if S 0=true then 1 else 0)+2 * bitsOf (fun k=>S (k+1)) n
theorem bitsOf_lt:∀ (n:Nat) (S:Nat→Bool),bitsOf S n < 2 ^ n
 | 0,_=>by simp [bitsOf]
 | n+1,S=>by
   have:=bitsOf_lt n fun k=>S (k+1)
   unfold bitsOf
   rw [Nat.pow_succ]
   split <;> omega
theorem bitsOf_bit:∀ (n:Nat) (S:Nat→Bool) (k:Nat),k < n→bitB (bitsOf S n) k=S k
 | 0,_,k,h=>by omega
 | n+1,S,0,h=>by
   unfold bitsOf bitB
   rw [Nat.pow_zero,Nat.div_one]
   cases e:S 0
   ·simp
   ·simp
 | n+1,S,k+1,h=>by
   have:=bitsOf_bit n (fun k=>S (k+1)) k (by omega)
   unfold bitB at this ⊢
   rw [show bitsOf S (n+1)=(if S 0=true then 1 else 0)+2 * bitsOf (fun k=>S (k+1)) n from rfl]
   rw [Nat.pow_succ,Nat.mul_comm (2 ^ k) 2,← Nat.div_div_eq_div_mul]
   rw [show ((if S 0=true then 1 else 0)+2 * bitsOf (fun k=>S (k+1)) n) / 2=bitsOf (fun k=>S (k+1)) n by split <;> omega]
   exact this
def sideB (N s:Nat):List Nat:=(List.range N).filter (bitB s)
def isSideB (l:NL) (side:List Nat):Bool:=((natL l.left).all fun u=>side.contains u)&&((natL l.right).all fun u=>!side.contains u)
def allTo (l:NL) (n:Nat):List (List Nat):=((List.range n).map (sideB l.N)).filter (isSideB l)
def allSides (l:NL):List (List Nat):=allTo l (2 ^ l.N)
def memB (side:List Nat):Nat→Bool:=fun u=>side.contains u
def costOf (l:NL) (side:List Nat):Int:=cutC l.L (memB side)
def cheapS (l:NL) (p:List (List Nat)×Int) (side:List Nat):List (List Nat)×Int :=
 if p.2 < 0∨costOf l side < p.2 then ([side],costOf l side) else if costOf l side=p.2 then (p.1++[side],p.2) else p
variable {l:NL} {f:Nat→Int}
theorem isSide_iff {side:List Nat}:isSideB l side=true↔Side l (memB side):=by
 unfold isSideB Side IsSide memB
 rw [Bool.and_eq_true,List.all_eq_true,List.all_eq_true]
 constructor
 ·rintro ⟨h,k⟩
  exact ⟨fun u hu=>h u (NL.mA.1 hu),fun u hu=>by simpa using k u (NL.mB.1 hu)⟩
 ·rintro ⟨h,k⟩
  exact ⟨fun u hu=>h u (NL.mA.2 hu),fun u hu=>by simpa using k u (NL.mB.2 hu)⟩
theorem mem_sideB {N s u:Nat}:memB (sideB N s) u=(decide (u < N)&&bitB s u):=by
 unfold memB sideB
 rw [Bool.eq_iff_iff]
 simp
theorem mem_allSides (g:Good l) {S:Nat→Bool} (h:Side l S):∃ side∈allSides l,∀ u,u < l.N→memB side u=S u:=by
 have hs:∀ u,u < l.N→S u=memB (sideB l.N (bitsOf S l.N)) u:=fun u hu=>by rw [mem_sideB,bitsOf_bit _ _ _ hu]; simp [hu]
 refine ⟨sideB l.N (bitsOf S l.N),?_,fun u hu=>(hs u hu).symm⟩
 unfold allSides allTo
 rw [List.mem_filter]
 exact ⟨List.mem_map.2 ⟨_,List.mem_range.2 (bitsOf_lt _ _),rfl⟩,isSide_iff.2 (g.side_congr hs h)⟩
theorem side_of_mem {side:List Nat} (h:side∈allSides l):Side l (memB side):=by
 unfold allSides allTo at h
 exact isSide_iff.1 (List.mem_filter.1 h).2
theorem cut_nonneg (g:Good l) (S:Nat→Bool):0≤cutC l.L S:=by
 unfold cutC
 refine isum_pos fun i hi=>?_
 have:=g.net.t i (List.mem_range.1 hi)
 split <;> omega
theorem cheap_fold (g:Good l):∀ (ls:List (List Nat)),(ls=[]∧ls.foldl (cheapS l) ([], -1)=([], -1)) ∨
  (0≤(ls.foldl (cheapS l) ([], -1)).2∧(∀ s∈ls,(ls.foldl (cheapS l) ([], -1)).2≤costOf l s)∧(∃ s∈ls,costOf l s=(ls.foldl (cheapS l) ([], -1)).2) ∧
   (ls.foldl (cheapS l) ([], -1)).1=ls.filter fun s=>costOf l s==(ls.foldl (cheapS l) ([], -1)).2):=by
 refine snoc_ind (.inl ⟨rfl,rfl⟩) fun ls s ih => .inr ?_
 rw [List.foldl_append,List.foldl_cons,List.foldl_nil]
 generalize ls.foldl (cheapS l) ([], -1)=p at *
 obtain ⟨out,best⟩:=p
 have h0:=cut_nonneg g (memB s)
 have e0:costOf l s=cutC l.L (memB s):=rfl
 rw [← e0] at h0
 clear e0
 dsimp only at ih
 rcases ih with ⟨rfl,e⟩ | ⟨h1,h2,⟨s1,hs1,h3⟩,h4⟩
 ·injection e with e1 e2
  subst e1; subst e2
  unfold cheapS
  rw [if_pos (.inl (by decide))]
  exact ⟨h0,by simp,⟨s,by simp,rfl⟩,by simp⟩
 ·unfold cheapS
  dsimp only
  by_cases c1:best < 0∨costOf l s < best
  ·rw [if_pos c1]
   have c2:costOf l s < best:=by omega
   refine ⟨h0,?_,⟨s,by simp,rfl⟩,?_⟩
   ·intro x hx
    rcases List.mem_append.1 hx with hx | hx
    ·have:=h2 x hx; dsimp only; omega
    ·rw [List.mem_singleton.1 hx]; exact Int.le_refl _
   ·dsimp only
    rw [List.filter_append,List.filter_eq_nil_iff.2]
    ·simp
    ·intro x hx
     have:=h2 x hx
     simp
     omega
  ·rw [if_neg c1]
   by_cases c3:costOf l s=best
   ·rw [if_pos c3]
    refine ⟨h1,?_,⟨s1,by simp [hs1],h3⟩,?_⟩
    ·intro x hx
     rcases List.mem_append.1 hx with hx | hx
     ·exact h2 x hx
     ·rw [List.mem_singleton.1 hx]; dsimp only; omega
    ·dsimp only
     rw [List.filter_append,← h4]
     simp [c3]
   ·rw [if_neg c3]
    refine ⟨h1,?_,⟨s1,by simp [hs1],h3⟩,?_⟩
    ·intro x hx
     rcases List.mem_append.1 hx with hx | hx
     ·exact h2 x hx
     ·rw [List.mem_singleton.1 hx]; dsimp only; omega
    ·dsimp only
     rw [List.filter_append,← h4]
     simp [c3]
end Go.Proofs.YtibmeigdjghkcaaGreat
namespace Go.Proofs.YtibmeigdjghkcaaGreat
set_option linter.unusedVariables false
variable {l:NL}
theorem exists_cheap (g:Good l):∃ S,Cheap l S:=by
 rcases cheap_fold g (allSides l) with ⟨h, -⟩ | ⟨h1,h2,⟨s1,hs1,h3⟩,h4⟩
 ·exfalso
  have hS:Side l fun u=>l.A u:=⟨fun u h=>h,fun u h=>by
   cases ha:l.A u
   ·exact ha
   ·have:=g.both ha
    rw [this] at h
    cases h⟩
  obtain ⟨s0,hs0,he0⟩:=mem_allSides g hS
  rw [h] at hs0
  cases hs0
 ·refine ⟨memB s1,side_of_mem hs1,fun T hT=>?_⟩
  obtain ⟨s,hs,he⟩:=mem_allSides g hT
  have e1:=h2 s hs
  have e2:costOf l s=cutC l.L T:=g.cut_congr he
  change costOf l s1≤_
  omega
theorem Cheap.inter (g:Good l) {S T:Nat→Bool} (h:Cheap l S) (k:Cheap l T):Cheap l fun u=>S u&&T u :=
 ⟨h.1.inter k.1,fun U hU=>by
  have h1:=g.common h.1 k
  have h2:=h.2 U hU
  omega⟩
theorem cheap_all (g:Good l) {S:Nat→Bool} (hS:Cheap l S):∀ (ls:List (List Nat)),(∀ s∈ls,Cheap l (memB s))→Cheap l fun u=>S u&&ls.all fun s=>memB s u
 | [],_=>by simpa using hS
 | s::ls,h=>by
   have h1:=Cheap.inter g (h s (List.mem_cons_self ..)) (cheap_all g hS ls fun t ht=>h t (List.mem_cons_of_mem _ ht))
   have:(fun u=>memB s u&&(S u&&ls.all fun s=>memB s u))=fun u=>S u&&(s::ls).all fun s=>memB s u:=by
    funext u
    rw [List.all_cons]
    cases memB s u <;> simp
   rwa [this] at h1
open Classical in
theorem cheap_least2 (g:Good l):Cheap l fun u=>decide (LeastP l u):=by
 obtain ⟨S,hS⟩:=exists_cheap g
 have h:=cheap_all g hS ((allSides l).filter fun s=>decide (Cheap l (memB s))) fun s hs=>by simpa using (List.mem_filter.1 hs).2
 refine g.cheap_congr (fun u hu=>?_) h
 rw [Bool.eq_iff_iff,Bool.and_eq_true,List.all_eq_true,decide_eq_true_eq]
 constructor
 ·rintro ⟨-,h2⟩ T hT
  obtain ⟨s,hs,he⟩:=mem_allSides g hT.1
  have:=h2 s (List.mem_filter.2 ⟨hs,by rw [decide_eq_true_eq]; exact g.cheap_congr (fun v hv=>(he v hv).symm) hT⟩)
  rw [← he u hu]
  exact this
 ·intro h2
  exact ⟨h2 S hS,fun s hs=>h2 _ (by simpa using (List.mem_filter.1 hs).2)⟩
end Go.Proofs.YtibmeigdjghkcaaGreat
namespace Go.Proofs.YtibmeigdjghkcaaGreat
set_option linter.unusedVariables false
def linkI (l:NL) (drop:List Nat) (x y:Int) (i:Nat):Bool :=
 !drop.contains i&&(((l.links.getD i default).one==x&&(l.links.getD i default).two==y)||((l.links.getD i default).one==y&&(l.links.getD i default).two==x))
def linkedB (l:NL) (drop:List Nat) (x y:Int):Bool:=(List.range l.links.length).any (linkI l drop x y)
def chainB (l:NL) (drop:List Nat):List Int→Bool
 | x::y::r=>linkedB l drop x y&&chainB l drop (y::r)
 | _=>true
def endsC (l:NL) (chain:List Int):Bool:=l.left.contains (chain.headD 0)&&l.right.contains (chain.getLastD 0)
def chkC (l:NL) (drop chain:List Int):Int :=
 if openE l drop≠0 then openE l drop
 else if chain.length < 2∨40 < chain.length then 6
 else if (chain.all (inN l.n))=false then 3
 else if (endsC l chain&&chainB l (natL drop) chain)=true then 0 else 14
def anyP:Pass:=fun _ _ _=>true
def joinedB (l:NL) (drop:List Nat):Bool:=(natL l.left).any fun u=>(natL l.right).any fun v=>labN (pairsOf l.L drop) l.N u==labN (pairsOf l.L drop) l.N v
def chainE (l:NL) (drop:List Int):Int:=if openE l drop≠0 then openE l drop else if joinedB l (natL drop)=true then 0 else 5
variable {l:NL} {drop:List Nat}
theorem linked_way (g:Good l) {x y:Int} (hx:inN l.n x=true) (hy:inN l.n y=true):linkedB l drop x y=true↔∃ i,(y.toNat,i)∈waysL l.L drop x.toNat:=by
 unfold inN at hx hy
 simp only [Bool.and_eq_true,decide_eq_true_eq] at hx hy
 unfold linkedB linkI
 rw [List.any_eq_true]
 constructor
 ·rintro ⟨i,hi,h⟩
  have hi:=List.mem_range.1 hi
  have e:=NL.at_ (l:=l) (List.getElem?_eq_getElem hi)
  rw [List.getD_eq_getElem?_getD,List.getElem?_eq_getElem hi] at h
  simp only [Option.getD_some,Bool.and_eq_true,Bool.or_eq_true,Bool.not_eq_true',beq_iff_eq] at h
  refine ⟨i,(mem_waysL g.net).2 ⟨⟨by rw [l.len]; exact hi,?_⟩,by simpa using h.1⟩⟩
  rw [e]
  unfold LkI.lk
  dsimp only
  rcases h.2 with ⟨h1,h2⟩ | ⟨h1,h2⟩
  ·exact .inl ⟨by rw [h1],by rw [h2]⟩
  ·exact .inr ⟨by rw [h2],by rw [h1]⟩
 ·rintro ⟨i,h⟩
  obtain ⟨⟨hi,h1⟩,h2⟩:=(mem_waysL g.net).1 h
  rw [l.len] at hi
  have e:=NL.at_ (l:=l) (List.getElem?_eq_getElem hi)
  have hk:=g.link _ (List.getElem_mem hi)
  refine ⟨i,List.mem_range.2 hi,?_⟩
  rw [List.getD_eq_getElem?_getD,List.getElem?_eq_getElem hi]
  simp only [Option.getD_some,Bool.and_eq_true,Bool.or_eq_true,Bool.not_eq_true',beq_iff_eq]
  refine ⟨by simpa using h2,?_⟩
  rw [e] at h1
  unfold LkI.lk at h1
  dsimp only at h1
  rcases h1 with ⟨h1,h3⟩ | ⟨h1,h3⟩
  ·exact .inl ⟨by omega,by omega⟩
  ·exact .inr ⟨by omega,by omega⟩
theorem chainB_iff:∀ {c:List Int},chainB l drop c=true↔∀ a b x y,c=a++x::y::b→linkedB l drop x y=true
 | []=>by
   refine ⟨fun _ a b x y h=>?_,fun _=>rfl⟩
   have:=congrArg List.length h
   simp at this
 | [z]=>by
   refine ⟨fun _ a b x y h=>?_,fun _=>rfl⟩
   have:=congrArg List.length h
   simp at this
   omega
 | x::y::r=>by
   unfold chainB
   rw [Bool.and_eq_true,chainB_iff]
   constructor
   ·rintro ⟨h,k⟩ a b x' y' e
    cases a with
    | nil =>
      injection e with e1 e2
      injection e2 with e2 e3
      rw [← e1,← e2]
      exact h
    | cons z a =>
      injection e with e1 e2
      exact k a b x' y' e2
   ·intro h
    exact ⟨h [] r x y rfl,fun a b x' y' e=>h (x::a) b x' y' (by rw [e]; rfl)⟩
theorem joined_iff (g:Good l):joinedB l drop=true↔∃ v,v∈natL l.right∧Rch l.L drop anyP (natL l.left) v:=by
 unfold joinedB anyP
 rw [List.any_eq_true]
 constructor
 ·rintro ⟨u,hu,h⟩
  obtain ⟨v,hv,h2⟩:=List.any_eq_true.1 h
  refine ⟨v,hv,(rch_conn g.net).2 ⟨u,hu,?_⟩⟩
  exact (labN_iff (pairs_lt g.net drop) (g.ltA (NL.mA.2 hu)) (g.ltB (NL.mB.2 hv))).1 (by simpa using h2)
 ·rintro ⟨v,hv,h⟩
  obtain ⟨u,hu,hc⟩:=(rch_conn g.net).1 h
  refine ⟨u,hu,List.any_eq_true.2 ⟨v,hv,?_⟩⟩
  rw [beq_iff_eq]
  exact (labN_iff (pairs_lt g.net drop) (g.ltA (NL.mA.2 hu)) (g.ltB (NL.mB.2 hv))).2 hc
def intL (l:List Nat):List Int:=l.map fun u:Nat=>(u:Int)
theorem chain_back (g:Good l) {dropI:List Int} (hd:openE l dropI=0) {o:Ord1} {v:Nat} {r:List Nat} (hb:Back l.L (natL dropI) anyP (natL l.left) o v r) (hv:v∈natL l.right) (hlt:∀ u∈r,u < l.N):chkC l dropI (intL r.reverse)=0:=by
 obtain ⟨r',hr'⟩:=hb.head
 obtain ⟨u0,hu0,hlast⟩:=hb.last
 have hnd:=hb.nodup
 have hlen:r.length≤l.N:=nodup_len hnd hlt
 have hN:=g.nN
 have h40:=g.forty
 have h2:2≤r.length:=by
  rcases r with _ | ⟨x,_ | ⟨y,r2⟩⟩
  ·cases hr'
  ·injection hr' with e1 e2
   subst e1
   have:x=u0:=by simpa using hlast
   subst this
   have:=g.both (NL.mA.2 hu0)
   rw [NL.mB.2 hv] at this
   cases this
  ·simp
 have hin:(intL r.reverse).all (inN l.n)=true:=by
  rw [List.all_eq_true]
  intro x hx
  obtain ⟨u,hu,rfl⟩:=List.mem_map.1 hx
  have:=hlt u (List.mem_reverse.1 hu)
  unfold inN
  rw [Bool.and_eq_true,decide_eq_true_eq,decide_eq_true_eq]
  omega
 have hll:(intL r.reverse).length=r.length:=by unfold intL; rw [List.length_map,List.length_reverse]
 have hmem:∀ {ls:List Int} {u:Nat},(∀ x∈ls,0≤x)→u∈natL ls→ls.contains (u:Int)=true:=by
  intro ls u h0 hu
  obtain ⟨x,hx,rfl⟩:=List.mem_map.1 hu
  have:=h0 x hx
  rw [List.contains_iff_mem,show ((x.toNat:Nat):Int)=x by omega]
  exact hx
 have hends:endsC l (intL r.reverse)=true:=by
  unfold endsC
  have e1:(intL r.reverse).headD 0=(u0:Int):=by
   unfold intL
   rw [List.headD_eq_head?_getD,List.head?_map,List.head?_reverse,hlast]
   rfl
  have e2:(intL r.reverse).getLastD 0=(v:Int):=by
   unfold intL
   rw [List.getLastD_eq_getLast?,List.getLast?_map,List.getLast?_reverse,hr']
   rfl
  rw [e1,e2,Bool.and_eq_true]
  exact ⟨hmem (fun x hx=>by have:=rises_lo g.ra x hx; omega) hu0,hmem (fun x hx=>by have:=rises_lo g.rb x hx; omega) hv⟩
 have hch:chainB l (natL dropI) (intL r.reverse)=true:=by
  rw [chainB_iff]
  intro a b x y e
  have hx:inN l.n x=true:=List.all_eq_true.1 hin x (by rw [e]; simp)
  have hy:inN l.n y=true:=List.all_eq_true.1 hin y (by rw [e]; simp)
  have e3:r.reverse=natL a++x.toNat::y.toNat::natL b:=by
   have:=congrArg natL e
   unfold intL at this
   rw [nat_map] at this
   rw [this]
   unfold natL
   simp
  have e4:r=(natL b).reverse++y.toNat::x.toNat::(natL a).reverse:=by
   have:=congrArg List.reverse e3
   rw [List.reverse_reverse] at this
   rw [this]
   simp
  obtain ⟨i,hi⟩:=hb.linked _ _ _ _ e4
  exact (linked_way g hx hy).2 ⟨i,hi⟩
 unfold chkC
 rw [if_neg (by rw [hd]; simp),if_neg (by rw [hll]; omega),if_neg (by rw [hin]; simp),if_pos (by rw [hends,hch]; rfl)]
end Go.Proofs.YtibmeigdjghkcaaGreat
namespace Go.Proofs.YtibmeigdjghkcaaGreat
set_option linter.unusedVariables false
variable {l:NL} {f:Nat→Int}
def keptTo (L:List Lk) (f:Nat→Int) (k u:Nat):Int:=isum (inTo L f u) (List.range k)
theorem keptTo_all (L:List Lk) (f:Nat→Int) (u:Nat):keptTo L f L.length u=keptF L f u:=rfl
theorem keptTo_zero (L:List Lk) (f:Nat→Int) (u:Nat):keptTo L f 0 u=0:=rfl
theorem keptTo_succ (L:List Lk) (f:Nat→Int) (k u:Nat):keptTo L f (k+1) u=keptTo L f k u+inTo L f u k:=by
 unfold keptTo
 rw [List.range_succ,isum_append]
 simp [isum]
theorem keptTo_step {L:List Lk} {f:Nat→Int} {k:Nat} (hne:(lkAt L k).a≠(lkAt L k).b) (u:Nat) :
  keptTo L f (k+1) u=if u=(lkAt L k).b then keptTo L f k (lkAt L k).b+f k else if u=(lkAt L k).a then keptTo L f k (lkAt L k).a-f k else keptTo L f k u:=by
 rw [keptTo_succ]
 unfold inTo
 by_cases h1:u=(lkAt L k).b
 ·subst h1
  rw [if_pos rfl,if_pos rfl,if_neg hne]
  omega
 ·rw [if_neg h1,if_neg fun e=>h1 e.symm]
  by_cases h2:u=(lkAt L k).a
  ·subst h2
   rw [if_pos rfl,if_pos rfl]
   omega
  ·rw [if_neg h2,if_neg fun e=>h2 e.symm]
   omega
theorem keptTo_bound {L:List Lk} {f:Nat→Int} {u:Nat}:∀ {k:Nat},(∀ i,i < k → -1000000≤f i∧f i≤1000000) → -(2000000 * (k:Int))≤keptTo L f k u∧keptTo L f k u≤2000000 * (k:Int)
 | 0,_=>by rw [keptTo_zero]; simp
 | k+1,h=>by
   have h1:=keptTo_bound (L:=L) (u:=u) fun i hi=>h i (Nat.lt_succ_of_lt hi)
   have h2:=h k (Nat.lt_succ_self k)
   rw [keptTo_succ]
   unfold inTo
   split <;> split <;> omega
def lessBy (L:List Lk) (f:Nat→Int) (ls:List Nat):Int := - isum (keptF L f) ls
theorem isum_mem {α:Type} [DecidableEq α] (f:α→Int) {ls:List α} (hn:ls.Nodup):∀ {m:List α},m.Nodup→(∀ x∈m,x∈ls)→isum (fun x=>if m.contains x=true then f x else 0) ls=isum f m
 | [],_,_=>isum_zero fun x _=>by simp
 | y::m,hm,hs=>by
   rw [List.nodup_cons] at hm
   have ih:=isum_mem f hn hm.2 fun x hx=>hs x (List.mem_cons_of_mem _ hx)
   rw [isum_cons,← ih]
   have h1:isum (fun x=>if (y::m).contains x=true then f x else 0) ls=isum (fun x=>(if x=y then f y else 0)+if m.contains x=true then f x else 0) ls:=by
    refine isum_congr fun x _=>?_
    by_cases hxy:x=y
    ·subst hxy
     rw [if_pos (by simp),if_pos rfl,if_neg (by simpa using hm.1)]
     omega
    ·rw [if_neg hxy]
     by_cases hxm:x∈m
     ·rw [if_pos (by simp [hxm]),if_pos (by simpa using hxm)]; omega
     ·rw [if_neg (by simp [hxy,hxm]),if_neg (by simpa using hxm)]; rfl
   rw [h1,isum_add,isum_one hn,if_pos (hs y (List.mem_cons_self ..))]
theorem Good.great (g:Good l) (f:Nat→Int):greatF l.N l.L f l.A=lessBy l.L f (natL l.left):=by
 unfold greatF lessBy
 congr 1
 refine isum_mem _ List.nodup_range (nodup_of_lt (rises_nat g.ra).1) fun u hu=>?_
 exact List.mem_range.2 (g.ltA (NL.mA.2 hu))
theorem Good.flow_bound (g:Good l) (hf:Fits l.L f) {i:Nat} (hi:i < l.links.length) : -1000000≤f i∧f i≤1000000:=by
 have h1:=hf i (by rw [NL.len]; exact hi)
 obtain ⟨x,hx,hm⟩:=NL.ex (l:=l) (i:=i) (by rw [NL.len]; exact hi)
 rw [NL.at_ hx] at h1
 have h2:=(g.link x hm).2.2.2.2.2.2
 have h3:x.lk.t=x.trust:=rfl
 omega
theorem Good.kept_bound (g:Good l) (hf:Fits l.L f) (u:Nat) : -240000000≤keptF l.L f u∧keptF l.L f u≤240000000:=by
 have h1:=keptTo_bound (L:=l.L) (f:=f) (u:=u) (k:=l.L.length) fun i hi=>g.flow_bound hf (by rw [← NL.len]; exact hi)
 rw [keptTo_all] at h1
 have h2:=g.few
 rw [NL.len] at h1
 omega
theorem openE_nil (l:NL):openE l []=checkL l:=by
 unfold openE
 by_cases h:checkL l=0
 ·rw [if_neg (by simpa using h),if_pos (by rfl),h]
 ·rw [if_pos h]
end Go.Proofs.YtibmeigdjghkcaaGreat
namespace Go.Proofs.YtibmeigdjghkcaaGreat
set_option linter.unusedVariables false
def startD (L:List Lk) (A D:Nat→Bool) (i:Nat):Int:=if D (lkAt L i).a=true∧A (lkAt L i).b=false then (lkAt L i).t else if D (lkAt L i).b=true∧A (lkAt L i).a=false then -(lkAt L i).t else 0
theorem startD_all (L:List Lk) (A:Nat→Bool):startD L A A=startF L A:=rfl
theorem startD_none (L:List Lk) (A:Nat→Bool) (i:Nat):startD L A (fun _=>false) i=0:=by unfold startD; simp
def plus (D:Nat→Bool) (k:Nat):Nat→Bool:=fun u=>D u||u==k
def midF (L:List Lk) (A D:Nat→Bool) (k:Nat) (pre:List (Nat×Nat)) (i:Nat):Int:=if pre.any (fun p=>p.2==i)=true then startD L A (plus D k) i else startD L A D i
variable {N:Nat} {L:List Lk} {A D:Nat→Bool}
theorem startD_far {k i:Nat} (ha:(lkAt L i).a≠k) (hb:(lkAt L i).b≠k):startD L A (plus D k) i=startD L A D i:=by
 unfold startD plus
 have h1:((lkAt L i).a==k)=false:=by simpa using ha
 have h2:((lkAt L i).b==k)=false:=by simpa using hb
 rw [h1,h2,Bool.or_false,Bool.or_false]
theorem midF_end (hN:Net N L) {k:Nat}:∀ i,i < L.length→midF L A D k (waysL L [] k) i=startD L A (plus D k) i:=by
 intro i hi
 unfold midF
 split
 ·rfl
 ·rename_i h
  symm
  have hno:∀ v,(v,i)∉waysL L [] k:=by
   intro v hv
   apply h
   rw [List.any_eq_true]
   exact ⟨_,hv,by simp⟩
  refine startD_far (fun e=>?_) fun e=>?_
  ·exact hno (lkAt L i).b ((mem_waysL hN).2 ⟨⟨hi,.inl ⟨e,rfl⟩⟩,by simp⟩)
  ·exact hno (lkAt L i).a ((mem_waysL hN).2 ⟨⟨hi,.inr ⟨e,rfl⟩⟩,by simp⟩)
theorem startD_fits (hN:Net N L):Fits L (startD L A D):=by
 intro i hi
 have:=hN.t i hi
 unfold startD
 split
 ·omega
 ·split <;> omega
theorem midF_fits (hN:Net N L) {k:Nat} {pre:List (Nat×Nat)}:Fits L (midF L A D k pre):=by
 intro i hi
 have h1:=startD_fits (A:=A) (D:=D) hN i hi
 have h2:=startD_fits (A:=A) (D:=plus D k) hN i hi
 unfold midF
 split
 ·exact h2
 ·exact h1
theorem any_snoc (pre:List (Nat×Nat)) (v i j:Nat):((pre++[(v,i)]).any fun p=>p.2==j)=((pre.any fun p=>p.2==j)||i==j):=by
 rw [List.any_append]
 simp
theorem midF_skip {k v i:Nat} {pre:List (Nat×Nat)} (hw:IsWay L k v i) (hk:A k=true) (hv:A v=true):∀ j,midF L A D k (pre++[(v,i)]) j=midF L A D k pre j:=by
 intro j
 unfold midF
 rw [any_snoc]
 by_cases hij:i=j
 ·subst hij
  have hz:∀ D:Nat→Bool,startD L A D i=0:=by
   intro D
   unfold startD
   obtain ⟨-,⟨h1,h2⟩ | ⟨h1,h2⟩⟩:=hw <;> simp [h1,h2,hk,hv]
  simp [hz]
 ·have:(i==j)=false:=by simpa using hij
  rw [this,Bool.or_false]
theorem midF_push (hN:Net N L) {k v i:Nat} {pre:List (Nat×Nat)} (hw:IsWay L k v i) (hk:A k=true) (hv:A v=false) (hDA:∀ u,D u=true→A u=true) (hDk:D k=false) (hno:(pre.any fun p=>p.2==i)=false) :
  resF L (midF L A D k pre) k i=(lkAt L i).t∧∀ j,pushF L (midF L A D k pre) k i (resF L (midF L A D k pre) k i) j=midF L A D k (pre++[(v,i)]) j:=by
 have hDv:D v=false:=by
  cases h:D v with
  | false=>rfl
  | true=>rw [hDA v h] at hv; cases hv
 have hne:=way_ne hN hw
 have h0:midF L A D k pre i=0:=by
  unfold midF
  rw [if_neg (by rw [hno]; simp)]
  unfold startD
  obtain ⟨-,⟨h1,h2⟩ | ⟨h1,h2⟩⟩:=hw <;> simp [h1,h2,hDk,hDv]
 have hr:resF L (midF L A D k pre) k i=(lkAt L i).t:=by
  unfold resF
  rw [h0]
  split <;> omega
 refine ⟨hr,fun j=>?_⟩
 rw [hr]
 unfold pushF
 by_cases hj:j=i
 ·subst hj
  rw [if_pos rfl,h0]
  have hm:midF L A D k (pre++[(v,j)]) j=startD L A (plus D k) j:=by
   unfold midF
   rw [any_snoc,if_pos (show ((pre.any fun p=>p.2==j)||j==j)=true by simp)]
  rw [hm]
  unfold startD plus
  obtain ⟨-,⟨h1,h2⟩ | ⟨h1,h2⟩⟩:=hw
  ·rw [if_pos h1,if_pos (by simp [h1,h2,hv])]
   omega
  ·have ha:(lkAt L j).a≠k:=by rw [h2]; exact fun e=>hne e.symm
   have hvk:(v==k)=false:=by simpa using fun e:v=k=>hne e.symm
   rw [if_neg ha,if_neg (by simp [h1,h2,hDv,hvk]),if_pos (by simp [h1,h2,hv])]
   omega
 ·rw [if_neg hj]
  unfold midF
  rw [any_snoc]
  have:(i==j)=false:=by simpa using fun e:i=j=>hj e.symm
  rw [this,Bool.or_false]
def firstB (ls:List Nat) (k:Nat):Nat→Bool:=fun u=>(ls.take k).contains u
theorem firstB_zero (ls:List Nat):firstB ls 0=fun _=>false:=by funext u; simp [firstB]
theorem firstB_succ {ls:List Nat} {k x:Nat} (h:ls[k]? = some x):firstB ls (k+1)=plus (firstB ls k) x:=by
 funext u
 unfold firstB plus
 rw [List.take_add_one,h]
 rw [Bool.eq_iff_iff]
 simp
theorem firstB_all (ls:List Nat):firstB ls ls.length=fun u=>ls.contains u:=by funext u; unfold firstB; rw [List.take_length]
def highD (N:Nat) (D:Nat→Bool) (u:Nat):Nat:=if D u=true then N else 0
theorem highD_plus (N:Nat) (D:Nat→Bool) (k:Nat):raiseH (highD N D) k N=highD N (plus D k):=by
 funext u
 unfold raiseH highD plus
 by_cases e:u=k
 ·simp [e]
 ·have:(u==k)=false:=by simpa using e
  rw [if_neg e,this,Bool.or_false]
theorem highD_all (N:Nat) (A:Nat→Bool):highD N A=startH N A:=rfl
end Go.Proofs.YtibmeigdjghkcaaGreat
