/- Windows of passages and begins of stretches: the plain law of TopWindowPlays. Nothing of the program is imported here. -/
import Derived.Test.YtjpfjklobnilkaaGreatPA
import Derived.Test.YtjpfjklobnilkaaGreatScP
namespace Go.Proofs.YtjpfjklobnilkaaGreat
open Sc
set_option linter.unusedVariables false
def okR (r:Str):Bool:=(decide (0≤r.a)&&decide (r.a≤r.b))&&decide (r.b≤10000)
def SongOk (l:List Str):Prop:=1≤l.length∧l.length≤12∧∀ r∈l,0≤r.a∧r.a≤r.b∧r.b≤10000
theorem SongOk.all {l:List Str} (h:SongOk l):l.all okR=true:=by
 rw [List.all_eq_true]
 intro r hr
 have:=h.2.2 r hr
 simp [okR]; omega
def toneOf (i:Nat) (r:Str):Tn:=⟨r.a,r.b,i⟩
def tonesL:Nat→List Str→List Tn
 | _,[]=>[]
 | i,r::l=>toneOf i r::tonesL (i+1) l
theorem tonesL_len:∀ (l:List Str) (i:Nat),(tonesL i l).length=l.length
 | [],i=>rfl
 | r::l,i=>by rw [tonesL,List.length_cons,tonesL_len l,List.length_cons]
theorem tonesL_snoc (r:Str):∀ (l:List Str) (i:Nat),tonesL i (l++[r])=tonesL i l++[toneOf (i+l.length) r]
 | [],i=>by simp [tonesL]
 | x::l,i=>by
   rw [List.cons_append,tonesL,tonesL_snoc r l (i+1),tonesL,List.cons_append,List.length_cons]
   rw [show i+1+l.length=i+(l.length+1) by omega]
theorem tonesL_take {l:List Str} {k:Nat} {r:Str} (h:l[k]? = some r):tonesL 0 (l.take (k+1))=tonesL 0 (l.take k)++[toneOf k r]:=by
 have hk:=(List.getElem?_eq_some_iff.1 h).1
 rw [List.take_add_one,h]
 simp only [Option.toList_some]
 rw [tonesL_snoc,List.length_take,Nat.min_eq_left (by omega),Nat.zero_add]
theorem tonesL_mem {t:Tn}:∀ {l:List Str} {i:Nat},t∈tonesL i l→∃ (j:Nat) (r:Str),l[j]? = some r∧t=toneOf (i+j) r
 | [],i,h=>by simp [tonesL] at h
 | x::l,i,h=>by
   rw [tonesL,List.mem_cons] at h
   rcases h with h | h
   ·exact ⟨0,x,rfl,h⟩
   ·obtain ⟨j,r,h1,h2⟩:=tonesL_mem h
    exact ⟨j+1,r,by simpa using h1,by rw [h2]; congr 1; omega⟩
theorem tonesL_at:∀ {l:List Str} {i j:Nat} {r:Str},l[j]? = some r→toneOf (i+j) r∈tonesL i l
 | [],i,j,r,h=>by simp at h
 | x::l,i,0,r,h=>by
   simp at h
   subst h
   rw [tonesL]
   exact List.mem_cons_self ..
 | x::l,i,j+1,r,h=>by
   rw [tonesL]
   have:=tonesL_at (i:=i+1) (l:=l) (j:=j) (r:=r) (by simpa using h)
   rw [show i+1+j=i+(j+1) by omega] at this
   exact List.mem_cons_of_mem _ this
def meetsB (st:List Int) (r:Str):Bool:=st.any fun x=>decide (r.a≤x)&&decide (x≤r.b)
theorem meetsB_iff {st:List Int} {r:Str}:meetsB st r=true↔∃ x∈st,r.a≤x∧x≤r.b:=by
 simp [meetsB]
structure ScaleOk (l:List Str) (st:List Int):Prop where
 few:st.length≤24
 rng:∀ x∈st,0≤x∧x≤10000
 up:st.Pairwise (· < ·)
 met:∀ r∈l,meetsB st r=true
section
variable {l:List Str} {s s':List Tn}
theorem ord_tone (ho:Ord (tonesL 0 l) s) {t:Tn} (ht:t∈s):∃ r∈l,t.lo=r.a∧t.hi=r.b:=by
 obtain ⟨j,r,h1,h2⟩:=tonesL_mem ((ho.2.1 t).1 ht)
 exact ⟨r,List.mem_of_getElem? h1,by rw [h2]; rfl,by rw [h2]; rfl⟩
theorem ord_rng (ho:Ord (tonesL 0 l) s) {r:Str} (hr:r∈l):∃ t∈s,t.lo=r.a∧t.hi=r.b:=by
 obtain ⟨j,hj⟩:=List.getElem?_of_mem hr
 refine ⟨toneOf j r,(ho.2.1 _).2 ?_,rfl,rfl⟩
 have:=tonesL_at (i:=0) hj
 rwa [Nat.zero_add] at this
theorem ord_valid (hl:SongOk l) (ho:Ord (tonesL 0 l) s):Valid s:=fun t ht=>by
 obtain ⟨r,hr,h1,h2⟩:=ord_tone ho ht
 have:=hl.2.2 r hr
 omega
theorem short_ok (hl:SongOk l) (ho:Ord (tonesL 0 l) s):ScaleOk l (stepsF s):=by
 refine ⟨?_,fun x hx=>?_,steps_rise (ord_valid hl ho),fun r hr=>?_⟩
 ·have h1:=steps_few s
  have h2:=ho.2.2
  rw [tonesL_len] at h2
  have:=hl.2.1
  omega
 ·obtain ⟨t,ht,rfl⟩:=steps_in (ord_valid hl ho) hx
  obtain ⟨r,hr,h1,h2⟩:=ord_tone ho ht
  have:=hl.2.2 r hr
  omega
 ·obtain ⟨t,ht,h1,h2⟩:=ord_rng ho hr
  obtain ⟨x,hx,h3,h4⟩:=steps_meet (ord_valid hl ho) ho.1 (fun t ht=>by
   obtain ⟨r,hr,h1,h2⟩:=ord_tone ho ht
   have:=hl.2.2 r hr
   omega) t ht
  exact meetsB_iff.2 ⟨x,hx,by omega,by omega⟩
theorem short_few (hl:SongOk l) (ho:Ord (tonesL 0 l) s) {pts:List Int} (hp:∀ r∈l,meetsB pts r=true):(stepsF s).length≤pts.length :=
 steps_least (ord_valid hl ho) fun t ht=>by
  obtain ⟨r,hr,h1,h2⟩:=ord_tone ho ht
  obtain ⟨x,hx,h3,h4⟩:=meetsB_iff.1 (hp r hr)
  exact ⟨x,hx,by omega,by omega⟩
theorem short_same (hl:SongOk l) (ho:Ord (tonesL 0 l) s) (ho':Ord (tonesL 0 l) s'):(stepsF s).length=(namesF s').length:=by
 rw [← steps_names]
 have h1:=short_few hl ho (short_ok hl ho').met
 have h2:=short_few hl ho' (short_ok hl ho).met
 omega
end
def winOf (c:Cyl) (p:Pas):Str:=⟨max 0 (p.b-c.long+1),p.a⟩
def winsOf (c:Cyl):List Str:=c.pas.map (winOf c)
def totW:List Pas→Int
 | []=>0
 | p::r=>p.w+totW r
theorem totW_append (q:List Pas):∀ p,totW (p++q)=totW p+totW q
 | []=>by simp [totW]
 | x::p=>by rw [List.cons_append,totW,totW_append q p,totW]; omega
theorem totW_take {l:List Pas} {k:Nat} {p:Pas} (h:l[k]? = some p):totW (l.take (k+1))=totW (l.take k)+p.w:=by
 rw [List.take_add_one,h,totW_append]
 simp [totW]
def FullC (c:Cyl):Prop:=∀ p∈c.pas,p.b-p.a+1≤c.long∧p.w≠0
def begOf (c:Cyl) (s:Str):Int:=max 0 (s.b-c.long+1)
def putL (x:Int):List Int→List Int
 | []=>[x]
 | y::r=>if y < x then y::putL x r else if x < y then x::y::r else y::r
def begsOf (c:Cyl) (plan:List Str):List Int:=plan.foldl (fun r s=>putL (begOf c s) r) []
theorem begsOf_take (c:Cyl) {plan:List Str} {k:Nat} {s:Str} (h:plan[k]? = some s):begsOf c (plan.take (k+1))=putL (begOf c s) (begsOf c (plan.take k)):=by
 unfold begsOf
 rw [List.take_add_one,h,List.foldl_append]
 rfl
theorem mem_put {x z:Int}:∀ {l:List Int},z∈putL x l↔z=x∨z∈l
 | []=>by simp [putL]
 | y::r=>by
   unfold putL
   split
   ·rw [List.mem_cons,mem_put,List.mem_cons]
    constructor
    ·rintro (h | h | h)
     ·exact .inr (.inl h)
     ·exact .inl h
     ·exact .inr (.inr h)
    ·rintro (h | h | h)
     ·exact .inr (.inl h)
     ·exact .inl h
     ·exact .inr (.inr h)
   ·split
    ·simp
    ·have:x=y:=by omega
     subst this
     simp
theorem put_len {x:Int}:∀ {l:List Int},(putL x l).length≤l.length+1
 | []=>by simp [putL]
 | y::r=>by
   unfold putL
   split
   ·have:=put_len (x:=x) (l:=r)
    simp only [List.length_cons]
    omega
   ·split <;> simp
theorem put_up {x:Int}:∀ {l:List Int},l.Pairwise (· < ·)→(putL x l).Pairwise (· < ·)
 | [],_=>by simp [putL]
 | y::r,h=>by
   rw [List.pairwise_cons] at h
   unfold putL
   split
   ·rename_i hy
    rw [List.pairwise_cons]
    refine ⟨fun z hz=>?_,put_up h.2⟩
    rcases mem_put.1 hz with rfl | hz
    ·exact hy
    ·exact h.1 z hz
   ·split
    ·rename_i hx
     rw [List.pairwise_cons,List.pairwise_cons]
     refine ⟨fun z hz=>?_,h⟩
     rcases List.mem_cons.1 hz with rfl | hz
     ·exact hx
     ·have:=h.1 z hz; omega
    ·rw [List.pairwise_cons]
     exact h
theorem begs_aux (c:Cyl):∀ (plan:List Str) (r:List Int),r.Pairwise (· < ·) →
  (plan.foldl (fun r s=>putL (begOf c s) r) r).Pairwise (· < ·)∧(plan.foldl (fun r s=>putL (begOf c s) r) r).length≤r.length+plan.length ∧
  ∀ x,x∈plan.foldl (fun r s=>putL (begOf c s) r) r↔x∈r∨∃ s∈plan,x=begOf c s
 | [],r,h=>⟨h,by simp,fun x=>by simp⟩
 | s::plan,r,h=>by
   obtain ⟨h1,h2,h3⟩:=begs_aux c plan (putL (begOf c s) r) (put_up h)
   have:=put_len (x:=begOf c s) (l:=r)
   refine ⟨h1,?_,fun x=>?_⟩
   ·rw [List.foldl_cons,List.length_cons]; omega
   ·rw [List.foldl_cons,h3,mem_put]
    constructor
    ·rintro ((h | h) | ⟨t,h,e⟩)
     ·exact .inr ⟨s,List.mem_cons_self ..,h⟩
     ·exact .inl h
     ·exact .inr ⟨t,List.mem_cons_of_mem _ h,e⟩
    ·rintro (h | ⟨t,h,e⟩)
     ·exact .inl (.inr h)
     ·rcases List.mem_cons.1 h with rfl | h
      ·exact .inl (.inl e)
      ·exact .inr ⟨t,h,e⟩
theorem sav_tot (plan:List Str):∀ (pas:List Pas) (i:Nat),(∀ p∈pas,0 < p.w) →
  (savesGo plan i pas).2≤totW pas∧(totW pas≤(savesGo plan i pas).2→∀ p∈pas,saved plan p=true)
 | [],i,_=>⟨by simp [savesGo,totW],fun _ p hp=>by cases hp⟩
 | p::r,i,h=>by
   obtain ⟨h1,h2⟩:=sav_tot plan r (i+1) fun q hq=>h q (List.mem_cons_of_mem _ hq)
   have hp:=h p (List.mem_cons_self ..)
   simp only [savesGo,totW]
   by_cases hs:saved plan p=true
   ·rw [if_pos hs]
    dsimp only
    refine ⟨by omega,fun k q hq=>?_⟩
    rcases List.mem_cons.1 hq with rfl | hq
    ·exact hs
    ·exact h2 (by omega) q hq
   ·rw [if_neg hs]
    exact ⟨by omega,fun k=>by omega⟩
theorem full_pos {c:Cyl} (h:checkCyl c=0) (hf:FullC c):∀ p∈c.pas,0 < p.w:=fun p hp=>by
 have h1:=pas_fit (pasOk_of h) p hp
 have h2:=(hf p hp).2
 omega
theorem pas_few {c:Cyl} (h:checkCyl c=0):c.pas.length≤12:=by
 unfold checkCyl at h
 split at h
 ·omega
 ·split at h
  ·omega
  ·split at h
   ·omega
   ·omega
theorem totW_le:∀ (l:List Pas),(∀ p∈l,0≤p.w∧p.w≤1000)→0≤totW l∧totW l≤1000 * l.length
 | [],_=>by simp [totW]
 | p::r,h=>by
   have h1:=totW_le r fun q hq=>h q (List.mem_cons_of_mem _ hq)
   have h2:=h p (List.mem_cons_self ..)
   simp only [totW,List.length_cons]
   omega
theorem tot_bound {c:Cyl} (h:checkCyl c=0):0≤totW c.pas∧totW c.pas≤12000:=by
 have h1:=totW_le c.pas fun p hp=>by
  have:=pas_fit (pasOk_of h) p hp
  omega
 have:=pas_few h
 omega
theorem win_song {c:Cyl} (h:checkCyl c=0) (hp:c.pas≠[]) (hf:FullC c):SongOk (winsOf c):=by
 obtain ⟨e1,e2,e3,e4,e5,e6,e7⟩:=cyl_nat h
 unfold SongOk winsOf
 rw [List.length_map]
 refine ⟨?_,pas_few h,fun r hr=>?_⟩
 ·exact List.length_pos_iff.2 hp
 ·obtain ⟨p,hpp,rfl⟩:=List.mem_map.1 hr
  have h1:=pas_fit (pasOk_of h) p hpp
  have h2:=(hf p hpp).1
  simp only [winOf]
  omega
theorem most_tot {c:Cyl} (h:checkCyl c=0) (hf:FullC c) {k:Nat} (hk:k≤tK c):mostK c k≤totW c.pas:=by
 obtain ⟨q,hq,e⟩:=mostK_got h hk
 rw [← e]
 exact (sav_tot q c.pas 0 (full_pos h hf)).1
theorem begs_meet {c:Cyl} (h:checkCyl c=0) (hf:FullC c) {q:List Str} {k:Nat} (hq:IsPlan c k q) (hw:totW c.pas≤worthP c q):∀ r∈winsOf c,meetsB (q.map (begOf c)) r=true:=by
 intro r hr
 obtain ⟨p,hp,rfl⟩:=List.mem_map.1 hr
 have h1:=(sav_tot q c.pas 0 (full_pos h hf)).2 hw p hp
 unfold saved at h1
 rw [List.any_eq_true] at h1
 obtain ⟨s,hs,h2⟩:=h1
 have h3:=(seqP_after hq.1 s hs).2
 have h4:=pas_fit (pasOk_of h) p hp
 unfold OkS at h3
 simp only [hasP,Bool.and_eq_true,decide_eq_true_eq] at h2
 refine meetsB_iff.2 ⟨begOf c s,List.mem_map.2 ⟨s,hs,rfl⟩,?_,?_⟩
 ·simp only [winOf,begOf]; omega
 ·simp only [winOf,begOf]; omega
theorem few_plays {c:Cyl} (h:checkCyl c=0) (hp:c.pas≠[]) (hf:FullC c) {k:Nat} (hk:k≤tK c) (hw:totW c.pas≤mostK c k) {s:List Tn} (ho:Ord (tonesL 0 (winsOf c)) s):(stepsF s).length≤k:=by
 obtain ⟨q,hq,e⟩:=mostK_got h hk
 have h1:=short_few (win_song h hp hf) ho (begs_meet h hf hq (by omega))
 rw [List.length_map] at h1
 exact Nat.le_trans h1 hq.2
theorem begs_scale {c:Cyl} (h:checkCyl c=0) (hf:FullC c) (hw:totW c.pas≤mostK c (tK c)):ScaleOk (winsOf c) (begsOf c (wayOf c)):=by
 obtain ⟨e1,e2,e3,e4,e5,e6,e7⟩:=cyl_nat h
 have hq:=way_isPlan h
 have hm:=begs_meet h hf hq (by rw [way_worth h,mostOf_eq]; exact hw)
 obtain ⟨h1,h2,h3⟩:=begs_aux c (wayOf c) [] .nil
 refine ⟨?_,fun x hx=>?_,h1,fun r hr=>?_⟩
 ·have:=hq.2
  simp only [List.length_nil] at h2
  show (begsOf c (wayOf c)).length≤24
  unfold begsOf
  omega
 ·rcases (h3 x).1 hx with h4 | ⟨s,hs,rfl⟩
  ·cases h4
  ·have:=(seqP_after hq.1 s hs).2
   unfold OkS at this
   simp only [begOf]
   omega
 ·obtain ⟨x,hx,h4⟩:=meetsB_iff.1 (hm r hr)
  obtain ⟨s,hs,e⟩:=List.mem_map.1 hx
  exact meetsB_iff.2 ⟨x,(h3 x).2 (.inr ⟨s,hs,e.symm⟩),h4⟩
theorem begs_few {c:Cyl} (h:checkCyl c=0):(begsOf c (wayOf c)).length≤6:=by
 have hq:=(way_isPlan h).2
 have h2:=(begs_aux c (wayOf c) [] .nil).2.1
 have:=(cyl_nat h).2.2.2.2.1
 simp only [List.length_nil] at h2
 unfold begsOf
 omega
end Go.Proofs.YtjpfjklobnilkaaGreat
