/- Plain data and plain functions for the layer of playings: nothing of the program is imported here. The table that fill fills, as plain functions. The way that plan goes back through the table, as a plain function. Plans and what they are worth: what a table that is filled by the recurrence says about them. Nothing of the program is imported here. What the exported functions of the layer compute, as plain functions. CheckLabels as a plain function. Plain facts for the statements: plans, best plans and labels. -/
namespace Go.Proofs.YtjpfjklobnilkaaGreat
set_option linter.unusedVariables false
def idxOf {α:Type} (p:α→Bool):Nat→List α→Int
 | _,[] => -1
 | i,x::r=>if p x then (i:Int) else idxOf p (i+1) r
theorem idxOf_nonneg {α:Type} (p:α→Bool) (l:List α):∀ i,decide (0≤idxOf p i l)=l.any p:=by
 induction l with
 | nil=>intro i; simp [idxOf]
 | cons x r ih =>
   intro i
   unfold idxOf
   by_cases h:p x=true
   ·simp [h]
   ·simp only [h]; simp [h,ih (i+1)]
theorem idxOf_drop {α:Type} (p:α→Bool) (l:List α) (k:Nat) (x:α) (h:l[k]? = some x) :
  idxOf p k (l.drop k)=if p x then (k:Int) else idxOf p (k+1) (l.drop (k+1)):=by
 obtain ⟨hk,hx⟩:=List.getElem?_eq_some_iff.1 h
 rw [List.drop_eq_getElem_cons hk,hx]
 rfl
structure Pas where
 a:Int
 b:Int
 w:Int
 deriving Inhabited,DecidableEq
structure Str where
 a:Int
 b:Int
 deriving Inhabited,DecidableEq
structure Cyl where
 turns:Int
 long:Int
 plays:Int
 frag:List Int
 pas:List Pas
def inR (lo hi x:Int):Bool:=decide (lo≤x)&&decide (x≤hi)
def fragOk (T:Int):Int→List Int→Bool
 | _,[]=>true
 | last,t::r=>(decide (last < t)&&decide (t < T))&&fragOk T t r
def pasOk (T:Int) (p:Pas):Bool:=(((decide (0≤p.a)&&decide (p.a≤p.b))&&decide (p.b < T))&&decide (0≤p.w))&&decide (p.w≤1000)
def argOk (c:Cyl):Bool:=((((decide (1≤c.turns)&&decide (c.turns≤30))&&decide (1≤c.long))&&decide (c.long≤c.turns))&&decide (0≤c.plays))&&decide (c.plays≤6)
def checkCyl (c:Cyl):Int :=
 if argOk c=false then 2 else if fragOk c.turns (-1) c.frag=false then 16 else if 12 < c.pas.length then 6 else if c.pas.all (pasOk c.turns)=false then 3 else 0
def worn (c:Cyl) (a b:Int):Bool:=c.frag.any fun t=>decide (a≤t)&&decide (t≤b)
def planGo (c:Cyl):Int→List Str→Int
 | _,[]=>0
 | last,s::r =>
   if (inR 0 (c.turns-1) s.a&&inR 0 (c.turns-1) s.b&&decide (s.a≤s.b))=false then 3
   else if c.long≤s.b-s.a then 2
   else if s.a≤last then 22
   else if worn c s.a s.b=true then 22
   else planGo c s.b r
def checkPlan (c:Cyl) (plan:List Str):Int :=
 if checkCyl c≠0 then checkCyl c else if c.plays < plan.length then 6 else planGo c (-1) plan
def hasP (s:Str) (p:Pas):Bool:=decide (s.a≤p.a)&&decide (p.b≤s.b)
def saved (plan:List Str) (p:Pas):Bool:=plan.any fun s=>hasP s p
def savesGo (plan:List Str):Nat→List Pas→List Int×Int
 | _,[]=>([],0)
 | i,p::r=>let q:=savesGo plan (i+1) r; if saved plan p then ((i:Int)::q.1,p.w+q.2) else q
def sumW (ws:Nat→Int) (s:Str):Nat→List Pas→Int
 | _,[]=>0
 | i,p::r=>(if hasP s p then ws i else 0)+sumW ws s (i+1) r
theorem sumW_drop (ws:Nat→Int) (s:Str) (l:List Pas) (k:Nat) (p:Pas) (h:l[k]? = some p) :
  sumW ws s k (l.drop k)=(if hasP s p then ws k else 0)+sumW ws s (k+1) (l.drop (k+1)):=by
 obtain ⟨hk,hx⟩:=List.getElem?_eq_some_iff.1 h
 rw [List.drop_eq_getElem_cons hk,hx]
 rfl
theorem sumW_bound (ws:Nat→Int) (M:Int) (hM:0≤M) (hw:∀ i, -M≤ws i∧ws i≤M) (s:Str):∀ (l:List Pas) (i:Nat), -(M * l.length)≤sumW ws s i l∧sumW ws s i l≤M * l.length
 | [],i=>by simp [sumW]
 | p::r,i=>by
   have ih:=sumW_bound ws M hM hw s r (i+1)
   have h:=hw i
   have e:M * ((p::r).length:Int)=M * (r.length:Int)+M:=by
    rw [List.length_cons,Int.natCast_add,Int.mul_add]; simp
   rw [e]
   unfold sumW
   split <;> omega
structure Cho where
 s:Str
 x:Int
 deriving Inhabited
def greater (out:Cho) (y:Cho):Cho:=if out.x < y.x then y else out
def pick:List Cho→Cho
 | []=>⟨⟨0,0⟩,0⟩
 | y::r=>r.foldl greater y
def strFrom (c:Cyl) (t:Nat):Nat→List Str
 | 0=>[]
 | n+1=>if (decide ((t:Int)-n < c.long)&&!(c.frag.any fun x=>(n:Int)==x))=true then ⟨n,t⟩::strFrom c t n else []
def allStr (c:Cyl):Nat→List Str
 | 0=>[]
 | t+1=>allStr c t++strFrom c t (t+1)
theorem allStr_prefix (c:Cyl) (t:Nat):∀ d,allStr c t <+: allStr c (t+d)
 | 0=>List.prefix_refl _
 | d+1=>(allStr_prefix c t d).trans (List.prefix_append _ _)
theorem allStr_le (c:Cyl) {t u:Nat} (h:t≤u):allStr c t <+: allStr c u:=by
 have:=allStr_prefix c t (u-t)
 rwa [show t+(u-t)=u by omega] at this
theorem strFrom_len (c:Cyl) (t:Nat):∀ n,(strFrom c t n).length≤n
 | 0=>by simp [strFrom]
 | n+1=>by
   unfold strFrom
   split
   ·have:=strFrom_len c t n
    simp; omega
   ·simp
theorem allStr_len (c:Cyl):∀ t,t≤30→(allStr c t).length≤31 * t
 | 0,_=>by simp [allStr]
 | t+1,h=>by
   have h1:=allStr_len c t (by omega)
   have h2:=strFrom_len c t (t+1)
   unfold allStr
   simp
   omega
abbrev VStr (T:Nat):={ s:Str // 0≤s.a∧s.a≤s.b∧s.b < (T:Int) }
def endsOf (ws:Nat→Int) (pas:List Pas) (pre:List Str) (i:Nat):List Cho :=
 (pre.filter fun s=>decide (s.b+1=(i:Int))).map fun s=>⟨s,sumW ws s 0 pas⟩
theorem endsOf_snoc (ws:Nat→Int) (pas:List Pas) (pre:List Str) (x:Str) (i j:Nat) (hi:x.b+1=(i:Int)) :
  endsOf ws pas (pre++[x]) j=if j=i then endsOf ws pas pre i++[⟨x,sumW ws x 0 pas⟩] else endsOf ws pas pre j:=by
 unfold endsOf
 rw [List.filter_append,List.map_append]
 by_cases h:j=i
 ·subst h
  simp [hi]
 ·rw [if_neg h]
  have:¬ (x.b+1=(j:Int)):=by omega
  simp [this]
theorem endsOf_len (ws:Nat→Int) (pas:List Pas) (pre:List Str) (i:Nat):(endsOf ws pas pre i).length≤pre.length:=by
 unfold endsOf
 rw [List.length_map]
 exact List.length_filter_le _ _
end Go.Proofs.YtjpfjklobnilkaaGreat
namespace Go.Proofs.YtjpfjklobnilkaaGreat
set_option linter.unusedVariables false
theorem foldl_greater_mem:∀ (r:List Cho) (y:Cho),r.foldl greater y=y∨r.foldl greater y∈r
 | [],y => .inl rfl
 | z::r,y=>by
   rw [List.foldl_cons]
   rcases foldl_greater_mem r (greater y z) with h | h
   ·rw [h]
    unfold greater
    split
    ·exact .inr (List.mem_cons_self ..)
    ·exact .inl rfl
   ·exact .inr (List.mem_cons_of_mem _ h)
theorem pick_mem (y:Cho) (r:List Cho):pick (y::r)∈y::r:=by
 show r.foldl greater y∈_
 rcases foldl_greater_mem r y with h | h
 ·rw [h]; exact List.mem_cons_self ..
 ·exact List.mem_cons_of_mem _ h
def choices (E:Nat→List Cho) (V:Nat→Nat→Int) (t k:Nat):List Cho:=⟨⟨-1,0⟩,V (t-1) k⟩::(E t).map fun y=>⟨y.s,y.x+V y.s.a.toNat (k-1)⟩
def choW (E:Nat→List Cho) (V:Nat→Nat→Int) (t k:Nat):Cho:=pick (choices E V t k)
def tabN (E:Nat→List Cho) (K:Nat):Nat→Nat→Nat→Int
 | 0=>fun _ _=>0
 | n+1=>fun t j=>if t=n+1 then (if 1≤j∧j≤K then (choW E (tabN E K n) (n+1) j).x else tabN E K n n j) else tabN E K n t j
def midN (E:Nat→List Cho) (K n k:Nat) (t j:Nat):Int:=if t=n+1 then (if 1≤j∧j < k then (choW E (tabN E K n) (n+1) j).x else tabN E K n n j) else tabN E K n t j
theorem midN_one (E:Nat→List Cho) (K n t j:Nat):midN E K n 1 t j=if t=n+1 then tabN E K n n j else tabN E K n t j:=by
 unfold midN
 rw [if_neg (show ¬ (1≤j∧j < 1) by omega)]
theorem midN_succ (E:Nat→List Cho) (K n k t j:Nat) (hk:1≤k):midN E K n (k+1) t j=if t=n+1∧j=k then (choW E (tabN E K n) (n+1) k).x else midN E K n k t j:=by
 unfold midN
 by_cases h:t=n+1
 ·by_cases h2:j=k
  ·subst h2
   rw [if_pos h,if_pos (by omega),if_pos ⟨h,rfl⟩]
  ·rw [if_pos h,if_pos h,if_neg (fun (q:t=n+1∧j=k)=>h2 q.2)]
   by_cases h3:1≤j∧j < k
   ·rw [if_pos h3,if_pos (by omega)]
   ·rw [if_neg h3,if_neg (by omega)]
 ·rw [if_neg h,if_neg h,if_neg (fun q=>h q.1)]
theorem midN_last (E:Nat→List Cho) (K n t j:Nat):midN E K n (K+1) t j=tabN E K (n+1) t j:=by
 unfold midN
 conv=>rhs; unfold tabN
 by_cases h:1≤j∧j≤K
 ·rw [if_pos h,if_pos (show 1≤j∧j < K+1 by omega)]
 ·rw [if_neg h,if_neg (show ¬ (1≤j∧j < K+1) by omega)]
theorem midN_low (E:Nat→List Cho) (K n k t j:Nat) (ht:t≤n):midN E K n k t j=tabN E K n t j:=by
 unfold midN
 rw [if_neg (by omega)]
theorem tabN_low (E:Nat→List Cho) (K:Nat) (t j:Nat):∀ d,tabN E K (t+d) t j=tabN E K t t j
 | 0=>rfl
 | d+1=>by
   rw [← tabN_low E K t j d]
   show tabN E K ((t+d)+1) t j=tabN E K (t+d) t j
   conv=>lhs; unfold tabN
   rw [if_neg (by omega)]
theorem tabN_eq (E:Nat→List Cho) (K:Nat) (t n j:Nat) (h:t≤n):tabN E K n t j=tabN E K t t j:=by
 have:=tabN_low E K t j (n-t)
 rwa [show t+(n-t)=n by omega] at this
def Fit (E:Nat→List Cho) (D:Int):Prop:=∀ i,∀ y∈E i,0≤y.s.a∧y.s.a < (i:Int) ∧ -D≤y.x∧y.x≤D
theorem tabN_bound (E:Nat→List Cho) (D:Int) (hD:0≤D) (hE:Fit E D) (K:Nat):∀ (n t j:Nat), -(D * (n:Int))≤tabN E K n t j∧tabN E K n t j≤D * (n:Int)
 | 0,t,j=>by simp [tabN]
 | n+1,t,j=>by
   have ih:=tabN_bound E D hD hE K n
   have e:D * ((n+1:Nat):Int)=D * (n:Int)+D:=by rw [Int.natCast_add,Int.mul_add]; simp
   rw [e]
   unfold tabN
   split
   ·split
    ·unfold choW choices
     have hm:=pick_mem ⟨⟨-1,0⟩,tabN E K n (n+1-1) j⟩ ((E (n+1)).map fun y=>⟨y.s,y.x+tabN E K n y.s.a.toNat (j-1)⟩)
     rcases List.mem_cons.1 hm with h | h
     ·rw [h]
      have:=ih (n+1-1) j
      show _≤tabN E K n (n+1-1) j∧tabN E K n (n+1-1) j≤_
      omega
     ·obtain ⟨y,hy,h2⟩:=List.mem_map.1 h
      rw [← h2]
      have:=ih y.s.a.toNat (j-1)
      have h3:=hE _ y hy
      show _≤y.x+tabN E K n y.s.a.toNat (j-1)∧y.x+tabN E K n y.s.a.toNat (j-1)≤_
      omega
    ·have:=ih n j
     omega
   ·have:=ih t j
    omega
def byN (E:Nat→List Cho) (K n k:Nat) (a b:Int):Option Str :=
 if 1≤a∧1≤b∧b≤(K:Int)∧(a≤(n:Int)∨(a=(n:Int)+1∧b < (k:Int)))∧0≤(choW E (tabN E K (a.toNat-1)) a.toNat b.toNat).s.a then some (choW E (tabN E K (a.toNat-1)) a.toNat b.toNat).s else none
theorem byN_zero (E:Nat→List Cho) (K:Nat) (a b:Int):byN E K 0 1 a b=none:=by
 unfold byN
 rw [if_neg (by omega)]
theorem byN_last (E:Nat→List Cho) (K n:Nat) (a b:Int):byN E K n (K+1) a b=byN E K (n+1) 1 a b:=by
 unfold byN
 have e:(1≤a∧1≤b∧b≤(K:Int)∧(a≤(n:Int)∨(a=(n:Int)+1∧b < ((K+1:Nat):Int)))∧0≤(choW E (tabN E K (a.toNat-1)) a.toNat b.toNat).s.a)↔(1≤a∧1≤b∧b≤(K:Int)∧(a≤((n+1:Nat):Int)∨(a=((n+1:Nat):Int)+1∧b < ((1:Nat):Int)))∧0≤(choW E (tabN E K (a.toNat-1)) a.toNat b.toNat).s.a):=by
  constructor
  ·rintro ⟨h1,h2,h3,h4,h5⟩
   exact ⟨h1,h2,h3,by omega,h5⟩
  ·rintro ⟨h1,h2,h3,h4,h5⟩
   exact ⟨h1,h2,h3,by omega,h5⟩
 simp only [e]
theorem byN_succ (E:Nat→List Cho) (K n k:Nat) (hk:1≤k) (hkK:k≤K) (a b:Int) :
  byN E K n (k+1) a b=if 0≤(choW E (tabN E K n) (n+1) k).s.a∧a=(n:Int)+1∧b=(k:Int) then some (choW E (tabN E K n) (n+1) k).s else byN E K n k a b:=by
 unfold byN
 by_cases h:a=(n:Int)+1∧b=(k:Int)
 ·obtain ⟨h1,h2⟩:=h
  have e1:a.toNat-1=n:=by omega
  have e2:a.toNat=n+1:=by omega
  have e3:b.toNat=k:=by omega
  rw [e1,e2,e3]
  by_cases h3:0≤(choW E (tabN E K n) (n+1) k).s.a
  ·rw [if_pos ⟨by omega,by omega,by omega,by omega,h3⟩,if_pos ⟨h3,h1,h2⟩]
  ·rw [if_neg (fun q=>h3 q.2.2.2.2),if_neg (fun q=>h3 q.1),if_neg (fun q=>h3 q.2.2.2.2)]
 ·rw [if_neg (fun (q:0≤(choW E (tabN E K n) (n+1) k).s.a∧a=(n:Int)+1∧b=(k:Int))=>h q.2)]
  have e:(1≤a∧1≤b∧b≤(K:Int)∧(a≤(n:Int)∨(a=(n:Int)+1∧b < ((k+1:Nat):Int)))∧0≤(choW E (tabN E K (a.toNat-1)) a.toNat b.toNat).s.a)↔(1≤a∧1≤b∧b≤(K:Int)∧(a≤(n:Int)∨(a=(n:Int)+1∧b < (k:Int)))∧0≤(choW E (tabN E K (a.toNat-1)) a.toNat b.toNat).s.a):=by
   constructor
   ·rintro ⟨h1,h2,h3,h4,h5⟩
    exact ⟨h1,h2,h3,by omega,h5⟩
   ·rintro ⟨h1,h2,h3,h4,h5⟩
    exact ⟨h1,h2,h3,by omega,h5⟩
  simp only [e]
theorem strFrom_mem (c:Cyl) (t:Nat):∀ n,∀ s∈strFrom c t n,0≤s.a∧s.a < (n:Int)∧s.b=(t:Int)
 | 0,s,h=>by simp [strFrom] at h
 | n+1,s,h=>by
   unfold strFrom at h
   split at h
   ·rcases List.mem_cons.1 h with h | h
    ·subst h
     exact ⟨by simp,by simp; omega,rfl⟩
    ·have:=strFrom_mem c t n s h
     exact ⟨this.1,by omega,this.2.2⟩
   ·simp at h
theorem allStr_mem (c:Cyl):∀ t,∀ s∈allStr c t,0≤s.a∧s.a≤s.b∧s.b < (t:Int)
 | 0,s,h=>by simp [allStr] at h
 | t+1,s,h=>by
   unfold allStr at h
   rcases List.mem_append.1 h with h | h
   ·have:=allStr_mem c t s h
    omega
   ·have:=strFrom_mem c t (t+1) s h
    omega
theorem endsOf_fit (ws:Nat→Int) (c:Cyl) (T:Nat) (hws:∀ i, -100000≤ws i∧ws i≤100000) (hlen:c.pas.length≤12):Fit (endsOf ws c.pas (allStr c T)) 1200000:=by
 intro i y hy
 unfold endsOf at hy
 obtain ⟨s,hs,rfl⟩:=List.mem_map.1 hy
 obtain ⟨hs1,hs2⟩:=List.mem_filter.1 hs
 have h1:=allStr_mem c T s hs1
 have h2:=sumW_bound ws 100000 (by omega) hws s c.pas 0
 simp at hs2
 show 0≤s.a∧s.a < (i:Int)∧_≤sumW ws s 0 c.pas∧sumW ws s 0 c.pas≤_
 omega
end Go.Proofs.YtjpfjklobnilkaaGreat
namespace Go.Proofs.YtjpfjklobnilkaaGreat
set_option linter.unusedVariables false
def wayGo (V:Nat→Nat→Int) (M:Int→Int→Option Str):Nat→Nat→Nat→List Str
 | 0,_,_=>[]
 | f+1,t,k =>
   if t=0∨(V t 0=0∧V t 1=0∧V t 2=0∧V t 3=0∧V t 4=0∧V t 5=0∧V t 6=0) then []
   else match M t k with
    | none=>wayGo V M f (t-1) k
    | some s=>s::(if s.a=0∧k=1 then [] else wayGo V M f s.a.toNat (k-1))
theorem wayGo_zero (V:Nat→Nat→Int) (M:Int→Int→Option Str) (f k:Nat):wayGo V M f 0 k=[]:=by
 cases f
 ·rfl
 ·unfold wayGo; simp
theorem wayGo_none (V:Nat→Nat→Int) (M:Int→Int→Option Str) (f t k:Nat) (ht:¬ t=0) (hz:¬ (V t 0=0∧V t 1=0∧V t 2=0∧V t 3=0∧V t 4=0∧V t 5=0∧V t 6=0)) (h:M t k=none):wayGo V M (f+1) t k=wayGo V M f (t-1) k:=by
 conv=>lhs; unfold wayGo
 rw [if_neg (fun q=>q.elim ht hz),h]
theorem wayGo_some (V:Nat→Nat→Int) (M:Int→Int→Option Str) (f t k:Nat) (s:Str) (ht:¬ t=0) (hz:¬ (V t 0=0∧V t 1=0∧V t 2=0∧V t 3=0∧V t 4=0∧V t 5=0∧V t 6=0)) (h:M t k=some s):wayGo V M (f+1) t k=s::(if s.a=0∧k=1 then [] else wayGo V M f s.a.toNat (k-1)):=by
 conv=>lhs; unfold wayGo
 rw [if_neg (fun q=>q.elim ht hz),h]
end Go.Proofs.YtjpfjklobnilkaaGreat
namespace Go.Proofs.YtjpfjklobnilkaaGreat
set_option linter.unusedVariables false
def OkS (c:Cyl) (s:Str):Prop:=0≤s.a∧s.a≤s.b∧s.b < c.turns∧s.b-s.a < c.long∧worn c s.a s.b=false
def SeqP (c:Cyl):Int→List Str→Prop
 | _,[]=>True
 | last,s::r=>last < s.a∧OkS c s∧SeqP c s.b r
theorem planGo_iff (c:Cyl):∀ (l:List Str) (last:Int),planGo c last l=0↔SeqP c last l
 | [],last=>by simp [planGo,SeqP]
 | s::r,last=>by
   have ih:=planGo_iff c r s.b
   unfold planGo SeqP OkS
   constructor
   ·intro h
    split at h
    ·omega
    ·rename_i h1
     split at h
     ·omega
     ·split at h
      ·omega
      ·split at h
       ·omega
       ·rename_i h2 h3 h4
        simp only [inR,Bool.and_eq_false_iff,not_or,decide_eq_false_iff_not] at h1
        simp only [Bool.not_eq_true] at h4
        refine ⟨by omega,⟨by omega,by omega,by omega,by omega,h4⟩,ih.1 h⟩
   ·rintro ⟨h1,⟨h2,h3,h4,h5,h6⟩,h7⟩
    rw [if_neg,if_neg (by omega),if_neg (by omega),if_neg (by simp [h6])]
    ·exact ih.2 h7
    ·simp [inR]; omega
def valI (ws:Nat→Int) (i:Nat) (pas:List Pas):List Str→Int
 | []=>0
 | s::r=>sumW ws s i pas+valI ws i pas r
theorem valI_append (ws:Nat→Int) (i:Nat) (pas:List Pas) (q:List Str):∀ p,valI ws i pas (p++q)=valI ws i pas p+valI ws i pas q
 | []=>by simp [valI]
 | s::r=>by simp only [List.cons_append,valI,valI_append ws i pas q r]; omega
theorem valI_reverse (ws:Nat→Int) (i:Nat) (pas:List Pas):∀ p,valI ws i pas p.reverse=valI ws i pas p
 | []=>rfl
 | s::r=>by rw [List.reverse_cons,valI_append,valI_reverse ws i pas r]; simp only [valI]; omega
def savW (ws:Nat→Int) (plan:List Str):Nat→List Pas→Int
 | _,[]=>0
 | i,p::r=>(if saved plan p then ws i else 0)+savW ws plan (i+1) r
theorem seqP_after {c:Cyl}:∀ {p:List Str} {last:Int},SeqP c last p→∀ s∈p,last < s.a∧OkS c s
 | [],last,_,s,hs=>by simp at hs
 | x::r,last,h,s,hs=>by
   obtain ⟨h1,h2,h3⟩:=h
   rcases List.mem_cons.1 hs with rfl | hs
   ·exact ⟨h1,h2⟩
   ·have:=seqP_after h3 s hs
    exact ⟨by have:=h2.2.1; omega,this.2⟩
theorem seqP_snoc {c:Cyl} {s:Str}:∀ {p:List Str} {last:Int},SeqP c last (p++[s])↔SeqP c last p∧OkS c s∧last < s.a∧∀ x∈p,x.b < s.a
 | [],last=>by simp [SeqP]; exact ⟨fun ⟨a,b⟩=>⟨b,a⟩,fun ⟨a,b⟩=>⟨b,a⟩⟩
 | x::r,last=>by
   have ih:=@seqP_snoc c s r x.b
   simp only [List.cons_append,SeqP]
   rw [ih]
   constructor
   ·rintro ⟨h1,h2,h3,h4,h5,h6⟩
    refine ⟨⟨h1,h2,h3⟩,h4,by have:=h2.2.1; omega,fun y hy=>?_⟩
    rcases List.mem_cons.1 hy with rfl | hy
    ·exact h5
    ·exact h6 y hy
   ·rintro ⟨⟨h1,h2,h3⟩,h4,h5,h6⟩
    exact ⟨h1,h2,h3,h4,h6 x (List.mem_cons_self ..),fun y hy=>h6 y (List.mem_cons_of_mem _ hy)⟩
theorem once {c:Cyl} (x:Int) (p:Pas) (hp:p.a≤p.b):∀ {plan:List Str} {last:Int},SeqP c last plan →
  (plan.map fun s=>if hasP s p then x else 0).sum=if saved plan p then x else 0
 | [],last,_=>by simp [saved]
 | s::r,last,h=>by
   obtain ⟨h1,h2,h3⟩:=h
   have ih:=once x p hp h3
   rw [List.map_cons,List.sum_cons,ih]
   have hsv:saved (s::r) p=(hasP s p||saved r p):=rfl
   rw [hsv]
   by_cases hs:hasP s p=true
   ·have hr:saved r p=false:=by
     unfold saved
     rw [List.any_eq_false]
     intro y hy
     have:=(seqP_after h3 y hy).1
     simp only [hasP,Bool.and_eq_true,decide_eq_true_eq] at hs ⊢
     omega
    simp [hs,hr]
   ·simp [hs]
theorem valI_cons (ws:Nat→Int) (i:Nat) (p:Pas) (r:List Pas):∀ plan,valI ws i (p::r) plan=(plan.map fun s=>if hasP s p then ws i else 0).sum+valI ws (i+1) r plan
 | []=>by simp [valI]
 | s::q=>by
   simp only [valI,List.map_cons,List.sum_cons,valI_cons ws i p r q,sumW]
   omega
theorem valI_nil (ws:Nat→Int) (i:Nat):∀ plan,valI ws i [] plan=0
 | []=>rfl
 | s::q=>by simp [valI,sumW,valI_nil ws i q]
theorem savW_eq {c:Cyl} (ws:Nat→Int) {plan:List Str} {last:Int} (h:SeqP c last plan):∀ (pas:List Pas) (i:Nat),(∀ p∈pas,p.a≤p.b)→savW ws plan i pas=valI ws i pas plan
 | [],i,_=>by simp [savW,valI_nil]
 | p::r,i,hp=>by
   rw [valI_cons,once (ws i) p (hp p (List.mem_cons_self ..)) h,savW,savW_eq ws h r (i+1) fun q hq=>hp q (List.mem_cons_of_mem _ hq)]
theorem savesGo_savW (ws:Nat→Int) (plan:List Str):∀ (pas:List Pas) (i:Nat),(∀ j p,pas[j]? = some p→ws (i+j)=p.w)→(savesGo plan i pas).2=savW ws plan i pas
 | [],i,_=>rfl
 | p::r,i,h=>by
   have ih:=savesGo_savW ws plan r (i+1) fun j q hq=>by
    have:=h (j+1) q (by simpa using hq)
    rwa [show i+1+j=i+(j+1) by omega]
   have h0:=h 0 p rfl
   rw [Nat.add_zero] at h0
   simp only [savesGo,savW]
   split
   ·simp [h0,ih]
   ·simp [ih]
def ownW (pas:List Pas) (i:Nat):Int:=((pas[i]?).map (·.w)).getD 0
theorem ownW_get {pas:List Pas} {i:Nat} {p:Pas} (h:pas[i]? = some p):ownW pas i=p.w:=by simp [ownW,h]
theorem saves_worth {c:Cyl} {plan:List Str} {last:Int} (h:SeqP c last plan) (hp:∀ p∈c.pas,p.a≤p.b):(savesGo plan 0 c.pas).2=valI (ownW c.pas) 0 c.pas plan:=by
 rw [savesGo_savW (ownW c.pas) plan c.pas 0 fun j p hj=>by rw [Nat.zero_add]; exact ownW_get hj]
 exact savW_eq _ h _ _ hp
structure IsUp (c:Cyl) (ws:Nat→Int) (T K:Nat) (V:Nat→Nat→Int):Prop where
 zero:0≤V 0 0
 keep:∀ t k,t < T→k≤K→V t k≤V (t+1) k
 more:∀ t k,t≤T→k < K→V t k≤V t (k+1)
 ext:∀ t k s,t < T→k < K→OkS c s→s.b=(t:Int)→V s.a.toNat k+sumW ws s 0 c.pas≤V (t+1) (k+1)
theorem IsUp.nonneg {c:Cyl} {ws:Nat→Int} {T K:Nat} {V:Nat→Nat→Int} (h:IsUp c ws T K V):∀ t k,t≤T→k≤K→0≤V t k
 | 0,0,_,_=>h.zero
 | 0,k+1,_,hk=>Int.le_trans (h.nonneg 0 k (by omega) (by omega)) (h.more 0 k (by omega) (by omega))
 | t+1,k,ht,hk=>Int.le_trans (h.nonneg t k (by omega) hk) (h.keep t k (by omega) hk)
theorem IsUp.upper {c:Cyl} {ws:Nat→Int} {T K:Nat} {V:Nat→Nat→Int} (h:IsUp c ws T K V):∀ (n t k:Nat) (p:List Str),t≤n→t≤T→k≤K→SeqP c (-1) p→(∀ s∈p,s.b < (t:Int))→p.length≤k→valI ws 0 c.pas p≤V t k:=by
 intro n
 induction n with
 | zero =>
   intro t k p hn ht hk hp hb hl
   cases p with
   | nil=>exact h.nonneg t k ht hk
   | cons s r =>
     have h1:=hb s (List.mem_cons_self ..)
     have h2:=hp.2.1
     unfold OkS at h2
     omega
 | succ n ih =>
   intro t k p hn ht hk hp hb hl
   rcases List.eq_nil_or_concat p with rfl | ⟨q,s,rfl⟩
   ·exact h.nonneg t k ht hk
   ·rw [List.concat_eq_append] at hp hb hl ⊢
    obtain ⟨h1,h2,h3,h4⟩:=seqP_snoc.1 hp
    have hs:=hb s (by simp)
    have hok:=h2
    unfold OkS at hok
    by_cases hst:s.b+1=(t:Int)
    ·rw [List.length_append] at hl
     simp only [List.length_cons,List.length_nil] at hl
     obtain ⟨t',rfl⟩:∃ t',t=t'+1:=⟨t-1,by omega⟩
     obtain ⟨k',rfl⟩:∃ k',k=k'+1:=⟨k-1,by omega⟩
     have i1:=ih s.a.toNat k' q (by omega) (by omega) (by omega) h1 (fun x hx=>by have:=h4 x hx; omega) (by omega)
     have i2:=h.ext t' k' s (by omega) (by omega) h2 (by omega)
     rw [valI_append]
     simp only [valI]
     omega
    ·obtain ⟨t',rfl⟩:∃ t',t=t'+1:=⟨t-1,by omega⟩
     have i1:=ih t' k (q++[s]) (by omega) (by omega) hk hp (fun x hx=>by
      rcases List.mem_append.1 hx with hx | hx
      ·have:=h4 x hx; omega
      ·simp at hx; subst hx; omega) hl
     have:=h.keep t' k (by omega) hk
     omega
structure IsTab (c:Cyl) (ws:Nat→Int) (T K:Nat) (V:Nat→Nat→Int):Prop where
 zero:∀ k,k≤K→V 0 k=0
 none_:∀ t,t≤T→V t 0=0
 keep:∀ t k,t < T→k < K→V t (k+1)≤V (t+1) (k+1)
 ext:∀ t k s,t < T→k < K→OkS c s→s.b=(t:Int)→V s.a.toNat k+sumW ws s 0 c.pas≤V (t+1) (k+1)
 att:∀ t k,t < T→k < K→V (t+1) (k+1)=V t (k+1)∨∃ s,OkS c s∧s.b=(t:Int)∧V (t+1) (k+1)=V s.a.toNat k+sumW ws s 0 c.pas
theorem IsTab.up {c:Cyl} {ws:Nat→Int} {T K:Nat} {V:Nat→Nat→Int} (h:IsTab c ws T K V):IsUp c ws T K V:=by
 have hkeep:∀ t k,t < T→k≤K→V t k≤V (t+1) k:=by
  intro t k ht hk
  cases k with
  | zero=>rw [h.none_ t (by omega),h.none_ (t+1) (by omega)]; omega
  | succ k=>exact h.keep t k ht (by omega)
 have h0:∀ t,t≤T→∀ k,k≤K→0≤V t k:=by
  intro t
  induction t with
  | zero=>intro _ k hk; rw [h.zero k hk]; omega
  | succ t ih=>intro ht k hk; exact Int.le_trans (ih (by omega) k hk) (hkeep t k (by omega) hk)
 refine ⟨by rw [h.none_ 0 (by omega)]; omega,hkeep,?_,h.ext⟩
 have:∀ n t,t≤n→t≤T→∀ k,k < K→V t k≤V t (k+1):=by
  intro n
  induction n with
  | zero =>
    intro t hn ht k hk
    obtain rfl:t=0:=by omega
    rw [h.zero k (by omega),h.zero (k+1) (by omega)]; omega
  | succ n ih =>
    intro t hn ht k hk
    cases k with
    | zero=>rw [h.none_ t ht]; exact h0 t ht 1 (by omega)
    | succ k =>
      cases t with
      | zero=>rw [h.zero (k+1) (by omega),h.zero (k+2) (by omega)]; omega
      | succ t =>
        rcases h.att t k (by omega) (by omega) with e | ⟨s,hs,hb,e⟩
        ·rw [e]
         exact Int.le_trans (ih t (by omega) (by omega) (k+1) (by omega)) (h.keep t (k+1) (by omega) (by omega))
        ·rw [e]
         have h1:=h.ext t (k+1) s (by omega) (by omega) hs hb
         have h2:=ih s.a.toNat (by unfold OkS at hs; omega) (by unfold OkS at hs; omega) k (by omega)
         omega
 exact fun t k ht hk=>this t t (Nat.le_refl _) ht k hk
theorem IsTab.attained {c:Cyl} {ws:Nat→Int} {T K:Nat} {V:Nat→Nat→Int} (h:IsTab c ws T K V):∀ (n t k:Nat),t≤n→t≤T→k≤K→∃ p,SeqP c (-1) p∧(∀ s∈p,s.b < (t:Int))∧p.length≤k∧valI ws 0 c.pas p=V t k:=by
 intro n
 induction n with
 | zero =>
   intro t k hn ht hk
   obtain rfl:t=0:=by omega
   exact ⟨[],trivial,by simp,by simp,by rw [h.zero k hk]; rfl⟩
 | succ n ih =>
   intro t k hn ht hk
   cases t with
   | zero=>exact ih 0 k (by omega) ht hk
   | succ t =>
     cases k with
     | zero=>exact ⟨[],trivial,by simp,by simp,by rw [h.none_ (t+1) ht]; rfl⟩
     | succ k =>
       rcases h.att t k (by omega) (by omega) with e | ⟨s,hs,hb,e⟩
       ·obtain ⟨p,h1,h2,h3,h4⟩:=ih t (k+1) (by omega) (by omega) hk
        exact ⟨p,h1,fun x hx=>by have:=h2 x hx; omega,h3,by rw [h4,e]⟩
       ·have hs':=hs
        unfold OkS at hs'
        obtain ⟨p,h1,h2,h3,h4⟩:=ih s.a.toNat k (by omega) (by omega) (by omega)
        refine ⟨p++[s],seqP_snoc.2 ⟨h1,hs,by omega,fun x hx=>by have:=h2 x hx; omega⟩,fun x hx=>?_,by simp; omega,?_⟩
        ·rcases List.mem_append.1 hx with hx | hx
         ·have:=h2 x hx; omega
         ·simp at hx; subst hx; omega
        ·rw [valI_append,h4,e]; simp only [valI]; omega
def IsPlan (c:Cyl) (k:Nat) (p:List Str):Prop:=SeqP c (-1) p∧p.length≤k
theorem seqP_turns {c:Cyl} {p:List Str} {last:Int} (h:SeqP c last p):∀ s∈p,s.b < c.turns:=fun s hs=>(seqP_after h s hs).2.2.2.1
def IsMost (c:Cyl) (ws:Nat→Int) (k:Nat) (x:Int):Prop:=(∀ p,IsPlan c k p→valI ws 0 c.pas p≤x)∧∃ p,IsPlan c k p∧valI ws 0 c.pas p=x
theorem IsTab.most {c:Cyl} {ws:Nat→Int} {T K:Nat} {V:Nat→Nat→Int} (h:IsTab c ws T K V) (hT:c.turns=(T:Int)) {k:Nat} (hk:k≤K):IsMost c ws k (V T k):=by
 refine ⟨fun p hp=>h.up.upper T T k p (Nat.le_refl _) (Nat.le_refl _) hk hp.1 (fun s hs=>by have:=seqP_turns hp.1 s hs; omega) hp.2,?_⟩
 obtain ⟨p,h1,h2,h3,h4⟩:=h.attained T T k (Nat.le_refl _) (Nat.le_refl _) hk
 exact ⟨p,⟨h1,h3⟩,h4⟩
theorem IsUp.most {c:Cyl} {ws:Nat→Int} {T K:Nat} {V:Nat→Nat→Int} (h:IsUp c ws T K V) (hT:c.turns=(T:Int)) {k:Nat} (hk:k≤K) {p:List Str} (hp:IsPlan c k p):valI ws 0 c.pas p≤V T k :=
 h.upper T T k p (Nat.le_refl _) (Nat.le_refl _) hk hp.1 (fun s hs=>by have:=seqP_turns hp.1 s hs; omega) hp.2
/- what fill fills is such a table -/
theorem strFrom_iff (c:Cyl) (t:Nat) (s:Str):∀ n,s∈strFrom c t n↔s.b=(t:Int)∧0≤s.a∧s.a < (n:Int)∧∀ x:Int,s.a≤x→x < (n:Int)→(t:Int)-x < c.long∧c.frag.any (fun y=>x==y)=false
 | 0=>by
   simp only [strFrom,List.not_mem_nil,false_iff]
   intro h
   omega
 | n+1=>by
   have ih:=strFrom_iff c t s n
   unfold strFrom
   by_cases h:(decide ((t:Int)-n < c.long)&&!(c.frag.any fun x=>(n:Int)==x))=true
   ·rw [if_pos h]
    simp only [Bool.and_eq_true,decide_eq_true_eq,Bool.not_eq_true'] at h
    rw [List.mem_cons,ih]
    constructor
    ·rintro (rfl | ⟨h1,h2,h3,h4⟩)
     ·refine ⟨rfl,by simp,by simp; omega,fun x hx hx2=>?_⟩
      simp at hx
      obtain rfl:x=(n:Int):=by omega
      exact h
     ·refine ⟨h1,h2,by omega,fun x hx hx2=>?_⟩
      by_cases hxn:x=(n:Int)
      ·subst hxn; exact h
      ·exact h4 x hx (by omega)
    ·rintro ⟨h1,h2,h3,h4⟩
     by_cases hs:s.a=(n:Int)
     ·left
      obtain ⟨a,b⟩:=s
      simp at h1 hs
      rw [h1,hs]
     ·exact .inr ⟨h1,h2,by omega,fun x hx hx2=>h4 x hx (by omega)⟩
   ·rw [if_neg h]
    simp only [List.not_mem_nil,false_iff]
    rintro ⟨h1,h2,h3,h4⟩
    have:=h4 (n:Int) (by omega) (by omega)
    apply h
    simp only [Bool.and_eq_true,decide_eq_true_eq,Bool.not_eq_true']
    exact this
theorem okS_strFrom (c:Cyl) (t:Nat) (ht:(t:Int) < c.turns) (s:Str):s∈strFrom c t (t+1)↔OkS c s∧s.b=(t:Int):=by
 rw [strFrom_iff]
 unfold OkS
 constructor
 ·rintro ⟨h1,h2,h3,h4⟩
  refine ⟨⟨h2,by omega,by omega,by have:=(h4 s.a (by omega) (by omega)).1; omega,?_⟩,h1⟩
  unfold worn
  rw [List.any_eq_false]
  intro f hf hh
  simp only [Bool.and_eq_true,decide_eq_true_eq] at hh
  have h5:=(h4 f hh.1 (by omega)).2
  rw [List.any_eq_false] at h5
  exact h5 f hf (by simp)
 ·rintro ⟨⟨h1,h2,h3,h4,h5⟩,h6⟩
  refine ⟨h6,h1,by omega,fun x hx hx2=>⟨by omega,?_⟩⟩
  rw [List.any_eq_false]
  intro f hf hh
  simp only [beq_iff_eq] at hh
  subst hh
  unfold worn at h5
  rw [List.any_eq_false] at h5
  exact h5 x hf (by simp; omega)
theorem okS_allStr (c:Cyl) (s:Str):∀ T:Nat,(T:Int)≤c.turns→(s∈allStr c T↔OkS c s∧s.b < (T:Int))
 | 0,_=>by
   simp only [allStr,List.not_mem_nil,false_iff]
   rintro ⟨h,h2⟩
   unfold OkS at h
   omega
 | T+1,h=>by
   unfold allStr
   rw [List.mem_append,okS_allStr c s T (by omega),okS_strFrom c T (by omega) s]
   constructor
   ·rintro (⟨h1,h2⟩ | ⟨h1,h2⟩)
    ·exact ⟨h1,by omega⟩
    ·exact ⟨h1,by omega⟩
   ·rintro ⟨h1,h2⟩
    by_cases hb:s.b=(T:Int)
    ·exact .inr ⟨h1,hb⟩
    ·exact .inl ⟨h1,by omega⟩
theorem foldl_greater_ge:∀ (r:List Cho) (y:Cho),y.x≤(r.foldl greater y).x∧∀ z∈r,z.x≤(r.foldl greater y).x
 | [],y=>⟨Int.le_refl _,by simp⟩
 | z::r,y=>by
   rw [List.foldl_cons]
   have ih:=foldl_greater_ge r (greater y z)
   have h1:y.x≤(greater y z).x∧z.x≤(greater y z).x:=by
    unfold greater
    split <;> omega
   refine ⟨by omega,fun q hq=>?_⟩
   rcases List.mem_cons.1 hq with rfl | hq
   ·omega
   ·exact ih.2 q hq
theorem pick_ge (y:Cho) (r:List Cho):∀ z∈y::r,z.x≤(pick (y::r)).x:=by
 intro z hz
 have h:=foldl_greater_ge r y
 show _≤(r.foldl greater y).x
 rcases List.mem_cons.1 hz with rfl | hz
 ·exact h.1
 ·exact h.2 z hz
theorem tabN_row (E:Nat→List Cho) (K n j:Nat) (hj:1≤j) (hK:j≤K):tabN E K (n+1) (n+1) j=(choW E (tabN E K n) (n+1) j).x:=by
 conv=>lhs; unfold tabN
 rw [if_pos rfl,if_pos ⟨hj,hK⟩]
theorem endsOf_mem (ws:Nat→Int) (c:Cyl) (T:Nat) (hT:c.turns=(T:Int)) (i:Nat) (y:Cho):y∈endsOf ws c.pas (allStr c T) i↔OkS c y.s∧y.s.b+1=(i:Int)∧y.x=sumW ws y.s 0 c.pas:=by
 unfold endsOf
 rw [List.mem_map]
 constructor
 ·rintro ⟨s,hs,rfl⟩
  obtain ⟨h1,h2⟩:=List.mem_filter.1 hs
  exact ⟨((okS_allStr c s T (by omega)).1 h1).1,by simpa using h2,rfl⟩
 ·rintro ⟨h1,h2,h3⟩
  refine ⟨y.s,List.mem_filter.2 ⟨(okS_allStr c y.s T (by omega)).2 ⟨h1,by have:=h1.2.2.1; omega⟩,by simpa using h2⟩,?_⟩
  obtain ⟨s,x⟩:=y
  simp at h3
  rw [h3]
theorem tabN_zero (E:Nat→List Cho) (K:Nat):∀ n t,tabN E K n t 0=0
 | 0,t=>rfl
 | n+1,t=>by
   unfold tabN
   split
   ·rw [if_neg (by omega)]; exact tabN_zero E K n n
   ·exact tabN_zero E K n t
theorem tabN_isTab (ws:Nat→Int) (c:Cyl) (T K:Nat) (hT:c.turns=(T:Int)):IsTab c ws T K (tabN (endsOf ws c.pas (allStr c T)) K T):=by
 obtain ⟨E,hE⟩:∃ E,E=endsOf ws c.pas (allStr c T):=⟨_,rfl⟩
 rw [← hE]
 have hmem:∀ i y,y∈E i↔OkS c y.s∧y.s.b+1=(i:Int)∧y.x=sumW ws y.s 0 c.pas:=fun i y=>by rw [hE]; exact endsOf_mem ws c T hT i y
 have hrow:∀ t k,t < T→k < K→tabN E K T (t+1) (k+1)=(choW E (tabN E K t) (t+1) (k+1)).x:=by
  intro t k ht hk
  rw [tabN_eq E K (t+1) T (k+1) (by omega),tabN_row E K t (k+1) (by omega) (by omega)]
 have hlow:∀ t n k,t≤n→n≤T→tabN E K n t k=tabN E K T t k:=by
  intro t n k h1 h2
  rw [tabN_eq E K t n k h1,tabN_eq E K t T k (by omega)]
 refine ⟨fun k hk=>?_,fun t ht=>tabN_zero E K T t,fun t k ht hk=>?_,fun t k s ht hk hs hb=>?_,fun t k ht hk=>?_⟩
 ·rw [tabN_eq E K 0 T k (by omega)]; rfl
 ·rw [hrow t k ht hk]
  have:=pick_ge _ ((E (t+1)).map fun y=>⟨y.s,y.x+tabN E K t y.s.a.toNat (k+1-1)⟩) ⟨⟨-1,0⟩,tabN E K t (t+1-1) (k+1)⟩ (List.mem_cons_self ..)
  rw [← hlow t t (k+1) (Nat.le_refl _) (by omega)]
  exact this
 ·rw [hrow t k ht hk]
  have hy:(⟨s,sumW ws s 0 c.pas⟩:Cho)∈E (t+1):=(hmem _ _).2 ⟨hs,by simp; omega,rfl⟩
  have:=pick_ge ⟨⟨-1,0⟩,tabN E K t (t+1-1) (k+1)⟩ ((E (t+1)).map fun y=>⟨y.s,y.x+tabN E K t y.s.a.toNat (k+1-1)⟩) ⟨s,sumW ws s 0 c.pas+tabN E K t s.a.toNat k⟩ (List.mem_cons_of_mem _ (List.mem_map.2 ⟨_,hy,rfl⟩))
  have hs':=hs
  unfold OkS at hs'
  rw [hlow s.a.toNat t k (by omega) (by omega)] at this
  have h2:sumW ws s 0 c.pas+tabN E K T s.a.toNat k≤(choW E (tabN E K t) (t+1) (k+1)).x:=this
  omega
 ·rw [hrow t k ht hk]
  have hm:=pick_mem ⟨⟨-1,0⟩,tabN E K t (t+1-1) (k+1)⟩ ((E (t+1)).map fun y=>⟨y.s,y.x+tabN E K t y.s.a.toNat (k+1-1)⟩)
  have hm:choW E (tabN E K t) (t+1) (k+1)∈_:=hm
  rcases List.mem_cons.1 hm with h | h
  ·left
   rw [h]
   exact hlow t t (k+1) (Nat.le_refl _) (by omega)
  ·right
   obtain ⟨y,hy,h2⟩:=List.mem_map.1 h
   obtain ⟨h3,h4,h5⟩:=(hmem _ _).1 hy
   refine ⟨y.s,h3,by omega,?_⟩
   rw [← h2]
   show y.x+tabN E K t y.s.a.toNat (k+1-1)=_
   have h3':=h3
   unfold OkS at h3'
   rw [show k+1-1=k by omega,hlow y.s.a.toNat t k (by omega) (by omega),h5]
   omega
end Go.Proofs.YtjpfjklobnilkaaGreat
namespace Go.Proofs.YtjpfjklobnilkaaGreat
set_option linter.unusedVariables false
def tT (c:Cyl):Nat:=c.turns.toNat
def tK (c:Cyl):Nat:=c.plays.toNat
def endC (c:Cyl) (ws:Nat→Int):Nat→List Cho:=endsOf ws c.pas (allStr c (tT c))
def tabC (c:Cyl) (ws:Nat→Int):Nat→Nat→Int:=tabN (endC c ws) (tK c) (tT c)
def byC (c:Cyl) (ws:Nat→Int) (a b:Int):Option Str:=byN (endC c ws) (tK c) (tT c) 1 a b
def rowL (V:Nat→Nat→Int) (K t:Nat):List Int:=(List.range (K+1)).map (V t)
def worthsOf (c:Cyl):List Int:=if checkCyl c=0 then rowL (tabC c (ownW c.pas)) (tK c) (tT c) else []
def mostOf (c:Cyl):Int:=tabC c (ownW c.pas) (tT c) (tK c)
def wayOf (c:Cyl):List Str:=(wayGo (tabC c (ownW c.pas)) (byC c (ownW c.pas)) (tT c) (tT c) (tK c)).reverse
def bestOf (c:Cyl):List Str×Int×Int:=if checkCyl c=0 then (wayOf c,mostOf c,0) else ([],0,checkCyl c)
def firstGe (x:Int) (l:List Int):Int:=idxOf (fun n=>decide (x≤n)) 0 l
def fewestOf (c:Cyl) (x:Int):Int×Int :=
 if checkCyl c≠0 then (0,checkCyl c) else if x < 0 then (0,3) else if firstGe x (worthsOf c) < 0 then (0,13) else (firstGe x (worthsOf c),0)
theorem rowL_length (V:Nat→Nat→Int) (K t:Nat):(rowL V K t).length=K+1:=by simp [rowL]
theorem rowL_get (V:Nat→Nat→Int) (K t j:Nat) (h:j≤K):(rowL V K t)[j]? = some (V t j):=by
 unfold rowL
 rw [List.getElem?_map,List.getElem?_range (by omega)]
 rfl
theorem pas_fit {c:Cyl} (h:c.pas.all (pasOk c.turns)=true):∀ p∈c.pas,0≤p.a∧p.a≤p.b∧p.b < c.turns∧0≤p.w∧p.w≤1000:=by
 intro p hp
 have:=List.all_eq_true.1 h p hp
 simp only [pasOk,Bool.and_eq_true,decide_eq_true_eq] at this
 omega
theorem ownW_bound {c:Cyl} (h:c.pas.all (pasOk c.turns)=true) (i:Nat):0≤ownW c.pas i∧ownW c.pas i≤1000:=by
 unfold ownW
 cases hp:c.pas[i]? with
 | none=>simp
 | some p =>
   have:=pas_fit h p (List.mem_of_getElem? hp)
   simp
   omega
theorem wayGo_spec (c:Cyl) (ws:Nat→Int) (T K:Nat) (hT:c.turns=(T:Int)) (hK6:K≤6):∀ (f t k:Nat),t≤f→t≤T→k≤K →
  SeqP c (-1) (wayGo (tabN (endsOf ws c.pas (allStr c T)) K T) (byN (endsOf ws c.pas (allStr c T)) K T 1) f t k).reverse ∧
  (∀ s∈wayGo (tabN (endsOf ws c.pas (allStr c T)) K T) (byN (endsOf ws c.pas (allStr c T)) K T 1) f t k,s.b < (t:Int)) ∧
  (wayGo (tabN (endsOf ws c.pas (allStr c T)) K T) (byN (endsOf ws c.pas (allStr c T)) K T 1) f t k).length≤k ∧
  valI ws 0 c.pas (wayGo (tabN (endsOf ws c.pas (allStr c T)) K T) (byN (endsOf ws c.pas (allStr c T)) K T 1) f t k)=tabN (endsOf ws c.pas (allStr c T)) K T t k:=by
 have htab:=tabN_isTab ws c T K hT
 obtain ⟨E,hE⟩:∃ E,E=endsOf ws c.pas (allStr c T):=⟨_,rfl⟩
 rw [← hE] at htab ⊢
 have hmem:∀ i y,y∈E i↔OkS c y.s∧y.s.b+1=(i:Int)∧y.x=sumW ws y.s 0 c.pas:=fun i y=>by rw [hE]; exact endsOf_mem ws c T hT i y
 have hlow:∀ t n k,t≤n→n≤T→tabN E K n t k=tabN E K T t k:=by
  intro t n k h1 h2
  rw [tabN_eq E K t n k h1,tabN_eq E K t T k (by omega)]
 intro f
 induction f with
 | zero =>
   intro t k hf ht hk
   obtain rfl:t=0:=by omega
   exact ⟨trivial,by simp [wayGo],by simp [wayGo],by rw [htab.zero k hk]; rfl⟩
 | succ f ih =>
   intro t k hf ht hk
   by_cases hstop:t=0∨(tabN E K T t 0=0∧tabN E K T t 1=0∧tabN E K T t 2=0∧tabN E K T t 3=0∧tabN E K T t 4=0∧tabN E K T t 5=0∧tabN E K T t 6=0)
   ·have hw:wayGo (tabN E K T) (byN E K T 1) (f+1) t k=[]:=by unfold wayGo; rw [if_pos hstop]
    rw [hw]
    refine ⟨trivial,by simp,by simp,?_⟩
    show 0=_
    rcases hstop with rfl | ⟨h0,h1,h2,h3,h4,h5,h6⟩
    ·rw [htab.zero k hk]
    ·have:k=0∨k=1∨k=2∨k=3∨k=4∨k=5∨k=6:=by omega
     rcases this with rfl | rfl | rfl | rfl | rfl | rfl | rfl <;> (symm; assumption)
   ·have ht0:¬ t=0:=fun h=>hstop (.inl h)
    have hz:=fun h=>hstop (.inr h)
    obtain ⟨t,rfl⟩:∃ t',t=t'+1:=⟨t-1,by omega⟩
    have hsub:(((t+1:Nat):Int)).toNat-1=t:=by omega
    have hton:(((t+1:Nat):Int)).toNat=t+1:=by omega
    have hkn:((k:Int)).toNat=k:=by omega
    cases hM:byN E K T 1 ((t+1:Nat):Int) (k:Int) with
    | none =>
      rw [wayGo_none _ _ _ _ _ ht0 hz hM,Nat.add_sub_cancel]
      obtain ⟨i1,i2,i3,i4⟩:=ih t k (by omega) (by omega) hk
      refine ⟨i1,fun s hs=>by have:=i2 s hs; omega,i3,?_⟩
      rw [i4]
      cases k with
      | zero=>rw [tabN_zero,tabN_zero]
      | succ k =>
        unfold byN at hM
        rw [hsub,hton,hkn] at hM
        split at hM
        ·cases hM
        ·rename_i hn
         have hc:¬ 0≤(choW E (tabN E K t) (t+1) (k+1)).s.a:=fun h=>hn ⟨by omega,by omega,by omega,by omega,h⟩
         rw [tabN_eq E K (t+1) T (k+1) (by omega),tabN_row E K t (k+1) (by omega) (by omega)]
         have hm:=pick_mem ⟨⟨-1,0⟩,tabN E K t (t+1-1) (k+1)⟩ ((E (t+1)).map fun y=>⟨y.s,y.x+tabN E K t y.s.a.toNat (k+1-1)⟩)
         have hm:choW E (tabN E K t) (t+1) (k+1)∈_:=hm
         rcases List.mem_cons.1 hm with h | h
         ·rw [h]; exact (hlow t t (k+1) (Nat.le_refl _) (by omega)).symm
         ·obtain ⟨y,hy,h2⟩:=List.mem_map.1 h
          have h3:=((hmem _ _).1 hy).1
          unfold OkS at h3
          exfalso
          apply hc
          rw [← h2]
          exact h3.1
    | some s =>
      rw [wayGo_some _ _ _ _ _ s ht0 hz hM]
      unfold byN at hM
      rw [hsub,hton,hkn] at hM
      split at hM
      case isFalse=>cases hM
      rename_i hn
      obtain ⟨_,hk1,hkK,_,hc⟩:=hn
      injection hM with hM
      obtain ⟨k,rfl⟩:∃ k',k=k'+1:=⟨k-1,by omega⟩
      have hm:=pick_mem ⟨⟨-1,0⟩,tabN E K t (t+1-1) (k+1)⟩ ((E (t+1)).map fun y=>⟨y.s,y.x+tabN E K t y.s.a.toNat (k+1-1)⟩)
      have hm:choW E (tabN E K t) (t+1) (k+1)∈_:=hm
      have hrow:=tabN_row E K t (k+1) (by omega) (by omega)
      rcases List.mem_cons.1 hm with h | h
      ·exfalso
       rw [h] at hc
       simp at hc
      ·obtain ⟨y,hy,h2⟩:=List.mem_map.1 h
       obtain ⟨h3,h4,h5⟩:=(hmem _ _).1 hy
       have hys:y.s=s:=by rw [← hM,← h2]
       rw [hys] at h3 h4 h5
       have h3':=h3
       unfold OkS at h3'
       have hval:tabN E K T (t+1) (k+1)=sumW ws s 0 c.pas+tabN E K T s.a.toNat k:=by
        rw [tabN_eq E K (t+1) T (k+1) (by omega),hrow,← h2]
        show y.x+tabN E K t y.s.a.toNat (k+1-1)=_
        rw [h5,hys,show k+1-1=k by omega,hlow s.a.toNat t k (by omega) (by omega)]
       rw [Nat.add_sub_cancel]
       by_cases hq:s.a=0∧k+1=1
       ·rw [if_pos hq,hval]
        obtain rfl:k=0:=by omega
        refine ⟨⟨by omega,h3,trivial⟩,fun x hx=>by simp at hx; subst hx; omega,by simp,?_⟩
        rw [tabN_zero]
        simp [valI]
       ·rw [if_neg hq,hval]
        obtain ⟨i1,i2,i3,i4⟩:=ih s.a.toNat k (by omega) (by omega) (by omega)
        refine ⟨?_,fun x hx=>?_,by simp; omega,by simp only [valI,i4]⟩
        ·rw [List.reverse_cons]
         exact seqP_snoc.2 ⟨i1,h3,by omega,fun x hx=>by have:=i2 x (List.mem_reverse.1 hx); omega⟩
        ·rcases List.mem_cons.1 hx with rfl | hx
         ·omega
         ·have:=i2 x hx; omega
theorem cyl_nat {c:Cyl} (h:checkCyl c=0):c.turns=(tT c:Int)∧c.plays=(tK c:Int)∧1≤tT c∧tT c≤30∧tK c≤6∧1≤c.long∧c.long≤c.turns:=by
 unfold checkCyl at h
 split at h
 ·omega
 ·rename_i h1
  simp only [argOk,Bool.not_eq_false,Bool.and_eq_true,decide_eq_true_eq] at h1
  unfold tT tK
  omega
theorem tabC_isTab (c:Cyl) (ws:Nat→Int) (h:checkCyl c=0):IsTab c ws (tT c) (tK c) (tabC c ws):=tabN_isTab ws c (tT c) (tK c) (cyl_nat h).1
theorem wayOf_spec {c:Cyl} (h:checkCyl c=0):IsPlan c (tK c) (wayOf c)∧valI (ownW c.pas) 0 c.pas (wayOf c)=mostOf c:=by
 obtain ⟨h1,h2,h3,h4,h5,h6⟩:=cyl_nat h
 obtain ⟨i1,i2,i3,i4⟩:=wayGo_spec c (ownW c.pas) (tT c) (tK c) h1 h5 (tT c) (tT c) (tK c) (Nat.le_refl _) (Nat.le_refl _) (Nat.le_refl _)
 exact ⟨⟨i1,by unfold wayOf; rw [List.length_reverse]; exact i3⟩,by unfold wayOf; rw [valI_reverse]; exact i4⟩
end Go.Proofs.YtjpfjklobnilkaaGreat
namespace Go.Proofs.YtjpfjklobnilkaaGreat
set_option linter.unusedVariables false
def step1 (V:Nat→Nat→Int) (t k:Nat):Bool:=(decide (t=0)||decide (V (t-1) k≤V t k))&&(decide (k=0)||decide (V t (k-1)≤V t k))
def rowOk (V:Nat→Nat→Int) (K t:Nat):Bool:=(List.range (K+1)).all fun k=>step1 V t k
end Go.Proofs.YtjpfjklobnilkaaGreat
namespace Go.Proofs.YtjpfjklobnilkaaGreat
set_option linter.unusedVariables false
theorem pasOk_of {c:Cyl} (h:checkCyl c=0):c.pas.all (pasOk c.turns)=true:=by
 unfold checkCyl at h
 split at h
 ·omega
 ·split at h
  ·omega
  ·split at h
   ·omega
   ·split at h
    ·omega
    ·rename_i h4
     simpa using h4
theorem pas_le {c:Cyl} (h:checkCyl c=0):∀ p∈c.pas,p.a≤p.b:=fun p hp=>(pas_fit (pasOk_of h) p hp).2.1
theorem checkPlan_iff {c:Cyl} (h:checkCyl c=0) (q:List Str):checkPlan c q=0↔IsPlan c (tK c) q:=by
 have hk:=(cyl_nat h).2.1
 unfold checkPlan IsPlan
 rw [if_neg (by omega)]
 by_cases hl:c.plays < q.length
 ·rw [if_pos hl]
  constructor
  ·intro h; omega
  ·rintro ⟨_,h2⟩; omega
 ·rw [if_neg hl,planGo_iff]
  constructor
  ·intro h; exact ⟨h,by omega⟩
  ·rintro ⟨h1,_⟩; exact h1
def worthP (c:Cyl) (q:List Str):Int:=(savesGo q 0 c.pas).2
theorem worth_valI {c:Cyl} (h:checkCyl c=0) {q:List Str} {k:Nat} (hq:IsPlan c k q):worthP c q=valI (ownW c.pas) 0 c.pas q:=saves_worth hq.1 (pas_le h)
def mostK (c:Cyl) (k:Nat):Int:=tabC c (ownW c.pas) (tT c) k
theorem mostK_isMost {c:Cyl} (h:checkCyl c=0) {k:Nat} (hk:k≤tK c):IsMost c (ownW c.pas) k (mostK c k):=(tabC_isTab c _ h).most (cyl_nat h).1 hk
theorem mostK_ge {c:Cyl} (h:checkCyl c=0) {k:Nat} (hk:k≤tK c) {q:List Str} (hq:IsPlan c k q):worthP c q≤mostK c k:=by
 rw [worth_valI h hq]; exact (mostK_isMost h hk).1 q hq
theorem mostK_got {c:Cyl} (h:checkCyl c=0) {k:Nat} (hk:k≤tK c):∃ q,IsPlan c k q∧worthP c q=mostK c k:=by
 obtain ⟨q,hq,e⟩:=(mostK_isMost h hk).2
 exact ⟨q,hq,(worth_valI h hq).trans e⟩
theorem worthsOf_eq {c:Cyl} (h:checkCyl c=0):worthsOf c=(List.range (tK c+1)).map (mostK c):=by
 unfold worthsOf
 rw [if_pos h]
 rfl
theorem worthsOf_len {c:Cyl} (h:checkCyl c=0):(worthsOf c).length=tK c+1:=by rw [worthsOf_eq h]; simp
theorem worthsOf_get {c:Cyl} (h:checkCyl c=0) {k:Nat} (hk:k≤tK c):(worthsOf c)[k]? = some (mostK c k):=by
 rw [worthsOf_eq h,List.getElem?_map,List.getElem?_range (by omega)]
 rfl
theorem mostOf_eq (c:Cyl):mostOf c=mostK c (tK c):=rfl
theorem isPlan_le {c:Cyl} {k l:Nat} {q:List Str} (h:IsPlan c k q) (hl:k≤l):IsPlan c l q:=⟨h.1,Nat.le_trans h.2 hl⟩
theorem mostK_mono {c:Cyl} (h:checkCyl c=0) {k l:Nat} (hk:k≤l) (hl:l≤tK c):mostK c k≤mostK c l:=by
 obtain ⟨q,hq,e⟩:=mostK_got h (Nat.le_trans hk hl)
 rw [← e]
 exact mostK_ge h hl (isPlan_le hq hk)
theorem way_isPlan {c:Cyl} (h:checkCyl c=0):IsPlan c (tK c) (wayOf c):=(wayOf_spec h).1
theorem way_worth {c:Cyl} (h:checkCyl c=0):worthP c (wayOf c)=mostOf c:=(worth_valI h (way_isPlan h)).trans (wayOf_spec h).2
theorem best_ok_eq {c:Cyl} (h:checkCyl c=0):bestOf c=(wayOf c,mostOf c,0):=by unfold bestOf; rw [if_pos h]
theorem idxOf_cases {α:Type} (p:α→Bool):∀ (l:List α) (i:Nat),(idxOf p i l < 0∧∀ x∈l,p x=false)∨∃ k x,l[k]? = some x∧p x=true∧idxOf p i l=((i+k:Nat):Int)∧∀ j y,j < k→l[j]? = some y→p y=false
 | [],i => .inl ⟨by simp [idxOf],by simp⟩
 | x::r,i=>by
   by_cases h:p x=true
   ·exact .inr ⟨0,x,rfl,h,by simp [idxOf,h],fun j y hj=>absurd hj (by omega)⟩
   ·have h':p x=false:=by simpa using h
    have e:idxOf p i (x::r)=idxOf p (i+1) r:=by simp [idxOf,h']
    rcases idxOf_cases p r (i+1) with ⟨h1,h2⟩ | ⟨k,y,h1,h2,h3,h4⟩
    ·refine .inl ⟨by rw [e]; exact h1,fun y hy=>?_⟩
     rcases List.mem_cons.1 hy with rfl | hy
     ·exact h'
     ·exact h2 y hy
    ·refine .inr ⟨k+1,y,h1,h2,by rw [e,h3]; congr 1; omega,fun j z hj hz=>?_⟩
     cases j with
     | zero=>simp at hz; exact hz ▸ h'
     | succ j=>exact h4 j z (by omega) hz
theorem few_cases {c:Cyl} (h:checkCyl c=0) {x:Int} (hx:0≤x):(fewestOf c x=(0,13)∧mostK c (tK c) < x) ∨
  ∃ k:Nat,k≤tK c∧fewestOf c x=((k:Int),0)∧x≤mostK c k∧∀ j,j < k→mostK c j < x:=by
 unfold fewestOf
 rw [if_neg (by omega),if_neg (by omega)]
 rcases idxOf_cases (fun n=>decide (x≤n)) (worthsOf c) 0 with ⟨h1,h2⟩ | ⟨k,y,h1,h2,h3,h4⟩
 ·refine .inl ⟨?_,?_⟩
  ·rw [if_pos (show firstGe x (worthsOf c) < 0 from h1)]
  ·have:=h2 _ (List.mem_of_getElem? (worthsOf_get h (Nat.le_refl (tK c))))
   simp at this
   omega
 ·have hk:k≤tK c:=by
   have:=(List.getElem?_eq_some_iff.1 h1).1
   rw [worthsOf_len h] at this
   omega
  rw [worthsOf_get h hk] at h1
  injection h1 with h1
  have e:firstGe x (worthsOf c)=(k:Int):=by unfold firstGe; rw [h3]; congr 1; omega
  refine .inr ⟨k,hk,?_,?_,fun j hj=>?_⟩
  ·rw [e,if_neg (by omega)]
  ·rw [h1]; simpa using h2
  ·have:=h4 j _ hj (worthsOf_get h (by omega))
   simp at this
   omega
end Go.Proofs.YtjpfjklobnilkaaGreat
