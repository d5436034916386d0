/- Plain data and plain functions for the layer of joins: nothing of the program is imported here. -/
namespace Go.Proofs.YtibmeigdjghkcaaGreat.J
set_option linter.unusedVariables false
structure En where
 lo:Int
 hi:Int
 pl:Int
 deriving Inhabited,DecidableEq
structure Pc where
 a:En
 b:En
 loose:Bool
 deriving Inhabited,DecidableEq
structure St where
 p:Int
 t:Bool
 deriving Inhabited,DecidableEq
structure Cyl where
 pcs:List Pc
 off:Int
 slo:Int
 shi:Int
def okR (lo hi a b:Int):Bool:=(decide (lo≤a)&&decide (a≤b))&&decide (b≤hi)
def okP (p:Pc):Bool:=((okR 0 1000 p.a.lo p.a.hi&&okR 0 1000 p.b.lo p.b.hi)&&okR 0 100000 p.a.pl p.a.pl)&&okR 0 100000 p.b.pl p.b.pl
def checkCyl (c:Cyl):Int :=
 if c.pcs.length=0 then 6 else if 8 < c.pcs.length then 6 else if ((okR 0 1000 c.off c.off&&okR (-100000) 100000 c.slo c.shi)&&c.pcs.all okP)=false then 2 else 0
def stepsGo:Nat→List Pc→List St
 | _,[]=>[]
 | i,p::r=>if p.loose=true then ⟨(i:Int),false⟩::⟨(i:Int),true⟩::stepsGo (i+1) r else ⟨(i:Int),false⟩::stepsGo (i+1) r
def stepsOf (c:Cyl):List St:=stepsGo 0 c.pcs
def pcAt (c:Cyl) (i:Int):Pc:=(c.pcs[i.toNat]?).getD default
def isStep (c:Cyl) (s:St):Bool:=(decide (0≤s.p)&&decide (s.p < (c.pcs.length:Int)))&&(!s.t||(pcAt c s.p).loose)
def beg (c:Cyl) (s:St):En:=if s.t=true then (pcAt c s.p).b else (pcAt c s.p).a
def fin (c:Cyl) (s:St):En:=if s.t=true then (pcAt c s.p).a else (pcAt c s.p).b
def meets (c:Cyl) (x y:En):Bool:=((decide (x.lo-y.hi≤c.off)&&decide (y.lo-x.hi≤c.off))&&decide (c.slo≤y.pl-x.pl))&&decide (y.pl-x.pl≤c.shi)
def fitsS (c:Cyl) (x y:St):Bool:=decide (x.p≠y.p)&&meets c (fin c x) (beg c y)
def fitsOf (c:Cyl) (x y:St):Bool×Int :=
 if checkCyl c≠0 then (false,checkCyl c) else if (isStep c x&&isStep c y)=false then (false,2) else (fitsS c x y,0)
def twice:List St→Bool
 | []=>false
 | s::r=>(r.any fun x=>decide (x.p=s.p))||twice r
def chain (c:Cyl):List St→Bool
 | []=>true
 | [_]=>true
 | x::y::r=>fitsS c x y&&chain c (y::r)
def checkJoin (c:Cyl) (l:List St):Int :=
 if checkCyl c≠0 then checkCyl c else if l.length≠c.pcs.length then 15 else if l.all (isStep c)=false then 2 else if twice l=true then 11 else if chain c l=false then 18 else 0
theorem stepsGo_mem (s:St):∀ (l:List Pc) (i:Nat),s∈stepsGo i l↔(i:Int)≤s.p∧∃ p,l[(s.p-i).toNat]? = some p∧(s.t=true→p.loose=true)
 | [],i=>by simp [stepsGo]
 | p::r,i=>by
   have ih:=stepsGo_mem s r (i+1)
   have key:s∈stepsGo i (p::r)↔(s=⟨(i:Int),false⟩∨(p.loose=true∧s=⟨(i:Int),true⟩))∨s∈stepsGo (i+1) r:=by
    rw [stepsGo]
    split
    ·rename_i h; simp [h,or_assoc]
    ·rename_i h; simp [h]
   rw [key,ih]
   constructor
   ·rintro ((rfl | ⟨h,rfl⟩) | ⟨h1,q,h2,h3⟩)
    ·exact ⟨Int.le_refl _,p,by simp,by simp⟩
    ·exact ⟨Int.le_refl _,p,by simp,fun _=>h⟩
    ·refine ⟨by omega,q,?_,h3⟩
     rw [show (s.p-(i:Int)).toNat=(s.p-((i+1:Nat):Int)).toNat+1 by omega,List.getElem?_cons_succ]
     exact h2
   ·rintro ⟨h1,q,h2,h3⟩
    by_cases hi:s.p=(i:Int)
    ·left
     rw [hi,Int.sub_self] at h2
     simp at h2
     subst h2
     obtain ⟨a,b⟩:=s
     simp only at hi h3
     subst hi
     cases b
     ·exact .inl rfl
     ·exact .inr ⟨h3 rfl,rfl⟩
    ·right
     refine ⟨by omega,q,?_,h3⟩
     rw [show (s.p-(i:Int)).toNat=(s.p-((i+1:Nat):Int)).toNat+1 by omega,List.getElem?_cons_succ] at h2
     exact h2
theorem isStep_iff (c:Cyl) (s:St):isStep c s=true↔s∈stepsOf c:=by
 unfold stepsOf
 rw [stepsGo_mem]
 unfold isStep pcAt
 simp only [Bool.and_eq_true,decide_eq_true_eq,Bool.or_eq_true,Bool.not_eq_true']
 constructor
 ·rintro ⟨⟨h1,h2⟩,h3⟩
  have hlt:s.p.toNat < c.pcs.length:=by omega
  refine ⟨by omega,c.pcs[s.p.toNat],?_,fun ht=>?_⟩
  ·rw [show (s.p-((0:Nat):Int)).toNat=s.p.toNat by omega]
   exact List.getElem?_eq_getElem hlt
  ·rw [List.getElem?_eq_getElem hlt] at h3
   rcases h3 with h3 | h3
   ·rw [ht] at h3; cases h3
   ·exact h3
 ·rintro ⟨h1,q,h2,h3⟩
  rw [show (s.p-((0:Nat):Int)).toNat=s.p.toNat by omega] at h2
  obtain ⟨hlt,he⟩:=List.getElem?_eq_some_iff.1 h2
  refine ⟨⟨by omega,by omega⟩,?_⟩
  rw [h2]
  cases ht:s.t
  ·exact .inl rfl
  ·exact .inr (h3 ht)
theorem stepsGo_len:∀ (l:List Pc) (i:Nat),l.length≤(stepsGo i l).length∧(stepsGo i l).length≤2 * l.length
 | [],i=>by simp [stepsGo]
 | p::r,i=>by
   have ih:=stepsGo_len r (i+1)
   unfold stepsGo
   split <;> simp only [List.length_cons] <;> omega
def idxOf {α:Type} (p:α→Bool):Nat→List α→Int
 | _,[] => -1
 | i,x::r=>if p x then (i:Int) else idxOf p (i+1) r
theorem idxOf_drop {α:Type} (p:α→Bool) (l:List α) (k:Nat) (x:α) (h:l[k]? = some x) :
  idxOf p k (l.drop k)=if p x then (k:Int) else idxOf p (k+1) (l.drop (k+1)):=by
 obtain ⟨hk,hx⟩:=List.getElem?_eq_some_iff.1 h
 rw [List.drop_eq_getElem_cons hk,hx]
 rfl
theorem idxOf_nonneg {α:Type} (p:α→Bool) (l:List α):∀ i,decide (0≤idxOf p i l)=l.any p:=by
 induction l with
 | nil=>intro i; simp [idxOf]
 | cons x r ih =>
   intro i
   unfold idxOf
   by_cases h:p x=true
   ·simp [h]
   ·simp only [h]; simp [h,ih (i+1)]
theorem idxOf_lt {α:Type} (p:α→Bool) (l:List α):∀ i,idxOf p i l < 0↔l.any p=false:=by
 intro i
 have:=idxOf_nonneg p l i
 constructor
 ·intro h
  rw [← this]
  simp; omega
 ·intro h
  rw [h] at this
  simp at this
  omega
theorem idxOf_got {α:Type} (p:α→Bool):∀ (l:List α) (i:Nat),0≤idxOf p i l→∃ (k:Nat) (x:α),l[k]? = some x∧p x=true∧idxOf p i l=((i+k:Nat):Int)
 | [],i,h=>by simp [idxOf] at h
 | x::r,i,h=>by
   unfold idxOf at h ⊢
   by_cases hp:p x=true
   ·rw [if_pos hp] at h ⊢
    exact ⟨0,x,rfl,hp,by simp⟩
   ·rw [if_neg hp] at h ⊢
    obtain ⟨k,y,h1,h2,h3⟩:=idxOf_got p r (i+1) h
    exact ⟨k+1,y,by simpa using h1,h2,by rw [h3]; congr 1; omega⟩
def numS (c:Cyl) (s:St):Int:=idxOf (fun x=>x==s) 0 (stepsOf c)
theorem numS_no {c:Cyl} {s:St}:numS c s < 0↔isStep c s=false:=by
 unfold numS
 rw [idxOf_lt]
 have h:=isStep_iff c s
 constructor
 ·intro h1
  rw [List.any_eq_false] at h1
  cases hs:isStep c s
  ·rfl
  ·exact absurd (by simp) (h1 s (h.1 hs))
 ·intro h1
  rw [List.any_eq_false]
  intro x hx hxs
  simp only [beq_iff_eq] at hxs
  subst hxs
  rw [h.2 hx] at h1
  cases h1
theorem numS_got {c:Cyl} {s:St} (h:isStep c s=true):∃ k:Nat,numS c s=(k:Int)∧(stepsOf c)[k]? = some s:=by
 have h0:¬ numS c s < 0:=by rw [numS_no,h]; simp
 obtain ⟨k,x,h1,h2,h3⟩:=idxOf_got (fun x=>x==s) (stepsOf c) 0 (show 0≤numS c s by omega)
 simp only [beq_iff_eq] at h2
 subst h2
 exact ⟨k,by unfold numS; rw [h3]; simp,h1⟩
end Go.Proofs.YtibmeigdjghkcaaGreat.J
