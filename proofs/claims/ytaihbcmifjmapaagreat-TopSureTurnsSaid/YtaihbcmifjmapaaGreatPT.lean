/- A slice of slices of choices that a call makes: each row the call's own. The table that fill fills, as plain functions. -/
import Derived.Test.YtaihbcmifjmapaaGreatPD
import Derived.Maps.AppendAt
import Derived.Laws.MakeOwn
import Derived.Test.YtaihbcmifjmapaaGreatPB
namespace Go.Proofs.YtaihbcmifjmapaaGreat
open Go.RowKit Go.Shelf
set_option linter.unusedVariables false
theorem wpList_app2 {W:World} {ops:Array Oper} {rest:List Oper} {o:Oper} {a:Act} {Q:Exit→Act→World→Prop} {t e size bytes:Nat} {z:Value} (hT:SlT t e size bytes z)
  (hgd:o.guard=none) (s x:Operand) (ho:o.op = .call { callee := .builtin .append,args:=#[s,x],argTypes:=#[t,t] })
  {base n c:Nat} {sv:Value} {xs:List Value} {vals:Array Value} (hs:a.eval s=sv) (hown:W.ownsRow base e size sv n xs)
  (hx:a.eval x = .slice (some ⟨W.heap.size,0,none⟩) 1 c) (hvals:vals.size=size) (h1:∀ u∈vals.toList,u.oneCell'=true) (hbase:base≤W.heap.size)
  (h63:n+1≤1048576) (hby:bytes≤1024)
  (h:∀ v' w',w'.ownsRow base e size v' (n+1) (xs++vals.toList)→W.grownBy w' sv.ownBlock→(∀ b,v'.ownBlock=some b→sv.ownBlock=some b∨W.heap.size≤b)→wpList Tryz.prog ops Q rest (a.put o.dst v') w') :
  wpList Tryz.prog ops Q (o::rest) a (W.alloc (.cells vals e)):=by
 obtain ⟨hT1,hT2,hT3,hT4⟩:=hT
 obtain ⟨i0,hi,hz0,hz1,hz2⟩:=info_parts hT2
 have hbytes:(n+1) * bytes≤140737488355328:=Nat.le_trans (Nat.mul_le_mul h63 hby) (by decide)
 have hnew:Blk (W.alloc (.cells vals e)) W.heap.size e vals:=Blk.new _ _ _
 have hcell:∀ j u,vals.toList[j]? = some u→(W.alloc (.cells vals e)).cell? ((⟨W.heap.size,0,none⟩:Addr).add j)=some u:=by
  intro j u hu
  have:(⟨W.heap.size,0,none⟩:Addr).add j=⟨W.heap.size,j,none⟩:=by
   unfold Addr.add; split <;> simp_all
  rw [this,hnew.cell]
  simpa using hu
 have hlen:vals.toList.length=1 * size:=by simp [hvals]
 refine wpList_append_own_at (P:=Tryz.prog) (W.alloc (.cells vals e)) hgd s x t ho base e i0 z size bytes hT1 hi hz0 hz1 hz2 hT3 hT4 _ n xs hs (hown.alloc _) ⟨W.heap.size,0,none⟩ 1 c vals.toList hx hlen hcell h1 (by simp only [maxLen]; omega) hbytes (by simp; omega) ?_
 intro v' w' hown' hgrow _ hat
 refine h v' w' hown' ⟨hgrow.os,hgrow.tape,hgrow.output,Nat.le_trans (by simp) hgrow.size,fun g hg hne=>?_⟩ fun b hb=>?_
 ·exact (hgrow.block g (by simp; omega) hne).trans (Below.heap_alloc W _ g hg)
 ·rcases hat with h3 | h3
  ·exact .inl (h3 ▸ hb)
  ·rw [h3] at hb
   injection hb with hb
   exact .inr (by rw [← hb]; simp)
theorem run_mk {t e size bytes:Nat} {z:Value} (hT:SlT t e size bytes z) (n:Nat) (hn:n≤1048576) (hby:bytes≤1024) (W:World) :
  (Instr.makeSlice t (.int .i64 (n:Int)) (.int .i64 (n:Int))).run Tryz.prog W = .ok (.slice (some ⟨W.heap.size,0,none⟩) n n) (W.alloc (.cells (madeCells z.cells (n * size)) e)):=by
 obtain ⟨hT1,hT2,hT3,hT4⟩:=hT
 obtain ⟨i0,hi,hz0,hz1,hz2⟩:=info_parts hT2
 have hb:(i0.bytes:Int) * (n:Int)≤281474976710656:=by
  have h:i0.bytes * n≤281474976710656:=Nat.le_trans (Nat.mul_le_mul (hz2 ▸ hby) hn) (by decide)
  have h':((i0.bytes * n:Nat):Int)≤281474976710656:=by omega
  rwa [Int.natCast_mul] at h'
 have hr:=run_make (P:=Tryz.prog) W t e i0 z hT1 hi hz0 .i64 .i64 n n (by omega) (by omega) hb (by omega)
 simp only [Int.toNat_natCast,hz1] at hr
 exact hr
def EndsAt (W:World) (ge base n:Nat) (E:Nat→List Cho):Prop:=∃ S:Nat→Value,
 (∃ cs,Blk W ge 107 cs∧cs.size=n∧∀ i,i < n→cs[i]? = some (S i)) ∧
 (∀ i,i < n→W.ownsRow base 110 3 (S i) (E i).length ((E i).flatMap (cellsOf 3 ccell))) ∧
 (∀ i j,i < n→j < n→i≠j→∀ b,(S i).ownBlock=some b→(S j).ownBlock≠some b)
theorem EndsAt.made (W:World) (n base:Nat):EndsAt (W.alloc (.cells (madeCells (Value.slice none 0 0).cells (n * 1)) 107)) W.heap.size base n fun _=>[]:=by
 refine ⟨fun _ => .slice none 0 0,⟨_,Blk.new _ _ _,by simp [size_madeCells],fun i hi=>?_⟩,fun i hi=>World.ownsRow_nil _ _ _ _,fun i j _ _ _ b hb=>by simp [Value.ownBlock] at hb⟩
 have h1:(Value.slice none 0 0).cells=#[Value.slice none 0 0]:=rfl
 have h2:(madeCells #[Value.slice none 0 0] (n * 1))[i]? = (madeCells #[Value.slice none 0 0] (n * 1)).toList[i]? := by simp
 rw [h1,h2,toList_madeCells_one,List.getElem?_replicate,if_pos (by omega)]
theorem EndsAt.grown {W W':World} {ge base n:Nat} {E:Nat→List Cho} {row:Option Nat} (h:EndsAt W ge base n E) (hg:W.grownBy W' row) (h1:some ge≠row) (h2:∀ r,row=some r→r < base∨∃ o:Obj,W.heap[r]? = some o∧o.isCells=false):EndsAt W' ge base n E:=by
 obtain ⟨S,⟨cs,hb,hs,hc⟩,ho,hd⟩:=h
 refine ⟨S,⟨cs,hb.grown hg h1,hs,hc⟩,fun i hi=>(ho i hi).kept hg ?_,hd⟩
 rcases hr:(S i).ownBlock with _ | b
 ·exact .inl rfl
 ·refine .inr fun he=>?_
  rcases h2 b he.symm with h3 | ⟨o,h3,h4⟩
  ·have:=((ho i hi).lt b hr).1; omega
  ·rcases (ho i hi).2 with ⟨h5,_⟩ | ⟨g,cap,cur,h5,h6,h7,_⟩
   ·rw [h5] at hr; simp [Value.ownBlock] at hr
   ·rw [h5] at hr
    simp only [Value.ownBlock,Option.some.injEq] at hr
    subst hr
    rw [h3] at h7
    injection h7 with h7
    subst h7
    simp [Obj.isCells] at h4
theorem EndsAt.call {W W':World} {ge base n:Nat} {E:Nat→List Cho} (h:EndsAt W ge base n E) (hb:Below W.heap.size W W'):EndsAt W' ge base n E :=
 h.grown (grown_call hb none) (by simp) (fun r hr=>by cases hr)
theorem EndsAt.row {W:World} {ge base n:Nat} {E:Nat→List Cho} (h:EndsAt W ge base n E) {i:Nat} (hi:i < n):∃ sv,W.cell? ⟨ge,i,none⟩=some sv∧W.ownsRow base 110 3 sv (E i).length ((E i).flatMap (cellsOf 3 ccell)):=by
 obtain ⟨S,⟨cs,hb,hs,hc⟩,ho,hd⟩:=h
 exact ⟨S i,by rw [hb.cell,hc i hi],ho i hi⟩
theorem EndsAt.frozen {W:World} {ge base n:Nat} {E:Nat→List Cho} (h:EndsAt W ge base n E) (i:Nat):W.frozen? ⟨ge,i,none⟩=false:=by
 obtain ⟨S,⟨cs,hb,hs,hc⟩,ho,hd⟩:=h
 exact hb.frozen i
theorem EndsAt.lt {W:World} {ge base n:Nat} {E:Nat→List Cho} (h:EndsAt W ge base n E):ge < W.heap.size:=by
 obtain ⟨S,⟨cs,hb,hs,hc⟩,ho,hd⟩:=h
 exact hb.lt
theorem EndsAt.put {W W':World} {ge base n:Nat} {E E':Nat→List Cho} (h:EndsAt W ge base n E) {i:Nat} (hi:i < n) (hge:ge < base) {sv v':Value} {y:Cho} (hsv:W.cell? ⟨ge,i,none⟩=some sv)
  (hown:W'.ownsRow base 110 3 v' (E i++[y]).length ((E i++[y]).flatMap (cellsOf 3 ccell))) (hg:W.grownBy W' sv.ownBlock) (hat:∀ b,v'.ownBlock=some b→sv.ownBlock=some b∨W.heap.size≤b)
  (hE:∀ j,j < n→E' j=if j=i then E i++[y] else E j):EndsAt (W'.setCell ⟨ge,i,none⟩ v') ge base n E':=by
 obtain ⟨S,⟨cs,hb,hs,hc⟩,ho,hd⟩:=h
 have hS:S i=sv:=by
  have:=hc i hi
  rw [hb.cell,this] at hsv
  injection hsv
 subst hS
 have hne:some ge≠(S i).ownBlock:=by
  intro he
  have:=((ho i hi).lt ge he.symm).1
  omega
 have hbw:=hb.grown hg hne
 have hgs:W'.grownBy (W'.setCell ⟨ge,i,none⟩ v') (some ge):=grown_setCell v'
 have hF:∃ F:Nat→Value,F i=v'∧∀ j,j≠i→F j=S j:=⟨fun j=>if j=i then v' else S j,by simp,fun j hj=>by simp [hj]⟩
 obtain ⟨F,hF1,hF2⟩:=hF
 refine ⟨F,⟨cs.setIfInBounds i v',hbw.set_ i v',by simp [hs],fun j hj=>?_⟩,fun j hj=>?_,fun j k hj hk hjk b=>?_⟩
 ·rw [Array.getElem?_setIfInBounds]
  by_cases hji:j=i
  ·subst hji; simp [hs,hi,hF1]
  ·rw [if_neg (Ne.symm hji),hF2 j hji]; exact hc j hj
 ·rw [hE j hj]
  by_cases hji:j=i
  ·subst hji
   rw [if_pos rfl,hF1]
   refine hown.kept hgs ?_
   rcases hr:v'.ownBlock with _ | b
   ·exact .inl rfl
   ·exact .inr fun he=>by injection he with he; have:=(hown.lt b hr).1; omega
  ·rw [if_neg hji,hF2 j hji]
   refine ((ho j hj).kept hg ?_).kept hgs ?_
   ·rcases hr:(S j).ownBlock with _ | b
    ·exact .inl rfl
    ·exact .inr fun he=>hd j i hj hi hji b hr he.symm
   ·rcases hr:(S j).ownBlock with _ | b
    ·exact .inl rfl
    ·exact .inr fun he=>by injection he with he; have:=((ho j hj).lt b hr).1; omega
 ·by_cases hji:j=i
  ·subst hji
   rw [hF1,hF2 k (Ne.symm hjk)]
   intro h1 h2
   rcases hat b h1 with h3 | h3
   ·exact hd j k hj hk hjk b h3 h2
   ·have:=((ho k hk).lt b h2).2; omega
  ·rw [hF2 j hji]
   by_cases hki:k=i
   ·subst hki
    rw [hF1]
    intro h1 h2
    rcases hat b h2 with h3 | h3
    ·exact hd k j hk hj (Ne.symm hji) b h3 h1
    ·have:=((ho j hj).lt b h1).2; omega
   ·rw [hF2 k hki]
    exact hd j k hj hk hjk b
theorem own_blk_ne {w:World} {base:Nat} {e t:TypeId} {size n:Nat} {v:Value} {xs:List Value} {g:Nat} {cs:Array Value} (h:w.ownsRow base e size v n xs) (hg:Blk w g t cs) (hne:e≠t):some g≠v.ownBlock:=by
 rcases h.2 with ⟨rfl,_⟩ | ⟨g',cap,cur,rfl,_,hh,_⟩
 ·simp [Value.ownBlock]
 ·intro he
  simp only [Value.ownBlock,Option.some.injEq] at he
  subst he
  unfold Blk at hg
  rw [hh] at hg
  injection hg with hg
  injection hg with _ ht
  exact hne ht
end Go.Proofs.YtaihbcmifjmapaaGreat
namespace Go.Proofs.YtaihbcmifjmapaaGreat
set_option linter.unusedVariables false
theorem foldl_greater_mem:∀ (r:List Cho) (y:Cho),r.foldl greater y=y∨r.foldl greater y∈r
 | [],y => .inl rfl
 | z::r,y=>by
   rw [List.foldl_cons]
   rcases foldl_greater_mem r (greater y z) with h | h
   ·rw [h]
    unfold greater
    split
    ·exact .inr (List.mem_cons_self ..)
    ·exact .inl rfl
   ·exact .inr (List.mem_cons_of_mem _ h)
theorem pick_mem (y:Cho) (r:List Cho):pick (y::r)∈y::r:=by
 show r.foldl greater y∈_
 rcases foldl_greater_mem r y with h | h
 ·rw [h]; exact List.mem_cons_self ..
 ·exact List.mem_cons_of_mem _ h
def choices (E:Nat→List Cho) (V:Nat→Nat→Int) (t k:Nat):List Cho:=⟨⟨-1,0⟩,V (t-1) k⟩::(E t).map fun y=>⟨y.s,y.x+V y.s.a.toNat (k-1)⟩
def choW (E:Nat→List Cho) (V:Nat→Nat→Int) (t k:Nat):Cho:=pick (choices E V t k)
def tabN (E:Nat→List Cho) (K:Nat):Nat→Nat→Nat→Int
 | 0=>fun _ _=>0
 | n+1=>fun t j=>if t=n+1 then (if 1≤j∧j≤K then (choW E (tabN E K n) (n+1) j).x else tabN E K n n j) else tabN E K n t j
def midN (E:Nat→List Cho) (K n k:Nat) (t j:Nat):Int:=if t=n+1 then (if 1≤j∧j < k then (choW E (tabN E K n) (n+1) j).x else tabN E K n n j) else tabN E K n t j
theorem midN_one (E:Nat→List Cho) (K n t j:Nat):midN E K n 1 t j=if t=n+1 then tabN E K n n j else tabN E K n t j:=by
 unfold midN
 rw [if_neg (show ¬ (1≤j∧j < 1) by omega)]
theorem midN_succ (E:Nat→List Cho) (K n k t j:Nat) (hk:1≤k):midN E K n (k+1) t j=if t=n+1∧j=k then (choW E (tabN E K n) (n+1) k).x else midN E K n k t j:=by
 unfold midN
 by_cases h:t=n+1
 ·by_cases h2:j=k
  ·subst h2
   rw [if_pos h,if_pos (by omega),if_pos ⟨h,rfl⟩]
  ·rw [if_pos h,if_pos h,if_neg (fun (q:t=n+1∧j=k)=>h2 q.2)]
   by_cases h3:1≤j∧j < k
   ·rw [if_pos h3,if_pos (by omega)]
   ·rw [if_neg h3,if_neg (by omega)]
 ·rw [if_neg h,if_neg h,if_neg (fun q=>h q.1)]
theorem midN_last (E:Nat→List Cho) (K n t j:Nat):midN E K n (K+1) t j=tabN E K (n+1) t j:=by
 unfold midN
 conv=>rhs; unfold tabN
 by_cases h:1≤j∧j≤K
 ·rw [if_pos h,if_pos (show 1≤j∧j < K+1 by omega)]
 ·rw [if_neg h,if_neg (show ¬ (1≤j∧j < K+1) by omega)]
theorem midN_low (E:Nat→List Cho) (K n k t j:Nat) (ht:t≤n):midN E K n k t j=tabN E K n t j:=by
 unfold midN
 rw [if_neg (by omega)]
theorem tabN_low (E:Nat→List Cho) (K:Nat) (t j:Nat):∀ d,tabN E K (t+d) t j=tabN E K t t j
 | 0=>rfl
 | d+1=>by
   rw [← tabN_low E K t j d]
   show tabN E K ((t+d)+1) t j=tabN E K (t+d) t j
   conv=>lhs; unfold tabN
   rw [if_neg (by omega)]
theorem tabN_eq (E:Nat→List Cho) (K:Nat) (t n j:Nat) (h:t≤n):tabN E K n t j=tabN E K t t j:=by
 have:=tabN_low E K t j (n-t)
 rwa [show t+(n-t)=n by omega] at this
def Fit (E:Nat→List Cho) (D:Int):Prop:=∀ i,∀ y∈E i,0≤y.s.a∧y.s.a < (i:Int) ∧ -D≤y.x∧y.x≤D
theorem tabN_bound (E:Nat→List Cho) (D:Int) (hD:0≤D) (hE:Fit E D) (K:Nat):∀ (n t j:Nat), -(D * (n:Int))≤tabN E K n t j∧tabN E K n t j≤D * (n:Int)
 | 0,t,j=>by simp [tabN]
 | n+1,t,j=>by
   have ih:=tabN_bound E D hD hE K n
   have e:D * ((n+1:Nat):Int)=D * (n:Int)+D:=by rw [Int.natCast_add,Int.mul_add]; simp
   rw [e]
   unfold tabN
   split
   ·split
    ·unfold choW choices
     have hm:=pick_mem ⟨⟨-1,0⟩,tabN E K n (n+1-1) j⟩ ((E (n+1)).map fun y=>⟨y.s,y.x+tabN E K n y.s.a.toNat (j-1)⟩)
     rcases List.mem_cons.1 hm with h | h
     ·rw [h]
      have:=ih (n+1-1) j
      show _≤tabN E K n (n+1-1) j∧tabN E K n (n+1-1) j≤_
      omega
     ·obtain ⟨y,hy,h2⟩:=List.mem_map.1 h
      rw [← h2]
      have:=ih y.s.a.toNat (j-1)
      have h3:=hE _ y hy
      show _≤y.x+tabN E K n y.s.a.toNat (j-1)∧y.x+tabN E K n y.s.a.toNat (j-1)≤_
      omega
    ·have:=ih n j
     omega
   ·have:=ih t j
    omega
def byN (E:Nat→List Cho) (K n k:Nat) (a b:Int):Option Str :=
 if 1≤a∧1≤b∧b≤(K:Int)∧(a≤(n:Int)∨(a=(n:Int)+1∧b < (k:Int)))∧0≤(choW E (tabN E K (a.toNat-1)) a.toNat b.toNat).s.a then some (choW E (tabN E K (a.toNat-1)) a.toNat b.toNat).s else none
theorem byN_zero (E:Nat→List Cho) (K:Nat) (a b:Int):byN E K 0 1 a b=none:=by
 unfold byN
 rw [if_neg (by omega)]
theorem byN_last (E:Nat→List Cho) (K n:Nat) (a b:Int):byN E K n (K+1) a b=byN E K (n+1) 1 a b:=by
 unfold byN
 have e:(1≤a∧1≤b∧b≤(K:Int)∧(a≤(n:Int)∨(a=(n:Int)+1∧b < ((K+1:Nat):Int)))∧0≤(choW E (tabN E K (a.toNat-1)) a.toNat b.toNat).s.a)↔(1≤a∧1≤b∧b≤(K:Int)∧(a≤((n+1:Nat):Int)∨(a=((n+1:Nat):Int)+1∧b < ((1:Nat):Int)))∧0≤(choW E (tabN E K (a.toNat-1)) a.toNat b.toNat).s.a):=by
  constructor
  ·rintro ⟨h1,h2,h3,h4,h5⟩
   exact ⟨h1,h2,h3,by omega,h5⟩
  ·rintro ⟨h1,h2,h3,h4,h5⟩
   exact ⟨h1,h2,h3,by omega,h5⟩
 simp only [e]
theorem byN_succ (E:Nat→List Cho) (K n k:Nat) (hk:1≤k) (hkK:k≤K) (a b:Int) :
  byN E K n (k+1) a b=if 0≤(choW E (tabN E K n) (n+1) k).s.a∧a=(n:Int)+1∧b=(k:Int) then some (choW E (tabN E K n) (n+1) k).s else byN E K n k a b:=by
 unfold byN
 by_cases h:a=(n:Int)+1∧b=(k:Int)
 ·obtain ⟨h1,h2⟩:=h
  have e1:a.toNat-1=n:=by omega
  have e2:a.toNat=n+1:=by omega
  have e3:b.toNat=k:=by omega
  rw [e1,e2,e3]
  by_cases h3:0≤(choW E (tabN E K n) (n+1) k).s.a
  ·rw [if_pos ⟨by omega,by omega,by omega,by omega,h3⟩,if_pos ⟨h3,h1,h2⟩]
  ·rw [if_neg (fun q=>h3 q.2.2.2.2),if_neg (fun q=>h3 q.1),if_neg (fun q=>h3 q.2.2.2.2)]
 ·rw [if_neg (fun (q:0≤(choW E (tabN E K n) (n+1) k).s.a∧a=(n:Int)+1∧b=(k:Int))=>h q.2)]
  have e:(1≤a∧1≤b∧b≤(K:Int)∧(a≤(n:Int)∨(a=(n:Int)+1∧b < ((k+1:Nat):Int)))∧0≤(choW E (tabN E K (a.toNat-1)) a.toNat b.toNat).s.a)↔(1≤a∧1≤b∧b≤(K:Int)∧(a≤(n:Int)∨(a=(n:Int)+1∧b < (k:Int)))∧0≤(choW E (tabN E K (a.toNat-1)) a.toNat b.toNat).s.a):=by
   constructor
   ·rintro ⟨h1,h2,h3,h4,h5⟩
    exact ⟨h1,h2,h3,by omega,h5⟩
   ·rintro ⟨h1,h2,h3,h4,h5⟩
    exact ⟨h1,h2,h3,by omega,h5⟩
  simp only [e]
theorem strFrom_mem (c:Cyl) (t:Nat):∀ n,∀ s∈strFrom c t n,0≤s.a∧s.a < (n:Int)∧s.b=(t:Int)
 | 0,s,h=>by simp [strFrom] at h
 | n+1,s,h=>by
   unfold strFrom at h
   split at h
   ·rcases List.mem_cons.1 h with h | h
    ·subst h
     exact ⟨by simp,by simp; omega,rfl⟩
    ·have:=strFrom_mem c t n s h
     exact ⟨this.1,by omega,this.2.2⟩
   ·simp at h
theorem allStr_mem (c:Cyl):∀ t,∀ s∈allStr c t,0≤s.a∧s.a≤s.b∧s.b < (t:Int)
 | 0,s,h=>by simp [allStr] at h
 | t+1,s,h=>by
   unfold allStr at h
   rcases List.mem_append.1 h with h | h
   ·have:=allStr_mem c t s h
    omega
   ·have:=strFrom_mem c t (t+1) s h
    omega
theorem endsOf_fit (ws:Nat→Int) (c:Cyl) (T:Nat) (hws:∀ i, -100000≤ws i∧ws i≤100000) (hlen:c.pas.length≤12):Fit (endsOf ws c.pas (allStr c T)) 1200000:=by
 intro i y hy
 unfold endsOf at hy
 obtain ⟨s,hs,rfl⟩:=List.mem_map.1 hy
 obtain ⟨hs1,hs2⟩:=List.mem_filter.1 hs
 have h1:=allStr_mem c T s hs1
 have h2:=sumW_bound ws 100000 (by omega) hws s c.pas 0
 simp at hs2
 show 0≤s.a∧s.a < (i:Int)∧_≤sumW ws s 0 c.pas∧sumW ws s 0 c.pas≤_
 omega
end Go.Proofs.YtaihbcmifjmapaaGreat
