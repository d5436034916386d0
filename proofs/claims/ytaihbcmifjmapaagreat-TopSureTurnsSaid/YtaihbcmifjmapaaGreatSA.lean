/- Rules and speeds as plain functions: potentials; Bellman and Ford. Nothing of the program is imported here. Floyd's table as a plain function: if no node is nearer to itself than nothing, there is a potential. Nothing of the program is imported here. Sheets of speeds, how wide the span of a turn is, and playings: the plain law of TopSureTurns. Nothing of the program is imported here. -/
import Derived.Test.YtaihbcmifjmapaaGreatPG
namespace Go.Proofs.YtaihbcmifjmapaaGreat.Sp
set_option linter.unusedVariables false
structure RN where
 f:Nat
 t:Nat
 m:Int
 deriving Inhabited,DecidableEq
def Pot (L:List RN) (p:Nat→Int):Prop:=∀ r∈L,p r.t≤p r.f+r.m
structure Net (n:Nat) (L:List RN):Prop where
 fit:∀ r∈L,r.f < n∧r.t < n ∧ -100000≤r.m∧r.m≤100000
 out:∀ v,1≤v→v < n→⟨0,v,100000⟩∈L
 back:∀ v,1≤v→v < n→⟨v,0,0⟩∈L
 pos:1≤n
theorem Net.near {n:Nat} {L:List RN} (h:Net n L) {p:Nat→Int} (hp:Pot L p) {v:Nat} (hv:v < n):p 0≤p v∧p v≤p 0+100000:=by
 rcases Nat.eq_zero_or_pos v with rfl | h0
 ·omega
 ·have h1:=hp _ (h.out v h0 hv)
  have h2:=hp _ (h.back v h0 hv)
  dsimp only at h1 h2
  omega
def never:Int:=1125899906842624
def relax (F:Nat→Int) (r:RN):Nat→Int:=if F r.f≠never∧F r.f+r.m < F r.t then fun v=>if v=r.t then F r.f+r.m else F v else F
def round (L:List RN) (F:Nat→Int):Nat→Int:=L.foldl relax F
theorem relax_le (F:Nat→Int) (r:RN) (v:Nat):relax F r v≤F v:=by
 unfold relax
 split
 ·rename_i h
  dsimp only
  split
  ·rename_i e
   rw [e]
   omega
  ·exact Int.le_refl _
 ·exact Int.le_refl _
theorem round_le:∀ (L:List RN) (F:Nat→Int) (v:Nat),round L F v≤F v
 | [],F,v=>Int.le_refl _
 | r::L,F,v=>Int.le_trans (round_le L (relax F r) v) (relax_le F r v)
theorem relax_at {F:Nat→Int} {r:RN} (h:F r.f≠never):relax F r r.t≤F r.f+r.m:=by
 unfold relax
 split
 ·simp
 ·rename_i h2
  by_cases h3:F r.f+r.m < F r.t
  ·exact absurd ⟨h,h3⟩ h2
  ·omega
theorem relax_other {F:Nat→Int} {r:RN} {v:Nat} (h:v≠r.t):relax F r v=F v:=by
 unfold relax
 split
 ·simp [h]
 ·rfl
theorem round_other:∀ (L:List RN) (F:Nat→Int) (v:Nat),(∀ r∈L,v≠r.t)→round L F v=F v
 | [],F,v,_=>rfl
 | r::L,F,v,h=>by
   show round L (relax F r) v=F v
   rw [round_other L _ v fun x hx=>h x (List.mem_cons_of_mem _ hx),relax_other (h r (List.mem_cons_self ..))]
theorem round_fix:∀ (L:List RN) (F:Nat→Int),round L F=F→∀ r∈L,F r.f≠never→F r.t≤F r.f+r.m
 | [],F,_,r,h,_=>by cases h
 | x::L,F,he,r,h,hn=>by
   have h1:relax F x=F:=by
    funext v
    have h2:=round_le L (relax F x) v
    have h3:=relax_le F x v
    have h4:round (x::L) F v=F v:=by rw [he]
    change round L (relax F x) v=F v at h4
    omega
   rcases List.mem_cons.1 h with rfl | h
   ·have:=relax_at (r:=r) hn
    rw [h1] at this
    exact this
   ·refine round_fix L F ?_ r h hn
    have h5:round L (relax F x)=F:=he
    rw [h1] at h5
    exact h5
theorem relax_low {L:List RN} {p:Nat→Int} (hp:Pot L p) {a:Int} {F:Nat→Int} (hF:∀ v,F v=never∨p v-a≤F v) {r:RN} (hr:r∈L):∀ v,relax F r v=never∨p v-a≤relax F r v:=by
 intro v
 unfold relax
 split
 ·rename_i h
  dsimp only
  split
  ·rename_i e
   subst e
   have:=hp r hr
   rcases hF r.f with h1 | h1
   ·exact absurd h1 h.1
   ·exact .inr (by omega)
  ·exact hF v
 ·exact hF v
theorem round_low {L:List RN} {p:Nat→Int} (hp:Pot L p) {a:Int}:∀ (M:List RN) (F:Nat→Int),(∀ r∈M,r∈L)→(∀ v,F v=never∨p v-a≤F v)→∀ v,round M F v=never∨p v-a≤round M F v
 | [],F,_,h=>h
 | r::M,F,hM,h=>round_low hp M (relax F r) (fun x hx=>hM x (List.mem_cons_of_mem _ hx)) (relax_low hp h (hM r (List.mem_cons_self ..)))
theorem round_top (L:List RN) {F:Nat→Int} (h:∀ v,F v≤never) (v:Nat):round L F v≤never:=Int.le_trans (round_le L F v) (h v)
structure IsFar (n:Nat) (L:List RN) (a:Nat) (F:Nat→Int):Prop where
 fix:Pot L F
 src:F a=0
 top:∀ p,Pot L p→∀ v,v < n→p v-p a≤F v
def far0 (a:Nat) (v:Nat):Int:=if v=a then 0 else never
def Find (L:List RN) (a:Nat) (F:Nat→Int):Prop:=(∀ v,F v≤never)∧F a≤0∧∀ p,Pot L p→∀ v,F v=never∨p v-p a≤F v
theorem find_start (L:List RN) (a:Nat):Find L a (far0 a):=by
 refine ⟨fun v=>?_,by simp [far0],fun p hp v=>?_⟩
 ·unfold far0
  split
  ·decide
  ·exact Int.le_refl _
 ·unfold far0
  split
  ·rename_i h
   subst h
   exact .inr (by omega)
  ·exact .inl rfl
theorem find_step {L:List RN} {a:Nat} {F:Nat→Int} (h:Find L a F):Find L a (round L F) :=
 ⟨round_top L h.1,Int.le_trans (round_le L F a) h.2.1,fun p hp=>round_low hp L F (fun _ h=>h) (h.2.2 p hp)⟩
theorem find_end {n:Nat} {L:List RN} (hN:Net n L) {a:Nat} (ha:a < n) {F:Nat→Int} (h:Find L a F) {p:Nat→Int} (hp:Pot L p) (he:round L F=F):IsFar n L a F:=by
 have h0:F a=0:=by
  rcases h.2.2 p hp a with h1 | h1
  ·have:=h.2.1
   rw [h1] at this
   exact absurd this (by decide)
  ·have:=h.2.1
   omega
 have hf:=round_fix L F he
 have hz:F 0≤0:=by
  rcases Nat.eq_zero_or_pos a with rfl | h1
  ·omega
  ·have:=hf _ (hN.back a h1 ha) (by rw [h0]; decide)
   dsimp only at this
   omega
 have hfin:∀ v,v < n→F v≠never:=by
  intro v hv e
  rcases Nat.eq_zero_or_pos v with rfl | h1
  ·rw [e] at hz
   exact absurd hz (by decide)
  ·have:=hf _ (hN.out v h1 hv) (fun e2=>by dsimp only at e2; rw [e2] at hz; exact absurd hz (by decide))
   dsimp only at this
   rw [e] at this
   unfold never at this
   omega
 refine ⟨fun r hr=>hf r hr (hfin _ (hN.fit r hr).1),h0,fun q hq v hv=>?_⟩
 rcases h.2.2 q hq v with h1 | h1
 ·exact absurd h1 (hfin v hv)
 ·exact h1
def sumF:Nat→(Nat→Int)→Int
 | 0,_=>0
 | n+1,F=>sumF n F+F n
theorem sumF_le:∀ (n:Nat) {F G:Nat→Int},(∀ v,v < n→F v≤G v)→sumF n F≤sumF n G
 | 0,_,_,_=>Int.le_refl _
 | n+1,F,G,h=>by
   have:=sumF_le n fun v hv=>h v (by omega)
   have:=h n (by omega)
   simp only [sumF]
   omega
theorem sumF_lt:∀ (n:Nat) {F G:Nat→Int},(∀ v,v < n→F v≤G v)→(∃ v,v < n∧F v≠G v)→sumF n F < sumF n G
 | 0,_,_,_,⟨v,hv,_⟩=>absurd hv (by omega)
 | n+1,F,G,h,⟨v,hv,hne⟩=>by
   have h1:=h n (by omega)
   simp only [sumF]
   by_cases e:v=n
   ·subst e
    have:=sumF_le v (F:=F) (G:=G) fun u hu=>h u (by omega)
    omega
   ·have:=sumF_lt n (F:=F) (G:=G) (fun u hu=>h u (by omega)) ⟨v,by omega,hne⟩
    omega
theorem sumF_low:∀ (n:Nat) {F:Nat→Int} {b:Int},(∀ v,v < n→b≤F v)→n * b≤sumF n F
 | 0,_,_,_=>by simp [sumF]
 | n+1,F,b,h=>by
   have:=sumF_low n (F:=F) (b:=b) fun v hv=>h v (by omega)
   have:=h n (by omega)
   simp only [sumF,Int.natCast_add,Int.add_mul]
   omega
def best (J:Nat→Int) (v:Nat):List RN→Int→Int
 | [],a=>a
 | r::L,a=>best J v L (if r.t=v then min a (J r.f+r.m) else a)
theorem best_le (J:Nat→Int) (v:Nat):∀ (L:List RN) (a:Int),best J v L a≤a
 | [],a=>Int.le_refl _
 | r::L,a=>by
   unfold best
   by_cases h:r.t=v
   ·rw [if_pos h]
    have:=best_le J v L (min a (J r.f+r.m))
    omega
   ·rw [if_neg h]
    exact best_le J v L a
theorem best_at (J:Nat→Int) (v:Nat):∀ (L:List RN) (a:Int),∀ r∈L,r.t=v→best J v L a≤J r.f+r.m
 | [],a,r,h,_=>by cases h
 | x::L,a,r,h,e=>by
   unfold best
   rcases List.mem_cons.1 h with rfl | h
   ·have:=best_le J v L (if r.t=v then min a (J r.f+r.m) else a)
    rw [if_pos e] at this ⊢
    omega
   ·exact best_at J v L _ r h e
theorem best_got (J:Nat→Int) (v:Nat):∀ (L:List RN) (a:Int),best J v L a=a∨∃ r∈L,r.t=v∧best J v L a=J r.f+r.m
 | [],a => .inl rfl
 | x::L,a=>by
   unfold best
   rcases best_got J v L (if x.t=v then min a (J x.f+x.m) else a) with h | ⟨r,hr,e,h⟩
   ·rw [h]
    split
    ·rename_i hx
     by_cases hm:a≤J x.f+x.m
     ·exact .inl (by omega)
     ·exact .inr ⟨x,List.mem_cons_self ..,hx,by omega⟩
    ·exact .inl rfl
   ·exact .inr ⟨r,List.mem_cons_of_mem _ hr,e,h⟩
def jac (L:List RN) (J:Nat→Int) (v:Nat):Int:=best J v L (J v)
def jacs (L:List RN):Nat→Nat→Int
 | 0=>fun _=>0
 | k+1=>jac L (jacs L k)
def rounds (L:List RN):Nat→Nat→Int
 | 0=>fun _=>0
 | k+1=>round L (rounds L k)
theorem jacs_le (L:List RN) (k v:Nat):jacs L (k+1) v≤jacs L k v:=best_le _ _ _ _
theorem jacs_mono (L:List RN) (v:Nat):∀ (d k:Nat),jacs L (k+d) v≤jacs L k v
 | 0,k=>Int.le_refl _
 | d+1,k=>Int.le_trans (jacs_le L (k+d) v) (jacs_mono L v d k)
theorem rounds_top (L:List RN):∀ k v,rounds L k v≤0
 | 0,v=>Int.le_refl _
 | k+1,v=>Int.le_trans (round_le L _ v) (rounds_top L k v)
theorem round_at:∀ (M:List RN) (F:Nat→Int),(∀ v,F v≤0)→∀ r∈M,round M F r.t≤F r.f+r.m
 | [],F,_,r,h=>by cases h
 | x::M,F,hF,r,h=>by
   show round M (relax F x) r.t≤_
   rcases List.mem_cons.1 h with rfl | h
   ·have h1:=round_le M (relax F r) r.t
    have h2:=relax_at (F:=F) (r:=r) (fun e=>by have:=hF r.f; rw [e] at this; exact absurd this (by decide))
    omega
   ·have h1:=round_at M (relax F x) (fun v=>Int.le_trans (relax_le F x v) (hF v)) r h
    have h2:=relax_le F x r.f
    omega
theorem rounds_jacs (L:List RN):∀ k v,rounds L k v≤jacs L k v
 | 0,v=>Int.le_refl _
 | k+1,v=>by
   show round L (rounds L k) v≤best (jacs L k) v L (jacs L k v)
   rcases best_got (jacs L k) v L (jacs L k v) with h | ⟨r,hr,e,h⟩
   ·rw [h]
    exact Int.le_trans (round_le L _ v) (rounds_jacs L k v)
   ·rw [h]
    subst e
    have h1:=round_at L (rounds L k) (rounds_top L k) r hr
    have h2:=rounds_jacs L k r.f
    omega
section
variable {n:Nat} {L:List RN} (hN:Net n L)
include hN
theorem jacs_low {p:Nat→Int} (hp:Pot L p) (h0:∀ v,v < n→p v≤0):∀ k v,v < n→p v≤jacs L k v
 | 0,v,hv=>h0 v hv
 | k+1,v,hv=>by
   show p v≤best (jacs L k) v L (jacs L k v)
   rcases best_got (jacs L k) v L (jacs L k v) with h | ⟨r,hr,e,h⟩
   ·rw [h]
    exact jacs_low hp h0 k v hv
   ·rw [h]
    subst e
    have h1:=hp r hr
    have h2:=jacs_low hp h0 k r.f (hN.fit r hr).1
    omega
theorem jacs_stop {p:Nat→Int} (hp:Pot L p) (h0:∀ v,v < n → -100000≤p v∧p v≤0):∃ R,∀ v,v < n→jacs L (R+1) v=jacs L R v:=by
 have key:∀ (d:Nat) (k:Nat),sumF n (jacs L k)+100000 * n≤d→∃ R,∀ v,v < n→jacs L (R+1) v=jacs L R v:=by
  intro d
  induction d with
  | zero =>
    intro k hd
    refine ⟨k,fun v hv=>?_⟩
    have h1:=sumF_low n (F:=jacs L (k+1)) (b := -100000) fun u hu=>Int.le_trans (h0 u hu).1 (jacs_low hN hp (fun v hv=>(h0 v hv).2) (k+1) u hu)
    have h2:=sumF_le n (F:=jacs L (k+1)) (G:=jacs L k) fun u _=>jacs_le L k u
    by_cases e:jacs L (k+1) v=jacs L k v
    ·exact e
    ·have:=sumF_lt n (F:=jacs L (k+1)) (G:=jacs L k) (fun u _=>jacs_le L k u) ⟨v,hv,e⟩
     omega
  | succ d ih =>
    intro k hd
    by_cases he:∀ v,v < n→jacs L (k+1) v=jacs L k v
    ·exact ⟨k,he⟩
    ·obtain ⟨v,hv,e⟩:∃ v,v < n∧jacs L (k+1) v≠jacs L k v:=by
      refine Classical.byContradiction fun hc=>he fun v hv=>Classical.byContradiction fun e=>hc ⟨v,hv,e⟩
     have:=sumF_lt n (F:=jacs L (k+1)) (G:=jacs L k) (fun u _=>jacs_le L k u) ⟨v,hv,e⟩
     exact ih (k+1) (by omega)
 exact key (sumF n (jacs L 0)+100000 * n).toNat 0 (by omega)
end
def cnt (q:Nat→Bool):Nat→Nat
 | 0=>0
 | n+1=>cnt q n+if q n=true then 1 else 0
theorem cnt_le {p q:Nat→Bool}:∀ (n:Nat),(∀ v,v < n→q v=true→p v=true)→cnt q n≤cnt p n
 | 0,_=>Nat.le_refl _
 | n+1,h=>by
   have h1:=cnt_le n fun v hv=>h v (by omega)
   have h2:=h n (by omega)
   simp only [cnt]
   by_cases hq:q n=true
   ·rw [if_pos hq,if_pos (h2 hq)]; omega
   ·rw [if_neg hq]; omega
theorem cnt_lt {p q:Nat→Bool}:∀ (n:Nat),(∀ v,v < n→q v=true→p v=true)→(∃ v,v < n∧p v=true∧q v=false)→cnt q n < cnt p n
 | 0,_,⟨v,hv,_⟩=>absurd hv (by omega)
 | n+1,h,⟨v,hv,h3,h4⟩=>by
   have h2:=h n (by omega)
   simp only [cnt]
   by_cases e:v=n
   ·subst e
    have h1:=cnt_le v fun u hu=>h u (by omega)
    rw [if_pos h3,if_neg (by rw [h4]; decide)]
    omega
   ·have h1:=cnt_lt n (fun u hu=>h u (by omega)) ⟨v,by omega,h3,h4⟩
    by_cases hq:q n=true
    ·rw [if_pos hq,if_pos (h2 hq)]; omega
    ·rw [if_neg hq]; omega
theorem cnt_all (q:Nat→Bool):∀ n,cnt q n≤n
 | 0=>Nat.le_refl _
 | n+1=>by have:=cnt_all q n; simp only [cnt]; split <;> omega
theorem cnt_zero {q:Nat→Bool}:∀ {n:Nat},cnt q n=0→∀ v,v < n→q v=false
 | 0,_,v,hv=>absurd hv (by omega)
 | n+1,h,v,hv=>by
   simp only [cnt] at h
   by_cases e:v=n
   ·subst e
    by_cases hq:q v=true
    ·rw [if_pos hq] at h; omega
    ·simpa using hq
   ·exact cnt_zero (n:=n) (by omega) v (by omega)
section
variable {n:Nat} {L:List RN} {E:Nat→Int} {R:Nat} (hN:Net n L) (hR:∀ v,v < n→jacs L R v=E v) (hE:Pot L E) (hlow:∀ k v,v < n→E v≤jacs L k v)
include hN hR hE hlow
theorem next_settled:∀ (d k:Nat),k+d=R→(∃ v,v < n∧jacs L k v≠E v)→∃ r∈L,jacs L k r.f=E r.f∧jacs L k r.t≠E r.t∧E r.t=E r.f+r.m
 | 0,k,hk,⟨v,hv,hne⟩=>by
   rw [Nat.add_zero] at hk
   subst hk
   exact absurd (hR v hv) hne
 | d+1,k,hk,⟨v,hv,hne⟩=>by
   by_cases hc:∃ u,u < n∧jacs L k u≠E u∧jacs L (k+1) u=E u
   ·obtain ⟨u,hu,h1,h2⟩:=hc
    have h3:jacs L (k+1) u=best (jacs L k) u L (jacs L k u):=rfl
    rcases best_got (jacs L k) u L (jacs L k u) with h | ⟨r,hr,e,h⟩
    ·exact absurd (by rw [← h2,h3,h]) h1
    ·subst e
     have h4:=hE r hr
     have h5:=hlow k r.f (hN.fit r hr).1
     exact ⟨r,hr,by omega,h1,by omega⟩
   ·have hc2:∀ u,u < n→jacs L k u≠E u→jacs L (k+1) u≠E u:=fun u hu h1 h2=>hc ⟨u,hu,h1,h2⟩
    obtain ⟨r,hr,h1,h2,h3⟩:=next_settled d (k+1) (by omega) ⟨v,hv,hc2 v hv hne⟩
    have hf:=hN.fit r hr
    refine ⟨r,hr,?_,fun e=>h2 ?_,h3⟩
    ·refine Classical.byContradiction fun e=>hc2 r.f hf.1 e h1
    ·have h4:=jacs_le L k r.t
     have h5:=hlow (k+1) r.t hf.2.1
     omega
theorem unsettled_few:∀ k,k+1≤n→cnt (fun v=>decide (jacs L k v≠E v)) n≤n-1-k:=by
 have hmore:∀ k,(∃ v,v < n∧jacs L k v≠E v)→∃ r∈L,jacs L k r.f=E r.f∧jacs L k r.t≠E r.t∧E r.t=E r.f+r.m:=by
  intro k hv
  rcases Nat.le_total k R with h | h
  ·exact next_settled hN hR hE hlow (R-k) k (by omega) hv
  ·obtain ⟨v,hv,hne⟩:=hv
   exfalso
   have h1:=jacs_mono L v (k-R) R
   rw [show R+(k-R)=k by omega,hR v hv] at h1
   have h2:=hlow k v hv
   omega
 intro k
 induction k with
 | zero =>
   intro hk
   by_cases hv:∃ v,v < n∧jacs L 0 v≠E v
   ·obtain ⟨r,hr,h1,h2,h3⟩:=hmore 0 hv
    have h4:=cnt_lt (p:=fun _=>true) (q:=fun v=>decide (jacs L 0 v≠E v)) n (fun _ _ _=>rfl) ⟨r.f,(hN.fit r hr).1,rfl,by simp [h1]⟩
    have h5:=cnt_all (fun _=>true) n
    omega
   ·have h4:=cnt_le (p:=fun _=>false) (q:=fun v=>decide (jacs L 0 v≠E v)) n (fun v hv2 h=>by
     exfalso
     exact hv ⟨v,hv2,by simpa using h⟩)
    have h5:∀ m,cnt (fun _=>false) m=0:=fun m=>by
     induction m with
     | zero=>rfl
     | succ m ih=>simp [cnt,ih]
    rw [h5] at h4
    omega
 | succ k ih =>
   intro hk
   have ih:=ih (by omega)
   by_cases hv:∃ v,v < n∧jacs L k v≠E v
   ·obtain ⟨r,hr,h1,h2,h3⟩:=hmore k hv
    have hf:=hN.fit r hr
    have h4:=cnt_lt (p:=fun v=>decide (jacs L k v≠E v)) (q:=fun v=>decide (jacs L (k+1) v≠E v)) n (fun v hv2 h=>by
     simp only [decide_eq_true_eq] at h ⊢
     intro e
     apply h
     have h5:=jacs_le L k v
     have h6:=hlow (k+1) v hv2
     omega) ⟨r.t,hf.2.1,by simpa using h2,by
      have h5:jacs L (k+1) r.t≤jacs L k r.f+r.m:=best_at _ _ L _ r hr rfl
      have h6:=hlow (k+1) r.t hf.2.1
      simp only [ne_eq,decide_eq_false_iff_not,Decidable.not_not]
      omega⟩
    omega
   ·have h4:=cnt_le (p:=fun v=>decide (jacs L k v≠E v)) (q:=fun v=>decide (jacs L (k+1) v≠E v)) n (fun v hv2 h=>by
     simp only [decide_eq_true_eq] at h ⊢
     intro e
     apply h
     have h5:=jacs_le L k v
     have h6:=hlow (k+1) v hv2
     omega)
    have h5:=cnt_le (p:=fun _=>false) (q:=fun v=>decide (jacs L k v≠E v)) n (fun v hv2 h=>by
     exfalso
     exact hv ⟨v,hv2,by simpa using h⟩)
    have h6:∀ m,cnt (fun _=>false) m=0:=fun m=>by
     induction m with
     | zero=>rfl
     | succ m ih=>simp [cnt,ih]
    rw [h6] at h5
    omega
end
theorem rounds_done {n:Nat} {L:List RN} (hN:Net n L) {p:Nat→Int} (hp:Pot L p):round L (rounds L (n-1))=rounds L (n-1):=by
 have hp2:Pot L (fun v=>p v-p 0-100000):=fun r hr=>by have:=hp r hr; dsimp only; omega
 have hb:∀ v,v < n → -100000≤p v-p 0-100000∧p v-p 0-100000≤0:=fun v hv=>by have:=hN.near hp hv; omega
 obtain ⟨R,hR⟩:=jacs_stop hN hp2 hb
 obtain ⟨E,hE⟩:∃ E,E=jacs L R:=⟨_,rfl⟩
 have hEP:Pot L E:=fun r hr=>by
  have hf:=hN.fit r hr
  have h1:jacs L (R+1) r.t≤jacs L R r.f+r.m:=best_at _ _ L _ r hr rfl
  rw [hR r.t hf.2.1] at h1
  rw [hE]
  exact h1
 have hE0:∀ v,v < n→E v≤0:=fun v hv=>by
  rw [hE]
  have:=jacs_mono L v R 0
  rw [Nat.zero_add] at this
  exact this
 have hlow:=jacs_low hN hEP hE0
 have hfew:=unsettled_few hN (fun v hv=>by rw [hE]) hEP hlow (n-1) (by have:=hN.pos; omega)
 have hz:=cnt_zero (q:=fun v=>decide (jacs L (n-1) v≠E v)) (n:=n) (by omega)
 have hs:∀ v,v < n→jacs L (n-1) v=E v:=fun v hv=>by
  have:=hz v hv
  simpa using this
 have hrl:∀ k v,rounds L k v=never∨E v≤rounds L k v∨n≤v:=by
  intro k
  induction k with
  | zero =>
    intro v
    rcases Nat.lt_or_ge v n with h | h
    ·exact .inr (.inl (hE0 v h))
    ·exact .inr (.inr h)
  | succ k ih =>
    intro v
    rcases Nat.lt_or_ge v n with h | h
    ·right; left
     have h1:=round_low (L:=L) (p:=fun u=>if u < n then E u else rounds L k u-0) (a:=0) (fun r hr=>by
      have hf:=hN.fit r hr
      have:=hEP r hr
      dsimp only
      rw [if_pos hf.1,if_pos hf.2.1]
      exact this) L (rounds L k) (fun _ h=>h) (fun u=>by
      rcases Nat.lt_or_ge u n with hu | hu
      ·rcases ih u with h1 | h1 | h1
       ·exact .inl h1
       ·right; rw [if_pos hu]; omega
       ·omega
      ·right; rw [if_neg (by omega)]; omega) v
     rw [if_pos h] at h1
     rcases h1 with h1 | h1
     ·have h2:=rounds_top L (k+1) v
      change round L (rounds L k) v≤0 at h2
      rw [h1] at h2
      exact absurd h2 (by decide)
     ·show E v≤round L (rounds L k) v
      omega
    ·exact .inr (.inr h)
 have hlr:∀ k v,v < n→E v≤rounds L k v:=fun k v hv=>by
  rcases hrl k v with h | h | h
  ·have:=rounds_top L k v
   rw [h] at this
   exact absurd this (by decide)
  ·exact h
  ·omega
 funext v
 rcases Nat.lt_or_ge v n with hv | hv
 ·have h1:=hlr (n-1+1) v hv
  have h2:=rounds_jacs L (n-1) v
  rw [hs v hv] at h2
  have h3:=round_le L (rounds L (n-1)) v
  change E v≤round L (rounds L (n-1)) v at h1
  have h4:=hlr (n-1) v hv
  omega
 ·exact round_other L _ v fun r hr e=>by have:=(hN.fit r hr).2.1; omega
end Go.Proofs.YtaihbcmifjmapaaGreat.Sp
namespace Go.Proofs.YtaihbcmifjmapaaGreat.Sp
set_option linter.unusedVariables false
def nv:Int:=1099511627776
abbrev Mat:=Nat→Nat→Int
def updM (G:Mat) (i k:Nat) (x:Int):Mat:=fun a b=>if a=i∧b=k then x else G a b
def stF (m i k:Nat) (G:Mat):Mat:=if G i m < nv∧G m k < nv then updM G i k (max (-nv) (min (G i k) (G i m+G m k))) else G
def rowG (m i:Nat):Nat→Mat→Mat
 | 0,G=>G
 | k+1,G=>stF m i k (rowG m i k G)
def matF (n m:Nat):Nat→Mat→Mat
 | 0,G=>G
 | i+1,G=>rowG m i n (matF n m i G)
def floF (n:Nat):Nat→Mat→Mat
 | 0,G=>G
 | m+1,G=>matF n m n (floF n m G)
def iniF:Mat:=fun i k=>if i=k then 0 else nv
def ruF (G:Mat) (r:RN):Mat:=updM G r.f r.t (min (G r.f r.t) r.m)
def begF (L:List RN):Mat:=L.foldl ruF iniF
def farM (n:Nat) (L:List RN):Mat:=floF n n (begF L)
def BD (G:Mat):Prop:=∀ i k, -nv≤G i k∧G i k≤nv
theorem stF_bd {m i k:Nat} {G:Mat} (h:BD G):BD (stF m i k G):=by
 intro a b
 unfold stF
 split
 ·unfold updM
  split
  ·have:=h i k
   have e:nv=1099511627776:=rfl
   omega
  ·exact h a b
 ·exact h a b
theorem stF_le {m i k:Nat} {G:Mat} (h:BD G) (a b:Nat):stF m i k G a b≤G a b:=by
 unfold stF
 split
 ·unfold updM
  split
  ·rename_i e
   obtain ⟨rfl,rfl⟩:=e
   have:=h a b
   omega
  ·exact Int.le_refl _
 ·exact Int.le_refl _
theorem rowG_bd {m i:Nat} {G:Mat} (h:BD G):∀ k,BD (rowG m i k G)∧∀ a b,rowG m i k G a b≤G a b
 | 0=>⟨h,fun _ _=>Int.le_refl _⟩
 | k+1=>by
   obtain ⟨h1,h2⟩:=rowG_bd h k
   exact ⟨stF_bd h1,fun a b=>Int.le_trans (stF_le h1 a b) (h2 a b)⟩
theorem matF_bd {n m:Nat} {G:Mat} (h:BD G):∀ i,BD (matF n m i G)∧∀ a b,matF n m i G a b≤G a b
 | 0=>⟨h,fun _ _=>Int.le_refl _⟩
 | i+1=>by
   obtain ⟨h1,h2⟩:=matF_bd h i
   obtain ⟨h3,h4⟩:=rowG_bd (m:=m) (i:=i) h1 n
   exact ⟨h3,fun a b=>Int.le_trans (h4 a b) (h2 a b)⟩
theorem floF_bd {n:Nat} {G:Mat} (h:BD G):∀ m,BD (floF n m G)
 | 0=>h
 | m+1=>(matF_bd (floF_bd h m) n).1
theorem floF_le {n:Nat} {G:Mat} (h:BD G) (a b:Nat):∀ (d m:Nat),floF n (m+d) G a b≤floF n m G a b
 | 0,m=>Int.le_refl _
 | d+1,m=>Int.le_trans ((matF_bd (floF_bd h (m+d)) n).2 a b) (floF_le h a b d m)
def newF (F:Mat) (m i k:Nat):Int:=min (F i k) (F i m+F m k)
def Part (n m:Nat) (F:Mat) (i k:Nat) (G:Mat):Prop:=∀ a b,a < n→b < n→G a b=if a < i∨(a=i∧b < k) then newF F m a b else F a b
section
variable {n m:Nat} {F:Mat} {b:Int} (hm:m < n) (hd:0≤F m m) (hb:2 * b < nv) (hi:∀ i,i < n → -b≤F i m∧F i m≤b) (hk:∀ k,k < n → -b≤F m k∧F m k≤b) (hF:∀ i k,i < n→k < n → -b≤F i k)
include hm hd hb hi hk hF
theorem part_step {i k:Nat} (hin:i < n) (hkn:k < n) {G:Mat} (h:Part n m F i k G):Part n m F i (k+1) (stF m i k G):=by
 have e1:G i m=F i m:=by
  rw [h i m hin hm]
  split
  ·unfold newF; omega
  ·rfl
 have e2:G m k=F m k:=by
  rw [h m k hm hkn]
  split
  ·unfold newF; omega
  ·rfl
 have e3:G i k=F i k:=by rw [h i k hin hkn,if_neg (by omega)]
 have b1:=hi i hin
 have b2:=hk k hkn
 have b3:=hF i k hin hkn
 intro a c ha hc
 unfold stF
 rw [e1,e2,e3,if_pos (by omega)]
 unfold updM
 by_cases e:a=i∧c=k
 ·obtain ⟨rfl,rfl⟩:=e
  rw [if_pos ⟨rfl,rfl⟩,if_pos (by omega)]
  unfold newF
  omega
 ·rw [if_neg e,h a c ha hc]
  by_cases h1:a < i∨(a=i∧c < k)
  ·rw [if_pos h1,if_pos (by omega)]
  ·rw [if_neg h1,if_neg (by omega)]
theorem part_row {i:Nat} (hin:i < n) {G:Mat} (h:Part n m F i 0 G):∀ k,k≤n→Part n m F i k (rowG m i k G)
 | 0,_=>h
 | k+1,hk2=>part_step hm hd hb hi hk hF hin (by omega) (part_row hin h k (by omega))
theorem part_mat:∀ i,i≤n→Part n m F i 0 (matF n m i F)
 | 0,_=>fun a b ha hb=>by rw [if_neg (by omega)]; rfl
 | i+1,h=>by
   have h1:=part_row hm hd hb hi hk hF (by omega) (part_mat i (by omega)) n (Nat.le_refl _)
   intro a c ha hc
   show rowG m i n (matF n m i F) a c=_
   rw [h1 a c ha hc]
   by_cases h2:a < i∨(a=i∧c < n)
   ·rw [if_pos h2,if_pos (by omega)]
   ·rw [if_neg h2,if_neg (by omega)]
theorem stage (a c:Nat) (ha:a < n) (hc:c < n):matF n m n F a c=newF F m a c:=by
 rw [part_mat hm hd hb hi hk hF n (Nat.le_refl _) a c ha hc,if_pos (.inl ha)]
end
theorem ruF_le (G:Mat) (r:RN) (a b:Nat):ruF G r a b≤G a b:=by
 unfold ruF updM
 split
 ·rename_i e
  obtain ⟨rfl,rfl⟩:=e
  omega
 ·exact Int.le_refl _
theorem begGo_le:∀ (L:List RN) (G:Mat) (a b:Nat),L.foldl ruF G a b≤G a b
 | [],G,a,b=>Int.le_refl _
 | r::L,G,a,b=>Int.le_trans (begGo_le L (ruF G r) a b) (ruF_le G r a b)
theorem begGo_at:∀ (L:List RN) (G:Mat),∀ r∈L,L.foldl ruF G r.f r.t≤r.m
 | [],G,r,h=>by cases h
 | x::L,G,r,h=>by
   rcases List.mem_cons.1 h with rfl | h
   ·have h1:=begGo_le L (ruF G r) r.f r.t
    have h2:ruF G r r.f r.t≤r.m:=by
     unfold ruF updM
     rw [if_pos ⟨rfl,rfl⟩]
     omega
    exact Int.le_trans h1 h2
   ·exact begGo_at L (ruF G x) r h
theorem begGo_low:∀ (L:List RN) (G:Mat),(∀ r∈L, -100000≤r.m)→(∀ a b, -100000≤G a b)→∀ a b, -100000≤L.foldl ruF G a b
 | [],G,_,h=>h
 | r::L,G,hL,h=>begGo_low L (ruF G r) (fun x hx=>hL x (List.mem_cons_of_mem _ hx)) fun a b=>by
   have h1:=h a b
   have h2:=h r.f r.t
   have h3:=hL r (List.mem_cons_self ..)
   unfold ruF updM
   split <;> omega
theorem begGo_diag:∀ (L:List RN) (G:Mat),(∀ r∈L,r.f≠r.t)→∀ a,L.foldl ruF G a a=G a a
 | [],G,_,a=>rfl
 | r::L,G,h,a=>by
   show L.foldl ruF (ruF G r) a a=G a a
   rw [begGo_diag L _ (fun x hx=>h x (List.mem_cons_of_mem _ hx)) a]
   unfold ruF updM
   rw [if_neg]
   rintro ⟨rfl,e⟩
   exact h r (List.mem_cons_self ..) e
theorem begF_low {n:Nat} {L:List RN} (hN:Net n L) (a b:Nat) : -100000≤begF L a b :=
 begGo_low L iniF (fun r hr=>(hN.fit r hr).2.2.1) (fun a b=>by unfold iniF nv; split <;> omega) a b
theorem begF_bd {n:Nat} {L:List RN} (hN:Net n L):BD (begF L):=fun a b=>by
 have h1:=begF_low hN a b
 have h2:=begGo_le L iniF a b
 have h3:iniF a b≤nv:=by unfold iniF nv; split <;> omega
 have e:nv=1099511627776:=rfl
 unfold begF at *
 omega
theorem begF_out {n:Nat} {L:List RN} (hN:Net n L) {k:Nat} (hk:k < n):begF L 0 k≤100000:=by
 rcases Nat.eq_zero_or_pos k with rfl | h
 ·have:=begGo_le L iniF 0 0
  have e:iniF 0 0=0:=rfl
  unfold begF
  omega
 ·exact begGo_at L iniF _ (hN.out k h hk)
theorem begF_back {n:Nat} {L:List RN} (hN:Net n L) {k:Nat} (hk:k < n):begF L k 0≤0:=by
 rcases Nat.eq_zero_or_pos k with rfl | h
 ·have:=begGo_le L iniF 0 0
  have e:iniF 0 0=0:=rfl
  unfold begF
  omega
 ·exact begGo_at L iniF _ (hN.back k h hk)
def bnd:Nat→Int
 | 0=>100000
 | m+1=>2 * bnd m
theorem bnd_le:∀ m,m < 21→bnd m≤104857600000∧100000≤bnd m:=by decide
structure Closed (n m:Nat) (F:Mat):Prop where
 lo:∀ i k,i < n→k < n → -(bnd m)≤F i k
 hi:∀ i k,i < n→k < n→F i k≤bnd m
 tri:∀ j,j < m→∀ i k,i < n→k < n→F i k≤F i j+F j k
theorem closed_next {n m:Nat} {F:Mat} (hn:n≤21) (hm:m < n) (hd:0≤F m m) (h:Closed n m F):Closed n (m+1) (matF n m n F):=by
 have hb:=bnd_le m (by omega)
 have e:nv=1099511627776:=rfl
 have hs:=stage (n:=n) (m:=m) (F:=F) (b:=bnd m) hm hd (by omega) (fun i hi=>⟨h.lo i m hi hm,h.hi i m hi hm⟩) (fun k hk=>⟨h.lo m k hm hk,h.hi m k hm hk⟩) h.lo
 refine ⟨fun i k hi hk=>?_,fun i k hi hk=>?_,fun j hj i k hi hk=>?_⟩
 ·rw [hs i k hi hk]
  have h1:=h.lo i k hi hk
  have h2:=h.lo i m hi hm
  have h3:=h.lo m k hm hk
  unfold newF
  simp only [bnd]
  omega
 ·rw [hs i k hi hk]
  have h1:=h.hi i k hi hk
  unfold newF
  simp only [bnd]
  omega
 ·have hjn:j < n:=by omega
  rw [hs i k hi hk,hs i j hi hjn,hs j k hjn hk]
  unfold newF
  rcases Nat.lt_or_ge j m with hjm | hjm
  ·have t1:=h.tri j hjm i k hi hk
   have t2:=h.tri j hjm i m hi hm
   have t3:=h.tri j hjm m k hm hk
   have t4:=h.tri j hjm m m hm hm
   omega
  ·obtain rfl:j=m:=by omega
   omega
theorem closed_first {n:Nat} {L:List RN} (hN:Net n L) (hne:∀ r∈L,r.f≠r.t):Closed n 1 (matF n 0 n (begF L)):=by
 have hd:begF L 0 0=0:=begGo_diag L iniF hne 0
 have e:nv=1099511627776:=rfl
 have h0:=hN.pos
 have hs:=stage (n:=n) (m:=0) (F:=begF L) (b:=100000) (by omega) (by omega) (by omega) (fun i hi=>⟨begF_low hN i 0,by have:=begF_back hN hi; omega⟩) (fun k hk=>⟨begF_low hN 0 k,begF_out hN hk⟩) (fun i k _ _=>begF_low hN i k)
 refine ⟨fun i k hi hk=>?_,fun i k hi hk=>?_,fun j hj i k hi hk=>?_⟩
 ·rw [hs i k hi hk]
  have h1:=begF_low hN i k
  have h2:=begF_low hN i 0
  have h3:=begF_low hN 0 k
  unfold newF
  simp only [bnd]
  omega
 ·rw [hs i k hi hk]
  have h2:=begF_back hN hi
  have h3:=begF_out hN hk
  unfold newF
  simp only [bnd]
  omega
 ·obtain rfl:j=0:=by omega
  rw [hs i k hi hk,hs i 0 hi (by omega),hs 0 k (by omega) hk]
  unfold newF
  omega
theorem floyd {n:Nat} {L:List RN} (hN:Net n L) (hn:n≤21) (hne:∀ r∈L,r.f≠r.t) (hd:∀ j,j < n→0≤farM n L j j):∃ p,Pot L p:=by
 have hbd:=begF_bd hN
 have hdm:∀ m,m≤n→∀ j,j < n→0≤floF n m (begF L) j j:=fun m hm j hj=>by
  have h1:=floF_le (n:=n) hbd j j (n-m) m
  rw [show m+(n-m)=n by omega] at h1
  have h2:=hd j hj
  unfold farM at h2
  omega
 have hall:∀ m,m+1≤n→Closed n (m+1) (floF n (m+1) (begF L)):=by
  intro m
  induction m with
  | zero=>intro _; exact closed_first hN hne
  | succ m ih=>intro hm; exact closed_next hn (by omega) (hdm (m+1) (by omega) (m+1) (by omega)) (ih (by omega))
 obtain ⟨m,hm⟩:∃ m,n=m+1:=⟨n-1,by have:=hN.pos; omega⟩
 have hc:=hall m (by omega)
 rw [← hm] at hc
 refine ⟨fun v=>floF n n (begF L) 0 v,fun r hr=>?_⟩
 have hf:=hN.fit r hr
 have h1:=hc.tri r.f hf.1 0 r.t hN.pos hf.2.1
 have h2:=floF_le (n:=n) hbd r.f r.t n 0
 rw [Nat.zero_add] at h2
 have h3:begF L r.f r.t≤r.m:=begGo_at L iniF r hr
 change floF n n (begF L) r.f r.t≤begF L r.f r.t at h2
 dsimp only
 omega
end Go.Proofs.YtaihbcmifjmapaaGreat.Sp
namespace Go.Proofs.YtaihbcmifjmapaaGreat
open Sp
set_option linter.unusedVariables false
structure Ru where
 f:Int
 t:Int
 m:Int
 deriving Inhabited,DecidableEq
def okRu (T:Int) (r:Ru):Bool:=((((((decide (0≤r.f)&&decide (r.f≤T))&&decide (0≤r.t))&&decide (r.t≤T))&&!(r.f==r.t))&&decide (-100000≤r.m))&&decide (r.m≤100000))
def checkSh (T:Int) (l:List Ru):Int:=if 60 < l.length then 6 else if T < 1∨20 < T then 2 else if l.all (okRu T)=false then 3 else 0
def rnOf (r:Ru):RN:=⟨r.f.toNat,r.t.toNat,r.m⟩
def wholeL:Nat→List RN
 | 0=>[]
 | t+1=>wholeL t++[⟨0,t+1,100000⟩,⟨t+1,0,0⟩]
def allL (T:Nat) (l:List Ru):List RN:=l.map rnOf++wholeL T
structure SheetOk (T:Nat) (l:List Ru):Prop where
 few:l.length≤60
 t1:1≤T
 t20:T≤20
 fit:∀ r∈l,0≤r.f∧r.f≤T∧0≤r.t∧r.t≤T∧r.f≠r.t ∧ -100000≤r.m∧r.m≤100000
theorem okRu_iff {T:Int} {r:Ru}:okRu T r=true↔0≤r.f∧r.f≤T∧0≤r.t∧r.t≤T∧r.f≠r.t ∧ -100000≤r.m∧r.m≤100000:=by
 simp only [okRu,Bool.and_eq_true,decide_eq_true_eq,Bool.not_eq_true',beq_eq_false_iff_ne]
 constructor
 ·rintro ⟨⟨⟨⟨⟨⟨h1,h2⟩,h3⟩,h4⟩,h5⟩,h6⟩,h7⟩
  exact ⟨h1,h2,h3,h4,h5,h6,h7⟩
 ·rintro ⟨h1,h2,h3,h4,h5,h6,h7⟩
  exact ⟨⟨⟨⟨⟨⟨h1,h2⟩,h3⟩,h4⟩,h5⟩,h6⟩,h7⟩
theorem sheet_ok {T:Int} {l:List Ru} (h:checkSh T l=0):T=(T.toNat:Int)∧SheetOk T.toNat l:=by
 unfold checkSh at h
 split at h
 ·omega
 ·split at h
  ·omega
  ·split at h
   ·omega
   ·rename_i h1 h2 h3
    have h4:l.all (okRu T)=true:=by simpa using h3
    rw [List.all_eq_true] at h4
    have hT:T=(T.toNat:Int):=by omega
    refine ⟨hT,by omega,by omega,by omega,fun r hr=>?_⟩
    have:=okRu_iff.1 (h4 r hr)
    rw [← hT]
    exact this
theorem sheet_zero {T:Nat} {l:List Ru} (h:SheetOk T l):checkSh T l=0:=by
 unfold checkSh
 have h1:=h.few
 have h2:=h.t1
 have h3:=h.t20
 rw [if_neg (by omega),if_neg (by omega),if_neg]
 rw [Bool.not_eq_false,List.all_eq_true]
 exact fun r hr=>okRu_iff.2 (h.fit r hr)
theorem wholeL_mem {r:RN}:∀ {t:Nat},r∈wholeL t↔∃ v,1≤v∧v≤t∧(r=⟨0,v,100000⟩∨r=⟨v,0,0⟩)
 | 0=>by simp only [wholeL,List.not_mem_nil,false_iff]; rintro ⟨v,h1,h2,_⟩; omega
 | t+1=>by
   rw [wholeL,List.mem_append,wholeL_mem]
   constructor
   ·rintro (⟨v,h1,h2,h3⟩ | h)
    ·exact ⟨v,h1,by omega,h3⟩
    ·simp only [List.mem_cons,List.not_mem_nil,or_false] at h
     exact ⟨t+1,by omega,by omega,h⟩
   ·rintro ⟨v,h1,h2,h3⟩
    by_cases e:v=t+1
    ·subst e
     right
     simpa using h3
    ·exact .inl ⟨v,h1,by omega,h3⟩
theorem allL_net {T:Nat} {l:List Ru} (h:SheetOk T l):Net (T+1) (allL T l):=by
 refine ⟨fun r hr=>?_,fun v h1 h2=>?_,fun v h1 h2=>?_,by omega⟩
 ·rcases List.mem_append.1 hr with hr | hr
  ·obtain ⟨x,hx,rfl⟩:=List.mem_map.1 hr
   have:=h.fit x hx
   simp only [rnOf]
   omega
  ·obtain ⟨v,h1,h2,rfl | rfl⟩:=wholeL_mem.1 hr
   ·dsimp only; omega
   ·dsimp only; omega
 ·exact List.mem_append.2 (.inr (wholeL_mem.2 ⟨v,h1,by omega,.inl rfl⟩))
 ·exact List.mem_append.2 (.inr (wholeL_mem.2 ⟨v,h1,by omega,.inr rfl⟩))
theorem allL_ne {T:Nat} {l:List Ru} (h:SheetOk T l):∀ r∈allL T l,r.f≠r.t:=by
 intro r hr
 rcases List.mem_append.1 hr with hr | hr
 ·obtain ⟨x,hx,rfl⟩:=List.mem_map.1 hr
  have:=h.fit x hx
  simp only [rnOf]
  omega
 ·obtain ⟨v,h1,h2,rfl | rfl⟩:=wholeL_mem.1 hr
  ·dsimp only; omega
  ·dsimp only; omega
def Free (T:Nat) (l:List Ru):Prop:=∃ p,Pot (allL T l) p
theorem far_one {n:Nat} {L:List RN} {a:Nat} {F G:Nat→Int} (ha:a < n) (hF:IsFar n L a F) (hG:IsFar n L a G) {v:Nat} (hv:v < n):F v=G v:=by
 have h1:=hF.top G hG.fix v hv
 have h2:=hG.top F hF.fix v hv
 rw [hG.src] at h1
 rw [hF.src] at h2
 omega
structure IsSpan (n:Nat) (L:List RN) (t:Nat) (lo hi:Int):Prop where
 ex:∃ up down,IsFar n L 0 up∧IsFar n L t down∧lo = -(down 0)∧hi=up t
theorem span_one {n:Nat} {L:List RN} {t:Nat} {lo hi lo' hi':Int} (hn:0 < n) (ht:t < n) (h:IsSpan n L t lo hi) (h':IsSpan n L t lo' hi'):lo=lo'∧hi=hi':=by
 obtain ⟨up,down,h1,h2,rfl,rfl⟩:=h.ex
 obtain ⟨up',down',h1',h2',rfl,rfl⟩:=h'.ex
 rw [far_one hn h1 h1' ht,far_one ht h2 h2' hn]
 exact ⟨rfl,rfl⟩
theorem span_in {n:Nat} {L:List RN} (hN:Net n L) {t:Nat} (h1:1≤t) (ht:t < n) {lo hi:Int} (h:IsSpan n L t lo hi):0≤lo∧lo≤hi∧hi≤100000:=by
 obtain ⟨up,down,hu,hd,rfl,rfl⟩:=h.ex
 have a1:=hd.fix _ (hN.back t h1 ht)
 have a2:=hu.fix _ (hN.out t h1 ht)
 have a3:=hu.top down hd.fix t ht
 have a4:=hd.src
 have a5:=hu.src
 dsimp only at a1 a2
 omega
theorem span_more {n:Nat} {L L':List RN} (hs:∀ r∈L,r∈L') {t:Nat} (hn:0 < n) (ht:t < n) {lo hi lo' hi':Int} (h:IsSpan n L t lo hi) (h':IsSpan n L' t lo' hi'):lo≤lo'∧hi'≤hi:=by
 obtain ⟨up,down,hu,hd,rfl,rfl⟩:=h.ex
 obtain ⟨up',down',hu',hd',rfl,rfl⟩:=h'.ex
 have a1:=hu.top up' (fun r hr=>hu'.fix r (hs r hr)) t ht
 have a2:=hd.top down' (fun r hr=>hd'.fix r (hs r hr)) 0 hn
 have a3:=hu'.src
 have a4:=hd'.src
 omega
noncomputable def widF (n:Nat) (L:List RN) (t:Nat):Int:=open Classical in if h:∃ d,∃ lo hi,IsSpan n L t lo hi∧d=hi-lo then Classical.choose h else 0
theorem widF_eq {n:Nat} {L:List RN} {t:Nat} (hn:0 < n) (ht:t < n) {lo hi:Int} (h:IsSpan n L t lo hi):widF n L t=hi-lo:=by
 have hex:∃ d,∃ lo hi,IsSpan n L t lo hi∧d=hi-lo:=⟨_,lo,hi,h,rfl⟩
 unfold widF
 rw [dif_pos hex]
 obtain ⟨lo',hi',h1,h2⟩:=Classical.choose_spec hex
 rw [h2]
 obtain ⟨e1,e2⟩:=span_one hn ht h h1
 omega
def fragL (wide:Int) (D:Nat→Int):Nat→List Int
 | 0=>[]
 | t+1=>fragL wide D t++if wide < D (t+1) then [(t:Int)] else []
theorem fragL_mem {wide:Int} {D:Nat→Int} {x:Int}:∀ {T:Nat},x∈fragL wide D T↔∃ t:Nat,t < T∧x=(t:Int)∧wide < D (t+1)
 | 0=>by simp only [fragL,List.not_mem_nil,false_iff]; rintro ⟨v,h1,_⟩; omega
 | T+1=>by
   rw [fragL,List.mem_append,fragL_mem]
   constructor
   ·rintro (⟨t,h1,h2,h3⟩ | h)
    ·exact ⟨t,by omega,h2,h3⟩
    ·split at h
     ·rename_i hw
      simp only [List.mem_cons,List.not_mem_nil,or_false] at h
      exact ⟨T,by omega,h,hw⟩
     ·cases h
   ·rintro ⟨t,h1,h2,h3⟩
    by_cases e:t=T
    ·subst e
     right
     rw [if_pos h3]
     simp [h2]
    ·exact .inl ⟨t,by omega,h2,h3⟩
theorem fragL_len (wide:Int) (D:Nat→Int):∀ T,(fragL wide D T).length≤T
 | 0=>Nat.le_refl _
 | T+1=>by
   have:=fragL_len wide D T
   rw [fragL,List.length_append]
   split <;> simp <;> omega
theorem fragOk_snoc (T:Int) (x:Int):∀ (l:List Int) (a:Int),fragOk T a l=true→(∀ y∈l,y < x)→a < x→x < T→fragOk T a (l++[x])=true
 | [],a,_,_,h1,h2=>by simp [fragOk,h1,h2]
 | y::l,a,h,h0,h1,h2=>by
   simp only [List.cons_append,fragOk,Bool.and_eq_true] at h ⊢
   exact ⟨h.1,fragOk_snoc T x l y h.2 (fun z hz=>h0 z (List.mem_cons_of_mem _ hz)) (h0 y (List.mem_cons_self ..)) h2⟩
theorem fragL_ok (wide:Int) (D:Nat→Int) (N:Int):∀ T:Nat,(T:Int)≤N→fragOk N (-1) (fragL wide D T)=true
 | 0,_=>rfl
 | T+1,h=>by
   have ih:=fragL_ok wide D N T (by omega)
   rw [fragL]
   split
   ·refine fragOk_snoc N T _ _ ih (fun y hy=>?_) (by omega) (by omega)
    obtain ⟨t,h1,h2,_⟩:=fragL_mem.1 hy
    omega
   ·rw [List.append_nil]
    exact ih
def withF (c:Cyl) (l:List Int):Cyl:=⟨c.turns,c.long,c.plays,l,c.pas⟩
theorem withF_ok {c:Cyl} (h:checkCyl (withF c [])=0) {l:List Int} (hl:fragOk c.turns (-1) l=true):checkCyl (withF c l)=0:=by
 unfold checkCyl at h ⊢
 have e1:argOk (withF c l)=argOk (withF c []):=rfl
 rw [e1]
 split at h
 ·omega
 ·rename_i h1
  rw [if_neg h1]
  split at h
  ·omega
  ·have e2:fragOk (withF c l).turns (-1) (withF c l).frag=true:=hl
   rw [if_neg (by rw [e2]; decide)]
   exact h
theorem seqP_less {c:Cyl} {F G:List Int} (hs:∀ x∈F,x∈G):∀ {q:List Str} {last:Int},SeqP (withF c G) last q→SeqP (withF c F) last q
 | [],_,_=>trivial
 | s::r,last,h=>by
   obtain ⟨h1,⟨h2,h3,h4,h5,h6⟩,h7⟩:=h
   refine ⟨h1,⟨h2,h3,h4,h5,?_⟩,seqP_less hs h7⟩
   unfold worn at h6 ⊢
   rw [List.any_eq_false] at h6 ⊢
   exact fun x hx=>h6 x (hs x hx)
theorem most_less {c:Cyl} {F G:List Int} (hF:checkCyl (withF c F)=0) (hG:checkCyl (withF c G)=0) (hs:∀ x∈F,x∈G) {k:Nat} (hk:k≤tK c):mostK (withF c G) k≤mostK (withF c F) k:=by
 obtain ⟨q,hq,e⟩:=mostK_got hG (k:=k) hk
 rw [← e]
 have h1:IsPlan (withF c F) k q:=⟨seqP_less hs hq.1,hq.2⟩
 exact mostK_ge hF (k:=k) hk h1
end Go.Proofs.YtaihbcmifjmapaaGreat
