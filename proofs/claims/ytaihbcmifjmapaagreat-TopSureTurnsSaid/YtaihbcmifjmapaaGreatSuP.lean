/- TopSureTurns: the cylinder, and what the law asks, plain. Nothing of the program is imported here. -/
import Derived.Test.YtaihbcmifjmapaaGreatSA
namespace Go.Proofs.YtaihbcmifjmapaaGreat
open Sp
set_option linter.unusedVariables false
abbrev Th:=Fin 256×Fin 256×Fin 256
def pasTh (T:Int) (x:Th):Pas:=⟨min ((x.1.val:Int) % T) ((x.2.1.val:Int) % T),max ((x.1.val:Int) % T) ((x.2.1.val:Int) % T),(x.2.2.val:Int)⟩
def cylTh (T lv:Int) (ps:List Th):Cyl:=⟨T,1+lv % T,6,[],ps.map (pasTh T)⟩
theorem cylTh_ok {T lv:Int} {ps:List Th} (h1:1≤T) (h2:T≤20) (hl:ps.length≤12):checkCyl (withF (cylTh T lv ps) [])=0:=by
 have hm:=Int.emod_nonneg lv (by omega:T≠0)
 have hm2:=Int.emod_lt_of_pos lv (by omega:0 < T)
 unfold checkCyl
 have e1:argOk (withF (cylTh T lv ps) [])=true:=by
  show (((((decide (1≤T)&&decide (T≤30))&&decide (1≤1+lv % T))&&decide (1+lv % T≤T))&&decide ((0:Int)≤6))&&decide ((6:Int)≤6))=true
  rw [decide_eq_true (show 1≤T by omega),decide_eq_true (show T≤30 by omega),decide_eq_true (show 1≤1+lv % T by omega),decide_eq_true (show 1+lv % T≤T by omega)]
  rfl
 have e2:(withF (cylTh T lv ps) []).pas.all (pasOk T)=true:=by
  rw [List.all_eq_true]
  intro p hp
  simp only [withF,cylTh,List.mem_map] at hp
  obtain ⟨x,_,rfl⟩:=hp
  have a1:=Int.emod_nonneg (x.1.val:Int) (by omega:T≠0)
  have a2:=Int.emod_lt_of_pos (x.1.val:Int) (by omega:0 < T)
  have b1:=Int.emod_nonneg (x.2.1.val:Int) (by omega:T≠0)
  have b2:=Int.emod_lt_of_pos (x.2.1.val:Int) (by omega:0 < T)
  have c1:=x.2.2.isLt
  obtain ⟨u,hu⟩:∃ u,u=(x.1.val:Int) % T:=⟨_,rfl⟩
  obtain ⟨v,hv⟩:∃ v,v=(x.2.1.val:Int) % T:=⟨_,rfl⟩
  obtain ⟨y,hy⟩:∃ y,y=(x.2.2.val:Int):=⟨_,rfl⟩
  rw [← hu] at a1 a2
  rw [← hv] at b1 b2
  unfold pasOk pasTh
  rw [← hu,← hv,← hy]
  dsimp only
  rw [decide_eq_true (show 0≤min u v by omega),decide_eq_true (show min u v≤max u v by omega),decide_eq_true (show max u v < T by omega),decide_eq_true (show 0≤y by omega),decide_eq_true (show y≤1000 by omega)]
  rfl
 rw [if_neg (by rw [e1]; decide),if_neg (by simp [withF,fragOk]),if_neg (by simp [withF,cylTh]; omega),if_neg]
 show ¬ (withF (cylTh T lv ps) []).pas.all (pasOk T)=false
 rw [e2]
 decide
noncomputable def fragS (T:Nat) (l:List Ru) (wide:Int):List Int:=fragL wide (widF (T+1) (allL T l)) T
theorem fragS_ok (T:Nat) (l:List Ru) (wide:Int) {c:Cyl} (hc:checkCyl (withF c [])=0) (hT:c.turns=T):checkCyl (withF c (fragS T l wide))=0 :=
 withF_ok hc (by rw [hT]; exact fragL_ok wide _ T T (Int.le_refl _))
theorem law_all {T:Nat} {l:List Ru} {wide:Int} {c:Cyl} (hc:checkCyl (withF c [])=0) (hT:c.turns=T) {k:Nat} (hk:k≤tK c):mostK (withF c (fragS T l wide)) k≤mostK (withF c []) k :=
 most_less hc (fragS_ok T l wide hc hT) (fun x hx=>by cases hx) hk
theorem far_ex {n:Nat} {L:List RN} {p:Nat→Int} {a:Nat} (hN:Net n L) (hp:Pot L p) (ha:a < n):∃ F,IsFar n L a F:=by
 have key:∀ (d:Nat) (F:Nat→Int),Find L a F→(∀ v,n≤v→F v=never)→sumF n F+200000 * n≤d→∃ F,IsFar n L a F:=by
  intro d
  induction d with
  | zero =>
    intro F hF ho hd
    have hlow:∀ v,v < n → -100000≤F v:=fun v hv=>by
     rcases hF.2.2 p hp v with h | h
     ·rw [h]; decide
     ·have:=hN.near hp hv
      have:=hN.near hp ha
      omega
    have h1:=sumF_low n hlow
    have hpos:=hN.pos
    omega
  | succ d ih =>
    intro F hF ho hd
    by_cases he:∀ v,v < n→round L F v=F v
    ·have hsame:round L F=F:=by
      funext v
      rcases Nat.lt_or_ge v n with h | h
      ·exact he v h
      ·exact round_other L F v fun r hr e=>by have:=(hN.fit r hr).2.1; omega
     exact ⟨F,find_end hN ha hF hp hsame⟩
    ·obtain ⟨v,hv,e⟩:∃ v,v < n∧round L F v≠F v:=Classical.byContradiction fun hc=>he fun v hv=>Classical.byContradiction fun e=>hc ⟨v,hv,e⟩
     have h1:=sumF_lt n (F:=round L F) (G:=F) (fun u _=>round_le L F u) ⟨v,hv,e⟩
     refine ih (round L F) (find_step hF) (fun u hu=>?_) (by omega)
     rw [round_other L F u fun r hr e=>by have:=(hN.fit r hr).2.1; omega]
     exact ho u hu
 exact key (sumF n (far0 a)+200000 * n).toNat (far0 a) (find_start L a) (fun v hv=>by unfold far0; rw [if_neg (by omega)]) (by omega)
theorem span_ex {T:Nat} {l:List Ru} (hk:SheetOk T l) (hf:Free T l):∀ t,1≤t→t≤T→∃ lo hi,IsSpan (T+1) (allL T l) t lo hi:=by
 intro t h1 h2
 obtain ⟨p,hp⟩:=hf
 obtain ⟨up,hu⟩:=far_ex (allL_net hk) hp (a:=0) (by omega)
 obtain ⟨down,hd⟩:=far_ex (allL_net hk) hp (a:=t) (by omega)
 exact ⟨_,_,up,down,hu,hd,rfl,rfl⟩
theorem fragS_wide {T:Nat} {l:List Ru} (hk:SheetOk T l) (hs:∀ t,1≤t→t≤T→∃ lo hi,IsSpan (T+1) (allL T l) t lo hi):fragS T l 100000=[]:=by
 apply List.eq_nil_iff_forall_not_mem.2
 intro x hx
 obtain ⟨t,h1, -,h3⟩:=fragL_mem.1 hx
 obtain ⟨lo,hi,h⟩:=hs (t+1) (by omega) (by omega)
 have h4:=span_in (allL_net hk) (by omega) (by omega) h
 rw [widF_eq (by omega) (by omega) h] at h3
 omega
theorem allL_more {T:Nat} {l:List Ru} {r:Ru}:∀ x∈allL T l,x∈allL T (l++[r]):=by
 intro x hx
 unfold allL at hx ⊢
 rw [List.map_append]
 rcases List.mem_append.1 hx with h | h
 ·exact List.mem_append.2 (.inl (List.mem_append.2 (.inl h)))
 ·exact List.mem_append.2 (.inr h)
theorem law_more {T:Nat} {l:List Ru} {r:Ru} {wide:Int} {c:Cyl} (hc:checkCyl (withF c [])=0) (hT:c.turns=T)
  (hs:∀ t,1≤t→t≤T→∃ lo hi,IsSpan (T+1) (allL T l) t lo hi) (hs2:∀ t,1≤t→t≤T→∃ lo hi,IsSpan (T+1) (allL T (l++[r])) t lo hi) {k:Nat} (hk:k≤tK c) :
  mostK (withF c (fragS T l wide)) k≤mostK (withF c (fragS T (l++[r]) wide)) k:=by
 refine most_less (fragS_ok T (l++[r]) wide hc hT) (fragS_ok T l wide hc hT) (fun x hx=>?_) hk
 obtain ⟨t,h1,h2,h3⟩:=fragL_mem.1 hx
 refine fragL_mem.2 ⟨t,h1,h2,?_⟩
 obtain ⟨lo,hi,ha⟩:=hs (t+1) (by omega) (by omega)
 obtain ⟨lo',hi',hb⟩:=hs2 (t+1) (by omega) (by omega)
 rw [widF_eq (by omega) (by omega) hb] at h3
 rw [widF_eq (by omega) (by omega) ha]
 have:=span_more allL_more (by omega) (by omega) ha hb
 omega
end Go.Proofs.YtaihbcmifjmapaaGreat
