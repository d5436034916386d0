/- Songs and scales as plain lists: the order by upper ends, the greedy scale, tones apart. Nothing of the program is imported here. -/
namespace Go.Proofs.YtjpfjklobnilkaaGreat.Sc
set_option linter.unusedVariables false
structure Tn where
 lo:Int
 hi:Int
 nm:Int
 deriving Inhabited,DecidableEq
def greedy:Int→List Tn→List Tn
 | _,[]=>[]
 | last,t::r=>if t.lo≤last then greedy last r else t::greedy t.hi r
def Ups (l:List Tn):Prop:=l.Pairwise fun a b=>a.hi≤b.hi
def Ord (l s:List Tn):Prop:=Ups s∧(∀ x,x∈s↔x∈l)∧s.length=l.length
def Valid (l:List Tn):Prop:=∀ t∈l,t.lo≤t.hi
theorem greedy_mem:∀ {l:List Tn} {last:Int} {x:Tn},Valid l→x∈greedy last l→x∈l∧last < x.lo
 | [],_,_,_,h=>by simp [greedy] at h
 | t::r,last,x,hv,h=>by
   have hv2:Valid r:=fun y hy=>hv y (List.mem_cons_of_mem _ hy)
   unfold greedy at h
   split at h
   ·have:=greedy_mem hv2 h
    exact ⟨List.mem_cons_of_mem _ this.1,this.2⟩
   ·rename_i hlt
    rcases List.mem_cons.1 h with rfl | h
    ·exact ⟨List.mem_cons_self ..,by omega⟩
    ·have:=greedy_mem hv2 h
     have ht:=hv t (List.mem_cons_self ..)
     exact ⟨List.mem_cons_of_mem _ this.1,by omega⟩
def ApartL (l:List Tn):Prop:=l.Pairwise fun a b=>a.hi < b.lo
theorem greedy_apart:∀ {l:List Tn} {last:Int},Valid l→ApartL (greedy last l)
 | [],_,_=>by simp [greedy,ApartL]
 | t::r,last,hv=>by
   have hv2:Valid r:=fun y hy=>hv y (List.mem_cons_of_mem _ hy)
   unfold greedy
   split
   ·exact greedy_apart hv2
   ·unfold ApartL
    rw [List.pairwise_cons]
    exact ⟨fun x hx=>(greedy_mem hv2 hx).2,greedy_apart hv2⟩
theorem greedy_len:∀ (l:List Tn) (last:Int),(greedy last l).length≤l.length
 | [],_=>by simp [greedy]
 | t::r,last=>by
   unfold greedy
   split
   ·have:=greedy_len r last; simp; omega
   ·have:=greedy_len r t.hi; simp; omega
theorem greedy_meets:∀ {l:List Tn} {last:Int},Ups l→∀ t∈l,t.lo≤last∨∃ s∈greedy last l,t.lo≤s.hi∧s.hi≤t.hi∨t=s
 | [],_,_,t,h=>by cases h
 | x::r,last,hu,t,ht=>by
   unfold Ups at hu
   rw [List.pairwise_cons] at hu
   unfold greedy
   split
   ·rename_i hx
    rcases List.mem_cons.1 ht with rfl | ht
    ·exact .inl hx
    ·exact greedy_meets hu.2 t ht
   ·rename_i hx
    rcases List.mem_cons.1 ht with rfl | ht
    ·exact .inr ⟨t,List.mem_cons_self ..,.inr rfl⟩
    ·rcases greedy_meets (last:=x.hi) hu.2 t ht with h | ⟨s,h1,h2⟩
     ·exact .inr ⟨x,List.mem_cons_self ..,.inl ⟨h,hu.1 t ht⟩⟩
     ·exact .inr ⟨s,List.mem_cons_of_mem _ h1,h2⟩
theorem apart_le:∀ {G:List Tn} {pts:List Int},ApartL G→(∀ g∈G,∃ p∈pts,g.lo≤p∧p≤g.hi)→G.length≤pts.length
 | [],_,_,_=>Nat.zero_le _
 | g::G,pts,ha,h=>by
   unfold ApartL at ha
   rw [List.pairwise_cons] at ha
   obtain ⟨p,hp,h1,h2⟩:=h g (List.mem_cons_self ..)
   have ih:=apart_le (G:=G) (pts:=pts.erase p) ha.2 fun x hx=>by
    obtain ⟨q,hq,h3,h4⟩:=h x (List.mem_cons_of_mem _ hx)
    have:=ha.1 x hx
    exact ⟨q,(List.mem_erase_of_ne (by omega)).2 hq,h3,h4⟩
   rw [List.length_erase_of_mem hp] at ih
   have:=List.length_pos_of_mem hp
   rw [List.length_cons]
   omega
def stepsF (s:List Tn):List Int:=(greedy (-1) s).map (·.hi)
def namesF (s:List Tn):List Int:=(greedy (-1) s).map (·.nm)
theorem steps_rise {s:List Tn} (h:Valid s):(stepsF s).Pairwise (· < ·):=by
 unfold stepsF
 rw [List.pairwise_map]
 have ha:=greedy_apart (last := -1) h
 unfold ApartL at ha
 refine List.Pairwise.imp_of_mem (fun {a b} _ hb hab=>?_) ha
 have:=h b (greedy_mem h hb).1
 omega
theorem steps_meet {s:List Tn} (h:Valid s) (hu:Ups s) (h0:∀ t∈s,0≤t.lo):∀ t∈s,∃ x∈stepsF s,t.lo≤x∧x≤t.hi:=fun t ht=>by
 rcases greedy_meets (last := -1) hu t ht with k | ⟨g,h1,h2⟩
 ·have:=h0 t ht; omega
 ·refine ⟨g.hi,List.mem_map.2 ⟨g,h1,rfl⟩,?_⟩
  rcases h2 with h2 | rfl
  ·exact h2
  ·exact ⟨h t ht,Int.le_refl _⟩
theorem steps_least {s:List Tn} (h:Valid s) {pts:List Int} (hp:∀ t∈s,∃ p∈pts,t.lo≤p∧p≤t.hi):(stepsF s).length≤pts.length:=by
 unfold stepsF
 rw [List.length_map]
 exact apart_le (greedy_apart h) fun g hg=>hp g (greedy_mem h hg).1
theorem steps_names (s:List Tn):(stepsF s).length=(namesF s).length:=by unfold stepsF namesF; rw [List.length_map,List.length_map]
theorem steps_few (s:List Tn):(stepsF s).length≤s.length:=by
 unfold stepsF
 rw [List.length_map]
 exact greedy_len _ _
theorem steps_in {s:List Tn} (h:Valid s) {x:Int} (hx:x∈stepsF s):∃ t∈s,x=t.hi:=by
 unfold stepsF at hx
 obtain ⟨t,ht,rfl⟩:=List.mem_map.1 hx
 exact ⟨t,(greedy_mem h ht).1,rfl⟩
end Go.Proofs.YtjpfjklobnilkaaGreat.Sc
