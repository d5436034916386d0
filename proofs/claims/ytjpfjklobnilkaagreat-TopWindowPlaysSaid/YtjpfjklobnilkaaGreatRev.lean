/- slices.Reverse at a stretch, by the kit's contract. -/
import Derived.Test.YtjpfjklobnilkaaGreatEnds
import Derived.Shelf.SlicesQ.Reverse
import Derived.Ground.SlgnProg
namespace Go.Proofs.YtjpfjklobnilkaaGreat
open Go.RowKit Go.Shelf Go.Lib
set_option linter.unusedVariables false
def Tryz.reverseStr_ren:Go.Shelf.Ren:={ f:=fun | 35=>75 | n=>n,t:=fun | 22=>42 | 23=>48 | 3=>3 | 4=>4 | 0=>0 | n=>n,g:=fun n=>n }
theorem Tryz.reverseStr:Go.Proofs.SlLaysE0.n35 Tryz.prog Tryz.reverseStr_ren :=
 { mixed:=by kernel_rfl,
   f35:=⟨Tryz.f75.name,by decide,Tryz.func75.trans (by kernel_rfl)⟩,
   t0:=Tryz.underlying0,a0:=Tryz.isAgg0,z0:=Tryz.sizeOf0,v0:=Tryz.zeroValue0,
   t3:=Tryz.underlying3,a3:=Tryz.isAgg3,z3:=Tryz.sizeOf3,v3:=Tryz.zeroValue3,
   t4:=Tryz.underlying4,a4:=Tryz.isAgg4,z4:=Tryz.sizeOf4,v4:=Tryz.zeroValue4,
   t22:=Tryz.underlying42,a22:=Tryz.isAgg42,z22:=Tryz.sizeOf42,v22:=Tryz.zeroValue42 }
theorem rev_arr_cell {w:World} {B size g n cap:Nat} {α:Type} {l:List α} {cell:α→Nat→Value} (hn:n=l.length) (h1:l.length≤cap) (h2:cap≤9223372036854775807) (hg:g < B)
  (hc:∀ i x,l[i]? = some x→∀ j,j < size→w.cell? ⟨g,i * size+j,none⟩=some (cell x j)):Arr w B size (.slice (some ⟨g,0,none⟩) n cap) l cell:=by
 subst hn
 exact ⟨_,cap,rfl,h1,h2,fun _=>⟨g,0,rfl,hg,fun i x hx j hj=>by rw [Nat.zero_add]; exact hc i x hx j hj⟩⟩
theorem reverse_ok {base:Nat} (l:List Str) (A:Option Addr) (cap:Nat) (w:World) (hown:w.ownsRow base 48 2 (.slice A l.length cap) l.length (l.flatMap (cellsOf 2 scell))) :
  Calls Tryz.prog 75 #[.slice A l.length cap] w fun e w'=>e = .returned (.tuple #[])∧Arr w' w'.heap.size 2 (.slice A l.length cap) l.reverse scell∧w.grownBy w' (Value.slice A l.length cap).ownBlock:=by
 rcases l with _ | ⟨x0,l0⟩
 ·refine (AnyQ.slices_Reverse_empty Tryz.reverseStr A cap w).mono ?_
  rintro e w' ⟨rfl,rfl⟩
  exact ⟨rfl,Arr.of_own hown,World.grownBy.refl _ _⟩
 ·obtain ⟨hl,hd⟩:=hown
  rcases hd with ⟨he,h0⟩ | ⟨g,cap',cur,he,hbase,hh,hn,hcap,hsz,htake⟩
  ·simp at h0
  ·injection he with hA _ hc
   subst hA
   subst hc
   have hB:Blk w g 48 cur:=hh
   have hcell:∀ i x,(x0::l0)[i]? = some x→∀ j,j < 2→w.cell? ⟨g,i * 2+j,none⟩=some (scell x j):=by
    intro i x hx j hj
    have hil:i < (x0::l0).length:=(List.getElem?_eq_some_iff.1 hx).1
    rw [hB.cell,← flat_get 2 scell (x0::l0) i x hx j hj,← htake,List.getElem?_take,if_pos (by omega)]
    simp
   have hH:Sort.HoldsK (cellsOf 2 scell) 2 w g 0 (x0::l0).toArray:=by
    intro t ht
    rw [Sort.size_flatK] at ht
    simp only [List.size_toArray] at ht
    have hi:t / 2 < (x0::l0).length:=by omega
    have hx:(x0::l0)[t / 2]? = some (x0::l0)[t / 2]:=List.getElem?_eq_getElem hi
    refine ⟨?_,hB.frozen _⟩
    rw [Sort.get_flatK _ _ _ _ (by simpa using ht)]
    have h3:=hcell _ _ hx (t % 2) (by omega)
    rw [show t / 2 * 2+t % 2=0+t by omega] at h3
    rw [h3]
    have e1:(x0::l0).toArray[t / 2]! = (x0::l0)[t / 2]:=by rw [getElem!_pos _ _ (by simpa using hi)]; simp
    rw [e1]
    have h4:t % 2=0∨t % 2=1:=by omega
    rcases h4 with h4 | h4 <;> rw [h4] <;> rfl
   refine (AnyQ.slices_Reverse Tryz.reverseStr 2 (fun w=>by kernel_rfl) (fun w=>by kernel_rfl) (cellsOf 2 scell) (fun x=>rfl) (fun x v hv=>by simp [cellsOf,List.range_succ,scell] at hv; rcases hv with rfl | rfl <;> rfl) g 0 cap (x0::l0).toArray w hH (by simp only [List.size_toArray]; simp only [maxLen] at hcap; omega)).mono ?_
   rintro e w' ⟨rfl,n,rfl⟩
   have hH2:=Sort.holdsK_putRowK (enc:=cellsOf 2 scell) (k:=2) (Sort.ahead w n) g 0 (x0::l0).toArray (x0::l0).toArray.reverse (Sort.holdsK_ahead _ _ w n g 0 _ hH) (by simp)
   generalize hW:Sort.putRowK (cellsOf 2 scell) 2 (Sort.ahead w n) g 0 (x0::l0).toArray.reverse=W at *
   have hgr:w.grownBy W (some g):=by
    rw [← hW]
    refine ⟨rfl,rfl,rfl,?_,fun k hk hne=>?_⟩
    ·simp [Sort.putRowK]
    ·simp only [Sort.putRowK,Sort.putRow,Sort.mapBlock,Sort.heap_ahead]
     rw [Array.getElem?_modify,if_neg (fun e=>hne (by rw [e]))]
   refine ⟨rfl,?_,hgr⟩
   have hlt:g < W.heap.size:=Nat.lt_of_lt_of_le hB.lt hgr.size
   simp only [maxLen] at hcap
   refine rev_arr_cell (by simp) (by simp; simpa using hn) (by omega) hlt ?_
   intro i x hx j hj
   have hil:i < (x0::l0).reverse.length:=(List.getElem?_eq_some_iff.1 hx).1
   have hz:=hH2 (i * 2+j) (by rw [Sort.size_flatK]; simp at hil ⊢; omega)
   rw [Nat.zero_add] at hz
   rw [hz.1,Sort.get_flatK _ _ _ _ (by simp at hil ⊢; omega)]
   rw [show (i * 2+j) / 2=i by omega,show (i * 2+j) % 2=j by omega]
   have e1:(x0::l0).toArray.reverse[i]! = x:=by
    have h5:(x0::l0).toArray.reverse[i]? = some x:=by rw [← hx]; simp
    exact (Array.getElem?_eq_some_iff.1 h5).2 ▸ getElem!_pos _ _ _
   rw [e1]
   have h4:j=0∨j=1:=by omega
   rcases h4 with rfl | rfl <;> rfl
end Go.Proofs.YtjpfjklobnilkaaGreat
