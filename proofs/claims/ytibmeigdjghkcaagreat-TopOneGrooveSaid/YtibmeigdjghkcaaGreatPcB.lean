/- Contracts: flowing, Least. Contracts: reach by what is left, Least. Contracts: Flow, Sides. Contract: Sides. What a side cuts: the model, the marks' cells, the two closures of Cut. Contract: Cut. -/
import Derived.Test.YtibmeigdjghkcaaGreatFl1
import Derived.BigQuiet
namespace Go.Proofs.YtibmeigdjghkcaaGreat
open Go.RowKit Go.Shelf
set_option linter.unusedVariables false
set_option maxHeartbeats 800000 in
theorem flowing_ok (v:Value) (l:NL) (w:World) (hv:NLV w w.heap.size v l) :
  Calls Tryz.prog 56 #[v] w fun r w'=>Below w.heap.size w w'∧((checkL l≠0∧r = .returned (.tuple #[.pointer none,.int .i64 (checkL l)])) ∨
   (checkL l=0∧∃ G fb f h ka kc aa ac ba bc da dc,r = .returned (.tuple #[.pointer (some ⟨G,0,none⟩),.int .i64 0])∧v=nlV l ka kc aa ac ba bc∧NetF w' w.heap.size G l ka kc aa ac ba bc da dc [] fb f h∧MaxFlow l f)):=by
 obtain ⟨ka,kc,aa,ac,ba,bc,rfl,hna⟩:=hv
 have hC:=NB.new hna
 have hB:=(Below.refl w.heap.size w).alloc (Nat.le_refl _) (.cells #[.int .i64 l.n,.slice ka l.links.length kc,.slice aa l.left.length ac,.slice ba l.right.length bc] 33)
 go_enter Tryz.func56,Tryz.ntmps56
 go_upto_region 1 with (fail)
 generalize w.alloc (.cells #[.int .i64 l.n,.slice ka l.links.length kc,.slice aa l.left.length ac,.slice ba l.right.length bc] 33)=W at *
 obtain ⟨k0,k1,k2,k3⟩:=hC.blk.c4
 have ho:=open_ok _ (.slice none 0 0) l [] W hC.v Arr.nil_
 rw [openE_nil] at ho
 have hsW:=hB.size
 go_wp2_with fail
 refine ho.mono ?_
 rintro e w1 ⟨hb,hcase⟩
 replace hB:=hB.trans (hb.mono hB.size)
 clear ho k0 k1 k2 k3
 rcases hcase with ⟨h0,rfl⟩ | ⟨h0,G,fb,ka',kc',aa',ac',ba',bc',da,dc,rfl,hveq,hdv,hN⟩
 ·have d0:(checkL l != 0)=true:=by simpa using h0
  have HN:=Lib.hid h0
  clear h0
  go_wp2
  go_ret2
  exact ⟨hB,.inl ⟨HN.out,rfl⟩⟩
 ·obtain ⟨rfl,rfl,rfl,rfl,rfl,rfl⟩:ka=ka'∧kc=kc'∧aa=aa'∧ac=ac'∧ba=ba'∧bc=bc':=by simpa [and_assoc] using hveq
  have hg:=check_good.1 h0
  have hlo:=hN.lo
  have hle:=hN.net.le
  have hN':NetF w1 w.heap.size G l ka kc aa ac ba bc da dc [] fb (fun _=>0) (fun _=>0):=⟨⟨hN.net.blk,hna.below hB,Arr.below (by
   have hd:=hN.net.dr
   obtain ⟨A,c,hvd,h1,h2,h3⟩:=hd
   exact ⟨A,c,hvd,h1,h2,fun h=>by simp at h⟩) (Below.refl _ w1),by omega⟩,hN.flow,by omega,hlo.2⟩
  have hfl:=fill_ok hN' hg
  have H0:=Lib.hid h0
  clear h0 hN hveq hdv
  go_wp2_with fail
  refine hfl.mono ?_
  rintro e w2 ⟨rfl,hch,f,h,hN2,hmf⟩
  have hB2:=hB.trans (hch.below hB.size (by omega) (by omega))
  clear hfl hch hN'
  go_wp2
  go_ret2
  exact ⟨hB2,.inr ⟨H0.out,G,fb,f,h,_,_,_,_,_,_,_,_,rfl,rfl,hN2,hmf⟩⟩
end Go.Proofs.YtibmeigdjghkcaaGreat
namespace Go.Proofs.YtibmeigdjghkcaaGreat
open Go.RowKit Go.Shelf
set_option linter.unusedVariables false
section
variable {W:World} {B G:Nat} {l:NL} {ka aa ba da:Option Addr} {kc ac bc dc:Nat} {drop:List Int} {fb:Nat} {f:Nat→Int} {h:Nat→Nat}
theorem reach_left (m:NetF W B G l ka kc aa ac ba bc da dc [] fb f h) (g:Good l) (hf:Fits l.L f) (sv:Value) (hsv:Arr W W.heap.size 1 sv l.left icell) :
  Calls Tryz.prog 54 #[.pointer (some ⟨G,0,none⟩),sv,.func (.func 57) #[.pointer (some ⟨G,0,none⟩)] #[]] W fun r w'=>∃ (ob:Nat) (o:Ord1) (ws:List (Nat×Nat)) (k:Nat),r = .returned (.slice (some ⟨ob,0,none⟩) l.N l.N)∧WayB w' ob l.N (found o)∧W.heap.size≤ob∧Bfs l.N l.L [] (leftP l.L f) (natL l.left) o o.length ws k∧Below W.heap.size W w':=by
 rw [g.left_int] at hsv
 exact reach_ok m g (fun x hx=>by cases hx) (natL l.left) sv hsv (nodup_of_lt (rises_nat g.ra).1) (fun u hu=>g.ltA (NL.mA.2 hu)) 57 (leftP l.L f) (enters_of Tryz.func57 (by kernel_rfl) rfl)
  fun u v i w1 hm hn=>(left_ok hn g hf u v i (by rw [← NL.len]; exact ((mem_waysL g.net).1 hm).1.1)).mono fun e w2 ⟨he,hb⟩=>⟨⟨_,he,rfl⟩,hb⟩
theorem reach_there (m:NetF W B G l ka kc aa ac ba bc da dc drop fb f h) (g:Good l) (hd:∀ x∈drop,0≤x) (src:List Nat) (sv:Value) (hsv:Arr W W.heap.size 1 sv (intL src) icell) (hnd:src.Nodup) (hlt:∀ u∈src,u < l.N) :
  Calls Tryz.prog 54 #[.pointer (some ⟨G,0,none⟩),sv,.func (.func 55) #[.pointer (some ⟨G,0,none⟩)] #[]] W fun r w'=>∃ (ob:Nat) (o:Ord1) (ws:List (Nat×Nat)) (k:Nat),r = .returned (.slice (some ⟨ob,0,none⟩) l.N l.N)∧WayB w' ob l.N (found o)∧W.heap.size≤ob∧Bfs l.N l.L (natL drop) anyP src o o.length ws k∧Below W.heap.size W w' :=
 reach_ok m g hd src sv hsv hnd hlt 55 anyP (enters_of Tryz.func55 (by kernel_rfl) rfl)
  fun u v i w1 hm hn=>(there_ok G u v i w1).mono fun e w2 ⟨he,hb⟩=>⟨⟨_,he,rfl⟩,hb⟩
end
def foundTo (o:Ord1) (k:Nat):List Nat:=(List.range k).filter fun u=>decide (u∈o.map (·.1))
theorem foundTo_succ (o:Ord1) (k:Nat):foundTo o (k+1)=if k∈o.map (·.1) then foundTo o k++[k] else foundTo o k:=by
 unfold foundTo
 rw [List.range_succ,List.filter_append]
 by_cases h:k∈o.map (·.1)
 ·rw [if_pos h,List.filter_cons_of_pos (by simpa using h)]; rfl
 ·rw [if_neg h,List.filter_cons_of_neg (by simpa using h)]; simp
theorem foundTo_len (o:Ord1) (k:Nat):(foundTo o k).length≤k:=by
 unfold foundTo
 exact Nat.le_trans (List.length_filter_le _ _) (by simp)
noncomputable def lstL (l:NL):List Int:=if checkL l=0 then intL (leastL l) else []
noncomputable def lstC (l:NL):Int:=if checkL l=0 then costL l else 0
open Classical in
theorem MaxFlow.foundL {l:NL} {f:Nat→Int} (m:MaxFlow l f) (g:Good l) {o:Ord1} {q k:Nat} {ws:List (Nat×Nat)} (b:Bfs l.N l.L [] (leftP l.L f) (natL l.left) o q ws k) (hq:q=o.length):foundTo o l.N=leastL l:=by
 unfold foundTo leastL
 refine List.filter_congr fun u hu=>?_
 rw [List.mem_range] at hu
 rw [Bool.eq_iff_iff,decide_eq_true_eq,decide_eq_true_eq,b.all hq,m.least g hu]
theorem MaxFlow.costL_eq {l:NL} {f:Nat→Int} (m:MaxFlow l f) (g:Good l):greatF l.N l.L f l.A=costL l:=m.cost g (m.cheap_least g)
theorem neq_way {N:Nat} {L:List Lk} {drop:List Nat} {p:Pass} {src:List Nat} {o:Ord1} {q k:Nat} {ws:List (Nat×Nat)} (hN:Net N L) (b:Bfs N L drop p src o q ws k) (v:Nat) (w:World) :
  (Op.equalIn 10000 131 (.agg #[.int .i64 (wayF v (found o v)),.int .i64 (wayT v (found o v)),.int .i64 (wayL v (found o v))]) (.agg #[.int .i64 0,.int .i64 0,.int .i64 0])).run Tryz.prog w = .ok (!decide (v∈o.map (·.1))) w:=by
 rw [eq_way,way_none hN b v]
set_option maxHeartbeats 1600000 in
theorem least_ok (v:Value) (l:NL) (w:World) (hv:NLV w w.heap.size v l) :
  Calls Tryz.prog 13 #[v] w fun r w'=>∃ sv,r = .returned (.tuple #[sv,.int .i64 (lstC l),.int .i64 (checkL l)])∧Arr w' w'.heap.size 1 sv (lstL l) icell∧Below w.heap.size w w':=by
 obtain ⟨ka,kc,aa,ac,ba,bc,rfl,hna⟩:=hv
 have hC:=NB.new hna
 have hB:=(Below.refl w.heap.size w).alloc (Nat.le_refl _) (.cells #[.int .i64 l.n,.slice ka l.links.length kc,.slice aa l.left.length ac,.slice ba l.right.length bc] 33)
 go_enter Tryz.func13,Tryz.ntmps13
 go_upto_region 1 with (fail)
 generalize w.alloc (.cells #[.int .i64 l.n,.slice ka l.links.length kc,.slice aa l.left.length ac,.slice ba l.right.length bc] 33)=W at *
 obtain ⟨k0,k1,k2,k3⟩:=hC.blk.c4
 have ho:=flowing_ok _ l W hC.v
 go_wp2_with fail
 refine ho.mono ?_
 rintro e w1 ⟨hb,hcase⟩
 replace hB:=hB.trans (hb.mono hB.size)
 replace hC:=hC.call hb
 clear ho k0 k1 k2 k3
 rcases hcase with ⟨h0,rfl⟩ | ⟨h0,G,fb,f,h,ka',kc',aa',ac',ba',bc',da,dc,rfl,hveq,hN,hmf⟩
 ·have d0:(checkL l != 0)=true:=by simpa using h0
  have hL:lstL l=[]:=if_neg h0
  have hc:lstC l=0:=if_neg h0
  have HL:=Lib.hid hL
  have HC:=Lib.hid hc
  clear h0 hL hc
  go_wp2
  go_ret3
  exact ⟨_,by rw [HC.out]; rfl,by rw [HL.out]; exact Arr.nil_,hB⟩
 ·obtain ⟨rfl,rfl,rfl,rfl,rfl,rfl⟩:ka=ka'∧kc=kc'∧aa=aa'∧ac=ac'∧ba=ba'∧bc=bc':=by simpa [and_assoc] using hveq
  have hg:=check_good.1 h0
  have hrl:=reach_left hN hg hmf.right.1 _ hC.na.as_
  obtain ⟨k0,k1,k2,k3⟩:=hC.blk.c4
  have HL:Hid (lstL l=intL (leastL l)):=if_pos h0
  have HCo:Hid (lstC l=costL l):=if_pos h0
  have H0:=Lib.hid h0
  clear h0 hveq
  go_wp2_with fail
  refine hrl.mono ?_
  rintro e w2 ⟨ob,o,ws,kk,rfl,hwb,hob,hbf,hb2⟩
  replace hB:=hB.trans (hb2.mono hB.size)
  have hN2:=hN.call hb2
  have hfo:=Lib.hid (hmf.foundL hg hbf rfl)
  have hcs:=Lib.hid (hmf.costL_eq hg)
  have hgr:=fun w' (hn:NetF w' W.heap.size G l ka kc aa ac ba bc da dc [] fb f h)=>great_ok hn hg (fun i hi=>hg.flow_bound hmf.right.1 hi)
  have hN40:l.N≤40:=by have:=hg.forty; have:=hg.nN; omega
  have hobl:=Blk.lt hwb
  clear hrl k0 k1 k2 k3 hC hN hb2 hb
  go_wp2
  go_loopw [7,25] (fun sv i wr=>∃ (k:Nat) (A:Option Addr) (cap:Nat),k≤l.N∧i = .int .i64 k∧sv = .slice A (foundTo o k).length cap∧wr.ownsRow w2.heap.size 3 1 (.slice A (foundTo o k).length cap) (foundTo o k).length ((intL (foundTo o k)).map (Value.int .i64))∧Below w2.heap.size w2 wr) (fun _ i _=>l.N-(intOf i).toNat)
  case atStart=>exact ⟨0,none,0,Nat.zero_le _,rfl,rfl,by simpa [foundTo,intL] using World.ownsRow_nil _ _ _ _,Below.refl _ _⟩
  case round =>
   obtain ⟨k,A,cap,hk,rfl,rfl,hown,hbw⟩:=hrel
   have hft:=foundTo_succ o k
   have hfl:=foundTo_len o k
   by_cases hlt:k < l.N
   ·have d1:decide (k < l.N)=true:=decide_eq_true hlt
    have d1':decide ((k:Int) < (l.N:Int))=true:=decide_eq_true (by omega)
    have hki:(k:Int) < (l.N:Int):=by omega
    have hwb2:WayB wr ob l.N (found o):=Blk.call hwb hbw
    obtain ⟨s0,s1,s2⟩:=WayB.at_ hwb2 hlt
    have hqq:=fun w'=>neq_way hg.net hbf k w'
    go_upto_region 8 with (fail)
    have hX:=Blk.new wr 131 #[.int .i64 (wayF k (found o k)),.int .i64 (wayT k (found o k)),.int .i64 (wayL k (found o k))]
    have hb1:=(Below.refl wr.heap.size wr).alloc (Nat.le_refl _) (.cells #[.int .i64 (wayF k (found o k)),.int .i64 (wayT k (found o k)),.int .i64 (wayL k (found o k))] 131)
    have hown1:=own_call hown hb1
    have hbw1:=hbw.trans (hb1.mono hbw.size)
    clear hown hb1 hwb2 s0 s1 s2
    have hsz1:=hbw1.size
    generalize wr.alloc (.cells #[.int .i64 (wayF k (found o k)),.int .i64 (wayT k (found o k)),.int .i64 (wayL k (found o k))] 131)=w3 at *
    have x0:=hX.cell 0
    have x1:=hX.cell 1
    have x2:=hX.cell 2
    simp at x0 x1 x2
    generalize wayF k (found o k)=yf at *
    generalize wayT k (found o k)=yt at *
    generalize wayL k (found o k)=yl at *
    by_cases hm:k∈o.map (·.1)
    ·have e1:(!decide (k∈o.map (·.1)))=false:=by rw [decide_eq_true hm]; rfl
     rw [e1] at hqq
     rw [if_pos hm] at hft
     have HFT:=Lib.hid hft
     clear hft hm e1
     generalize hn0:(foundTo o k).length=n at *
     have HN0:=Lib.hid hn0
     clear hn0
     obtain ⟨-,hnc,hncm⟩:=own_cap hown1
     go_wp2_with (at_builtin; refine wpList_app1 slT_int rfl (.tmp 38) (.tmp 40) rfl (A:=A) (cc:=n) rfl ⟨cap,hown1,.inr rfl⟩ rfl rfl one_1 hsz1 ?_ ?_ ?_)
     any_goals omega
     intro v4 w4 hown4 hb4 hkeep4
     have hown5:w4.ownsRow w2.heap.size 3 1 v4 (foundTo o (k+1)).length ((intL (foundTo o (k+1))).map (Value.int .i64)):=by
      rw [HFT.out,intL_append,List.map_append,List.length_append,HN0.out]
      exact hown4
     have hbw2:=hbw1.trans hb4
     obtain ⟨A4,c4,rfl⟩:=own_form hown5
     clear hown4 hb4 hkeep4 hown1
     go_wp2
     go_roundw
     case rel=>exact ⟨k+1,_,_,by omega,by go_num,rfl,hown5,hbw2⟩
     case measure=>(simp [intOf]; try omega)
    ·have e1:(!decide (k∈o.map (·.1)))=true:=by rw [decide_eq_false hm]; rfl
     rw [e1] at hqq
     rw [if_neg hm] at hft
     rw [← hft] at hown1
     rw [← hft]
     clear hft hm e1
     go_wp2
     go_roundw
     case rel=>exact ⟨k+1,_,_,by omega,by go_num,rfl,hown1,hbw1⟩
     case measure=>(simp [intOf]; try omega)
   ·obtain rfl:k=l.N:=by omega
    have d1:decide (l.N < l.N)=false:=by simp
    have hN3:=hN2.call hbw
    have hgr3:=great_ok hN3 hg (fun i hi=>hg.flow_bound hmf.right.1 hi)
    rw [hfo.out] at hown
    rw [hfo.out]
    rw [hcs.out] at hgr3
    have hB3:=hB.trans (hbw.mono hB.size)
    have hia:(intL (leastL l)).length=(leastL l).length:=by simp [intL]
    have harr:Arr wr wr.heap.size 1 (.slice A (leastL l).length cap) (intL (leastL l)) icell:=Arr.of_own (by rw [flat_int,hia]; exact hown)
    clear hown hft hfl hgr hia
    go_wp2_with fail
    refine hgr3.mono ?_
    rintro e w5 ⟨rfl,hb5⟩
    have harr5:=harr.call hb5
    have hB5:=hB3.trans (hb5.mono hB3.size)
    clear hgr3 harr
    go_wp2
    go_ret3
    exact ⟨_,by rw [HCo.out,H0.out]; rfl,by rw [HL.out]; exact harr5,hB5⟩
end Go.Proofs.YtibmeigdjghkcaaGreat
namespace Go.Proofs.YtibmeigdjghkcaaGreat
open Go.RowKit Go.Shelf
set_option linter.unusedVariables false
theorem kept_congr {L:List Lk} {f g:Nat→Int} (h:∀ i,i < L.length→f i=g i) (u:Nat):keptF L f u=keptF L g u:=by
 unfold keptF
 refine isum_congr fun i hi=>?_
 unfold inTo
 rw [h i (List.mem_range.1 hi)]
theorem MaxFlow.congr {l:NL} {f g:Nat→Int} (m:MaxFlow l f) (h:∀ i,i < l.L.length→f i=g i):MaxFlow l g:=by
 obtain ⟨⟨h1,h2⟩,S,h3,h4⟩:=m
 refine ⟨⟨fun i hi=>by rw [← h i hi]; exact h1 i hi,fun u hu ha hb=>by rw [← kept_congr h]; exact h2 u hu ha hb⟩,S,h3,fun u v i hw hu hv=>?_⟩
 have:=h4 u v i hw hu hv
 unfold resF at this ⊢
 rw [← h i hw.1]
 exact this
end Go.Proofs.YtibmeigdjghkcaaGreat
namespace Go.Proofs.YtibmeigdjghkcaaGreat
open Go.RowKit Go.Shelf
set_option linter.unusedVariables false
def markO (o:Ord1) (k:Nat) (v:Int) (e:Nat→Int) (u:Nat):Int:=if u < k∧u∈o.map (·.1) then v else e u
theorem markO_zero (o:Ord1) (v:Int) (e:Nat→Int):markO o 0 v e=e:=by funext u; unfold markO; rw [if_neg (by omega)]
theorem markO_yes {o:Ord1} {k:Nat} {v:Int} {e:Nat→Int} (hm:k∈o.map (·.1)) (j:Nat):markO o (k+1) v e j=if j=k then v else markO o k v e j:=by
 unfold markO
 by_cases h:j=k
 ·rw [if_pos ⟨by omega,h ▸ hm⟩,if_pos h]
 ·rw [if_neg h]
  by_cases h2:j < k∧j∈o.map (·.1)
  ·rw [if_pos ⟨by omega,h2.2⟩,if_pos h2]
  ·rw [if_neg h2,if_neg fun h=>h2 ⟨by omega,h.2⟩]
theorem markO_no {o:Ord1} {k:Nat} {v:Int} {e:Nat→Int} (hm:k∉o.map (·.1)):markO o (k+1) v e=markO o k v e:=by
 funext j
 unfold markO
 by_cases h2:j < k∧j∈o.map (·.1)
 ·rw [if_pos h2,if_pos ⟨by omega,h2.2⟩]
 ·rw [if_neg h2,if_neg fun h=>h2 ⟨by
   have:j≠k:=fun e=>hm (e ▸ h.2)
   omega,h.2⟩]
end Go.Proofs.YtibmeigdjghkcaaGreat
namespace Go.Proofs.YtibmeigdjghkcaaGreat
open Go.RowKit Go.Shelf
set_option linter.unusedVariables false
section
variable {l:NL} {S:List Int}
end
def BoolB (W:World) (b n:Nat) (m:Nat→Bool):Prop:=Blk W b 4 (rowA n fun u => .bool (m u))
section
variable {W:World} {b n:Nat} {m:Nat→Bool}
theorem BoolB.at_ (h:BoolB W b n m) {i:Nat} (hi:i < n):W.cell? ⟨b,i,none⟩=some (.bool (m i)):=(Blk.cell h i).trans (rowA_get hi)
theorem BoolB.put (h:BoolB W b n m) {i:Nat} {x:Bool} {g:Nat→Bool} (hg:∀ j,j < n→g j=if j=i then x else m j):BoolB (W.setCell ⟨b,i,none⟩ (.bool x)) b n g:=by
 have:=Blk.set_ h i (.bool x)
 rw [rowA_set (g:=fun u => .bool (g u)) fun j hj=>by rw [hg j hj]; split <;> rfl] at this
 exact this
end
end Go.Proofs.YtibmeigdjghkcaaGreat
namespace Go.Proofs.YtibmeigdjghkcaaGreat
open Go.RowKit Go.Shelf
set_option linter.unusedVariables false
theorem own_block {w:World} {base n size cap:Nat} {e:TypeId} {A:Option Addr} {xs:List Value} (h:w.ownsRow base e size (.slice A n cap) n xs):∀ ad,A=some ad→ad.block < w.heap.size:=by
 intro ad hA
 rcases h.2 with ⟨h1, -⟩ | ⟨g,c,cur,h1, -,h3, -⟩
 ·injection h1 with h1
  rw [h1] at hA
  cases hA
 ·injection h1 with h1
  rw [h1] at hA
  injection hA with hA
  rw [← hA]
  exact heap_lt h3
end Go.Proofs.YtibmeigdjghkcaaGreat
