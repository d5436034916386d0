/- Contract: play.Worths. -/
import Derived.Test.YtaihbcmifjmapaaGreatFill
import Derived.Test.YtaihbcmifjmapaaGreatPT
import Derived.Test.YtaihbcmifjmapaaGreatPB
import Derived.Shelf.SlicesQ.Reverse
import Derived.Ground.SlgnProg
import Derived.ChangeKeysEq
import Derived.Test.YtaihbcmifjmapaaGreatPE
namespace Go.Proofs.YtaihbcmifjmapaaGreat
open Go.RowKit Go.Shelf
set_option linter.unusedVariables false
theorem gives_own (w:World) (B g:Nat) (c:Cyl):Gives w B g c 17 #[.pointer (some ⟨g,0,none⟩)] #[] c.pas.length (ownW c.pas):=by
 refine ⟨enters_of Tryz.func17 (by kernel_rfl) rfl,fun i hi w1 V m hg hb=>?_⟩
 obtain ⟨p,hp⟩:∃ p,c.pas[i]? = some p:=⟨c.pas[i],List.getElem?_eq_getElem hi⟩
 rw [ownW_get hp]
 simpa using own_ok i B g c p V m w1 hb hp
theorem Arr.part {w:World} {B g off n cap:Nat} {l:List Int} (hn:n=l.length) (h1:l.length≤cap) (h2:cap≤9223372036854775807) (hg:g < B)
  (hc:∀ i x,l[i]? = some x→w.cell? ⟨g,off+i,none⟩=some (.int .i64 x)):Arr w B 1 (.slice (some ⟨g,off,none⟩) n cap) l icell:=by
 subst hn
 refine ⟨_,cap,rfl,h1,h2,fun _=>⟨g,off,rfl,hg,fun i x hx j hj=>?_⟩⟩
 obtain rfl:j=0:=by omega
 rw [Nat.mul_one,Nat.add_zero]
 exact hc i x hx
def WorthsPost (c:Cyl) (w:World) (r:Ending) (w':World):Prop :=
 ∃ ov,r = .returned (.tuple #[ov,.int .i64 (checkCyl c)])∧Arr w' w'.heap.size 1 ov (worthsOf c) icell∧Below w.heap.size w w'
set_option maxRecDepth 100000 in
set_option maxHeartbeats 1600000 in
theorem worths_ok (v:Value) (c:Cyl) (w:World) (hv:CylV w w.heap.size v c) :
  Calls Tryz.prog 7 #[v] w (WorthsPost c w):=by
 obtain ⟨fa,fc,pa,pc,rfl,hf,hp⟩:=hv.open_
 have hC:=CB.new hf hp
 have hB:=(Below.refl w.heap.size w).alloc (Nat.le_refl _) (.cells #[.int .i64 c.turns,.int .i64 c.long,.int .i64 c.plays,.slice fa c.frag.length fc,.slice pa c.pas.length pc] 34)
 go_enter Tryz.func7,Tryz.ntmps7
 go_upto_region 1 with (fail)
 generalize hW:w.alloc (.cells #[.int .i64 c.turns,.int .i64 c.long,.int .i64 c.plays,.slice fa c.frag.length fc,.slice pa c.pas.length pc] 34)=W at *
 clear hW hf hp
 obtain ⟨k0,k1,k2,k3,k4⟩:=hC.c5
 go_wp2_with fail
 refine (checkCyl_ok _ c _ hC.cyl).mono ?_
 rintro e w1 ⟨rfl,hb1⟩
 have hB1:=hB.trans (hb1.mono hB.size)
 have hC1:=hC.call hb1
 clear k0 k1 k2 k3 k4
 obtain ⟨k0,k1,k2,k3,k4⟩:=hC1.c5
 by_cases h0:checkCyl c=0
 case neg =>
  have hn1:(checkCyl c==0)=false:=by simpa using h0
  have hn2:(checkCyl c != 0)=true:=by simpa using h0
  have HC:Hid (worthsOf c=[]):=by simp [Hid,worthsOf,h0]
  clear h0
  go_wp2
  go_ret2
  exact ⟨_,rfl,by rw [HC.out]; exact Arr.nil_,hB1⟩
 case pos =>
  have HC:Hid (worthsOf c=rowL (tabC c (ownW c.pas)) (tK c) (tT c)):=by simp [Hid,worthsOf,h0]
  have H0:=Lib.hid h0
  obtain ⟨_,_,hlen,hall⟩:=cyl_valid h0
  have HALL:=Lib.hid hall
  clear hall
  rw [h0]
  clear h0
  go_wp2_with fail
  refine (newBoard_ok _ c _ hC1.cyl).mono ?_
  rintro e w2 ⟨rfl,hbd2,hsz2,hb2⟩
  have hB2:=hB1.trans (hb2.mono hB1.size)
  have hC2:=hC1.call hb2
  have hgle:w.heap.size < w1.heap.size+1:=by have:=hB1.size; omega
  have hgle1:w1.heap.size+1 < w2.heap.size:=by omega
  clear k0 k1 k2 k3 k4 hsz2
  generalize w1.heap.size+1=g at *
  obtain ⟨n1,n2,n3,n4,n5,n6,n7⟩:=cyl_nat H0.out
  have N1:=Lib.hid n1
  have N2:=Lib.hid n2
  clear n1 n2
  go_wp2_with fail
  refine (fill_ok (tT c) (tK c) _ g c N1.out n4 (by have:=N1.out; omega) N2.out n5 _ _ w2 hbd2 17 _ _ (ownW c.pas) (gives_own _ _ _ _) (fun i=>by have:=ownW_bound HALL.out i; omega) hlen).mono ?_
  rintro e w3 ⟨rfl,gm,hgm,hbd3,hm3,hgr3⟩
  have hb3:Below g w2 w3:=(Below.refl g w2).grown hgr3 (Nat.le_of_lt hgle1) (fun k hk=>by injection hk with hk; omega)
  have hB3:=hB2.trans (hb3.mono (Nat.le_of_lt hgle))
  have hC3:=hC2.belowB hb3 hgle
  obtain ⟨k0,k1,k2,k3,k4⟩:=hC3.c5
  rw [N1.out] at k0
  rw [N2.out] at k2
  clear hbd2 hgr3 hb3 hC2 hB2
  obtain ⟨fa,fc,pa,pc,hbd3⟩:=hbd3
  have a1:(tT c:Int) < 31:=by omega
  have a2:IntKind.i64.wrap ((tK c:Int)+1)=(tK c:Int)+1:=wrap_id _ (by omega) (by omega)
  have a3:(0:Int)≤(tK c:Int)+1:=by omega
  have a4:(tK c:Int)+1≤7:=by omega
  have a5:((tK c:Int)+1).toNat=tK c+1:=by omega
  go_wp2_with fail
  go_quiet (fail)
  go_wp2
  go_ret2
  refine ⟨_,ret_t2 rfl H0.out.symm,?_,bdrewN hB3 _⟩
  rw [HC.out]
  refine Arr.part (by rw [rowL_length]) (by rw [rowL_length]; omega) (by omega) hbd3.blk.lt ?_
  intro i x hx
  have hil:=(List.getElem?_eq_some_iff.1 hx).1
  rw [rowL_length] at hil
  rw [rowL_get _ _ _ _ (by omega)] at hx
  injection hx with hx
  rw [← hx]
  exact hbd3.at_ (by omega) (by omega)
end Go.Proofs.YtaihbcmifjmapaaGreat
