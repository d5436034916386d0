/- Contract of the law TopOneGroove. -/
import Derived.Test.YtibmeigdjghkcaaGreatGvQ2
import Derived.Test.YtibmeigdjghkcaaGreatGvN
import Derived.Test.YtibmeigdjghkcaaGreatJs2
import Derived.Test.YtibmeigdjghkcaaGreatPub
import Derived.Test.YtibmeigdjghkcaaGreatRfJM
import Derived.Test.YtibmeigdjghkcaaGreatPe2
import Derived.Test.YtibmeigdjghkcaaGreatWrk6
namespace Go.Proofs.YtibmeigdjghkcaaGreat.J
open Go.RowKit Go.Shelf
set_option linter.unusedVariables false
theorem slT_lk6:SlT 31 36 3 24 (.agg #[.int .i64 0,.int .i64 0,.int .i64 0]):=⟨Tryz.underlying31,by kernel_rfl,rfl,by omega⟩
theorem slT_int6:SlT 30 3 1 8 (.int .i64 0):=⟨Tryz.underlying30,by kernel_rfl,rfl,by omega⟩
theorem stPost_at {w w':World} {m:List St×Int} {r:Ending} {l:List St} {e:Int} (h:StPost w m r w') (hm:m=(l,e)):∃ A cap,r = .returned (.tuple #[.slice A l.length cap,.int .i64 e])∧Arr w' w'.heap.size 2 (.slice A l.length cap) l stcell∧Below w.heap.size w w':=by
 subst hm; exact h
theorem intL_app6 (x y:List Nat):intL (x++y)=intL x++intL y:=by unfold intL; rw [List.map_append]
theorem way_key {ps y:List Nat} {a b n P:Nat} (hne:a≠b) (h:WayI ps a b n y) (hp:ps[n]? = some P) :
  (decide (0 < y.length)=false∧((P:Int)==(a:Int))=false∧((P:Int)==(b:Int))=false∧Hid (WayI ps a b (n+1) y)) ∨
  ((decide (0 < y.length)=false∧((P:Int)==(a:Int))=true∧((P:Int)==(b:Int))=false∧Hid (WayI ps a b (n+1) (y++[P]))) ∨
   (decide (0 < y.length)=false∧((P:Int)==(a:Int))=false∧((P:Int)==(b:Int))=true∧Hid (WayI ps a b (n+1) (y++[P]))) ∨
   (decide (0 < y.length)=true∧((P:Int)==(a:Int))=false∧((P:Int)==(b:Int))=false∧Hid (WayI ps a b (n+1) (y++[P])))) ∨
  ((decide (0 < y.length)=true∧((P:Int)==(a:Int))=true∧((P:Int)==(b:Int))=false∧Hid (WayD ps a b (y++[P]))) ∨
   (decide (0 < y.length)=true∧((P:Int)==(a:Int))=false∧((P:Int)==(b:Int))=true∧Hid (WayD ps a b (y++[P])))):=by
 have yes:∀ q:Nat,P=q→((P:Int)==(q:Int))=true:=fun q e=>by rw [e]; exact beq_self_eq_true _
 have no:∀ q:Nat,P≠q→((P:Int)==(q:Int))=false:=fun q e=>beq_eq_false_iff_ne.2 (by omega)
 by_cases hy:y=[]
 ·subst hy
  by_cases ha:P=a
  ·exact .inr (.inl (.inl ⟨by simp,yes _ ha,no _ (fun e=>hne (ha.symm.trans e)),way_first h hp (.inl ha)⟩))
  ·by_cases hb:P=b
   ·exact .inr (.inl (.inr (.inl ⟨by simp,no _ ha,yes _ hb,way_first h hp (.inr hb)⟩)))
   ·exact .inl ⟨by simp,no _ ha,no _ hb,way_skip h hp (fun k=>k.elim ha hb)⟩
 ·have hl:decide (0 < y.length)=true:=decide_eq_true (List.length_pos_iff.2 hy)
  by_cases ha:P=a
  ·exact .inr (.inr (.inl ⟨hl,yes _ ha,no _ (fun e=>hne (ha.symm.trans e)),way_end h hy hp (.inl ha)⟩))
  ·by_cases hb:P=b
   ·exact .inr (.inr (.inr ⟨hl,no _ ha,yes _ hb,way_end h hy hp (.inr hb)⟩))
   ·exact .inr (.inl (.inr (.inr ⟨hl,no _ ha,no _ hb,way_on h hy hp (fun k=>k.elim ha hb)⟩)))
theorem rem_of {p n m:Nat} (h:m=p % n):(p:Int).tmod (n:Int)=(m:Int):=by rw [h]; rfl
set_option maxRecDepth 100000 in
set_option maxHeartbeats 6400000 in
theorem topGroove_ok (v:Value) (c:Cyl) (num p q:Nat) (w:World) (hv:CylV w w.heap.size v c) (hnum:num < 4294967296) (hp256:p < 256) (hq256:q < 256) :
  Calls Tryz.prog 3 #[v,.int .u32 num,.int .u8 p,.int .u8 q] w fun r w'=>r = .returned (.bool true)∧Below w.heap.size w w':=by
 obtain ⟨pa,pc,rfl,hp⟩:=hv.open_
 have hC:=CB.new hp
 have hB:=(Below.refl w.heap.size w).alloc (Nat.le_refl _) (.cells #[.slice pa c.pcs.length pc,.int .i64 c.off,.int .i64 c.slo,.int .i64 c.shi] 26)
 go_enter Tryz.func3,Tryz.ntmps3
 go_upto_region 1 with (fail)
 have HWS:Hid ((w.alloc (.cells #[.slice pa c.pcs.length pc,.int .i64 c.off,.int .i64 c.slo,.int .i64 c.shi] 26)).heap.size=w.heap.size+1):=by simp [Hid]
 generalize hW:w.alloc (.cells #[.slice pa c.pcs.length pc,.int .i64 c.off,.int .i64 c.slo,.int .i64 c.shi] 26)=W at *
 clear hW hp
 obtain ⟨k0,k1,k2,k3⟩:=hC.c4
 go_wp2_with fail
 refine (cyl03_ok _ c W hC.cyl).mono ?_
 rintro e w1 ⟨rfl,hb1⟩
 replace hC:=hC.call hb1
 replace hB:=hB.trans (hb1.mono hB.size)
 clear k0 k1 k2 k3 hb1
 obtain ⟨k0,k1,k2,k3⟩:=hC.c4
 by_cases h0:checkCyl c=0
 rotate_left
 ·rw [decide_eq_false h0]
  clear h0 hC
  go_wp2_with fail
  refine (w06_ok _).mono ?_
  rintro e wz ⟨rfl,hz⟩
  go_wp2
  try rw [Exit.noGoto_ret]
  go_ret
  exact ⟨rfl,hB.trans (hz.mono hB.size)⟩
 rw [decide_eq_true h0]
 have hl8:=(cyl_bounds h0).1.2
 by_cases h2:c.pcs.length < 2
 ·have d1:decide (c.pcs.length < 2)=true:=decide_eq_true h2
  have d1':decide ((c.pcs.length:Int) < 2)=true:=decide_eq_true (by omega)
  clear h0 hC h2
  go_wp2_with fail
  refine (w06_ok _).mono ?_
  rintro e wz ⟨rfl,hz⟩
  go_wp2
  try rw [Exit.noGoto_ret]
  go_ret
  exact ⟨rfl,hB.trans (hz.mono hB.size)⟩
 have d1:decide (c.pcs.length < 2)=false:=decide_eq_false h2
 have d1':decide ((c.pcs.length:Int) < 2)=false:=decide_eq_false (by omega)
 obtain ⟨N,hN⟩:∃ N,N=c.pcs.length:=⟨_,rfl⟩
 rw [← hN] at h2 hl8
 obtain ⟨a,ha⟩:∃ a,a=p % N:=⟨_,rfl⟩
 have ha1:a < N:=by rw [ha]; exact Nat.mod_lt _ (by omega)
 obtain ⟨m,hm⟩:∃ m,m=q % (N-1):=⟨_,rfl⟩
 have hm1:m < N-1:=by rw [hm]; exact Nat.mod_lt _ (by omega)
 obtain ⟨b,hb⟩:∃ b,b=(a+1+m) % N:=⟨_,rfl⟩
 have hb1:b < N:=by rw [hb]; exact Nat.mod_lt _ (by omega)
 have hne:a≠b:=by
  rcases Nat.lt_or_ge (a+1+m) N with h | h
  ·rw [Nat.mod_eq_of_lt h] at hb; omega
  ·have:(a+1+m) % N=a+1+m-N:=by rw [Nat.mod_eq_sub_mod h,Nat.mod_eq_of_lt (by omega)]
   omega
 have m1:(p:Int).tmod (c.pcs.length:Int)=(a:Int):=by rw [← hN]; exact rem_of ha
 have m2:(q:Int).tmod ((c.pcs.length:Int)-1)=(m:Int):=by
  have:=rem_of hm
  rw [Int.ofNat_sub (by omega)] at this
  rw [← hN]
  exact this
 have m3:((a:Int)+1+(m:Int)).tmod (c.pcs.length:Int)=(b:Int):=by
  have:=rem_of hb
  rw [← hN]
  exact this
 have wp:IntKind.i64.wrap (p:Int)=p:=wrap_id _ (by omega) (by omega)
 have wq:IntKind.i64.wrap (q:Int)=q:=wrap_id _ (by omega) (by omega)
 have wa:IntKind.i64.wrap (a:Int)=a:=wrap_id _ (by omega) (by omega)
 have wm:IntKind.i64.wrap (m:Int)=m:=wrap_id _ (by omega) (by omega)
 have wb:IntKind.i64.wrap (b:Int)=b:=wrap_id _ (by omega) (by omega)
 have wa1:IntKind.i64.wrap ((a:Int)+1)=(a:Int)+1:=wrap_id _ (by omega) (by omega)
 have wn1:IntKind.i64.wrap ((c.pcs.length:Int)-1)=(c.pcs.length:Int)-1:=wrap_id _ (by omega) (by omega)
 have wab:IntKind.i64.wrap ((a:Int)+1+(m:Int))=(a:Int)+1+(m:Int):=wrap_id _ (by omega) (by omega)
 have nz:¬ c.pcs=[]:=fun e=>by rw [e] at hN; simp at hN; omega
 have nz0:¬ (c.pcs.length:Int)=0:=by omega
 have nz1:¬ (c.pcs.length:Int)-1=0:=by omega
 have HI:Hid (GvIn c a b):=⟨h0,by omega,by omega,by omega,by omega,hne⟩
 have HN:Hid (N=c.pcs.length):=hN
 have HNU:=Lib.hid hnum
 clear ha hm hb hnum hp256 hq256 hne hN
 go_upto_region 6 with (fail)
 clear k0 k1 k2 k3 m1 m2 m3 wp wq wa wm wb wa1 wn1 wab nz0 nz1 ha1 hm1 hb1 d1 d1' h0
 go_upto_region 7 with (fail)
 have hC0:=hC.blk.lt
 have hA:=Blk.new w1 3 #[.int .i64 (a:Int)]
 have hb1:=(Below.refl w1.heap.size w1).alloc (Nat.le_refl _) (.cells #[.int .i64 (a:Int)] 3)
 replace hC:=hC.call hb1
 replace hB:=hB.trans (hb1.mono hB.size)
 have hs3:(w1.alloc (.cells #[.int .i64 (a:Int)] 3)).heap.size=w1.heap.size+1:=by simp
 obtain ⟨ga,hga⟩:∃ ga,ga=w1.heap.size:=⟨_,rfl⟩
 have hwl:=hC0
 rw [← hga] at hA hs3 hwl ⊢
 generalize w1.alloc (.cells #[.int .i64 (a:Int)] 3)=w3 at *
 have hAb:=Blk.new w3 3 #[.int .i64 (b:Int)]
 have hb2:=(Below.refl w3.heap.size w3).alloc (Nat.le_refl _) (.cells #[.int .i64 (b:Int)] 3)
 replace hC:=hC.call hb2
 replace hA:=hA.call hb2
 replace hB:=hB.trans (hb2.mono hB.size)
 have hs4:(w3.alloc (.cells #[.int .i64 (b:Int)] 3)).heap.size=ga+1+1:=by simp [hs3]
 rw [hs3] at hAb
 generalize w3.alloc (.cells #[.int .i64 (b:Int)] 3)=w4 at *
 have hL:=Blk.new w4 33 #[.int .i64 c.pcs.length,.slice none 0 0,.slice (some ⟨ga,0,none⟩) 1 1,.slice (some ⟨ga+1,0,none⟩) 1 1]
 have hb3:=(Below.refl w4.heap.size w4).alloc (Nat.le_refl _) (.cells #[.int .i64 c.pcs.length,.slice none 0 0,.slice (some ⟨ga,0,none⟩) 1 1,.slice (some ⟨ga+1,0,none⟩) 1 1] 33)
 replace hC:=hC.call hb3
 replace hA:=hA.call hb3
 replace hAb:=hAb.call hb3
 replace hB:=hB.trans (hb3.mono hB.size)
 rw [hs4] at hL
 have hs5:(w4.alloc (.cells #[.int .i64 c.pcs.length,.slice none 0 0,.slice (some ⟨ga,0,none⟩) 1 1,.slice (some ⟨ga+1,0,none⟩) 1 1] 33)).heap.size=ga+1+1+1:=by simp [hs4]
 generalize w4.alloc (.cells #[.int .i64 c.pcs.length,.slice none 0 0,.slice (some ⟨ga,0,none⟩) 1 1,.slice (some ⟨ga+1,0,none⟩) 1 1] 33)=w5 at *
 clear hb1 hb2 hb3 hs3 hs4 hga w3 w4
 obtain ⟨gl,hgl⟩:∃ gl,gl=ga+1+1:=⟨_,rfl⟩
 rw [← hgl] at hL hs5 ⊢
 have hgl5:=hL.lt
 have HGL:Hid (ga+1 < gl):=by rw [Hid,hgl]; omega
 have HG0:Hid (w.heap.size < gl):=by rw [Hid,hgl]; omega
 have HS5:=Lib.hid hs5
 clear hgl hs5 HN hl8 h2 N hwl hC0
 have hl8:=HI.out.eight
 have h2:=HI.out.two
 have H0:=Lib.hid HI.out.ok
 have hown0:w5.ownsRow w5.heap.size 36 3 (.slice none 0 0) 0 ((lksG c 0).flatMap (cellsOf 3 lkcell)):=World.ownsRow_nil _ _ _ _
 go_wp2
 go_loopw [13] (fun i wr=>∃ (k n:Nat) (yA:Option Addr) (yc:Nat),k≤c.pcs.length∧i = .int .i64 k∧Hid (n=(lksG c k).length)∧Blk wr gl 33 #[.int .i64 c.pcs.length,.slice yA n yc,.slice (some ⟨ga,0,none⟩) 1 1,.slice (some ⟨ga+1,0,none⟩) 1 1]∧wr.ownsRow w5.heap.size 36 3 (.slice yA n yc) n ((lksG c k).flatMap (cellsOf 3 lkcell))∧Below gl w5 wr) (fun i _=>c.pcs.length-(intOf i).toNat)
 case atStart=>exact ⟨0,0,none,0,Nat.zero_le _,rfl,rfl,hL,hown0,Below.refl _ _⟩
 case round =>
  clear hown0 hL
  obtain ⟨k,n,yA,yc,hk,rfl,HN,hLr,hown,hbr⟩:=hrel
  by_cases hlt:k < c.pcs.length
  ·have d2:decide (k < c.pcs.length)=true:=decide_eq_true hlt
   have d2':decide ((k:Int) < (c.pcs.length:Int))=true:=decide_eq_true (by omega)
   have HK:=Lib.hid hlt
   obtain ⟨wo,rfl⟩:∃ wo,wo=wr:=⟨_,rfl⟩
   go_wp2
   go_loopw [14] (fun i wr=>∃ (j n:Nat) (yA:Option Addr) (yc:Nat),j≤k∧i = .int .i64 j∧Hid (n=(lksG c k++rowG c k j).length)∧Blk wr gl 33 #[.int .i64 c.pcs.length,.slice yA n yc,.slice (some ⟨ga,0,none⟩) 1 1,.slice (some ⟨ga+1,0,none⟩) 1 1]∧wr.ownsRow w5.heap.size 36 3 (.slice yA n yc) n ((lksG c k++rowG c k j).flatMap (cellsOf 3 lkcell))∧Below gl w5 wr) (fun i _=>k-(intOf i).toNat)
   case atStart=>exact ⟨0,n,yA,yc,Nat.zero_le _,rfl,by rw [Hid,show lksG c k++rowG c k 0=lksG c k by simp [rowG]]; exact HN.out,hLr,by rw [show lksG c k++rowG c k 0=lksG c k by simp [rowG]]; exact hown,hbr⟩
   case round =>
    clear hLr hown hbr HN n yA yc
    obtain ⟨j,n,yA,yc,hj,rfl,HN,hLr,hown,hbr⟩:=hrel
    by_cases hjk:j < k
    ·have d3:decide (j < k)=true:=decide_eq_true hjk
     have d3':decide ((j:Int) < (k:Int))=true:=decide_eq_true (by omega)
     have hCr:=hC.belowB hbr HG0.out
     obtain ⟨k0,k1,k2,k3⟩:=hCr.c4
     go_wp2_with fail
     refine (near06_ok _ c k j _ hCr.cyl H0.out).mono ?_
     rintro e wx ⟨rfl,hb⟩
     replace hLr:=hLr.call hb
     replace hown:=own_call hown hb
     replace hbr:=hbr.trans (hb.mono (by have:=hLr.lt; have:=hbr.size; omega))
     replace hCr:=hCr.call hb
     clear hb k0 k1 k2 k3
     cases h1:nearB c k j
     case' false =>
      obtain ⟨k0,k1,k2,k3⟩:=hCr.c4
      go_wp2_with fail
      refine (near06_ok _ c j k _ hCr.cyl H0.out).mono ?_
      clear hCr
      rintro e wx ⟨rfl,hb⟩
      replace hLr:=hLr.call hb
      replace hown:=own_call hown hb
      replace hbr:=hbr.trans (hb.mono (by have:=hLr.lt; have:=hbr.size; omega))
      clear hb k0 k1 k2 k3
      cases h2':nearB c j k
      case false =>
       have HLK:Hid (lksG c k++rowG c k (j+1)=lksG c k++rowG c k j):=by rw [Hid,rowG_succ]; unfold linkG; rw [h1,h2']; simp
       rw [← HLK.out] at hown
       have HN2:Hid (n=(lksG c k++rowG c k (j+1)).length):=by rw [Hid,HLK.out]; exact HN.out
       clear h1 h2' HLK HN
       go_wp2
       go_roundw
       case rel=>exact ⟨j+1,n,yA,yc,by omega,by go_num,HN2,hLr,hown,hbr⟩
       case measure=>(simp [intOf]; try omega)
     all_goals
      have HLK:Hid (lksG c k++rowG c k (j+1)=(lksG c k++rowG c k j)++[⟨(k:Int),(j:Int),1⟩]):=by
       rw [Hid,rowG_succ]
       unfold linkG
       simp [*]
      try clear h2'
      try clear hCr
      clear h1
      have hn80:n≤100:=by
       rw [HN.out,List.length_append]
       have h1:=lksG_len c c.pcs.length hl8 k hk
       have h2:=rowG_len c k j
       omega
      have z0:=hLr.cell 1
      have z1:=hLr.frozen 1
      simp at z0
      have hszd:w5.heap.size≤_:=hbr.size
      go_wp2_with (at_builtin; refine wpList_app2 slT_lk6 rfl (.tmp 84) (.tmp 88) rfl (sv := .slice yA n yc) rfl hown rfl rfl one_3 hszd ?_ ?_ ?_)
      any_goals omega
      intro v4 w4 hown4 hg4 hat4
      have hLd4:Blk w4 gl 33 _:=hLr.grown hg4 fun e=>by have:=(hown.lt _ e.symm).1; omega
      have hbr4:Below gl w5 w4:=hbr.trans ⟨hg4.os,hg4.tape,hg4.output,hg4.size,fun q hq=>hg4.block q (by have:=hbr.size; omega) fun e=>by have:=(hown.lt _ e.symm).1; omega⟩
      have hown5:w4.ownsRow w5.heap.size 36 3 v4 (n+1) ((lksG c k++rowG c k (j+1)).flatMap (cellsOf 3 lkcell)):=by
       rw [HLK.out,List.flatMap_append,List.flatMap_append,List.append_assoc]
       exact hown4
      have HN2:Hid (n+1=(lksG c k++rowG c k (j+1)).length):=by rw [Hid,HLK.out,List.length_append,← HN.out]; rfl
      obtain ⟨yA4,yc4,rfl⟩:=own_form hown5
      have z2:=hLd4.cell 1
      have z3:=hLd4.frozen 1
      simp at z2
      have hL5:=hLd4.set_ 1 (.slice yA4 (n+1) yc4)
      have hbr5:Below gl w5 (w4.setCell ⟨gl,1,none⟩ (.slice yA4 (n+1) yc4)):=hbr4.setCell (p:=⟨gl,1,none⟩) (Nat.le_refl _) _
      have hown6:=own_low (b:=gl) (o:=1) (y := .slice yA4 (n+1) yc4) hown5 hgl5
      clear hown4 hg4 hat4 hown hLr hbr hLd4 hbr4 hown5 z0 z1 HLK HN
      go_wp2
      go_roundw
      case rel=>exact ⟨j+1,n+1,yA4,yc4,by omega,by go_num,HN2,by simpa using hL5,hown6,hbr5⟩
      case measure=>(simp [intOf]; try omega)
    ·obtain rfl:j=k:=by omega
     have d3:decide (j < j)=false:=by simp
     have HLK:Hid (lksG c (j+1)=lksG c j++rowG c j j):=lksG_succ c j
     rw [← HLK.out] at hown
     have HN2:Hid (n=(lksG c (j+1)).length):=by rw [Hid,HLK.out]; exact HN.out
     clear HLK HN hjk hj
     go_wp2
     go_roundw
     case rel=>exact ⟨j+1,n,yA,yc,by have:=HK.out; omega,by go_num,HN2,hLr,hown,hbr⟩
     case measure=>(simp [intOf]; have:=HK.out; try omega)
  ·obtain rfl:k=c.pcs.length:=by omega
   have d2:decide (c.pcs.length < c.pcs.length)=false:=by simp
   have hnl:n=(nlG c a b).links.length:=HN.out
   subst hnl
   have hAr:=hA.below hbr (by have:=HGL.out; omega)
   have hAbr:=hAb.below hbr HGL.out
   have hAx:Arr wr wr.heap.size 1 (.slice (some ⟨ga,0,none⟩) (nlG c a b).left.length 1) (nlG c a b).left icell:=Arr.lit hAr hAr.lt rfl (by simp [nlG]) (by omega) (by simp [nlG,cellsOf,List.range_succ])
   have hAy:Arr wr wr.heap.size 1 (.slice (some ⟨ga+1,0,none⟩) (nlG c a b).right.length 1) (nlG c a b).right icell:=Arr.lit hAbr hAbr.lt rfl (by simp [nlG]) (by omega) (by simp [nlG,cellsOf,List.range_succ])
   have hE:NB wr gl (nlG c a b) yA yc (some ⟨ga,0,none⟩) 1 (some ⟨ga+1,0,none⟩) 1:=⟨hLr,⟨Arr.of_own hown,hAx,hAy⟩⟩
   have hCr:=hC.belowB hbr HG0.out
   have hBr:=hB.trans (hbr.mono (Nat.le_of_lt HG0.out))
   clear hLr hown hAr hAbr hAx hAy hA hAb hC hB HN hk hlt hbr hgl5
   replace hB:=hBr
   replace hC:=hCr
   clear hBr hCr
   obtain ⟨M,hM⟩:∃ M,M=(joinsS c).length:=⟨_,rfl⟩
   have hcnt:countM c=((M:Int),0):=by rw [countM_good H0.out,hM]
   have HM:=Lib.hid hM
   clear hM
   have hop:=HI.out.open_
   have hck:=check_good.2 HI.out.good
   obtain ⟨k0,k1,k2,k3⟩:=hC.c4
   go_wp2_with fail
   refine (count_ok _ c wr hC.cyl).mono ?_
   rintro e w6 hp
   clear k0 k1 k2 k3
   rw [hcnt] at hp
   obtain ⟨rfl,hb⟩:=hp
   replace hE:=hE.call hb
   replace hB:=hB.trans ((hb).mono hB.size)
   replace hC:=hC.call hb
   clear hb hcnt
   have h1:=groups_ok _ (.slice none 0 0) (nlG c a b) [] w6 hE.v Arr.nil_
   rw [hop] at h1
   obtain ⟨k0,k1,k2,k3⟩:=hE.blk.c4
   go_wp2_with fail
   refine (h1).mono ?_
   rintro e w7 hp
   clear k0 k1 k2 k3
   obtain ⟨gv,rfl,hG,hb⟩:=hp
   replace hE:=hE.call hb
   replace hB:=hB.trans ((hb).mono hB.size)
   replace hC:=hC.call hb
   clear hb h1
   have h1:=least_ok _ (nlG c a b) w7 hE.v
   rw [hck] at h1
   obtain ⟨k0,k1,k2,k3⟩:=hE.blk.c4
   go_wp2_with fail
   refine (h1).mono ?_
   rintro e w8 hp
   clear k0 k1 k2 k3
   obtain ⟨sv,rfl, -,hb⟩:=hp
   replace hE:=hE.call hb
   replace hB:=hB.trans ((hb).mono hB.size)
   replace hC:=hC.call hb
   replace hG:=hG.call hb
   clear hb h1 hck
   have HGC:=Lib.hid (gv_chain HI.out)
   have HCO:=Lib.hid (fun (x:List St) (hx:checkJoin c x=0)=>gv_costs HI.out hx)
   have h1:=chain_ok _ (.slice none 0 0) (nlG c a b) [] w8 hE.v Arr.nil_
   rcases HGC.out with ⟨hch,hco⟩ | ⟨hch,hco⟩
   rotate_left
   ·rw [hch] at h1
    have hM0:M=0:=by
     refine Classical.byContradiction fun hne=>?_
     obtain ⟨x,hx⟩:∃ x,(joinsS c)[0]? = some x:=⟨_,List.getElem?_eq_getElem (by rw [← HM.out]; omega)⟩
     have:=HCO.out x (checkJoin_iff.2 ⟨H0.out,mem_joinsS.1 (List.mem_of_getElem? hx)⟩)
     omega
    clear HGC HCO hch HM
    subst hM0
    have d3:decide (0 < lstC (nlG c a b))=false:=decide_eq_false hco
    clear hco
    generalize lstC (nlG c a b)=cost at *
    obtain ⟨k0,k1,k2,k3⟩:=hE.blk.c4
    go_wp2_with fail
    refine (h1).mono ?_
    rintro e w9 hp
    clear k0 k1 k2 k3
    obtain ⟨cv,cl,rfl,hcc,hcA,hb⟩:=hp
    replace hE:=hE.call hb
    replace hB:=hB.trans ((hb).mono hB.size)
    clear hb h1 hcc hcA hG hE hC
    go_wp2_with fail
    refine (w06_ok _).mono ?_
    rintro e wz ⟨rfl,hz⟩
    go_wp2
    try rw [Exit.noGoto_ret]
    go_ret
    exact ⟨rfl,hB.trans (hz.mono hB.size)⟩
   rw [hch] at h1
   obtain ⟨k0,k1,k2,k3⟩:=hE.blk.c4
   go_wp2_with fail
   refine (h1).mono ?_
   rintro e w9 hp
   clear k0 k1 k2 k3
   obtain ⟨cv,cl,rfl,hcc,hcA,hb⟩:=hp
   replace hE:=hE.call hb
   replace hB:=hB.trans ((hb).mono hB.size)
   replace hC:=hC.call hb
   replace hG:=hG.call hb
   have hck0:chkC (nlG c a b) [] cl=0:=hcc.2 hch
   clear hb h1 hcc hop HGC
   have d3:decide (0 < lstC (nlG c a b))=true:=decide_eq_true hco
   have d4:decide (lstC (nlG c a b) < 1)=false:=decide_eq_false (by omega)
   have dM:decide ((M:Int) < 0)=false:=decide_eq_false (by omega)
   clear hco hch
   generalize lstC (nlG c a b)=cost at *
   have h1:=rcheckChain_ok _ (.slice none 0 0) _ (nlG c a b) [] cl w9 hE.v Arr.nil_ hcA
   rw [hck0] at h1
   obtain ⟨k0,k1,k2,k3⟩:=hE.blk.c4
   go_wp2_with fail
   refine (h1).mono ?_
   rintro e w10 hp
   clear k0 k1 k2 k3
   obtain ⟨rfl,hb⟩:=hp
   replace hE:=hE.call hb
   replace hB:=hB.trans ((hb).mono hB.size)
   replace hC:=hC.call hb
   replace hG:=hG.call hb
   clear hb h1 hck0 hcA
   by_cases hM0:M=0
   ·subst hM0
    have dz:(((0:Nat):Int)==0)=true:=by simp
    clear hG hE hC HCO HM
    go_wp2_with fail
    refine (w06_ok _).mono ?_
    rintro e wz ⟨rfl,hz⟩
    go_wp2
    try rw [Exit.noGoto_ret]
    go_ret
    exact ⟨rfl,hB.trans (hz.mono hB.size)⟩
   have dz:((M:Int)==0)=false:=by simp; omega
   go_upto_region 23 with (fail)
   obtain ⟨A2,hA2⟩:∃ A2,A2=num % M:=⟨_,rfl⟩
   have hA1:A2 < M:=by rw [hA2]; exact Nat.mod_lt _ (by omega)
   have hM32:M≤4294967296:=by rw [HM.out]; exact joins_i64 hl8
   obtain ⟨l,hl⟩:∃ l,(joinsS c)[A2]? = some l:=⟨_,List.getElem?_eq_getElem (by rw [← HM.out]; exact hA1)⟩
   have hlJ:checkJoin c l=0:=checkJoin_iff.2 ⟨H0.out,mem_joinsS.1 (List.mem_of_getElem? hl)⟩
   obtain ⟨gr,hgr,hgrl⟩:=gv_group HI.out hlJ
   have HPC:=Lib.hid (gv_pcs HI.out hlJ)
   rw [hgr] at hG
   clear hgr HM HCO
   obtain ⟨gA,gc,rfl,hgl1,hgl2⟩:=hG.form
   obtain ⟨gb,go_,eA,ec,rfl,hgb,g0, -⟩:=hG.at_ (i:=0) (l:=gr) rfl
   rw [hgrl] at g0
   simp only [Nat.zero_mul,Nat.add_zero] at g0
   go_upto_region 25 with (fail)
   clear g0 hG hgl1 hgl2 d3 d4 dz
   have c1:IntKind.i64.wrap (num:Int)=num:=wrap_id _ (by omega) (by have:=HNU.out; omega)
   have m1:(num:Int).tmod (M:Int)=(A2:Int):=rem_of hA2
   have c3:IntKind.i64.wrap (A2:Int)=A2:=wrap_id _ (by omega) (by omega)
   have nzM:¬ (M:Int)=0:=by omega
   obtain ⟨k0,k1,k2,k3⟩:=hC.c4
   have f0:=Ext.of k0
   have f1:=Ext.of k1
   have f2:=Ext.of k2
   have f3:=Ext.of k3
   clear k0 k1 k2 k3 hA2
   refine wp_region_schedH (C:=fun w'=>∃ x:Ext w10,w'=x.w) [(0,true),(1,true),(2,true),(3,true),(4,false),(5,false),(6,true),(7,true),(8,true),(9,true),(10,true)] (by kernel_rfl) (by kernel_rfl) ⟨⟨w10.drew,(Below.refl _ w10).drew⟩,rfl⟩ ?_
   refine schedH_q (by rfl) (by rfl) ?_
   intro K hK
   go_big_quiet_op
   go_big_quiet_on
   refine schedH_q (by rfl) (by rfl) ?_
   intro K hK
   go_big_quiet_op
   go_big_quiet_on
   refine schedH_q (by rfl) (by rfl) ?_
   intro K hK
   go_big_quiet_op
   go_big_quiet_on
   refine schedH_q (by rfl) (by rfl) ?_
   intro K hK
   go_big_quiet_op
   go_big_quiet_on
   refine schedH_c (by rfl) (by rfl) ?_
   intro K' hK'
   have hx:Below w10.heap.size w10 w10.drew:=(Below.refl _ w10).drew
   go_wp2
   refine hK' _ _ ⟨⟨⟨w10.drew,hx⟩,rfl⟩,?_⟩
   clear hK' K'
   refine schedH_c (by rfl) (by rfl) ?_
   intro K' hK'
   have hCx:=hC.call hx
   go_wp2_with fail
   refine (nthP_ok _ c A2 w10.drew hCx.cyl).mono ?_
   rintro e w11 hp
   obtain ⟨lA,lc,rfl,hL,hb⟩:=stPost_at hp (nthM_good H0.out hl)
   replace hx:=hx.trans (hb.mono hx.size)
   go_wp2
   refine hK' _ _ ⟨⟨⟨w11,hx⟩,rfl⟩,?_⟩
   clear hK' K'
   clear hb hp hCx
   refine schedH_q (by rfl) (by rfl) ?_
   intro K hK
   go_big_quiet_op
   go_big_quiet_on
   refine schedH_q (by rfl) (by rfl) ?_
   intro K hK
   go_big_quiet_op
   go_big_quiet_on
   refine schedH_q (by rfl) (by rfl) ?_
   intro K hK
   go_big_quiet_op
   go_big_quiet_on
   refine schedH_q (by rfl) (by rfl) ?_
   intro K hK
   go_big_quiet_op
   go_big_quiet_on
   refine schedH_q (by rfl) (by rfl) ?_
   intro K hK
   go_big_quiet_op
   go_big_quiet_on
   refine schedH_nil ?_
   clear f0 f1 f2 f3 c1 m1 c3 nzM hl
   replace hC:=hC.call hx
   replace hB:=hB.trans (hx.mono hB.size)
   replace hE:=hE.call hx
   clear hx
   obtain ⟨k0,k1,k2,k3⟩:=hC.c4
   have h1:=rcheckJoin_ok _ _ c l w11 hC.cyl hL
   rw [hlJ] at h1
   go_wp2_with fail
   refine h1.mono ?_
   rintro e w12 ⟨rfl,hb⟩
   replace hE:=hE.call hb
   replace hB:=hB.trans ((hb).mono hB.size)
   replace hC:=hC.call hb
   replace hL:=(hL.below hb).more hb.size
   clear hb h1 k0 k1 k2 k3 hlJ
   go_upto_region 29 with (fail)
   go_wp2
   go_loopw [26,27] (fun o i wr=>∃ (y:List Nat) (n m:Nat) (A:Option Addr) (cap:Nat),n≤c.pcs.length∧i = .int .i64 n∧o = .slice A m cap∧wr.ownsRow w12.heap.size 3 1 (.slice A m cap) m ((intL y).map (Value.int .i64))∧Hid (WayI (pcsOf l) a b n y)∧Hid (m=y.length)∧m≤n∧Below w12.heap.size w12 wr) (fun _ i _=>c.pcs.length-(intOf i).toNat)
   case atStart=>exact ⟨[],0,0,none,0,Nat.zero_le _,rfl,rfl,by simpa [intL] using World.ownsRow_nil _ _ _ _,way_start,rfl,Nat.zero_le _,Below.refl _ _⟩
   case round =>
    obtain ⟨y,n,m,A,cap,hn,rfl,rfl,hown,HW,HY,hmn,hbr⟩:=hrel
    by_cases hlt:n < c.pcs.length
    rotate_left
    ·have hno:=way_no (ps:=pcsOf l) (by have:=HW.out; rwa [show n=(pcsOf l).length by unfold pcsOf; rw [List.length_map,HPC.out.len]; omega] at this) HI.out.ne (HPC.out.all a HI.out.a1) (HPC.out.all b HI.out.b1)
     exact hno.elim
    have d5:decide (n < c.pcs.length)=true:=decide_eq_true hlt
    have d5':decide ((n:Int) < (c.pcs.length:Int))=true:=decide_eq_true (by omega)
    have hll:n < l.length:=by rw [HPC.out.len]; exact hlt
    obtain ⟨xb,xo,x,hxa,hxb,hx1,hx2⟩:=(hL.below hbr).at_ hll
    subst hxa
    obtain ⟨xp,xt⟩:=x
    have c0:=hx2 0 (by omega)
    simp only [Nat.add_zero,stcell] at c0
    obtain ⟨hP1, -⟩:=HPC.out.at_ _ (List.mem_of_getElem? hx1)
    obtain ⟨P,hP⟩:∃ P,P=xp.toNat:=⟨_,rfl⟩
    simp only at hP1
    rw [← hP] at hP1
    have hps:(pcsOf l)[n]? = some P:=by unfold pcsOf; rw [List.getElem?_map,hx1,hP]; rfl
    clear hP
    subst hP1
    have key:=way_key HI.out.ne HW.out hps
    rw [← HY.out] at key
    have hnl:(n:Int) < (l.length:Int):=by omega
    have en:IntKind.i64.wrap ((n:Int)+1)=((n+1:Nat):Int):=wrap_id _ (by omega) (by omega)
    have HLN:Hid ((y++[P]).length=m+1):=by rw [Hid,List.length_append,← HY.out]; rfl
    clear hx1 hx2 hps HW
    refine key.elim ?_ fun key=>key.elim ?_ ?_
    ·rintro ⟨dz,ea,eb,HW2⟩
     have dz':decide ((0:Int) < (m:Int))=false:=decide_eq_false (by have:=of_decide_eq_false dz; omega)
     have dy:decide ((1:Int) < (m:Int))=false:=decide_eq_false (by have:=of_decide_eq_false dz; omega)
     clear key HLN
     go_wp2
     go_roundw
     case rel=>exact ⟨y,n+1,m,A,cap,by omega,by go_num,rfl,hown,HW2,HY,by omega,hbr⟩
     case measure=>(simp [intOf]; try omega)
    ·clear key
     rintro (⟨dz,ea,eb,HW2⟩ | ⟨dz,ea,eb,HW2⟩ | ⟨dz,ea,eb,HW2⟩)
     all_goals
      first
       | have dz':decide ((0:Int) < (m:Int))=false:=decide_eq_false (by have:=of_decide_eq_false dz; omega)
       | have dz':decide ((0:Int) < (m:Int))=true:=decide_eq_true (by have:=of_decide_eq_true dz; omega)
      first
       | have dy:decide ((1:Int) < (m:Int)+1)=false:=decide_eq_false (by have:=of_decide_eq_false dz; omega)
       | have dy:decide ((1:Int) < (m:Int)+1)=true:=decide_eq_true (by have:=of_decide_eq_true dz; omega)
      obtain ⟨-,hnc,hncm⟩:=own_cap hown
      go_wp2_with (at_builtin; refine wpList_app1 slT_int6 rfl (.tmp 212) (.tmp 218) rfl (A:=A) (cc:=cap) rfl ⟨cap,hown,.inl rfl⟩ rfl rfl one_1 hbr.size ?_ ?_ ?_)
      any_goals omega
      intro v4 w4 hown4 hb4 hkeep4
      have hown5:w4.ownsRow w12.heap.size 3 1 v4 (m+1) ((intL (y++[P])).map (Value.int .i64)):=by
       rw [intL_app6,List.map_append]
       exact hown4
      have hb5:=hbr.trans hb4
      have c0':=(hb4.cell (p:=⟨xb,xo+n * 2,none⟩) hxb).trans c0
      obtain ⟨A4,c4,rfl⟩:=own_form hown5
      clear hown4 hb4 hkeep4 hown c0 hbr hnc hncm
      go_wp2
      go_roundw
      case rel=>exact ⟨y++[P],n+1,m+1,A4,c4,by omega,by go_num,rfl,hown5,HW2,by rw [Hid,HLN.out],by omega,hb5⟩
      case measure=>(simp [intOf]; try omega)
    ·clear key
     rintro (⟨dz,ea,eb,HW2⟩ | ⟨dz,ea,eb,HW2⟩)
     all_goals
      have dz':decide ((0:Int) < (m:Int))=true:=decide_eq_true (by have:=of_decide_eq_true dz; omega)
      have dy:decide ((1:Int) < (m:Int)+1)=true:=decide_eq_true (by have:=of_decide_eq_true dz; omega)
      obtain ⟨-,hnc,hncm⟩:=own_cap hown
      go_wp2_with (at_builtin; refine wpList_app1 slT_int6 rfl (.tmp 212) (.tmp 218) rfl (A:=A) (cc:=cap) rfl ⟨cap,hown,.inl rfl⟩ rfl rfl one_1 hbr.size ?_ ?_ ?_)
      any_goals omega
      intro v4 w4 hown4 hb4 hkeep4
      have hown5:w4.ownsRow w12.heap.size 3 1 v4 (m+1) ((intL (y++[P])).map (Value.int .i64)):=by
       rw [intL_app6,List.map_append]
       exact hown4
      have hb5:=hbr.trans hb4
      have c0':=(hb4.cell (p:=⟨xb,xo+n * 2,none⟩) hxb).trans c0
      obtain ⟨A4,c4,rfl⟩:=own_form hown5
      clear hown4 hb4 hkeep4 hown c0 hbr hnc hncm
      go_upto_region 35 with (fail)
      obtain ⟨hw2,hw8,e,he0,hrev,hfwd⟩:=way_chk HI.out HPC.out HW2.out
      have hB4:=hB.trans (hb5.mono hB.size)
      have hE4:=hE.call hb5
      clear HW2 c0' hL hC hE hB hb5 dz dz' dy ea eb d5 d5' hlt hll hnl en HY hmn
      generalize y++[P]=Y at *
      have hYl:(intL Y).length=m+1:=by unfold intL; rw [List.length_map,HLN.out]
      have hm8:m+1≤8:=by rw [← HLN.out]; exact hw8
      have harr:Arr w4 w4.heap.size 1 (.slice A4 (m+1) c4) (intL Y) icell:=Arr.of_own (base:=w12.heap.size) (e:=3) (by
       rw [flat_int,hYl]
       exact hown5)
      obtain ⟨fb,fo,z,rfl,hfb,hz,g1⟩:=numx_at harr (k:=0) (by omega)
      have hze:z=(e:Int):=by
       unfold intL at hz
       rw [List.getElem?_map,he0] at hz
       injection hz with hz
       exact hz.symm
      subst hze
      simp only [Nat.add_zero] at g1
      have HLN2:=Lib.hid HLN.out
      clear hz he0 hown5 HLN hw2 hw8
      by_cases hbq:e=b
      rotate_left
      ·have ef:((e:Int)==(b:Int))=false:=beq_eq_false_iff_ne.2 (by omega)
       have hck:=hfwd hbq
       clear hrev hfwd hbq
       obtain ⟨k0,k1,k2,k3⟩:=hE4.blk.c4
       have h1:=checkChain_ok _ (.slice none 0 0) _ (nlG c a b) [] (intL Y) w4 hE4.v Arr.nil_ harr
       rw [hck] at h1
       go_wp2_with fail
       refine h1.mono ?_
       rintro e w5' ⟨rfl,hb⟩
       replace hB:=hB4.trans (hb.mono hB4.size)
       clear hb h1 k0 k1 k2 k3
       go_wp2_with fail
       refine (w06_ok _).mono ?_
       rintro e wz ⟨rfl,hz⟩
       go_wp2
       try rw [Exit.noGoto_ret]
       go_ret
       exact ⟨rfl,hB.trans (hz.mono hB.size)⟩
      ·have ef:((e:Int)==(b:Int))=true:=by rw [hbq]; exact beq_self_eq_true _
       have hck:=hrev hbq
       clear hrev hfwd
       have em:IntKind.i64.wrap ((m:Int)+1-1)=(m:Int):=by rw [wrap_id _ (by omega) (by omega)]; omega
       obtain ⟨wo,rfl⟩:∃ wo,wo=w4:=⟨_,rfl⟩
       go_wp2
       go_loopw [28,29] (fun o i wr=>∃ (q m5:Nat) (A5:Option Addr) (cz5:Nat) (z:Int),q≤m+1∧i = .int .i64 z∧z=(q:Int)-1∧o = .slice A5 m5 cz5∧Hid (m5=m+1-q)∧wr.ownsRow wo.heap.size 3 1 (.slice A5 m5 cz5) m5 ((intL (Y.drop q).reverse).map (Value.int .i64))∧Below wo.heap.size wo wr) (fun _ i _=>(intOf i+1).toNat)
       case atStart=>exact ⟨m+1,0,none,0,(m:Int),Nat.le_refl _,rfl,by omega,rfl,by rw [Hid]; omega,by rw [List.drop_eq_nil_of_le (by rw [HLN2.out]; omega)]; simpa [intL] using World.ownsRow_nil _ _ _ _,Below.refl _ _⟩
       case round =>
        obtain ⟨q,m5,A5,cz5,z,hq,rfl,hzq,rfl,HM5,hown,hbr⟩:=hrel
        cases q with
        | succ k =>
          obtain rfl:z=(k:Int):=by omega
          clear hzq
          have dk:decide ((0:Int)≤(k:Int))=true:=decide_eq_true (by omega)
          obtain ⟨fb2,fo2,z2,hA2,hfb2,hz2,g2⟩:=numx_at (harr.below hbr) (k:=k) (by omega)
          obtain ⟨u,hu⟩:∃ u,Y[k]? = some u:=⟨_,List.getElem?_eq_getElem (by rw [HLN2.out]; omega)⟩
          have hzu:z2=(u:Int):=by
           unfold intL at hz2
           rw [List.getElem?_map,hu] at hz2
           injection hz2 with hz2
           exact hz2.symm
          subst hzu
          injection hA2 with hA2
          injection hA2 with e1 e2
          subst e1 e2
          have hkm:(k:Int) < (m:Int)+1:=by omega
          have ek:IntKind.i64.wrap ((k:Int)-1)=(k:Int)-1:=wrap_id _ (by omega) (by omega)
          have HD:Hid ((Y.drop k).reverse=(Y.drop (k+1)).reverse++[u]):=by
           obtain ⟨hk1,hk2⟩:=List.getElem?_eq_some_iff.1 hu
           rw [Hid,List.drop_eq_getElem_cons hk1,List.reverse_cons,hk2]
          obtain ⟨-,hnc,hncm⟩:=own_cap hown
          have hm5:m5≤8:=by have:=HM5.out; omega
          clear hz2 hu
          go_wp2_with (at_builtin; refine wpList_app1 slT_int6 rfl (.tmp 253) (.tmp 258) rfl (A:=A5) (cc:=cz5) rfl ⟨cz5,hown,.inl rfl⟩ rfl rfl one_1 hbr.size ?_ ?_ ?_)
          any_goals omega
          intro v6 w6' hown6 hb6 hkeep6
          have hown7:w6'.ownsRow wo.heap.size 3 1 v6 (m5+1) ((intL (Y.drop k).reverse).map (Value.int .i64)):=by
           rw [HD.out,intL_app6,List.map_append]
           exact hown6
          have hb7:=hbr.trans hb6
          have HM6:Hid (m5+1=m+1-k):=by rw [Hid]; have:=HM5.out; omega
          obtain ⟨A6,c6,rfl⟩:=own_form hown7
          clear hown6 hb6 hkeep6 hown g2 hbr hnc hncm hm5 HM5
          go_wp2
          go_roundw
          case rel=>exact ⟨k,m5+1,A6,c6,(k:Int)-1,by omega,rfl,rfl,rfl,HM6,hown7,hb7⟩
          case measure=>(simp [intOf]; try omega)
        | zero =>
          obtain rfl:z = -1:=by omega
          clear hzq
          have hm5:m5=m+1:=by have:=HM5.out; omega
          subst hm5
          rw [List.drop_zero] at hown
          have hE5:=hE4.call hbr
          have hYr:(intL Y.reverse).length=m+1:=by unfold intL; rw [List.length_map,List.length_reverse,HLN2.out]
          have harr5:Arr wr wr.heap.size 1 (.slice A5 (m+1) cz5) (intL Y.reverse) icell:=Arr.of_own (base:=wo.heap.size) (e:=3) (by
           rw [flat_int,hYr]
           exact hown)
          replace hB:=hB4.trans (hbr.mono hB4.size)
          obtain ⟨k0,k1,k2,k3⟩:=hE5.blk.c4
          have h1:=checkChain_ok _ (.slice none 0 0) _ (nlG c a b) [] (intL Y.reverse) wr hE5.v Arr.nil_ harr5
          rw [hck] at h1
          clear hown hbr hE4 hE5
          go_wp2_with fail
          refine h1.mono ?_
          rintro e w5' ⟨rfl,hb⟩
          replace hB:=hB.trans (hb.mono hB.size)
          clear hb h1 k0 k1 k2 k3
          go_wp2_with fail
          refine (w06_ok _).mono ?_
          rintro e wz ⟨rfl,hz⟩
          go_wp2
          try rw [Exit.noGoto_ret]
          go_ret
          exact ⟨rfl,hB.trans (hz.mono hB.size)⟩
end Go.Proofs.YtibmeigdjghkcaaGreat.J
