/- Contracts: circle, open and Span of package speed, where some speeds are true. -/
import Derived.Test.YtaihbcmifjmapaaGreatSpU
namespace Go.Proofs.YtaihbcmifjmapaaGreat
open Go.RowKit Go.Shelf Sp
set_option linter.unusedVariables false
set_option maxRecDepth 100000 in
set_option maxHeartbeats 1600000 in
theorem circle_ok {B g T:Nat} {rv:Value} {al:List Ru} {A:Option Addr} {c:Nat} {p:Nat→Int} (w:World) (hlen:al.length≤100) (hfit:∀ r∈al,0≤r.f∧r.f≤20∧0≤r.t∧r.t≤20 ∧ -100000≤r.m∧r.m≤100000)
  (hN:NetAt w B g T rv al A c) (hT:T≤20) (hNet:Net (T+1) (al.map rnOf)) (hp:Pot (al.map rnOf) p) :
  Calls Tryz.prog 133 #[.pointer (some ⟨g,0,none⟩)] w fun r w'=>r = .returned (.slice none 0 0)∧Below w.heap.size w w':=by
 obtain ⟨Bs,hBs⟩:∃ Bs,Bs=w.heap.size:=⟨_,rfl⟩
 have hBB:=hN.le
 rw [← hBs] at hBB ⊢
 go_enter Tryz.func133,Tryz.ntmps133
 go_wp2_with fail
 refine wp_scope_straight ?_
 go_upto_region 2 with (fail)
 have x4:=Blk.new w 119 #[.int .i64 0,.int .i64 0,.int .i64 0,.int .i64 0,.int .i64 0,.int .i64 0,.int .i64 0,.int .i64 0,.int .i64 0,.int .i64 0,.int .i64 0,.int .i64 0,.int .i64 0,.int .i64 0,.int .i64 0,.int .i64 0,.int .i64 0,.int .i64 0,.int .i64 0,.int .i64 0,.int .i64 0]
 have b1:=(Below.refl w.heap.size w).alloc (Nat.le_refl _) (.cells #[.int .i64 0,.int .i64 0,.int .i64 0,.int .i64 0,.int .i64 0,.int .i64 0,.int .i64 0,.int .i64 0,.int .i64 0,.int .i64 0,.int .i64 0,.int .i64 0,.int .i64 0,.int .i64 0,.int .i64 0,.int .i64 0,.int .i64 0,.int .i64 0,.int .i64 0,.int .i64 0,.int .i64 0] 119)
 have z1:(w.alloc (.cells #[.int .i64 0,.int .i64 0,.int .i64 0,.int .i64 0,.int .i64 0,.int .i64 0,.int .i64 0,.int .i64 0,.int .i64 0,.int .i64 0,.int .i64 0,.int .i64 0,.int .i64 0,.int .i64 0,.int .i64 0,.int .i64 0,.int .i64 0,.int .i64 0,.int .i64 0,.int .i64 0,.int .i64 0] 119)).heap.size=Bs+1:=by simp [hBs]
 have hN1:=hN.call b1
 rw [← hBs] at x4 b1 ⊢
 have HBs:=Lib.hid hBs
 clear hBs hN
 generalize w.alloc (.cells #[.int .i64 0,.int .i64 0,.int .i64 0,.int .i64 0,.int .i64 0,.int .i64 0,.int .i64 0,.int .i64 0,.int .i64 0,.int .i64 0,.int .i64 0,.int .i64 0,.int .i64 0,.int .i64 0,.int .i64 0,.int .i64 0,.int .i64 0,.int .i64 0,.int .i64 0,.int .i64 0,.int .i64 0] 119)=W1 at *
 have hF1:FarB W1 Bs (rounds (al.map rnOf) 0):=by unfold FarB farA rounds; rw [far_zero]; exact x4
 have hM:=MapG.new (kf:=kI) W1
 have b2:=(Below.refl W1.heap.size W1).alloc (Nat.le_refl _) (.map #[] 0)
 have z4:(W1.alloc (.map #[] 0)).heap.size=Bs+2:=by simp [z1]
 have hF4:FarB _ Bs (rounds (al.map rnOf) 0):=Blk.call hF1 b2
 have hN4:=hN1.call b2
 have hb4:=b1.trans (b2.mono (by omega))
 have hM4:MapAny _ W1.heap.size:=⟨_,hM⟩
 rw [z1] at hM4
 clear hF1 hN1 b1 b2 hM x4
 have hmm:=@run_makeMap Tryz.prog
 go_upto_region 3 with (fail)
 try rw [z1]
 clear hmm z1
 generalize W1.alloc (.map #[] 0)=W4 at *
 have q0:=hN4.blk.cell 0
 simp at q0
 go_upto_region 5 with (fail)
 clear q0
 go_loopw [5,21] (fun x i wr=>∃ (j:Nat) (bb:Bool),j≤T+1∧i = .int .i64 j∧x = .bool bb∧(j=T+1→bb=false)∧FarB wr Bs (rounds (al.map rnOf) j)∧MapAny wr (Bs+1)∧NetAt wr B g T rv al A c∧Bs+2≤wr.heap.size∧Below Bs w wr) (fun _ i _=>T+1-(intOf i).toNat)
 case atStart=>exact ⟨0,true,by omega,rfl,rfl,fun h=>by omega,hF4,hM4,hN4,by omega,hb4⟩
 case round =>
  clear hF4 hM4 hN4 hb4 z4
  obtain ⟨j,bb,hj,rfl,rfl,hbb,hF,hM,hN,hsz,hb⟩:=hrel
  by_cases hlt:j < T+1
  ·have hji:(j:Int) < (T:Int)+1:=by omega
   have hst:=step_ok wr hlen hfit hN (by omega:B≤Bs) (by omega:B≤Bs+1) (by omega) hF hM fun k v _=>rounds_bd hNet hp j k v
   have HD:Hid (j=T→((List.range 21).all fun i=>round (al.map rnOf) (rounds (al.map rnOf) j) i==rounds (al.map rnOf) j i)=true):=fun e=>by
    subst e
    have:=rounds_done hNet hp
    rw [Nat.add_sub_cancel] at this
    rw [this]
    exact (eq_all_iff _ _).2 fun _ _=>rfl
   generalize ((List.range 21).all fun i=>round (al.map rnOf) (rounds (al.map rnOf) j) i==rounds (al.map rnOf) j i)=cc at *
   clear hbb
   go_wp2_with fail
   refine hst.mono ?_
   rintro e w5 ⟨rfl,hF5,hM5,hk5⟩
   have hb5:=hk5.below (B':=Bs) (by omega) (by omega) (by omega)
   have hN5:=hN.keep fun q hq=>hk5.block q (by omega) (by omega) (by omega)
   have hB5:=hb.trans hb5
   have hs5:=hk5.size
   clear hst hF hM hN hb hk5 hb5
   go_wp2
   go_roundw
   case rel=>exact ⟨j+1,!cc,by omega,by go_num,rfl,fun e=>by rw [HD.out (by omega)]; rfl,hF5,hM5,hN5,by omega,hB5⟩
   case measure=>(simp [intOf]; try omega)
  ·obtain rfl:j=T+1:=by omega
   obtain rfl:=hbb rfl
   clear hF hM hN
   go_wp2
   go_ret
   exact ⟨rfl,hb⟩
theorem allR_fit20 {T:Nat} {l:List Ru} (h:SheetOk T l):∀ r∈allR T l,0≤r.f∧r.f≤20∧0≤r.t∧r.t≤20 ∧ -100000≤r.m∧r.m≤100000:=fun r hr=>by
 have h1:=allR_fit h r hr
 have h2:=h.t20
 omega
set_option maxRecDepth 100000 in
set_option maxHeartbeats 1600000 in
theorem open_ok (v:Value) (T:Nat) (l:List Ru) (w:World) (hk:SheetOk T l) (hf:Free T l) (hs:SheetV w w.heap.size v T l) :
  Calls Tryz.prog 57 #[v] w fun r w'=>∃ g rv A c,r = .returned (.tuple #[.pointer (some ⟨g,0,none⟩),.int .i64 0])∧NetAt w' w'.heap.size g T rv (allR T l) A c∧Below w.heap.size w w':=by
 obtain ⟨p,hp⟩:=hf
 rw [← allR_rn] at hp
 have hnet:=allL_net hk
 rw [← allR_rn] at hnet
 obtain ⟨A0,c,rfl,ha⟩:=hs
 go_enter Tryz.func57,Tryz.ntmps57
 go_upto_region 1 with (fail)
 have x0:=Blk.new w 24 #[.int .i64 T,.slice A0 l.length c]
 have hb:=(Below.refl w.heap.size w).alloc (Nat.le_refl _) (.cells #[.int .i64 T,.slice A0 l.length c] 24)
 generalize w.alloc (.cells #[.int .i64 T,.slice A0 l.length c] 24)=W at *
 have ha1:=(ha.below hb).more hb.size
 have p0:=x0.cell 0
 have p1:=x0.cell 1
 simp at p0 p1
 have HP:=Lib.hid hp
 have HN:=Lib.hid hnet
 clear hp hnet ha
 go_wp2_with fail
 refine (spSheet_ok _ T l W hk ⟨A0,c,rfl,ha1⟩).mono ?_
 rintro e w1 ⟨rfl,hb1⟩
 have ha2:=(ha1.below hb1).more hb1.size
 have x1:=x0.call hb1
 have hB1:=hb.trans (hb1.mono hb.size)
 clear p0 p1 ha1 x0 hb hb1
 have p0:=x1.cell 0
 have p1:=x1.cell 1
 simp at p0 p1
 go_wp2_with fail
 refine (newNet_ok _ T l w1 hk ⟨A0,c,rfl,ha2⟩).mono ?_
 rintro e w2 ⟨g,rv,A,c2,rfl,hN,hb2⟩
 have hB2:=hB1.trans (hb2.mono hB1.size)
 clear p0 p1 ha2 x1 hB1 hb2
 go_wp2_with fail
 refine (circle_ok w2 (allR_len hk) (allR_fit20 hk) hN hk.t20 HN.out HP.out).mono ?_
 rintro e w3 ⟨rfl,hb3⟩
 have hN3:=(hN.call hb3).more hb3.size (Nat.le_refl _)
 have hB3:=hB2.trans (hb3.mono hB2.size)
 clear hN hB2 hb3
 go_wp2
 go_ret2
 exact ⟨g,rv,A,c2,rfl,hN3,hB3⟩
set_option maxRecDepth 100000 in
set_option maxHeartbeats 1600000 in
theorem span_ok (v:Value) (T:Nat) (l:List Ru) (t:Nat) (w:World) (hk:SheetOk T l) (hf:Free T l) (hs:SheetV w w.heap.size v T l) (h1:1≤t) (h2:t≤T) :
  Calls Tryz.prog 18 #[v,.int .i64 t] w fun r w'=>∃ lo hi,r = .returned (.tuple #[.agg #[.int .i64 lo,.int .i64 hi],.int .i64 0])∧IsSpan (T+1) (allL T l) t lo hi∧Below w.heap.size w w':=by
 obtain ⟨p,hp⟩:=id hf
 rw [← allR_rn] at hp
 have hnet:=allL_net hk
 rw [← allR_rn] at hnet
 obtain ⟨A0,c,rfl,ha⟩:=hs
 obtain ⟨Bs,hBs⟩:∃ Bs,Bs=w.heap.size:=⟨_,rfl⟩
 have h20:=hk.t20
 rw [← hBs]
 go_enter Tryz.func18,Tryz.ntmps18
 go_upto_region 1 with (fail)
 have x0:=Blk.new w 24 #[.int .i64 T,.slice A0 l.length c]
 have b1:=(Below.refl w.heap.size w).alloc (Nat.le_refl _) (.cells #[.int .i64 T,.slice A0 l.length c] 24)
 have z1:(w.alloc (.cells #[.int .i64 T,.slice A0 l.length c] 24)).heap.size=Bs+1:=by simp [hBs]
 have x4:=Blk.new (w.alloc (.cells #[.int .i64 T,.slice A0 l.length c] 24)) 59 #[.int .i64 0,.int .i64 0]
 have b2:=(Below.refl (w.alloc (.cells #[.int .i64 T,.slice A0 l.length c] 24)).heap.size (w.alloc (.cells #[.int .i64 T,.slice A0 l.length c] 24))).alloc (Nat.le_refl _) (.cells #[.int .i64 0,.int .i64 0] 59)
 have z2:((w.alloc (.cells #[.int .i64 T,.slice A0 l.length c] 24)).alloc (.cells #[.int .i64 0,.int .i64 0] 59)).heap.size=Bs+2:=by simp [hBs]
 replace x0:=x0.call b2
 have hb:=b1.trans (b2.mono b1.size)
 rw [z1] at x4
 have ha1:=(ha.below hb).more hb.size
 rw [← hBs] at x0 hb
 have HBs:=Lib.hid hBs
 rw [← hBs]
 clear b1 b2 z1 ha hBs
 generalize (w.alloc (.cells #[.int .i64 T,.slice A0 l.length c] 24)).alloc (.cells #[.int .i64 0,.int .i64 0] 59)=W at *
 have p0:=x0.cell 0
 have p1:=x0.cell 1
 simp at p0 p1
 have HP:=Lib.hid hp
 have HN:=Lib.hid hnet
 clear hp hnet
 go_wp2_with fail
 refine (spSheet_ok _ T l W hk ⟨A0,c,rfl,ha1⟩).mono ?_
 rintro e w1 ⟨rfl,hb1⟩
 replace ha1:=(ha1.below hb1).more hb1.size
 replace x0:=x0.call hb1
 replace x4:=x4.call hb1
 have s1:Bs+2≤w1.heap.size:=by have:=hb1.size; omega
 replace hb:=hb.trans (hb1.mono (by omega))
 clear p0 p1 hb1
 have p0:=x0.cell 0
 have p1:=x0.cell 1
 simp at p0 p1
 have hA:=Blk.new w1 3 #[.int .i64 t]
 have hB1:=(Below.refl w1.heap.size w1).alloc (Nat.le_refl _) (.cells #[.int .i64 t] 3)
 have HT:=Lib.hid (show ∀ n∈[(t:Int)],(1:Int)≤n∧n≤T from fun n hn=>by simp at hn; subst hn; omega)
 go_wp2_with fail
 refine (turns_ok _ [(t:Int)] 1 T _ (Arr.ints1 hA) HT.out).mono ?_
 rintro e w2 ⟨rfl,hb2⟩
 have hB2:=hB1.trans (hb2.mono hB1.size)
 replace ha1:=(ha1.below hB2).more hB2.size
 replace x0:=x0.call hB2
 replace x4:=x4.call hB2
 have s2:Bs+2≤w2.heap.size:=by have:=hB2.size; omega
 replace hb:=hb.trans (hB2.mono (by omega))
 clear p0 p1 hA hB1 HT hb2 hB2
 have p0:=x0.cell 0
 have p1:=x0.cell 1
 simp at p0 p1
 go_wp2_with fail
 refine (open_ok _ T l w2 hk hf ⟨A0,c,rfl,ha1⟩).mono ?_
 rintro e w3 ⟨g,rv,A,c2,rfl,hN3,hb3⟩
 replace x4:=x4.call hb3
 have s3:Bs+2≤w3.heap.size:=by have:=hb3.size; omega
 replace hb:=hb.trans (hb3.mono (by omega))
 clear p0 p1 hb3 ha1 x0
 have hfd:=find_ok (a:=0) w3 (allR_len hk) (allR_fit20 hk) hN3 h20 HN.out HP.out (by omega)
 go_wp2_with fail
 refine hfd.mono ?_
 rintro e w4 ⟨up,gm,rfl,hup,hb4⟩
 have hN4:=(hN3.call hb4).more hb4.size (Nat.le_refl _)
 replace x4:=x4.call hb4
 have s4:Bs+2≤w4.heap.size:=by have:=hb4.size; omega
 replace hb:=hb.trans (hb4.mono (by omega))
 clear hfd hN3 hb4
 obtain ⟨cu,HCU⟩:∃ cu,Hid (cu=farA up):=⟨_,rfl⟩
 have hi21:=far_i21 up
 have h1c:=far_one_ up
 have hs21:(21:Nat)=(farA up).size:=(rowA_size _ _).symm
 have HUP:=Lib.hid hup
 unfold farA at *
 rw [← HCU.out] at hi21 h1c hs21
 rw [← HCU.out]
 have HS21:=Lib.hid hs21
 have x8:=Blk.new w4 119 #[.int .i64 0,.int .i64 0,.int .i64 0,.int .i64 0,.int .i64 0,.int .i64 0,.int .i64 0,.int .i64 0,.int .i64 0,.int .i64 0,.int .i64 0,.int .i64 0,.int .i64 0,.int .i64 0,.int .i64 0,.int .i64 0,.int .i64 0,.int .i64 0,.int .i64 0,.int .i64 0,.int .i64 0]
 have b4:=(Below.refl w4.heap.size w4).alloc (Nat.le_refl _) (.cells #[.int .i64 0,.int .i64 0,.int .i64 0,.int .i64 0,.int .i64 0,.int .i64 0,.int .i64 0,.int .i64 0,.int .i64 0,.int .i64 0,.int .i64 0,.int .i64 0,.int .i64 0,.int .i64 0,.int .i64 0,.int .i64 0,.int .i64 0,.int .i64 0,.int .i64 0,.int .i64 0,.int .i64 0] 119)
 clear hup hs21
 go_upto_region 10 with (refine wpList_store_row rfl 119 (.tmp 8) (.tmp 39) rfl w4.heap.size cu rfl rfl 119 _ x8 hi21 HS21.out h1c ?_)
 have hset:Blk ((w4.alloc (.cells #[.int .i64 0,.int .i64 0,.int .i64 0,.int .i64 0,.int .i64 0,.int .i64 0,.int .i64 0,.int .i64 0,.int .i64 0,.int .i64 0,.int .i64 0,.int .i64 0,.int .i64 0,.int .i64 0,.int .i64 0,.int .i64 0,.int .i64 0,.int .i64 0,.int .i64 0,.int .i64 0,.int .i64 0] 119)).setRow w4.heap.size cu) w4.heap.size 119 cu:=setRow_heap _ w4.heap.size _ _ 119 (0,0) x8
 have hb5:=below_setRow b4 (Nat.le_refl _) cu
 have z5:((w4.alloc (.cells #[.int .i64 0,.int .i64 0,.int .i64 0,.int .i64 0,.int .i64 0,.int .i64 0,.int .i64 0,.int .i64 0,.int .i64 0,.int .i64 0,.int .i64 0,.int .i64 0,.int .i64 0,.int .i64 0,.int .i64 0,.int .i64 0,.int .i64 0,.int .i64 0,.int .i64 0,.int .i64 0,.int .i64 0] 119)).setRow w4.heap.size cu).heap.size=w4.heap.size+1:=by simp
 have hN5:=(hN4.call hb5).more hb5.size (Nat.le_refl _)
 replace x4:=x4.call hb5
 replace hb:=hb.trans (hb5.mono (by omega))
 clear x8 b4 hi21 h1c HS21 hN4 hb5
 generalize (w4.alloc (.cells #[.int .i64 0,.int .i64 0,.int .i64 0,.int .i64 0,.int .i64 0,.int .i64 0,.int .i64 0,.int .i64 0,.int .i64 0,.int .i64 0,.int .i64 0,.int .i64 0,.int .i64 0,.int .i64 0,.int .i64 0,.int .i64 0,.int .i64 0,.int .i64 0,.int .i64 0,.int .i64 0,.int .i64 0] 119)).setRow w4.heap.size cu=w5 at *
 generalize w4.heap.size=gu at *
 try simp only [Act.put]
 have hfd:=find_ok (a:=t) w5 (allR_len hk) (allR_fit20 hk) hN5 h20 HN.out HP.out h2
 go_wp2_with fail
 refine hfd.mono ?_
 rintro e w6 ⟨down,gm2,rfl,hdn,hb6⟩
 replace x4:=x4.call hb6
 replace hset:=hset.call hb6
 have s6:gu+1≤w6.heap.size:=by have:=hb6.size; omega
 replace hb:=hb.trans (hb6.mono (by omega))
 clear hfd hN5 hb6
 obtain ⟨cd,HCD⟩:∃ cd,Hid (cd=farA down):=⟨_,rfl⟩
 have hi21:=far_i21 down
 have h1c:=far_one_ down
 have hs21:(21:Nat)=(farA down).size:=(rowA_size _ _).symm
 have HDN:=Lib.hid hdn
 unfold farA at *
 rw [← HCD.out] at hi21 h1c hs21
 rw [← HCD.out]
 have HS21:=Lib.hid hs21
 have x8:=Blk.new w6 119 #[.int .i64 0,.int .i64 0,.int .i64 0,.int .i64 0,.int .i64 0,.int .i64 0,.int .i64 0,.int .i64 0,.int .i64 0,.int .i64 0,.int .i64 0,.int .i64 0,.int .i64 0,.int .i64 0,.int .i64 0,.int .i64 0,.int .i64 0,.int .i64 0,.int .i64 0,.int .i64 0,.int .i64 0]
 have b4:=(Below.refl w6.heap.size w6).alloc (Nat.le_refl _) (.cells #[.int .i64 0,.int .i64 0,.int .i64 0,.int .i64 0,.int .i64 0,.int .i64 0,.int .i64 0,.int .i64 0,.int .i64 0,.int .i64 0,.int .i64 0,.int .i64 0,.int .i64 0,.int .i64 0,.int .i64 0,.int .i64 0,.int .i64 0,.int .i64 0,.int .i64 0,.int .i64 0,.int .i64 0] 119)
 clear hdn hs21
 go_upto_region 11 with (refine wpList_store_row rfl 119 (.tmp 10) (.tmp 45) rfl w6.heap.size cd rfl rfl 119 _ x8 hi21 HS21.out h1c ?_)
 have hset2:Blk ((w6.alloc (.cells #[.int .i64 0,.int .i64 0,.int .i64 0,.int .i64 0,.int .i64 0,.int .i64 0,.int .i64 0,.int .i64 0,.int .i64 0,.int .i64 0,.int .i64 0,.int .i64 0,.int .i64 0,.int .i64 0,.int .i64 0,.int .i64 0,.int .i64 0,.int .i64 0,.int .i64 0,.int .i64 0,.int .i64 0] 119)).setRow w6.heap.size cd) w6.heap.size 119 cd:=setRow_heap _ w6.heap.size _ _ 119 (0,0) x8
 have hb5:=below_setRow b4 (Nat.le_refl _) cd
 replace x4:=x4.call hb5
 replace hset:=hset.call hb5
 replace hb:=hb.trans (hb5.mono (by omega))
 clear x8 b4 hi21 h1c HS21 hb5
 generalize (w6.alloc (.cells #[.int .i64 0,.int .i64 0,.int .i64 0,.int .i64 0,.int .i64 0,.int .i64 0,.int .i64 0,.int .i64 0,.int .i64 0,.int .i64 0,.int .i64 0,.int .i64 0,.int .i64 0,.int .i64 0,.int .i64 0,.int .i64 0,.int .i64 0,.int .i64 0,.int .i64 0,.int .i64 0,.int .i64 0] 119)).setRow w6.heap.size cd=w7 at *
 generalize w6.heap.size=gd at *
 try simp only [Act.put]
 have ht21:t < 21:=by omega
 have hti:(t:Int) < 21:=by omega
 have c0:=hset2.cell 0
 rw [HCD.out,rowA_get (by omega)] at c0
 have c1:=hset.cell t
 rw [HCU.out,rowA_get ht21] at c1
 have hspan:IsSpan (T+1) (allL T l) t (-(down 0)) (up t):=⟨up,down,by rw [← allR_rn]; exact HUP.out,by rw [← allR_rn]; exact HDN.out,rfl,rfl⟩
 have hin:=span_in (allL_net hk) h1 (by omega) hspan
 have wneg:IntKind.i64.wrap (-(down 0)) = -(down 0):=wrap_id _ (by omega) (by omega)
 have HSP:=Lib.hid hspan
 have f0:=Ext.of c0
 have f1:=Ext.of c1
 clear c0 c1 hset hset2 hspan HUP HDN HCU HCD
 refine wp_region_tail (C:=fun w'=>∃ x:Ext w7,w'=x.w) 7 (by kernel_rfl) (by kernel_rfl) ⟨⟨(w7).drew,⟨rfl,rfl,rfl,Nat.le_refl _,fun _ _=>rfl⟩⟩,rfl⟩ ?_
 simp only [List.take_succ_cons,List.take_zero,List.drop_succ_cons,List.drop_zero]
 repeat (go_big_quiet_step (fail))
 refine wpQuiet_nil ?_
 intro _ hw'
 obtain ⟨xr,hw''⟩:=hw'
 subst hw''
 have hx4:=x4.call xr.h
 have hbx:=hb.trans (xr.h.mono (by have:=x4.lt; omega))
 have k0:=hx4.cell 0
 have k1:=hx4.cell 1
 have z0:=hx4.frozen 0
 have z1:=hx4.frozen 1
 simp at k0 k1
 clear f0 f1 x4 hb
 generalize xr.w=w8 at *
 go_wp2
 have hs2:=(hx4.set_ 0 (.int .i64 (-(down 0)))).set_ 1 (.int .i64 (up t))
 have t0:=hs2.cell 0
 have t1:=hs2.cell 1
 simp at t0 t1
 have hB:=(hbx.setCell (p:=⟨Bs+1,0,none⟩) (by show Bs≤Bs+1; omega) (.int .i64 (-(down 0)))).setCell (p:=⟨Bs+1,1,none⟩) (by show Bs≤Bs+1; omega) (.int .i64 (up t))
 refine bodyPost_ret (v := .tuple #[.agg #[.int .i64 (-(down 0)),.int .i64 (up t)],.int .i64 0]) ?_ rfl ⟨_,_,rfl,HSP.out,hB⟩
 simp [results,Tryz.results18,asAddr,go_sem,t0,t1]
end Go.Proofs.YtaihbcmifjmapaaGreat
