/- Contracts: find and circle of package speed. -/
import Derived.Test.YtaihbcmifjmapaaGreatSpT
namespace Go.Proofs.YtaihbcmifjmapaaGreat.Sp
theorem bd_all {n:Nat} {L:List RN} {p:Nat→Int} {a':Int} (hN:Net n L) (hp:Pot L p) (ha:a'≤p 0+100000) {F:Nat→Int} (hF:∀ v,v < n→F v=never∨p v-a'≤F v) (hF2:∀ v,n≤v→0≤F v) (hF3:∀ v,F v≤never) (k v:Nat) :
  -200000≤round (L.take k) F v∧round (L.take k) F v≤1125899906842624:=by
 have hp2:Pot L (fun v=>if v < n then p v else a'):=fun r hr=>by
  have h1:=hN.fit r hr
  have h2:=hp r hr
  dsimp only
  rw [if_pos h1.1,if_pos h1.2.1]
  exact h2
 have h1:=round_low hp2 (a:=a') (L.take k) F (fun r hr=>List.mem_of_mem_take hr) (fun v=>by
  by_cases hv:v < n
  ·rw [if_pos hv]
   exact hF v hv
  ·rw [if_neg hv]
   have:=hF2 v (by omega)
   exact .inr (by omega)) v
 have h2:=round_top (L.take k) hF3 v
 have e:never=1125899906842624:=rfl
 rw [e] at h1 h2
 refine ⟨?_,h2⟩
 rcases h1 with h1 | h1
 ·rw [h1]; decide
 ·by_cases hv:v < n
  ·rw [if_pos hv] at h1
   have:=hN.near hp hv
   omega
  ·rw [if_neg hv] at h1
   omega
theorem find_bd {n:Nat} {L:List RN} {p:Nat→Int} {a:Nat} (hN:Net n L) (hp:Pot L p) (ha:a < n) {F:Nat→Int} (hF:Find L a F) (hF2:∀ v,n≤v→F v=never) (k v:Nat) :
  -200000≤round (L.take k) F v∧round (L.take k) F v≤1125899906842624 :=
 bd_all hN hp (a':=p a) (hN.near hp ha).2 (fun v _=>hF.2.2 p hp v) (fun v hv=>by rw [hF2 v hv]; decide) hF.1 k v
theorem out_same {n:Nat} {L:List RN} (hN:Net n L) (F:Nat→Int) {v:Nat} (hv:n≤v):round L F v=F v :=
 round_other L F v fun r hr e=>by have:=(hN.fit r hr).2.1; omega
theorem rounds_out {n:Nat} {L:List RN} (hN:Net n L) {v:Nat} (hv:n≤v):∀ k,rounds L k v=0
 | 0=>rfl
 | k+1=>by
   show round L (rounds L k) v=0
   rw [out_same hN _ hv]
   exact rounds_out hN hv k
theorem rounds_low {n:Nat} {L:List RN} {p:Nat→Int} (hN:Net n L) (hp:Pot L p):∀ k v,v < n→rounds L k v=never∨p v-(p 0+100000)≤rounds L k v
 | 0,v,hv=>by
   have:=hN.near hp hv
   right
   show p v-(p 0+100000)≤0
   omega
 | k+1,v,hv=>by
   have ih:=rounds_low hN hp k
   have hp2:Pot L (fun v=>if v < n then p v else p 0+100000):=fun r hr=>by
    have h1:=hN.fit r hr
    have h2:=hp r hr
    dsimp only
    rw [if_pos h1.1,if_pos h1.2.1]
    exact h2
   have h1:=round_low hp2 (a:=p 0+100000) L (rounds L k) (fun _ h=>h) (fun u=>by
    by_cases hu:u < n
    ·rw [if_pos hu]
     exact ih u hu
    ·rw [if_neg hu,rounds_out hN (by omega) k]
     exact .inr (by omega)) v
   rw [if_pos hv] at h1
   exact h1
theorem rounds_bd {n:Nat} {L:List RN} {p:Nat→Int} (hN:Net n L) (hp:Pot L p) (j k v:Nat) :
  -200000≤round (L.take k) (rounds L j) v∧round (L.take k) (rounds L j) v≤1125899906842624 :=
 bd_all hN hp (a':=p 0+100000) (Int.le_refl _) (rounds_low hN hp j) (fun v hv=>by rw [rounds_out hN hv]; exact Int.le_refl _) (fun v=>Int.le_trans (rounds_top L j v) (by decide)) k v
theorem eq_all_iff (F G:Nat→Int):((List.range 21).all fun i=>F i==G i)=true↔∀ i,i < 21→F i=G i:=by
 rw [List.all_eq_true]
 constructor
 ·intro h i hi
  have:=h i (List.mem_range.2 hi)
  simpa using this
 ·intro h i hi
  have:=h i (List.mem_range.1 hi)
  simpa using this
end Go.Proofs.YtaihbcmifjmapaaGreat.Sp
namespace Go.Proofs.YtaihbcmifjmapaaGreat
open Go.RowKit Go.Shelf Sp
set_option linter.unusedVariables false
def cellI (w:World) (g i:Nat):Int:=match w.cell? ⟨g,i,none⟩ with
 | some (.int _ x)=>x
 | _=>0
theorem FarB.cellI {W:World} {g:Nat} {F:Nat→Int} (h:FarB W g F) {i:Nat} (hi:i < 21):cellI W g i=F i:=by
 unfold YtaihbcmifjmapaaGreat.cellI
 rw [h.at_ hi]
def lossW (w:World) (g:Nat):Nat:=(sumF 21 (fun i=>cellI w g i)+4200000).toNat
theorem lossW_eq {W:World} {g:Nat} {F:Nat→Int} (h:FarB W g F):lossW W g=(sumF 21 F+4200000).toNat:=by
 have e:sumF 21 (fun i=>cellI W g i)=sumF 21 F:=by
  apply Int.le_antisymm
  ·exact sumF_le 21 fun v hv=>by rw [h.cellI hv]; exact Int.le_refl _
  ·exact sumF_le 21 fun v hv=>by rw [h.cellI hv]; exact Int.le_refl _
 unfold lossW
 rw [e]
theorem loss_less {W W':World} {g:Nat} {F G:Nat→Int} (h:FarB W g F) (h':FarB W' g G) (hle:∀ v,v < 21→G v≤F v) (hlow:∀ v,v < 21 → -200000≤G v) (hne:((List.range 21).all fun i=>G i==F i)=false):lossW W' g < lossW W g:=by
 rw [lossW_eq h,lossW_eq h']
 have h1:=sumF_low 21 (F:=G) (b := -200000) hlow
 have h2:∃ v,v < 21∧G v≠F v:=by
  refine Classical.byContradiction fun hc=>?_
  have:((List.range 21).all fun i=>G i==F i)=true:=(eq_all_iff G F).2 fun i hi=>Classical.byContradiction fun e=>hc ⟨i,hi,e⟩
  rw [hne] at this
  cases this
 have h3:=sumF_lt 21 hle h2
 omega
set_option maxRecDepth 100000 in
set_option maxHeartbeats 1600000 in
theorem find_ok {B g T:Nat} {rv:Value} {al:List Ru} {A:Option Addr} {c a:Nat} {p:Nat→Int} (w:World) (hlen:al.length≤100) (hfit:∀ r∈al,0≤r.f∧r.f≤20∧0≤r.t∧r.t≤20 ∧ -100000≤r.m∧r.m≤100000)
  (hN:NetAt w B g T rv al A c) (hT:T≤20) (hNet:Net (T+1) (al.map rnOf)) (hp:Pot (al.map rnOf) p) (ha:a≤T) :
  Calls Tryz.prog 58 #[.pointer (some ⟨g,0,none⟩),.int .i64 a] w fun r w'=>∃ F gm,r = .returned (.tuple #[.agg (farA F),.map (some gm)])∧IsFar (T+1) (al.map rnOf) a F∧Below w.heap.size w w':=by
 obtain ⟨Bs,hBs⟩:∃ Bs,Bs=w.heap.size:=⟨_,rfl⟩
 have hBB:=hN.le
 rw [← hBs] at hBB ⊢
 go_enter Tryz.func58,Tryz.ntmps58
 go_upto_region 1 with (fail)
 have x4:=Blk.new w 119 #[.int .i64 0,.int .i64 0,.int .i64 0,.int .i64 0,.int .i64 0,.int .i64 0,.int .i64 0,.int .i64 0,.int .i64 0,.int .i64 0,.int .i64 0,.int .i64 0,.int .i64 0,.int .i64 0,.int .i64 0,.int .i64 0,.int .i64 0,.int .i64 0,.int .i64 0,.int .i64 0,.int .i64 0]
 have b1:=(Below.refl w.heap.size w).alloc (Nat.le_refl _) (.cells #[.int .i64 0,.int .i64 0,.int .i64 0,.int .i64 0,.int .i64 0,.int .i64 0,.int .i64 0,.int .i64 0,.int .i64 0,.int .i64 0,.int .i64 0,.int .i64 0,.int .i64 0,.int .i64 0,.int .i64 0,.int .i64 0,.int .i64 0,.int .i64 0,.int .i64 0,.int .i64 0,.int .i64 0] 119)
 have z1:(w.alloc (.cells #[.int .i64 0,.int .i64 0,.int .i64 0,.int .i64 0,.int .i64 0,.int .i64 0,.int .i64 0,.int .i64 0,.int .i64 0,.int .i64 0,.int .i64 0,.int .i64 0,.int .i64 0,.int .i64 0,.int .i64 0,.int .i64 0,.int .i64 0,.int .i64 0,.int .i64 0,.int .i64 0,.int .i64 0] 119)).heap.size=Bs+1:=by simp [hBs]
 have hN1:=hN.call b1
 rw [← hBs] at x4 b1 ⊢
 have HBs:=Lib.hid hBs
 clear hBs hN
 generalize w.alloc (.cells #[.int .i64 0,.int .i64 0,.int .i64 0,.int .i64 0,.int .i64 0,.int .i64 0,.int .i64 0,.int .i64 0,.int .i64 0,.int .i64 0,.int .i64 0,.int .i64 0,.int .i64 0,.int .i64 0,.int .i64 0,.int .i64 0,.int .i64 0,.int .i64 0,.int .i64 0,.int .i64 0,.int .i64 0] 119)=W1 at *
 go_upto_region 2 with (fail)
 have x6:=Blk.new W1 119 #[.int .i64 0,.int .i64 0,.int .i64 0,.int .i64 0,.int .i64 0,.int .i64 0,.int .i64 0,.int .i64 0,.int .i64 0,.int .i64 0,.int .i64 0,.int .i64 0,.int .i64 0,.int .i64 0,.int .i64 0,.int .i64 0,.int .i64 0,.int .i64 0,.int .i64 0,.int .i64 0,.int .i64 0]
 have b2:=(Below.refl W1.heap.size W1).alloc (Nat.le_refl _) (.cells #[.int .i64 0,.int .i64 0,.int .i64 0,.int .i64 0,.int .i64 0,.int .i64 0,.int .i64 0,.int .i64 0,.int .i64 0,.int .i64 0,.int .i64 0,.int .i64 0,.int .i64 0,.int .i64 0,.int .i64 0,.int .i64 0,.int .i64 0,.int .i64 0,.int .i64 0,.int .i64 0,.int .i64 0] 119)
 have z2:(W1.alloc (.cells #[.int .i64 0,.int .i64 0,.int .i64 0,.int .i64 0,.int .i64 0,.int .i64 0,.int .i64 0,.int .i64 0,.int .i64 0,.int .i64 0,.int .i64 0,.int .i64 0,.int .i64 0,.int .i64 0,.int .i64 0,.int .i64 0,.int .i64 0,.int .i64 0,.int .i64 0,.int .i64 0,.int .i64 0] 119)).heap.size=Bs+2:=by simp [z1]
 have hN2:=hN1.call b2
 have y4:=x4.call b2
 rw [z1] at x6
 try rw [z1]
 have hb2:=b1.trans (b2.mono (by omega))
 clear x4 b1 b2 z1 hN1
 generalize W1.alloc (.cells #[.int .i64 0,.int .i64 0,.int .i64 0,.int .i64 0,.int .i64 0,.int .i64 0,.int .i64 0,.int .i64 0,.int .i64 0,.int .i64 0,.int .i64 0,.int .i64 0,.int .i64 0,.int .i64 0,.int .i64 0,.int .i64 0,.int .i64 0,.int .i64 0,.int .i64 0,.int .i64 0,.int .i64 0] 119)=W2 at *
 have hF0:FarB W2 (Bs+1) fun _=>0:=by unfold FarB farA; rw [far_zero]; exact x6
 go_upto_region 3 with (fail)
 go_loopw [7,9] (fun x i wr=>∃ k:Nat,k≤21∧i = .int .i64 k∧FarB wr (Bs+1) (fun v=>if v < k then never else 0)∧Blk wr Bs 119 #[.int .i64 0,.int .i64 0,.int .i64 0,.int .i64 0,.int .i64 0,.int .i64 0,.int .i64 0,.int .i64 0,.int .i64 0,.int .i64 0,.int .i64 0,.int .i64 0,.int .i64 0,.int .i64 0,.int .i64 0,.int .i64 0,.int .i64 0,.int .i64 0,.int .i64 0,.int .i64 0,.int .i64 0]∧NetAt wr B g T rv al A c∧wr.heap.size=Bs+2∧Below Bs w wr) (fun _ i _=>21-(intOf i).toNat)
 case atStart=>exact ⟨0,by omega,rfl,by simpa using hF0,y4,hN2,z2,hb2⟩
 case round =>
  clear x6 hF0 y4 hN2 z2 hb2
  obtain ⟨k,hk,rfl,hF1,y4,hN2,z2,hb2⟩:=hrel
  by_cases hlt:k < 21
  ·have hki:(k:Int) < 21:=by omega
   have c0:=hF1.at_ hlt
   have c1:=Blk.frozen hF1 k
   go_wp2
   have hF2:=hF1.put (i:=k) (x:=1125899906842624) (G:=fun v=>if v < k+1 then never else 0) fun j _=>by
    by_cases e:j=k
    ·subst e
     rw [if_pos rfl,if_pos (by omega)]
     rfl
    ·rw [if_neg e]
     by_cases h:j < k
     ·rw [if_pos h,if_pos (by omega)]
     ·rw [if_neg h,if_neg (by omega)]
   have hg:wr.grownBy (wr.setCell ⟨Bs+1,k,none⟩ (.int .i64 1125899906842624)) (some (Bs+1)):=grown_setCell _
   have y5:=y4.grown hg fun e=>by injection e; omega
   have hN3:=hN2.keep fun q hq=>hg.block q (by omega) fun e=>by injection e; omega
   have hb3:=hb2.setCell (p:=⟨Bs+1,k,none⟩) (by show Bs≤Bs+1; omega) (.int .i64 1125899906842624)
   have z3:(wr.setCell ⟨Bs+1,k,none⟩ (.int .i64 1125899906842624)).heap.size=Bs+2:=by simp [z2]
   go_roundw
   case rel=>exact ⟨k+1,by omega,by go_num,hF2,y5,hN3,z3,hb3⟩
   case measure=>(simp [intOf]; try omega)
  ·obtain rfl:k=21:=by omega
   simp only [show ((21:Nat):Int)=21 from rfl]
   have ha21:a < 21:=by omega
   have hai:(a:Int) < 21:=by omega
   have c0:=hF1.at_ ha21
   have c1:=Blk.frozen hF1 a
   go_upto_region 8 with (fail)
   have hF2:=hF1.put (i:=a) (x:=0) (G:=far0 a) fun j hj=>by
    unfold far0
    by_cases e:j=a
    ·rw [if_pos e,if_pos e]
    ·rw [if_neg e,if_neg e,if_pos hj]
   have hg:wr.grownBy (wr.setCell ⟨Bs+1,a,none⟩ (.int .i64 0)) (some (Bs+1)):=grown_setCell _
   have y5:=y4.grown hg fun e=>by injection e; omega
   have hN3:=hN2.keep fun q hq=>hg.block q (by omega) fun e=>by injection e; omega
   have hb3:=hb2.setCell (p:=⟨Bs+1,a,none⟩) (by show Bs≤Bs+1; omega) (.int .i64 0)
   have z3:(wr.setCell ⟨Bs+1,a,none⟩ (.int .i64 0)).heap.size=Bs+2:=by simp [z2]
   clear hF1 y4 hN2 hb2 z2 hg c0 c1
   generalize wr.setCell ⟨Bs+1,a,none⟩ (.int .i64 0)=W3 at *
   have hM:=MapG.new (kf:=kI) W3
   have b2:=(Below.refl W3.heap.size W3).alloc (Nat.le_refl _) (.map #[] 0)
   have z4:(W3.alloc (.map #[] 0)).heap.size=Bs+3:=by simp [z3]
   have hF4:FarB _ (Bs+1) (far0 a):=Blk.call hF2 b2
   have y6:=y5.call b2
   have hN4:=hN3.call b2
   have hb4:=hb3.trans (b2.mono (by omega))
   have hM4:MapAny _ W3.heap.size:=⟨_,hM⟩
   rw [z3] at hM4
   clear hF2 y5 hN3 hb3 b2 hM
   have hmm:=@run_makeMap Tryz.prog
   go_upto_region 9 with (fail)
   clear hmm z3 hk hlt
   have hin:Find (al.map rnOf) a (far0 a):=find_start _ _
   have hout:∀ v,T+1≤v→far0 a v=never:=fun v hv=>by unfold far0; rw [if_neg (by omega)]
   generalize W3.alloc (.map #[] 0)=W4 at *
   go_loopw [20] (fun x wr=>∃ F,Find (al.map rnOf) a F∧(∀ v,T+1≤v→F v=never)∧FarB wr (Bs+1) F∧MapAny wr (Bs+2)∧Blk wr Bs 119 #[.int .i64 0,.int .i64 0,.int .i64 0,.int .i64 0,.int .i64 0,.int .i64 0,.int .i64 0,.int .i64 0,.int .i64 0,.int .i64 0,.int .i64 0,.int .i64 0,.int .i64 0,.int .i64 0,.int .i64 0,.int .i64 0,.int .i64 0,.int .i64 0,.int .i64 0,.int .i64 0,.int .i64 0]∧NetAt wr B g T rv al A c∧Bs+3≤wr.heap.size∧Below Bs w wr) (fun _ wr=>lossW wr (Bs+1))
   case atStart=>exact ⟨far0 a,hin,hout,hF4,hM4,y6,hN4,by omega,hb4⟩
   case round =>
    clear hin hout hF4 hM4 y6 hN4 hb4 z4
    obtain ⟨F,hf,hout,hF,hM,hy,hN,hsz,hb⟩:=hrel
    have hbd:=find_bd hNet hp (by omega:a < T+1) hf hout
    have hst:=step_ok wr hlen hfit hN (by omega:B≤Bs+1) (by omega:B≤Bs+2) (by omega) hF hM fun k v _=>hbd k v
    have hbd1:∀ v, -200000≤round (al.map rnOf) F v:=fun v=>by
     have:=(hbd (al.map rnOf).length v).1
     rwa [List.take_length] at this
    have hle:=fun v=>round_le (al.map rnOf) F v
    have HF:=Lib.hid hf
    have HO:=Lib.hid hout
    clear hbd hf hout
    go_wp2_with fail
    refine hst.mono ?_
    rintro e w5 ⟨rfl,hF5,hM5,hk5⟩
    have hb5:=hk5.below (B':=Bs) (by omega) (by omega) (by omega)
    have hy5:Blk w5 Bs 119 _:=(hk5.block Bs (by omega) (by omega) (by omega)).trans hy
    have hN5:=hN.keep fun q hq=>hk5.block q (by omega) (by omega) (by omega)
    have hB5:=hb.trans hb5
    have hs5:=hk5.size
    cases hall:((List.range 21).all fun i=>round (al.map rnOf) F i==F i)
    ·have hls:=loss_less hF hF5 (fun v _=>hle v) (fun v _=>hbd1 v) hall
     have HL:=Lib.hid hls
     clear hst hF hM hy hN hb hk5 hb5 hls hbd1 hle hall
     go_wp2
     go_roundw
     case rel=>exact ⟨_,find_step HF.out,fun v hv=>by rw [out_same hNet F hv]; exact HO.out v hv,hF5,hM5,hy5,hN5,by omega,hB5⟩
     case measure=>exact HL.out
    ·have hsame:round (al.map rnOf) F=F:=by
      funext v
      rcases Nat.lt_or_ge v 21 with h | h
      ·exact (eq_all_iff _ _).1 hall v h
      ·exact out_same hNet F (by omega)
     rw [hsame] at hF5
     have hfar:=find_end hNet (by omega:a < T+1) HF.out hp hsame
     have HFA:=Lib.hid hfar
     clear hst hF hM hy hN hb hk5 hb5 hbd1 hle hall hsame hfar
     obtain ⟨cs,HCS⟩:∃ cs,Hid (cs=farA F):=⟨_,rfl⟩
     have hi21:=far_i21 F
     have h1c:=far_one_ F
     have hs21:(21:Nat)=(farA F).size:=(rowA_size _ _).symm
     have hrow:Blk w5 (Bs+1) 119 (farA F):=hF5
     rw [← HCS.out] at hi21 h1c hs21 hrow
     have hset:Blk (w5.setRow Bs cs) Bs 119 cs:=setRow_heap w5 Bs _ _ 119 (0,0) hy5
     have hB7:=below_setRow hB5 (Nat.le_refl _) cs
     have HS21:=Lib.hid hs21
     clear HF HO hF5 hM5 hN5 hB5 hs21
     go_wp2_with (first | (refine wpList_load_row rfl 119 (.tmp 6) rfl (Bs+1) rfl 119 cs (0,0) _ hrow Tryz.underlying119 rfl hi21 ?_) | (refine wpList_store_row rfl 119 (.tmp 4) (.tmp 21) rfl Bs cs rfl rfl 119 _ hy5 hi21 HS21.out h1c ?_))
     have hld:=run_loadVar_row (P:=Tryz.prog) (w5.setRow Bs cs) Bs 119 119 cs (0,0) _ hset Tryz.underlying119 rfl hi21
     refine bodyPost_ret (v := .tuple #[.agg cs,.map (some (Bs+2))]) ?_ rfl ⟨F,Bs+2,by rw [HCS.out],HFA.out,hB7⟩
     simp [results,Tryz.results58,asAddr,hld]
end Go.Proofs.YtaihbcmifjmapaaGreat
