/- Contracts: Passage of mandrellaw07; sure07 of mandreltop. -/
import Derived.Test.YtaihbcmifjmapaaGreatSpV
import Derived.Test.YtaihbcmifjmapaaGreatSuB
import Derived.Test.YtaihbcmifjmapaaGreatSuP
import Derived.Test.YtaihbcmifjmapaaGreatPlayF
import Derived.Test.YtaihbcmifjmapaaGreatPG
namespace Go.Proofs.YtaihbcmifjmapaaGreat
open Go.RowKit Go.Shelf Sp
set_option linter.unusedVariables false
theorem pasg_ok (a b x:Int) (w:World) :
  Calls Tryz.prog 6 #[.int .i64 a,.int .i64 b,.int .i64 x] w fun r w'=>r = .returned (.agg #[.int .i64 a,.int .i64 b,.int .i64 x])∧Below w.heap.size w w':=by
 go_enter Tryz.func6,Tryz.ntmps6
 go_wp2
 have hx:=Blk.new w 37 #[.int .i64 a,.int .i64 b,.int .i64 x]
 have t0:=hx.cell 0
 have t1:=hx.cell 1
 have t2:=hx.cell 2
 simp at t0 t1 t2
 exact bodyPost_ret (v := .agg #[.int .i64 a,.int .i64 b,.int .i64 x]) (by simp [results,Tryz.results6,go_sem]) rfl ⟨rfl,(Below.refl _ _).alloc (Nat.le_refl _) _⟩
theorem numRow {w:World} {B:Nat} {v:Value} {l:List Int} (h:Arr w B 1 v l icell) (hl:0 < l.length) :
  ∃ b off cap,v = .slice (some ⟨b,off,none⟩) l.length cap∧b < B∧l.length≤cap∧cap≤9223372036854775807∧∀ j x,l[j]? = some x→w.cell? ⟨b,off+j,none⟩=some (.int .i64 x):=by
 obtain ⟨A,c,rfl,h1,h2,h3⟩:=h
 obtain ⟨b,off,rfl,hb,hc⟩:=h3 hl
 refine ⟨b,off,c,rfl,hb,h1,h2,fun j x hx=>?_⟩
 have:=hc j x hx 0 (by omega)
 rwa [Nat.mul_one] at this
noncomputable def widT (T:Nat) (l:List Ru):Nat→Int:=widF (T+1) (allL T l)
set_option maxRecDepth 100000 in
set_option maxHeartbeats 3200000 in
theorem sure_ok (T:Nat) (l:List Ru) (c:Cyl) (wide:Int) (sv:Value) (pA:Option Addr) (pc:Nat) (w:World) (hk:SheetOk T l) (hf:Free T l) (hc0:checkCyl (withF c [])=0) (hT:c.turns=T) (hp6:c.plays=6) (hs:SheetV w w.heap.size sv T l)
  (hpas:Arr w w.heap.size 3 (.slice pA c.pas.length pc) c.pas pcell) :
  Calls Tryz.prog 8 #[.agg #[.int .i64 T,.int .i64 c.long,.int .i64 6,.slice none 0 0,.slice pA c.pas.length pc],sv,.int .i64 wide] w fun r w' =>
   ∃ ov,r = .returned (.tuple #[ov,.bool true])∧Arr w' w'.heap.size 1 ov (worthsOf (withF c (fragL wide (widT T l) T))) icell∧Below w.heap.size w w':=by
 obtain ⟨A0,sc,rfl,ha⟩:=hs
 obtain ⟨Bs,hBs⟩:∃ Bs,Bs=w.heap.size:=⟨_,rfl⟩
 have h20:=hk.t20
 rw [← hBs] at ha hpas
 rw [← hBs]
 go_enter Tryz.func8,Tryz.ntmps8
 go_upto_region 1 with (fail)
 have x3:=Blk.new w 34 #[.int .i64 T,.int .i64 c.long,.int .i64 6,.slice none 0 0,.slice pA c.pas.length pc]
 have b1:=(Below.refl w.heap.size w).alloc (Nat.le_refl _) (.cells #[.int .i64 T,.int .i64 c.long,.int .i64 6,.slice none 0 0,.slice pA c.pas.length pc] 34)
 have z1:(w.alloc (.cells #[.int .i64 T,.int .i64 c.long,.int .i64 6,.slice none 0 0,.slice pA c.pas.length pc] 34)).heap.size=Bs+1:=by simp [hBs]
 rw [← hBs] at x3 b1
 have HBs:=Lib.hid hBs
 rw [← hBs]
 clear hBs
 generalize w.alloc (.cells #[.int .i64 T,.int .i64 c.long,.int .i64 6,.slice none 0 0,.slice pA c.pas.length pc] 34)=W1 at *
 have x4:=Blk.new W1 24 #[.int .i64 T,.slice A0 l.length sc]
 have b2:=(Below.refl W1.heap.size W1).alloc (Nat.le_refl _) (.cells #[.int .i64 T,.slice A0 l.length sc] 24)
 have z2:(W1.alloc (.cells #[.int .i64 T,.slice A0 l.length sc] 24)).heap.size=Bs+2:=by simp [z1]
 replace x3:=x3.call b2
 have hb:=b1.trans (b2.mono (by omega))
 rw [z1] at x4
 try rw [z1]
 clear b1 b2 z1
 generalize W1.alloc (.cells #[.int .i64 T,.slice A0 l.length sc] 24)=W at *
 have HD:∃ D:Nat→Int,D=widT T l:=⟨_,rfl⟩
 obtain ⟨D,hD⟩:=HD
 have HDD:=Lib.hid hD
 clear hD
 go_upto_region 2 with (fail)
 go_loopw [8] (fun i wr=>∃ (t n:Nat) (A:Option Addr) (cap:Nat),t≤T∧i = .int .i64 (t+1)∧n=(fragL wide D t).length∧Blk wr Bs 34 #[.int .i64 T,.int .i64 c.long,.int .i64 6,.slice A n cap,.slice pA c.pas.length pc]∧Blk wr (Bs+1) 24 #[.int .i64 T,.slice A0 l.length sc] ∧
  wr.ownsRow (Bs+2) 3 1 (.slice A n cap) n ((fragL wide D t).flatMap (cellsOf 1 icell))∧Bs+2≤wr.heap.size∧Below Bs w wr) (fun i _=>T+1-(intOf i).toNat)
 case atStart=>exact ⟨0,0,none,0,Nat.zero_le _,rfl,rfl,x3,x4,World.ownsRow_nil _ _ _ _,by omega,hb⟩
 case round =>
  clear x3 x4 hb z2
  obtain ⟨t,n,A,cap,ht,rfl,hn,x3,x4,hown,hz,hb⟩:=hrel
  have p0:=x4.cell 0
  have p1:=x4.cell 1
  simp at p0 p1
  by_cases hlt:t < T
  ·have d1:decide ((t:Int)+1≤(T:Int))=true:=decide_eq_true (by omega)
   have hti:(t:Int) < (T:Int):=by omega
   have hsp:=span_ok (.agg #[.int .i64 T,.slice A0 l.length sc]) T l (t+1) wr hk hf ⟨A0,sc,rfl,(ha.below hb).more (by omega)⟩ (by omega) (by omega)
   rw [show ((t+1:Nat):Int)=(t:Int)+1 by omega] at hsp
   have HN:=Lib.hid hn
   have hn20:n≤20:=by have:=fragL_len wide D t; omega
   clear hn
   go_wp2_with fail
   refine hsp.mono ?_
   rintro e w2 ⟨lo,hi,rfl,hspan,hb2⟩
   obtain ⟨k1,k2,k3⟩:=span_in (allL_net hk) (by omega) (by omega) hspan
   have hdd:D (t+1)=hi-lo:=by rw [HDD.out]; exact widF_eq (by omega) (by omega) hspan
   have y3:=x3.call hb2
   have y4:=x4.call hb2
   have hown2:=own_call hown hb2
   have hz2:=Nat.le_trans hz hb2.size
   have hB2:=hb.trans (hb2.mono (by omega))
   have HDT:=Lib.hid hdd
   clear hsp hspan hdd x3 x4 hown hz hb hb2 p0 p1
   have hR:=Blk.new w2 59 #[.int .i64 lo,.int .i64 hi]
   have hb3:=(Below.refl w2.heap.size w2).alloc (Nat.le_refl _) (.cells #[.int .i64 lo,.int .i64 hi] 59)
   go_upto_region 5 with (fail)
   replace y3:=y3.call hb3
   replace y4:=y4.call hb3
   have hown3:=own_call hown2 hb3
   have hz3:=Nat.le_trans hz2 hb3.size
   have hB3:=hB2.trans (hb3.mono (by omega))
   clear hown2 hz2 hB2 hb3
   generalize w2.alloc (.cells #[.int .i64 lo,.int .i64 hi] 59)=w3 at *
   have q0:=hR.cell 0
   have q1:=hR.cell 1
   have c3:=y3.cell 3
   simp at q0 q1 c3
   have e1:decide (lo < 0)=false:=decide_eq_false (by omega)
   have e2:decide (100000 < hi)=false:=decide_eq_false (by omega)
   have e3:decide (hi < lo)=false:=decide_eq_false (by omega)
   have wsub:IntKind.i64.wrap (hi-lo)=hi-lo:=wrap_id _ (by omega) (by omega)
   have HFS:Hid (fragL wide D (t+1)=fragL wide D t++if wide < hi-lo then [(t:Int)] else []):=by rw [Hid,← HDT.out]; rfl
   by_cases hwd:wide < hi-lo
   ·have hfs:Hid (fragL wide D (t+1)=fragL wide D t++[(t:Int)]):=by rw [Hid,HFS.out,if_pos hwd]
    have e4:decide (wide < hi-lo)=true:=decide_eq_true hwd
    clear HFS HDT hR
    go_wp2_with (at_builtin; refine wpList_app2 slT_int rfl (.tmp 52) (.tmp 55) rfl rfl hown3 rfl rfl one_1 hz3 ?_ ?_ ?_)
    try any_goals omega
    intro v4 w4 hown4 hg4 hat4
    obtain ⟨A4,c4,rfl⟩:=own_form hown4
    have hown5:w4.ownsRow (Bs+2) 3 1 (.slice A4 (n+1) c4) (n+1) ((fragL wide D (t+1)).flatMap (cellsOf 1 icell)):=by
     rw [hfs.out,List.flatMap_append]
     exact hown4
    have hne:some Bs≠(Value.slice A n cap).ownBlock:=own_blk_ne hown3 y3 (by decide)
    have hne2:some (Bs+1)≠(Value.slice A n cap).ownBlock:=own_blk_ne hown3 y4 (by decide)
    have y5:=y3.grown hg4 hne
    have y6:=y4.grown hg4 hne2
    have hz4:=Nat.le_trans hz3 hg4.size
    have hB4:=below_row hB3 hg4 (by omega) fun r e=>by have:=(own_cellz hown3 e).1; omega
    have v0:=y5.cell 3
    have v1:=y5.frozen 3
    simp at v0
    clear y3 y4 hown3 hB3 hz3 hown4 hat4 hg4 hne hne2 c3 q0 q1
    go_wp2
    have hs3:=y5.set_ 3 (.slice A4 (n+1) c4)
    simp at hs3
    have y7:=y6.far (p:=⟨Bs,3,none⟩) (by show Bs+1≠Bs; omega) (.slice A4 (n+1) c4)
    have hown6:=hown5.kept (grown_setCell (g:=Bs) (o:=3) (.slice A4 (n+1) c4)) (.inr fun e=>own_blk_ne hown5 y5 (by decide) e.symm)
    have hB5:=hB4.setCell (p:=⟨Bs,3,none⟩) (Nat.le_refl _) (.slice A4 (n+1) c4)
    have hz5:Bs+2≤(w4.setCell ⟨Bs,3,none⟩ (.slice A4 (n+1) c4)).heap.size:=by simp; omega
    clear hown5 y5 y6 hB4 hz4 v0 v1
    go_roundw
    case rel=>exact ⟨t+1,n+1,A4,c4,by omega,by go_num,by rw [hfs.out,List.length_append,← HN.out]; rfl,hs3,y7,hown6,hz5,hB5⟩
    case measure=>(simp [intOf]; try omega)
   ·have hfs:Hid (fragL wide D (t+1)=fragL wide D t):=by rw [Hid,HFS.out,if_neg hwd,List.append_nil]
    have e4:decide (wide < hi-lo)=false:=decide_eq_false hwd
    clear HFS HDT hR c3
    go_wp2
    go_roundw
    case rel=>exact ⟨t+1,n,A,cap,by omega,by go_num,by rw [hfs.out]; exact HN.out,y3,y4,by rw [hfs.out]; exact hown3,hz3,hB3⟩
    case measure=>(simp [intOf]; try omega)
  ·obtain rfl:t=T:=by omega
   have d1:decide ((t:Int)+1≤(t:Int))=false:=decide_eq_false (by omega)
   rw [HDD.out] at hown hn
   have hcy:checkCyl (withF c (fragL wide (widT t l) t))=0:=withF_ok hc0 (by rw [hT]; exact fragL_ok wide (widT t l) t t (Int.le_refl _))
   have hC:CylV wr wr.heap.size (.agg #[.int .i64 t,.int .i64 c.long,.int .i64 6,.slice A n cap,.slice pA c.pas.length pc]) (withF c (fragL wide (widT t l) t)):=by
    refine ⟨.slice A n cap,.slice pA c.pas.length pc,by rw [← hT,← hp6]; rfl,?_,(hpas.below hb).more (by omega)⟩
    subst hn
    exact Arr.of_own hown
   have hwo:=worths_ok _ _ wr hC
   have hln:=worthsOf_len hcy
   rw [show tK (withF c (fragL wide (widT t l) t))=6 by unfold tK withF; rw [hp6]; rfl] at hln
   unfold WorthsPost at hwo
   rw [hcy] at hwo
   have HLN:=Lib.hid hln
   obtain ⟨ws,HWS⟩:∃ ws,Hid (ws=worthsOf (withF c (fragL wide (widT t l) t))):=⟨_,rfl⟩
   rw [← HWS.out] at hwo HLN
   have k0:=x3.cell 0
   have k1:=x3.cell 1
   have k2:=x3.cell 2
   have k3:=x3.cell 3
   have k4:=x3.cell 4
   simp at k0 k1 k2 k3 k4
   clear hown hn hcy hC hln
   go_wp2_with fail
   refine hwo.mono ?_
   rintro e w2 ⟨ov,rfl,hov,hb2⟩
   have x5:=x3.call hb2
   have hB2:=hb.trans (hb2.mono (by omega))
   clear hwo x3 x4 k0 k1 k2 k3 k4 hb hb2
   have k2:=x5.cell 2
   simp at k2
   obtain ⟨ob,oo,oc,rfl,hob,ho1,ho2,hcell⟩:=numRow hov (by rw [HLN.out]; omega)
   rw [HLN.out] at hov ho1 ⊢
   clear hcell
   go_upto_region 10 with (fail)
   have f0:=Ext.of k2
   clear k2
   refine wp_region_ext (by kernel_rfl) (by kernel_rfl) ?_
   repeat (go_big_quiet_step (fail))
   refine wpQuiet_nil ?_
   intro _ hw'
   obtain ⟨xr,hw''⟩:=hw'
   subst hw''
   have hov2:=(hov.below xr.h).more xr.h.size
   have hB3:=hB2.trans (xr.h.mono (by have:=x5.lt; omega))
   clear hov hB2 f0 x5
   go_wp2
   go_ret2
   exact ⟨_,rfl,by rw [← HWS.out]; exact hov2,hB3⟩
theorem lst_of {w:World} {v:Value} {c:Cyl} (h:Arr w w.heap.size 1 v (worthsOf c) icell) (hc:checkCyl c=0) (hp:c.plays=6):∃ b off cap,v = .slice (some ⟨b,off,none⟩) 7 cap∧LstB w b off (mostK c):=by
 have hln:=worthsOf_len hc
 have hk:tK c=6:=by unfold tK; rw [hp]; rfl
 rw [hk] at hln
 obtain ⟨b,off,cap,rfl,hb, -, -,hcell⟩:=numRow h (by omega)
 exact ⟨b,off,cap,by rw [hln],hb,fun j hj=>hcell j _ (worthsOf_get hc (by omega))⟩
theorem widT_frag (T:Nat) (l:List Ru) (wide:Int):fragL wide (widT T l) T=fragS T l wide:=rfl
end Go.Proofs.YtaihbcmifjmapaaGreat
