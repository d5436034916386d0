/- Contracts of the reference: IsRule, CheckSheet, All of package mandrelref01. -/
import Derived.Test.YtaihbcmifjmapaaGreatSD
namespace Go.Proofs.YtaihbcmifjmapaaGreat
open Go.RowKit Go.Shelf Sp
set_option linter.unusedVariables false
theorem own_down {w:World} {base B e size n:Nat} {v:Value} {xs:List Value} (h:w.ownsRow base e size v n xs) (hB:B≤base):w.ownsRow B e size v n xs:=by
 obtain ⟨h1,h2 | ⟨g,cap,cur,h3,h4,h5⟩⟩:=h
 ·exact ⟨h1,.inl h2⟩
 ·exact ⟨h1,.inr ⟨g,cap,cur,h3,by omega,h5⟩⟩
set_option maxRecDepth 100000 in
theorem isRule_ok (r:Ru) (T:Int) (w:World) :
  Calls Tryz.prog 19 #[.agg #[.int .i64 r.f,.int .i64 r.t,.int .i64 r.m],.int .i64 T] w fun e w'=>e = .returned (.bool (okRu T r))∧Below w.heap.size w w':=by
 obtain ⟨f,t,m⟩:=r
 dsimp only
 go_enter Tryz.func19,Tryz.ntmps19
 go_upto_region 1 with (fail)
 have x0:=Blk.new w 27 #[.int .i64 f,.int .i64 t,.int .i64 m]
 have hb:=(Below.refl w.heap.size w).alloc (Nat.le_refl _) (.cells #[.int .i64 f,.int .i64 t,.int .i64 m] 27)
 generalize w.alloc (.cells #[.int .i64 f,.int .i64 t,.int .i64 m] 27)=W at *
 have p0:=x0.cell 0
 have p1:=x0.cell 1
 have p2:=x0.cell 2
 simp at p0 p1 p2
 clear x0
 by_cases c0:0≤f
 ·have d0:decide (0≤f)=true:=decide_eq_true c0
  by_cases c1:f≤T
  ·have d1:decide (f≤T)=true:=decide_eq_true c1
   by_cases c2:0≤t
   ·have d2:decide (0≤t)=true:=decide_eq_true c2
    by_cases c3:t≤T
    ·have d3:decide (t≤T)=true:=decide_eq_true c3
     by_cases c4:f=t
     ·have d4:(f != t)=false:=by rw [c4]; simp
      have d4':(f==t)=true:=by rw [c4]; simp
      clear c4
      go_wp2
      go_ret
      exact ⟨by simp [okRu, *],hb⟩
     ·have d4:(f != t)=true:=by simpa using c4
      have d4':(f==t)=false:=by simpa using c4
      by_cases c5 : -100000≤m
      ·have d5:decide (-100000≤m)=true:=decide_eq_true c5
       by_cases c6:m≤100000
       ·have d6:decide (m≤100000)=true:=decide_eq_true c6
        go_wp2
        go_ret
        exact ⟨by simp [okRu, *],hb⟩
       ·have d6:decide (m≤100000)=false:=decide_eq_false c6
        go_wp2
        go_ret
        exact ⟨by simp [okRu, *],hb⟩
      ·have d5:decide (-100000≤m)=false:=decide_eq_false c5
       go_wp2
       go_ret
       exact ⟨by simp [okRu, *],hb⟩
    ·have d3:decide (t≤T)=false:=decide_eq_false c3
     go_wp2
     go_ret
     exact ⟨by simp [okRu, *],hb⟩
   ·have d2:decide (0≤t)=false:=decide_eq_false c2
    go_wp2
    go_ret
    exact ⟨by simp [okRu, *],hb⟩
  ·have d1:decide (f≤T)=false:=decide_eq_false c1
   go_wp2
   go_ret
   exact ⟨by simp [okRu, *],hb⟩
 ·have d0:decide (0≤f)=false:=decide_eq_false c0
  go_wp2
  go_ret
  exact ⟨by simp [okRu, *],hb⟩
set_option maxRecDepth 100000 in
set_option maxHeartbeats 800000 in
theorem rsheet_ok (v:Value) (T:Int) (l:List Ru) (w:World) (hs:SheetV w w.heap.size v T l) :
  Calls Tryz.prog 9 #[v] w fun r w'=>r = .returned (.int .i64 (checkSh T l))∧Below w.heap.size w w':=by
 obtain ⟨A0,c,rfl,ha⟩:=hs
 have HC:=Lib.hid (show checkSh T l=_ from rfl)
 unfold checkSh at HC
 go_enter Tryz.func9,Tryz.ntmps9
 go_upto_region 1 with (fail)
 have x0:=Blk.new w 24 #[.int .i64 T,.slice A0 l.length c]
 have hb:=(Below.refl w.heap.size w).alloc (Nat.le_refl _) (.cells #[.int .i64 T,.slice A0 l.length c] 24)
 generalize w.alloc (.cells #[.int .i64 T,.slice A0 l.length c] 24)=W at *
 have ha1:=(ha.below hb).more hb.size
 have p0:=x0.cell 0
 have p1:=x0.cell 1
 simp at p0 p1
 clear ha
 by_cases c1:60 < l.length
 ·have e1:checkSh T l=6:=by unfold checkSh; rw [if_pos c1]
  have H1:=Lib.hid e1
  have hli:(60:Int) < (l.length:Int):=by omega
  clear HC e1 ha1
  go_wp2
  go_ret
  exact ⟨ret_i H1.out.symm,hb⟩
 ·have hli:¬ (60:Int) < (l.length:Int):=by omega
  by_cases c2:T < 1
  ·have e1:checkSh T l=2:=by unfold checkSh; rw [if_neg c1,if_pos (.inl c2)]
   have H1:=Lib.hid e1
   clear HC e1 ha1
   go_wp2
   go_ret
   exact ⟨ret_i H1.out.symm,hb⟩
  ·by_cases c3:20 < T
   ·have e1:checkSh T l=2:=by unfold checkSh; rw [if_neg c1,if_pos (.inr c3)]
    have H1:=Lib.hid e1
    clear HC e1 ha1
    go_wp2
    go_ret
    exact ⟨ret_i H1.out.symm,hb⟩
   ·have hcs:checkSh T l=if l.all (okRu T)=false then 3 else 0:=by unfold checkSh; rw [if_neg c1,if_neg (by omega)]
    have HCS:=Lib.hid hcs
    clear HC hcs
    go_upto_region 6 with (fail)
    go_loopw [3] (fun i wr=>∃ k:Nat,k≤l.length∧i = .int .i64 k∧(l.take k).all (okRu T)=true∧Arr wr wr.heap.size 3 (.slice A0 l.length c) l rucell∧Blk wr w.heap.size 24 #[.int .i64 T,.slice A0 l.length c]∧Below w.heap.size w wr) (fun i _=>l.length-(intOf i).toNat)
    case atStart=>exact ⟨0,Nat.zero_le _,rfl,rfl,ha1,x0,hb⟩
    case round =>
     clear ha1 x0 hb p0 p1
     obtain ⟨k,hk,rfl,hall,ha1,x0,hb⟩:=hrel
     have p0:=x0.cell 0
     have p1:=x0.cell 1
     simp at p0 p1
     by_cases hlt:k < l.length
     ·have hki:(k:Int) < (l.length:Int):=by omega
      obtain ⟨b,off,r,rfl,hBb,hrk,hcc⟩:=ha1.at_ hlt
      have c0:=hcc 0 (by omega)
      have c4:=hcc 1 (by omega)
      have c5:=hcc 2 (by omega)
      simp only [rucell,Nat.add_zero] at c0 c4 c5
      have f0:=Ext.of c0
      have f1:=Ext.of c4
      have f2:=Ext.of c5
      have f3:=Ext.of p0
      have f4:=Ext.of p1
      have hnx:(l.take (k+1)).all (okRu T)=okRu T r:=by
       rw [List.take_add_one,hrk,List.all_append,hall]
       simp
      have hmem:=List.mem_of_getElem? hrk
      have HR:Hid (∀ y:Ext wr,Calls Tryz.prog 19 #[.agg #[.int .i64 r.f,.int .i64 r.t,.int .i64 r.m],.int .i64 T] y.w fun e w'=>e = .returned (.bool (okRu T r))∧∃ z:Ext wr,w'=z.w):=fun y=>ext_call y (isRule_ok r T y.w)
      clear hcc hrk hall c0 c4 c5
      cases hq:okRu T r
      ·have H3:Hid (checkSh T l=3):=by
        rw [Hid,HCS.out,if_pos]
        rw [List.all_eq_false]
        exact ⟨r,hmem,by rw [hq]; decide⟩
       rw [hq] at HR
       clear hnx hmem hq
       go_upto_region 8 with (fail)
       clear p0 p1
       refine wp_region_ext (by kernel_rfl) (by kernel_rfl) ?_
       repeat (go_big_quiet_step ((go_at_call 19; exact HR.out _)))
       refine wpQuiet_nil ?_
       intro _ hw'
       obtain ⟨xr,hw''⟩:=hw'
       subst hw''
       have hbx:=hb.trans (xr.h.mono hb.size)
       clear f0 f1 f2 f3 f4 HR ha1 x0 hb
       go_wp2
       go_ret
       exact ⟨ret_i H3.out.symm,hbx⟩
      ·rw [hq] at HR hnx
       have HNX:=Lib.hid hnx
       clear hnx hmem hq
       go_upto_region 8 with (fail)
       clear p0 p1
       refine wp_region_ext (by kernel_rfl) (by kernel_rfl) ?_
       repeat (go_big_quiet_step ((go_at_call 19; exact HR.out _)))
       refine wpQuiet_nil ?_
       intro _ hw'
       obtain ⟨xr,hw''⟩:=hw'
       subst hw''
       have hbx:=hb.trans (xr.h.mono hb.size)
       have hax:=(ha1.below xr.h).more xr.h.size
       have hxx:=x0.call xr.h
       clear f0 f1 f2 f3 f4 HR ha1 x0 hb
       go_wp2
       go_roundw
       case rel=>exact ⟨k+1,by omega,by go_num,HNX.out,hax,hxx,hbx⟩
       case measure=>(simp [intOf]; try omega)
     ·obtain rfl:k=l.length:=by omega
      rw [List.take_length] at hall
      have H0:Hid (checkSh T l=0):=by rw [Hid,HCS.out,if_neg (by rw [hall]; decide)]
      clear ha1 x0 hall
      go_wp2
      go_ret
      exact ⟨ret_i H0.out.symm,hb⟩
set_option maxRecDepth 100000 in
set_option maxHeartbeats 1600000 in
theorem rall_ok (v:Value) (T:Nat) (l:List Ru) (w:World) (hk:SheetOk T l) (hs:SheetV w w.heap.size v T l) :
  Calls Tryz.prog 59 #[v] w fun r w'=>∃ A c,r = .returned (.slice A (allR T l).length c)∧w'.ownsRow w.heap.size 27 3 (.slice A (allR T l).length c) (allR T l).length ((allR T l).flatMap (cellsOf 3 rucell))∧Below w.heap.size w w':=by
 obtain ⟨A0,c,rfl,ha⟩:=hs
 have h1:=hk.few
 have h3:=hk.t20
 clear hk
 obtain ⟨Bs,hBs⟩:∃ Bs,Bs=w.heap.size:=⟨_,rfl⟩
 rw [← hBs]
 go_enter Tryz.func59,Tryz.ntmps59
 go_upto_region 1 with (fail)
 have x0:=Blk.new w 24 #[.int .i64 T,.slice A0 l.length c]
 have hb:=(Below.refl w.heap.size w).alloc (Nat.le_refl _) (.cells #[.int .i64 T,.slice A0 l.length c] 24)
 have z1:(w.alloc (.cells #[.int .i64 T,.slice A0 l.length c] 24)).heap.size=Bs+1:=by simp [hBs]
 have ha1:=(ha.below hb).more hb.size
 rw [← hBs] at x0 hb ⊢
 have HBs:=Lib.hid hBs
 clear hBs ha
 generalize w.alloc (.cells #[.int .i64 T,.slice A0 l.length c] 24)=W at *
 have p0:=x0.cell 0
 have p1:=x0.cell 1
 simp at p0 p1
 have hb2:=(Below.refl W.heap.size W).alloc (Nat.le_refl _) (.cells #[] 27)
 have hown:=own_empty W (Bs+1) 27 3 (by omega)
 have ha2:=ha1.below hb2
 have x2:=x0.call hb2
 have hb3:=hb.trans (hb2.mono (by omega))
 rw [z1] at hown
 have hz2:Bs+1≤(W.alloc (.cells #[] 27)).heap.size:=by simp; omega
 have HO:=one_ru l
 clear ha1 x0 hb hb2
 go_wp2_with (at_builtin; refine wpList_appArr slT_ru rfl (.tmp 5) (.tmp 7) rfl rfl hown rfl ha2 HO hz2 ?_ ?_ ?_)
 ·omega
 ·omega
 intro v' w1 hown1 hb4 hg4
 obtain ⟨A1,c1,rfl⟩:=own_form hown1
 have x3:=x2.below hb4 (Nat.lt_succ_self _)
 have hb5:=hb3.trans (hb4.mono (by omega))
 have hz5:=Nat.le_trans hz2 hb4.size
 clear hown ha2 x2 hb3 hz2 hb4 hg4 HO p0 p1 z1
 go_upto_region 3 with (fail)
 go_loopw [3,4] (fun o i wr=>∃ (k n:Nat) (A:Option Addr) (c1:Nat),k≤T∧i = .int .i64 (k+1)∧o = .slice A n c1∧n=l.length+2 * k∧wr.ownsRow (Bs+1) 27 3 (.slice A n c1) n ((l++wholeR k).flatMap (cellsOf 3 rucell))∧Blk wr Bs 24 #[.int .i64 T,.slice A0 l.length c]∧Bs+1≤wr.heap.size∧Below Bs w wr) (fun _ i _=>T+1-(intOf i).toNat)
 case atStart=>exact ⟨0,l.length,A1,c1,Nat.zero_le _,rfl,rfl,by omega,by rw [wholeR,List.append_nil]; exact hown1,x3,hz5,hb5⟩
 case round =>
  clear hown1 x3 hz5 hb5
  obtain ⟨k,n,A,c2,hk,rfl,rfl,hnn,hown,x3,hz,hB⟩:=hrel
  have p0:=x3.cell 0
  simp at p0
  by_cases hlt:k < T
  ·have hki:(k:Int) < (T:Int):=by omega
   have d1:decide ((k:Int)+1≤(T:Int))=true:=decide_eq_true (by omega)
   obtain ⟨r1,hr1⟩:∃ r:Ru,r=⟨0,((k+1:Nat):Int),100000⟩:=⟨_,rfl⟩
   obtain ⟨r2,hr2⟩:∃ r:Ru,r=⟨((k+1:Nat):Int),0,0⟩:=⟨_,rfl⟩
   have hX:=Blk.new wr 27 #[.int .i64 0,.int .i64 (k+1),.int .i64 100000,.int .i64 (k+1),.int .i64 0,.int .i64 0]
   have hb1:=(Below.refl wr.heap.size wr).alloc (Nat.le_refl _) (.cells #[.int .i64 0,.int .i64 (k+1),.int .i64 100000,.int .i64 (k+1),.int .i64 0,.int .i64 0] 27)
   have hown1:=own_call hown hb1
   have hn1:=x3.call hb1
   have hB1:=hB.trans (hb1.mono (by omega))
   have hsz:Bs+1≤(wr.alloc (.cells #[.int .i64 0,.int .i64 (k+1),.int .i64 100000,.int .i64 (k+1),.int .i64 0,.int .i64 0] 27)).heap.size:=by simp; omega
   have htw:∀ j u,([r1,r2].flatMap (cellsOf 3 rucell))[j]? = some u→(wr.alloc (.cells #[.int .i64 0,.int .i64 (k+1),.int .i64 100000,.int .i64 (k+1),.int .i64 0,.int .i64 0] 27)).cell? ((⟨wr.heap.size,0,none⟩:Addr).add j)=some u:=by
    have e1:((k+1:Nat):Int)=(k:Int)+1:=by omega
    subst hr1 hr2
    refine two_ru (t:=27) ?_
    dsimp only
    rw [e1]
    exact hX
   have HN:=Lib.hid hnn
   have hn1000:n≤200:=by omega
   have HR1:=Lib.hid hr1
   have HR2:=Lib.hid hr2
   clear hown x3 hB hb1 hX hnn hr1 hr2
   go_wp2_with (at_builtin; refine wpList_appM slT_ru rfl (.tmp 15) (.tmp 20) rfl (m:=2) rfl hown1 ⟨wr.heap.size,0,none⟩ rfl ([r1,r2].flatMap (cellsOf 3 rucell)) (by rfl) htw (one_ru _) hsz ?_ ?_ ?_)
   ·omega
   ·omega
   intro v' w' hown2 hb2 hg2
   obtain ⟨A4,c4,rfl⟩:∃ A' cap',v' = .slice A' (n+2) cap':=own_form hown2
   have hn2:=hn1.below hb2 (Nat.lt_succ_self _)
   have hB2:=hB1.trans (hb2.mono (by omega))
   have hsz2:=Nat.le_trans hsz hb2.size
   have hown5:w'.ownsRow (Bs+1) 27 3 (.slice A4 (n+2) c4) (n+2) ((l++wholeR (k+1)).flatMap (cellsOf 3 rucell)):=by
    rw [wholeR,← HR1.out,← HR2.out,← List.append_assoc,List.flatMap_append]
    simpa using hown2
   clear hown1 hn1 hB1 hsz htw hown2 hg2 hb2 HR1 HR2 p0
   go_wp2
   go_roundw
   case rel=>exact ⟨k+1,n+2,A4,c4,by omega,by go_num,rfl,by have:=HN.out; omega,hown5,hn2,hsz2,hB2⟩
   case measure=>(simp [intOf]; try omega)
  ·obtain rfl:k=T:=by omega
   have d1:decide ((k:Int)+1≤(k:Int))=false:=decide_eq_false (by omega)
   have hl:n=(allR k l).length:=by unfold allR; rw [List.length_append,wholeR_len]; exact hnn
   change wr.ownsRow _ _ _ _ _ ((allR k l).flatMap _) at hown
   clear hnn
   subst hl
   have har:=own_down (B:=Bs) hown (by omega)
   clear hown x3 hz
   go_wp2
   go_ret
   exact ⟨A,c2,rfl,har,hB⟩
end Go.Proofs.YtaihbcmifjmapaaGreat
