/- Contracts of the reference: CheckCylinder, CheckPlan. -/
import Derived.Test.YtjpfjklobnilkaaGreatRefA
import Derived.Test.YtjpfjklobnilkaaGreatPB
namespace Go.Proofs.YtjpfjklobnilkaaGreat
open Go.RowKit Go.Shelf
set_option linter.unusedVariables false
theorem all_drop {α:Type} (p:α→Bool) (l:List α) (k:Nat) (x:α) (h:l[k]? = some x):(l.drop k).all p=(p x&&(l.drop (k+1)).all p):=by
 obtain ⟨hk,hx⟩:=List.getElem?_eq_some_iff.1 h
 rw [List.drop_eq_getElem_cons hk,hx]
 rfl
set_option maxRecDepth 100000 in
set_option maxHeartbeats 1600000 in
theorem rcheckCyl_ok (v:Value) (c:Cyl) (w:World) (hv:CylV w w.heap.size v c) :
  Calls Tryz.prog 14 #[v] w fun r w'=>r = .returned (.int .i64 (checkCyl c))∧Below w.heap.size w w':=by
 obtain ⟨fv,pv,rfl,⟨fa,fc,rfl,hf1,hf2,hfc⟩,⟨pa,pc,rfl,hp1,hp2,hpc⟩⟩:=hv
 have hx:=Blk.new w 25 #[.int .i64 c.turns,.int .i64 c.long,.int .i64 c.plays,.slice fa c.frag.length fc,.slice pa c.pas.length pc]
 have hB:=(Below.refl w.heap.size w).alloc (Nat.le_refl _) (.cells #[.int .i64 c.turns,.int .i64 c.long,.int .i64 c.plays,.slice fa c.frag.length fc,.slice pa c.pas.length pc] 25)
 go_enter Tryz.func14,Tryz.ntmps14
 go_upto_region 1 with (fail)
 generalize hW:w.alloc (.cells #[.int .i64 c.turns,.int .i64 c.long,.int .i64 c.plays,.slice fa c.frag.length fc,.slice pa c.pas.length pc] 25)=W at *
 clear hW
 obtain ⟨k0,k1,k2,k3,k4⟩:=hx.c5
 by_cases hA:argOk c=true
 case neg =>
  have HC:Hid (checkCyl c=2):=by simp [Hid,checkCyl,hA]
  have HA:=Lib.hid hA
  clear hA
  go_wp2
  all_goals first
   | (go_ret; exact ⟨ret_i HC.out.symm,hB⟩)
   | (exfalso; apply HA.out; simp [argOk]; omega)
 case pos =>
  have HA:=Lib.hid hA
  simp only [argOk,Bool.and_eq_true,decide_eq_true_eq] at hA
  obtain ⟨⟨⟨⟨⟨a1,a2⟩,a3⟩,a4⟩,a5⟩,a6⟩:=hA
  go_wp2
  go_loopw [3] (fun i wr=>∃ (k:Nat) (last:Int),k≤c.frag.length∧i = .int .i64 k∧((k=0∧last = -1)∨(0 < k∧c.frag[k-1]? = some last∧0≤last))∧fragOk c.turns (-1) c.frag=fragOk c.turns last (c.frag.drop k)∧Below W.heap.size W wr) (fun i _=>c.frag.length-(intOf i).toNat)
  case atStart=>exact ⟨0, -1,Nat.zero_le _,rfl,.inl ⟨rfl,rfl⟩,rfl,Below.refl _ _⟩
  case round =>
   obtain ⟨k,last,hk,rfl,hlast,hfr,hb⟩:=hrel
   have hBr:=hB.trans (hb.mono hB.size)
   have hxr:=hx.call hb
   clear k0 k1 k2 k3 k4
   obtain ⟨k0,k1,k2,k3,k4⟩:=hxr.c5
   by_cases hlt:k < c.frag.length
   ·obtain ⟨b,off,rfl,hBb,hcc⟩:=hfc (by omega)
    obtain ⟨t,ht⟩:∃ x,c.frag[k]? = some x:=⟨c.frag[k],List.getElem?_eq_getElem hlt⟩
    have hce:=(hBr.cell (p:=⟨b,off+k*1+0,none⟩) hBb).trans (hcc k t ht 0 (by omega))
    simp only [Nat.mul_one,Nat.add_zero] at hce
    rw [fragOk_drop c.turns last t c.frag k ht] at hfr
    have HF:=Lib.hid hfr
    have HT:=Lib.hid ht
    have HL:=Lib.hid hlast
    clear hfr ht hlast
    have i1:(k:Int) < (c.frag.length:Int):=by omega
    have e0:=Ext.of hce
    have e1:=Ext.of k0
    have e2:=Ext.of k3
    by_cases h1:t < 0
    ·have d1:decide (t < 0)=true:=by simpa using h1
     clear hfc hpc hcc
     go_wp2_with fail
     go_quiet (fail)
     go_wp2
     go_ret
     refine ⟨ret_i ?_,bdrewN hBr _⟩
     have hbad:fragOk c.turns (-1) c.frag=false:=by
      rw [HF.out]; rcases HL.out with ⟨_,h⟩ | ⟨_,_,h⟩ <;> (simp; omega)
     simp [checkCyl,HA.out,hbad]
    ·have d1:decide (t < 0)=false:=by simpa using h1
     by_cases h2:c.turns≤t
     ·have d2:decide (c.turns≤t)=true:=by simpa using h2
      clear hfc hpc hcc
      go_wp2_with fail
      go_quiet (fail)
      go_wp2
      go_ret
      refine ⟨ret_i ?_,bdrewN hBr _⟩
      have hbad:fragOk c.turns (-1) c.frag=false:=by rw [HF.out]; simp; omega
      simp [checkCyl,HA.out,hbad]
     ·have d2:decide (c.turns≤t)=false:=by simpa using h2
      have hT:=HT.out
      by_cases h3:0 < k
      ·obtain ⟨hl1,hl2⟩:c.frag[k-1]? = some last∧0≤last:=by
        rcases HL.out with ⟨h,_⟩ | ⟨_,h,h'⟩
        ·omega
        ·exact ⟨h,h'⟩
       have hcm:=(hBr.cell (p:=⟨b,off+(k-1)*1+0,none⟩) hBb).trans (hcc (k-1) last hl1 0 (by omega))
       simp only [Nat.mul_one,Nat.add_zero] at hcm
       have HL1:=Lib.hid hl1
       have HT:=Lib.hid hT
       clear hl1 hT hfc hpc hcc
       have d3:decide (0 < (k:Int))=true:=by simpa using h3
       have i2:(0:Int)≤(k:Int)-1:=by omega
       have i3:(k:Int)-1 < (c.frag.length:Int):=by omega
       by_cases h4:t≤last
       ·have d4:decide (t≤last)=true:=by simpa using h4
        go_wp2_with fail
        go_quiet (fail)
        go_wp2
        go_ret
        refine ⟨ret_i ?_,bdrewN hBr _⟩
        have hbad:fragOk c.turns (-1) c.frag=false:=by rw [HF.out]; simp; omega
        simp [checkCyl,HA.out,hbad]
       ·have d4:decide (t≤last)=false:=by simpa using h4
        go_wp2_with fail
        go_quiet (fail)
        go_wp2
        go_roundw
        case rel=>exact ⟨k+1,t,by omega,by go_num,.inr ⟨by omega,HT.out,by omega⟩,by rw [HF.out]; simp; omega,bdrewN hb _⟩
        case measure=>simp [intOf]; omega
      ·have d3:decide (0 < (k:Int))=false:=by simp; omega
       have HK:Hid (k=0):=by simp only [Hid]; omega
       have hl2:last = -1:=by
        rcases HL.out with ⟨_,h⟩ | ⟨h,_⟩
        ·exact h
        ·omega
       have HL2:=Lib.hid hl2
       have HT:=Lib.hid hT
       clear hl2 hT hfc hpc hcc
       go_wp2_with fail
       go_quiet (fail)
       go_wp2
       go_roundw
       case rel=>exact ⟨k+1,t,by omega,by go_num,.inr ⟨by omega,HT.out,by omega⟩,by rw [HF.out,HL2.out]; simp; omega,bdrewN hb _⟩
       case measure=>simp [intOf]; omega
   ·obtain rfl:k=c.frag.length:=by omega
    have hgood:fragOk c.turns (-1) c.frag=true:=by rw [hfr]; simp [fragOk]
    have HG:=Lib.hid hgood
    clear hfr hgood hlast hfc
    by_cases hm:12 < c.pas.length
    ·go_wp2
     go_ret
     exact ⟨ret_i (by simp [checkCyl,HA.out,HG.out,hm]),hBr⟩
    ·obtain ⟨wo,rfl⟩:∃ wo:World,wo=wr:=⟨_,rfl⟩
     go_wp2
     go_loopw [4] (fun i wq=>∃ (k:Nat),k≤c.pas.length∧i = .int .i64 k∧c.pas.all (pasOk c.turns)=(c.pas.drop k).all (pasOk c.turns)∧Below wo.heap.size wo wq) (fun i _=>c.pas.length-(intOf i).toNat)
     case atStart=>exact ⟨0,Nat.zero_le _,rfl,rfl,Below.refl _ _⟩
     case round =>
      obtain ⟨k,hk,rfl,hpr,hb⟩:=hrel
      have hBq:=hBr.trans (hb.mono hBr.size)
      have hxq:=hxr.call hb
      clear k0 k1 k2 k3 k4
      obtain ⟨k0,k1,k2,k3,k4⟩:=hxq.c5
      by_cases hlt:k < c.pas.length
      ·obtain ⟨b,off,rfl,hBb,hcc⟩:=hpc (by omega)
       obtain ⟨p,ht⟩:∃ x,c.pas[k]? = some x:=⟨c.pas[k],List.getElem?_eq_getElem hlt⟩
       have c0:=(hBq.cell (p:=⟨b,off+k*3+0,none⟩) hBb).trans (hcc k p ht 0 (by omega))
       have c1:=(hBq.cell (p:=⟨b,off+k*3+1,none⟩) hBb).trans (hcc k p ht 1 (by omega))
       have c2:=(hBq.cell (p:=⟨b,off+k*3+2,none⟩) hBb).trans (hcc k p ht 2 (by omega))
       simp only [Nat.add_zero,pcell] at c0 c1 c2
       rw [all_drop _ _ k p ht] at hpr
       have HP:=Lib.hid hpr
       have hlw:=hxq.lt
       have hnb:b≠wr.heap.size:=by have:=hBq.size; omega
       clear hpr ht hcc hpc
       cases hok:pasOk c.turns p
       ·have HB:=Lib.hid hok
        clear hok
        go_wp2
        all_goals first
         | (go_ret
            refine ⟨ret_i ?_,hBq.alloc hBq.size _⟩
            have hbad:c.pas.all (pasOk c.turns)=false:=by rw [HP.out,HB.out]; rfl
            simp only [checkCyl,HA.out,HG.out,hbad,hm]; simp)
         | (exfalso; have:=HB.out; simp [pasOk] at this; omega)
       ·have HB:=Lib.hid hok
        simp only [pasOk,Bool.and_eq_true,decide_eq_true_eq] at hok
        obtain ⟨⟨⟨⟨b1,b2⟩,b3⟩,b4⟩,b5⟩:=hok
        go_wp2
        go_roundw
        case rel=>exact ⟨k+1,by omega,by go_num,by rw [HP.out,HB.out]; rfl,hb.alloc hb.size _⟩
        case measure=>simp [intOf]; omega
      ·obtain rfl:k=c.pas.length:=by omega
       have HP:=Lib.hid hpr; clear hpr
       go_wp2
       go_ret
       have hall:c.pas.all (pasOk c.turns)=true:=by rw [HP.out]; simp
       exact ⟨ret_i (by simp only [checkCyl,HA.out,HG.out,hall,hm]; simp),hBq⟩
end Go.Proofs.YtjpfjklobnilkaaGreat
