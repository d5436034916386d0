/- Contracts of the reference: Clashes of package mandrelref01; sheet03 of mandreltop. -/
import Derived.Test.YtaihbcmifjmapaaGreatSpY
namespace Go.Proofs.YtaihbcmifjmapaaGreat
open Go.RowKit Go.Shelf Sp
set_option linter.unusedVariables false
set_option maxRecDepth 100000 in
set_option maxHeartbeats 1600000 in
theorem clashes_ok (v:Value) (T:Nat) (l:List Ru) (w:World) (hk:SheetOk T l) (hs:SheetV w w.heap.size v T l) :
  Calls Tryz.prog 10 #[v] w fun r w'=>∃ bb:Bool,r = .returned (.bool bb)∧(bb=false→Free T l)∧Below w.heap.size w w':=by
 have HFL:=Lib.hid (floyd (allL_net hk) (by have:=hk.t20; omega) (allL_ne hk))
 obtain ⟨A0,c,rfl,ha⟩:=hs
 have h3:=hk.t20
 go_enter Tryz.func10,Tryz.ntmps10
 go_upto_region 1 with (fail)
 have x0:=Blk.new w 24 #[.int .i64 T,.slice A0 l.length c]
 have hb:=(Below.refl w.heap.size w).alloc (Nat.le_refl _) (.cells #[.int .i64 T,.slice A0 l.length c] 24)
 generalize w.alloc (.cells #[.int .i64 T,.slice A0 l.length c] 24)=W at *
 have ha1:=(ha.below hb).more hb.size
 have p0:=x0.cell 0
 have p1:=x0.cell 1
 simp at p0 p1
 clear ha
 go_wp2_with fail
 refine (far_ok _ T l W hk ⟨A0,c,rfl,ha1⟩).mono ?_
 rintro e w1 ⟨B,b,cap,rs,rfl,htab,hb1⟩
 have hbr:=hb.trans (hb1.mono hb.size)
 clear ha1 x0 hb hb1 p0 p1 hk
 go_upto_region 3 with (fail)
 go_loopw [4] (fun i wr=>∃ k:Nat,k≤T+1∧i = .int .i64 k∧(∀ j,j < k→0≤farM (T+1) (allL T l) j j)∧wr=w1) (fun i _=>T+1-(intOf i).toNat)
 case atStart=>exact ⟨0,Nat.zero_le _,rfl,fun j hj=>absurd hj (by omega),rfl⟩
 case round =>
  obtain ⟨k,hkT,rfl,hall,rfl⟩:=hrel
  by_cases hlt:k < T+1
  ·have hki:(k:Int) < (T:Int)+1:=by omega
   obtain ⟨p,hp,hph, -⟩:=htab.head hlt
   obtain ⟨e1, -⟩:=htab.rows.at_ hp hlt
   generalize hx:farM (T+1) (allL T l) k k=x at *
   have HX:=Lib.hid hx
   have HALL:=Lib.hid hall
   clear hall hx
   by_cases hneg:x < 0
   ·go_wp2
    go_ret
    exact ⟨true,rfl,(by intro h; cases h),hbr⟩
   ·go_wp2
    go_roundw
    case rel =>
     refine ⟨k+1,by omega,by go_num,fun j hj=>?_,by first | rfl | trivial⟩
     by_cases e:j=k
     ·subst e
      rw [HX.out]
      omega
     ·exact HALL.out j (by omega)
    case measure=>(simp [intOf]; try omega)
  ·obtain rfl:k=T+1:=by omega
   have HALL:=Lib.hid hall
   clear hall htab
   go_wp2
   go_ret
   exact ⟨false,rfl,fun _=>HFL.out HALL.out,hbr⟩
set_option maxRecDepth 100000 in
set_option maxHeartbeats 1600000 in
theorem sheet03_ok (v:Value) (T:Int) (l:List Ru) (w:World) (hs:SheetV w w.heap.size v T l) :
  Calls Tryz.prog 4 #[v] w fun r w'=>∃ bb:Bool,r = .returned (.bool bb)∧(bb=true→T=(T.toNat:Int)∧SheetOk T.toNat l∧Free T.toNat l)∧Below w.heap.size w w':=by
 obtain ⟨A0,c,rfl,ha⟩:=hs
 go_enter Tryz.func4,Tryz.ntmps4
 go_upto_region 1 with (fail)
 have x0:=Blk.new w 24 #[.int .i64 T,.slice A0 l.length c]
 have hb:=(Below.refl w.heap.size w).alloc (Nat.le_refl _) (.cells #[.int .i64 T,.slice A0 l.length c] 24)
 generalize w.alloc (.cells #[.int .i64 T,.slice A0 l.length c] 24)=W at *
 have ha1:=(ha.below hb).more hb.size
 have p0:=x0.cell 0
 have p1:=x0.cell 1
 simp at p0 p1
 clear ha
 by_cases hl:l.length≤70
 ·have hli:(l.length:Int)≤70:=by omega
  have hcs:=rsheet_ok _ T l W ⟨A0,c,rfl,ha1⟩
  by_cases hc:checkSh T l=0
  ·have HC:=Lib.hid (sheet_ok hc)
   rw [hc] at hcs
   clear hc
   go_wp2_with fail
   refine hcs.mono ?_
   rintro e w1 ⟨rfl,hb1⟩
   have ha2:=(ha1.below hb1).more hb1.size
   have x1:=x0.call hb1
   have hB1:=hb.trans (hb1.mono hb.size)
   have hcl:=clashes_ok (.agg #[.int .i64 T,.slice A0 l.length c]) T.toNat l w1 HC.out.2 ⟨A0,c,by rw [← HC.out.1],ha2⟩
   clear p0 p1 x0 ha1 hb hb1 hcs
   have p0:=x1.cell 0
   have p1:=x1.cell 1
   simp at p0 p1
   go_wp2_with fail
   refine hcl.mono ?_
   rintro e w2 ⟨bb,rfl,hfr,hb2⟩
   have hB2:=hB1.trans (hb2.mono hB1.size)
   have HF:=Lib.hid hfr
   clear hcl hfr p0 p1
   cases bb
   ·go_wp2
    go_ret
    exact ⟨true,rfl,fun _=>⟨HC.out.1,HC.out.2,HF.out (by first | rfl | trivial)⟩,hB2⟩
   ·go_wp2
    go_ret
    exact ⟨false,rfl,(by intro h; cases h),hB2⟩
  ·have hc2:(checkSh T l==0)=false:=by simpa using hc
   generalize checkSh T l=cc at *
   go_wp2_with fail
   refine hcs.mono ?_
   rintro e w1 ⟨rfl,hb1⟩
   have hB1:=hb.trans (hb1.mono hb.size)
   clear hcs ha1
   go_wp2
   go_ret
   exact ⟨false,rfl,(by intro h; cases h),hB1⟩
 ·have hli:¬ (l.length:Int)≤70:=by omega
  clear ha1
  go_wp2
  go_ret
  first | exact ⟨false,rfl,(by intro h; cases h),hb⟩ | exact .inl ⟨rfl,hb⟩
end Go.Proofs.YtaihbcmifjmapaaGreat
