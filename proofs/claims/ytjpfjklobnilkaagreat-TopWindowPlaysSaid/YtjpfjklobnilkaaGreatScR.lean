/- Contracts of the reference of scales: CheckSong, IsScale, Meets, CheckScale. -/
import Derived.Test.YtjpfjklobnilkaaGreatRefA
import Derived.Test.YtjpfjklobnilkaaGreatPB
import Derived.Test.YtjpfjklobnilkaaGreatScA
namespace Go.Proofs.YtjpfjklobnilkaaGreat
open Go.RowKit Go.Shelf
set_option linter.unusedVariables false
set_option maxRecDepth 100000 in
theorem rcheckSong_ok (sv:Value) (l:List Str) (w:World) (hl:SongOk l) (hs:Arr w w.heap.size 2 sv l scell) :
  Calls Tryz.prog 67 #[sv] w fun r w'=>r = .returned (.int .i64 0)∧Below w.heap.size w w':=by
 obtain ⟨A,c,rfl,hn,hc,hcell⟩:=hs
 have h1:=hl.1
 have h2:=hl.2.1
 have HL:=Lib.hid hl.2.2
 clear hl
 go_enter Tryz.func67,Tryz.ntmps67
 go_wp2
 go_loopw [3] (fun i wr=>∃ k:Nat,k≤l.length∧i = .int .i64 k∧Below w.heap.size w wr) (fun i _=>l.length-(intOf i).toNat)
 case atStart=>exact ⟨0,Nat.zero_le _,rfl,Below.refl _ _⟩
 case round =>
  obtain ⟨k,hk,rfl,hb⟩:=hrel
  by_cases hlt:k < l.length
  ·obtain ⟨b,off,rfl,hB,hcc⟩:=hcell (by omega)
   obtain ⟨x,hx⟩:∃ x,l[k]? = some x:=⟨l[k],List.getElem?_eq_getElem hlt⟩
   have c0:=(hb.cell (p:=⟨b,off+k*2+0,none⟩) hB).trans (hcc k x hx 0 (by omega))
   have c1:=(hb.cell (p:=⟨b,off+k*2+1,none⟩) hB).trans (hcc k x hx 1 (by omega))
   simp only [Nat.add_zero,scell] at c0 c1
   obtain ⟨r1,r2,r3⟩:=HL.out x (List.mem_of_getElem? hx)
   have d1:decide (x.a < 0)=false:=decide_eq_false (by omega)
   have d2:decide (x.b < x.a)=false:=decide_eq_false (by omega)
   have d3:decide (10000 < x.b)=false:=decide_eq_false (by omega)
   have hki:(k:Int) < (l.length:Int):=by omega
   clear hcell hcc hx r1 r2 r3
   have f0:=Ext.of c0
   have f1:=Ext.of c1
   go_upto_region 6 with (fail)
   clear c0 c1
   refine wp_region_ext (by kernel_rfl) (by kernel_rfl) ?_
   repeat (go_big_quiet_step (fail))
   refine wpQuiet_nil ?_
   intro _ hw'
   obtain ⟨xr,hw''⟩:=hw'
   subst hw''
   have hb2:=bthen hb xr.h
   generalize xr.w=w2 at *
   clear f0 f1
   go_wp2
   go_roundw
   case rel=>exact ⟨k+1,by omega,by go_num,hb2⟩
   case measure=>(simp [intOf]; try omega)
  ·obtain rfl:k=l.length:=by omega
   go_wp2
   go_ret
   exact ⟨rfl,hb⟩
set_option maxRecDepth 100000 in
theorem risScale_ok (sv tv:Value) (l:List Str) (st:List Int) (w:World) (hl:SongOk l) (hst:ScaleOk l st) (hs:Arr w w.heap.size 2 sv l scell) (ht:Arr w w.heap.size 1 tv st icell) :
  Calls Tryz.prog 25 #[sv,tv] w fun r w'=>r = .returned (.int .i64 0)∧Below w.heap.size w w':=by
 have hc0:=rcheckSong_ok sv l w hl hs
 obtain ⟨A,c,rfl, -, -, -⟩:=hs
 obtain ⟨B,d,rfl,hn,hc,hcell⟩:=ht
 have h1:=hst.few
 have HR:=Lib.hid hst.rng
 have HU:=Lib.hid hst.up
 clear hl hst
 go_enter Tryz.func25,Tryz.ntmps25
 go_wp2_with (refine hc0.mono ?_; rintro e w1 ⟨rfl,hb1⟩)
 clear hc0
 have hcell1:0 < st.length→∃ b off,B=some ⟨b,off,none⟩∧b < w.heap.size∧∀ i x,st[i]? = some x→w1.cell? ⟨b,off+i,none⟩=some (.int .i64 x):=fun h=>by
  obtain ⟨b,off,rfl,hB,hcc⟩:=hcell h
  refine ⟨b,off,rfl,hB,fun i x hx=>?_⟩
  have:=(hb1.cell (p:=⟨b,off+i*1+0,none⟩) hB).trans (hcc i x hx 0 (by omega))
  simpa only [Nat.mul_one,Nat.add_zero] using this
 clear hcell
 go_loop [5] (fun i=>∃ k:Nat,k≤st.length∧i = .int .i64 k) (fun i=>st.length-(intOf i).toNat)
 case atStart=>exact ⟨0,Nat.zero_le _,rfl⟩
 case round =>
  obtain ⟨k,hk,rfl⟩:=hrel
  by_cases hlt:k < st.length
  ·obtain ⟨b,off,rfl,hB,hcc⟩:=hcell1 (by omega)
   obtain ⟨x,hx⟩:∃ x,st[k]? = some x:=⟨st[k],List.getElem?_eq_getElem hlt⟩
   have c0:=hcc k x hx
   obtain ⟨r1,r2⟩:=HR.out x (List.mem_of_getElem? hx)
   have d1:decide (x < 0)=false:=decide_eq_false (by omega)
   have d2:decide (10000 < x)=false:=decide_eq_false (by omega)
   clear hcell1 hcc hx r1 r2
   go_wp2
   go_round
   case rel=>exact ⟨k+1,by omega,by go_num⟩
   case measure=>(simp [intOf]; try omega)
  ·obtain rfl:k=st.length:=by omega
   go_wp2
   go_loopw [6] (fun i wr=>∃ k:Nat,1≤k∧i = .int .i64 k∧(k≤st.length∨k=1)∧Below w.heap.size w wr∧Below w1.heap.size w1 wr) (fun i _=>st.length+1-(intOf i).toNat)
   case atStart=>exact ⟨1,Nat.le_refl _,rfl,.inr rfl,hb1,Below.refl _ _⟩
   case round =>
    obtain ⟨j,hj,rfl,hjk,hb,hb2⟩:=hrel
    by_cases hlt:j < st.length
    ·obtain ⟨b,off,rfl,hB,hcc⟩:=hcell1 (by omega)
     obtain ⟨x,hx⟩:∃ x,st[j]? = some x:=⟨st[j],List.getElem?_eq_getElem hlt⟩
     obtain ⟨y,hy⟩:∃ y,st[j-1]? = some y:=⟨st[j-1],List.getElem?_eq_getElem (by omega)⟩
     have hBs:=hb1.size
     have c0:=(hb2.cell (p:=⟨b,off+j,none⟩) (by show b < _; omega)).trans (hcc j x hx)
     have c1:=(hb2.cell (p:=⟨b,off+(j-1),none⟩) (by show b < _; omega)).trans (hcc (j-1) y hy)
     have hxy:=up_at HU.out (by omega) hx hy
     have d1:decide (x≤y)=false:=decide_eq_false (by omega)
     have e1:IntKind.i64.wrap ((j:Int)-1)=((j-1:Nat):Int):=by rw [IntKind.wrap_i64]; omega
     have hji:(j:Int) < (st.length:Int):=by omega
     have hji1:((j-1:Nat):Int) < (st.length:Int):=by omega
     clear hcell1 hcc hx hy hxy
     have f0:=Ext.of c0
     have f1:=Ext.of c1
     go_upto_region 13 with (fail)
     clear c0 c1
     refine wp_region_ext (by kernel_rfl) (by kernel_rfl) ?_
     repeat (go_big_quiet_step (fail))
     refine wpQuiet_nil ?_
     intro _ hw'
     obtain ⟨xr,hw''⟩:=hw'
     subst hw''
     have hb3:=bthen hb xr.h
     have hb4:=bthen hb2 xr.h
     generalize xr.w=w2 at *
     clear f0 f1
     go_wp2
     go_roundw
     case rel=>exact ⟨j+1,by omega,by go_num,.inl (by omega),hb3,hb4⟩
     case measure=>(simp [intOf]; try omega)
    ·have hji:¬ (j:Int) < (st.length:Int):=by omega
     go_wp2
     go_ret
     exact ⟨rfl,hb⟩
set_option maxRecDepth 100000 in
theorem rmeets_ok (r:Str) (tv:Value) (st:List Int) (w:World) (ht:Arr w w.heap.size 1 tv st icell) :
  Calls Tryz.prog 26 #[.agg #[.int .i64 r.a,.int .i64 r.b],tv] w fun e w'=>e = .returned (.bool (meetsB st r))∧Below w.heap.size w w':=by
 obtain ⟨B,d,rfl,hn,hc,hcell⟩:=ht
 go_enter Tryz.func26,Tryz.ntmps26
 go_upto_region 1 with (fail)
 have hx:=Blk.new w 32 #[.int .i64 r.a,.int .i64 r.b]
 have hB:=(Below.refl w.heap.size w).alloc (Nat.le_refl _) (.cells #[.int .i64 r.a,.int .i64 r.b] 32)
 generalize hW:w.alloc (.cells #[.int .i64 r.a,.int .i64 r.b] 32)=W at *
 clear hW
 go_wp2
 go_loopw [5] (fun i wr=>∃ k:Nat,k≤st.length∧i = .int .i64 k∧Below W.heap.size W wr∧meetsB st r=meetsB (st.drop k) r) (fun i _=>st.length-(intOf i).toNat)
 case atStart=>exact ⟨0,Nat.zero_le _,rfl,Below.refl _ _,rfl⟩
 case round =>
  obtain ⟨k,hk,rfl,hb,hm⟩:=hrel
  have hBr:=hB.trans (hb.mono hB.size)
  by_cases hlt:k < st.length
  ·obtain ⟨b,off,rfl,hBb,hcc⟩:=hcell (by omega)
   obtain ⟨x,hxk⟩:∃ x,st[k]? = some x:=⟨st[k],List.getElem?_eq_getElem hlt⟩
   have c0:=(hBr.cell (p:=⟨b,off+k*1+0,none⟩) hBb).trans (hcc k x hxk 0 (by omega))
   simp only [Nat.mul_one,Nat.add_zero] at c0
   have hxr:=hx.call hb
   have p0:=hxr.cell 0
   have p1:=hxr.cell 1
   simp at p0 p1
   unfold meetsB at hm
   rw [any_drop _ _ k x hxk] at hm
   have HM:=Lib.hid hm
   have hki:(k:Int) < (st.length:Int):=by omega
   clear hcell hcc hxk hm hxr
   have f0:=Ext.of c0
   have f1:=Ext.of p0
   have f2:=Ext.of p1
   go_upto_region 4 with (fail)
   clear c0 p0 p1
   by_cases h1:r.a≤x
   ·have d1:decide (r.a≤x)=true:=decide_eq_true h1
    by_cases h2:x≤r.b
    ·have d2:decide (x≤r.b)=true:=decide_eq_true h2
     have HE:Hid (meetsB st r=true):=by rw [Hid,meetsB,HM.out,d1,d2]; rfl
     clear HM h1 h2
     refine wp_region_ext (by kernel_rfl) (by kernel_rfl) ?_
     repeat (go_big_quiet_step (fail))
     refine wpQuiet_nil ?_
     intro _ hw'
     obtain ⟨xr,hw''⟩:=hw'
     subst hw''
     have hb3:=hBr.trans (xr.h.mono hBr.size)
     generalize xr.w=w2 at *
     clear f0 f1 f2
     go_wp2
     go_ret
     exact ⟨by rw [HE.out]; rfl,hb3⟩
    ·have d2:decide (x≤r.b)=false:=decide_eq_false h2
     have HE:Hid (meetsB st r=meetsB (st.drop (k+1)) r):=by rw [Hid,meetsB,meetsB,HM.out,d1,d2]; rfl
     clear HM h1 h2
     refine wp_region_ext (by kernel_rfl) (by kernel_rfl) ?_
     repeat (go_big_quiet_step (fail))
     refine wpQuiet_nil ?_
     intro _ hw'
     obtain ⟨xr,hw''⟩:=hw'
     subst hw''
     have hb3:=bthen hb xr.h
     generalize xr.w=w2 at *
     clear f0 f1 f2
     go_wp2
     go_roundw
     case rel=>exact ⟨k+1,by omega,by go_num,hb3,HE.out⟩
     case measure=>(simp [intOf]; try omega)
   ·have d1:decide (r.a≤x)=false:=decide_eq_false h1
    have HE:Hid (meetsB st r=meetsB (st.drop (k+1)) r):=by rw [Hid,meetsB,meetsB,HM.out,d1]; rfl
    clear HM h1
    refine wp_region_ext (by kernel_rfl) (by kernel_rfl) ?_
    repeat (go_big_quiet_step (fail))
    refine wpQuiet_nil ?_
    intro _ hw'
    obtain ⟨xr,hw''⟩:=hw'
    subst hw''
    have hb3:=bthen hb xr.h
    generalize xr.w=w2 at *
    clear f0 f1 f2
    go_wp2
    go_roundw
    case rel=>exact ⟨k+1,by omega,by go_num,hb3,HE.out⟩
    case measure=>(simp [intOf]; try omega)
  ·obtain rfl:k=st.length:=by omega
   have HE:Hid (meetsB st r=false):=by rw [Hid,hm]; simp [meetsB]
   clear hm
   go_wp2
   go_ret
   exact ⟨by rw [HE.out]; rfl,hBr⟩
set_option maxRecDepth 100000 in
theorem rcheckScale_ok (sv tv:Value) (l:List Str) (st:List Int) (w:World) (hl:SongOk l) (hst:ScaleOk l st) (hs:Arr w w.heap.size 2 sv l scell) (ht:Arr w w.heap.size 1 tv st icell) :
  Calls Tryz.prog 9 #[sv,tv] w fun r w'=>r = .returned (.int .i64 0)∧Below w.heap.size w w':=by
 have hc0:=risScale_ok sv tv l st w hl hst hs ht
 obtain ⟨A,c,rfl,hn,hc,hcell⟩:=hs
 have HM:=Lib.hid hst.met
 have HT:=Lib.hid ht
 obtain ⟨B,d,rfl, -, -, -⟩:=ht
 clear hl hst
 go_enter Tryz.func9,Tryz.ntmps9
 go_wp2_with (refine hc0.mono ?_; rintro e w1 ⟨rfl,hb1⟩)
 clear hc0
 go_loopw [5] (fun i wr=>∃ k:Nat,k≤l.length∧i = .int .i64 k∧Below w.heap.size w wr) (fun i _=>l.length-(intOf i).toNat)
 case atStart=>exact ⟨0,Nat.zero_le _,rfl,hb1⟩
 case round =>
  obtain ⟨k,hk,rfl,hb⟩:=hrel
  by_cases hlt:k < l.length
  ·obtain ⟨b,off,rfl,hB,hcc⟩:=hcell (by omega)
   obtain ⟨x,hx⟩:∃ x,l[k]? = some x:=⟨l[k],List.getElem?_eq_getElem hlt⟩
   have c0:=(hb.cell (p:=⟨b,off+k*2+0,none⟩) hB).trans (hcc k x hx 0 (by omega))
   have c1:=(hb.cell (p:=⟨b,off+k*2+1,none⟩) hB).trans (hcc k x hx 1 (by omega))
   simp only [Nat.add_zero,scell] at c0 c1
   have hm:=rmeets_ok x _ st wr ((HT.out.below hb).more hb.size)
   rw [HM.out x (List.mem_of_getElem? hx)] at hm
   clear hcell hcc hx
   go_wp2_with (refine hm.mono ?_; rintro e w2 ⟨rfl,hb2⟩)
   go_roundw
   case rel=>exact ⟨k+1,by omega,by go_num,bthen hb hb2⟩
   case measure=>(simp [intOf]; try omega)
  ·obtain rfl:k=l.length:=by omega
   go_wp2
   go_ret
   exact ⟨rfl,hb⟩
end Go.Proofs.YtjpfjklobnilkaaGreat
