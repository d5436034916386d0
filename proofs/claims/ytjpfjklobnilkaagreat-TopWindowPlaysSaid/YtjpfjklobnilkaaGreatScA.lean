/- Contracts: slices.ContainsFunc at ranges and at int64s; within, CheckSong, check of the scale. -/
import Derived.Test.YtjpfjklobnilkaaGreatRefA
import Derived.Test.YtjpfjklobnilkaaGreatPB
import Derived.Test.YtjpfjklobnilkaaGreatWpP
namespace Go.Proofs.YtjpfjklobnilkaaGreat
open Go.RowKit Go.Shelf
set_option linter.unusedVariables false
set_option maxHeartbeats 400000 in
theorem indexFunc_rg (sv:Value) (l:List Str) (fn:FuncId) (fs cs:Array Value) (p:Str→Bool) (w:World)
 (eg:∀ args w,(callFunc fn args).run Tryz.prog w = .ok (.enter fn args) w)
 (hs:Arr w w.heap.size 2 sv l scell)
 (hcall:∀ x∈l,∀ w1,Below w.heap.size w w1→Calls Tryz.prog fn (fs.push (.agg #[.int .i64 x.a,.int .i64 x.b])++cs) w1 fun e w2=>e = .returned (.bool (p x))∧Below w1.heap.size w1 w2) :
  Calls Tryz.prog 248 #[sv,.func (.func fn) fs cs] w fun r w'=>r = .returned (.int .i64 (idxOf p 0 l))∧Below w.heap.size w w':=by
 obtain ⟨A,c,rfl,hn,hc,hcell⟩:=hs
 go_enter Tryz.func248,Tryz.ntmps248
 go_wp2
 go_loopw [5,8] (fun x i wr=>∃ k:Nat,k≤l.length∧i = .int .i64 k∧idxOf p 0 l=idxOf p k (l.drop k)∧Below w.heap.size w wr) (fun _ i _=>l.length-(intOf i).toNat)
 case atStart=>exact ⟨0,Nat.zero_le _,rfl,rfl,Below.refl _ _⟩
 case round =>
  obtain ⟨k,hk,rfl,hf,hb⟩:=hrel
  by_cases hlt:k < l.length
  ·obtain ⟨b,off,rfl,hB,hcc⟩:=hcell (by omega)
   obtain ⟨x,hx⟩:∃ x,l[k]? = some x:=⟨l[k],List.getElem?_eq_getElem hlt⟩
   have c0:=(hb.cell (p:=⟨b,off+k*2+0,none⟩) hB).trans (hcc k x hx 0 (by omega))
   have c1:=(hb.cell (p:=⟨b,off+k*2+1,none⟩) hB).trans (hcc k x hx 1 (by omega))
   simp only [Nat.add_zero,scell] at c0 c1
   have hcl:=hcall x (List.mem_of_getElem? hx) wr hb
   rw [idxOf_drop p l k x hx] at hf
   have H:=Lib.hid hf; clear hf
   have HX:=Lib.hid hx; clear hx
   clear hcall hcc hcell
   go_wp2_with (refine hcl.mono ?_; rintro e w1 ⟨rfl,hb1⟩)
   ·go_ret
    exact ⟨by rw [H.out]; simp [*],bthen hb hb1⟩
   ·go_roundw
    case rel=>exact ⟨k+1,by omega,by go_num,by rw [H.out]; simp [*],bthen hb hb1⟩
    case measure=>simp [intOf]; omega
  ·obtain rfl:k=l.length:=by omega
   have H:=Lib.hid hf; clear hf
   go_wp2
   go_ret
   exact ⟨by rw [H.out]; simp [idxOf],hb⟩
theorem containsFunc_rg (sv:Value) (l:List Str) (fn:FuncId) (fs cs:Array Value) (p:Str→Bool) (w:World)
 (eg:∀ args w,(callFunc fn args).run Tryz.prog w = .ok (.enter fn args) w)
 (hs:Arr w w.heap.size 2 sv l scell)
 (hcall:∀ x∈l,∀ w1,Below w.heap.size w w1→Calls Tryz.prog fn (fs.push (.agg #[.int .i64 x.a,.int .i64 x.b])++cs) w1 fun e w2=>e = .returned (.bool (p x))∧Below w1.heap.size w1 w2) :
  Calls Tryz.prog 140 #[sv,.func (.func fn) fs cs] w fun r w'=>r = .returned (.bool (l.any p))∧Below w.heap.size w w':=by
 have hi:=indexFunc_rg sv l fn fs cs p w eg hs hcall
 have HD:=Lib.hid (idxOf_nonneg p l 0)
 clear hcall hs
 go_enter Tryz.func140,Tryz.ntmps140
 go_wp2_with (go_at_call 248; refine hi.mono ?_; rintro e w1 ⟨rfl,hb1⟩)
 go_ret
 exact ⟨by rw [← HD.out]; simp,hb1⟩
theorem containsFunc_i64 (sv:Value) (l:List Int) (fn:FuncId) (fs cs:Array Value) (p:Int→Bool) (w:World)
 (eg:∀ args w,(callFunc fn args).run Tryz.prog w = .ok (.enter fn args) w)
 (hs:Arr w w.heap.size 1 sv l icell)
 (hcall:∀ x∈l,∀ w1,Below w.heap.size w w1→Calls Tryz.prog fn (fs.push (.int .i64 x)++cs) w1 fun e w2=>e = .returned (.bool (p x))∧Below w1.heap.size w1 w2) :
  Calls Tryz.prog 76 #[sv,.func (.func fn) fs cs] w fun r w'=>r = .returned (.bool (l.any p))∧Below w.heap.size w w':=by
 have hi:=indexFunc_i64 sv l fn fs cs p w eg hs hcall
 have HD:=Lib.hid (idxOf_nonneg p l 0)
 clear hcall hs
 go_enter Tryz.func76,Tryz.ntmps76
 go_wp2_with (go_at_call 23; refine hi.mono ?_; rintro e w1 ⟨rfl,hb1⟩)
 go_ret
 exact ⟨by rw [← HD.out]; simp,hb1⟩
theorem wout_ok (r:Str) (w:World) :
  Calls Tryz.prog 141 #[.agg #[.int .i64 r.a,.int .i64 r.b]] w fun e w'=>e = .returned (.bool (!okR r))∧Below w.heap.size w w':=by
 go_enter Tryz.func141,Tryz.ntmps141
 go_wp2
 all_goals (go_ret; exact ⟨ret_b (by rw [Bool.eq_iff_iff]; simp [okR, *]; try omega),(Below.refl _ _).alloc (Nat.le_refl _) _⟩)
theorem up_at {st:List Int} (h:st.Pairwise (· < ·)) {k:Nat} {x y:Int} (hk:0 < k) (hx:st[k]? = some x) (hy:st[k-1]? = some y):y < x:=by
 obtain ⟨h1,h2⟩:=List.getElem?_eq_some_iff.1 hx
 obtain ⟨h3,h4⟩:=List.getElem?_eq_some_iff.1 hy
 have:=List.pairwise_iff_getElem.1 h (k-1) k h3 h1 (by omega)
 omega
theorem scWithin_ok (sv:Value) (l:List Str) (w:World) (hs:Arr w w.heap.size 2 sv l scell) :
  Calls Tryz.prog 61 #[sv] w fun r w'=>r = .returned (.bool (l.all okR))∧Below w.heap.size w w':=by
 have hc:=containsFunc_rg sv l 141 #[] #[] (fun r=>!okR r) w (enters_of Tryz.func141 (by kernel_rfl) rfl) hs (fun x _ w1 _=>wout_ok x w1)
 have he:l.all okR=!(l.any fun r=>!okR r):=by rw [List.not_any_eq_all_not]; simp
 have HE:=Lib.hid he
 clear he hs
 generalize (l.any fun r=>!okR r)=q at *
 go_enter Tryz.func61,Tryz.ntmps61
 go_wp2_with (refine hc.mono ?_; rintro e w1 ⟨rfl,hb1⟩)
 go_ret
 exact ⟨by rw [HE.out]; rfl,hb1⟩
theorem checkSong_ok (sv:Value) (l:List Str) (w:World) (hl:SongOk l) (hs:Arr w w.heap.size 2 sv l scell) :
  Calls Tryz.prog 18 #[sv] w fun r w'=>r = .returned (.int .i64 0)∧Below w.heap.size w w':=by
 have hc:=scWithin_ok sv l w hs
 rw [hl.all] at hc
 have h1:=hl.1
 have h2:=hl.2.1
 obtain ⟨A,c,rfl, -, -, -⟩:=hs
 have d0:((l.length:Int)==0)=false:=by rw [beq_eq_false_iff_ne]; omega
 have d1:decide ((24:Int) < (l.length:Int))=false:=decide_eq_false (by omega)
 have d1':decide (24 < l.length)=false:=decide_eq_false (by omega)
 have d2:¬ l.length=0:=by omega
 clear hl
 go_enter Tryz.func18,Tryz.ntmps18
 go_wp2_with (refine hc.mono ?_; rintro e w1 ⟨rfl,hb1⟩)
 go_ret
 exact ⟨rfl,hb1⟩
theorem Arr.one2 {w:World} {g:Nat} {t:TypeId} {r:Str} (h:Blk w g t #[.int .i64 r.a,.int .i64 r.b]):Arr w w.heap.size 2 (.slice (some ⟨g,0,none⟩) 1 1) [r] scell:=by
 refine ⟨_,1,rfl,by simp,by omega,fun _=>⟨g,0,rfl,h.lt,fun i x hx j hj=>?_⟩⟩
 have hi:i=0:=by
  have:=(List.getElem?_eq_some_iff.1 hx).1
  simp at this
  exact this
 subst hi
 simp at hx
 subst hx
 have h0:=h.cell 0
 have h1:=h.cell 1
 simp at h0 h1
 have:j=0∨j=1:=by omega
 rcases this with rfl | rfl
 ·exact h0
 ·exact h1
theorem one_ok (n:Int) (w:World) :
  Calls Tryz.prog 78 #[.int .i64 n] w fun r w'=>r = .returned (.agg #[.int .i64 n,.int .i64 n])∧Below w.heap.size w w':=by
 go_enter Tryz.func78,Tryz.ntmps78
 go_upto_region 1 with (fail)
 have hx:=Blk.new w 32 #[.int .i64 0,.int .i64 0]
 have hb:=(Below.refl w.heap.size w).alloc (Nat.le_refl _) (.cells #[.int .i64 0,.int .i64 0] 32)
 generalize w.alloc (.cells #[.int .i64 0,.int .i64 0] 32)=w1 at *
 have r0:=hx.cell 0
 have r1:=hx.cell 1
 have z0:=hx.frozen 0
 have z1:=hx.frozen 1
 simp at r0 r1
 go_wp2
 have h2:=(hx.set_ 0 (.int .i64 n)).set_ 1 (.int .i64 n)
 have hb2:=(hb.setCell (p:=⟨w.heap.size,0,none⟩) (by simp) (.int .i64 n)).setCell (p:=⟨w.heap.size,1,none⟩) (by simp) (.int .i64 n)
 have t0:=h2.cell 0
 have t1:=h2.cell 1
 generalize (w1.setCell ⟨w.heap.size,0,none⟩ (.int .i64 n)).setCell ⟨w.heap.size,1,none⟩ (.int .i64 n)=w2 at *
 simp at t0 t1
 exact bodyPost_ret (v := .agg #[.int .i64 n,.int .i64 n]) (by simp [results,Tryz.results78,go_sem,t0,t1]) rfl ⟨rfl,hb2⟩
theorem cout_ok (n:Int) (w:World) :
  Calls Tryz.prog 77 #[.int .i64 n] w fun r w'=>r = .returned (.bool (!okR ⟨n,n⟩))∧Below w.heap.size w w':=by
 have h1:=one_ok n w
 go_enter Tryz.func77,Tryz.ntmps77
 go_wp2_with fail
 refine h1.mono ?_
 rintro e w1 ⟨rfl,hb1⟩
 have hc:=scWithin_ok (.slice (some ⟨w1.heap.size,0,none⟩) 1 1) [⟨n,n⟩] (w1.alloc (.cells #[.int .i64 n,.int .i64 n] 32)) (Arr.one2 (r:=⟨n,n⟩) (Blk.new _ _ _))
 have he:[(⟨n,n⟩:Str)].all okR=okR ⟨n,n⟩:=by simp
 rw [he] at hc
 have hb2:=hb1.alloc hb1.size (.cells #[.int .i64 n,.int .i64 n] 32)
 obtain ⟨q,hq⟩:∃ q,q=okR ⟨n,n⟩:=⟨_,rfl⟩
 rw [← hq] at hc
 have HQ:=Lib.hid hq
 clear hq he
 go_wp2_with (refine hc.mono ?_; rintro e w3 ⟨rfl,hb3⟩)
 go_ret
 exact ⟨by rw [← HQ.out]; rfl,hb2.trans (hb3.mono hb2.size)⟩
theorem pt_ok {st:List Int} {l:List Str} (h:ScaleOk l st):(st.any fun n=>!okR ⟨n,n⟩)=false:=by
 rw [List.any_eq_false]
 intro n hn
 have:=h.rng n hn
 simp [okR]
 omega
set_option maxRecDepth 100000 in
theorem scCheck_ok (sv tv:Value) (l:List Str) (st:List Int) (w:World) (hl:SongOk l) (hst:ScaleOk l st) (hs:Arr w w.heap.size 2 sv l scell) (ht:Arr w w.heap.size 1 tv st icell) :
  Calls Tryz.prog 34 #[sv,tv] w fun r w'=>r = .returned (.int .i64 0)∧Below w.heap.size w w':=by
 have hc0:=checkSong_ok sv l w hl hs
 have HC:=Lib.hid (fun w1 hx=>containsFunc_i64 tv st 77 #[] #[] (fun n=>!okR ⟨n,n⟩) w1 (enters_of Tryz.func77 (by kernel_rfl) rfl) hx (fun x _ w2 _=>cout_ok x w2))
 have HT:=Lib.hid ht
 obtain ⟨A,c,rfl, -, -, -⟩:=hs
 obtain ⟨B,d,rfl,hn,hc,hcell⟩:=ht
 have h1:=hst.few
 have HP:=Lib.hid (pt_ok hst)
 have HU:=Lib.hid hst.up
 clear hl hst
 go_enter Tryz.func34,Tryz.ntmps34
 go_wp2_with fail
 refine hc0.mono ?_
 rintro e w1 ⟨rfl,hb1⟩
 clear hc0
 have hcf:=HC.out w1 ((HT.out.below hb1).more hb1.size)
 rw [HP.out] at hcf
 go_wp2_with (refine hcf.mono ?_; rintro e w2 ⟨rfl,hb2⟩)
 replace hb1:=hb1.trans (hb2.mono hb1.size)
 clear hcf hb2
 have hcell1:0 < st.length→∃ b off,B=some ⟨b,off,none⟩∧b < w.heap.size∧∀ i x,st[i]? = some x→w2.cell? ⟨b,off+i,none⟩=some (.int .i64 x):=fun h=>by
  obtain ⟨b,off,rfl,hB,hcc⟩:=hcell h
  refine ⟨b,off,rfl,hB,fun i x hx=>?_⟩
  have:=(hb1.cell (p:=⟨b,off+i*1+0,none⟩) hB).trans (hcc i x hx 0 (by omega))
  simpa only [Nat.mul_one,Nat.add_zero] using this
 clear hcell
 go_loopw [6] (fun i wr=>∃ k:Nat,1≤k∧i = .int .i64 k∧(k≤st.length∨k=1)∧Below w.heap.size w wr∧Below w2.heap.size w2 wr) (fun i _=>st.length+1-(intOf i).toNat)
 case atStart=>exact ⟨1,Nat.le_refl _,rfl,.inr rfl,hb1,Below.refl _ _⟩
 case round =>
  obtain ⟨j,hj,rfl,hjk,hb,hb2⟩:=hrel
  by_cases hlt:j < st.length
  ·obtain ⟨b,off,rfl,hB,hcc⟩:=hcell1 (by omega)
   obtain ⟨x,hx⟩:∃ x,st[j]? = some x:=⟨st[j],List.getElem?_eq_getElem hlt⟩
   obtain ⟨y,hy⟩:∃ y,st[j-1]? = some y:=⟨st[j-1],List.getElem?_eq_getElem (by omega)⟩
   have hBs:=hb1.size
   have c0:=(hb2.cell (p:=⟨b,off+j,none⟩) (by show b < _; omega)).trans (hcc j x hx)
   have c1:=(hb2.cell (p:=⟨b,off+(j-1),none⟩) (by show b < _; omega)).trans (hcc (j-1) y hy)
   have hxy:=up_at HU.out (by omega) hx hy
   have d1:decide (x≤y)=false:=decide_eq_false (by omega)
   have e1:IntKind.i64.wrap ((j:Int)-1)=((j-1:Nat):Int):=by rw [IntKind.wrap_i64]; omega
   have hji:(j:Int) < (st.length:Int):=by omega
   have hji1:((j-1:Nat):Int) < (st.length:Int):=by omega
   clear hcell1 hcc hx hy hxy
   have f0:=Ext.of c0
   have f1:=Ext.of c1
   go_upto_region 11 with (fail)
   clear c0 c1
   refine wp_region_ext (by kernel_rfl) (by kernel_rfl) ?_
   repeat (go_big_quiet_step (fail))
   refine wpQuiet_nil ?_
   intro _ hw'
   obtain ⟨xr,hw''⟩:=hw'
   subst hw''
   have hb3:=bthen hb xr.h
   have hb4:=bthen hb2 xr.h
   generalize xr.w=w3 at *
   clear f0 f1
   go_wp2
   go_roundw
   case rel=>exact ⟨j+1,by omega,by go_num,.inl (by omega),hb3,hb4⟩
   case measure=>(simp [intOf]; try omega)
  ·have hji:¬ (j:Int) < (st.length:Int):=by omega
   go_wp2
   go_ret
   exact ⟨rfl,hb⟩
end Go.Proofs.YtjpfjklobnilkaaGreat
