/- Contract: step of package speed: one round of all rules. -/
import Derived.Test.YtaihbcmifjmapaaGreatSE
import Derived.WalkMore
import Derived.Sort.CutIn
namespace Go.Proofs.YtaihbcmifjmapaaGreat
open Go.RowKit Go.Shelf Sp
set_option linter.unusedVariables false
def StI (w0:World) (B g T:Nat) (rv:Value) (al:List Ru) (A:Option Addr) (c gf gm Bs:Nat) (F0:Nat→Int) (pre:List (Ru×Nat)) (W:World):Prop :=
 ∃ F,F=farOf pre F0∧StS w0 W B g T rv al A c gf gm Bs F0 F
attribute [local go_sem] Oper.semAt_some
set_option maxRecDepth 100000 in
set_option maxHeartbeats 1600000 in
theorem step_ok {B g T:Nat} {rv:Value} {al:List Ru} {A:Option Addr} {c gf gm:Nat} {F0:Nat→Int} (w:World) (hlen:al.length≤100) (hfit:∀ r∈al,0≤r.f∧r.f≤20∧0≤r.t∧r.t≤20 ∧ -100000≤r.m∧r.m≤100000)
  (hN:NetAt w B g T rv al A c) (h1:B≤gf) (h2:B≤gm) (h4:gf≠gm) (hF:FarB w gf F0) (hM:MapAny w gm)
  (hbd:∀ k v,v < 21 → -200000≤round ((al.map rnOf).take k) F0 v∧round ((al.map rnOf).take k) F0 v≤1125899906842624) :
  Calls Tryz.prog 134 #[.pointer (some ⟨g,0,none⟩),.pointer (some ⟨gf,0,none⟩),.map (some gm)] w fun r w' =>
   r = .returned (.bool (!((List.range 21).all fun i=>round (al.map rnOf) F0 i==F0 i)))∧FarB w' gf (round (al.map rnOf) F0)∧MapAny w' gm∧Keep2 w.heap.size gf gm w w':=by
 obtain ⟨Bs,hBs⟩:∃ Bs,Bs=w.heap.size:=⟨_,rfl⟩
 have hgf:gf < Bs:=by rw [hBs]; exact Blk.lt hF
 have hgm:gm < Bs:=by rw [hBs]; exact hM.lt
 rw [← hBs]
 refine (callsIn_wide (n:=8)).1 ?_
 refine callsIn_of_wp_marks Tryz.func134 rfl trivial ?_ rfl
 simp only [Tryz.ntmps134,List.size_toArray,List.length_cons,List.length_nil,Nat.reduceAdd,Nat.reduceSub,Array.replicate_succ,Array.replicate_zero,List.push_toArray,List.append_toArray,List.nil_append,List.cons_append]
 refine wpIn_wide.2 ?_
 go_upto_region 1 with (fail)
 have x4:=Blk.new w 206 #[.pointer (some ⟨gf,0,none⟩)]
 have b1:=(Below.refl w.heap.size w).alloc (Nat.le_refl _) (.cells #[.pointer (some ⟨gf,0,none⟩)] 206)
 have z1:(w.alloc (.cells #[.pointer (some ⟨gf,0,none⟩)] 206)).heap.size=Bs+1:=by simp [hBs]
 have x5:=Blk.new (w.alloc (.cells #[.pointer (some ⟨gf,0,none⟩)] 206)) 120 #[.map (some gm)]
 have b2:=(Below.refl (w.alloc (.cells #[.pointer (some ⟨gf,0,none⟩)] 206)).heap.size (w.alloc (.cells #[.pointer (some ⟨gf,0,none⟩)] 206))).alloc (Nat.le_refl _) (.cells #[.map (some gm)] 120)
 have z2:((w.alloc (.cells #[.pointer (some ⟨gf,0,none⟩)] 206)).alloc (.cells #[.map (some gm)] 120)).heap.size=Bs+2:=by simp [hBs]
 have hx4:=x4.call b2
 have hb:=b1.trans (b2.mono b1.size)
 have hN2:=hN.call hb
 have hF2:FarB _ gf F0:=Blk.call hF hb
 have hM2:=hM.heap (hb.block gm hM.lt)
 rw [z1] at x5
 rw [← hBs] at hx4 hb
 have HBs:=Lib.hid hBs
 rw [← hBs]
 clear x4 b1 b2 z1 hN hF hM hBs
 generalize (w.alloc (.cells #[.pointer (some ⟨gf,0,none⟩)] 206)).alloc (.cells #[.map (some gm)] 120)=W2 at *
 obtain ⟨cs,HCS⟩:∃ cs,Hid (cs=farA F0):=⟨_,rfl⟩
 have hi21:=far_i21 F0
 have h1c:=far_one_ F0
 have hs21:(21:Nat)=(farA F0).size:=(rowA_size _ _).symm
 have hrow:Blk W2 gf 119 (farA F0):=hF2
 rw [← HCS.out] at hi21 h1c hs21 hrow
 have p0:=hx4.cell 0
 simp at p0
 have x7:=Blk.new W2 119 #[.int .i64 0,.int .i64 0,.int .i64 0,.int .i64 0,.int .i64 0,.int .i64 0,.int .i64 0,.int .i64 0,.int .i64 0,.int .i64 0,.int .i64 0,.int .i64 0,.int .i64 0,.int .i64 0,.int .i64 0,.int .i64 0,.int .i64 0,.int .i64 0,.int .i64 0,.int .i64 0,.int .i64 0]
 have b3:=(Below.refl W2.heap.size W2).alloc (Nat.le_refl _) (.cells #[.int .i64 0,.int .i64 0,.int .i64 0,.int .i64 0,.int .i64 0,.int .i64 0,.int .i64 0,.int .i64 0,.int .i64 0,.int .i64 0,.int .i64 0,.int .i64 0,.int .i64 0,.int .i64 0,.int .i64 0,.int .i64 0,.int .i64 0,.int .i64 0,.int .i64 0,.int .i64 0,.int .i64 0] 119)
 rw [z2] at x7
 go_upto_region 2 with (first | (refine wpList_load_row rfl 119 (.tmp 11) rfl gf rfl 119 cs (0,0) _ hrow Tryz.underlying119 rfl hi21 ?_) | (refine wpList_store_row rfl 119 (.tmp 7) (.tmp 12) rfl (Bs+2) cs rfl rfl 119 _ x7 hi21 hs21 h1c ?_))
 have hset:Blk ((W2.alloc (.cells #[.int .i64 0,.int .i64 0,.int .i64 0,.int .i64 0,.int .i64 0,.int .i64 0,.int .i64 0,.int .i64 0,.int .i64 0,.int .i64 0,.int .i64 0,.int .i64 0,.int .i64 0,.int .i64 0,.int .i64 0,.int .i64 0,.int .i64 0,.int .i64 0,.int .i64 0,.int .i64 0,.int .i64 0] 119)).setRow (Bs+2) cs) (Bs+2) 119 cs:=setRow_heap _ (Bs+2) _ _ 119 (0,0) x7
 have hb7:=below_setRow b3 (by omega:W2.heap.size≤Bs+2) cs
 have z7:((W2.alloc (.cells #[.int .i64 0,.int .i64 0,.int .i64 0,.int .i64 0,.int .i64 0,.int .i64 0,.int .i64 0,.int .i64 0,.int .i64 0,.int .i64 0,.int .i64 0,.int .i64 0,.int .i64 0,.int .i64 0,.int .i64 0,.int .i64 0,.int .i64 0,.int .i64 0,.int .i64 0,.int .i64 0,.int .i64 0] 119)).setRow (Bs+2) cs).heap.size=Bs+3:=by simp [z2]
 clear x7 b3 hi21 h1c hs21 hrow p0
 generalize (W2.alloc (.cells #[.int .i64 0,.int .i64 0,.int .i64 0,.int .i64 0,.int .i64 0,.int .i64 0,.int .i64 0,.int .i64 0,.int .i64 0,.int .i64 0,.int .i64 0,.int .i64 0,.int .i64 0,.int .i64 0,.int .i64 0,.int .i64 0,.int .i64 0,.int .i64 0,.int .i64 0,.int .i64 0,.int .i64 0] 119)).setRow (Bs+2) cs=W3 at *
 have x4:=hx4.call hb7
 have x5':=x5.call hb7
 have x7:FarB W3 (Bs+2) F0:=by rw [HCS.out] at hset; exact hset
 have hN3:=hN2.call hb7
 have hF3:FarB W3 gf F0:=Blk.call hF2 hb7
 have hM3:=hM2.heap (hb7.block gm hM2.lt)
 have hb3:=hb.trans (hb7.mono (by omega))
 clear hx4 x5 hset hN2 hF2 hM2 hb hb7 z2
 simp only [Act.put]
 go_wp2_with fail
 refine (rules_ok g W3).mono ?_
 rintro e v2 ⟨rfl,rfl⟩
 have xb:=Blk.new W3 115 #[.pointer (some ⟨g,0,none⟩)]
 have b2:=(Below.refl W3.heap.size W3).alloc (Nat.le_refl _) (.cells #[.pointer (some ⟨g,0,none⟩)] 115)
 have z5:(W3.alloc (.cells #[.pointer (some ⟨g,0,none⟩)] 115)).heap.size=Bs+4:=by simp [z7]
 have hN4:=hN3.call b2
 have y4:=x4.call b2
 have y5:=x5'.call b2
 have y7:FarB _ (Bs+2) F0:=Blk.call x7 b2
 have hF4:FarB _ gf F0:=Blk.call hF3 b2
 have hM4:=hM3.heap (b2.block gm hM3.lt)
 have hb4:=hb3.trans (b2.mono (by omega))
 rw [z7] at xb
 try rw [z7]
 clear b2 z7 hN3 x4 x5' x7 hF3 hM3 hb3
 generalize W3.alloc (.cells #[.pointer (some ⟨g,0,none⟩)] 115)=v2 at *
 have hS0:StS w v2 B g T rv al A c gf gm Bs F0 F0:=⟨hN4,y4,y5,y7,xb,hF4,hM4,by omega,Keep2.of_below hb4⟩
 have hin:StI w B g T rv al A c gf gm Bs F0 [] v2:=⟨F0,rfl,hS0⟩
 clear y4 y5 y7 hF4 hM4 hb4 hS0
 go_wp2
 refine (wpIn_wide (n:=8)).1 ?_
 refine wpIn_range_list (F:=Fence.wide) (n:=8) (a:=?aa) rfl (by omega) (gf:=285) (lb:=#[.pointer (some ⟨Bs+3,0,none⟩)]) ?hgg trivial (enters_of Tryz.func285 (by kernel_rfl) rfl)
  (rules_seq 4 (Bs+3) v2 hlen hN4 xb) ?hKt ?hKb (Below.refl _ _) ?hps (StI w B g T rv al A c gf gm Bs F0) ?hI hin (RuleAx (Act.tmps ?aa) (Bs+4)) RuleAx.own ?assign ?body ?done
 case hKt=>exact fun h1 h2=>h1.trans h2
 case hKb=>exact fun W y o o' hl _ _ _ k hk=>World.putObj_heap_other (by omega)
 case hgg=>rfl
 case hps=>exact fun _=>rfl
 case hI =>
  rintro pre W W' row ⟨F,hF,hs⟩ hg hr
  rw [z5] at hr
  exact ⟨F,hF,hs.grown h1 hgf hgm hg fun r e=>(hr r e).1⟩
 case assign =>
  rintro y pre x post W K ⟨F,hF,hs⟩ hpre hsz hK
  have hx:=Blk.new W 27 #[.int .i64 x.1.f,.int .i64 x.1.t,.int .i64 x.1.m]
  have hgA:=World.grownBy_alloc W (.cells #[.int .i64 x.1.f,.int .i64 x.1.t,.int .i64 x.1.m] 27) none
  have hk':=hK ({ tmps:=(_:Array Value),defers:=[] }) (W.alloc (.cells #[.int .i64 x.1.f,.int .i64 x.1.t,.int .i64 x.1.m] 27)) ((KeepsOthers.alloc _ _).from _) (KeepT.of_grown hgA (by have:=hs.sz; omega) fun r e=>by cases e) ⟨F,hF,hs.grown h1 hgf hgm hgA (fun r e=>by cases e)⟩ ⟨W.heap.size,by have:=hs.sz; omega,hx,rfl⟩
  simp [encR]
  gi_wp2
  exact hk'
 case body =>
  rintro y pre x post a' W ⟨F,hF,hs⟩ ⟨Bx,hBx,bX,rfl⟩ hpre
  simp only [List.setIfInBounds_toArray,List.set_cons_succ,List.set_cons_zero]
  obtain ⟨⟨xf,xt,xm⟩,xi⟩:=x
  have hmem:(⟨xf,xt,xm⟩:Ru)∈al:=by
   have h0:((⟨xf,xt,xm⟩:Ru),xi)∈al.zipIdx:=by rw [← hpre]; simp
   have h5:=List.mem_map_of_mem (f:=Prod.fst) h0
   rwa [List.zipIdx_map_fst] at h5
  obtain ⟨m1,m2,m3,m4,m5,m6⟩:=hfit _ hmem
  dsimp only at m1 m2 m3 m4 m5 m6 bX ⊢
  obtain ⟨a,rfl⟩:∃ a:Nat,xf=a:=⟨xf.toNat,by omega⟩
  obtain ⟨b,rfl⟩:∃ b:Nat,xt=b:=⟨xt.toNat,by omega⟩
  have ha:a < 21:=by omega
  have hb:b < 21:=by omega
  have hai:(a:Int) < 21:=by omega
  have hbi:(b:Int) < 21:=by omega
  have hbF:∀ v,v < 21 → -200000≤F v∧F v≤1125899906842624:=fun v hv=>by
   rw [hF,farOf_take hpre]
   exact hbd _ v hv
  have HN:=Lib.hid (farOf_snoc pre (⟨(a:Int),(b:Int),xm⟩,xi) F0)
  rw [← hF] at HN
  simp only [rnOf,Int.toNat_natCast] at HN
  have hFa:=hbF a ha
  have hFb:=hbF b hb
  have hsz:=hs.sz
  have k4:=hs.b4.cell 0
  have c0:=hs.fb.at_ ha
  have q0:=bX.cell 0
  have q1:=bX.cell 1
  have q2:=bX.cell 2
  simp at k4 q0 q1 q2
  have f0:=Ext.of k4
  have f1:=Ext.of c0
  have f2:=Ext.of q0
  have f3:=Ext.of q1
  have f4:=Ext.of q2
  clear hmem hpre hF hbd m1 m2 m3 m4 hfit
  by_cases hnv:F a=1125899906842624
  ·have d1:(F a != 1125899906842624)=false:=by rw [hnv]; rfl
   have hnx:farOf (pre++[(⟨(a:Int),(b:Int),xm⟩,xi)]) F0=F:=by
    rw [HN.out,relax,if_neg]
    exact fun h=>h.1 hnv
   have HX:=Lib.hid hnx
   clear hnx HN hnv k4 c0 q0 q1 q2 hbF
   gi_upto_region 5 with fail
   refine wpIn_region_extR (by kernel_rfl) (by kernel_rfl) (by kernel_rfl) ?_
   repeat (go_big_quiet_step (fail))
   refine wpQuiet_nil ?_
   intro _ hw'
   obtain ⟨xr,hw''⟩:=hw'
   subst hw''
   have hgr:=grown_of_below xr.h
   have hs2:=hs.grown h1 hgf hgm hgr fun r e=>by cases e
   have hk2:KeepT B (Bs+3) W xr.w:=KeepT.of_grown hgr (by omega) fun r e=>by cases e
   have hkf:=keeps_cells (base:=Bs+4) hgr fun r e=>by cases e
   clear f0 f1 f2 f3 f4
   gi_wp2
   exact ⟨by rw [z5]; exact hkf,hk2,F,HX.out.symm,hs2⟩
  ·have d1:(F a != 1125899906842624)=true:=by simpa using hnv
   obtain ⟨cx,HCX⟩:∃ cx,Hid (cx=farA F):=⟨_,rfl⟩
   have hi21:=far_i21 F
   have hrow:Blk W gf 119 (farA F):=hs.fb
   have HK:Hid (∀ y:Ext W,Calls Tryz.prog 235 #[.agg (farA F),.agg #[.int .i64 a,.int .i64 b,.int .i64 xm]] y.w fun r w'=>r = .returned (.bool (decide (F b≤F a+xm)))∧∃ z:Ext W,w'=z.w):=fun y=>ext_call y (keeps_ok F hbF a b xm ha hb ⟨m5,m6⟩ y.w)
   rw [← HCX.out] at hi21 hrow HK
   by_cases hlt:F a+xm < F b
   ·have d2:decide (F b≤F a+xm)=false:=decide_eq_false (by omega)
    rw [d2] at HK
    have hnx:farOf (pre++[(⟨(a:Int),(b:Int),xm⟩,xi)]) F0=fun v=>if v=b then F a+xm else F v:=by
     rw [HN.out,relax,if_pos ⟨hnv,hlt⟩]
    have HX:=Lib.hid hnx
    have hX2:=bX
    clear hnx HN hnv k4 c0 q0 q1 q2 hbF d2 hlt HCX
    gi_upto_region 5 with fail
    refine wpIn_region_extR (by kernel_rfl) (by kernel_rfl) (by kernel_rfl) ?_
    iterate 10 (go_big_quiet_step (fail))
    go_big_quiet_want
    refine quiet_load_row 119 (.tmp 26) rfl gf rfl cx (fun w' hw'=>?_) ?_
    ·obtain ⟨x,rfl⟩:=hw'
     exact run_loadVar_row x.w gf 119 119 cx (0,0) _ ((x.h.block gf (by omega)).trans hrow) Tryz.underlying119 rfl hi21
    go_big_quiet_on
    simp only [Act.put,List.setIfInBounds_toArray,List.set_cons_succ,List.set_cons_zero]
    repeat (go_big_quiet_step ((go_at_call 235; exact HK.out _)))
    refine wpQuiet_nil ?_
    intro _ hw'
    obtain ⟨xr,hw''⟩:=hw'
    subst hw''
    have hgr:=grown_of_below xr.h
    have hs2:=hs.grown h1 hgf hgm hgr fun r e=>by cases e
    have hk2:KeepT B (Bs+3) W xr.w:=KeepT.of_grown hgr (by omega) fun r e=>by cases e
    have hkf:=keeps_cells (base:=Bs+4) hgr fun r e=>by cases e
    have hbX:=hX2.call xr.h
    clear f0 f1 f2 f3 f4 hgr hrow hi21 HK hs hX2 d1 bX
    obtain ⟨V,hV⟩:∃ V:World,V=xr.w:=⟨_,rfl⟩
    rw [← hV] at hs2 hk2 hkf hbX ⊢
    clear hV xr
    have hsz2:=hs2.sz
    have k4:=hs2.b4.cell 0
    have c0:=hs2.fb.at_ ha
    have q0:=hbX.cell 0
    have q1:=hbX.cell 1
    have q2:=hbX.cell 2
    simp at k4 q0 q1 q2
    have f0:=Ext.of k4
    have f1:=Ext.of c0
    have f2:=Ext.of q0
    have f3:=Ext.of q1
    have f4:=Ext.of q2
    gi_upto_region 6 with fail
    refine wpIn_region_tail (C:=fun w'=>∃ x:Ext V,w'=x.w) 13 (by kernel_rfl) (by kernel_rfl) (by kernel_rfl) ⟨⟨V.drew,⟨rfl,rfl,rfl,Nat.le_refl _,fun _ _=>rfl⟩⟩,rfl⟩ ?_
    simp only [List.take_succ_cons,List.take_zero,List.drop_succ_cons,List.drop_zero]
    repeat (go_big_quiet_step (fail))
    refine wpQuiet_nil ?_
    intro _ hw' K6 hK6
    obtain ⟨xr,hw''⟩:=hw'
    subst hw''
    have hgr:=grown_of_below xr.h
    have hs3:=hs2.grown h1 hgf hgm hgr fun r e=>by cases e
    have hk3:=hk2.trans (KeepT.of_grown hgr (by omega) fun r e=>by cases e)
    have hkf3:=hkf.trans (keeps_cells (base:=Bs+4) hgr fun r e=>by cases e)
    have hbX3:=hbX.call xr.h
    clear f0 f1 f2 f3 f4 hgr k4 c0 q0 q1 q2 hs2 hk2 hkf hbX
    obtain ⟨Z,hZ⟩:∃ Z:World,Z=xr.w:=⟨_,rfl⟩
    rw [← hZ] at hs3 hk3 hkf3 hbX3 ⊢
    clear hZ xr
    have hsz3:=hs3.sz
    have c1:=hs3.fb.at_ hb
    have c2:=Blk.frozen hs3.fb b
    go_wp2
    refine hK6 _ _ ?_
    clear hK6 K6
    have hg4:Z.grownBy (Z.setCell ⟨gf,b,none⟩ (.int .i64 (F a+xm))) (some gf):=grown_setCell _
    have hs4:=hs3.put h1 hgf hgm h4 (i:=b) (x:=F a+xm) (G:=fun v=>if v=b then F a+xm else F v) fun j _=>rfl
    have hk4:=hk3.trans (KeepT.of_grown hg4 (by omega) fun r e=>by injection e; omega)
    have hkf4:=hkf3.trans (keeps_cells (base:=Bs+4) hg4 fun r e=>by injection e; exact .inl (by omega))
    have hbX4:=hbX3.grown hg4 fun e=>by injection e; omega
    clear hs3 hk3 hkf3 hbX3 c1 c2 hg4
    generalize Z.setCell ⟨gf,b,none⟩ (.int .i64 (F a+xm))=Y at *
    have hsz4:=hs4.sz
    have k5:=hs4.b5.cell 0
    have q1:=hbX4.cell 1
    simp at k5 q1
    obtain ⟨Mm,hMm⟩:=id hs4.mp
    obtain ⟨es,cl,hmu,hmo⟩:=hMm.update keyInt Tryz.underlying120 (b:Int) (.int .i64 xi)
    have hs5:=hs4.upd h2 hgf hgm h4 ⟨_,hmo⟩
    have hg5:=grown_putI (w:=Y) (g:=gm) es cl
    have hk5:=hk4.trans (KeepT.of_grown hg5 (by omega) fun r e=>by injection e; omega)
    have hkf5:=hkf4.trans (keeps_cells (base:=Bs+4) hg5 fun r e=>by injection e; exact .inl (by omega))
    clear hs4 hk4 hkf4 hbX4 hg5 hMm hmo
    gi_wp2
    exact ⟨by rw [z5]; exact hkf5,hk5,_,HX.out.symm,hs5⟩
   ·have d2:decide (F b≤F a+xm)=true:=decide_eq_true (by omega)
    rw [d2] at HK
    have hnx:farOf (pre++[(⟨(a:Int),(b:Int),xm⟩,xi)]) F0=F:=by
     rw [HN.out,relax,if_neg]
     exact fun h=>hlt h.2
    have HX:=Lib.hid hnx
    clear hnx HN hnv k4 c0 q0 q1 q2 hbF d2 hlt HCX
    gi_upto_region 5 with fail
    refine wpIn_region_extR (by kernel_rfl) (by kernel_rfl) (by kernel_rfl) ?_
    iterate 10 (go_big_quiet_step (fail))
    go_big_quiet_want
    refine quiet_load_row 119 (.tmp 26) rfl gf rfl cx (fun w' hw'=>?_) ?_
    ·obtain ⟨x,rfl⟩:=hw'
     exact run_loadVar_row x.w gf 119 119 cx (0,0) _ ((x.h.block gf (by omega)).trans hrow) Tryz.underlying119 rfl hi21
    go_big_quiet_on
    simp only [Act.put,List.setIfInBounds_toArray,List.set_cons_succ,List.set_cons_zero]
    repeat (go_big_quiet_step ((go_at_call 235; exact HK.out _)))
    refine wpQuiet_nil ?_
    intro _ hw'
    obtain ⟨xr,hw''⟩:=hw'
    subst hw''
    have hgr:=grown_of_below xr.h
    have hs2:=hs.grown h1 hgf hgm hgr fun r e=>by cases e
    have hk2:KeepT B (Bs+3) W xr.w:=KeepT.of_grown hgr (by omega) fun r e=>by cases e
    have hkf:=keeps_cells (base:=Bs+4) hgr fun r e=>by cases e
    clear f0 f1 f2 f3 f4
    gi_wp2
    exact ⟨by rw [z5]; exact hkf,hk2,F,HX.out.symm,hs2⟩
 case done =>
  rintro D W hD ⟨F,hF,hs⟩ hdf
  rw [farOf_all] at hF
  subst hF
  rw [z5] at hD
  have hsz:=hs.sz
  obtain ⟨cx,HCX⟩:∃ cx,Hid (cx=farA (round (al.map rnOf) F0)):=⟨_,rfl⟩
  have hi21:=far_i21 (round (al.map rnOf) F0)
  have hi22:=far_i21 F0
  have hrow:Blk W gf 119 (farA (round (al.map rnOf) F0)):=hs.fb
  have hrow2:Blk W (Bs+2) 119 (farA F0):=hs.b7
  have heq:=fun w'=>eq_far (farA (round (al.map rnOf) F0)) (farA F0) (round (al.map rnOf) F0) F0 (fun i hi=>rowA_get hi) (fun i hi=>rowA_get hi) w'
  rw [← HCX.out] at hi21 hrow heq
  rw [← HCS.out] at hi22 hrow2 heq
  obtain ⟨bb,HBB⟩:∃ bb,Hid (bb=((List.range 21).all fun i=>round (al.map rnOf) F0 i==F0 i)):=⟨_,rfl⟩
  rw [← HBB.out] at heq
  have k4:=hs.b4.cell 0
  simp at k4
  have f0:=Ext.of k4
  clear k4 hbd hfit
  go_upto_region 8 with (fail)
  refine wp_region_ext (by kernel_rfl) (by kernel_rfl) ?_
  iterate 2 (go_big_quiet_step (fail))
  go_big_quiet_want
  refine quiet_load_row 119 (.tmp 51) rfl gf rfl cx (fun w' hw'=>?_) ?_
  ·obtain ⟨x,rfl⟩:=hw'
   exact run_loadVar_row x.w gf 119 119 cx (0,0) _ ((x.h.block gf (by omega)).trans hrow) Tryz.underlying119 rfl hi21
  go_big_quiet_on
  simp only [Act.put,List.setIfInBounds_toArray,List.set_cons_succ,List.set_cons_zero]
  go_big_quiet_want
  refine quiet_load_row 119 (.tmp 7) rfl (Bs+2) rfl cs (fun w' hw'=>?_) ?_
  ·obtain ⟨x,rfl⟩:=hw'
   exact run_loadVar_row x.w (Bs+2) 119 119 cs (0,0) _ ((x.h.block (Bs+2) (by omega)).trans hrow2) Tryz.underlying119 rfl hi22
  go_big_quiet_on
  simp only [Act.put,List.setIfInBounds_toArray,List.set_cons_succ,List.set_cons_zero]
  repeat (go_big_quiet_step (fail))
  refine wpQuiet_nil ?_
  intro _ hw'
  obtain ⟨xr,hw''⟩:=hw'
  subst hw''
  have hb:=xr.h
  have hs2:=hs.grown h1 hgf hgm (grown_call hb none) fun r e=>by cases e
  have hdf2:xr.w.heap[D]? = some (.deferred (some [])):=(hb.block D (Array.getElem?_eq_some_iff.1 hdf).1).trans hdf
  generalize xr.w=w6 at *
  clear f0 hb hs hdf hrow hrow2 heq hi21 hi22
  have hgp:=grownBy_putObj' w6 D (.deferred none)
  have hs3:=hs2.grown h1 hgf hgm hgp fun r e=>by injection e; omega
  go_wp2
  refine ⟨by simp,.inl ⟨_,_,rfl,run_takeDeferred (w:=w6) hdf2,?_⟩⟩
  exact ⟨.bool (!bb),by simp [results,Tryz.results134,go_sem],by rw [HBB.out],hs3.fb,hs3.mp,hs3.kp⟩
end Go.Proofs.YtaihbcmifjmapaaGreat
