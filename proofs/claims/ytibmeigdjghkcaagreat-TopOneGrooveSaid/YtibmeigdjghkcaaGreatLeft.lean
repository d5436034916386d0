/- Contract of the table: left. -/
import Derived.Test.YtibmeigdjghkcaaGreatMp2
namespace Go.Proofs.YtibmeigdjghkcaaGreat.J
open Go.RowKit Go.Shelf
set_option linter.unusedVariables false
theorem keyState:KeyII 218 where
 und:=⟨_,Tryz.underlying218⟩
 eq:=by
  intro a b c d w
  show (Op.equalIn (9999+1) 218 _ _).run _ _=_
  rw [run_equalIn_struct w 9999 218 _ _ (by kernel_rfl) (by kernel_rfl)]
  cases h:(a==c)
  ·simp [Op.eqFields,go_sem,h]
  ·cases h2:(b==d) <;> simp [Op.eqFields,go_sem,h,h2]
 ck:=fun e a b w=>by kernel_rfl
theorem grown_put {w:World} {g:Nat} (es:Array MapEntry) (cl:Nat):w.grownBy (putMap w g es cl) (some g):=by
 refine ⟨rfl,rfl,rfl,by simp [putMap],fun k hk hne=>?_⟩
 simp only [putMap]
 rw [Array.getElem?_setIfInBounds_ne (fun e=>hne (by rw [e]))]
theorem TB.upA {W W':World} {x:TX} {c:Cyl} {M:Int→Int→Option Value} (h:TB W x c) (hg:W.grownBy W' (some x.ga)) (hM:MapOf W' x.ga M) (hA:AfterOk c M):TB W' x c:=by
 obtain ⟨U,hU,hV⟩:=h.un
 have h1:=h.f.au1
 exact ⟨h.f.chg (Chg.of_grown hg (.inl rfl)),⟨M,hM,hA⟩,⟨U,hU.heap (hg.block _ hU.lt (fun e=>by injection e; omega)),hV⟩⟩
theorem AfterOk.put {c:Cyl} {M:Int→Int→Option Value} (h:AfterOk c M) (u:Nat) (o:Option Nat):AfterOk c fun a b=>if (a==(u:Int)&&b==lastI o)=true then some (.int .i64 (leftN c u o:Int)) else M a b:=by
 intro a b v hv
 simp only at hv
 split at hv
 ·rename_i hc
  simp only [Bool.and_eq_true,beq_iff_eq] at hc
  injection hv with hv
  exact ⟨u,o,hc.1,hc.2,hv.symm⟩
 ·exact h a b v hv
theorem UntilOk.put {c:Cyl} {M:Int→Int→Option Value} (h:UntilOk c M) (u i:Nat):UntilOk c fun a b=>if (a==(u:Int)&&b==(i:Int))=true then some (.int .i64 (comeN c u i:Int)) else M a b:=by
 intro a b v hv
 simp only at hv
 split at hv
 ·rename_i hc
  simp only [Bool.and_eq_true,beq_iff_eq] at hc
  injection hv with hv
  exact ⟨u,i,hc.1,hc.2,hv.symm⟩
 ·exact h a b v hv
theorem full_eq {c:Cyl} {u:Nat} (h8:c.pcs.length≤8):∃ pn:Nat,IntKind.i64.wrap (2 ^ c.pcs.length)=(pn:Int)∧2 ^ c.pcs.length=pn∧1≤pn∧pn≤256:=by
 have h1:=pow8 h8
 have h2:1≤2 ^ c.pcs.length:=Nat.one_le_two_pow
 refine ⟨2 ^ c.pcs.length,?_,rfl,h2,h1⟩
 have h3:(2:Int) ^ c.pcs.length=((2 ^ c.pcs.length:Nat):Int):=by simp
 generalize 2 ^ c.pcs.length=q at *
 rw [h3,wrap_id _ (by omega) (by omega)]
structure LeftInv (w:World) (x:TX) (c:Cyl) (u:Nat) (o:Option Nat) (nb acc:Nat) (W:World):Prop where
 tb:TB W x c
 bt:Blk W w.heap.size 118 #[.pointer (some ⟨x.g,0,none⟩)]
 bs:Blk W (w.heap.size+1) 218 #[.int .i64 (u:Int),.int .i64 (lastI o)]
 bn:Blk W nb 2 #[.int .i64 (acc:Int)]
 ch:Chg x.ga x.gu w W
 sz:nb+4≤W.heap.size
 le:x.N≤w.heap.size
 nb2:w.heap.size+2≤nb
section
variable {w W W':World} {x:TX} {c:Cyl} {u nb acc:Nat} {o:Option Nat}
theorem LeftInv.grown (h:LeftInv w x c u o nb acc W) {row:Option Nat} (hg:W.grownBy W' row) (hr:∀ r,row=some r→nb+4≤r):LeftInv w x c u o nb acc W':=by
 have h1:=h.le
 have h2:=h.sz
 have h3:=h.nb2
 exact ⟨h.tb.grown hg (fun r e=>by have:=hr r e; omega),h.bt.grown hg (fun e=>by have:=hr _ e.symm; omega),h.bs.grown hg (fun e=>by have:=hr _ e.symm; omega),h.bn.grown hg (fun e=>by have:=hr _ e.symm; omega),h.ch.grown_ge hg (fun r e=>by have:=hr r e; omega),Nat.le_trans h2 hg.size,h1,h3⟩
theorem LeftInv.chg (h:LeftInv w x c u o nb acc W) (ht:TB W' x c) (hc:Chg x.ga x.gu W W'):LeftInv w x c u o nb acc W':=by
 have h1:=h.le
 have h2:=h.sz
 have h5:=h.nb2
 have h3:=h.tb.f.al
 have h4:=h.tb.f.ul
 exact ⟨ht,hc.blk h.bt (by omega) (by omega),hc.blk h.bs (by omega) (by omega),hc.blk h.bn (by omega) (by omega),h.ch.trans hc,Nat.le_trans h2 hc.size,h1,h5⟩
theorem LeftInv.put (h:LeftInv w x c u o nb acc W) (acc':Nat):LeftInv w x c u o nb acc' (W.setCell ⟨nb,0,none⟩ (.int .i64 (acc':Int))):=by
 have h1:=h.le
 have h2:=h.sz
 have h3:=h.nb2
 have hg:W.grownBy (W.setCell ⟨nb,0,none⟩ (.int .i64 (acc':Int))) (some nb):=grown_setCell _
 exact ⟨h.tb.grown hg (fun r e=>by injection e; omega),h.bt.grown hg (fun e=>by injection e; omega),h.bs.grown hg (fun e=>by injection e; omega),by simpa using h.bn.set_ 0 (.int .i64 (acc':Int)),h.ch.grown_ge hg (fun r e=>by injection e; omega),by simpa [World.setCell] using h2,h1,h3⟩
end
def StAx (tm:Array Value) (q b base:Nat) (c:Cyl) (u:Nat) (o:Option Nat) (y:VNx c u o) (a':Act) (W:World):Prop :=
 ∃ Bx,base≤Bx∧Blk W Bx 218 #[.int .i64 (onN c u y.1:Int),.int .i64 (y.1:Int)]∧a'={ tmps:=(tm.setIfInBounds q (stateV (onN c u y.1) (y.1:Int))).setIfInBounds b (.pointer (some ⟨Bx,0,none⟩)),defers:=[] }
theorem StAx.own {tm:Array Value} {q b base B:Nat} {c:Cyl} {u:Nat} {o:Option Nat}:∀ (y:VNx c u o) (a':Act),OwnFrom B (fun (_:Unit) W=>StAx tm q b base c u o y a' W):=by
 rintro y a' _ W W' row ⟨Bx,h1,h2,h3⟩ hg hr
 refine ⟨Bx,h1,h2.grown hg ?_,h3⟩
 intro e
 obtain ⟨_,o,ho,hc⟩:=hr Bx e.symm
 rw [h2] at ho
 injection ho with ho
 subst ho
 simp [Obj.isCells] at hc
attribute [local go_sem] Oper.semAt_some
set_option maxRecDepth 100000 in
set_option maxHeartbeats 1600000 in
theorem left_ok (x:TX) (c:Cyl):∀ (d u:Nat) (o:Option Nat) (w:World),c.pcs.length-cnt c.pcs.length u=d→TB w x c→u < 2 ^ c.pcs.length→(∀ i,o=some i→i < (stepsOf c).length) →
  Calls Tryz.prog 129 #[.pointer (some ⟨x.g,0,none⟩),stateV u (lastI o)] w fun r w'=>r = .returned (.int .i64 (leftN c u o:Int))∧TB w' x c∧Chg x.ga x.gu w w':=by
 intro d
 induction d using Nat.strongRecOn with
 | _ d ih =>
   intro u o w hd hT hu ho
   have h8:=hT.f.bounds.2
   have h1:=hT.f.bounds.1
   have h16:=hT.f.small
   have IH:=Lib.hid ih
   clear ih
   have hu2:u < 256:=Nat.lt_of_lt_of_le hu (pow8 h8)
   obtain ⟨pn,hpn1,hpn2,hpn3,hpn4⟩:=full_eq (c:=c) (u:=u) h8
   have hx1:=Blk.new w 118 #[.pointer (some ⟨x.g,0,none⟩)]
   have hb1:=(Below.refl w.heap.size w).alloc (Nat.le_refl _) (.cells #[.pointer (some ⟨x.g,0,none⟩)] 118)
   have hz1:(w.alloc (.cells #[.pointer (some ⟨x.g,0,none⟩)] 118)).heap.size=w.heap.size+1:=by simp
   refine (callsIn_wide (n:=8)).1 ?_
   refine callsIn_of_wp_marks Tryz.func129 rfl trivial ?_ rfl
   simp only [Tryz.ntmps129,List.size_toArray,List.length_cons,List.length_nil,Nat.reduceAdd,Nat.reduceSub,Array.replicate_succ,Array.replicate_zero,List.push_toArray,List.append_toArray,List.nil_append,List.cons_append]
   refine wpIn_wide.2 ?_
   go_upto_region 1 with (fail)
   generalize w.alloc (.cells #[.pointer (some ⟨x.g,0,none⟩)] 118)=W1 at *
   have hx2:=Blk.new W1 218 #[.int .i64 (u:Int),.int .i64 (lastI o)]
   have hbA:=(Below.refl W1.heap.size W1).alloc (Nat.le_refl _) (.cells #[.int .i64 (u:Int),.int .i64 (lastI o)] 218)
   rw [hz1] at hx2
   replace hx1:=hx1.call hbA
   have hb2:=hb1.trans (hbA.mono hb1.size)
   clear hbA hb1 hz1
   generalize W1.alloc (.cells #[.int .i64 (u:Int),.int .i64 (lastI o)] 218)=W at *
   have hTW:=hT.call hb2
   have t0:=hx1.cell 0
   have a0:=hx2.cell 0
   have a1:=hx2.cell 1
   simp at t0 a0 a1
   obtain ⟨q0,q1,q2,q3,q4⟩:=hTW.f.tc.c5
   have f0:=Ext.of t0
   have f1:=Ext.of a0
   have f2:=Ext.of q0
   have k1:(0:Int)≤(c.pcs.length:Int):=by omega
   have k2:(c.pcs.length:Int)≤64:=by omega
   have k3:IntKind.i64.wrap ((pn:Int)-1)=(pn:Int)-1:=wrap_id _ (by omega) (by omega)
   by_cases hfull:u=pn-1
   ·have d1:((u:Int)==(pn:Int)-1)=true:=by simp; omega
    have HE:Hid (leftN c u o=1):=by rw [Hid,hfull,← hpn2,left_full]
    have HFU:=Lib.hid hfull
    clear t0 a0 a1 q0 q1 q2 q3 q4 hpn2 hfull
    refine wp_region_ext (by kernel_rfl) (by kernel_rfl) ?_
    repeat (go_big_quiet_step (fail))
    refine wpQuiet_nil ?_
    intro _ hw'
    obtain ⟨xr,hw''⟩:=hw'
    subst hw''
    have hTE:=hTW.call xr.h
    have hCE:=Chg.of_below (ga:=x.ga) (gu:=x.gu) (hb2.trans (xr.h.mono hb2.size))
    go_wp2
    exact ⟨.int .i64 1,by simp [results,Tryz.results129,go_sem],by rw [HE.out]; rfl,hTE,hCE⟩
   ·have d1:((u:Int)==(pn:Int)-1)=false:=by simp; omega
    have HS:Hid (leftN c u o=((nextN c u o).map fun k=>leftN c (onN c u k) (some k)).sum):=left_step hu (by omega)
    have hcl:=cnt_lt hu (by omega)
    have HFU:=Lib.hid hfull
    clear t0 a0 a1 q0 q1 q2 q3 q4 hpn2 hfull
    refine wp_region_ext (by kernel_rfl) (by kernel_rfl) ?_
    repeat (go_big_quiet_step (fail))
    refine wpQuiet_nil ?_
    intro _ hw'
    obtain ⟨xr,hw''⟩:=hw'
    subst hw''
    replace hTW:=hTW.call xr.h
    replace hx1:=hx1.call xr.h
    replace hx2:=hx2.call xr.h
    replace hb2:=hb2.trans (xr.h.mono hb2.size)
    clear f0 f1 f2
    obtain ⟨W2,hW2⟩:∃ W2:World,W2=xr.w:=⟨_,rfl⟩
    rw [← hW2] at hTW hx1 hx2 hb2 ⊢
    clear hW2 xr
    obtain ⟨M,hM,hA⟩:=hTW.af
    have t0:=hx1.cell 0
    have a0:=hx2.cell 0
    have a1:=hx2.cell 1
    simp at t0 a0 a1
    have m0:=hTW.f.tc.ma
    have f0:=Ext.of t0
    have f1:=Ext.of a0
    have f2:=Ext.of a1
    have f3:=Ext.of m0
    have f4:∀ y:Ext W2,(Instr.lookup 225 (.map (some x.ga)) (.agg #[.int .i64 (u:Int),.int .i64 (lastI o)]) true).run Tryz.prog y.w = .ok (match M u (lastI o) with | some v => .tuple #[v,.bool true] | none => .tuple #[.int .i64 0,.bool false]) y.w :=
     fun y=>(hM.heap (y.h.block _ hM.lt)).lookup keyState Tryz.underlying225 u (lastI o) (by kernel_rfl)
    cases hMu:M u (lastI o) with
    | some v =>
      obtain ⟨u',o',he1,he2,rfl⟩:=hA _ _ _ hMu
      have hu':u'=u:=by omega
      have ho':=lastI_inj he2.symm
      subst hu' ho'
      rw [hMu] at f4
      simp only at f4
      clear hMu t0 a0 a1 m0 he1 he2
      go_wp2
      go_upto_region 3 with (fail)
      refine wp_region_ext (by kernel_rfl) (by kernel_rfl) ?_
      repeat (go_big_quiet_step (fail))
      refine wpQuiet_nil ?_
      intro _ hw'
      obtain ⟨xr,hw''⟩:=hw'
      subst hw''
      have hTE:=hTW.call xr.h
      have hCE:=Chg.of_below (ga:=x.ga) (gu:=x.gu) (hb2.trans (xr.h.mono hb2.size))
      go_wp2
      exact ⟨.int .i64 (leftN c u' o':Int),by simp [results,Tryz.results129,go_sem],rfl,hTE,hCE⟩
    | none =>
      rw [hMu] at f4
      simp only at f4
      clear t0 a0 a1 m0
      go_wp2
      go_upto_region 3 with (fail)
      refine wp_region_ext (by kernel_rfl) (by kernel_rfl) ?_
      repeat (go_big_quiet_step (fail))
      refine wpQuiet_nil ?_
      intro _ hw'
      obtain ⟨xr,hw''⟩:=hw'
      subst hw''
      replace hTW:=hTW.call xr.h
      replace hx1:=hx1.call xr.h
      replace hx2:=hx2.call xr.h
      replace hb2:=hb2.trans (xr.h.mono hb2.size)
      clear f0 f1 f2 f3 f4 hM
      obtain ⟨W3,hW3⟩:∃ W3:World,W3=xr.w:=⟨_,rfl⟩
      rw [← hW3] at hTW hx1 hx2 hb2 ⊢
      clear hW3 xr
      go_upto_region 7 with (fail)
      have hx3:=Blk.new W3 2 #[.int .i64 0]
      have hbA:=(Below.refl W3.heap.size W3).alloc (Nat.le_refl _) (.cells #[.int .i64 0] 2)
      have hz3:(W3.alloc (.cells #[.int .i64 0] 2)).heap.size=W3.heap.size+1:=by simp
      have hnb2:w.heap.size+2≤W3.heap.size:=by have:=hx2.lt; omega
      replace hTW:=hTW.call hbA
      replace hx1:=hx1.call hbA
      replace hx2:=hx2.call hbA
      replace hb2:=hb2.trans (hbA.mono hb2.size)
      clear hbA
      generalize W3.alloc (.cells #[.int .i64 0] 2)=W4 at *
      generalize W3.heap.size=nb at *
      have t0:=hx1.cell 0
      have a0:=hx2.cell 0
      have a1:=hx2.cell 1
      simp at t0 a0 a1
      go_wp2_with fail
      refine (behind_ok x.g u (lastI o) W4).mono ?_
      rintro e W5 ⟨rfl,hBB,hsz,hb5⟩
      rw [hz3] at hBB hsz
      have hinv:LeftInv w x c u o nb (sumL c u []) W5:=⟨hTW.call hb5,hx1.call hb5,hx2.call hb5,hx3.call hb5,Chg.of_below (hb2.trans (hb5.mono hb2.size)),by omega,hT.f.le,hnb2⟩
      have hTF:=hTW.f.call hb5
      have hxN:x.N≤nb+1:=by have:=hT.f.le; omega
      clear t0 a0 a1 hx1 hx2 hx3 hb2 hTW hb5
      go_wp2
      refine (wpIn_wide (n:=8)).1 ?_
      refine wpIn_rangeFunc_ownH (F:=Fence.wide) (n:=8) (a:=?aa) rfl (by omega) (gf:=231) (lb:=#[.pointer (some ⟨nb+1+1,0,none⟩),.pointer (some ⟨nb+1,0,none⟩),.pointer (some ⟨nb+1+2,0,none⟩)]) ?hgg trivial (enters_of Tryz.func231 (by kernel_rfl) rfl)
       (behind2_stops 4 x c u (nb+1) o W5 hTF hBB hu ho hxN) ?hKt ?hKb (Below.refl _ _) ?hps
       (fun pre W=>LeftInv w x c u o nb (sumL c u (pre.map (·.1))) W) (fun _ _ _=>False) ?hI (fun _ _ _ _ _ hs _ _=>hs) hinv (StAx (Act.tmps ?aa) 34 8 (nb+4) c u o) StAx.own ?assign ?body ?done ?stop
      case hKt=>exact fun h1 h2=>h1.trans h2
      case hKb=>exact fun W l o o' hl _ _ _=>KeepB.putObj W l o' (by omega) (by omega)
      case hgg=>rfl
      case hps=>exact fun _=>rfl
      case hI =>
       intro s W W' row hs hg hr
       exact hs.grown hg (fun r e=>by obtain ⟨h1,h2⟩:=hr r e; omega)
      case stop =>
       rintro D cc pre W _ _ hh _
       exact hh.elim
      case assign =>
       intro l pre y W K hi hK
       have hsz:=hi.sz
       have hx:=Blk.new W 218 #[.int .i64 (onN c u y.1:Int),.int .i64 (y.1:Int)]
       have hk:=hK ({ tmps:=(_:Array Value),defers:=[] }) (W.alloc (.cells #[.int .i64 (onN c u y.1:Int),.int .i64 (y.1:Int)] 218)) ((KeepsOthers.alloc _ _).from _) (KeepB.of_below ((Below.refl W.heap.size W).alloc (Nat.le_refl _) _) (by have:=hi.le; have:=hi.nb2; omega) (by omega)) (hi.grown (World.grownBy_alloc _ _ none) (fun r e=>by cases e)) ⟨W.heap.size,by omega,hx,rfl⟩
       simp [encNx]
       gi_wp2
       exact hk
      case body =>
       rintro l pre y a' W hl hr hi ⟨Bx,hBx,bX,rfl⟩ hlt
       simp only [List.setIfInBounds_toArray,List.set_cons_succ,List.set_cons_zero]
       obtain ⟨hy1,hy2⟩:=mem_next.1 y.2
       have hyu:=on_lt (u:=u) hu hy1
       have hyc:=cnt_on hy1 (canGo_free hy2)
       have hycn:=cnt_le (onN c u y.1) c.pcs.length
       have hih:=IH.out (c.pcs.length-cnt c.pcs.length (onN c u y.1)) (by omega) (onN c u y.1) (some y.1) W.drew rfl (hi.tb.call (Below.refl _ W).drew) hyu (fun i hi=>by injection hi with hi; omega)
       simp only [lastI] at hih
       have HIH:=Lib.hid hih
       have hlx:=left_small h8 (onN c u y.1) (some y.1)
       have hsl:=sumL_le h8 u (pre.map (·.1))
       rw [List.length_map] at hsl
       have hnl:=next_len c u o
       have hss:=sumL_snoc c u (pre.map (·.1)) y.1
       generalize hacc:sumL c u (pre.map (·.1))=acc at *
       have HACC:=Lib.hid hacc
       have HSS:=Lib.hid hss
       clear hacc hss hih
       have hacc2:acc≤68719476736:=by omega
       obtain ⟨L,hL⟩:∃ L,L=leftN c (onN c u y.1) (some y.1):=⟨_,rfl⟩
       rw [← hL] at hlx HIH HSS
       clear hL hsl
       have e1:IntKind.i64.wrap ((acc:Int)+(L:Int))=((acc+L:Nat):Int):=by rw [wrap_id _ (by omega) (by omega)]; omega
       obtain ⟨F,hF⟩:∃ F:World→Prop,(∀ w',F w'↔(Blk w' nb 2 #[.int .i64 (acc:Int)]∧Blk w' w.heap.size 118 #[.pointer (some ⟨x.g,0,none⟩)]∧Blk w' Bx 218 #[.int .i64 (onN c u y.1:Int),.int .i64 (y.1:Int)])):=⟨_,fun _=>Iff.rfl⟩
       have hF0:F W.drew:=(hF _).2 ⟨hi.bn.drew,hi.bt.drew,bX.drew⟩
       haveI:Nonempty (SubW F):=⟨⟨_,hF0⟩⟩
       have f0:∀ z:SubW F,z.w.cell? ⟨nb,0,none⟩=some (.int .i64 (acc:Int)):=fun z=>by simpa using ((hF z.w).1 z.h).1.cell 0
       have f1:∀ z:SubW F,z.w.cell? ⟨w.heap.size,0,none⟩=some (.pointer (some ⟨x.g,0,none⟩)):=fun z=>by simpa using ((hF z.w).1 z.h).2.1.cell 0
       have f2:∀ z:SubW F,z.w.cell? ⟨Bx,0,none⟩=some (.int .i64 (onN c u y.1:Int)):=fun z=>by simpa using ((hF z.w).1 z.h).2.2.cell 0
       have f3:∀ z:SubW F,z.w.cell? ⟨Bx,1,none⟩=some (.int .i64 (y.1:Int)):=fun z=>by simpa using ((hF z.w).1 z.h).2.2.cell 1
       have HF:=Lib.hid hF
       clear hF
       gi_wp2
       refine wpIn_region_sched (C:=fun w'=>∃ z:SubW F,w'=z.w) [(0,true),(1,true),(2,true),(3,false),(4,true),(5,false)] (by kernel_rfl) (by kernel_rfl) (by kernel_rfl) ⟨⟨W.drew,hF0⟩,rfl⟩ ?_
       refine sched_q (by rfl) (by rfl) ?_
       intro K hK
       go_big_quiet_op
       go_big_quiet_on
       refine sched_q (by rfl) (by rfl) ?_
       intro K hK
       go_big_quiet_op
       go_big_quiet_on
       refine sched_q (by rfl) (by rfl) ?_
       intro K hK
       go_big_quiet_op
       go_big_quiet_on
       refine sched_c (by rfl) (by rfl) ?_
       intro K hK
       go_wp2_with fail
       refine HIH.out.mono ?_
       rintro e W6 ⟨rfl,hT6,hC6⟩
       have hi0:=hi.chg (W':=W.drew) (hi.tb.call (Below.refl _ W).drew) (Chg.of_below (Below.refl _ W).drew)
       have hi6:=hi0.chg hT6 hC6
       have hga:=hi.tb.f.al
       have hgu:=hi.tb.f.ul
       have hle:=hi.le
       have hbX6:=hC6.blk (bX.drew) (by have:=hi.nb2; omega) (by have:=hi.nb2; omega)
       have hF6:F W6:=(HF.out W6).2 ⟨hi6.bn,hi6.bt,hbX6⟩
       go_wp2
       refine hK _ _ ⟨.inr ⟨⟨W6,hF6⟩,rfl⟩,?_⟩
       clear hK K
       refine sched_q (by rfl) (by rfl) ?_
       intro K hK
       go_big_quiet_op
       go_big_quiet_on
       refine sched_c (by rfl) (by rfl) ?_
       intro K hK
       have n0:=hi6.bn.cell 0
       have n1:=hi6.bn.frozen 0
       simp at n0
       go_wp2
       refine hK _ _ ⟨(by first | exact .inl rfl | exact .inl trivial),?_⟩
       clear hK K
       refine sched_nil ?_
       have hi7:=hi6.put (acc+L)
       have hC6':Chg x.ga x.gu W W6:=(Chg.of_below (Below.refl _ W).drew).trans hC6
       have hnb2':=hi.nb2
       have hszW:=hi.sz
       rw [show ((acc+L:Nat):Int)=(acc:Int)+(L:Int) by omega] at hi7
       generalize hw7:W6.setCell ⟨nb,0,none⟩ (.int .i64 ((acc:Int)+(L:Int)))=W7 at *
       have hgs:W6.grownBy W7 (some nb):=by rw [← hw7]; exact grown_setCell _
       have hblk:∀ k,k < W.heap.size→k≠x.ga→k≠x.gu→k≠nb→W7.heap[k]? = W.heap[k]? :=
        fun k hk h1 h2 h3=>(hgs.block k (Nat.lt_of_lt_of_le hk hC6'.size) (fun e=>h3 (by injection e))).trans (hC6'.block k hk h1 h2)
       refine ⟨⟨?_,?_⟩,⟨?_,?_⟩,?_⟩
       ·exact Nat.le_trans hC6'.size hgs.size
       ·intro k o hk ho hc
        have hkl:k < W.heap.size:=(Array.getElem?_eq_some_iff.1 ho).1
        exact (hblk k hkl (by omega) (by omega) (by omega)).trans ho
       ·exact Nat.le_trans hC6'.size hgs.size
       ·intro k hk h1 h2
        exact hblk k (by omega) h1 h2 (by omega)
       ·show LeftInv w x c u o nb (sumL c u ((pre++[y]).map (·.1))) W7
        rw [List.map_append,List.map_singleton,HSS.out]
        exact hi7
      case done =>
       rintro D xs W hD hS hi hdf
       rw [hS] at hi
       have HE:Hid (sumL c u (nextN c u o)=leftN c u o):=HS.out.symm
       rw [HE.out] at hi
       have hlx:=left_small h8 u o
       generalize hL:leftN c u o=L at *
       have HL:=Lib.hid hL
       clear hL hS
       have hle:=hi.le
       have hnb2':=hi.nb2
       have hszW:=hi.sz
       have hga:=hi.tb.f.al
       have hgu:=hi.tb.f.ul
       obtain ⟨M2,hM2,hA2⟩:=hi.tb.af
       have t0:=hi.bt.cell 0
       have a0:=hi.bs.cell 0
       have a1:=hi.bs.cell 1
       have n0:=hi.bn.cell 0
       simp at t0 a0 a1 n0
       have m0:=hi.tb.f.tc.ma
       have hMd:MapOf W.drew x.ga M2:=hM2
       obtain ⟨es,cl,hmu,hmo⟩:=hMd.update keyState Tryz.underlying225 (u:Int) (lastI o) (.int .i64 (L:Int))
       go_wp2
       go_wp2_with fail
       go_still_tail 6,(by kernel_rfl)
       change wpList _ _ _ _ _ (W).drew
       go_upto_region 11 with (fail)
       have hTB:TB (putMap W.drew x.ga es cl) x c:=(hi.tb.call (Below.refl _ W).drew).upA (grown_put es cl) hmo (by rw [← HL.out]; exact hA2.put u o)
       have hCh:Chg x.ga x.gu W (putMap W.drew x.ga es cl):=(Chg.of_below (Below.refl _ W).drew).trans (Chg.of_grown (grown_put es cl) (.inl rfl))
       have hi2:=hi.chg hTB hCh
       have hD0:=(Array.getElem?_eq_some_iff.1 hdf).1
       have hdf2:(putMap W.drew x.ga es cl).heap[D]? = some (.deferred (some [])):=(hCh.block D hD0 (by omega) (by omega)).trans hdf
       generalize putMap W.drew x.ga es cl=WE at *
       clear t0 a0 a1 n0 m0 hmu hmo hMd hM2
       have n0:=hi2.bn.cell 0
       simp at n0
       go_wp2
       refine ⟨by simp,.inl ⟨_,_,rfl,run_takeDeferred hdf2,?_⟩⟩
       have hiD:=hi2.grown (grownBy_putObj' WE D (.deferred none)) (fun r e=>by injection e; omega)
       exact ⟨.int .i64 (L:Int),by simp [results,Tryz.results129,go_sem],by rw [HL.out],hiD.tb,hiD.ch⟩
end Go.Proofs.YtibmeigdjghkcaaGreat.J
