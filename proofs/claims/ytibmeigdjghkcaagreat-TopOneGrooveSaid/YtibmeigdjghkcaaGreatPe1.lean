/- Contract: Chain. -/
import Derived.Test.YtibmeigdjghkcaaGreatPdM
import Derived.WalkMore
namespace Go.Proofs.YtibmeigdjghkcaaGreat
open Go.RowKit Go.Shelf
set_option linter.unusedVariables false
theorem keyInt:KeyG 3 kI:=⟨keyI_find Tryz.underlying3,fun e a w=>by kernel_rfl,keyI_stays⟩
def ChainOf (l:NL) (drop c:List Int):Prop:=(chainE l drop≠0→c=[])∧(chainE l drop=0→chkC l drop c=0)
theorem found_inO {o:Ord1} {v:Nat} {x:Option (Nat×Nat)} (h:found o v=some x):v∈o.map (·.1):=by
 apply Classical.byContradiction
 intro hn
 rw [found_none.2 hn] at h
 cases h
theorem Back.inO {L:List Lk} {drop:List Nat} {p:Pass} {src:List Nat} {o:Ord1} {v:Nat} {r:List Nat} (h:Back L drop p src o v r):∀ x∈r,x∈o.map (·.1):=by
 induction h with
 | root h1 h2=>intro x hx; obtain rfl:=List.mem_singleton.1 hx; exact found_inO h1
 | step h1 h2 h3 h4 h5 ih =>
   intro x hx
   rcases List.mem_cons.1 hx with rfl | hx
   ·exact found_inO h1
   ·exact ih x hx
def WaysM (o:Ord1) (M:Int→Option Value) (P:Nat→Prop):Prop:=∀ u,P u→M (u:Int)=some (wayV u (found o u))
theorem Back.parts {L:List Lk} {drop:List Nat} {p:Pass} {src:List Nat} {o:Ord1} {v:Nat} {r:List Nat} (h:Back L drop p src o v r) :
  (r=[v]∧wayL v (found o v) = -1)∨∃ (u:Nat) (r':List Nat) (i:Nat),r=v::r'∧wayL v (found o v)=(i:Int)∧wayF v (found o v)=(u:Int)∧Back L drop p src o u r':=by
 cases h with
 | root h1 h2=>exact .inl ⟨rfl,by rw [h1]; rfl⟩
 | step h1 h2 h3 h4 h5=>exact .inr ⟨_,_,_,rfl,by rw [h1]; rfl,by rw [h1]; rfl,h4⟩
theorem chainE_bad {l:NL} {drop:List Int} (h:openE l drop≠0):chainE l drop=openE l drop:=if_pos h
theorem chainE_go {l:NL} {drop:List Int} (h:openE l drop=0):chainE l drop=if joinedB l (natL drop)=true then 0 else 5:=by unfold chainE; rw [if_neg (by simpa using h)]
set_option maxHeartbeats 1600000 in
theorem chain_ok (v dv:Value) (l:NL) (drop:List Int) (w:World) (hv:NLV w w.heap.size v l) (hd:Arr w w.heap.size 1 dv drop icell) :
  Calls Tryz.prog 14 #[v,dv] w fun r w'=>∃ cv c,r = .returned (.tuple #[cv,.int .i64 (chainE l drop)])∧ChainOf l drop c∧Arr w' w'.heap.size 1 cv c icell∧Below w.heap.size w w':=by
 obtain ⟨ka,kc,aa,ac,ba,bc,rfl,hna⟩:=hv
 have hC:=NB.new hna
 have hB:=(Below.refl w.heap.size w).alloc (Nat.le_refl _) (.cells #[.int .i64 l.n,.slice ka l.links.length kc,.slice aa l.left.length ac,.slice ba l.right.length bc] 33)
 go_enter Tryz.func14,Tryz.ntmps14
 go_upto_region 1 with (fail)
 generalize w.alloc (.cells #[.int .i64 l.n,.slice ka l.links.length kc,.slice aa l.left.length ac,.slice ba l.right.length bc] 33)=W at *
 obtain ⟨k0,k1,k2,k3⟩:=hC.blk.c4
 have ho:=open_ok _ dv l drop W hC.v ((hd.below hB).more hB.size)
 go_wp2_with fail
 refine ho.mono ?_
 rintro e w1 ⟨hb,hcase⟩
 replace hB:=hB.trans (hb.mono hB.size)
 replace hC:=hC.call hb
 clear ho k0 k1 k2 k3
 rcases hcase with ⟨h0,rfl⟩ | ⟨h0,G,fb,ka',kc',aa',ac',ba',bc',da,dc,rfl,hveq,rfl,hN⟩
 ·have d0:(openE l drop != 0)=true:=by simpa using h0
  have HL:=Lib.hid (chainE_bad h0)
  have HC:Hid (ChainOf l drop []):=⟨fun _=>rfl,fun h=>by rw [chainE_bad h0] at h; exact absurd h h0⟩
  clear h0
  go_wp2
  go_ret2
  exact ⟨_,_,by rw [HL.out]; rfl,HC.out,Arr.nil_,hB⟩
 ·obtain ⟨rfl,rfl,rfl,rfl,rfl,rfl⟩:ka=ka'∧kc=kc'∧aa=aa'∧ac=ac'∧ba=ba'∧bc=bc':=by simpa [and_assoc] using hveq
  obtain ⟨hc0,hrd⟩:=openE_inv h0
  have hg:=check_good.1 hc0
  have hdp:∀ x∈drop,0≤x:=fun x hx=>by have:=(rises_lo hrd x hx).1; omega
  have hN40:l.N≤40:=by have:=hg.forty; have:=hg.nN; omega
  have HL:=Lib.hid (chainE_go h0)
  have H0:=Lib.hid h0
  clear h0 hveq hrd hc0
  have hmm:=@run_makeMap Tryz.prog
  go_upto_region 5 with (fail)
  have hm0:=MapG.new (kf:=kI) w1
  have hb1:=(Below.refl w1.heap.size w1).alloc (Nat.le_refl _) (.map #[] 0)
  have hN2:=hN.call hb1
  have hB2:=hB.trans (hb1.mono hB.size)
  have hC2:=hC.call hb1
  have hWB:=hC.blk.lt
  clear hb1 hN hC hmm
  generalize w1.alloc (.map #[] 0)=w2 at *
  generalize w1.heap.size=gm at *
  have hna2:Arr w2 w2.heap.size 1 (.slice aa l.left.length ac) (intL (natL l.left)) icell:=by
   have:=hC2.na.as_
   rw [hg.left_int] at this
   rw [show l.left.length=(intL (natL l.left)).length by rw [← hg.left_int]]
   exact this
  have hrt:=reach_there hN2 hg hdp (natL l.left) _ hna2 (nodup_of_lt (rises_nat hg.ra).1) (fun u hu=>hg.ltA (NL.mA.2 hu))
  obtain ⟨k0,k1,k2,k3⟩:=hC2.blk.c4
  go_wp2_with fail
  refine hrt.mono ?_
  rintro e w3 ⟨ob,o,ws,kk,rfl,hwb,hob,hbf,hb3⟩
  have hm3:=hm0.call hb3
  have hB3:=hB2.trans (hb3.mono hB2.size)
  have hC3:=hC2.call hb3
  have hgm3:=hm3.lt
  have hobl:=Blk.lt hwb
  have hgob:gm < ob:=Nat.lt_of_lt_of_le hm0.lt hob
  have hww:=hC2.blk.lt
  clear hrt k0 k1 k2 k3 hN2 hB2 hC2 hm0 hb3 hna2
  go_wp2
  go_loopw [32] (fun i wr=>∃ (k:Nat) (M:Int→Option Value),k≤l.N∧i = .int .i64 k∧MapG kI wr gm M∧WaysM o M (fun u=>u < k)∧w3.grownBy wr (some gm)) (fun i _=>l.N-(intOf i).toNat)
  case atStart=>exact ⟨0,_,Nat.zero_le _,rfl,hm3,fun u hu=>absurd hu (Nat.not_lt_zero _),World.grownBy.refl _ _⟩
  case round =>
   clear hm3
   obtain ⟨k,M,hk,rfl,hM,hWM,hgr⟩:=hrel
   by_cases hlt:k < l.N
   ·have d2:decide (k < l.N)=true:=decide_eq_true hlt
    have d2':decide ((k:Int) < (l.N:Int))=true:=decide_eq_true (by omega)
    have hki:(k:Int) < (l.N:Int):=by omega
    have hwb2:WayB wr ob l.N (found o):=Blk.grown hwb hgr fun e=>by injection e; omega
    obtain ⟨s0,s1,s2⟩:=WayB.at_ hwb2 hlt
    go_upto_region 8 with (fail)
    have hX:=Blk.new wr 131 #[.int .i64 (wayF k (found o k)),.int .i64 (wayT k (found o k)),.int .i64 (wayL k (found o k))]
    have hb1:=(Below.refl wr.heap.size wr).alloc (Nat.le_refl _) (.cells #[.int .i64 (wayF k (found o k)),.int .i64 (wayT k (found o k)),.int .i64 (wayL k (found o k))] 131)
    have hg1:=World.grownBy_alloc wr (.cells #[.int .i64 (wayF k (found o k)),.int .i64 (wayT k (found o k)),.int .i64 (wayL k (found o k))] 131) (some gm)
    have hM1:=hM.call hb1
    have hgr1:=grown_trans' hgr hg1
    clear hgr hg1 hwb2 s0 s1 s2 hb1 hM
    generalize wr.alloc (.cells #[.int .i64 (wayF k (found o k)),.int .i64 (wayT k (found o k)),.int .i64 (wayL k (found o k))] 131)=wq at *
    have x0:=hX.cell 0
    have x1:=hX.cell 1
    have x2:=hX.cell 2
    simp at x0 x1 x2
    obtain ⟨es,cl,hmu,hmo⟩:=hM1.update keyInt Tryz.underlying133 (k:Int) (wayV k (found o k))
    replace hmu:(Instr.mapUpdate 133 (.map (some gm)) (.int .i64 (k:Int)) (.agg #[.int .i64 (wayF k (found o k)),.int .i64 (wayT k (found o k)),.int .i64 (wayL k (found o k))])).run Tryz.prog wq = .ok () (putMap wq gm es cl):=hmu
    have hgr2:w3.grownBy (putMap wq gm es cl) (some gm):=grown_trans' hgr1 (grown_put es cl)
    have hWM2:WaysM o (fun x=>if x=(k:Int) then some (wayV k (found o k)) else M x) (fun u=>u < k+1):=by
     intro u hu
     show (if (u:Int)=(k:Int) then _ else _)=_
     by_cases e:u=k
     ·rw [if_pos (by omega),e]
     ·rw [if_neg (by omega)]; exact hWM u (by omega)
    clear hWM hM1 hgr1 hX
    go_wp2
    generalize putMap wq gm es cl=wp at *
    go_roundw
    case rel=>exact ⟨k+1,_,by omega,by go_num,hmo,hWM2,hgr2⟩
    case measure=>(simp [intOf]; try omega)
   ·obtain rfl:k=l.N:=by omega
    have d2:decide (l.N < l.N)=false:=by simp
    have hB4:Below w.heap.size w wr:=⟨hgr.os.trans hB3.os,hgr.tape.trans hB3.tape,hgr.output.trans hB3.output,Nat.le_trans hB3.size hgr.size,fun q hq=>(hgr.block q (Nat.lt_of_lt_of_le hq hB3.size) fun e=>by injection e; omega).trans (hB3.block q hq)⟩
    have hC4:NB wr w.heap.size l ka kc aa ac ba bc:=⟨hC3.blk.grown hgr fun e=>by injection e; omega,(hna.below hB4).more hB4.size⟩
    obtain ⟨k0,k1,k2,k3⟩:=hC4.blk.c4
    have hrl:l.right.length≤10:=hg.lb10
    have hri:=hg.right_int
    have HRI:=Lib.hid hri
    have HJ:=Lib.hid (joined_iff (l:=l) (drop:=natL drop) hg)
    have HBA:=Lib.hid (fun v=>hbf.all (v:=v) rfl)
    clear hri hgr hwb
    go_wp2
    go_loop [44] (fun i=>∃ k:Nat,k≤l.right.length∧i = .int .i64 k∧(∀ x∈(natL l.right).take k,x∉o.map (·.1))) (fun i=>l.right.length-(intOf i).toNat)
    case atStart=>exact ⟨0,Nat.zero_le _,rfl,fun x hx=>by simp at hx⟩
    case round =>
     obtain ⟨k,hk,rfl,hno⟩:=hrel
     by_cases hlt:k < l.right.length
     ·have d3:decide (k < l.right.length)=true:=decide_eq_true hlt
      have d3':decide ((k:Int) < (l.right.length:Int))=true:=decide_eq_true (by omega)
      have hki:(k:Int) < (l.right.length:Int):=by omega
      obtain ⟨b,off,y,rfl,hb,hy,c0⟩:=numx_at hC4.na.bs hlt
      obtain ⟨x,hxk⟩:∃ x,(natL l.right)[k]? = some x:=⟨_,List.getElem?_eq_getElem (by simpa [natL] using hlt)⟩
      have hyx:y=(x:Int):=by
       rw [HRI.out,intL_at hxk] at hy
       exact (Option.some.inj hy).symm
      subst hyx
      have hxr:=List.mem_of_getElem? hxk
      have hxN:=hg.ltB (NL.mB.2 hxr)
      have hz:=fun w'=>Tryz.zeroValue131 w'
      have hlk:=fun (W':World) (M':Int→Option Value) (hM':MapG kI W' gm M') (u:Nat) (hu:M' (u:Int)=some (wayV u (found o u)))=>show (Instr.lookup 133 (.map (some gm)) (.int .i64 (u:Int)) false).run Tryz.prog W' = .ok (.agg #[.int .i64 (wayF u (found o u)),.int .i64 (wayT u (found o u)),.int .i64 (wayL u (found o u))]) W' from (hM'.lookup1 keyInt Tryz.underlying133 (u:Int) (hz W')).trans (by rw [hu]; rfl)
      have hl1:=hlk wr M hM x (hWM x hxN)
      have hqq:=fun w'=>neq_way hg.net hbf x w'
      have HLK:=Lib.hid hlk
      clear hz hlk hy
      by_cases hm:x∈o.map (·.1)
      ·have e1:(!decide (x∈o.map (·.1)))=false:=by rw [decide_eq_true hm]; rfl
       rw [e1] at hqq
       go_wp2
       go_step3
       go_wp2
       go_step3
       go_wp2
       obtain ⟨r,hbk⟩:=hbf.backOf hm
       have hrlt:∀ u∈r,u < l.N:=fun u hu=>by
        obtain ⟨e,he,rfl⟩:=List.mem_map.1 (hbk.inO u hu)
        exact hbf.lt e he
       have hrN:r.length≤l.N:=nodup_len hbk.nodup hrlt
       have hjt:joinedB l (natL drop)=true:=HJ.out.2 ⟨x,hxr,(HBA.out x).1 hm⟩
       have hc0:chainE l drop=0:=by rw [HL.out,hjt]; rfl
       have HCO:Hid (ChainOf l drop (intL r.reverse)):=⟨fun h=>absurd hc0 h,fun _=>chain_back hg H0.out hbk hxr hrlt⟩
       have HE:=Lib.hid hc0
       have HND:=Lib.hid hbk.nodup
       have hgw:gm < wr.heap.size:=hM.lt
       have hWr:WaysM o M (fun u=>u∈r):=fun u hu=>hWM u (hrlt u hu)
       clear hno hjt hc0 hqq hl1 e1 hm hrlt hWM c0 hxk hxr
       have hbs:wr.heap.size≤wr.heap.size:=Nat.le_refl _
       have hwgm:w.heap.size≤gm:=by omega
       generalize hbse:wr.heap.size=bs at hbs hgw
       have hbs2:bs≤wr.heap.size:=by omega
       clear hbse hbs
       go_loopw [12,13] (fun av cv wx=>∃ (v:Nat) (pre rest:List Nat) (M':Int→Option Value) (A:Option Addr) (cap:Nat),av = .int .i64 (v:Int)∧cv = .slice A pre.length cap∧pre++rest=r∧Back l.L (natL drop) anyP (natL l.left) o v rest∧wx.ownsRow bs 3 1 (.slice A pre.length cap) pre.length ((intL pre).map (Value.int .i64))∧MapG kI wx gm M'∧WaysM o M' (fun u=>u∈rest)∧Below w.heap.size w wx∧bs≤wx.heap.size) (fun _ cv _=>l.N-lenV cv)
       case atStart=>exact ⟨x,[],r,M,none,0,rfl,rfl,rfl,hbk,by simpa [intL] using World.ownsRow_nil _ _ _ _,hM,hWr,hB4,hbs2⟩
       case round =>
        clear hbk hM hWr hB4 hC4 hbs2
        obtain ⟨v,pre,rest,M',A,cap,rfl,rfl,hpr,hbk,hown,hM,hWM,hB5,hsz5⟩:=hrel
        have hpt:=hbk.parts
        have hvr:v∈rest:=by obtain ⟨r',hr'⟩:=hbk.head; rw [hr']; exact List.mem_cons_self
        have hMv:=hWM v hvr
        have hplen:pre.length+rest.length≤l.N:=by rw [← List.length_append,hpr]; exact hrN
        have hrl1:0 < rest.length:=List.length_pos_of_mem hvr
        have HPR:=Lib.hid hpr
        clear hbk hpr
        generalize hn0:pre.length=n at *
        have HN0:=Lib.hid hn0
        clear hn0
        obtain ⟨-,hnc,hncm⟩:=own_cap hown
        go_wp2_with (at_builtin; refine wpList_app1 slT_int rfl (.tmp 53) (.tmp 55) rfl (A:=A) (cc:=cap) rfl ⟨cap,hown,.inl rfl⟩ rfl rfl one_1 hsz5 ?_ ?_ ?_)
        any_goals omega
        intro v4 w4 hown4 hb4 hkeep4
        have hM4:MapG kI w4 gm M':=hM.heap (hb4.block gm (by omega))
        have hB6:=hB5.trans (hb4.mono (by omega))
        have hsz6:=Nat.le_trans hsz5 hb4.size
        have hown6:w4.ownsRow bs 3 1 v4 (pre++[v]).length ((intL (pre++[v])).map (Value.int .i64)):=by
         rw [intL_append,List.map_append,List.length_append,HN0.out]
         exact hown4
        obtain ⟨A4,c4,rfl⟩:=own_form hown6
        have hl6:=HLK.out w4 M' hM4 v hMv
        clear hown hM hB5 hsz5 hb4 hown4 hkeep4
        go_upto_region 17 with (fail)
        have hX:=Blk.new w4 131 #[.int .i64 (wayF v (found o v)),.int .i64 (wayT v (found o v)),.int .i64 (wayL v (found o v))]
        have hb1:=(Below.refl w4.heap.size w4).alloc (Nat.le_refl _) (.cells #[.int .i64 (wayF v (found o v)),.int .i64 (wayT v (found o v)),.int .i64 (wayL v (found o v))] 131)
        have hown7:=own_call hown6 hb1
        have hM7:=hM4.call hb1
        have hB7:=hB6.trans (hb1.mono hB6.size)
        have hsz7:=Nat.le_trans hsz6 hb1.size
        have hbx:gm≠w4.heap.size:=by have:=hM4.lt; omega
        clear hown6 hM4 hB6 hsz6 hb1 hl6
        generalize w4.alloc (.cells #[.int .i64 (wayF v (found o v)),.int .i64 (wayT v (found o v)),.int .i64 (wayL v (found o v))] 131)=w5 at *
        obtain ⟨es,cl,B',hde,hmo,hagr⟩:=hM7.delete keyInt Tryz.underlying133 (v:Int) 0 #[133,3] rfl
        replace hde:∀ ty,(Builtin.delete_ #[133,3] ty #[.map (some gm),.int .i64 (v:Int)]).run Tryz.prog w5 = .ok (.tuple #[]) (putMap w5 gm es cl):=fun ty=>hde
        have hg5:=grown_put (w:=w5) (g:=gm) es cl
        have hX8:=hX.grown hg5 (fun e=>by injection e with e; exact hbx e.symm)
        have hown8:(putMap w5 gm es cl).ownsRow bs 3 1 (.slice A4 (pre++[v]).length c4) (pre++[v]).length ((intL (pre++[v])).map (Value.int .i64)):=hown7.kept hg5 (by
         cases hq:(Value.slice A4 (pre++[v]).length c4).ownBlock with
         | none=>exact .inl rfl
         | some q=>exact .inr fun e=>by have:=(hown7.lt q hq).1; injection e with e; omega)
        have hB8:=hB7.grown hg5 hB7.size (fun r e=>by injection e with e; omega)
        have hsz8:=Nat.le_trans hsz7 hg5.size
        clear hX hown7 hM7 hB7 hsz7 hg5
        go_upto_region 18 with (fail)
        clear hde
        generalize putMap w5 gm es cl=w6 at *
        have x0:=hX8.cell 0
        have x2:=hX8.cell 2
        simp at x0 x2
        have hln:(pre++[v]).length=n+1:=by rw [List.length_append,HN0.out]; rfl
        rcases hpt with ⟨hre,hwl⟩ | ⟨u,r',ci,hre,hwl,hwf,hbk⟩
        ·rw [hwl] at x2
         have d4:decide ((-1:Int) < 0)=true:=by decide
         have hrr:pre++[v]=r:=by rw [← HPR.out,hre]
         rw [hrr] at hown8
         rw [hrr]
         have hil:(intL r).length=r.length:=by simp [intL]
         have hrv:=reverse_ok (base:=bs) (intL r) A4 c4 w6 (by rw [hil]; exact hown8)
         rw [hil] at hrv
         have hob:∀ q,(Value.slice A4 r.length c4).ownBlock=some q→bs≤q:=fun q hq=>(hown8.lt q hq).1
         clear hre hwl hown8 hrr hln hX8 x0 hmo hagr hWM hMv hvr hplen hrl1
         generalize wayF v (found o v)=yf at *
         generalize wayL v (found o v)=yl at *
         generalize wayT v (found o v)=yt at *
         generalize hrl9:r.length=m at *
         go_wp2_with fail
         refine hrv.mono ?_
         rintro e w7 ⟨rfl,hrev,hgv⟩
         have hir:(intL r).reverse=intL r.reverse:=by simp [intL]
         rw [hir] at hrev
         have hB9:Below w.heap.size w w7:=⟨hgv.os.trans hB8.os,hgv.tape.trans hB8.tape,hgv.output.trans hB8.output,Nat.le_trans hB8.size hgv.size,fun q hq=>(hgv.block q (Nat.lt_of_lt_of_le hq hB8.size) fun e=>by have:=hob q e.symm; omega).trans (hB8.block q hq)⟩
         clear hrv
         go_wp2
         rw [Exit.noGoto_ret]
         simp +zetaDelta only [go_sem,Exit.inBlock,Exit.then]
         go_ret2
         exact ⟨_,_,by rw [HE.out]; rfl,HCO.out,hrev,hB9⟩
        ·rw [hwl] at x2
         rw [hwf] at x0
         have d4:decide ((ci:Int) < 0)=false:=decide_eq_false (by omega)
         have hvr':v∉r':=by
          have h1:=HND.out
          rw [← HPR.out,hre] at h1
          exact (List.nodup_cons.1 (List.nodup_append.1 h1).2.1).1
         have hWM2:WaysM o B' (fun u=>u∈r'):=fun q hq=>by
          show B' (q:Int)=_
          rw [hagr (q:Int) (by
           intro e
           have:q=v:=by omega
           exact hvr' (this ▸ hq))]
          exact hWM q (by rw [hre]; exact List.mem_cons_of_mem _ hq)
         have hpr2:(pre++[v])++r'=r:=by rw [List.append_assoc,← HPR.out,hre]; rfl
         have hmea:l.N-(n+1) < l.N-n:=by omega
         clear hre hwl hwf hvr' hX8 hagr hWM hMv hvr hplen hrl1
         generalize wayF v (found o v)=yf at *
         generalize wayL v (found o v)=yl at *
         generalize wayT v (found o v)=yt at *
         rw [hln] at hown8
         rw [hln]
         go_wp2
         go_roundw
         case rel=>exact ⟨u,pre++[v],r',B',A4,c4,rfl,by rw [hln],hpr2,hbk,by rw [hln]; exact hown8,hmo,hWM2,hB8,hsz8⟩
         case measure=>(simp [lenV]; try omega)
      ·have e1:(!decide (x∈o.map (·.1)))=true:=by rw [decide_eq_false hm]; rfl
       rw [e1] at hqq
       have hno2:∀ y∈(natL l.right).take (k+1),y∉o.map (·.1):=by
        intro y hy
        rw [take_snoc hxk] at hy
        rcases List.mem_append.1 hy with hy | hy
        ·exact hno y hy
        ·obtain rfl:=List.mem_singleton.1 hy; exact hm
       clear hno hm e1
       generalize wayF x (found o x)=yf at *
       generalize wayT x (found o x)=yt at *
       generalize wayL x (found o x)=yl at *
       go_wp2
       go_step3
       go_wp2
       apply_assumption
       go_wp2
       go_round
       case rel=>exact ⟨k+1,by omega,by go_num,hno2⟩
       case measure=>(simp [intOf]; try omega)
     ·obtain rfl:k=l.right.length:=by omega
      have d3:decide (l.right.length < l.right.length)=false:=by simp
      have hj:joinedB l (natL drop)=false:=by
       cases hjj:joinedB l (natL drop)
       ·rfl
       ·obtain ⟨v,hv,hr⟩:=HJ.out.1 hjj
        refine absurd ((HBA.out v).2 hr) (hno v ?_)
        rw [List.take_of_length_le (by simp [natL])]
        exact hv
      have hc5:chainE l drop=5:=by rw [HL.out,hj]; rfl
      have HC:Hid (ChainOf l drop []):=⟨fun _=>rfl,fun h=>by rw [hc5] at h; cases h⟩
      have HE:=Lib.hid hc5
      clear hno hj hc5
      go_wp2
      go_ret2
      exact ⟨_,by rw [HE.out]; rfl,_,HC.out,Arr.nil_,hB4⟩
end Go.Proofs.YtibmeigdjghkcaaGreat
