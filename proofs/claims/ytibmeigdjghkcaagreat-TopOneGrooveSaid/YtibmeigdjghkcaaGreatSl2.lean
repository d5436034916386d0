/- Contracts of package slices at this seat; ranges within bounds. A cylinder as a value, and in a box of the call's own. Regions that draw their order, walked in every order that is left: reads are taken first, what comes up beside others parts the walk. Contract: join.CheckCylinder. -/
import Derived.Test.YtibmeigdjghkcaaGreatPure
import Derived.Test.YtibmeigdjghkcaaGreatGenM
import Derived.Test.YtibmeigdjghkcaaGreatSch
import Derived.Below
import Derived.Deep.Cut
import Derived.Deep.CutBlock
import Derived.Deep.DeepCutAuto
namespace Go.Proofs.YtibmeigdjghkcaaGreat.J
open Go.RowKit Go.Shelf
set_option linter.unusedVariables false
structure Rg where
 lo:Int
 hi:Int
 deriving Inhabited,DecidableEq
def rcell (r:Rg):Nat→Value
 | 0 => .int .i64 r.lo
 | _ => .int .i64 r.hi
def stcell (s:St):Nat→Value
 | 0 => .int .i64 s.p
 | _ => .bool s.t
set_option maxHeartbeats 400000 in
theorem indexFunc_rg (sv:Value) (l:List Rg) (fn:FuncId) (fs cs:Array Value) (p:Rg→Bool) (w:World)
 (eg:∀ args w,(callFunc fn args).run Tryz.prog w = .ok (.enter fn args) w)
 (hs:Arr w w.heap.size 2 sv l rcell)
 (hcall:∀ x∈l,∀ w1,Below w.heap.size w w1→Calls Tryz.prog fn (fs.push (.agg #[.int .i64 x.lo,.int .i64 x.hi])++cs) w1 fun e w2=>e = .returned (.bool (p x))∧Below w1.heap.size w1 w2) :
  Calls Tryz.prog 336 #[sv,.func (.func fn) fs cs] w fun r w'=>r = .returned (.int .i64 (idxOf p 0 l))∧Below w.heap.size w w':=by
 obtain ⟨A,c,rfl,hn,hc,hcell⟩:=hs
 go_enter Tryz.func336,Tryz.ntmps336
 go_wp2
 go_loopw [5,8] (fun x i wr=>∃ k:Nat,k≤l.length∧i = .int .i64 k∧idxOf p 0 l=idxOf p k (l.drop k)∧Below w.heap.size w wr) (fun _ i _=>l.length-(intOf i).toNat)
 case atStart=>exact ⟨0,Nat.zero_le _,rfl,rfl,Below.refl _ _⟩
 case round =>
  obtain ⟨k,hk,rfl,hf,hb⟩:=hrel
  by_cases hlt:k < l.length
  ·obtain ⟨b,off,rfl,hB,hcc⟩:=hcell (by omega)
   obtain ⟨x,hx⟩:∃ x,l[k]? = some x:=⟨l[k],List.getElem?_eq_getElem hlt⟩
   have hce:=fun j (hj:j < 2)=>(hb.cell (p:=⟨b,off+k*2+j,none⟩) hB).trans (hcc k x hx j hj)
   have c0:=hce 0 (by omega)
   have c1:=hce 1 (by omega)
   have c2:=hce (2-1) (by omega)
   clear hce
   simp only [Nat.add_zero,rcell,Nat.reduceSub] at c0 c1 c2
   have hcl:=hcall x (List.mem_of_getElem? hx) wr hb
   rw [idxOf_drop p l k x hx] at hf
   have H:=Lib.hid hf; clear hf
   have HX:=Lib.hid hx; clear hx
   clear hcall hcc hcell
   go_wp2_with (refine hcl.mono ?_; rintro e w1 ⟨rfl,hb1⟩)
   ·go_ret
    exact ⟨by rw [H.out]; simp [*],bthen hb hb1⟩
   ·go_roundw
    case rel=>exact ⟨k+1,by omega,by go_num,by rw [H.out]; simp [*],bthen hb hb1⟩
    case measure=>simp [intOf]; omega
  ·obtain rfl:k=l.length:=by omega
   have H:=Lib.hid hf; clear hf
   go_wp2
   go_ret
   exact ⟨by rw [H.out]; simp [idxOf],hb⟩
theorem containsFunc_rg (sv:Value) (l:List Rg) (fn:FuncId) (fs cs:Array Value) (p:Rg→Bool) (w:World)
 (eg:∀ args w,(callFunc fn args).run Tryz.prog w = .ok (.enter fn args) w)
 (hs:Arr w w.heap.size 2 sv l rcell)
 (hcall:∀ x∈l,∀ w1,Below w.heap.size w w1→Calls Tryz.prog fn (fs.push (.agg #[.int .i64 x.lo,.int .i64 x.hi])++cs) w1 fun e w2=>e = .returned (.bool (p x))∧Below w1.heap.size w1 w2) :
  Calls Tryz.prog 257 #[sv,.func (.func fn) fs cs] w fun r w'=>r = .returned (.bool (l.any p))∧Below w.heap.size w w':=by
 have hi:=indexFunc_rg sv l fn fs cs p w eg hs hcall
 have HD:=Lib.hid (idxOf_nonneg p l 0)
 clear hcall hs
 go_enter Tryz.func257,Tryz.ntmps257
 go_wp2_with (go_at_call 336; refine hi.mono ?_; rintro e w1 ⟨rfl,hb1⟩)
 go_ret
 exact ⟨by rw [← HD.out]; simp,hb1⟩
set_option maxHeartbeats 400000 in
theorem indexFunc_st (sv:Value) (l:List St) (fn:FuncId) (fs cs:Array Value) (p:St→Bool) (w:World)
 (eg:∀ args w,(callFunc fn args).run Tryz.prog w = .ok (.enter fn args) w)
 (hs:Arr w w.heap.size 2 sv l stcell)
 (hcall:∀ x∈l,∀ w1,Below w.heap.size w w1→Calls Tryz.prog fn (fs.push (.agg #[.int .i64 x.p,.bool x.t])++cs) w1 fun e w2=>e = .returned (.bool (p x))∧Below w1.heap.size w1 w2) :
  Calls Tryz.prog 220 #[sv,.func (.func fn) fs cs] w fun r w'=>r = .returned (.int .i64 (idxOf p 0 l))∧Below w.heap.size w w':=by
 obtain ⟨A,c,rfl,hn,hc,hcell⟩:=hs
 go_enter Tryz.func220,Tryz.ntmps220
 go_wp2
 go_loopw [5,8] (fun x i wr=>∃ k:Nat,k≤l.length∧i = .int .i64 k∧idxOf p 0 l=idxOf p k (l.drop k)∧Below w.heap.size w wr) (fun _ i _=>l.length-(intOf i).toNat)
 case atStart=>exact ⟨0,Nat.zero_le _,rfl,rfl,Below.refl _ _⟩
 case round =>
  obtain ⟨k,hk,rfl,hf,hb⟩:=hrel
  by_cases hlt:k < l.length
  ·obtain ⟨b,off,rfl,hB,hcc⟩:=hcell (by omega)
   obtain ⟨x,hx⟩:∃ x,l[k]? = some x:=⟨l[k],List.getElem?_eq_getElem hlt⟩
   have hce:=fun j (hj:j < 2)=>(hb.cell (p:=⟨b,off+k*2+j,none⟩) hB).trans (hcc k x hx j hj)
   have c0:=hce 0 (by omega)
   have c1:=hce 1 (by omega)
   have c2:=hce (2-1) (by omega)
   clear hce
   simp only [Nat.add_zero,stcell,Nat.reduceSub] at c0 c1 c2
   have hcl:=hcall x (List.mem_of_getElem? hx) wr hb
   rw [idxOf_drop p l k x hx] at hf
   have H:=Lib.hid hf; clear hf
   have HX:=Lib.hid hx; clear hx
   clear hcall hcc hcell
   go_wp2_with (refine hcl.mono ?_; rintro e w1 ⟨rfl,hb1⟩)
   ·go_ret
    exact ⟨by rw [H.out]; simp [*],bthen hb hb1⟩
   ·go_roundw
    case rel=>exact ⟨k+1,by omega,by go_num,by rw [H.out]; simp [*],bthen hb hb1⟩
    case measure=>simp [intOf]; omega
  ·obtain rfl:k=l.length:=by omega
   have H:=Lib.hid hf; clear hf
   go_wp2
   go_ret
   exact ⟨by rw [H.out]; simp [idxOf],hb⟩
theorem containsFunc_st (sv:Value) (l:List St) (fn:FuncId) (fs cs:Array Value) (p:St→Bool) (w:World)
 (eg:∀ args w,(callFunc fn args).run Tryz.prog w = .ok (.enter fn args) w)
 (hs:Arr w w.heap.size 2 sv l stcell)
 (hcall:∀ x∈l,∀ w1,Below w.heap.size w w1→Calls Tryz.prog fn (fs.push (.agg #[.int .i64 x.p,.bool x.t])++cs) w1 fun e w2=>e = .returned (.bool (p x))∧Below w1.heap.size w1 w2) :
  Calls Tryz.prog 126 #[sv,.func (.func fn) fs cs] w fun r w'=>r = .returned (.bool (l.any p))∧Below w.heap.size w w':=by
 have hi:=indexFunc_st sv l fn fs cs p w eg hs hcall
 have HD:=Lib.hid (idxOf_nonneg p l 0)
 clear hcall hs
 go_enter Tryz.func126,Tryz.ntmps126
 go_wp2_with (go_at_call 220; refine hi.mono ?_; rintro e w1 ⟨rfl,hb1⟩)
 go_ret
 exact ⟨by rw [← HD.out]; simp,hb1⟩
theorem within1_ok (x:Rg) (lo hi:Int) (w:World) (b1 b2:Nat) (h1:w.cell? ⟨b1,0,none⟩=some (.int .i64 lo)) (h2:w.cell? ⟨b2,0,none⟩=some (.int .i64 hi)) :
  Calls Tryz.prog 325 #[.agg #[.int .i64 x.lo,.int .i64 x.hi],.pointer (some ⟨b1,0,none⟩),.pointer (some ⟨b2,0,none⟩)] w fun r w'=>r = .returned (.bool (!okR lo hi x.lo x.hi))∧Below w.heap.size w w':=by
 have hb1:=cell_lt h1
 have hb2:=cell_lt h2
 go_enter Tryz.func325,Tryz.ntmps325
 go_upto_region 1 with (fail)
 have hbA:=(Below.refl w.heap.size w).alloc (Nat.le_refl _) (.cells #[.int .i64 x.lo,.int .i64 x.hi] 24)
 have hxs:=Blk.new w 24 #[.int .i64 x.lo,.int .i64 x.hi]
 have c1:=(hbA.cell (p:=⟨b1,0,none⟩) hb1).trans h1
 have c2:=(hbA.cell (p:=⟨b2,0,none⟩) hb2).trans h2
 clear h1 h2
 generalize w.alloc (.cells #[.int .i64 x.lo,.int .i64 x.hi] 24)=wv at *
 have s0:=hxs.cell 0
 have s1:=hxs.cell 1
 simp at s0 s1
 by_cases g1:x.lo < lo
 ·have d1:decide (x.lo < lo)=true:=by simpa using g1
  have HE:Hid ((!okR lo hi x.lo x.hi)=true):=by simp [Hid,okR]; omega
  go_wp2
  go_ret
  exact ⟨by rw [HE.out]; rfl,hbA⟩
 ·have d1:decide (x.lo < lo)=false:=by simpa using g1
  by_cases g2:x.hi < x.lo
  ·have d2:decide (x.hi < x.lo)=true:=by simpa using g2
   have HE:Hid ((!okR lo hi x.lo x.hi)=true):=by simp [Hid,okR]; omega
   go_wp2
   go_ret
   exact ⟨by rw [HE.out]; rfl,hbA⟩
  ·have d2:decide (x.hi < x.lo)=false:=by simpa using g2
   have HE:Hid ((!okR lo hi x.lo x.hi)=decide (hi < x.hi)):=by
    rw [Hid,Bool.eq_iff_iff]
    simp [okR]
    omega
   go_wp2
   go_ret
   exact ⟨by rw [HE.out]; rfl,hbA⟩
theorem within_ok (lo hi:Int) (lv:Value) (l:List Rg) (w:World) (hs:Arr w w.heap.size 2 lv l rcell) :
  Calls Tryz.prog 217 #[.int .i64 lo,.int .i64 hi,lv] w fun r w'=>r = .returned (.bool (l.all fun x=>okR lo hi x.lo x.hi))∧Below w.heap.size w w':=by
 have HA:Hid ((!(l.any fun x=>!okR lo hi x.lo x.hi))=l.all fun x=>okR lo hi x.lo x.hi):=by
  rw [Hid,List.any_eq_not_all_not]
  simp
 go_enter Tryz.func217,Tryz.ntmps217
 go_wp2_with fail
 refine (containsFunc_rg _ l 325 _ _ (fun x=>!okR lo hi x.lo x.hi) _ (enters_of Tryz.func325 (by kernel_rfl) rfl) ?h1 ?h2).mono ?_
 case h1=>exact ((hs.alloc (by simp) _).alloc (by simp) _).more (by simp; omega)
 case h2 =>
  intro x _ w1 hb
  exact within1_ok x lo hi w1 _ _ ((hb.cell (p:=⟨w.heap.size,0,none⟩) (by simp; omega)).trans (by simp)) ((hb.cell (p:=⟨w.heap.size+1,0,none⟩) (by simp)).trans (by simp))
 rintro e w1 ⟨rfl,hb⟩
 go_wp2
 go_ret
 exact ⟨by rw [← HA.out]; try simp,((((Below.refl _ _).alloc (Nat.le_refl _) _).alloc (by simp) _).trans (hb.mono (by simp; omega)))⟩
theorem one_ok (n:Int) (w:World) :
  Calls Tryz.prog 216 #[.int .i64 n] w fun r w'=>r = .returned (.agg #[.int .i64 n,.int .i64 n])∧Below w.heap.size w w':=by
 go_enter Tryz.func216,Tryz.ntmps216
 go_wp2
 have hx:=Blk.new w 24 #[.int .i64 n,.int .i64 n]
 have t0:=hx.cell 0
 have t1:=hx.cell 1
 simp at t0 t1
 exact bodyPost_ret (v := .agg #[.int .i64 n,.int .i64 n]) (by simp [results,Tryz.results216,go_sem]) rfl ⟨rfl,(Below.refl _ _).alloc (Nat.le_refl _) _⟩
theorem valid_ok (a b lo hi:Int) (w:World) :
  Calls Tryz.prog 106 #[.agg #[.int .i64 a,.int .i64 b],.int .i64 lo,.int .i64 hi] w fun r w'=>r = .returned (.bool (okR lo hi a b))∧Below w.heap.size w w':=by
 go_enter Tryz.func106,Tryz.ntmps106
 go_wp2
 all_goals (go_ret; exact ⟨by simp [okR, *]; try omega,(Below.refl _ _).alloc (Nat.le_refl _) _⟩)
end Go.Proofs.YtibmeigdjghkcaaGreat.J
namespace Go.Proofs.YtibmeigdjghkcaaGreat.J
open Go.RowKit Go.Shelf
set_option linter.unusedVariables false
def pccell (p:Pc):Nat→Value
 | 0 => .int .i64 p.a.lo
 | 1 => .int .i64 p.a.hi
 | 2 => .int .i64 p.a.pl
 | 3 => .int .i64 p.b.lo
 | 4 => .int .i64 p.b.hi
 | 5 => .int .i64 p.b.pl
 | _ => .bool p.loose
def CylV (w:World) (B:Nat) (v:Value) (c:Cyl):Prop :=
 ∃ pv,v = .agg #[pv,.int .i64 c.off,.int .i64 c.slo,.int .i64 c.shi]∧Arr w B 7 pv c.pcs pccell
theorem CylV.open_ {w:World} {B:Nat} {v:Value} {c:Cyl} (h:CylV w B v c) :
  ∃ pa pc,v = .agg #[.slice pa c.pcs.length pc,.int .i64 c.off,.int .i64 c.slo,.int .i64 c.shi]∧Arr w B 7 (.slice pa c.pcs.length pc) c.pcs pccell:=by
 obtain ⟨pv,rfl,hp⟩:=h
 obtain ⟨pa,pc,rfl, -⟩:=id hp
 exact ⟨pa,pc,rfl,hp⟩
theorem CylV.below {w w':World} {B:Nat} {v:Value} {c:Cyl} (h:CylV w B v c) (hb:Below B w w'):CylV w' B v c:=by
 obtain ⟨pv,h1,h2⟩:=h
 exact ⟨pv,h1,h2.below hb⟩
theorem CylV.more {w:World} {B B':Nat} {v:Value} {c:Cyl} (h:CylV w B v c) (hB:B≤B'):CylV w B' v c:=by
 obtain ⟨pv,h1,h2⟩:=h
 exact ⟨pv,h1,h2.more hB⟩
structure CB (W:World) (B g:Nat) (c:Cyl) (pa:Option Addr) (pc:Nat):Prop where
 blk:Blk W g 26 #[.slice pa c.pcs.length pc,.int .i64 c.off,.int .i64 c.slo,.int .i64 c.shi]
 ps:Arr W B 7 (.slice pa c.pcs.length pc) c.pcs pccell
 le:B≤g
section
variable {w W W':World} {B g:Nat} {c:Cyl} {pa:Option Addr} {pc:Nat}
theorem CB.new (hp:Arr w w.heap.size 7 (.slice pa c.pcs.length pc) c.pcs pccell) :
  CB (w.alloc (.cells #[.slice pa c.pcs.length pc,.int .i64 c.off,.int .i64 c.slo,.int .i64 c.shi] 26)) w.heap.size w.heap.size c pa pc :=
 ⟨Blk.new _ _ _,hp.alloc (Nat.le_refl _) _,Nat.le_refl _⟩
theorem CB.cyl (h:CB W B g c pa pc):CylV W W.heap.size (.agg #[.slice pa c.pcs.length pc,.int .i64 c.off,.int .i64 c.slo,.int .i64 c.shi]) c :=
 ⟨_,rfl,h.ps.more (by have:=h.le; have:=h.blk.lt; omega)⟩
theorem CB.call (h:CB W B g c pa pc) (hb:Below W.heap.size W W'):CB W' B g c pa pc:=by
 have h1:=h.le
 have h2:=h.blk.lt
 exact ⟨h.blk.call hb,h.ps.below (hb.mono (by omega)),h1⟩
theorem CB.belowB {B0:Nat} (h:CB W B g c pa pc) (hb:Below B0 W W') (hg:g < B0):CB W' B g c pa pc:=by
 have h1:=h.le
 exact ⟨h.blk.below hb hg,h.ps.below (hb.mono (by omega)),h1⟩
theorem CB.alloc (h:CB W B g c pa pc) (o:Obj):CB (W.alloc o) B g c pa pc:=h.call ((Below.refl _ _).alloc (Nat.le_refl _) _)
theorem CB.drew (h:CB W B g c pa pc):CB W.drew B g c pa pc:=⟨h.blk,h.ps,h.le⟩
theorem CB.c4 (h:CB W B g c pa pc) :
  W.cell? ⟨g,0,none⟩=some (.slice pa c.pcs.length pc)∧W.cell? ⟨g,1,none⟩=some (.int .i64 c.off)∧W.cell? ⟨g,2,none⟩=some (.int .i64 c.slo)∧W.cell? ⟨g,3,none⟩=some (.int .i64 c.shi):=by
 simp [h.blk.cell]
end
theorem piece_at {w:World} {B n pc:Nat} {pa:Option Addr} {l:List Pc} (h:Arr w B 7 (.slice pa n pc) l pccell) {k:Nat} (hk:k < l.length) :
  ∃ b off p,pa=some ⟨b,off,none⟩∧b < B∧l[k]? = some p ∧
   w.cell? ⟨b,off+k * 7,none⟩=some (.int .i64 p.a.lo)∧w.cell? ⟨b,off+k * 7+1,none⟩=some (.int .i64 p.a.hi)∧w.cell? ⟨b,off+k * 7+2,none⟩=some (.int .i64 p.a.pl) ∧
   w.cell? ⟨b,off+k * 7+3,none⟩=some (.int .i64 p.b.lo)∧w.cell? ⟨b,off+k * 7+4,none⟩=some (.int .i64 p.b.hi)∧w.cell? ⟨b,off+k * 7+5,none⟩=some (.int .i64 p.b.pl) ∧
   w.cell? ⟨b,off+k * 7+6,none⟩=some (.bool p.loose):=by
 obtain ⟨b,off,x,h1,h2,h3,h4⟩:=h.at_ hk
 exact ⟨b,off,x,h1,h2,h3,h4 0 (by omega),h4 1 (by omega),h4 2 (by omega),h4 3 (by omega),h4 4 (by omega),h4 5 (by omega),h4 6 (by omega)⟩
def okE (e:En):Bool:=(okR 0 1000 e.lo e.hi&&decide (0≤e.pl))&&decide (e.pl≤100000)
theorem okP_eq (p:Pc):okP p=(okE p.a&&okE p.b):=by
 unfold okP okE okR
 rw [Bool.eq_iff_iff]
 simp only [Bool.and_eq_true,decide_eq_true_eq]
 omega
end Go.Proofs.YtibmeigdjghkcaaGreat.J
namespace Go.Proofs.YtibmeigdjghkcaaGreat.J
open Go.RowKit
set_option linter.unusedVariables false
section
variable {P:Program} {Q:Exit→Act→World→Prop} {C:World→Prop} {l:List Oper}
theorem ways_start {id:Nat} {a:Act} {W:World} (n:Nat) (C:World→Prop) (hn:l.toArray.size=n) (hm:P.follows .mixedOrders=true) (h:wpAnyH P .any l.toArray (NoP Q) C n (Array.replicate n false) a W.drew):(Code.region id l.toArray true).wp P Q a W:=by
 subst hn
 exact wp_mono (wp_region_held hm h) NoP_imp
theorem ways_q {rest:List Oper} {fuel:Nat} {listed:Array Bool} {a:Act} {w:World} {o:Oper} (i:Nat) (hi:l.drop i=o::rest) (hv:valOnly o=true) (hs:Region.noSelect l.toArray=true) (hf:Region.free .any l.toArray listed i=true) (hr:(Region.ready .any l.toArray listed).contains i=true)
  (hw:Region.wanted o (yielded l.toArray a.tmps)=true) (hC:C w) (h:∀ K:Act→Prop,(∀ a',wpAnyH P .any l.toArray (NoP Q) C fuel (listed.setIfInBounds i true) a' w→K a')→o.quiet P a C K) :
  wpAnyH P .any l.toArray (NoP Q) C (fuel+1) listed a w:=by
 have hi:=getElem?_of_drop hi
 obtain ⟨v,hv',hn⟩:=h _ fun _ h=>h
 exact wpAnyH_take hi hs hf hr (fun c a w hh=>hh.elim) (yieldsIf_of_quiet hv hw hv') hC hn
def Way (P:Program) (l:List Oper) (Q:Exit→Act→World→Prop) (C:World→Prop) (fuel:Nat) (listed:Array Bool) (a:Act) (w:World) (i:Nat):Prop :=
 ∃ o rest,l.drop i=o::rest∧Region.wanted o (yielded l.toArray a.tmps)=true ∧
  ∀ K:Act→World→Prop,(∀ a' w',C w'∧wpAnyH P .any l.toArray (NoP Q) C fuel (listed.setIfInBounds i true) a' w'→K a' w')→wpList P l.toArray (NoP (Exit.then K Q)) [o] a w
theorem Way.op {fuel:Nat} {listed:Array Bool} {a:Act} {w:World} {i:Nat} (h:Way P l Q C fuel listed a w i):wpOp P l.toArray (NoP Q) i (fun a' w'=>C w'∧wpAnyH P .any l.toArray (NoP Q) C fuel (listed.setIfInBounds i true) a' w') a w:=by
 obtain ⟨o,rest,hi,hw,h⟩:=h
 have hi:=getElem?_of_drop hi
 have h1:=h _ fun _ _ h=>h
 simp only [wpList,hw,if_true] at h1
 unfold wpOp
 simp only [hi]
 show if _ then _ else _
 rw [if_pos hw]
 left
 rcases h1 with h1 | ⟨_,a',w',h2⟩
 ·unfold Oper.wp at h1 ⊢
  generalize (execOp a.eval o).run P w=q at *
  cases q with
  | ok x w' =>
    cases x <;> simp only [Oper.upon] at h1 ⊢
    case value v=>exact h1
    case skip=>exact h1
    case defer d=>exact h1
    case enter f args =>
     refine h1.mono fun e w'' hh=>?_
     cases e with
     | returned v=>exact hh
     | panicked ch=>exact hh.elim
     | outgrown=>obtain ⟨a,w,hh⟩:=hh; exact hh.elim
    case row row args=>exact h1
  | halt x w'=>cases x <;> simp only [Oper.upon] at h1 ⊢ <;> first | exact h1 | exact h1.elim
 ·exact h2.elim
theorem ways_1 {fuel:Nat} {listed:Array Bool} {a:Act} {w:World} (i:Nat) (hr:(Region.ready .any l.toArray listed==[i])=true) (h:Way P l Q C fuel listed a w i):wpAnyH P .any l.toArray (NoP Q) C (fuel+1) listed a w:=by
 refine wpAnyH_all (by simpa using hr) (by simp) fun j hj=>?_
 obtain rfl:j=i:=by simpa using hj
 exact h.op
theorem ways_2 {fuel:Nat} {listed:Array Bool} {a:Act} {w:World} (i j:Nat) (hr:(Region.ready .any l.toArray listed==[i,j])=true) (h1:Way P l Q C fuel listed a w i) (h2:Way P l Q C fuel listed a w j):wpAnyH P .any l.toArray (NoP Q) C (fuel+1) listed a w:=by
 refine wpAnyH_all (by simpa using hr) (by simp) fun k hk=>?_
 have:k=i∨k=j:=by simpa using hk
 rcases this with rfl | rfl
 ·exact h1.op
 ·exact h2.op
theorem ways_end {fuel:Nat} {listed:Array Bool} {a:Act} {w:World} (hr:(Region.ready .any l.toArray listed).isEmpty=true) (h:Q .normal a w):wpAnyH P .any l.toArray (NoP Q) C fuel listed a w :=
 wpAnyH_done (by simpa using hr) (show NoP Q .normal a w from h) fuel
end
theorem schedH_s2 {P:Program} {Q:Exit→Act→World→Prop} {C:World→Prop} {l rest:List Oper} {i:Nat} {b:Bool} {r:List (Nat×Bool)} {a:Act} {w:World} {d:Option Tmp} {op:Op} {ty:TypeId} {pos:String} {af:Array Edge} {gd:Option (Nat×Bool)}
  (hi:l.drop i=Oper.mk d op ty pos af gd::rest) (hw:Region.wanted (Oper.mk d op ty pos af gd) (yielded l.toArray a.tmps)=false) (hC:C w)
  (h:∀ K:Act→Prop,(∀ a',wpSchedH P l.toArray C Q r a' w→K a')→(Oper.mk d (.move (.const undef)) ty pos af none).quiet P a C K):wpSchedH P l.toArray C Q ((i,b)::r) a w:=by
 obtain ⟨v,h1,h2⟩:=h _ fun _ h=>h
 have h3:=h1 w hC
 have hr:(execOp a.eval (Oper.mk d (.move (.const undef)) ty pos af none)).run P w = .ok (.value undef) w:=rfl
 unfold Oper.quietAt at h3
 rw [hr] at h3
 simp only [Oper.quietUpon] at h3
 refine schedH_s hi hw ?_
 have hv:v=undef:=by
  first
  | exact h3.1.symm
  | exact h3.1
  | exact h3.2.symm
  | exact h3.2
 rw [hv] at h2
 exact h2
end Go.Proofs.YtibmeigdjghkcaaGreat.J
namespace Go.Proofs.YtibmeigdjghkcaaGreat.J
open Go.RowKit Go.Shelf
set_option linter.unusedVariables false
theorem _root_.Go.Proofs.YtibmeigdjghkcaaGreat.Blk.put3 {w:World} {g:Nat} {t:TypeId} {x0 x1 x2:Value} (h:Blk w g t #[x0,x1,x2]) (a b c:Value) :
  Blk (((w.setCell ⟨g,0,none⟩ a).setCell ⟨g,1,none⟩ b).setCell ⟨g,2,none⟩ c) g t #[a,b,c]:=by
 have:=((h.set_ 0 a).set_ 1 b).set_ 2 c
 simpa using this
theorem _root_.Go.Proofs.YtibmeigdjghkcaaGreat.Blk.far3 {w:World} {g g':Nat} {t:TypeId} {cs:Array Value} (h:Blk w g' t cs) (hne:g'≠g) (a b c:Value) :
  Blk (((w.setCell ⟨g,0,none⟩ a).setCell ⟨g,1,none⟩ b).setCell ⟨g,2,none⟩ c) g' t cs:=((h.far hne a).far hne b).far hne c
theorem below_put3 {B:Nat} {v w:World} {g:Nat} (h:Below B v w) (hB:B≤g) (a b c:Value) :
  Below B v (((w.setCell ⟨g,0,none⟩ a).setCell ⟨g,1,none⟩ b).setCell ⟨g,2,none⟩ c) :=
 ((h.setCell (p:=⟨g,0,none⟩) hB a).setCell (p:=⟨g,1,none⟩) hB b).setCell (p:=⟨g,2,none⟩) hB c
theorem _root_.Go.Proofs.YtibmeigdjghkcaaGreat.Arr.rg1 {w:World} {g:Nat} {r:Rg} (h:Blk w g 24 #[.int .i64 r.lo,.int .i64 r.hi]):Arr w w.heap.size 2 (.slice (some ⟨g,0,none⟩) 1 1) [r] rcell :=
 Arr.lit h h.lt rfl (by simp) (by omega) rfl
theorem _root_.Go.Proofs.YtibmeigdjghkcaaGreat.Arr.rg2 {w:World} {g:Nat} {r s:Rg} (h:Blk w g 24 #[.int .i64 r.lo,.int .i64 r.hi,.int .i64 s.lo,.int .i64 s.hi]):Arr w w.heap.size 2 (.slice (some ⟨g,0,none⟩) 2 2) [r,s] rcell :=
 Arr.lit h h.lt rfl (by simp) (by omega) rfl
set_option maxRecDepth 100000 in
set_option maxHeartbeats 1600000 in
theorem checkCyl_ok (v:Value) (c:Cyl) (w:World) (hv:CylV w w.heap.size v c) :
  Calls Tryz.prog 124 #[v] w fun r w'=>r = .returned (.int .i64 (checkCyl c))∧Below w.heap.size w w':=by
 obtain ⟨pa,pc,rfl,hp⟩:=hv.open_
 have hC:=CB.new hp
 have hB:=(Below.refl w.heap.size w).alloc (Nat.le_refl _) (.cells #[.slice pa c.pcs.length pc,.int .i64 c.off,.int .i64 c.slo,.int .i64 c.shi] 26)
 go_enter Tryz.func124,Tryz.ntmps124
 go_upto_region 1 with (fail)
 have HWS:Hid ((w.alloc (.cells #[.slice pa c.pcs.length pc,.int .i64 c.off,.int .i64 c.slo,.int .i64 c.shi] 26)).heap.size=w.heap.size+1):=by simp [Hid]
 generalize hW:w.alloc (.cells #[.slice pa c.pcs.length pc,.int .i64 c.off,.int .i64 c.slo,.int .i64 c.shi] 26)=W at *
 clear hW hp
 obtain ⟨k0,k1,k2,k3⟩:=hC.c4
 by_cases h1:c.pcs.length=0
 ·have d1:((c.pcs.length:Int)==0)=true:=by simpa using h1
  have HE:Hid (checkCyl c=6):=by unfold checkCyl; rw [if_pos (by omega)]; exact rfl
  go_wp2
  go_ret
  exact ⟨by rw [HE.out]; rfl,hB⟩
 ·have d1':((c.pcs.length:Int)==0)=false:=by simpa using h1
  by_cases h2:8 < c.pcs.length
  ·have d2':decide ((8:Int) < (c.pcs.length:Int))=true:=by simp; omega
   have HE:Hid (checkCyl c=6):=by unfold checkCyl; rw [if_neg (by omega),if_pos h2]; exact rfl
   go_wp2
   go_ret
   exact ⟨by rw [HE.out]; rfl,hB⟩
  ·have d2':decide ((8:Int) < (c.pcs.length:Int))=false:=by simp; omega
   have HE:Hid (checkCyl c=if ((okR 0 1000 c.off c.off&&okR (-100000) 100000 c.slo c.shi)&&c.pcs.all okP)=false then 2 else 0):=by unfold checkCyl; rw [if_neg (by omega),if_neg h2]; exact rfl
   have hn8:c.pcs.length≤8:=by omega
   obtain ⟨A0,hA0⟩:∃ A0,A0=(okR 0 1000 c.off c.off&&okR (-100000) 100000 c.slo c.shi):=⟨_,rfl⟩
   rw [← hA0] at HE
   have HA0:=Lib.hid hA0
   clear hA0
   go_upto_region 4 with (fail)
   go_cut [4] from 68 (fun g wx=>g = .bool A0∧Below W.heap.size W wx)
   case first =>
    go_wp2_with fail
    refine (one_ok c.off _).mono ?_
    rintro e w1 ⟨rfl,hb1⟩
    have hbA:=(Below.refl w1.heap.size w1).alloc (Nat.le_refl _) (.cells #[.int .i64 c.off,.int .i64 c.off] 24)
    have hxs:=Blk.new w1 24 #[.int .i64 c.off,.int .i64 c.off]
    have hx1:=hb1.trans (hbA.mono hb1.size)
    clear hbA
    go_wp2_with fail
    refine (within_ok 0 1000 _ [⟨c.off,c.off⟩] _ (Arr.rg1 (r:=⟨c.off,c.off⟩) hxs)).mono ?_
    rintro e w2 ⟨rfl,hb2⟩
    have hx2:=hx1.trans (hb2.mono hx1.size)
    have hC2:=hC.call hx2
    have e1:([(⟨c.off,c.off⟩:Rg)].all fun x=>okR 0 1000 x.lo x.hi)=okR 0 1000 c.off c.off:=by simp
    rw [e1]
    clear k0 k1 k2 k3 hb1 hxs hx1 hb2 e1
    obtain ⟨k0,k1,k2,k3⟩:=hC2.c4
    cases hv1:okR 0 1000 c.off c.off
    ·have HQ:Hid (A0=false):=by rw [Hid,HA0.out,hv1]; rfl
     go_wp2_with fail
     go_meet
     case rel=>exact ⟨by rw [HQ.out],hx2⟩
    ·have HQ:Hid (A0=okR (-100000) 100000 c.slo c.shi):=by rw [Hid,HA0.out,hv1]; rfl
     go_wp2_with fail
     have hbA:=(Below.refl w2.heap.size w2).alloc (Nat.le_refl _) (.cells #[.int .i64 c.slo,.int .i64 c.shi] 24)
     have hxs:=Blk.new w2 24 #[.int .i64 c.slo,.int .i64 c.shi]
     have hx3:=hx2.trans (hbA.mono hx2.size)
     clear hbA
     refine (within_ok (-100000) 100000 _ [⟨c.slo,c.shi⟩] _ (Arr.rg1 (r:=⟨c.slo,c.shi⟩) hxs)).mono ?_
     rintro e w3 ⟨rfl,hb3⟩
     have hx4:=hx3.trans (hb3.mono hx3.size)
     have e1:([(⟨c.slo,c.shi⟩:Rg)].all fun x=>okR (-100000) 100000 x.lo x.hi)=okR (-100000) 100000 c.slo c.shi:=by simp
     rw [e1,← HQ.out]
     clear e1
     go_wp2_with fail
     go_meet
     case rel=>exact ⟨rfl,hx4⟩
   case rest =>
    obtain ⟨rfl,hb1⟩:=hcut
    obtain ⟨wd,hwd⟩:∃ wd:World,wd=wc:=⟨_,rfl⟩
    rw [← hwd] at hb1 ⊢
    clear hwd wc
    replace hC:=hC.call hb1
    replace hB:=hB.trans (hb1.mono hB.size)
    clear k0 k1 k2 k3 hb1
    obtain ⟨k0,k1,k2,k3⟩:=hC.c4
    go_wp2_with fail
    go_loopw [4,34] (fun g i wr=>∃ n:Nat,n≤c.pcs.length∧i = .int .i64 n∧g = .bool (A0&&(c.pcs.take n).all okP)∧Below wd.heap.size wd wr) (fun _ i _=>c.pcs.length-(intOf i).toNat)
    case atStart=>exact ⟨0,Nat.zero_le _,rfl,by simp,Below.refl _ _⟩
    case round =>
     obtain ⟨n,hn,rfl,rfl,hb⟩:=hrel
     have hCr:=hC.call hb
     clear k0 k1 k2 k3
     obtain ⟨k0,k1,k2,k3⟩:=hCr.c4
     by_cases hn1:n < c.pcs.length
     ·have d3:decide (n < c.pcs.length)=true:=by simpa using hn1
      have d3':decide ((n:Int) < (c.pcs.length:Int))=true:=by simp; omega
      obtain ⟨b,off,p,hpa,hpb,hp1,c0,c1,c2,c3,c4,c5,c6⟩:=piece_at hCr.ps hn1
      subst hpa
      have HTK:Hid ((A0&&(c.pcs.take (n+1)).all okP)=((A0&&(c.pcs.take n).all okP)&&okP p)):=by
       rw [Hid,List.take_add_one,hp1]
       simp [List.all_append,Bool.and_assoc]
      obtain ⟨G,hG⟩:∃ G,G=(A0&&(c.pcs.take n).all okP):=⟨_,rfl⟩
      rw [← hG] at HTK ⊢
      clear hG hp1
      go_upto_region 8 with (fail)
      have hbA:=(Below.refl wr.heap.size wr).alloc (Nat.le_refl _) (.cells #[.int .i64 p.a.lo,.int .i64 p.a.hi,.int .i64 p.a.pl,.int .i64 p.b.lo,.int .i64 p.b.hi,.int .i64 p.b.pl,.bool p.loose] 196)
      have hxs:=Blk.new wr 196 #[.int .i64 p.a.lo,.int .i64 p.a.hi,.int .i64 p.a.pl,.int .i64 p.b.lo,.int .i64 p.b.hi,.int .i64 p.b.pl,.bool p.loose]
      have hbv:=hb.trans (hbA.mono hb.size)
      clear c0 c1 c2 c3 c4 c5 c6 k0 k1 k2 k3 hbA hCr
      generalize wr.alloc (.cells #[.int .i64 p.a.lo,.int .i64 p.a.hi,.int .i64 p.a.pl,.int .i64 p.b.lo,.int .i64 p.b.hi,.int .i64 p.b.pl,.bool p.loose] 196)=wv at *
      generalize wr.heap.size=pb at *
      have s0:=hxs.cell 0
      have s1:=hxs.cell 1
      have s2:=hxs.cell 2
      have s3:=hxs.cell 3
      have s4:=hxs.cell 4
      have s5:=hxs.cell 5
      simp at s0 s1 s2 s3 s4 s5
      go_cut [7,8] from 68 (fun x y wx=>∃ ga gb,x = .pointer (some ⟨ga,0,none⟩)∧y = .pointer (some ⟨gb,0,none⟩)∧Blk wx ga 193 #[.int .i64 p.a.lo,.int .i64 p.a.hi,.int .i64 p.a.pl]∧Blk wx gb 193 #[.int .i64 p.b.lo,.int .i64 p.b.hi,.int .i64 p.b.pl]∧Below wv.heap.size wv wx)
      case first =>
       have f0:=Ext.of s0
       have f1:=Ext.of s1
       have f2:=Ext.of s2
       have f3:=Ext.of s3
       have f4:=Ext.of s4
       have f5:=Ext.of s5
       clear s0 s1 s2 s3 s4 s5
       refine ways_start 10 (fun w'=>∃ x:Ext wv,w'=x.w) (by rfl) (by kernel_rfl) ?_
       have hxd:Below wv.heap.size wv wv.drew:=(Below.refl wv.heap.size wv).drew
       generalize wv.drew=w0 at *
       refine ways_q 0 (by rfl) (by rfl) (by kernel_rfl) (by kernel_rfl) (by kernel_rfl) (by rfl) ⟨⟨w0,hxd⟩,rfl⟩ ?_
       intro K hK
       go_big_quiet_op
       go_big_quiet_on
       refine ways_q 1 (by rfl) (by rfl) (by kernel_rfl) (by kernel_rfl) (by kernel_rfl) (by rfl) ⟨⟨w0,hxd⟩,rfl⟩ ?_
       intro K hK
       go_big_quiet_op
       go_big_quiet_on
       refine ways_q 2 (by rfl) (by rfl) (by kernel_rfl) (by kernel_rfl) (by kernel_rfl) (by rfl) ⟨⟨w0,hxd⟩,rfl⟩ ?_
       intro K hK
       go_big_quiet_op
       go_big_quiet_on
       refine ways_q 3 (by rfl) (by rfl) (by kernel_rfl) (by kernel_rfl) (by kernel_rfl) (by rfl) ⟨⟨w0,hxd⟩,rfl⟩ ?_
       intro K hK
       go_big_quiet_op
       go_big_quiet_on
       refine ways_q 4 (by rfl) (by rfl) (by kernel_rfl) (by kernel_rfl) (by kernel_rfl) (by rfl) ⟨⟨w0,hxd⟩,rfl⟩ ?_
       intro K hK
       go_big_quiet_op
       go_big_quiet_on
       refine ways_q 5 (by rfl) (by rfl) (by kernel_rfl) (by kernel_rfl) (by kernel_rfl) (by rfl) ⟨⟨w0,hxd⟩,rfl⟩ ?_
       intro K hK
       go_big_quiet_op
       go_big_quiet_on
       have sz:=hxd.size
       refine ways_2 6 7 (by kernel_rfl) ?_ ?_
       ·refine ⟨_,_,(by rfl),(by rfl),?_⟩
        intro K' hK'
        go_wp2
        have b1:=Blk.new w0 193 #[.int .i64 0,.int .i64 0,.int .i64 0]
        have hbb:=(Below.refl (w0).heap.size w0).alloc (Nat.le_refl _) (.cells #[.int .i64 0,.int .i64 0,.int .i64 0] 193)
        have hx1:=(hxd).trans (hbb.mono (hxd).size)
        have l_b1:=(b1).lt
        skip
        generalize (w0).alloc (.cells #[.int .i64 0,.int .i64 0,.int .i64 0] 193)=w1 at *
        refine hK' _ _ ⟨⟨⟨w1,hx1⟩,rfl⟩,?_⟩
        clear hK' K' hbb
        refine ways_1 7 (by kernel_rfl) ?_
        refine ⟨_,_,(by rfl),(by rfl),?_⟩
        intro K' hK'
        go_wp2
        have b2:=Blk.new w1 193 #[.int .i64 0,.int .i64 0,.int .i64 0]
        have hbb:=(Below.refl (w1).heap.size w1).alloc (Nat.le_refl _) (.cells #[.int .i64 0,.int .i64 0,.int .i64 0] 193)
        have hx2:=(hx1).trans (hbb.mono (hx1).size)
        have l_b2:=(b2).lt
        replace b1:=b1.call hbb
        generalize (w1).alloc (.cells #[.int .i64 0,.int .i64 0,.int .i64 0] 193)=w2 at *
        refine hK' _ _ ⟨⟨⟨w2,hx2⟩,rfl⟩,?_⟩
        clear hK' K' hbb
        refine ways_1 8 (by kernel_rfl) ?_
        have z0:=(b1).cell 0
        have z1:=(b1).cell 1
        have z2:=(b1).cell 2
        simp at z0 z1 z2
        have hfz:=fun i=>(b1).frozen i
        refine ⟨_,_,(by rfl),(by rfl),?_⟩
        intro K' hK'
        go_wp2
        replace b2:=(b2).far3 (g:=w0.heap.size) (by omega) (.int .i64 p.a.lo) (.int .i64 p.a.hi) (.int .i64 p.a.pl)
        replace b1:=(b1).put3 (.int .i64 p.a.lo) (.int .i64 p.a.hi) (.int .i64 p.a.pl)
        have hx3:=below_put3 (g:=w0.heap.size) hx2 (by omega) (.int .i64 p.a.lo) (.int .i64 p.a.hi) (.int .i64 p.a.pl)
        clear z0 z1 z2 hfz
        generalize ((((w2).setCell ⟨w0.heap.size,0,none⟩ (.int .i64 p.a.lo)).setCell ⟨w0.heap.size,1,none⟩ (.int .i64 p.a.hi)).setCell ⟨w0.heap.size,2,none⟩ (.int .i64 p.a.pl))=w3 at *
        refine hK' _ _ ⟨⟨⟨w3,hx3⟩,rfl⟩,?_⟩
        clear hK' K'
        refine ways_1 9 (by kernel_rfl) ?_
        have z0:=(b2).cell 0
        have z1:=(b2).cell 1
        have z2:=(b2).cell 2
        simp at z0 z1 z2
        have hfz:=fun i=>(b2).frozen i
        refine ⟨_,_,(by rfl),(by rfl),?_⟩
        intro K' hK'
        go_wp2
        replace b1:=(b1).far3 (g:=w1.heap.size) (by omega) (.int .i64 p.b.lo) (.int .i64 p.b.hi) (.int .i64 p.b.pl)
        replace b2:=(b2).put3 (.int .i64 p.b.lo) (.int .i64 p.b.hi) (.int .i64 p.b.pl)
        have hx4:=below_put3 (g:=w1.heap.size) hx3 (by omega) (.int .i64 p.b.lo) (.int .i64 p.b.hi) (.int .i64 p.b.pl)
        clear z0 z1 z2 hfz
        generalize ((((w3).setCell ⟨w1.heap.size,0,none⟩ (.int .i64 p.b.lo)).setCell ⟨w1.heap.size,1,none⟩ (.int .i64 p.b.hi)).setCell ⟨w1.heap.size,2,none⟩ (.int .i64 p.b.pl))=w4 at *
        refine hK' _ _ ⟨⟨⟨w4,hx4⟩,rfl⟩,?_⟩
        clear hK' K'
        refine ways_end (by kernel_rfl) ?_
        go_wp2
        go_meet
        case rel=>exact ⟨_,_,rfl,rfl,b1,b2,hx4⟩
       ·refine ⟨_,_,(by rfl),(by rfl),?_⟩
        intro K' hK'
        go_wp2
        have b1:=Blk.new w0 193 #[.int .i64 0,.int .i64 0,.int .i64 0]
        have hbb:=(Below.refl (w0).heap.size w0).alloc (Nat.le_refl _) (.cells #[.int .i64 0,.int .i64 0,.int .i64 0] 193)
        have hx1:=(hxd).trans (hbb.mono (hxd).size)
        have l_b1:=(b1).lt
        skip
        generalize (w0).alloc (.cells #[.int .i64 0,.int .i64 0,.int .i64 0] 193)=w1 at *
        refine hK' _ _ ⟨⟨⟨w1,hx1⟩,rfl⟩,?_⟩
        clear hK' K' hbb
        refine ways_1 6 (by kernel_rfl) ?_
        refine ⟨_,_,(by rfl),(by rfl),?_⟩
        intro K' hK'
        go_wp2
        have b2:=Blk.new w1 193 #[.int .i64 0,.int .i64 0,.int .i64 0]
        have hbb:=(Below.refl (w1).heap.size w1).alloc (Nat.le_refl _) (.cells #[.int .i64 0,.int .i64 0,.int .i64 0] 193)
        have hx2:=(hx1).trans (hbb.mono (hx1).size)
        have l_b2:=(b2).lt
        replace b1:=b1.call hbb
        generalize (w1).alloc (.cells #[.int .i64 0,.int .i64 0,.int .i64 0] 193)=w2 at *
        refine hK' _ _ ⟨⟨⟨w2,hx2⟩,rfl⟩,?_⟩
        clear hK' K' hbb
        refine ways_1 8 (by kernel_rfl) ?_
        have z0:=(b2).cell 0
        have z1:=(b2).cell 1
        have z2:=(b2).cell 2
        simp at z0 z1 z2
        have hfz:=fun i=>(b2).frozen i
        refine ⟨_,_,(by rfl),(by rfl),?_⟩
        intro K' hK'
        go_wp2
        replace b1:=(b1).far3 (g:=w1.heap.size) (by omega) (.int .i64 p.a.lo) (.int .i64 p.a.hi) (.int .i64 p.a.pl)
        replace b2:=(b2).put3 (.int .i64 p.a.lo) (.int .i64 p.a.hi) (.int .i64 p.a.pl)
        have hx3:=below_put3 (g:=w1.heap.size) hx2 (by omega) (.int .i64 p.a.lo) (.int .i64 p.a.hi) (.int .i64 p.a.pl)
        clear z0 z1 z2 hfz
        generalize ((((w2).setCell ⟨w1.heap.size,0,none⟩ (.int .i64 p.a.lo)).setCell ⟨w1.heap.size,1,none⟩ (.int .i64 p.a.hi)).setCell ⟨w1.heap.size,2,none⟩ (.int .i64 p.a.pl))=w3 at *
        refine hK' _ _ ⟨⟨⟨w3,hx3⟩,rfl⟩,?_⟩
        clear hK' K'
        refine ways_1 9 (by kernel_rfl) ?_
        have z0:=(b1).cell 0
        have z1:=(b1).cell 1
        have z2:=(b1).cell 2
        simp at z0 z1 z2
        have hfz:=fun i=>(b1).frozen i
        refine ⟨_,_,(by rfl),(by rfl),?_⟩
        intro K' hK'
        go_wp2
        replace b2:=(b2).far3 (g:=w0.heap.size) (by omega) (.int .i64 p.b.lo) (.int .i64 p.b.hi) (.int .i64 p.b.pl)
        replace b1:=(b1).put3 (.int .i64 p.b.lo) (.int .i64 p.b.hi) (.int .i64 p.b.pl)
        have hx4:=below_put3 (g:=w0.heap.size) hx3 (by omega) (.int .i64 p.b.lo) (.int .i64 p.b.hi) (.int .i64 p.b.pl)
        clear z0 z1 z2 hfz
        generalize ((((w3).setCell ⟨w0.heap.size,0,none⟩ (.int .i64 p.b.lo)).setCell ⟨w0.heap.size,1,none⟩ (.int .i64 p.b.hi)).setCell ⟨w0.heap.size,2,none⟩ (.int .i64 p.b.pl))=w4 at *
        refine hK' _ _ ⟨⟨⟨w4,hx4⟩,rfl⟩,?_⟩
        clear hK' K'
        refine ways_end (by kernel_rfl) ?_
        go_wp2
        go_meet
        case rel=>exact ⟨_,_,rfl,rfl,b2,b1,hx4⟩
      case rest =>
       obtain ⟨ga,gb,rfl,rfl,B1,B2,hbc⟩:=hcut
       have hbx:=hbv.trans (hbc.mono hbv.size)
       clear s0 s1 s2 s3 s4 s5 hxs hbv
       have a0:=B1.cell 0
       have a1:=B1.cell 1
       have a2:=B1.cell 2
       have b0:=B2.cell 0
       have b1:=B2.cell 1
       have b2:=B2.cell 2
       simp at a0 a1 a2 b0 b1 b2
       go_upto_region 9 with (fail)
       have f0:=Ext.of a0
       have f1:=Ext.of a1
       have f2:=Ext.of a2
       have f3:=Ext.of b0
       have f4:=Ext.of b1
       have f5:=Ext.of b2
       clear a0 a1 a2 b0 b1 b2 B1 B2 hbc
       have hxd:Below wc.heap.size wc wc.drew:=(Below.refl wc.heap.size wc).drew
       cases G
       ·have HR:Hid ((A0&&(c.pcs.take (n+1)).all okP)=false):=by rw [Hid,HTK.out]; rfl
        refine wp_region_ext (by kernel_rfl) (by kernel_rfl) ?_
        repeat (go_big_quiet_step (fail))
        refine wpQuiet_nil ?_
        intro _ hw'
        obtain ⟨xr,hw''⟩:=hw'
        subst hw''
        have hbe:=hbx.trans (xr.h.mono hbx.size)
        go_wp2
        go_roundw
        case rel =>
         first
         | exact ⟨n+1,by omega,by go_num,by rw [HR.out],hbe⟩
         | ((repeat apply Exists.intro); exact ⟨⟨n+1,by omega,by go_num,by rw [HR.out],hbe⟩,rfl⟩)
        case measure=>(simp [intOf]; try omega)
       ·cases hv1:(okR 0 1000 p.a.lo p.a.hi&&okR 0 1000 p.b.lo p.b.hi)
        ·have HR:Hid ((A0&&(c.pcs.take (n+1)).all okP)=false):=by rw [Hid,HTK.out,okP,hv1]; rfl
         refine wp_region_schedH (C:=fun w'=>∃ x:Ext wc,w'=x.w) [(0,true),(1,true),(2,true),(3,true),(4,true),(5,true),(6,false),(7,false),(8,true),(9,true),(10,true),(11,true),(12,true),(14,true),(15,true),(16,true),(13,false),(17,false),(18,false),(19,false),(20,true),(21,true)] (by kernel_rfl) (by kernel_rfl) ⟨⟨wc.drew,(Below.refl _ wc).drew⟩,rfl⟩ ?_
         generalize wc.drew=v0 at *
         refine schedH_q (by rfl) (by rfl) ?_
         intro K hK
         go_big_quiet_op
         go_big_quiet_on
         refine schedH_q (by rfl) (by rfl) ?_
         intro K hK
         go_big_quiet_op
         go_big_quiet_on
         refine schedH_q (by rfl) (by rfl) ?_
         intro K hK
         go_big_quiet_op
         go_big_quiet_on
         refine schedH_q (by rfl) (by rfl) ?_
         intro K hK
         go_big_quiet_op
         go_big_quiet_on
         refine schedH_q (by rfl) (by rfl) ?_
         intro K hK
         go_big_quiet_op
         go_big_quiet_on
         refine schedH_q (by rfl) (by rfl) ?_
         intro K hK
         go_big_quiet_op
         go_big_quiet_on
         refine schedH_c (by rfl) (by rfl) ?_
         intro K' hK'
         go_wp2
         have hz1:Below wc.heap.size wc (v0.alloc (.cells #[.int .i64 p.a.lo,.int .i64 p.a.hi,.int .i64 p.b.lo,.int .i64 p.b.hi] 24)):=hxd.alloc hxd.size _
         have hs1:=Blk.new v0 24 #[.int .i64 p.a.lo,.int .i64 p.a.hi,.int .i64 p.b.lo,.int .i64 p.b.hi]
         generalize v0.alloc (.cells #[.int .i64 p.a.lo,.int .i64 p.a.hi,.int .i64 p.b.lo,.int .i64 p.b.hi] 24)=v1 at *
         refine hK' _ _ ⟨⟨⟨v1,hz1⟩,rfl⟩,?_⟩
         clear hK' K'
         refine schedH_c (by rfl) (by rfl) ?_
         intro K' hK'
         go_wp2_with fail
         refine (within_ok 0 1000 _ [⟨p.a.lo,p.a.hi⟩,⟨p.b.lo,p.b.hi⟩] _ (Arr.rg2 (r:=⟨p.a.lo,p.a.hi⟩) (s:=⟨p.b.lo,p.b.hi⟩) hs1)).mono ?_
         rintro e v2 ⟨rfl,hbv2⟩
         have hz2:=hz1.trans (hbv2.mono hz1.size)
         rw [show ([(⟨p.a.lo,p.a.hi⟩:Rg),⟨p.b.lo,p.b.hi⟩].all fun x=>okR 0 1000 x.lo x.hi)=(okR 0 1000 p.a.lo p.a.hi&&okR 0 1000 p.b.lo p.b.hi) from by simp,hv1]
         go_wp2
         refine hK' _ _ ⟨⟨⟨v2,hz2⟩,rfl⟩,?_⟩
         clear hK' K' hs1 hbv2
         refine schedH_q (by rfl) (by rfl) ?_
         intro K hK
         go_big_quiet_op
         go_big_quiet_on
         refine schedH_q (by rfl) (by rfl) ?_
         intro K hK
         go_big_quiet_op
         go_big_quiet_on
         refine schedH_s2 (by rfl) (by rfl) ⟨⟨v2,hz2⟩,rfl⟩ ?_
         intro K hK
         go_big_quiet_op
         go_big_quiet_on
         refine schedH_s2 (by rfl) (by rfl) ⟨⟨v2,hz2⟩,rfl⟩ ?_
         intro K hK
         go_big_quiet_op
         go_big_quiet_on
         refine schedH_s2 (by rfl) (by rfl) ⟨⟨v2,hz2⟩,rfl⟩ ?_
         intro K hK
         go_big_quiet_op
         go_big_quiet_on
         refine schedH_s2 (by rfl) (by rfl) ⟨⟨v2,hz2⟩,rfl⟩ ?_
         intro K hK
         go_big_quiet_op
         go_big_quiet_on
         refine schedH_s2 (by rfl) (by rfl) ⟨⟨v2,hz2⟩,rfl⟩ ?_
         intro K hK
         go_big_quiet_op
         go_big_quiet_on
         refine schedH_s2 (by rfl) (by rfl) ⟨⟨v2,hz2⟩,rfl⟩ ?_
         intro K hK
         go_big_quiet_op
         go_big_quiet_on
         refine schedH_s2 (by rfl) (by rfl) ⟨⟨v2,hz2⟩,rfl⟩ ?_
         intro K hK
         go_big_quiet_op
         go_big_quiet_on
         refine schedH_s2 (by rfl) (by rfl) ⟨⟨v2,hz2⟩,rfl⟩ ?_
         intro K hK
         go_big_quiet_op
         go_big_quiet_on
         refine schedH_s2 (by rfl) (by rfl) ⟨⟨v2,hz2⟩,rfl⟩ ?_
         intro K hK
         go_big_quiet_op
         go_big_quiet_on
         refine schedH_s2 (by rfl) (by rfl) ⟨⟨v2,hz2⟩,rfl⟩ ?_
         intro K hK
         go_big_quiet_op
         go_big_quiet_on
         refine schedH_q (by rfl) (by rfl) ?_
         intro K hK
         go_big_quiet_op
         go_big_quiet_on
         refine schedH_q (by rfl) (by rfl) ?_
         intro K hK
         go_big_quiet_op
         go_big_quiet_on
         refine schedH_nil ?_
         have hbe:=hbx.trans (hz2.mono hbx.size)
         go_wp2
         go_roundw
         case rel =>
          first
          | exact ⟨n+1,by omega,by go_num,by rw [HR.out],hbe⟩
          | ((repeat apply Exists.intro); exact ⟨⟨n+1,by omega,by go_num,by rw [HR.out],hbe⟩,rfl⟩)
         case measure=>(simp [intOf]; try omega)
        ·have HR:Hid ((A0&&(c.pcs.take (n+1)).all okP)=(okR 0 100000 p.a.pl p.a.pl&&okR 0 100000 p.b.pl p.b.pl)):=by rw [Hid,HTK.out,okP,hv1]; simp
         refine wp_region_schedH (C:=fun w'=>∃ x:Ext wc,w'=x.w) [(0,true),(1,true),(2,true),(3,true),(4,true),(5,true),(6,false),(7,false),(8,true),(9,true),(10,true),(11,true),(12,true),(14,true),(15,true),(16,true),(13,false),(17,false),(18,false),(19,false),(20,true),(21,true)] (by kernel_rfl) (by kernel_rfl) ⟨⟨wc.drew,(Below.refl _ wc).drew⟩,rfl⟩ ?_
         generalize wc.drew=v0 at *
         refine schedH_q (by rfl) (by rfl) ?_
         intro K hK
         go_big_quiet_op
         go_big_quiet_on
         refine schedH_q (by rfl) (by rfl) ?_
         intro K hK
         go_big_quiet_op
         go_big_quiet_on
         refine schedH_q (by rfl) (by rfl) ?_
         intro K hK
         go_big_quiet_op
         go_big_quiet_on
         refine schedH_q (by rfl) (by rfl) ?_
         intro K hK
         go_big_quiet_op
         go_big_quiet_on
         refine schedH_q (by rfl) (by rfl) ?_
         intro K hK
         go_big_quiet_op
         go_big_quiet_on
         refine schedH_q (by rfl) (by rfl) ?_
         intro K hK
         go_big_quiet_op
         go_big_quiet_on
         refine schedH_c (by rfl) (by rfl) ?_
         intro K' hK'
         go_wp2
         have hz1:Below wc.heap.size wc (v0.alloc (.cells #[.int .i64 p.a.lo,.int .i64 p.a.hi,.int .i64 p.b.lo,.int .i64 p.b.hi] 24)):=hxd.alloc hxd.size _
         have hs1:=Blk.new v0 24 #[.int .i64 p.a.lo,.int .i64 p.a.hi,.int .i64 p.b.lo,.int .i64 p.b.hi]
         generalize v0.alloc (.cells #[.int .i64 p.a.lo,.int .i64 p.a.hi,.int .i64 p.b.lo,.int .i64 p.b.hi] 24)=v1 at *
         refine hK' _ _ ⟨⟨⟨v1,hz1⟩,rfl⟩,?_⟩
         clear hK' K'
         refine schedH_c (by rfl) (by rfl) ?_
         intro K' hK'
         go_wp2_with fail
         refine (within_ok 0 1000 _ [⟨p.a.lo,p.a.hi⟩,⟨p.b.lo,p.b.hi⟩] _ (Arr.rg2 (r:=⟨p.a.lo,p.a.hi⟩) (s:=⟨p.b.lo,p.b.hi⟩) hs1)).mono ?_
         rintro e v2 ⟨rfl,hbv2⟩
         have hz2:=hz1.trans (hbv2.mono hz1.size)
         rw [show ([(⟨p.a.lo,p.a.hi⟩:Rg),⟨p.b.lo,p.b.hi⟩].all fun x=>okR 0 1000 x.lo x.hi)=(okR 0 1000 p.a.lo p.a.hi&&okR 0 1000 p.b.lo p.b.hi) from by simp,hv1]
         go_wp2
         refine hK' _ _ ⟨⟨⟨v2,hz2⟩,rfl⟩,?_⟩
         clear hK' K' hs1 hbv2
         refine schedH_q (by rfl) (by rfl) ?_
         intro K hK
         go_big_quiet_op
         go_big_quiet_on
         refine schedH_q (by rfl) (by rfl) ?_
         intro K hK
         go_big_quiet_op
         go_big_quiet_on
         refine schedH_q (by rfl) (by rfl) ?_
         intro K hK
         go_big_quiet_op
         go_big_quiet_on
         refine schedH_q (by rfl) (by rfl) ?_
         intro K hK
         go_big_quiet_op
         go_big_quiet_on
         refine schedH_q (by rfl) (by rfl) ?_
         intro K hK
         go_big_quiet_op
         go_big_quiet_on
         refine schedH_q (by rfl) (by rfl) ?_
         intro K hK
         go_big_quiet_op
         go_big_quiet_on
         refine schedH_q (by rfl) (by rfl) ?_
         intro K hK
         go_big_quiet_op
         go_big_quiet_on
         refine schedH_q (by rfl) (by rfl) ?_
         intro K hK
         go_big_quiet_op
         go_big_quiet_on
         refine schedH_c (by rfl) (by rfl) ?_
         intro K' hK'
         go_wp2_with fail
         refine (one_ok p.a.pl _).mono ?_
         rintro e v3 ⟨rfl,hbo⟩
         have hz3:=hz2.trans (hbo.mono hz2.size)
         go_wp2
         refine hK' _ _ ⟨⟨⟨v3,hz3⟩,rfl⟩,?_⟩
         clear hK' K' hbo
         refine schedH_c (by rfl) (by rfl) ?_
         intro K' hK'
         go_wp2_with fail
         refine (one_ok p.b.pl _).mono ?_
         rintro e v4 ⟨rfl,hbo⟩
         have hz4:=hz3.trans (hbo.mono hz3.size)
         go_wp2
         refine hK' _ _ ⟨⟨⟨v4,hz4⟩,rfl⟩,?_⟩
         clear hK' K' hbo
         refine schedH_c (by rfl) (by rfl) ?_
         intro K' hK'
         go_wp2
         have hz5:Below wc.heap.size wc (v4.alloc (.cells #[.int .i64 p.a.pl,.int .i64 p.a.pl,.int .i64 p.b.pl,.int .i64 p.b.pl] 24)):=hz4.alloc hz4.size _
         have hs1:=Blk.new v4 24 #[.int .i64 p.a.pl,.int .i64 p.a.pl,.int .i64 p.b.pl,.int .i64 p.b.pl]
         generalize v4.alloc (.cells #[.int .i64 p.a.pl,.int .i64 p.a.pl,.int .i64 p.b.pl,.int .i64 p.b.pl] 24)=v5 at *
         refine hK' _ _ ⟨⟨⟨v5,hz5⟩,rfl⟩,?_⟩
         clear hK' K'
         refine schedH_c (by rfl) (by rfl) ?_
         intro K' hK'
         go_wp2_with fail
         refine (within_ok 0 100000 _ [⟨p.a.pl,p.a.pl⟩,⟨p.b.pl,p.b.pl⟩] _ (Arr.rg2 (r:=⟨p.a.pl,p.a.pl⟩) (s:=⟨p.b.pl,p.b.pl⟩) hs1)).mono ?_
         rintro e v6 ⟨rfl,hbv6⟩
         have hz6:=hz5.trans (hbv6.mono hz5.size)
         rw [show ([(⟨p.a.pl,p.a.pl⟩:Rg),⟨p.b.pl,p.b.pl⟩].all fun x=>okR 0 100000 x.lo x.hi)=(okR 0 100000 p.a.pl p.a.pl&&okR 0 100000 p.b.pl p.b.pl) from by simp]
         go_wp2
         refine hK' _ _ ⟨⟨⟨v6,hz6⟩,rfl⟩,?_⟩
         clear hK' K' hs1 hbv6
         refine schedH_q (by rfl) (by rfl) ?_
         intro K hK
         go_big_quiet_op
         go_big_quiet_on
         refine schedH_q (by rfl) (by rfl) ?_
         intro K hK
         go_big_quiet_op
         go_big_quiet_on
         refine schedH_nil ?_
         have hbe:=hbx.trans (hz6.mono hbx.size)
         go_wp2
         go_roundw
         case rel =>
          first
          | exact ⟨n+1,by omega,by go_num,by rw [HR.out],hbe⟩
          | ((repeat apply Exists.intro); exact ⟨⟨n+1,by omega,by go_num,by rw [HR.out],hbe⟩,rfl⟩)
         case measure=>(simp [intOf]; try omega)
     ·obtain rfl:n=c.pcs.length:=by omega
      have d3:decide (c.pcs.length < c.pcs.length)=false:=by simp
      rw [List.take_length]
      have HF:Hid (checkCyl c=if (A0&&c.pcs.all okP)=false then 2 else 0):=HE.out
      have hBr:=hB.trans (hb.mono hB.size)
      cases hg:(A0&&c.pcs.all okP)
      ·have HZ:Hid (checkCyl c=2):=by rw [Hid,HF.out,if_pos hg]
       go_wp2
       go_ret
       exact ⟨by rw [HZ.out]; rfl,hBr⟩
      ·have HZ:Hid (checkCyl c=0):=by rw [Hid,HF.out,if_neg (by rw [hg]; simp)]
       go_wp2
       go_ret
       exact ⟨by rw [HZ.out]; rfl,hBr⟩
end Go.Proofs.YtibmeigdjghkcaaGreat.J
