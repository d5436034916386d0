/- Contracts of the table: all, come. Contracts of the table: states, and the iterator that it returns. Loops whose rounds hold a range over a function: each one leaves a mark among the deferred calls. Contract of the table: newTable. Contracts of the table: first, index, open. Contract: open; Fits. -/
import Derived.Test.YtibmeigdjghkcaaGreatLeft
import Derived.Deep.LoopGhost
import Derived.Test.YtibmeigdjghkcaaGreatRf2
namespace Go.Proofs.YtibmeigdjghkcaaGreat.J
open Go.RowKit Go.Shelf
set_option linter.unusedVariables false
theorem left_any (x:TX) (c:Cyl) (u:Nat) (o:Option Nat) (w:World) (hT:TB w x c) (hu:u < 2 ^ c.pcs.length) (ho:∀ i,o=some i→i < (stepsOf c).length) :
  Calls Tryz.prog 129 #[.pointer (some ⟨x.g,0,none⟩),stateV u (lastI o)] w fun r w'=>r = .returned (.int .i64 (leftN c u o:Int))∧TB w' x c∧Chg x.ga x.gu w w' :=
 left_ok x c _ u o w rfl hT hu ho
theorem left_all (c:Cyl):leftN c 0 none=(joinsN c).length:=by
 unfold leftN joinsN
 rw [cnt_zero,Nat.sub_zero]
set_option maxHeartbeats 800000 in
theorem all_ok (x:TX) (c:Cyl) (w:World) (hT:TB w x c) :
  Calls Tryz.prog 50 #[.pointer (some ⟨x.g,0,none⟩)] w fun r w'=>r = .returned (.int .i64 ((joinsN c).length:Int))∧TB w' x c∧Chg x.ga x.gu w w':=by
 have h:=left_any x c 0 none w hT (Nat.two_pow_pos _) (fun i hi=>by cases hi)
 simp only [lastI,left_all] at h
 go_enter Tryz.func50,Tryz.ntmps50
 go_wp2_with fail
 refine h.mono ?_
 rintro e w1 ⟨rfl,hT1,hC1⟩
 go_wp2
 go_ret
 exact ⟨rfl,hT1,hC1⟩
end Go.Proofs.YtibmeigdjghkcaaGreat.J
namespace Go.Proofs.YtibmeigdjghkcaaGreat.J
open Go.RowKit Go.Shelf
set_option linter.unusedVariables false
structure StsB (W:World) (g bt i:Nat):Prop where
 t:Blk W bt 118 #[.pointer (some ⟨g,0,none⟩)]
 s:Blk W (bt+1) 3 #[.int .i64 (i:Int)]
structure KeepS (N bt ga gu:Nat) (W W':World):Prop where
 size:W.heap.size≤W'.heap.size
 block:∀ k,(k < N∨bt≤k∧k < bt+2)→k≠ga→k≠gu→W'.heap[k]? = W.heap[k]?
theorem KeepS.tab {N bt ga gu:Nat} {A B:World} (h:KeepS N bt ga gu A B):KeepT N ga gu A B:=⟨h.size,fun k h1 h2 h3=>h.block k (.inl h1) h2 h3⟩
theorem KeepS.trans {N bt ga gu:Nat} {A B C:World} (h:KeepS N bt ga gu A B) (k:KeepS N bt ga gu B C):KeepS N bt ga gu A C:=⟨Nat.le_trans h.size k.size,fun j h1 h2 h3=>(k.block j h1 h2 h3).trans (h.block j h1 h2 h3)⟩
theorem KeepS.putObj {N bt ga gu:Nat} (W:World) (l:Nat) (o':Obj) (hl:bt+2≤l) (hN:N≤l):KeepS N bt ga gu W (W.putObj l o'):=⟨by simp [World.putObj],fun k hk _ _=>World.putObj_heap_other (by omega)⟩
theorem KeepS.refl {N bt ga gu:Nat} (A:World):KeepS N bt ga gu A A:=⟨Nat.le_refl _,fun _ _ _ _=>rfl⟩
theorem KeepS.of_below {N bt ga gu B:Nat} {w w':World} (h:Below B w w') (hN:N≤B) (hB:bt+2≤B):KeepS N bt ga gu w w':=⟨h.size,fun k hk _ _=>h.block k (by omega)⟩
theorem KeepS.chg {N bt ga gu:Nat} {w w':World} (h:Chg ga gu w w') (hN:N≤w.heap.size) (hB:bt+2≤w.heap.size):KeepS N bt ga gu w w':=⟨h.size,fun k h1 h2 h3=>h.block k (by omega) h2 h3⟩
theorem StsB.keep {W W':World} {g bt i N ga gu:Nat} (h:StsB W g bt i) (hk:KeepS N bt ga gu W W') (h1:ga < bt) (h2:gu < bt):StsB W' g bt i :=
 ⟨(hk.block _ (by omega) (by omega) (by omega)).trans h.t,(hk.block _ (by omega) (by omega) (by omega)).trans h.s⟩
theorem StsB.call {W W':World} {g bt i:Nat} (h:StsB W g bt i) (hb:Below W.heap.size W W'):StsB W' g bt i:=⟨h.t.call hb,h.s.call hb⟩
def usedN (c:Cyl) (i:Nat):List Nat:=(List.range (2 ^ c.pcs.length)).filter fun u=>u.testBit (pieceN c i)
abbrev VUs (c:Cyl) (i:Nat):={u:Nat // u∈usedN c i}
attribute [local go_sem] Oper.semAt_some
end Go.Proofs.YtibmeigdjghkcaaGreat.J
namespace Go.Proofs.YtibmeigdjghkcaaGreat.J
open Go.RowKit Go.Shelf
set_option linter.unusedVariables false
def Marks (B T:Nat) (W:World):List Deferred→Prop
 | []=>True
 | d::r=>(∃ D,d={ target := .collected D,args:=#[] }∧B≤D∧D < T∧W.heap[D]? = some (.deferred (some []))∧∀ D',{ target := .collected D',args:=#[] }∈r→D'≠D)∧Marks B T W r
theorem Marks.keep {B T T':Nat} {W W':World} (hT:T≤T') (hk:∀ D,B≤D→D < T→W.heap[D]? = some (.deferred (some []))→W'.heap[D]? = some (.deferred (some []))):∀ {ds:List Deferred},Marks B T W ds→Marks B T' W' ds
 | [],_=>trivial
 | d::r,⟨⟨D,h1,h2,h6,h3,h4⟩,h5⟩=>⟨⟨D,h1,h2,by omega,hk D h2 h6 h3,h4⟩,h5.keep hT hk⟩
theorem Marks.lt {B T:Nat} {W:World}:∀ {ds:List Deferred},Marks B T W ds→∀ D,{ target := .collected D,args:=#[] }∈ds→D < T
 | [],_,D,h=>by cases h
 | d::r,⟨⟨D,h1,h2,h6,h3,h4⟩,h5⟩,D',h=>by
   rcases List.mem_cons.1 h with h | h
   ·subst h1
    injection h with h
    injection h with h
    rw [h]; exact h6
   ·exact h5.lt D' h
theorem Marks.cons {B T T' D:Nat} {W W':World} {ds:List Deferred} (h:Marks B T W ds) (hB:B≤D) (hT:T≤D) (hT':D < T') (hD:W.heap[D]? = some (.deferred (some []))):Marks B T' W ({ target := .collected D,args:=#[] }::ds) :=
 ⟨⟨D,rfl,hB,hT',hD,fun D' hD'=>by have:=h.lt D' hD'; omega⟩,h.keep (by omega) fun _ _ _ h=>h⟩
theorem Marks.other {B T D:Nat} {W:World} (o:Obj):∀ {ds:List Deferred},Marks B T W ds→(∀ D',{ target := .collected D',args:=#[] }∈ds→D'≠D)→Marks B T (W.putObj D o) ds
 | [],_,_=>trivial
 | d::r,⟨⟨D1,h1,h2,h6,h3,h4⟩,h5⟩,hn=>⟨⟨D1,h1,h2,h6,(World.putObj_heap_other (by have:=hn D1 (by rw [h1]; exact List.mem_cons_self); omega)).trans h3,h4⟩,h5.other o fun D' hD'=>hn D' (List.mem_cons_of_mem _ hD')⟩
theorem Marks.grown {B T:Nat} {W W':World} {ds:List Deferred} {row:Option Nat} (h:Marks B T W ds) (hs:T≤W.heap.size) (hg:W.grownBy W' row) (hr:∀ r,row=some r→T≤r∨r < B):Marks B T W' ds :=
 h.keep (Nat.le_refl _) fun D h1 h2 h3=>(hg.block D (by omega) (fun e=>by rcases hr D e.symm with h | h <;> omega)).trans h3
theorem Marks.chg {B T ga gu:Nat} {W W':World} {ds:List Deferred} (h:Marks B T W ds) (hs:T≤W.heap.size) (hc:Chg ga gu W W') (h1:ga < B) (h2:gu < B):Marks B T W' ds :=
 h.keep (Nat.le_refl _) fun D h3 h4 h5=>(hc.block D (by omega) (by omega) (by omega)).trans h5
theorem Marks.leave {B T n:Nat} {P:Program} {fn:Func} {tmps:Array Value} {R:Ending→World→Prop} (I:World→Prop) (hI:∀ W D,B≤D→W.heap[D]? = some (.deferred (some []))→I W→I (W.putObj D (.deferred none)))
  (hR:∀ W,I W→LeavesInM Fence.wide n P fn tmps R [] .returning W):∀ (ds:List Deferred) (W:World),Marks B T W ds→I W→LeavesInM Fence.wide n P fn tmps R ds .returning W
 | [],W,_,h=>hR W h
 | d::r,W,⟨⟨D,h1,h2,h6,h3,h4⟩,h5⟩,h=>by
   subst h1
   exact ⟨by simp,.inl ⟨D,_,rfl,run_takeDeferred h3,Marks.leave I hI hR r _ (h5.other _ h4) (hI W D h2 h3 h)⟩⟩
theorem own_low {W:World} {base e size n b o:Nat} {v y:Value} {xs:List Value} (h:W.ownsRow base e size v n xs) (hb:b < base):(W.setCell ⟨b,o,none⟩ y).ownsRow base e size v n xs:=by
 refine h.kept (grown_setCell y) ?_
 cases hq:v.ownBlock with
 | none=>exact .inl rfl
 | some q=>exact .inr fun e=>by have:=(h.lt q hq).1; injection e with e; omega
end Go.Proofs.YtibmeigdjghkcaaGreat.J
namespace Go.Proofs.YtibmeigdjghkcaaGreat.J
open Go.RowKit Go.Shelf
set_option linter.unusedVariables false
def fitTo (c:Cyl) (i k a b:Nat):Int:=if (decide (a < i)||(decide (a=i)&&decide (b < k)))=true∧fitN c a b=true then 1 else 0
theorem fitN_lt {c:Cyl} {a b:Nat} (h:fitN c a b=true):a < (stepsOf c).length∧b < (stepsOf c).length:=by
 unfold fitN at h
 split at h
 ·rename_i h1 h2
  exact ⟨(List.getElem?_eq_some_iff.1 h1).1,(List.getElem?_eq_some_iff.1 h2).1⟩
 ·cases h
theorem fitTo_zero (c:Cyl):fitTo c 0 0=fun _ _=>0:=by
 funext a b
 unfold fitTo
 rw [if_neg]
 simp
theorem fitTo_row (c:Cyl) (i:Nat):fitTo c i (stepsOf c).length=fitTo c (i+1) 0:=by
 funext a b
 unfold fitTo
 by_cases hf:fitN c a b=true
 ·have:=(fitN_lt hf).2
  by_cases h:a < i
  ·rw [if_pos ⟨by simp [h],hf⟩,if_pos ⟨by simp; omega,hf⟩]
  ·by_cases h2:a=i
   ·rw [if_pos ⟨by simp [h2]; omega,hf⟩,if_pos ⟨by simp; omega,hf⟩]
   ·rw [if_neg (by simp; omega),if_neg (by simp; omega)]
 ·rw [if_neg (fun h=>hf h.2),if_neg (fun h=>hf h.2)]
theorem fitTo_all (c:Cyl):fitTo c (stepsOf c).length 0=fitV c:=by
 funext a b
 unfold fitTo fitV
 by_cases hf:fitN c a b=true
 ·have:=(fitN_lt hf).1
  rw [if_pos ⟨by simp; omega,hf⟩,if_pos hf]
 ·rw [if_neg (fun h=>hf h.2),if_neg hf]
theorem fitTo_no {c:Cyl} {i k:Nat} (hf:fitN c i k=false):fitTo c i (k+1)=fitTo c i k:=by
 funext a b
 unfold fitTo
 by_cases h:a=i∧b=k
 ·obtain ⟨rfl,rfl⟩:=h
  rw [if_neg (by rw [hf]; simp),if_neg (by rw [hf]; simp)]
 ·congr 1
  simp only [Bool.or_eq_true,Bool.and_eq_true,decide_eq_true_eq,eq_iff_iff]
  constructor
  ·rintro ⟨h1,h2⟩
   exact ⟨by omega,h2⟩
  ·rintro ⟨h1,h2⟩
   exact ⟨by omega,h2⟩
theorem fitTo_yes {c:Cyl} {i k:Nat} (hf:fitN c i k=true) (a b:Nat):fitTo c i (k+1) a b=if a=i∧b=k then 1 else fitTo c i k a b:=by
 by_cases h:a=i∧b=k
 ·obtain ⟨rfl,rfl⟩:=h
  rw [if_pos ⟨rfl,rfl⟩]
  unfold fitTo
  rw [if_pos ⟨by simp,hf⟩]
 ·rw [if_neg h]
  unfold fitTo
  congr 1
  simp only [Bool.or_eq_true,Bool.and_eq_true,decide_eq_true_eq,eq_iff_iff]
  constructor
  ·rintro ⟨h1,h2⟩
   exact ⟨by omega,h2⟩
  ·rintro ⟨h1,h2⟩
   exact ⟨by omega,h2⟩
structure NewW (w:World) (g0:Nat) (c:Cyl) (pa:Option Addr) (pc:Nat) (L:List St) (A:Option Addr) (cap:Nat) (V:Nat→Nat→Int) (W:World):Prop where
 tc:TC W (g0+2) c pa pc (.slice A L.length cap) V g0 (g0+1)
 own:W.ownsRow (g0+3) 53 2 (.slice A L.length cap) L.length (L.flatMap (cellsOf 2 stcell))
 ma:MapOf W g0 fun _ _=>none
 mu:MapOf W (g0+1) fun _ _=>none
 bl:Below w.heap.size w W
 sz:g0+3≤W.heap.size
 ge:w.heap.size≤g0
section
variable {w W W':World} {g0 pc cap:Nat} {c:Cyl} {pa A:Option Addr} {L:List St} {V V':Nat→Nat→Int}
theorem NewW.call (h:NewW w g0 c pa pc L A cap V W) (hb:Below W.heap.size W W'):NewW w g0 c pa pc L A cap V W':=by
 have h1:=h.sz
 have h2:=h.ge
 exact ⟨h.tc.call hb,own_call h.own hb,h.ma.heap (hb.block _ (by omega)),h.mu.heap (hb.block _ (by omega)),h.bl.trans (hb.mono (by omega)),Nat.le_trans h1 hb.size,h2⟩
theorem NewW.app (h:NewW w g0 c pa pc L A cap V W) (hb:Below (g0+3) W W') {A':Option Addr} {cap':Nat} {L':List St} (ho:W'.ownsRow (g0+3) 53 2 (.slice A' L'.length cap') L'.length (L'.flatMap (cellsOf 2 stcell))) :
  NewW w g0 c pa pc L' A' cap' V (W'.setCell ⟨g0+2,4,none⟩ (.slice A' L'.length cap')):=by
 have h1:=h.sz
 have h2:=h.ge
 have hg:W'.grownBy (W'.setCell ⟨g0+2,4,none⟩ (.slice A' L'.length cap')) (some (g0+2)):=grown_setCell _
 have hs:W'.heap.size≤(W'.setCell ⟨g0+2,4,none⟩ (.slice A' L'.length cap')).heap.size:=hg.size
 have h3:=hb.size
 have hq:∀ k,k < g0+2→(W'.setCell ⟨g0+2,4,none⟩ (.slice A' L'.length cap')).heap[k]? = W.heap[k]? := fun k hk=>(hg.block k (by omega) (fun e=>by injection e; omega)).trans (hb.block k (by omega))
 exact ⟨(h.tc.belowB hb (by omega)).sets _,own_low ho (by omega),h.ma.heap (hq _ (by omega)),h.mu.heap (hq _ (by omega)),
  ⟨hg.os.trans (hb.os.trans h.bl.os),hg.tape.trans (hb.tape.trans h.bl.tape),hg.output.trans (hb.output.trans h.bl.output),Nat.le_trans h.bl.size (Nat.le_trans h3 hs),fun k hk=>(hq k (by omega)).trans (h.bl.block k hk)⟩,by omega,h2⟩
theorem NewW.step (h:NewW w g0 c pa pc (stepsOf c) A cap V W) {k b off:Nat} (hk:k < (stepsOf c).length) (hA:A=some ⟨b,off,none⟩) :
  ∃ t:Bool,(stepsOf c)[k]? = some ⟨(pieceN c k:Int),t⟩∧W.cell? ⟨b,off+k * 2,none⟩=some (.int .i64 (pieceN c k:Int))∧W.cell? ⟨b,off+k * 2+1,none⟩=some (.bool t):=by
 obtain ⟨b',off',s,h1,h2,h3,h4⟩:=(Arr.of_own h.own).at_ hk
 rw [hA] at h1
 injection h1 with h1
 injection h1 with h1 h5
 subst h1 h5
 have hp:=pieceN_eq h3
 have e0:=h4 0 (by omega)
 have e1:=h4 1 (by omega)
 obtain ⟨sp,st⟩:=s
 simp only at hp
 subst hp
 exact ⟨st,h3,e0,e1⟩
theorem NewW.put (h:NewW w g0 c pa pc L A cap V W) {i k:Nat} {x:Int} (hi:i < 16) (hk:k < 16) (hV:∀ i' k',i' < 16→k' < 16→V' i' k'=if i'=i∧k'=k then x else V i' k') :
  NewW w g0 c pa pc L A cap V' (W.setCell ⟨g0+2,5+i * 16+k,none⟩ (.int .i64 x)):=by
 have h1:=h.sz
 have h2:=h.ge
 have hg:W.grownBy (W.setCell ⟨g0+2,5+i * 16+k,none⟩ (.int .i64 x)) (some (g0+2)):=grown_setCell _
 have hq:∀ k',k' < g0+2→(W.setCell ⟨g0+2,5+i * 16+k,none⟩ (.int .i64 x)).heap[k']? = W.heap[k']? := fun k' hk'=>hg.block k' (by omega) (fun e=>by injection e; omega)
 exact ⟨h.tc.set_ hi hk hV,own_low h.own (by omega),h.ma.heap (hq _ (by omega)),h.mu.heap (hq _ (by omega)),
  ⟨hg.os.trans h.bl.os,hg.tape.trans h.bl.tape,hg.output.trans h.bl.output,Nat.le_trans h.bl.size hg.size,fun k hk=>(hq k (by omega)).trans (h.bl.block k hk)⟩,Nat.le_trans h1 hg.size,h2⟩
end
set_option maxRecDepth 100000 in
set_option maxHeartbeats 1600000 in
theorem newTable_ok (v:Value) (c:Cyl) (w:World) (hv:CylV w w.heap.size v c) (h0:checkCyl c=0) :
  Calls Tryz.prog 125 #[v] w fun r w'=>∃ x:TX,r = .returned (.pointer (some ⟨x.g,0,none⟩))∧TB w' x c∧x.N=w'.heap.size∧w.heap.size≤x.ga∧w.heap.size≤x.gu∧Below w.heap.size w w':=by
 obtain ⟨pa,pc,rfl,hp⟩:=hv.open_
 have hC:=CB.new hp
 have hB:=(Below.refl w.heap.size w).alloc (Nat.le_refl _) (.cells #[.slice pa c.pcs.length pc,.int .i64 c.off,.int .i64 c.slo,.int .i64 c.shi] 26)
 go_enter Tryz.func125,Tryz.ntmps125
 go_upto_region 1 with (fail)
 have HWS:Hid ((w.alloc (.cells #[.slice pa c.pcs.length pc,.int .i64 c.off,.int .i64 c.slo,.int .i64 c.shi] 26)).heap.size=w.heap.size+1):=by simp [Hid]
 generalize hW:w.alloc (.cells #[.slice pa c.pcs.length pc,.int .i64 c.off,.int .i64 c.slo,.int .i64 c.shi] 26)=W at *
 clear hW hp
 obtain ⟨k0,k1,k2,k3⟩:=hC.c4
 obtain ⟨n1,n8⟩:=(cyl_bounds h0).1
 have hmm:=@run_makeMap Tryz.prog
 go_upto_region 2 with (fail)
 obtain ⟨E,hE⟩:∃ E,E=((((((Tryz.zeroCells227.setIfInBounds 0 (.slice pa c.pcs.length pc)).setIfInBounds 1 (.int .i64 c.off)).setIfInBounds 2 (.int .i64 c.slo)).setIfInBounds 3 (.int .i64 c.shi)).setIfInBounds 261 (.map (some W.heap.size))).setIfInBounds 262 (.map (some (W.heap.size+1)))):=⟨_,rfl⟩
 rw [← hE]
 have hE2:E=tcells c pa pc (.slice none 0 0) (fun _ _=>0) W.heap.size (W.heap.size+1):=hE.trans (tcells_zero _ _ _ _ _ _)
 have hps:=hC.ps
 have hN:NewW w W.heap.size c pa pc [] none 0 (fun _ _=>0) (((W.alloc (.map #[] 0)).alloc (.map #[] 0)).alloc (.cells E 227)):=by
  have b1:=(Below.refl W.heap.size W).alloc (Nat.le_refl _) (.map #[] 0)
  have b2:=b1.alloc (by simp) (.map #[] 0)
  have b3:=b2.alloc (by simp; omega) (.cells E 227)
  have m1:=MapOf.new W
  have m2:=MapOf.new (W.alloc (.map #[] 0))
  have hz1:(W.alloc (.map #[] 0)).heap.size=W.heap.size+1:=by simp
  have hz2:((W.alloc (.map #[] 0)).alloc (.map #[] 0)).heap.size=W.heap.size+2:=by simp
  have c2:=(Below.refl (W.alloc (.map #[] 0)).heap.size (W.alloc (.map #[] 0))).alloc (Nat.le_refl _) (.map #[] 0)
  have c3:=(Below.refl ((W.alloc (.map #[] 0)).alloc (.map #[] 0)).heap.size ((W.alloc (.map #[] 0)).alloc (.map #[] 0))).alloc (Nat.le_refl _) (.cells E 227)
  rw [hz1] at m2 c2
  rw [hz2] at c3
  have ht:=Blk.new ((W.alloc (.map #[] 0)).alloc (.map #[] 0)) 227 E
  rw [hz2] at ht
  refine ⟨?_,by simpa using World.ownsRow_nil _ _ _ _,(m1.heap (c2.block _ (by omega))).heap (c3.block _ (by omega)),m2.heap (c3.block _ (by omega)),hB.trans (b3.mono hB.size),by simp,hB.size⟩
  unfold TC
  rw [List.length_nil,← hE2]
  exact ht
 have hsz:W.heap.size=w.heap.size+1:=HWS.out
 clear hE hE2 hC k0 k1 k2 k3 hmm
 generalize ((W.alloc (.map #[] 0)).alloc (.map #[] 0)).alloc (.cells E 227)=W1 at *
 clear hB HWS
 generalize W.heap.size=g0 at *
 rw [show g0+1+1=g0+2 from rfl]
 have HSZ:=Lib.hid hsz
 clear hsz hps
 have q4:=hN.tc.c5.1
 obtain ⟨pv,hpv,hp⟩:=hv
 cases hpv
 have hps1:∀ W',Below w.heap.size w W'→Arr W' w.heap.size 7 (.slice pa c.pcs.length pc) c.pcs pccell:=fun W' hb=>hp.below hb
 go_wp2
 go_loopw [21] (fun i wr=>∃ (n:Nat) (L:List St) (A:Option Addr) (cap:Nat),n≤c.pcs.length∧i = .int .i64 n∧L.length≤2 * n∧stepsOf c=L++stepsGo n (c.pcs.drop n)∧NewW w g0 c pa pc L A cap (fun _ _=>0) wr) (fun i _=>c.pcs.length-(intOf i).toNat)
 case atStart=>exact ⟨0,[],none,0,Nat.zero_le _,rfl,Nat.zero_le _,rfl,hN⟩
 case round =>
  obtain ⟨n,L,A,cap,hn,rfl,hL,hst,hNr⟩:=hrel
  have hbr:=hNr.bl
  have hge:=hNr.ge
  have hszr:=hNr.sz
  have hcap:=own_cap hNr.own
  by_cases hn1:n < c.pcs.length
  ·have d3:decide (n < c.pcs.length)=true:=by simpa using hn1
   have d3':decide ((n:Int) < (c.pcs.length:Int))=true:=by simp; omega
   obtain ⟨b,off,p,hpa,hpb,hp1,c0,c1,c2,c3,c4,c5,c6⟩:=piece_at (hps1 wr hbr) hn1
   rw [stepsGo_drop hp1] at hst
   have HST:=Lib.hid hst
   have hL2:(L++[(⟨(n:Int),false⟩:St)]).length=L.length+1:=by simp
   subst hpa
   clear hp1 hst q4
   go_upto_region 5 with (fail)
   have hP:=Blk.new wr 196 #[.int .i64 p.a.lo,.int .i64 p.a.hi,.int .i64 p.a.pl,.int .i64 p.b.lo,.int .i64 p.b.hi,.int .i64 p.b.pl,.bool p.loose]
   have hN1:=hNr.call ((Below.refl wr.heap.size wr).alloc (Nat.le_refl _) (.cells #[.int .i64 p.a.lo,.int .i64 p.a.hi,.int .i64 p.a.pl,.int .i64 p.b.lo,.int .i64 p.b.hi,.int .i64 p.b.pl,.bool p.loose] 196))
   clear hNr hbr c0 c1 c2 c3 c4 c5 c6
   generalize wr.alloc (.cells #[.int .i64 p.a.lo,.int .i64 p.a.hi,.int .i64 p.a.pl,.int .i64 p.b.lo,.int .i64 p.b.hi,.int .i64 p.b.pl,.bool p.loose] 196)=w2 at *
   generalize wr.heap.size=xb at *
   have q4:=hN1.tc.c5.2.2.2.2
   go_wp2_with (at_builtin; refine wpList_app1 slT_st rfl (.tmp 30) (.tmp 33) rfl (A:=A) (cc:=cap) rfl ⟨cap,hN1.own,.inl rfl⟩ rfl rfl one_st hN1.sz ?_ ?_ ?_)
   any_goals omega
   intro v' w4 hown4 hb4 hkeep
   have hown5:=own_snoc (cell:=stcell) (x:=⟨(n:Int),false⟩) (vals:=#[.int .i64 (n:Int),.bool false]) rfl (by simp [cellsOf,List.range_succ,stcell]) hown4
   obtain ⟨A',cap',rfl⟩:=own_form hown5
   have hP4:Blk w4 xb 196 _:=(hkeep _ hP.lt (own_ad_ne (own_blk_ne hN1.own hP (by decide)))).trans hP
   have hT4:=hN1.tc.belowB hb4 (by omega)
   have z4:=hT4.frozen 4
   have c4:=hT4.c5.2.2.2.2
   have hN5:=hN1.app hb4 hown5
   have hP5:=hP4.far (p:=⟨g0+2,4,none⟩) (by show xb≠g0+2; omega) (.slice A' (L++[(⟨(n:Int),false⟩:St)]).length cap')
   clear hkeep hown4 q4 hN1 hP hb4 hP4 hT4 hcap
   obtain ⟨L1,hL1⟩:∃ L1,L1=L++[(⟨(n:Int),false⟩:St)]:=⟨_,rfl⟩
   have HL1:=Lib.hid hL1
   rw [← hL1] at hown5 hL2 hN5 hP5
   rw [← hL1]
   clear hL1 hown5
   have hcap5:=own_cap hN5.own
   have HL2:=Lib.hid hL2
   clear hL2
   go_upto_region 6 with (fail)
   generalize w4.setCell ⟨g0+2,4,none⟩ (.slice A' L1.length cap')=w5 at *
   have p6:=hP5.cell 6
   simp at p6
   clear z4 c4
   cases hlo:p.loose
   ·rw [hlo] at p6
    have HQ:Hid (stepsOf c=L1++stepsGo (n+1) (c.pcs.drop (n+1))):=by rw [Hid,HST.out,hlo,HL1.out]; simp
    clear hlo
    go_wp2
    go_roundw
    case rel=>exact ⟨n+1,L1,A',cap',by omega,by go_num,by have:=HL2.out; omega,HQ.out,hN5⟩
    case measure=>(simp [intOf]; try omega)
   ·rw [hlo] at p6
    have HQ:Hid (stepsOf c=(L1++[⟨(n:Int),true⟩])++stepsGo (n+1) (c.pcs.drop (n+1))):=by rw [Hid,HST.out,hlo,HL1.out]; simp
    have hL3:(L1++[(⟨(n:Int),true⟩:St)]).length=L1.length+1:=by simp
    have hL4:L1.length≤2 * n+1:=by have:=HL2.out; omega
    have q4:=hN5.tc.c5.2.2.2.2
    clear hlo
    go_wp2_with (at_builtin; refine wpList_app1 slT_st rfl (.tmp 43) (.tmp 46) rfl (A:=A') (cc:=cap') rfl ⟨cap',hN5.own,.inl rfl⟩ rfl rfl one_st hN5.sz ?_ ?_ ?_)
    any_goals omega
    intro v' w6 hown6 hb6 hkeep
    have hown7:=own_snoc (cell:=stcell) (x:=⟨(n:Int),true⟩) (vals:=#[.int .i64 (n:Int),.bool true]) rfl (by simp [cellsOf,List.range_succ,stcell]) hown6
    obtain ⟨A2,cap2,rfl⟩:=own_form hown7
    have hT6:=hN5.tc.belowB hb6 (by omega)
    have z4:=hT6.frozen 4
    have c4:=hT6.c5.2.2.2.2
    have hN7:=hN5.app hb6 hown7
    clear hkeep hown6 hown7 hN5 q4 hT6
    obtain ⟨L2,hL2⟩:∃ L2,L2=L1++[(⟨(n:Int),true⟩:St)]:=⟨_,rfl⟩
    rw [← hL2] at hL3 hN7 HQ
    rw [← hL2]
    have HL3:=Lib.hid hL3
    have hcap7:=own_cap hN7.own
    clear hL2 hL3
    go_wp2
    go_roundw
    case rel=>exact ⟨n+1,L2,A2,cap2,by omega,by go_num,by have:=HL3.out; omega,HQ.out,hN7⟩
    case measure=>(simp [intOf]; try omega)
  ·obtain rfl:n=c.pcs.length:=by omega
   have d3:decide (c.pcs.length < c.pcs.length)=false:=by simp
   have hst2:stepsOf c=L:=by rw [hst]; simp [stepsGo]
   subst hst2
   clear hst
   rw [← fitTo_zero c] at hNr
   have hm16:(stepsOf c).length≤16:=steps_le c n8
   have hm1:0 < (stepsOf c).length:=Nat.lt_of_lt_of_le n1 (stepsGo_len c.pcs 0).1
   obtain ⟨sb,so,s0,rfl,hsb, -, -⟩:=(Arr.of_own hNr.own).at_ hm1
   have q4:=hNr.tc.c5.2.2.2.2
   clear hL hn hn1 hN hbr
   go_wp2
   go_loopw [56] (fun i wr=>∃ k:Nat,k≤(stepsOf c).length∧i = .int .i64 k∧NewW w g0 c pa pc (stepsOf c) (some ⟨sb,so,none⟩) cap (fitTo c k 0) wr) (fun i _=>(stepsOf c).length-(intOf i).toNat)
   case atStart=>exact ⟨0,Nat.zero_le _,rfl,hNr⟩
   case round =>
    obtain ⟨i,hi,rfl,hNi⟩:=hrel
    clear hNr q4
    by_cases hlt:i < (stepsOf c).length
    ·have d4:decide (i < (stepsOf c).length)=true:=by simpa using hlt
     have d4':decide ((i:Int) < ((stepsOf c).length:Int))=true:=by simp; omega
     obtain ⟨ti,hsi,s0,s1⟩:=hNi.step hlt rfl
     have q4:=hNi.tc.c5.2.2.2.2
     go_upto_region 12 with (fail)
     have hX:=Blk.new wr 53 #[.int .i64 (pieceN c i:Int),.bool ti]
     have hN1:=hNi.call ((Below.refl wr.heap.size wr).alloc (Nat.le_refl _) (.cells #[.int .i64 (pieceN c i:Int),.bool ti] 53))
     have hxg:=hNi.sz
     clear hNi q4 s0 s1
     generalize wr.alloc (.cells #[.int .i64 (pieceN c i:Int),.bool ti] 53)=w2 at *
     generalize wr.heap.size=xb at *
     have q4:=hN1.tc.c5.2.2.2.2
     go_wp2
     go_loopw [66] (fun i' wr=>∃ k:Nat,k≤(stepsOf c).length∧i' = .int .i64 k∧NewW w g0 c pa pc (stepsOf c) (some ⟨sb,so,none⟩) cap (fitTo c i k) wr∧Blk wr xb 53 #[.int .i64 (pieceN c i:Int),.bool ti]) (fun i' _=>(stepsOf c).length-(intOf i').toNat)
     case atStart=>exact ⟨0,Nat.zero_le _,rfl,hN1,hX⟩
     case round =>
      obtain ⟨k,hk,rfl,hNk,hXk⟩:=hrel
      clear hN1 q4 hX
      by_cases hlk:k < (stepsOf c).length
      ·have d5:decide (k < (stepsOf c).length)=true:=by simpa using hlk
       have d5':decide ((k:Int) < ((stepsOf c).length:Int))=true:=by simp; omega
       obtain ⟨tk,hsk,s0,s1⟩:=hNk.step hlk rfl
       have q4:=hNk.tc.c5.2.2.2.2
       go_upto_region 15 with (fail)
       have hY:=Blk.new wr 53 #[.int .i64 (pieceN c k:Int),.bool tk]
       have hbA:=(Below.refl wr.heap.size wr).alloc (Nat.le_refl _) (.cells #[.int .i64 (pieceN c k:Int),.bool tk] 53)
       have hN2:=hNk.call hbA
       have hX2:=hXk.call hbA
       have hyg:=hNk.sz
       clear hNk hXk hbA q4 s0 s1
       generalize wr.alloc (.cells #[.int .i64 (pieceN c k:Int),.bool tk] 53)=w3 at *
       generalize wr.heap.size=yb at *
       have x0:=hX2.cell 0
       have x1:=hX2.cell 1
       have y0:=hY.cell 0
       have y1:=hY.cell 1
       simp at x0 x1 y0 y1
       have f0:=Ext.of x0
       have f1:=Ext.of x1
       have f2:=Ext.of y0
       have f3:=Ext.of y1
       clear x0 x1 y0 y1
       have hpi:=pieceN_lt hlt
       have hpk:=pieceN_lt hlk
       have hfit:fitN c i k=(decide ((pieceN c i:Int)≠(pieceN c k:Int))&&meets c (fin c ⟨(pieceN c i:Int),ti⟩) (beg c ⟨(pieceN c k:Int),tk⟩)):=fitN_at hsi hsk
       by_cases hpp:(pieceN c i:Int)=(pieceN c k:Int)
       ·have d6:((pieceN c i:Int) != (pieceN c k:Int))=false:=by simpa using hpp
        rw [hpp] at hfit
        simp at hfit
        have HF:=Lib.hid hfit
        have HPP:=Lib.hid hpp
        clear hfit hpp
        refine wp_region_ext (by kernel_rfl) (by kernel_rfl) ?_
        repeat (go_big_quiet_step (fail))
        refine wpQuiet_nil ?_
        intro _ hw'
        obtain ⟨xr,hw''⟩:=hw'
        subst hw''
        have hN3:=hN2.call xr.h
        have hX3:=hX2.call xr.h
        rw [← fitTo_no HF.out] at hN3
        go_wp2
        go_roundw
        case rel=>exact ⟨k+1,by omega,by go_num,hN3,hX3⟩
        case measure=>(simp [intOf]; try omega)
       ·have d6:((pieceN c i:Int) != (pieceN c k:Int))=true:=by simpa using hpp
        have HM:Hid (fitN c i k=meets c (fin c ⟨(pieceN c i:Int),ti⟩) (beg c ⟨(pieceN c k:Int),tk⟩)):=by
         rw [Hid,hfit]
         simp [hpp]
        have HPP:=Lib.hid hpp
        clear hfit hpp
        have HA1:Hid (∀ y:Ext w3,Calls Tryz.prog 219 #[.pointer (some ⟨g0+2,0,none⟩),.agg #[.int .i64 (pieceN c i:Int),.bool ti],.int .i64 1] y.w fun r w'=>r = .returned (enV (fin c ⟨(pieceN c i:Int),ti⟩))∧∃ z:Ext w3,w'=z.w):=fun y=>ext_call y (end_ok c (pieceN c i) ti true (g0+2) w.heap.size pc g0 (g0+1) pa _ _ y.w (hN2.tc.call y.h) (hps1 _ (hN2.call y.h).bl) (by have:=(hN2.call y.h).bl.size; omega) hpi n8)
        have HA2:Hid (∀ y:Ext w3,Calls Tryz.prog 219 #[.pointer (some ⟨g0+2,0,none⟩),.agg #[.int .i64 (pieceN c k:Int),.bool tk],.int .i64 0] y.w fun r w'=>r = .returned (enV (beg c ⟨(pieceN c k:Int),tk⟩))∧∃ z:Ext w3,w'=z.w):=fun y=>ext_call y (end_ok c (pieceN c k) tk false (g0+2) w.heap.size pc g0 (g0+1) pa _ _ y.w (hN2.tc.call y.h) (hps1 _ (hN2.call y.h).bl) (by have:=(hN2.call y.h).bl.size; omega) hpk n8)
        have hb1:=(bd_at h0 hpi ti).2
        have hb2:=(bd_at h0 hpk tk).1
        generalize fin c ⟨(pieceN c i:Int),ti⟩=ex at *
        generalize beg c ⟨(pieceN c k:Int),tk⟩=ey at *
        have HA3:Hid (∀ y:Ext w3,Calls Tryz.prog 218 #[.pointer (some ⟨g0+2,0,none⟩),enV ex,enV ey] y.w fun r w'=>r = .returned (.bool (meets c ex ey))∧∃ z:Ext w3,w'=z.w):=fun y=>ext_call y (meets_ok c ex ey (g0+2) pc g0 (g0+1) pa _ _ y.w (hN2.tc.call y.h) hb1 hb2)
        rw [← HM.out] at HA3
        clear hb1 hb2
        cases hf:fitN c i k
        ·rw [hf] at HA3
         have HF:=Lib.hid hf
         clear hf HM
         refine wp_region_ext (by kernel_rfl) (by kernel_rfl) ?_
         repeat (go_big_quiet_step ((first | (go_at_call 219; with_reducible exact HA1.out _) | (go_at_call 219; with_reducible exact HA2.out _) | (go_at_call 218; with_reducible exact HA3.out _))))
         refine wpQuiet_nil ?_
         intro _ hw'
         obtain ⟨xr,hw''⟩:=hw'
         subst hw''
         have hN3:=hN2.call xr.h
         have hX3:=hX2.call xr.h
         rw [← fitTo_no HF.out] at hN3
         go_wp2
         go_roundw
         case rel=>exact ⟨k+1,by omega,by go_num,hN3,hX3⟩
         case measure=>(simp [intOf]; try omega)
        ·rw [hf] at HA3
         have HF:=Lib.hid hf
         clear hf HM
         refine wp_region_ext (by kernel_rfl) (by kernel_rfl) ?_
         repeat (go_big_quiet_step ((first | (go_at_call 219; with_reducible exact HA1.out _) | (go_at_call 219; with_reducible exact HA2.out _) | (go_at_call 218; with_reducible exact HA3.out _))))
         refine wpQuiet_nil ?_
         intro _ hw'
         obtain ⟨xr,hw''⟩:=hw'
         subst hw''
         have hN3:=hN2.call xr.h
         have hX3:=hX2.call xr.h
         have z1:=hN3.tc.frozen (5+i * 16+k)
         have c1:=hN3.tc.at_ (i:=i) (k:=k) (by omega) (by omega)
         have k1:(i:Int) < 16:=by omega
         have k2:(k:Int) < 16:=by omega
         have e1:IntKind.i64.wrap (i:Int)=i:=wrap_id _ (by omega) (by omega)
         have e2:IntKind.i64.wrap (k:Int)=k:=wrap_id _ (by omega) (by omega)
         have hN4:=hN3.put (x:=1) (by omega) (by omega) (fun a b _ _=>fitTo_yes HF.out a b)
         have hX4:=hX3.far (p:=⟨g0+2,5+i * 16+k,none⟩) (by show xb≠g0+2; omega) (.int .i64 1)
         go_wp2
         go_roundw
         case rel=>exact ⟨k+1,by omega,by go_num,hN4,hX4⟩
         case measure=>(simp [intOf]; try omega)
      ·obtain rfl:k=(stepsOf c).length:=by omega
       have d5:decide ((stepsOf c).length < (stepsOf c).length)=false:=by simp
       rw [fitTo_row] at hNk
       go_wp2
       go_roundw
       case rel=>exact ⟨i+1,by omega,by go_num,hNk⟩
       case measure=>(simp [intOf]; try omega)
    ·obtain rfl:i=(stepsOf c).length:=by omega
     have d4:decide ((stepsOf c).length < (stepsOf c).length)=false:=by simp
     rw [fitTo_all] at hNi
     have hfin:=hNi
     go_wp2
     go_ret
     obtain ⟨pb,po,p0,rfl,hpb, -, -⟩:=(hps1 wr hfin.bl).at_ n1
     obtain ⟨hsl1,hsl2⟩:=hfin.own.lt sb rfl
     have hgl:=hfin.sz
     refine ⟨⟨wr.heap.size,g0+2,pb,po,pc,sb,so,cap,g0,g0+1⟩,rfl,⟨⟨hfin.tc,?_,?_,Nat.le_refl _,by dsimp only; omega,by dsimp only; omega,by dsimp only; omega,by dsimp only; omega,by dsimp only; omega,by dsimp only; omega,by dsimp only; omega,by dsimp only; omega,by dsimp only; omega,by dsimp only; omega,by dsimp only; omega,by dsimp only; omega,h0,?_,hcap.2⟩,⟨_,hfin.ma,fun a b v h=>by cases h⟩,⟨_,hfin.mu,fun a b v h=>by cases h⟩⟩,rfl,hge,by dsimp only; omega,hfin.bl⟩
     ·intro k p hp' j hj
      obtain ⟨b,off,x,h1,h2,h3,h4⟩:=(hps1 wr hfin.bl).at_ (List.getElem?_eq_some_iff.1 hp').1
      injection h1 with h1
      injection h1 with h1 h5
      subst h1 h5
      rw [hp'] at h3
      injection h3 with h3
      subst h3
      exact h4 j hj
     ·intro k s hs j hj
      obtain ⟨b,off,x,h1,h2,h3,h4⟩:=(Arr.of_own hfin.own).at_ (List.getElem?_eq_some_iff.1 hs).1
      injection h1 with h1
      injection h1 with h1 h5
      subst h1 h5
      rw [hs] at h3
      injection h3 with h3
      subst h3
      exact h4 j hj
     ·exact (hps1 wr hfin.bl).len_.2
end Go.Proofs.YtibmeigdjghkcaaGreat.J
namespace Go.Proofs.YtibmeigdjghkcaaGreat.J
open Go.RowKit Go.Shelf
set_option linter.unusedVariables false
set_option maxHeartbeats 800000 in
theorem first_ok (sv:Value) (l:List St) (fn:FuncId) (fs cs:Array Value) (p:St→Bool) (w:World)
 (eg:∀ args w,(callFunc fn args).run Tryz.prog w = .ok (.enter fn args) w)
 (hs:Arr w w.heap.size 2 sv l stcell)
 (hcall:∀ x∈l,∀ w1,Below w.heap.size w w1→Calls Tryz.prog fn (fs.push (.agg #[.int .i64 x.p,.bool x.t])++cs) w1 fun e w2=>e = .returned (.bool (p x))∧Below w1.heap.size w1 w2) :
  Calls Tryz.prog 221 #[sv,.func (.func fn) fs cs] w fun r w'=>r = .returned (.int .i64 (idxOf p 0 l))∧Below w.heap.size w w':=by
 obtain ⟨A,c,rfl,hn,hc,hcell⟩:=hs
 go_enter Tryz.func221,Tryz.ntmps221
 go_wp2
 go_loopw [9] (fun i wr=>∃ k:Nat,k≤l.length∧i = .int .i64 k∧idxOf p 0 l=idxOf p k (l.drop k)∧Below w.heap.size w wr) (fun i _=>l.length-(intOf i).toNat)
 case atStart=>exact ⟨0,Nat.zero_le _,rfl,rfl,Below.refl _ _⟩
 case round =>
  obtain ⟨k,hk,rfl,hf,hb⟩:=hrel
  by_cases hlt:k < l.length
  ·obtain ⟨b,off,rfl,hB,hcc⟩:=hcell (by omega)
   obtain ⟨x,hx⟩:∃ x,l[k]? = some x:=⟨l[k],List.getElem?_eq_getElem hlt⟩
   have hce:=fun j (hj:j < 2)=>(hb.cell (p:=⟨b,off+k*2+j,none⟩) hB).trans (hcc k x hx j hj)
   have c0:=hce 0 (by omega)
   have c1:=hce 1 (by omega)
   clear hce
   simp only [Nat.add_zero,stcell] at c0 c1
   have hcl:=hcall x (List.mem_of_getElem? hx)
   rw [idxOf_drop p l k x hx] at hf
   have H:=Lib.hid hf; clear hf
   have HX:=Lib.hid hx; clear hx
   clear hcall hcc hcell
   go_upto_region 4 with (fail)
   have hxs:=Blk.new wr 53 #[.int .i64 x.p,.bool x.t]
   have hb1:=hb.alloc hb.size (.cells #[.int .i64 x.p,.bool x.t] 53)
   clear c0 c1
   generalize wr.alloc (.cells #[.int .i64 x.p,.bool x.t] 53)=w1 at *
   have c0:=hxs.cell 0
   have c1:=hxs.cell 1
   simp at c0 c1
   have hcl1:=hcl w1 hb1
   clear hcl
   go_wp2_with (refine hcl1.mono ?_; rintro e w2 ⟨rfl,hb2⟩)
   ·go_ret
    exact ⟨by rw [H.out]; simp [*],bthen hb1 hb2⟩
   ·go_roundw
    case rel=>exact ⟨k+1,by omega,by go_num,by rw [H.out]; simp [*],bthen hb1 hb2⟩
    case measure=>simp [intOf]; omega
  ·obtain rfl:k=l.length:=by omega
   have H:=Lib.hid hf; clear hf
   go_wp2
   go_ret
   exact ⟨by rw [H.out]; simp [idxOf],hb⟩
theorem numS_eq (c:Cyl) (s:St):numS c s=idxOf (fun x=>x.p==s.p&&x.t==s.t) 0 (stepsOf c):=by
 unfold numS
 congr 1
 funext x
 obtain ⟨a,b⟩:=x
 obtain ⟨a',b'⟩:=s
 rw [Bool.eq_iff_iff]
 simp
abbrev stV2 (s:St):Value := .agg #[.int .i64 s.p,.bool s.t]
theorem index1_ok (x s:St) (g:Nat) (w:World) (h:Blk w g 53 #[.int .i64 s.p,.bool s.t]) :
  Calls Tryz.prog 222 #[stV2 x,.pointer (some ⟨g,0,none⟩)] w fun r w'=>r = .returned (.bool (x.p==s.p&&x.t==s.t))∧Below w.heap.size w w':=by
 have hb:=(Below.refl w.heap.size w).alloc (Nat.le_refl _) (.cells #[.int .i64 x.p,.bool x.t] 53)
 have hX:=Blk.new w 53 #[.int .i64 x.p,.bool x.t]
 have hS:=h.call hb
 go_enter Tryz.func222,Tryz.ntmps222
 go_upto_region 1 with (fail)
 generalize w.alloc (.cells #[.int .i64 x.p,.bool x.t] 53)=W at *
 have x0:=hX.cell 0
 have x1:=hX.cell 1
 have s0:=hS.cell 0
 have s1:=hS.cell 1
 simp at x0 x1 s0 s1
 have hq:∀ w',(Op.equalIn 10000 53 (.agg #[.int .i64 x.p,.bool x.t]) (.agg #[.int .i64 s.p,.bool s.t])).run Tryz.prog w' = .ok (x.p==s.p&&x.t==s.t) w':=fun w'=>eq_st _ _ _ _ w'
 go_wp2
 go_ret
 exact ⟨rfl,hb⟩
set_option maxRecDepth 100000 in
theorem index_ok (x:TX) (c:Cyl) (s:St) (w:World) (hT:TF w x c) :
  Calls Tryz.prog 128 #[.pointer (some ⟨x.g,0,none⟩),stV2 s] w fun r w'=>r = .returned (.int .i64 (numS c s))∧Below w.heap.size w w':=by
 rw [numS_eq]
 have hb:=(Below.refl w.heap.size w).alloc (Nat.le_refl _) (.cells #[.int .i64 s.p,.bool s.t] 53)
 have hS:=Blk.new w 53 #[.int .i64 s.p,.bool s.t]
 have hT1:=hT.call hb
 go_enter Tryz.func128,Tryz.ntmps128
 go_upto_region 1 with (fail)
 generalize w.alloc (.cells #[.int .i64 s.p,.bool s.t] 53)=W at *
 obtain ⟨q0,q1,q2,q3,q4⟩:=hT1.tc.c5
 have hA:Arr W W.heap.size 2 (.slice (some ⟨x.sb,x.so,none⟩) (stepsOf c).length x.sc) (stepsOf c) stcell :=
  ⟨_,_,rfl,hT1.scap.1,hT1.scap.2,fun _=>⟨_,_,rfl,Nat.lt_of_lt_of_le hT1.sl hT1.le,fun k s hs j hj=>hT1.sts k s hs j hj⟩⟩
 have hf:=first_ok _ (stepsOf c) 222 #[] #[.pointer (some ⟨w.heap.size,0,none⟩)] (fun x=>x.p==s.p&&x.t==s.t) W (fun _ _=>rfl) hA (fun y hy w1 hb1=>index1_ok y s w.heap.size w1 (hS.call hb1))
 clear hA hT1
 go_wp2_with (go_at_call 221; refine hf.mono ?_; rintro e w1 ⟨rfl,hb1⟩)
 go_ret
 exact ⟨rfl,hb.trans (hb1.mono hb.size)⟩
theorem open1_ok (x:TX) (c:Cyl) (s:St) (g:Nat) (w:World) (hT:TF w x c) (h:Blk w g 118 #[.pointer (some ⟨x.g,0,none⟩)]) :
  Calls Tryz.prog 127 #[stV2 s,.pointer (some ⟨g,0,none⟩)] w fun r w'=>r = .returned (.bool (decide (numS c s < 0)))∧Below w.heap.size w w':=by
 have hb:=(Below.refl w.heap.size w).alloc (Nat.le_refl _) (.cells #[.int .i64 s.p,.bool s.t] 53)
 have hX:=Blk.new w 53 #[.int .i64 s.p,.bool s.t]
 have hS:=h.call hb
 have hT1:=hT.call hb
 go_enter Tryz.func127,Tryz.ntmps127
 go_upto_region 1 with (fail)
 generalize w.alloc (.cells #[.int .i64 s.p,.bool s.t] 53)=W at *
 have x0:=hX.cell 0
 have x1:=hX.cell 1
 have s0:=hS.cell 0
 simp at x0 x1 s0
 have hi:=index_ok x c s W hT1
 go_wp2_with (go_at_call 128; refine hi.mono ?_; rintro e w1 ⟨rfl,hb1⟩)
 go_ret
 exact ⟨rfl,hb.trans (hb1.mono hb.size)⟩
end Go.Proofs.YtibmeigdjghkcaaGreat.J
namespace Go.Proofs.YtibmeigdjghkcaaGreat.J
open Go.RowKit Go.Shelf
set_option linter.unusedVariables false
def openE (c:Cyl) (l:List St):Int:=if checkCyl c≠0 then checkCyl c else if l.all (isStep c)=false then 2 else 0
def OpenPost (w:World) (c:Cyl) (e:Int) (r:Ending) (w':World):Prop :=
 Below w.heap.size w w'∧((e≠0∧r = .returned (.tuple #[.pointer none,.int .i64 e]))∨(e=0∧checkCyl c=0∧∃ x:TX,r = .returned (.tuple #[.pointer (some ⟨x.g,0,none⟩),.int .i64 0])∧TB w' x c∧w.heap.size≤x.ga∧w.heap.size≤x.gu))
set_option maxRecDepth 100000 in
set_option maxHeartbeats 1600000 in
theorem open_ok (v lv:Value) (c:Cyl) (l:List St) (w:World) (hv:CylV w w.heap.size v c) (hl:Arr w w.heap.size 2 lv l stcell) :
  Calls Tryz.prog 49 #[v,lv] w (OpenPost w c (openE c l)):=by
 obtain ⟨la,lc,rfl,hl1,hl2, -⟩:=id hl
 obtain ⟨pa,pc,rfl,hp⟩:=hv.open_
 have hC:=CB.new hp
 have hB:=(Below.refl w.heap.size w).alloc (Nat.le_refl _) (.cells #[.slice pa c.pcs.length pc,.int .i64 c.off,.int .i64 c.slo,.int .i64 c.shi] 26)
 go_enter Tryz.func49,Tryz.ntmps49
 go_upto_region 1 with (fail)
 have HWS:Hid ((w.alloc (.cells #[.slice pa c.pcs.length pc,.int .i64 c.off,.int .i64 c.slo,.int .i64 c.shi] 26)).heap.size=w.heap.size+1):=by simp [Hid]
 generalize hW:w.alloc (.cells #[.slice pa c.pcs.length pc,.int .i64 c.off,.int .i64 c.slo,.int .i64 c.shi] 26)=W at *
 clear hW hp
 obtain ⟨k0,k1,k2,k3⟩:=hC.c4
 have HE1:Hid (∀ h:checkCyl c≠0,openE c l=checkCyl c):=fun h=>if_pos h
 go_wp2_with fail
 refine (checkCyl_ok _ c W hC.cyl).mono ?_
 rintro e w1 ⟨rfl,hb1⟩
 have hC1:=hC.call hb1
 have hB1:=hB.trans (hb1.mono hB.size)
 clear k0 k1 k2 k3 hC hB hb1
 obtain ⟨k0,k1,k2,k3⟩:=hC1.c4
 by_cases h0:checkCyl c=0
 ·have d0:(checkCyl c != 0)=false:=by simp [h0]
  have hany:(l.any fun s=>decide (numS c s < 0))=!l.all (isStep c):=by
   rw [List.not_all_eq_any_not]
   congr 1
   funext s
   have:=numS_no (c:=c) (s:=s)
   rw [Bool.eq_iff_iff]
   simpa using this
  have HE2:Hid (openE c l=if l.all (isStep c)=false then 2 else 0):=by rw [Hid,openE,if_neg (by simp [h0])]
  have H0:=Lib.hid h0
  have hnt:=newTable_ok _ c w1 hC1.cyl h0
  clear h0
  go_wp2_with fail
  refine hnt.mono ?_
  rintro e w2 ⟨x,rfl,hT2,hN2,hga,hgu,hb2⟩
  have hB2:=hB1.trans (hb2.mono hB1.size)
  clear hC1 k0 k1 k2 k3 hnt
  have hsz:=hB1.size
  go_upto_region 5 with (fail)
  have hP:=Blk.new w2 118 #[.pointer (some ⟨x.g,0,none⟩)]
  have hbA:=(Below.refl w2.heap.size w2).alloc (Nat.le_refl _) (.cells #[.pointer (some ⟨x.g,0,none⟩)] 118)
  have hT3:=hT2.call hbA
  have hB3:=hB2.trans (hbA.mono hB2.size)
  clear hbA hT2
  generalize w2.alloc (.cells #[.pointer (some ⟨x.g,0,none⟩)] 118)=w3 at *
  generalize w2.heap.size=tb at *
  have hl3:=(hl.below hB3).more hB3.size
  have hcf:=containsFunc_st _ l 127 #[] #[.pointer (some ⟨tb,0,none⟩)] (fun s=>decide (numS c s < 0)) w3 (fun _ _=>rfl) hl3 (fun y hy w4 hb4=>open1_ok x c y tb w4 (hT3.f.call hb4) (hP.call hb4))
  rw [hany] at hcf
  clear hl3 hl hany
  cases hbad:l.all (isStep c)
  ·rw [hbad] at hcf
   simp only [Bool.not_false] at hcf
   have HE3:Hid (openE c l=2):=by rw [Hid,HE2.out,hbad]; rfl
   clear hbad
   go_wp2_with (go_at_call 126; refine hcf.mono ?_; rintro e w4 ⟨rfl,hb4⟩)
   have hB4:=hB3.trans (hb4.mono hB3.size)
   exact bodyPost_ret (v := .tuple #[.pointer none,.int .i64 2]) (by simp [results,Tryz.results49,go_sem]) rfl ⟨hB4,.inl ⟨by rw [HE3.out]; decide,by rw [HE3.out]⟩⟩
  ·rw [hbad] at hcf
   simp only [Bool.not_true] at hcf
   have HE3:Hid (openE c l=0):=by rw [Hid,HE2.out,hbad]; rfl
   clear hbad
   go_wp2_with (go_at_call 126; refine hcf.mono ?_; rintro e w4 ⟨rfl,hb4⟩; have p0:=(hP.call hb4).cell 0; simp at p0)
   have hB4:=hB3.trans (hb4.mono hB3.size)
   have hT4:=hT3.call hb4
   exact bodyPost_ret (v := .tuple #[.pointer (some ⟨x.g,0,none⟩),.int .i64 0]) (by simp [results,Tryz.results49,go_sem]) rfl ⟨hB4,.inr ⟨HE3.out,H0.out,x,rfl,hT4,by omega,by omega⟩⟩
 ·have d0:(checkCyl c != 0)=true:=by simp [h0]
  have HE2:=Lib.hid (HE1.out h0)
  have H0:=Lib.hid h0
  clear h0
  go_wp2
  exact bodyPost_ret (v := .tuple #[.pointer none,.int .i64 (checkCyl c)]) (by simp [results,Tryz.results49,go_sem]) rfl ⟨hB1,.inl ⟨by rw [HE2.out]; exact H0.out,by rw [HE2.out]⟩⟩
end Go.Proofs.YtibmeigdjghkcaaGreat.J
