/- What fill holds of the world. -/
import Derived.Test.YtibmeigdjghkcaaGreatPlC
import Derived.Test.YtibmeigdjghkcaaGreatRai
import Derived.Test.YtibmeigdjghkcaaGreatKepM
namespace Go.Proofs.YtibmeigdjghkcaaGreat
open Go.RowKit Go.Shelf
set_option linter.unusedVariables false
structure Chg (G fb:Nat) (W W':World):Prop where
 os:W'.os=W.os
 tape:W'.tape=W.tape
 output:W'.output=W.output
 size:W.heap.size≤W'.heap.size
 block:∀ k,k < W.heap.size→k≠G→k≠fb→W'.heap[k]? = W.heap[k]?
theorem Chg.refl (G fb:Nat) (W:World):Chg G fb W W:=⟨rfl,rfl,rfl,Nat.le_refl _,fun _ _ _ _=>rfl⟩
theorem Chg.grown {G fb:Nat} {W0 W W':World} (h:Chg G fb W0 W) {row:Option Nat} (hg:W.grownBy W' row) (hr:∀ r,row=some r→W0.heap.size≤r∨r=G∨r=fb):Chg G fb W0 W' :=
 ⟨hg.os.trans h.os,hg.tape.trans h.tape,hg.output.trans h.output,Nat.le_trans h.size hg.size,fun k hk h1 h2=>(hg.block k (Nat.lt_of_lt_of_le hk h.size) fun e=>by have:=hr k e.symm; omega).trans (h.block k hk h1 h2)⟩
theorem Chg.of_below {G fb:Nat} {W W':World} (h:Below W.heap.size W W'):Chg G fb W W':=⟨h.os,h.tape,h.output,h.size,fun k hk _ _=>h.block k hk⟩
theorem Chg.below {G fb s:Nat} {W W':World} (h:Chg G fb W W') (hs:s≤W.heap.size) (h1:s≤G) (h2:s≤fb):Below s W W':=⟨h.os,h.tape,h.output,h.size,fun k hk=>h.block k (by omega) (by omega) (by omega)⟩
def EndB (W:World) (eb n:Nat) (e:Nat→Int):Prop:=Blk W eb 3 (rowA n fun u => .int .i64 (e u))
section
variable {W W':World} {eb n:Nat} {e:Nat→Int}
theorem EndB.at_ (h:EndB W eb n e) {i:Nat} (hi:i < n):W.cell? ⟨eb,i,none⟩=some (.int .i64 (e i)):=by
 rw [Blk.cell h,rowA_get hi]
theorem EndB.put (h:EndB W eb n e) {i:Nat} {x:Int} {g:Nat→Int} (hg:∀ j,j < n→g j=if j=i then x else e j):EndB (W.setCell ⟨eb,i,none⟩ (.int .i64 x)) eb n g:=by
 have:=Blk.set_ h i (.int .i64 x)
 rwa [rowA_set (g:=fun i => .int .i64 (g i)) fun j hj=>by rw [hg j hj]; split <;> rfl] at this
theorem EndB.congr (h:EndB W eb n e) {g:Nat→Int} (hg:∀ i,i < n→e i=g i):EndB W eb n g:=by
 unfold EndB at h ⊢
 rwa [rowA_congr fun i hi=>by rw [hg i hi]] at h
end
structure FilA (W0 W:World) (B G:Nat) (l:NL) (ka:Option Addr) (kc:Nat) (aa:Option Addr) (ac:Nat) (ba:Option Addr) (bc:Nat) (da:Option Addr) (dc fb:Nat) (f:Nat→Int) (h:Nat→Nat) (s:Nat) (e:Nat→Int):Prop where
 net:NetF W B G l ka kc aa ac ba bc da dc [] fb f h
 ch:Chg G fb W0 W
 nb:Blk W s 122 #[.pointer (some ⟨G,0,none⟩)]
 er:EndB W (s+1) l.N e
 eb:Blk W (s+2) 30 #[.slice (some ⟨s+1,0,none⟩) l.N l.N]
 lo:G < s∧fb < s∧B≤s∧s=W0.heap.size∧B≤G∧B≤fb
section
variable {W0 W W':World} {B G:Nat} {l:NL} {ka aa ba da:Option Addr} {kc ac bc dc:Nat} {fb:Nat} {f:Nat→Int} {h:Nat→Nat} {s:Nat} {e:Nat→Int}
theorem FilA.grown (r:FilA W0 W B G l ka kc aa ac ba bc da dc fb f h s e) {row:Option Nat} (hg:W.grownBy W' row) (hr:∀ ρ,row=some ρ→s+3≤ρ):FilA W0 W' B G l ka kc aa ac ba bc da dc fb f h s e:=by
 have h1:=r.lo
 exact ⟨r.net.grown hg fun ρ e=>by have:=hr ρ e; omega,r.ch.grown hg fun ρ e=>by have:=hr ρ e; omega,r.nb.grown hg fun e=>by have:=hr _ e.symm; omega,Blk.grown r.er hg fun e=>by have:=hr _ e.symm; omega,r.eb.grown hg fun e=>by have:=hr _ e.symm; omega,h1⟩
theorem FilA.call (r:FilA W0 W B G l ka kc aa ac ba bc da dc fb f h s e) (hb:Below W.heap.size W W'):FilA W0 W' B G l ka kc aa ac ba bc da dc fb f h s e:=r.grown (grown_call hb none) fun ρ e=>by cases e
theorem FilA.sz (r:FilA W0 W B G l ka kc aa ac ba bc da dc fb f h s e):s+3≤W.heap.size:=r.eb.lt
theorem FilA.flow (r:FilA W0 W B G l ka kc aa ac ba bc da dc fb f h s e) {f':Nat→Int} (hn:NetF W' B G l ka kc aa ac ba bc da dc [] fb f' h) (hg:W.grownBy W' (some fb)):FilA W0 W' B G l ka kc aa ac ba bc da dc fb f' h s e:=by
 have h1:=r.lo
 exact ⟨hn,r.ch.grown hg fun ρ e=>by injection e; omega,r.nb.grown hg fun e=>by injection e; omega,Blk.grown r.er hg fun e=>by injection e; omega,r.eb.grown hg fun e=>by injection e; omega,h1⟩
theorem FilA.high (r:FilA W0 W B G l ka kc aa ac ba bc da dc fb f h s e) {h':Nat→Nat} (hn:NetF W' B G l ka kc aa ac ba bc da dc [] fb f h') (hg:W.grownBy W' (some G)):FilA W0 W' B G l ka kc aa ac ba bc da dc fb f h' s e:=by
 have h1:=r.lo
 exact ⟨hn,r.ch.grown hg fun ρ e=>by injection e; omega,r.nb.grown hg fun e=>by injection e; omega,Blk.grown r.er hg fun e=>by injection e; omega,r.eb.grown hg fun e=>by injection e; omega,h1⟩
theorem FilA.end_ (r:FilA W0 W B G l ka kc aa ac ba bc da dc fb f h s e) {i:Nat} {x:Int} {g:Nat→Int} (hg:∀ j,j < l.N→g j=if j=i then x else e j):FilA W0 (W.setCell ⟨s+1,i,none⟩ (.int .i64 x)) B G l ka kc aa ac ba bc da dc fb f h s g:=by
 have h1:=r.lo
 have hs:=r.sz
 have hgr:W.grownBy (W.setCell ⟨s+1,i,none⟩ (.int .i64 x)) (some (s+1)):=grown_setCell _
 exact ⟨r.net.grown hgr fun ρ e=>by injection e; omega,r.ch.grown hgr fun ρ e=>by injection e; omega,r.nb.grown hgr fun e=>by injection e; omega,r.er.put hg,r.eb.grown hgr fun e=>by injection e; omega,h1⟩
end
theorem own_low {W:World} {base e size n b o:Nat} {v y:Value} {xs:List Value} (h:W.ownsRow base e size v n xs) (hb:b < base):(W.setCell ⟨b,o,none⟩ y).ownsRow base e size v n xs:=by
 refine h.kept (grown_setCell y) ?_
 cases hq:v.ownBlock with
 | none=>exact .inl rfl
 | some q=>exact .inr fun e=>by have:=(h.lt q hq).1; injection e with e; omega
def markD (D:Nat→Bool) (u:Nat):Int:=if D u=true then 1 else 0
theorem markD_plus (D:Nat→Bool) (k u:Nat):markD (plus D k) u=if u=k then 1 else markD D u:=by
 unfold markD plus
 by_cases e:u=k
 ·simp [e]
 ·have:(u==k)=false:=by simpa using e
  rw [if_neg e,this,Bool.or_false]
theorem Good.left_pos {l:NL} (g:Good l):∀ x∈l.left,0≤x:=fun x hx=>by have:=(rises_lo g.ra x hx).1; omega
def Fi2In (W0:World) (B G:Nat) (l:NL) (ka:Option Addr) (kc:Nat) (aa:Option Addr) (ac:Nat) (ba:Option Addr) (bc:Nat) (da:Option Addr) (dc fb:Nat) (h:Nat→Nat) (s:Nat) (e:Nat→Int) (D:Nat→Bool) (k1 b1 T:Nat) (ds:List Deferred) (pre:List (Nat×Nat)) (W:World):Prop :=
 Marks (s+3) T W ds∧b1+2≤W.heap.size∧FilA W0 W B G l ka kc aa ac ba bc da dc fb (midF l.L l.A D k1 pre) h s e
theorem Fi2In.grown {W0 W W':World} {B G:Nat} {l:NL} {ka aa ba da:Option Addr} {kc ac bc dc fb:Nat} {h:Nat→Nat} {s:Nat} {e:Nat→Int} {D:Nat→Bool} {k1 b1 T:Nat} {ds:List Deferred} {pre:List (Nat×Nat)}
  (r:Fi2In W0 B G l ka kc aa ac ba bc da dc fb h s e D k1 b1 T ds pre W) {row:Option Nat} (hg:W.grownBy W' row) (hr:∀ ρ,row=some ρ→s+3≤ρ∧T≤ρ):Fi2In W0 B G l ka kc aa ac ba bc da dc fb h s e D k1 b1 T ds pre W':=by
 obtain ⟨h1,h2,h3⟩:=r
 exact ⟨h1.grown hg fun ρ e => .inl (hr ρ e).2,Nat.le_trans h2 hg.size,h3.grown hg fun ρ e=>(hr ρ e).1⟩
theorem FilA.congr {W0 W:World} {B G:Nat} {l:NL} {ka aa ba da:Option Addr} {kc ac bc dc:Nat} {fb:Nat} {f f':Nat→Int} {h:Nat→Nat} {s:Nat} {e:Nat→Int} (r:FilA W0 W B G l ka kc aa ac ba bc da dc fb f h s e) (hf:∀ i,i < l.links.length→f i=f' i):FilA W0 W B G l ka kc aa ac ba bc da dc fb f' h s e :=
 ⟨r.net.congr hf,r.ch,r.nb,r.er,r.eb,r.lo⟩
structure FilB (W0 W:World) (B G:Nat) (l:NL) (ka:Option Addr) (kc:Nat) (aa:Option Addr) (ac:Nat) (ba:Option Addr) (bc:Nat) (da:Option Addr) (dc fb:Nat) (f:Nat→Int) (h:Nat→Nat) (s kb:Nat) (K:Nat→Int) (qv:Value) (q:List Nat):Prop where
 a:FilA W0 W B G l ka kc aa ac ba bc da dc fb f h s (markD (isEnd l.A l.B))
 kp:AmtB W kb K
 wx:Blk W (kb+1) 30 #[qv]
 que:QRow W (kb+2) qv (intL q)
 lo:s+3≤kb
section
variable {W0 W W':World} {B G:Nat} {l:NL} {ka aa ba da:Option Addr} {kc ac bc dc:Nat} {fb:Nat} {f:Nat→Int} {h:Nat→Nat} {s kb:Nat} {K:Nat→Int} {qv:Value} {q:List Nat}
theorem FilB.sz (r:FilB W0 W B G l ka kc aa ac ba bc da dc fb f h s kb K qv q):kb+2≤W.heap.size:=r.wx.lt
theorem FilB.grown (r:FilB W0 W B G l ka kc aa ac ba bc da dc fb f h s kb K qv q) {row:Option Nat} (hg:W.grownBy W' row) (hr:∀ ρ,row=some ρ→kb+2≤ρ∧qv.ownBlock≠some ρ):FilB W0 W' B G l ka kc aa ac ba bc da dc fb f h s kb K qv q:=by
 have h1:=r.lo
 exact ⟨r.a.grown hg fun ρ e=>by have:=(hr ρ e).1; omega,Blk.grown r.kp hg fun e=>by have:=(hr _ e.symm).1; omega,r.wx.grown hg fun e=>by have:=(hr _ e.symm).1; omega,r.que.grown hg fun ρ e=>(hr ρ e).2,h1⟩
theorem FilB.call (r:FilB W0 W B G l ka kc aa ac ba bc da dc fb f h s kb K qv q) (hb:Below W.heap.size W W'):FilB W0 W' B G l ka kc aa ac ba bc da dc fb f h s kb K qv q:=r.grown (grown_call hb none) fun ρ e=>by cases e
theorem FilB.wait (r:FilB W0 W B G l ka kc aa ac ba bc da dc fb f h s kb K qv q) {qv':Value} {q':List Nat} (hq:QRow W (kb+2) qv' (intL q')):FilB W0 (W.setCell ⟨kb+1,0,none⟩ qv') B G l ka kc aa ac ba bc da dc fb f h s kb K qv' q':=by
 have h1:=r.lo
 have hg:W.grownBy (W.setCell ⟨kb+1,0,none⟩ qv') (some (kb+1)):=grown_setCell _
 refine ⟨r.a.grown hg fun ρ e=>by injection e; omega,Blk.grown r.kp hg fun e=>by injection e; omega,by simpa using r.wx.set_ 0 qv',hq.grown hg fun ρ e e2=>?_,h1⟩
 injection e with e
 have:=(hq.lt e2).1
 omega
theorem FilB.grew (r:FilB W0 W B G l ka kc aa ac ba bc da dc fb f h s kb K qv q) (hg:W.grownBy W' qv.ownBlock) {qv':Value} {q':List Nat} (hq:QRow W' (kb+2) qv' (intL q')):FilB W0 (W'.setCell ⟨kb+1,0,none⟩ qv') B G l ka kc aa ac ba bc da dc fb f h s kb K qv' q':=by
 have h1:=r.lo
 have hr:∀ ρ,qv.ownBlock=some ρ→kb+2≤ρ:=fun ρ e=>(r.que.lt e).1
 have hg2:W'.grownBy (W'.setCell ⟨kb+1,0,none⟩ qv') (some (kb+1)):=grown_setCell _
 have hw:Blk W' (kb+1) 30 #[qv]:=r.wx.grown hg fun e=>by have:=hr _ e.symm; omega
 have hk:AmtB W' kb K:=Blk.grown r.kp hg fun e=>by have:=hr _ e.symm; omega
 refine ⟨(r.a.grown hg fun ρ e=>by have:=hr ρ e; omega).grown hg2 fun ρ e=>by injection e; omega,Blk.grown hk hg2 fun e=>by injection e; omega,by simpa using hw.set_ 0 qv',hq.grown hg2 fun ρ e e2=>?_,h1⟩
 injection e with e
 have:=(hq.lt e2).1
 omega
theorem FilB.keep (r:FilB W0 W B G l ka kc aa ac ba bc da dc fb f h s kb K qv q) {i:Nat} {x:Int} {K':Nat→Int} (hK:∀ j,j < 40→K' j=if j=i then x else K j):FilB W0 (W.setCell ⟨kb,i,none⟩ (.int .i64 x)) B G l ka kc aa ac ba bc da dc fb f h s kb K' qv q:=by
 have h1:=r.lo
 have hg:W.grownBy (W.setCell ⟨kb,i,none⟩ (.int .i64 x)) (some kb):=grown_setCell _
 refine ⟨r.a.grown hg fun ρ e=>by injection e; omega,r.kp.put hK,r.wx.grown hg fun e=>by injection e; omega,r.que.grown hg fun ρ e e2=>?_,h1⟩
 injection e with e
 have:=(r.que.lt e2).1
 omega
theorem FilB.flow (r:FilB W0 W B G l ka kc aa ac ba bc da dc fb f h s kb K qv q) {f':Nat→Int} (hn:NetF W' B G l ka kc aa ac ba bc da dc [] fb f' h) (hg:W.grownBy W' (some fb)):FilB W0 W' B G l ka kc aa ac ba bc da dc fb f' h s kb K qv q:=by
 have h1:=r.lo
 have h2:=r.a.lo
 refine ⟨r.a.flow hn hg,Blk.grown r.kp hg fun e=>by injection e; omega,r.wx.grown hg fun e=>by injection e; omega,r.que.grown hg fun ρ e e2=>?_,h1⟩
 injection e with e
 have:=(r.que.lt e2).1
 omega
theorem FilB.high (r:FilB W0 W B G l ka kc aa ac ba bc da dc fb f h s kb K qv q) {h':Nat→Nat} (hn:NetF W' B G l ka kc aa ac ba bc da dc [] fb f h') (hg:W.grownBy W' (some G)):FilB W0 W' B G l ka kc aa ac ba bc da dc fb f h' s kb K qv q:=by
 have h1:=r.lo
 have h2:=r.a.lo
 refine ⟨r.a.high hn hg,Blk.grown r.kp hg fun e=>by injection e; omega,r.wx.grown hg fun e=>by injection e; omega,r.que.grown hg fun ρ e e2=>?_,h1⟩
 injection e with e
 have:=(r.que.lt e2).1
 omega
end
def waitTo (l:NL) (f:Nat→Int) (k:Nat):List Nat:=(List.range k).filter fun u=>!isEnd l.A l.B u&&decide (0 < keptF l.L f u)
theorem waitTo_succ (l:NL) (f:Nat→Int) (k:Nat):waitTo l f (k+1)=if isEnd l.A l.B k=false∧0 < keptF l.L f k then waitTo l f k++[k] else waitTo l f k:=by
 unfold waitTo
 rw [List.range_succ,List.filter_append]
 by_cases h:isEnd l.A l.B k=false∧0 < keptF l.L f k
 ·rw [if_pos h,List.filter_cons_of_pos (by simp [h.1,h.2])]
  rfl
 ·rw [if_neg h,List.filter_cons_of_neg (by
   cases he:isEnd l.A l.B k
   ·simp only [he,Bool.not_false,Bool.true_and,decide_eq_true_eq]
    exact fun h2=>h ⟨he,h2⟩
   ·simp)]
  simp
theorem waitTo_len (l:NL) (f:Nat→Int) (k:Nat):(waitTo l f k).length≤k:=by
 unfold waitTo
 exact Nat.le_trans (List.length_filter_le _ _) (by simp)
def Fi4In (W0:World) (B G:Nat) (l:NL) (ka:Option Addr) (kc:Nat) (aa:Option Addr) (ac:Nat) (ba:Option Addr) (bc:Nat) (da:Option Addr) (dc fb:Nat) (h:Nat→Nat) (s kb k kx b1 T:Nat) (w0:List Nat) (ds:List Deferred) (pre:List (Nat×Nat)) (W:World):Prop :=
 Marks (s+3) T W ds∧b1+2≤W.heap.size∧Blk W kx 3 #[.int .i64 (k:Int)]∧∃ (f:Nat→Int) (wt:List Nat) (qv:Value),FilB W0 W B G l ka kc aa ac ba bc da dc fb f h s kb (keptF l.L f) qv wt∧Mid l.N l.L l.A l.B h k w0 pre f wt∧∀ r,qv.ownBlock=some r→r≠b1∧r≠b1+1∧r≠kx
theorem Fi4In.grown {W0 W W':World} {B G:Nat} {l:NL} {ka aa ba da:Option Addr} {kc ac bc dc fb:Nat} {h:Nat→Nat} {s kb k kx b1 T:Nat} {w0:List Nat} {ds:List Deferred} {pre:List (Nat×Nat)}
  (r:Fi4In W0 B G l ka kc aa ac ba bc da dc fb h s kb k kx b1 T w0 ds pre W) (hT:T≤b1) (hkx:kx < b1) (hkb:kb+2≤b1) {row:Option Nat} (hg:W.grownBy W' row) (hr:∀ ρ,row=some ρ→b1≤ρ∧∃ o:Obj,W.heap[ρ]? = some o∧o.isCells=false):Fi4In W0 B G l ka kc aa ac ba bc da dc fb h s kb k kx b1 T w0 ds pre W':=by
 obtain ⟨h1,h2,h3,f,wt,qv,h4,h5,h6⟩:=r
 refine ⟨h1.grown hg fun ρ e => .inl (by have:=(hr ρ e).1; omega),Nat.le_trans h2 hg.size,h3.grown hg fun e=>by have:=(hr _ e.symm).1; omega,f,wt,qv,h4.grown hg fun ρ e=>⟨by have:=(hr ρ e).1; omega,fun e2=>?_⟩,h5,h6⟩
 obtain ⟨-,ob,ho,hc⟩:=hr ρ e
 obtain ⟨cs,hcs⟩:=h4.que.cells e2
 unfold Blk at hcs
 rw [hcs] at ho
 injection ho with ho
 subst ho
 simp [Obj.isCells] at hc
theorem arr_range (tm:Array Value) (n:Nat) (h:tm.size=n):tm=((List.range n).map fun i=>tm.getD i undef).toArray:=by
 apply Array.ext_getElem?
 intro i
 simp only [List.getElem?_toArray,List.getElem?_map]
 by_cases hi:i < n
 ·rw [List.getElem?_range hi,Array.getElem?_eq_getElem (by omega)]
  simp [Array.getD,h,hi]
 ·rw [Array.getElem?_eq_none (by omega),List.getElem?_eq_none (by simp; omega)]
  rfl
theorem frame193 {tm:Array Value} (h:tm.size=193) {v1 v2 v9 v10:Value} (h1:tm.getD 1 undef=v1) (h2:tm.getD 2 undef=v2) (h9:tm.getD 9 undef=v9) (h10:tm.getD 10 undef=v10) :
  ∃ u:Nat→Value,tm=#[u 0,v1,v2,u 3,u 4,u 5,u 6,u 7,u 8,v9,v10,u 11,u 12,u 13,u 14,u 15,u 16,u 17,u 18,u 19,u 20,u 21,u 22,u 23,u 24,u 25,u 26,u 27,u 28,u 29,u 30,u 31,u 32,u 33,u 34,u 35,u 36,u 37,u 38,u 39,u 40,u 41,u 42,u 43,u 44,u 45,u 46,u 47,u 48,u 49,u 50,u 51,u 52,u 53,u 54,u 55,u 56,u 57,u 58,u 59,u 60,u 61,u 62,u 63,u 64,u 65,u 66,u 67,u 68,u 69,u 70,u 71,u 72,u 73,u 74,u 75,u 76,u 77,u 78,u 79,u 80,u 81,u 82,u 83,u 84,u 85,u 86,u 87,u 88,u 89,u 90,u 91,u 92,u 93,u 94,u 95,u 96,u 97,u 98,u 99,u 100,u 101,u 102,u 103,u 104,u 105,u 106,u 107,u 108,u 109,u 110,u 111,u 112,u 113,u 114,u 115,u 116,u 117,u 118,u 119,u 120,u 121,u 122,u 123,u 124,u 125,u 126,u 127,u 128,u 129,u 130,u 131,u 132,u 133,u 134,u 135,u 136,u 137,u 138,u 139,u 140,u 141,u 142,u 143,u 144,u 145,u 146,u 147,u 148,u 149,u 150,u 151,u 152,u 153,u 154,u 155,u 156,u 157,u 158,u 159,u 160,u 161,u 162,u 163,u 164,u 165,u 166,u 167,u 168,u 169,u 170,u 171,u 172,u 173,u 174,u 175,u 176,u 177,u 178,u 179,u 180,u 181,u 182,u 183,u 184,u 185,u 186,u 187,u 188,u 189,u 190,u 191,u 192]:=by
 subst h1 h2 h9 h10
 exact ⟨fun i=>tm.getD i undef,arr_range tm 193 h⟩
end Go.Proofs.YtibmeigdjghkcaaGreat
