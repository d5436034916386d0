/- The board: its cells, and the contracts of its small methods. Contracts: sum, greatest, fill's function literal, stretches. Contracts: slices.Contains at []int; the method stretches, and the contract of its iterator. Maps whose keys are structs of two ints. The board: a whole row stored or cleared; what a change of the board's block alone keeps. -/
import Derived.Test.YtaihbcmifjmapaaGreatPC
import Derived.Test.YtaihbcmifjmapaaGreatPA
import Derived.Laws.StructEq
import Derived.Laws.IdiomCopy
namespace Go.Proofs.YtaihbcmifjmapaaGreat
open Go.RowKit Go.Shelf
set_option linter.unusedVariables false
def wcell (V:Nat→Nat→Int) (i:Nat):Value := .int .i64 (V (i / 7) (i % 7))
def bcells (c:Cyl) (fa:Option Addr) (fc:Nat) (pa:Option Addr) (pc:Nat) (V:Nat→Nat→Int) (m:Value):Array Value :=
 #[.int .i64 c.turns,.int .i64 c.long,.int .i64 c.plays,.slice fa c.frag.length fc,.slice pa c.pas.length pc]++((List.range 217).map (wcell V)).toArray++#[m]
theorem bcells_zero (t l p:Int) (fa pa:Option Addr) (nf fc np pc:Nat) :
  (((((Tryz.zeroCells57.setIfInBounds 0 (.int .i64 t)).setIfInBounds 1 (.int .i64 l)).setIfInBounds 2 (.int .i64 p)).setIfInBounds 3 (.slice fa nf fc)).setIfInBounds 4 (.slice pa np pc)) =
  #[.int .i64 t,.int .i64 l,.int .i64 p,.slice fa nf fc,.slice pa np pc]++((List.range 217).map (wcell fun _ _=>0)).toArray++#[.map none]:=by
 kernel_rfl
theorem bcells_size {c:Cyl} {fa pa:Option Addr} {fc pc:Nat} {V:Nat→Nat→Int} {m:Value}:(bcells c fa fc pa pc V m).size=223:=by simp [bcells]
structure Board (W:World) (B g:Nat) (c:Cyl) (fa:Option Addr) (fc:Nat) (pa:Option Addr) (pc:Nat) (V:Nat→Nat→Int) (m:Value):Prop where
 blk:Blk W g 57 (bcells c fa fc pa pc V m)
 fr:Arr W B 1 (.slice fa c.frag.length fc) c.frag icell
 ps:Arr W B 3 (.slice pa c.pas.length pc) c.pas pcell
 le:B≤g
theorem bget {c:Cyl} {fa pa:Option Addr} {fc pc:Nat} {V:Nat→Nat→Int} {m:Value} (i:Nat) :
  (bcells c fa fc pa pc V m)[i]? = if i < 5 then (#[.int .i64 c.turns,.int .i64 c.long,.int .i64 c.plays,.slice fa c.frag.length fc,.slice pa c.pas.length pc]:Array Value)[i]? else if i < 222 then some (wcell V (i-5)) else if i=222 then some m else none:=by
 have hs1:(#[.int .i64 c.turns,.int .i64 c.long,.int .i64 c.plays,.slice fa c.frag.length fc,.slice pa c.pas.length pc]:Array Value).size=5:=rfl
 have hs2:(((List.range 217).map (wcell V)).toArray).size=217:=by simp
 unfold bcells
 by_cases h5:i < 5
 ·rw [if_pos h5,Array.getElem?_append_left (by rw [Array.size_append,hs1,hs2]; omega),Array.getElem?_append_left (by rw [hs1]; omega)]
 ·rw [if_neg h5]
  by_cases h6:i < 222
  ·rw [if_pos h6,Array.getElem?_append_left (by rw [Array.size_append,hs1,hs2]; omega),Array.getElem?_append_right (by rw [hs1]; omega),hs1]
   simp only [List.getElem?_toArray,List.getElem?_map]
   rw [List.getElem?_range (by omega)]
   rfl
  ·rw [if_neg h6,Array.getElem?_append_right (by rw [Array.size_append,hs1,hs2]; omega),Array.size_append,hs1,hs2]
   by_cases h7:i=222
   ·rw [if_pos h7,h7]; rfl
   ·rw [if_neg h7]
    exact Array.getElem?_eq_none (by simp; omega)
theorem bc_row {c:Cyl} {fa pa:Option Addr} {fc pc:Nat} {V:Nat→Nat→Int} {m:Value} (t k:Nat) (ht:t < 31) (hk:k < 7):(bcells c fa fc pa pc V m)[5+t * 7+k]? = some (.int .i64 (V t k)):=by
 have h2:(5+t * 7+k-5) / 7=t:=by omega
 have h3:(5+t * 7+k-5) % 7=k:=by omega
 rw [bget,if_neg (by omega),if_pos (by omega),wcell,h2,h3]
theorem bc_set {c:Cyl} {fa pa:Option Addr} {fc pc:Nat} {V V':Nat→Nat→Int} {m:Value} (t k:Nat) (x:Int) (ht:t < 31) (hk:k < 7) (hV:∀ t' k',t' < 31→k' < 7→V' t' k'=if t'=t∧k'=k then x else V t' k') :
  (bcells c fa fc pa pc V m).setIfInBounds (5+t * 7+k) (.int .i64 x)=bcells c fa fc pa pc V' m:=by
 apply Array.ext_getElem?
 intro i
 rw [Array.getElem?_setIfInBounds,bget,bget,bcells_size]
 by_cases hi:5+t * 7+k=i
 ·subst hi
  have h2:(5+t * 7+k-5) / 7=t:=by omega
  have h3:(5+t * 7+k-5) % 7=k:=by omega
  rw [if_pos rfl,if_pos (by omega),if_neg (by omega),if_pos (by omega),wcell,h2,h3,hV t k ht hk,if_pos ⟨rfl,rfl⟩]
 ·rw [if_neg hi]
  by_cases h5:i < 5
  ·rw [if_pos h5,if_pos h5]
  ·rw [if_neg h5,if_neg h5]
   by_cases h6:i < 222
   ·rw [if_pos h6,if_pos h6,wcell,wcell,hV _ _ (by omega) (by omega),if_neg (by omega)]
   ·rw [if_neg h6,if_neg h6]
theorem bc_setm {c:Cyl} {fa pa:Option Addr} {fc pc:Nat} {V:Nat→Nat→Int} {m m':Value}:(bcells c fa fc pa pc V m).setIfInBounds 222 m'=bcells c fa fc pa pc V m':=by
 apply Array.ext_getElem?
 intro i
 rw [Array.getElem?_setIfInBounds,bget,bget,bcells_size]
 by_cases hi:222=i
 ·subst hi
  rw [if_pos rfl,if_pos (by omega),if_neg (by omega),if_neg (by omega),if_pos rfl]
 ·rw [if_neg hi]
  by_cases h5:i < 5
  ·rw [if_pos h5,if_pos h5]
  ·rw [if_neg h5,if_neg h5]
   by_cases h6:i < 222
   ·rw [if_pos h6,if_pos h6]
   ·rw [if_neg h6,if_neg h6,if_neg (Ne.symm hi),if_neg (Ne.symm hi)]
section
variable {W W':World} {B g:Nat} {c:Cyl} {fa pa:Option Addr} {fc pc:Nat} {V:Nat→Nat→Int} {m:Value}
theorem Board.c5 (h:Board W B g c fa fc pa pc V m) :
  W.cell? ⟨g,0,none⟩=some (.int .i64 c.turns)∧W.cell? ⟨g,1,none⟩=some (.int .i64 c.long)∧W.cell? ⟨g,2,none⟩=some (.int .i64 c.plays)∧W.cell? ⟨g,3,none⟩=some (.slice fa c.frag.length fc)∧W.cell? ⟨g,4,none⟩=some (.slice pa c.pas.length pc):=by
 refine ⟨?_,?_,?_,?_,?_⟩ <;> (rw [h.blk.cell,bget]; rfl)
theorem Board.at_ (h:Board W B g c fa fc pa pc V m) {t k:Nat} (ht:t < 31) (hk:k < 7):W.cell? ⟨g,5+t * 7+k,none⟩=some (.int .i64 (V t k)):=by
 rw [h.blk.cell]; exact bc_row t k ht hk
theorem Board.mp (h:Board W B g c fa fc pa pc V m):W.cell? ⟨g,222,none⟩=some m:=by
 rw [h.blk.cell,bget]; rfl
theorem Board.frozen (h:Board W B g c fa fc pa pc V m) (i:Nat):W.frozen? ⟨g,i,none⟩=false:=h.blk.frozen i
theorem Board.call (h:Board W B g c fa fc pa pc V m) (hb:Below W.heap.size W W'):Board W' B g c fa fc pa pc V m:=by
 have h1:=h.le
 have h2:=h.blk.lt
 exact ⟨h.blk.call hb,h.fr.below (hb.mono (by omega)),h.ps.below (hb.mono (by omega)),h1⟩
theorem Board.belowB {B0:Nat} (h:Board W B g c fa fc pa pc V m) (hb:Below B0 W W') (hg:g < B0):Board W' B g c fa fc pa pc V m:=by
 have h1:=h.le
 exact ⟨h.blk.below hb hg,h.fr.below (hb.mono (by omega)),h.ps.below (hb.mono (by omega)),h1⟩
theorem Board.alloc (h:Board W B g c fa fc pa pc V m) (o:Obj):Board (W.alloc o) B g c fa fc pa pc V m:=h.call ((Below.refl _ _).alloc (Nat.le_refl _) _)
theorem Board.drew (h:Board W B g c fa fc pa pc V m):Board W.drew B g c fa fc pa pc V m:=⟨h.blk,h.fr,h.ps,h.le⟩
theorem Board.drewN (h:Board W B g c fa fc pa pc V m) (n:Nat):Board (W.drewN n) B g c fa fc pa pc V m:=⟨h.blk,h.fr,h.ps,h.le⟩
theorem Arr.setCell {α:Type} {size:Nat} {v:Value} {l:List α} {cell:α→Nat→Value} (h:Arr W B size v l cell) {p:Addr} (hp:B≤p.block) (u:Value):Arr (W.setCell p u) B size v l cell :=
 h.keep fun q hq=>World.cell?_of_block (Below.heap_setCell W p u q.block (by omega))
theorem Board.set_ (h:Board W B g c fa fc pa pc V m) {V':Nat→Nat→Int} {t k:Nat} {x:Int} (ht:t < 31) (hk:k < 7) (hV:∀ t' k',t' < 31→k' < 7→V' t' k'=if t'=t∧k'=k then x else V t' k') :
  Board (W.setCell ⟨g,5+t * 7+k,none⟩ (.int .i64 x)) B g c fa fc pa pc V' m:=by
 refine ⟨?_,h.fr.setCell h.le _,h.ps.setCell h.le _,h.le⟩
 rw [← bc_set t k x ht hk hV]
 exact h.blk.set_ _ _
theorem Board.setm (h:Board W B g c fa fc pa pc V m) (m':Value):Board (W.setCell ⟨g,222,none⟩ m') B g c fa fc pa pc V m':=by
 refine ⟨?_,h.fr.setCell h.le _,h.ps.setCell h.le _,h.le⟩
 rw [← bc_setm (m':=m')]
 exact h.blk.set_ _ _
theorem Board.far (h:Board W B g c fa fc pa pc V m) {p:Addr} (hp:g≠p.block) (hB:B≤p.block) (u:Value):Board (W.setCell p u) B g c fa fc pa pc V m :=
 ⟨h.blk.far hp u,h.fr.setCell hB _,h.ps.setCell hB _,h.le⟩
theorem Board.same (h:Board W B g c fa fc pa pc V m) (hh:∀ k,k≤g→W'.heap[k]? = W.heap[k]?):Board W' B g c fa fc pa pc V m:=by
 have hl:=h.le
 exact ⟨(hh g (Nat.le_refl _)).trans h.blk,h.fr.keep fun p hp=>World.cell?_of_block (hh _ (by omega)),h.ps.keep fun p hp=>World.cell?_of_block (hh _ (by omega)),hl⟩
end
def BoardAt (W:World) (B g:Nat) (c:Cyl) (V:Nat→Nat→Int) (m:Value):Prop:=∃ fa fc pa pc,Board W B g c fa fc pa pc V m
set_option maxRecDepth 100000 in
theorem newBoard_ok (v:Value) (c:Cyl) (w:World) (hv:CylV w w.heap.size v c) :
  Calls Tryz.prog 15 #[v] w fun r w'=>r = .returned (.pointer (some ⟨w.heap.size+1,0,none⟩))∧BoardAt w' w.heap.size (w.heap.size+1) c (fun _ _=>0) (.map none)∧w'.heap.size=w.heap.size+2∧Below w.heap.size w w':=by
 obtain ⟨fa,fc,pa,pc,rfl,hf,hp⟩:=hv.open_
 have hC:=CB.new hf hp
 have hB:=(Below.refl w.heap.size w).alloc (Nat.le_refl _) (.cells #[.int .i64 c.turns,.int .i64 c.long,.int .i64 c.plays,.slice fa c.frag.length fc,.slice pa c.pas.length pc] 34)
 obtain ⟨k0,k1,k2,k3,k4⟩:=hC.c5
 go_enter Tryz.func15,Tryz.ntmps15
 go_wp2
 go_ret
 refine ⟨rfl,⟨fa,fc,pa,pc,⟨?_,hC.fr.alloc (by simp) _,hC.ps.alloc (by simp) _,by omega⟩⟩,by simp,hB.alloc (by simp) _⟩
 rw [bcells_zero]
 have:=Blk.new (w.alloc (.cells #[.int .i64 c.turns,.int .i64 c.long,.int .i64 c.plays,.slice fa c.frag.length fc,.slice pa c.pas.length pc] 34)) 57 (bcells c fa fc pa pc (fun _ _=>0) (.map none))
 simpa [bcells] using this
theorem own_ok (i B g:Nat) (c:Cyl) (p:Pas) (V:Nat→Nat→Int) (m:Value) (w:World) (h:BoardAt w B g c V m) (hi:c.pas[i]? = some p) :
  Calls Tryz.prog 17 #[.pointer (some ⟨g,0,none⟩),.int .i64 i] w fun r w'=>r = .returned (.int .i64 p.w)∧Below w.heap.size w w':=by
 obtain ⟨fa,fc,pa,pc,h⟩:=h
 obtain ⟨k0,k1,k2,k3,k4⟩:=h.c5
 have hlt:i < c.pas.length:=(List.getElem?_eq_some_iff.1 hi).1
 have hl:=h.ps.len_
 obtain ⟨b,off,x,rfl,hb,hx,hc⟩:=h.ps.at_ hlt
 rw [hi] at hx
 injection hx with hx
 subst hx
 have c2:=hc 2 (by omega)
 simp only [pcell] at c2
 obtain ⟨_,hl1,hl2⟩:=hl
 clear hc hi
 go_enter Tryz.func17,Tryz.ntmps17
 go_wp2
 go_ret
 exact ⟨rfl,Below.refl _ _⟩
end Go.Proofs.YtaihbcmifjmapaaGreat
namespace Go.Proofs.YtaihbcmifjmapaaGreat
open Go.RowKit Go.Shelf
set_option linter.unusedVariables false
def Gives (w:World) (B g:Nat) (c:Cyl) (fn:FuncId) (fs cs:Array Value) (n:Nat) (ws:Nat→Int):Prop :=
 (∀ args w,(callFunc fn args).run Tryz.prog w = .ok (.enter fn args) w) ∧
 ∀ i,i < n→∀ w1 V m,w.grownBy w1 (some g)→BoardAt w1 B g c V m→Calls Tryz.prog fn (fs.push (.int .i64 (i:Int))++cs) w1 fun e w2=>e = .returned (.int .i64 (ws i))∧Below w1.heap.size w1 w2
theorem grown_trans' {a b d:World} {r:Option Nat} (h:a.grownBy b r) (k:b.grownBy d r):a.grownBy d r :=
 ⟨k.os.trans h.os,k.tape.trans h.tape,k.output.trans h.output,Nat.le_trans h.size k.size,fun i hi hr=>(k.block i (Nat.lt_of_lt_of_le hi h.size) hr).trans (h.block i hi hr)⟩
theorem grown_call {w w':World} (h:Below w.heap.size w w') (r:Option Nat):w.grownBy w' r:=⟨h.os,h.tape,h.output,h.size,fun k hk _=>h.block k hk⟩
theorem Gives.grown {w w':World} {B g:Nat} {c:Cyl} {fn:FuncId} {fs cs:Array Value} {n:Nat} {ws:Nat→Int} (h:Gives w B g c fn fs cs n ws) (hb:w.grownBy w' (some g)):Gives w' B g c fn fs cs n ws :=
 ⟨h.1,fun i hi w1 V m h1 h2=>h.2 i hi w1 V m (grown_trans' hb h1) h2⟩
set_option maxRecDepth 100000 in
set_option maxHeartbeats 800000 in
theorem sum_ok (B g:Nat) (c:Cyl) (s:Str) (V:Nat→Nat→Int) (m:Value) (w:World) (h:BoardAt w B g c V m) (fn:FuncId) (fs cs:Array Value) (ws:Nat→Int) (hg:Gives w B g c fn fs cs c.pas.length ws)
  (hws:∀ i, -100000≤ws i∧ws i≤100000) (hlen:c.pas.length≤12) :
  Calls Tryz.prog 52 #[.pointer (some ⟨g,0,none⟩),.agg #[.int .i64 s.a,.int .i64 s.b],.func (.func fn) fs cs] w fun r w'=>r = .returned (.int .i64 (sumW ws s 0 c.pas))∧Below w.heap.size w w':=by
 obtain ⟨fa,fc,pa,pc,h⟩:=h
 have hx:=Blk.new w 89 #[.int .i64 s.a,.int .i64 s.b]
 have hB:=(Below.refl w.heap.size w).alloc (Nat.le_refl _) (.cells #[.int .i64 s.a,.int .i64 s.b] 89)
 have hh:=h.alloc (.cells #[.int .i64 s.a,.int .i64 s.b] 89)
 have hl:=h.ps.len_.2
 obtain ⟨hl1,hl2⟩:=hl
 clear h
 obtain ⟨eg,hgc⟩:=hg
 go_enter Tryz.func52,Tryz.ntmps52
 go_upto_region 1 with (fail)
 generalize hW:w.alloc (.cells #[.int .i64 s.a,.int .i64 s.b] 89)=W at *
 clear hW
 obtain ⟨k0,k1,k2,k3,k4⟩:=hh.c5
 go_wp2
 go_loopw [7,16] (fun a i wr=>∃ (k:Nat) (n:Int),k≤c.pas.length∧i = .int .i64 k∧a = .int .i64 n∧sumW ws s 0 c.pas=n+sumW ws s k (c.pas.drop k) ∧ -(100000 * (k:Int))≤n∧n≤100000 * (k:Int)∧Below W.heap.size W wr) (fun _ i _=>c.pas.length-(intOf i).toNat)
 case atStart=>exact ⟨0,0,Nat.zero_le _,rfl,rfl,by simp,by omega,by omega,Below.refl _ _⟩
 case round =>
  obtain ⟨k,n,hk,rfl,rfl,hs,n1,n2,hb⟩:=hrel
  have hBr:=hB.trans (hb.mono hB.size)
  have hr:=hh.call hb
  have hxr:=hx.call hb
  clear k0 k1 k2 k3 k4
  obtain ⟨k0,k1,k2,k3,k4⟩:=hr.c5
  by_cases hlt:k < c.pas.length
  ·obtain ⟨b,off,p,rfl,hBb,hp,hcc⟩:=hr.ps.at_ hlt
   have c0:=hcc 0 (by omega)
   have c1:=hcc 1 (by omega)
   have c2:=hcc 2 (by omega)
   simp only [Nat.add_zero,pcell] at c0 c1 c2
   rw [sumW_drop ws s c.pas k p hp] at hs
   have HS:=Lib.hid hs
   clear hs hp hcc
   have hw1:=hws k
   have q1:=hxr.lt
   have q2:=hr.blk.lt
   have q3:b < wr.heap.size:=by have:=hr.le; omega
   have s0:=hxr.cell 0
   have s1:=hxr.cell 1
   simp at s0 s1
   have hBa:=hb.alloc hb.size (.cells #[.int .i64 p.a,.int .i64 p.b,.int .i64 p.w] 37)
   have HG:=Lib.hid (hgc k hlt)
   clear hgc
   go_wp2_with fail
   refine (has_ok s p _).mono ?_
   rintro e w1 ⟨rfl,hb1⟩
   have hB1:=hBa.trans (hb1.mono (by have:=hb.size; simp; omega))
   have hBw:=hB.trans (hB1.mono hB.size)
   have hbd1:=(hr.alloc (.cells #[.int .i64 p.a,.int .i64 p.b,.int .i64 p.w] 37)).call hb1
   cases hh2:hasP s p
   ·have HQ:Hid (sumW ws s 0 c.pas=n+sumW ws s (k+1) (c.pas.drop (k+1))):=by rw [Hid,HS.out,hh2]; simp
    clear hh2
    go_wp2
    go_roundw
    case rel=>exact ⟨k+1,n,by omega,by go_num,rfl,HQ.out,by omega,by omega,hB1⟩
    case measure=>simp [intOf]; omega
   ·have HQ:Hid (sumW ws s 0 c.pas=(n+ws k)+sumW ws s (k+1) (c.pas.drop (k+1))):=by rw [Hid,HS.out,hh2,Int.add_assoc]; simp
    clear hh2
    go_wp2_with fail
    refine (HG.out _ V m (grown_call hBw _) ⟨_,_,_,_,hbd1⟩).mono ?_
    rintro e w2 ⟨rfl,hb2⟩
    have hB2:=hB1.trans (hb2.mono hB1.size)
    go_wp2
    go_roundw
    case rel=>exact ⟨k+1,n+ws k,by omega,by go_num,rfl,HQ.out,by omega,by omega,hB2⟩
    case measure=>simp [intOf]; omega
  ·obtain rfl:k=c.pas.length:=by omega
   have HS:=Lib.hid hs
   clear hs
   go_wp2
   go_ret
   exact ⟨ret_i (by rw [HS.out]; simp [sumW]),hBr⟩
def ccell (y:Cho):Nat→Value
 | 0 => .int .i64 y.s.a
 | 1 => .int .i64 y.s.b
 | _ => .int .i64 y.x
theorem choW_ok (y:Cho) (w:World) :
  Calls Tryz.prog 54 #[.agg #[.int .i64 y.s.a,.int .i64 y.s.b,.int .i64 y.x]] w fun r w'=>r = .returned (.int .i64 y.x)∧Below w.heap.size w w':=by
 go_enter Tryz.func54,Tryz.ntmps54
 go_wp2
 go_ret
 exact ⟨rfl,(Below.refl _ _).alloc (Nat.le_refl _) _⟩
set_option maxRecDepth 100000 in
set_option maxHeartbeats 1600000 in
theorem greatest_ok (sv:Value) (l:List Cho) (w:World) (hne:l≠[]) (hs:Arr w w.heap.size 3 sv l ccell) :
  Calls Tryz.prog 53 #[sv,.func (.func 54) #[] #[]] w fun r w'=>r = .returned (.agg #[.int .i64 (pick l).s.a,.int .i64 (pick l).s.b,.int .i64 (pick l).x])∧Below w.heap.size w w':=by
 obtain ⟨sa,sc,rfl,hs'⟩:=id hs
 clear hs'
 have hpos:0 < l.length:=List.length_pos_iff.2 hne
 obtain ⟨b,off,y,rfl,hBb,hy,hcc⟩:=hs.at_ hpos
 obtain ⟨_,hl1,hl2⟩:=hs.len_
 have c0:=hcc 0 (by omega)
 have c1:=hcc 1 (by omega)
 have c2:=hcc 2 (by omega)
 simp only [Nat.add_zero,Nat.zero_mul,ccell] at c0 c1 c2
 clear hcc
 have hel:∀ k,k+1 < l.length→∃ x:Cho,l[k+1]? = some x∧w.cell? ⟨b,off+3+k * 3,none⟩=some (.int .i64 x.s.a)∧w.cell? ⟨b,off+3+k * 3+1,none⟩=some (.int .i64 x.s.b)∧w.cell? ⟨b,off+3+k * 3+2,none⟩=some (.int .i64 x.x):=by
  intro k hk
  obtain ⟨b',off',x,hA,_,hx,hc⟩:=hs.at_ hk
  simp only [Option.some.injEq,Addr.mk.injEq,and_true] at hA
  obtain ⟨rfl,rfl⟩:=hA
  refine ⟨x,hx,?_,?_,?_⟩
  ·have:=hc 0 (by omega); rw [show off+(k+1) * 3+0=off+3+k * 3 by omega] at this; exact this
  ·have:=hc 1 (by omega); rw [show off+(k+1) * 3+1=off+3+k * 3+1 by omega] at this; exact this
  ·have:=hc 2 (by omega); rw [show off+(k+1) * 3+2=off+3+k * 3+2 by omega] at this; exact this
 have HEL:=Lib.hid hel
 have hpick:pick l=(l.drop 1).foldl greater y:=by
  cases l with
  | nil=>simp at hpos
  | cons z r=>simp at hy; subst hy; rfl
 have HPK:=Lib.hid hpick
 clear hel hpick
 obtain ⟨res,hres⟩:∃ res,res=pick l:=⟨_,rfl⟩
 rw [← hres]
 have HRES:=Lib.hid hres
 clear hres
 have hxo:=Blk.new (w.alloc (.cells #[.int .i64 0,.int .i64 0,.int .i64 0] 110)) 110 #[.int .i64 y.s.a,.int .i64 y.s.b,.int .i64 y.x]
 have hxr:=(Blk.new w 110 #[.int .i64 0,.int .i64 0,.int .i64 0]).alloc (.cells #[.int .i64 y.s.a,.int .i64 y.s.b,.int .i64 y.x] 110)
 have hB:=((Below.refl w.heap.size w).alloc (Nat.le_refl _) (.cells #[.int .i64 0,.int .i64 0,.int .i64 0] 110)).alloc (by simp) (.cells #[.int .i64 y.s.a,.int .i64 y.s.b,.int .i64 y.x] 110)
 rw [show (w.alloc (.cells #[.int .i64 0,.int .i64 0,.int .i64 0] 110)).heap.size=w.heap.size+1 by simp] at hxo
 have hHY:=Lib.hid hy
 clear hy
 by_cases hsc:sc=1
 case pos =>
  have hl0:l.length=1:=by omega
  have HL0:=Lib.hid hl0
  have HSC:=Lib.hid hsc
  subst hsc
  go_enter Tryz.func53,Tryz.ntmps53
  go_wp2
  generalize hW:(w.alloc (.cells #[.int .i64 0,.int .i64 0,.int .i64 0] 110)).alloc (.cells #[.int .i64 y.s.a,.int .i64 y.s.b,.int .i64 y.x] 110)=W at *
  clear hW
  go_loopw [14] (fun i wr=>i = .int .i64 0∧Blk wr (w.heap.size+1) 110 #[.int .i64 y.s.a,.int .i64 y.s.b,.int .i64 y.x]∧Blk wr w.heap.size 110 #[.int .i64 0,.int .i64 0,.int .i64 0]∧Below w.heap.size w wr) (fun _ _=>0)
  case atStart=>exact ⟨rfl,hxo,hxr,hB⟩
  case round =>
   obtain ⟨rfl,ho,hr,hb⟩:=hrel
   have HE:Hid (res=y):=by rw [Hid,HRES.out,HPK.out,List.drop_eq_nil_of_le (Nat.le_of_eq HL0.out)]; rfl
   clear hl0
   have hl3:l.length-1=0:=by rw [HL0.out]
   have o0:=ho.cell 0
   have o1:=ho.cell 1
   have o2:=ho.cell 2
   have r0:=hr.cell 0
   have r1:=hr.cell 1
   have r2:=hr.cell 2
   simp at o0 o1 o2 r0 r1 r2
   have z0:=hr.frozen 0
   have z1:=hr.frozen 1
   have z2:=hr.frozen 2
   go_wp2
   have hr2:=((hr.set_ 0 (.int .i64 y.s.a)).set_ 1 (.int .i64 y.s.b)).set_ 2 (.int .i64 y.x)
   have t0:=hr2.cell 0
   have t1:=hr2.cell 1
   have t2:=hr2.cell 2
   have hb2:=((hb.setCell (p:=⟨w.heap.size,0,none⟩) (by simp) (.int .i64 y.s.a)).setCell (p:=⟨w.heap.size,1,none⟩) (by simp) (.int .i64 y.s.b)).setCell (p:=⟨w.heap.size,2,none⟩) (by simp) (.int .i64 y.x)
   generalize ((wr.setCell ⟨w.heap.size,0,none⟩ (.int .i64 y.s.a)).setCell ⟨w.heap.size,1,none⟩ (.int .i64 y.s.b)).setCell ⟨w.heap.size,2,none⟩ (.int .i64 y.x)=W3 at *
   simp at t0 t1 t2
   rw [HE.out]
   exact bodyPost_ret (v := .agg #[.int .i64 y.s.a,.int .i64 y.s.b,.int .i64 y.x]) (by simp [results,Tryz.results53,go_sem,t0,t1,t2]) rfl ⟨rfl,hb2⟩
 case neg =>
  go_enter Tryz.func53,Tryz.ntmps53
  go_wp2
  generalize hW:(w.alloc (.cells #[.int .i64 0,.int .i64 0,.int .i64 0] 110)).alloc (.cells #[.int .i64 y.s.a,.int .i64 y.s.b,.int .i64 y.x] 110)=W at *
  clear hW
  go_loopw [14] (fun i wr=>∃ (k:Nat) (o:Cho),k+1≤l.length∧i = .int .i64 k∧pick l=(l.drop (k+1)).foldl greater o∧Blk wr (w.heap.size+1) 110 #[.int .i64 o.s.a,.int .i64 o.s.b,.int .i64 o.x]∧Blk wr w.heap.size 110 #[.int .i64 0,.int .i64 0,.int .i64 0]∧Below w.heap.size w wr) (fun i _=>l.length-(intOf i).toNat)
  case atStart=>exact ⟨0,y,by omega,rfl,HPK.out,hxo,hxr,hB⟩
  case round =>
   obtain ⟨k,o,hk,rfl,hp,ho,hr,hb⟩:=hrel
   by_cases hlt:k+1 < l.length
   ·obtain ⟨x,hx,d0,d1,d2⟩:=HEL.out k hlt
    have e0:=(hb.cell (p:=⟨b,off+3+k * 3,none⟩) hBb).trans d0
    have e1:=(hb.cell (p:=⟨b,off+3+k * 3+1,none⟩) hBb).trans d1
    have e2:=(hb.cell (p:=⟨b,off+3+k * 3+2,none⟩) hBb).trans d2
    clear d0 d1 d2
    have hstep:(l.drop (k+1)).foldl greater o=(l.drop (k+1+1)).foldl greater (greater o x):=by
     rw [List.drop_eq_getElem_cons hlt,show l[k+1]=x by rw [List.getElem?_eq_getElem hlt] at hx; injection hx,List.foldl_cons]
    rw [hstep] at hp
    have HP:=Lib.hid hp
    clear hp hstep hx
    have q1:=ho.lt
    have q2:b < wr.heap.size:=by have:=hb.size; omega
    have hon:=ho.alloc (.cells #[.int .i64 x.s.a,.int .i64 x.s.b,.int .i64 x.x] 110)
    have hrn:=hr.alloc (.cells #[.int .i64 x.s.a,.int .i64 x.s.b,.int .i64 x.x] 110)
    have hxn:=Blk.new wr 110 #[.int .i64 x.s.a,.int .i64 x.s.b,.int .i64 x.x]
    have hbn:=hb.alloc hb.size (.cells #[.int .i64 x.s.a,.int .i64 x.s.b,.int .i64 x.x] 110)
    go_wp2_with fail
    generalize hW2:wr.alloc (.cells #[.int .i64 x.s.a,.int .i64 x.s.b,.int .i64 x.x] 110)=W2 at *
    clear hW2
    have o0:=hon.cell 0
    have o1:=hon.cell 1
    have o2:=hon.cell 2
    have x0:=hxn.cell 0
    have x1:=hxn.cell 1
    have x2:=hxn.cell 2
    simp at o0 o1 o2 x0 x1 x2
    have f0:=Ext.of o0
    have f1:=Ext.of o1
    have f2:=Ext.of o2
    have g0:=Ext.of x0
    have g1:=Ext.of x1
    have g2:=Ext.of x2
    have hc1:∀ z:Ext W2,Calls Tryz.prog 54 #[.agg #[.int .i64 x.s.a,.int .i64 x.s.b,.int .i64 x.x]] z.w fun e w''=>e = .returned (.int .i64 x.x)∧∃ y:Ext W2,w''=y.w:=fun z=>ext_call z (choW_ok x z.w)
    have hc2:∀ z:Ext W2,Calls Tryz.prog 54 #[.agg #[.int .i64 o.s.a,.int .i64 o.s.b,.int .i64 o.x]] z.w fun e w''=>e = .returned (.int .i64 o.x)∧∃ y:Ext W2,w''=y.w:=fun z=>ext_call z (choW_ok o z.w)
    have HC1:=Lib.hid hc1
    have HC2:=Lib.hid hc2
    clear hc1 hc2
    refine wp_region_ext (by kernel_rfl) (by kernel_rfl) ?_
    repeat (go_big_quiet_step (first | (go_at_call 54; with_reducible exact HC1.out _) | (go_at_call 54; with_reducible exact HC2.out _)))
    refine wpQuiet_nil ?_
    intro _ hw'
    obtain ⟨xr,hw''⟩:=hw'
    subst hw''
    by_cases hgt:o.x < x.x
    ·have HQ:Hid (greater o x=x):=by rw [Hid,greater,if_pos hgt]
     have hon':=hon.call xr.h
     have hrn':=hrn.call xr.h
     have z0:=hon'.frozen 0
     have z1:=hon'.frozen 1
     have z2:=hon'.frozen 2
     have hb1:=hbn.trans (xr.h.mono hbn.size)
     have hb2:=((hb1.setCell (p:=⟨w.heap.size+1,0,none⟩) (by simp) (.int .i64 x.s.a)).setCell (p:=⟨w.heap.size+1,1,none⟩) (by simp) (.int .i64 x.s.b)).setCell (p:=⟨w.heap.size+1,2,none⟩) (by simp) (.int .i64 x.x)
     have hon2:=((hon'.set_ 0 (.int .i64 x.s.a)).set_ 1 (.int .i64 x.s.b)).set_ 2 (.int .i64 x.x)
     have hrn2:=((hrn'.far (p:=⟨w.heap.size+1,0,none⟩) (by simp) (.int .i64 x.s.a)).far (p:=⟨w.heap.size+1,1,none⟩) (by simp) (.int .i64 x.s.b)).far (p:=⟨w.heap.size+1,2,none⟩) (by simp) (.int .i64 x.x)
     go_wp2
     go_roundw
     case rel=>exact ⟨k+1,x,by omega,by go_num,by rw [HP.out,HQ.out],hon2,hrn2,hb2⟩
     case measure=>simp [intOf]; omega
    ·have HQ:Hid (greater o x=o):=by rw [Hid,greater,if_neg hgt]
     go_wp2
     go_roundw
     case rel=>exact ⟨k+1,o,by omega,by go_num,by rw [HP.out,HQ.out],hon.call xr.h,hrn.call xr.h,hbn.trans (xr.h.mono hbn.size)⟩
     case measure=>simp [intOf]; omega
   ·have HQ:Hid (pick l=o):=by rw [Hid,hp,List.drop_eq_nil_of_le (by omega)]; rfl
    have HE:Hid (res=o):=by rw [Hid,HRES.out,HQ.out]
    clear hp
    have o0:=ho.cell 0
    have o1:=ho.cell 1
    have o2:=ho.cell 2
    have r0:=hr.cell 0
    have r1:=hr.cell 1
    have r2:=hr.cell 2
    simp at o0 o1 o2 r0 r1 r2
    have z0:=hr.frozen 0
    have z1:=hr.frozen 1
    have z2:=hr.frozen 2
    go_wp2
    have hr2:=((hr.set_ 0 (.int .i64 o.s.a)).set_ 1 (.int .i64 o.s.b)).set_ 2 (.int .i64 o.x)
    have t0:=hr2.cell 0
    have t1:=hr2.cell 1
    have t2:=hr2.cell 2
    have hb2:=((hb.setCell (p:=⟨w.heap.size,0,none⟩) (by simp) (.int .i64 o.s.a)).setCell (p:=⟨w.heap.size,1,none⟩) (by simp) (.int .i64 o.s.b)).setCell (p:=⟨w.heap.size,2,none⟩) (by simp) (.int .i64 o.x)
    generalize ((wr.setCell ⟨w.heap.size,0,none⟩ (.int .i64 o.s.a)).setCell ⟨w.heap.size,1,none⟩ (.int .i64 o.s.b)).setCell ⟨w.heap.size,2,none⟩ (.int .i64 o.x)=W3 at *
    simp at t0 t1 t2
    rw [HE.out]
    exact bodyPost_ret (v := .agg #[.int .i64 o.s.a,.int .i64 o.s.b,.int .i64 o.x]) (by simp [results,Tryz.results53,go_sem,t0,t1,t2]) rfl ⟨rfl,hb2⟩
end Go.Proofs.YtaihbcmifjmapaaGreat
namespace Go.Proofs.YtaihbcmifjmapaaGreat
open Go.RowKit Go.Shelf
set_option linter.unusedVariables false
theorem index_int_ok (sv:Value) (l:List Int) (v:Int) (w:World) (hs:Arr w w.heap.size 1 sv l icell) :
  Calls Tryz.prog 216 #[sv,.int .i64 v] w fun r w'=>r = .returned (.int .i64 (idxOf (fun x=>v==x) 0 l))∧Below w.heap.size w w':=by
 obtain ⟨A,c,rfl,hn,hc,hcell⟩:=hs
 go_enter Tryz.func216,Tryz.ntmps216
 go_wp2
 go_loopw [5,8] (fun x i wr=>∃ k:Nat,k≤l.length∧i = .int .i64 k∧idxOf (fun x=>v==x) 0 l=idxOf (fun x=>v==x) k (l.drop k)∧Below w.heap.size w wr) (fun _ i _=>l.length-(intOf i).toNat)
 case atStart=>exact ⟨0,Nat.zero_le _,rfl,rfl,Below.refl _ _⟩
 case round =>
  obtain ⟨k,hk,rfl,hf,hb⟩:=hrel
  by_cases hlt:k < l.length
  ·obtain ⟨b,off,rfl,hB,hcc⟩:=hcell (by omega)
   obtain ⟨x,hx⟩:∃ x,l[k]? = some x:=⟨l[k],List.getElem?_eq_getElem hlt⟩
   have hce:=(hb.cell (p:=⟨b,off+k*1+0,none⟩) hB).trans (hcc k x hx 0 (by omega))
   simp only [Nat.mul_one,Nat.add_zero] at hce
   rw [idxOf_drop _ l k x hx] at hf
   have H:=Lib.hid hf; clear hf
   clear hcc hcell hx
   by_cases hv:v=x
   ·have h1:(v==x)=true:=by simpa using hv
    have HV:Hid ((v==x)=true):=h1
    go_wp2
    go_ret
    exact ⟨ret_i (by rw [H.out]; simp [HV.out]),hb⟩
   ·have h1:(v==x)=false:=by simpa using hv
    have HV:Hid ((v==x)=false):=h1
    go_wp2
    go_roundw
    case rel=>exact ⟨k+1,by omega,by go_num,by rw [H.out]; simp [HV.out],hb⟩
    case measure=>(simp [intOf]; try omega)
  ·obtain rfl:k=l.length:=by omega
   have H:=Lib.hid hf; clear hf
   go_wp2
   go_ret
   exact ⟨by rw [H.out]; simp [idxOf],hb⟩
theorem contains_int_ok (sv:Value) (l:List Int) (v:Int) (w:World) (hs:Arr w w.heap.size 1 sv l icell) :
  Calls Tryz.prog 93 #[sv,.int .i64 v] w fun r w'=>r = .returned (.bool (l.any fun x=>v==x))∧Below w.heap.size w w':=by
 have hi:=index_int_ok sv l v w hs
 have HD:=Lib.hid (idxOf_nonneg (fun x=>v==x) l 0)
 clear hs
 go_enter Tryz.func93,Tryz.ntmps93
 go_wp2_with (go_at_call 216; refine hi.mono ?_; rintro e w1 ⟨rfl,hb1⟩)
 go_ret
 exact ⟨by rw [← HD.out]; simp,hb1⟩
theorem stretches_ok (g:Nat) (w:World) :
  Calls Tryz.prog 51 #[.pointer (some ⟨g,0,none⟩)] w fun r w'=>r = .returned (.func (.func 127) #[] #[.pointer (some ⟨w.heap.size,0,none⟩)])∧w.alloc (.cells #[.pointer (some ⟨g,0,none⟩)] 48)=w':=by
 go_enter Tryz.func51,Tryz.ntmps51
 go_wp2
 go_ret
 exact ⟨rfl,rfl⟩
def KeepsBoard (g gb:Nat) (W W':World):Prop:=∀ k,k≤g∨k=gb→W'.heap[k]? = W.heap[k]?
theorem grown_of_below {w w':World} (h:Below w.heap.size w w'):w.grownBy w' none:=⟨h.os,h.tape,h.output,h.size,fun k hk _=>h.block k hk⟩
def encStr (T:Nat) (s:VStr T):Array Value:=#[.agg #[.int .i64 s.1.a,.int .i64 s.1.b]]
attribute [local go_sem] Oper.semAt_some
set_option maxRecDepth 100000 in
set_option maxHeartbeats 1600000 in
theorem stretches_stops (n B g gb:Nat) (c:Cyl) (fa pa:Option Addr) (fc pc:Nat) (V:Nat→Nat→Int) (m:Value) (T:Nat) (hT:c.turns=T) (hT2:T≤30) (hL:c.long≤30) (w:World)
  (hbd:Board w B g c fa fc pa pc V m) (hx:Blk w gb 48 #[.pointer (some ⟨g,0,none⟩)]) :
  SeqStopsK Fence.wide (n+3) Tryz.prog 127 #[.pointer (some ⟨gb,0,none⟩)] (encStr T) (KeepsBoard g gb) (fun xs=>xs.map (·.1)=allStr c T) (fun pre=>pre.map (·.1) <+: allStr c T) (allStr c T).length w:=by
 intro l J Jx W hW hJ hJx hY h0
 have hbW:=hbd.call hW
 have hxW:=hx.call hW
 have HT:=Lib.hid hT
 refine callsIn_of_wp Tryz.func127 rfl trivial ?_ rfl
 simp only [Tryz.ntmps127,List.size_toArray,List.length_cons,List.length_nil,Nat.reduceAdd,Nat.reduceSub,Array.replicate_succ,Array.replicate_zero,List.push_toArray,List.append_toArray,List.nil_append,List.cons_append]
 obtain ⟨k0,k1,k2,k3,k4⟩:=hbW.c5
 have kx:=hxW.cell 0
 simp at kx
 rw [hT] at k0
 clear hT
 have hfn:Fence.wide.fn 93:=trivial
 gi_wp2
 gi_loopw [3,4,10] (fun a b i wr=>∃ (k:Nat) (pre:List (VStr T)),k≤T∧i = .int .i64 k∧pre.map (·.1)=allStr c k∧J pre wr∧Board wr B g c fa fc pa pc V m∧Blk wr gb 48 #[.pointer (some ⟨g,0,none⟩)]) (fun _ _ i _=>T-(intOf i).toNat)
 case atStart=>exact ⟨0,[],by omega,rfl,rfl,h0,hbW,hxW⟩
 case round =>
  obtain ⟨k,pre0,hk,rfl,hp0,hJ0,hbr,hxr⟩:=hrel
  have HP0:=Lib.hid hp0
  clear hp0
  clear k0 k1 k2 k3 k4 kx
  obtain ⟨k0,k1,k2,k3,k4⟩:=hbr.c5
  rw [HT.out] at k0
  have kx:=hxr.cell 0
  simp at kx
  by_cases hlt:k < T
  ·obtain ⟨wo,rfl⟩:∃ wo:World,wo=wr:=⟨_,rfl⟩
   have hpre:=allStr_le c (show k+1≤T by omega)
   gi_wp2
   gi_loopw [4] (fun f wr=>∃ (q:Nat) (pre:List (VStr T)),q≤k+1∧f = .int .i64 ((q:Int)-1)∧pre.map (·.1)++strFrom c k q=allStr c (k+1)∧J pre wr∧Board wr B g c fa fc pa pc V m∧Blk wr gb 48 #[.pointer (some ⟨g,0,none⟩)]) (fun f _=>(intOf f+1).toNat)
   case atStart=>exact ⟨k+1,pre0,by omega,by congr 1; omega,by rw [HP0.out]; rfl,hJ0,hbr,hxr⟩
   case round =>
    obtain ⟨q,pre,hq,rfl,hp,hJ1,hb1,hx1⟩:=hrel
    clear k0 k1 k2 k3 k4 kx
    obtain ⟨k0,k1,k2,k3,k4⟩:=hb1.c5
    have kx:=hx1.cell 0
    simp at kx
    have HP:=Lib.hid hp
    clear hp
    rcases q with _ | q
    ·have hA:Hid (pre.map (·.1)=allStr c (k+1)):=by rw [Hid,← HP.out]; simp [strFrom]
     gi_wp2
     go_roundw
     case rel=>exact ⟨k+1,pre,by omega,by go_num,hA.out,hJ1,hb1,hx1⟩
     case measure=>(simp [intOf]; try omega)
    ·rw [show ((q+1:Nat):Int)-1=(q:Int) by omega]
     by_cases hlg:(k:Int)-q < c.long
     ·have hcon:=contains_int_ok (.slice fa c.frag.length fc) c.frag q wr (hb1.fr.more (by have:=hb1.le; have:=hb1.blk.lt; omega))
      gi_wp2_with fail
      refine (callsIn_wide.2 hcon).mono ?_
      rintro e w2 ⟨rfl,hb2⟩
      have hJ2:=hJ pre wr w2 none hJ1 (grown_of_below hb2) (by simp)
      have hbd2:=hb1.call hb2
      have hx2:=hx1.call hb2
      clear k0 k1 k2 k3 k4 kx hcon
      obtain ⟨k0,k1,k2,k3,k4⟩:=hbd2.c5
      have kx:=hx2.cell 0
      simp at kx
      cases hc:c.frag.any fun x=>(q:Int)==x
      ·have hA:Hid ((pre.map (·.1)++[⟨q,k⟩])++strFrom c k q=allStr c (k+1)):=by
        rw [Hid,← HP.out]
        simp only [strFrom,hc]
        simp [hlg]
       have hlen:pre.length < (allStr c T).length:=by
        have h1:=hpre.length_le
        rw [← hA.out] at h1
        simp at h1
        omega
       obtain ⟨fn,tmps,assign,body,hy,hR⟩:=hY pre ⟨⟨q,k⟩,by simp,by simp; omega,by simp; omega⟩ w2 hJ2 hlen
       dsimp only [encStr] at hy
       clear hc
       gi_wp2
       refine hR.mono ?_
       rintro e W3 (⟨rfl,hJ3,hk3⟩ | ⟨rfl,hJx3⟩)
       ·have hbd3:=hbd2.same (W':=W3) (fun j hj=>hk3 j (.inl hj))
        have hx3:Blk W3 gb 48 #[.pointer (some ⟨g,0,none⟩)]:=(hk3 gb (.inr rfl)).trans hx2
        gi_wp2
        go_roundw
        case rel=>exact ⟨q,_,by omega,rfl,by rw [List.map_append]; exact hA.out,hJ3,hbd3,hx3⟩
        case measure=>(simp [intOf]; try omega)
       ·gi_wp2
        refine bodyPost_ret (results_none rfl _ _ _) rfl ?_
        refine ⟨⟨_,rfl⟩,.inr ⟨_,List.IsPrefix.trans ⟨strFrom c k q,by rw [List.map_append]; exact hA.out⟩ hpre,hJx3⟩⟩
      ·have hA:Hid (pre.map (·.1)=allStr c (k+1)):=by
        rw [Hid,← HP.out]
        simp only [strFrom,hc]
        simp
       clear hc
       gi_wp2
       go_roundw
       case rel=>exact ⟨k+1,pre,by omega,by go_num,hA.out,hJ2,hbd2,hx2⟩
       case measure=>(simp [intOf]; try omega)
     ·have hA:Hid (pre.map (·.1)=allStr c (k+1)):=by
       rw [Hid,← HP.out]
       simp only [strFrom]
       simp [hlg]
      gi_wp2
      go_roundw
      case rel=>exact ⟨k+1,pre,by omega,by go_num,hA.out,hJ1,hb1,hx1⟩
      case measure=>(simp [intOf]; try omega)
  ·obtain rfl:k=T:=by omega
   gi_wp2
   go_end0
   exact ⟨⟨_,rfl⟩,.inl ⟨_,HP0.out,hJ0⟩⟩
end Go.Proofs.YtaihbcmifjmapaaGreat
namespace Go.Proofs.YtaihbcmifjmapaaGreat
open Go.RowKit Go.Shelf
set_option linter.unusedVariables false
abbrev kv (a b:Int):Value := .agg #[.int .i64 a,.int .i64 b]
structure KeyII (k:TypeId):Prop where
 und:∃ fs,Tryz.prog.underlying k=some (.struct fs)
 eq:∀ a b c d w,(Op.equal k (kv a b) (kv c d)).run Tryz.prog w = .ok (a==c&&b==d) w
 ck:∀ e a b w,(Instr.checkKey e 10000 k (kv a b)).run Tryz.prog w = .ok () w
def findII (a b:Int):List (Int×Int×Value)→Nat→Option (Nat×Value)
 | [],_=>none
 | x::l,i=>if (a==x.1&&b==x.2.1)=true then some (i,x.2.2) else findII a b l (i+1)
def entriesOf (es:List MapEntry) (l:List (Int×Int×Value)):Prop:=es.map (fun e=>(e.key,e.val))=l.map fun x=>(kv x.1 x.2.1,x.2.2)
theorem run_findAsking {k:TypeId} (K:KeyII k) (a b:Int) (w:World):∀ (es:List MapEntry) (l:List (Int×Int×Value)) (i:Nat),entriesOf es l →
  (Instr.findAsking k (kv a b) es i).run Tryz.prog w = .ok (findII a b l i) w
 | [],[],i,_=>by simp [Instr.findAsking,findII]
 | [],x::l,i,h=>by simp [entriesOf] at h
 | e::es,[],i,h=>by simp [entriesOf] at h
 | e::es,x::l,i,h=>by
   simp only [entriesOf,List.map_cons,List.cons.injEq,Prod.mk.injEq] at h
   obtain ⟨⟨h1,h2⟩,h3⟩:=h
   have ih:=run_findAsking K a b w es l (i+1) h3
   simp only [Instr.findAsking,Sem.run_bind,h1,K.eq,Result.andThen_ok,findII]
   cases hh:(a==x.1&&b==x.2.1)
   ·simpa [hh] using ih
   ·simp [h2]
theorem run_findKey {k:TypeId} (K:KeyII k) (a b:Int) (w:World) (es:List MapEntry) (l:List (Int×Int×Value)) (h:entriesOf es l) :
  (Instr.findKey k (kv a b) es).run Tryz.prog w = .ok (findII a b l 0) w:=by
 obtain ⟨fs,hu⟩:=K.und
 simp only [Instr.findKey,Sem.run_bind,run_underlying hu,Result.andThen_ok]
 cases es with
 | nil =>
   cases l with
   | nil=>simp [Instr.findNow,findII]
   | cons x l=>simp [entriesOf] at h
 | cons e es =>
   have:Instr.findNow (.struct fs) (kv a b) (e::es) 0=none:=by simp [Instr.findNow,Instr.sameNow]
   rw [this]
   exact run_findAsking K a b w (e::es) l 0 h
def MapOf (w:World) (g:Nat) (B:Int→Int→Option Value):Prop :=
 ∃ es clock l,w.heap[g]? = some (.map es clock)∧entriesOf es.toList l∧∀ a b,(findII a b l 0).map (·.2)=B a b
def putMap (w:World) (g:Nat) (es:Array MapEntry) (clock:Nat):World:={ w with heap:=w.heap.setIfInBounds g (.map es clock) }
theorem MapOf.lt {w:World} {g:Nat} {B:Int→Int→Option Value} (h:MapOf w g B):g < w.heap.size:=by
 obtain ⟨es,clock,l,h1,_⟩:=h
 rcases Nat.lt_or_ge g w.heap.size with hl | hl
 ·exact hl
 ·rw [Array.getElem?_eq_none hl] at h1; cases h1
theorem MapOf.heap {w w':World} {g:Nat} {B:Int→Int→Option Value} (h:MapOf w g B) (hh:w'.heap[g]? = w.heap[g]?):MapOf w' g B:=by
 obtain ⟨es,clock,l,h1,h2⟩:=h
 exact ⟨es,clock,l,hh.trans h1,h2⟩
theorem MapOf.new (w:World):MapOf (w.alloc (.map #[] 0)) w.heap.size fun _ _=>none :=
 ⟨#[],0,[],by unfold World.alloc; simp,rfl,fun _ _=>rfl⟩
theorem findII_none_shift (a b:Int):∀ (l:List (Int×Int×Value)) (i j:Nat),(findII a b l i).map (·.2)=(findII a b l j).map (·.2)
 | [],_,_=>rfl
 | x::l,i,j=>by
   unfold findII
   split
   ·rfl
   ·exact findII_none_shift a b l _ _
theorem findII_append (a b:Int) (y:Int×Int×Value):∀ (l:List (Int×Int×Value)) (i:Nat),findII a b l i=none→(findII a b (l++[y]) i).map (·.2)=if (a==y.1&&b==y.2.1)=true then some y.2.2 else none
 | [],i,_=>by simp only [List.nil_append,findII]; split <;> rfl
 | x::l,i,h=>by
   simp only [List.cons_append,findII] at h ⊢
   split at h
   ·cases h
   ·rename_i hx
    rw [if_neg hx]
    exact findII_append a b y l _ h
theorem findII_append_other (a b:Int) (y:Int×Int×Value) (hy:(a==y.1&&b==y.2.1)=false):∀ (l:List (Int×Int×Value)) (i:Nat),findII a b (l++[y]) i=findII a b l i
 | [],i=>by simp [findII,hy]
 | x::l,i=>by simp only [List.cons_append,findII,findII_append_other a b y hy l]
theorem findII_some (a b:Int):∀ (l:List (Int×Int×Value)) (i n:Nat) (v:Value),findII a b l i=some (n,v)→i≤n∧n-i < l.length∧l[n-i]? = some (a,b,v)
 | [],i,n,v,h=>by simp [findII] at h
 | x::l,i,n,v,h=>by
   unfold findII at h
   split at h
   ·rename_i hx
    simp only [Option.some.injEq,Prod.mk.injEq] at h
    simp only [Bool.and_eq_true,beq_iff_eq] at hx
    obtain ⟨rfl,rfl⟩:=h
    refine ⟨Nat.le_refl _,by simp,?_⟩
    simp [hx.1,hx.2]
   ·obtain ⟨h1,h2,h3⟩:=findII_some a b l (i+1) n v h
    refine ⟨by omega,by simp; omega,?_⟩
    rw [show n-i=(n-(i+1))+1 by omega,List.getElem?_cons_succ]
    exact h3
theorem findII_set (a b a' b':Int) (v v':Value):∀ (l:List (Int×Int×Value)) (i n:Nat),findII a b l i=some (n,v) →
  (findII a' b' (l.set (n-i) (a,b,v')) i).map (·.2)=if (a'==a&&b'==b)=true then some v' else (findII a' b' l i).map (·.2)
 | [],i,n,h=>by simp [findII] at h
 | x::l,i,n,h=>by
   unfold findII at h
   split at h
   ·rename_i hx
    simp only [Option.some.injEq,Prod.mk.injEq] at h
    obtain ⟨rfl,rfl⟩:=h
    simp only [Bool.and_eq_true,beq_iff_eq] at hx
    simp only [Nat.sub_self,List.set_cons_zero,findII,← hx.1,← hx.2]
    split <;> rfl
   ·rename_i hx
    have h1:=(findII_some a b l (i+1) n v h).1
    rw [show n-i=(n-(i+1))+1 by omega,List.set_cons_succ]
    have ih:=findII_set a b a' b' v v' l (i+1) n h
    by_cases hx':(a'==x.1&&b'==x.2.1)=true
    ·simp only [findII,hx',if_true]
     have:(a'==a&&b'==b)=false:=by
      simp only [Bool.and_eq_true,beq_iff_eq] at hx' hx
      simp only [Bool.and_eq_false_iff,beq_eq_false_iff_ne]
      rw [hx'.1,hx'.2]
      by_cases e:a=x.1
      ·right; intro e2; exact hx ⟨e,e2.symm⟩
      ·left; exact fun e2=>e e2.symm
     simp [this]
    ·simp only [findII,hx',if_false,Bool.false_eq_true]
     exact ih
theorem findII_erase (a b a' b':Int) (v:Value) (hne:(a'==a&&b'==b)=false):∀ (l:List (Int×Int×Value)) (i n:Nat),findII a b l i=some (n,v) →
  (findII a' b' (l.eraseIdx (n-i)) i).map (·.2)=(findII a' b' l i).map (·.2)
 | [],i,n,h=>by simp [findII] at h
 | x::l,i,n,h=>by
   unfold findII at h
   split at h
   ·rename_i hx
    simp only [Option.some.injEq,Prod.mk.injEq] at h
    obtain ⟨rfl,rfl⟩:=h
    simp only [Bool.and_eq_true,beq_iff_eq] at hx
    simp only [Nat.sub_self,List.eraseIdx_zero,List.tail_cons,findII,← hx.1,← hx.2,hne]
    exact findII_none_shift _ _ _ _ _
   ·have h1:=(findII_some a b l (i+1) n v h).1
    rw [show n-i=(n-(i+1))+1 by omega,List.eraseIdx_cons_succ]
    have ih:=findII_erase a b a' b' v hne l (i+1) n h
    unfold findII
    split
    ·rfl
    ·exact ih
theorem MapOf.lookup {t k e:TypeId} (K:KeyII k) (ht:Tryz.prog.underlying t=some (.map k e)) {w:World} {g:Nat} {B:Int→Int→Option Value} (h:MapOf w g B) (a b:Int) {z:Value} (hz:(zeroValue e).run Tryz.prog w = .ok z w) :
  (Instr.lookup t (.map (some g)) (kv a b) true).run Tryz.prog w = .ok (match B a b with | some v => .tuple #[v,.bool true] | none => .tuple #[z,.bool false]) w:=by
 obtain ⟨es,clock,l,h1,h2,h3⟩:=h
 have hf:=run_findKey K a b w es.toList l h2
 have hb:=h3 a b
 simp only [Instr.lookup,Sem.run_bind,run_underlying ht,Result.andThen_ok,MapKept.run_getObj_map h1,Sem.run_pure,K.ck,hf]
 cases hh:findII a b l 0 with
 | none =>
   rw [hh] at hb
   simp only [Option.map_none] at hb
   simp [← hb,hz]
 | some r =>
   rw [hh] at hb
   simp only [Option.map_some] at hb
   simp [← hb]
theorem MapOf.lookup1 {t k e:TypeId} (K:KeyII k) (ht:Tryz.prog.underlying t=some (.map k e)) {w:World} {g:Nat} {B:Int→Int→Option Value} (h:MapOf w g B) (a b:Int) {z:Value} (hz:(zeroValue e).run Tryz.prog w = .ok z w) :
  (Instr.lookup t (.map (some g)) (kv a b) false).run Tryz.prog w = .ok ((B a b).getD z) w:=by
 obtain ⟨es,clock,l,h1,h2,h3⟩:=h
 have hf:=run_findKey K a b w es.toList l h2
 have hb:=h3 a b
 simp only [Instr.lookup,Sem.run_bind,run_underlying ht,Result.andThen_ok,MapKept.run_getObj_map h1,Sem.run_pure,K.ck,hf]
 cases hh:findII a b l 0 with
 | none =>
   rw [hh] at hb
   simp only [Option.map_none] at hb
   simp [← hb,hz]
 | some r =>
   rw [hh] at hb
   simp only [Option.map_some] at hb
   simp [← hb]
theorem erase_map {α β:Type} (f:α→β):∀ (l:List α) (n:Nat),(l.eraseIdx n).map f=(l.map f).eraseIdx n
 | [],n=>by simp
 | x::l,0=>by simp
 | x::l,n+1=>by simp [erase_map f l n]
theorem keyStays (a b:Int) (w:World):(Instr.keyThatStays (kv a b) (kv a b)).run Tryz.prog w = .ok (kv a b) w:=by
 simp [Instr.keyThatStays,Instr.sameBits]
theorem MapOf.update {t k e:TypeId} (K:KeyII k) (ht:Tryz.prog.underlying t=some (.map k e)) {w:World} {g:Nat} {B:Int→Int→Option Value} (h:MapOf w g B) (a b:Int) (v:Value) :
  ∃ es clock,(Instr.mapUpdate t (.map (some g)) (kv a b) v).run Tryz.prog w = .ok () (putMap w g es clock)∧MapOf (putMap w g es clock) g fun x y=>if (x==a&&y==b)=true then some v else B x y:=by
 have hlt:=h.lt
 obtain ⟨es,clock,l,h1,h2,h3⟩:=h
 have hf:=run_findKey K a b w es.toList l h2
 cases hh:findII a b l 0 with
 | none =>
   refine ⟨es.push { key:=kv a b,val:=v,born:=clock },clock+1,?_,es.push { key:=kv a b,val:=v,born:=clock },clock+1,l++[(a,b,v)],?_,?_,fun x y=>?_⟩
   ·simp [Instr.mapUpdate,run_underlying ht,MapKept.run_getObj_map h1,K.ck,hf,hh,MapKept.run_setObj_map _ h1,Result.andThen,putMap]
   ·simp [putMap,hlt]
   ·unfold entriesOf at h2 ⊢
    simp [h2]
   ·show _=if (x==a&&y==b)=true then some v else B x y
    by_cases hxy:(x==a&&y==b)=true
    ·rw [if_pos hxy]
     simp only [Bool.and_eq_true,beq_iff_eq] at hxy
     rw [hxy.1,hxy.2,findII_append a b _ l 0 hh]
     simp
    ·rw [if_neg hxy,findII_append_other x y _ (by simpa using hxy)]
     exact h3 x y
 | some r =>
   obtain ⟨n,u⟩:=r
   obtain ⟨_,h5,h6⟩:=findII_some a b l 0 n u hh
   simp only [Nat.sub_zero] at h5 h6
   have hlen:es.toList.length=l.length:=by
    have:=congrArg List.length h2
    simpa using this
   have hen:n < es.size:=by simpa using (by omega:n < es.toList.length)
   have hkey:es[n].key=kv a b:=by
    have:=congrArg (fun q=>q[n]?) h2
    simp [h6,hen] at this
    exact this.1
   refine ⟨es.modify n fun e=>{ e with key:=kv a b,val:=v },clock,?_,es.modify n (fun e=>{ e with key:=kv a b,val:=v }),clock,l.set n (a,b,v),?_,?_,fun x y=>?_⟩
   ·simp [Instr.mapUpdate,run_underlying ht,MapKept.run_getObj_map h1,K.ck,hf,hh,hen,hkey,keyStays,MapKept.run_setObj_map _ h1,Result.andThen,putMap]
   ·simp [putMap,hlt]
   ·unfold entriesOf at h2 ⊢
    apply List.ext_getElem?
    intro i
    have:=congrArg (fun q=>q[i]?) h2
    simp only [List.getElem?_map,Array.getElem?_toList] at this ⊢
    rw [Array.getElem?_modify,List.getElem?_set]
    by_cases hi:n=i
    ·subst hi
     simp [hen,h5]
    ·simpa [hi] using this
   ·have:=findII_set a b x y u v l 0 n hh
    simp only [Nat.sub_zero] at this
    show _=if (x==a&&y==b)=true then some v else B x y
    rw [this]
    split
    ·rfl
    ·exact h3 x y
theorem MapOf.delete {t k e:TypeId} (K:KeyII k) (ht:Tryz.prog.underlying t=some (.map k e)) {w:World} {g:Nat} {B:Int→Int→Option Value} (h:MapOf w g B) (a b:Int) (ty:TypeId) (ats:Array TypeId) (hat:ats[0]? = some t) :
  ∃ es clock B',(Builtin.delete_ ats ty #[.map (some g),kv a b]).run Tryz.prog w = .ok (.tuple #[]) (putMap w g es clock)∧MapOf (putMap w g es clock) g B'∧∀ x y,(x==a&&y==b)=false→B' x y=B x y:=by
 have hlt:=h.lt
 obtain ⟨es,clock,l,h1,h2,h3⟩:=h
 have hf:=run_findKey K a b w es.toList l h2
 cases hh:findII a b l 0 with
 | none =>
   refine ⟨es,clock,B,?_,⟨es,clock,l,by simp [putMap,hlt],h2,h3⟩,fun _ _ _=>rfl⟩
   simp [Builtin.delete_,hat,run_underlying ht,MapKept.run_getObj_map h1,K.ck,hf,hh,MapKept.run_setObj_map _ h1,Result.andThen,putMap]
 | some r =>
   obtain ⟨n,u⟩:=r
   obtain ⟨_,h5,h6⟩:=findII_some a b l 0 n u hh
   simp only [Nat.sub_zero] at h5 h6
   refine ⟨es.eraseIdxIfInBounds n,clock,fun x y=>(findII x y (l.eraseIdx n) 0).map (·.2),?_,⟨es.eraseIdxIfInBounds n,clock,l.eraseIdx n,by simp [putMap,hlt],?_,fun _ _=>rfl⟩,fun x y hxy=>?_⟩
   ·simp [Builtin.delete_,hat,run_underlying ht,MapKept.run_getObj_map h1,K.ck,hf,hh,MapKept.run_setObj_map _ h1,Result.andThen,putMap]
   ·unfold entriesOf at h2 ⊢
    have hen:n < es.size:=by
     have:=congrArg List.length h2
     simp at this; omega
    simp only [Array.eraseIdxIfInBounds,hen,dif_pos,Array.toList_eraseIdx]
    rw [erase_map,erase_map,h2]
   ·have:=findII_erase a b x y u hxy l 0 n hh
    simp only [Nat.sub_zero] at this
    exact this.trans (h3 x y)
end Go.Proofs.YtaihbcmifjmapaaGreat
namespace Go.Proofs.YtaihbcmifjmapaaGreat
open Go.RowKit Go.Shelf
set_option linter.unusedVariables false
theorem Board.setCells_ {B g:Nat} {c:Cyl} {fa pa:Option Addr} {fc pc:Nat} {m:Value} {t:Nat} (ht:t < 31) (r:Nat→Int):∀ (n j:Nat) (W:World) (V:Nat→Nat→Int),j+n≤7→Board W B g c fa fc pa pc V m →
  Board (W.setCells g (5+t * 7+j) ((List.range' j n).map fun k=>Value.int .i64 (r k))) B g c fa fc pa pc (fun t' k'=>if t'=t∧j≤k'∧k' < j+n then r k' else V t' k') m
 | 0,j,W,V,_,h=>by
   have e:(fun t' k'=>if t'=t∧j≤k'∧k' < j+0 then r k' else V t' k')=V:=by
    funext t' k'
    rw [if_neg (by omega)]
   rw [e]
   exact h
 | n+1,j,W,V,hj,h=>by
   rw [List.range'_succ,List.map_cons,World.setCells]
   have h1:=h.set_ (V':=fun t' k'=>if t'=t∧k'=j then r j else V t' k') (x:=r j) ht (show j < 7 by omega) (fun _ _ _ _=>rfl)
   have h2:=Board.setCells_ ht r n (j+1) _ _ (by omega) h1
   rw [show 5+t * 7+(j+1)=5+t * 7+j+1 by omega] at h2
   have e:(fun t' k'=>if t'=t∧j≤k'∧k' < j+(n+1) then r k' else V t' k')=fun t' k'=>if t'=t∧j+1≤k'∧k' < j+1+n then r k' else if t'=t∧k'=j then r j else V t' k':=by
    funext t' k'
    by_cases h3:t'=t∧j+1≤k'∧k' < j+1+n
    ·rw [if_pos h3,if_pos (by omega)]
    ·rw [if_neg h3]
     by_cases h4:t'=t∧k'=j
     ·rw [if_pos h4,if_pos (by omega),h4.2]
     ·rw [if_neg h4,if_neg (by omega)]
   rw [e]
   exact h2
theorem run_clear7 (g o:Nat) (c:Nat) (w:World) (ty:TypeId) (hc:∀ j,j < 7→(w.cell? ⟨g,o+j,none⟩).isSome=true) (hf:∀ j,w.frozen? ⟨g,j,none⟩=false) :
  (Builtin.clear_ #[39] ty #[.slice (some ⟨g,o,none⟩) 7 c]).run Tryz.prog w = .ok (.tuple #[]) (w.setCells g o ((List.range' 0 7).map fun _=>Value.int .i64 0)):=by
 have hz:(zeroValue 2).run Tryz.prog w = .ok (.int .i64 0) w:=by kernel_rfl
 have hst:=run_storeCells_cells (P:=Tryz.prog) g o ((List.range' 0 7).map fun _=>Value.int .i64 0) 0 w (by simpa using hc) (by intro j _; exact hf _) (by simp [Value.oneCell'])
 rw [Nat.add_zero] at hst
 have hzc:(Builtin.zeroCells (Value.int IntKind.i64 0).cells 7).toList=(List.range' 0 7).map fun _=>Value.int .i64 0:=by kernel_rfl
 simp only [Builtin.clear_]
 simp [run_underlying Tryz.underlying39,hz,hzc,hst,Result.andThen]
theorem Board.congr {W:World} {B g:Nat} {c:Cyl} {fa pa:Option Addr} {fc pc:Nat} {V V':Nat→Nat→Int} {m:Value} (h:Board W B g c fa fc pa pc V m) (hV:∀ t k,t < 31→k < 7→V' t k=V t k):Board W B g c fa fc pa pc V' m:=by
 have e:bcells c fa fc pa pc V m=bcells c fa fc pa pc V' m:=by
  apply Array.ext_getElem?
  intro i
  rw [bget,bget]
  by_cases h5:i < 5
  ·rw [if_pos h5,if_pos h5]
  ·rw [if_neg h5,if_neg h5]
   by_cases h6:i < 222
   ·rw [if_pos h6,if_pos h6,wcell,wcell,hV _ _ (by omega) (by omega)]
   ·rw [if_neg h6,if_neg h6]
 exact ⟨e ▸ h.blk,h.fr,h.ps,h.le⟩
theorem grown_setCell {w:World} {g o:Nat} (v:Value):w.grownBy (w.setCell ⟨g,o,none⟩ v) (some g) :=
 ⟨rfl,rfl,rfl,by simp [World.setCell],fun i hi hr=>Below.heap_setCell w ⟨g,o,none⟩ v i (fun e=>hr (by rw [e]))⟩
theorem grown_setCells {g:Nat}:∀ (vs:List Value) (o:Nat) (w:World),w.grownBy (w.setCells g o vs) (some g)
 | [],_,w=>World.grownBy.refl _ _
 | v::r,o,w=>by
   rw [World.setCells]
   exact grown_trans' (grown_setCell v) (grown_setCells r (o+1) _)
theorem Blk.grown {w w':World} {g:Nat} {t:TypeId} {cs:Array Value} {row:Option Nat} (h:Blk w g t cs) (hb:w.grownBy w' row) (hg:some g≠row):Blk w' g t cs:=(hb.block g h.lt hg).trans h
theorem MapOf.grown {w w':World} {g:Nat} {B:Int→Int→Option Value} {row:Option Nat} (h:MapOf w g B) (hb:w.grownBy w' row) (hg:some g≠row):MapOf w' g B:=h.heap (hb.block g h.lt hg)
end Go.Proofs.YtaihbcmifjmapaaGreat
