/- The iterator of the tones of a song. -/
import Derived.Test.YtjpfjklobnilkaaGreatScN
import Derived.Test.YtjpfjklobnilkaaGreatSeqT
import Derived.Test.YtjpfjklobnilkaaGreatPC
namespace Go.Proofs.YtjpfjklobnilkaaGreat
open Go.RowKit Go.Shelf Sc
set_option linter.unusedVariables false
def encT (t:Tn):Array Value:=#[.agg #[.int .i64 t.lo,.int .i64 t.hi,.int .i64 t.nm]]
theorem tones_ok (g:Nat) (w:World) :
  Calls Tryz.prog 64 #[.pointer (some ⟨g,0,none⟩)] w fun r w'=>r = .returned (.func (.func 143) #[] #[.pointer (some ⟨w.heap.size,0,none⟩)])∧w.alloc (.cells #[.pointer (some ⟨g,0,none⟩)] 52)=w':=by
 go_enter Tryz.func64,Tryz.ntmps64
 go_wp2
 go_ret
 exact ⟨rfl,rfl⟩
def KeepT (B gb:Nat) (W W':World):Prop:=∀ k,(k < B∨k=gb)→W'.heap[k]? = W.heap[k]?
theorem KeepT.trans {B gb:Nat} {X Y Z:World} (h:KeepT B gb X Y) (k:KeepT B gb Y Z):KeepT B gb X Z:=fun i hi=>(k i hi).trans (h i hi)
theorem KeepT.of_grown {B gb:Nat} {W W':World} {row:Option Nat} (hg:W.grownBy W' row) (hl:B≤W.heap.size∧gb < W.heap.size) (hr:∀ r,row=some r→B≤r∧r≠gb):KeepT B gb W W' :=
 fun k hk=>hg.block k (by omega) fun e=>by have:=hr k e.symm; omega
theorem keeps_cells {W W':World} {base:Nat} {row:Option Nat} (hg:W.grownBy W' row) (hr:∀ r,row=some r→r < base∨∃ cs t f,W.heap[r]? = some (.cells cs t f)):KeepsFrom base W W' :=
 ⟨hg.size,fun k o hB hk ho=>(hg.block k (Array.getElem?_eq_some_iff.1 hk).1 fun e=>by
  rcases hr k e.symm with q | ⟨cs,t,f,q⟩
  ·omega
  ·rw [hk] at q
   injection q with q
   subst q
   simp [Obj.isCells] at ho).trans hk⟩
structure SongAt (W:World) (B g:Nat) (s:List Tn) (A:Option Addr) (c:Nat):Prop where
 lt:g < B
 le:B≤W.heap.size
 blk:Blk W g 99 #[.slice A s.length c]
 row:Arr W B 3 (.slice A s.length c) s tcell
section
variable {W W':World} {B g:Nat} {s:List Tn} {A:Option Addr} {c:Nat}
theorem le_of_keep (h:B≤W.heap.size) (hk:∀ k,k < B→W'.heap[k]? = W.heap[k]?):B≤W'.heap.size:=by
 rcases Nat.lt_or_ge W'.heap.size B with hl | hl
 ·have:=hk W'.heap.size hl
  rw [Array.getElem?_eq_none (Nat.le_refl _),Array.getElem?_eq_getElem (by omega)] at this
  cases this
 ·exact hl
theorem SongAt.keep (h:SongAt W B g s A c) (hk:∀ k,k < B→W'.heap[k]? = W.heap[k]?):SongAt W' B g s A c :=
 ⟨h.lt,le_of_keep h.le hk,(hk _ h.lt).trans h.blk,h.row.keep fun p hp=>World.cell?_of_block (hk _ hp)⟩
theorem SongAt.call (h:SongAt W B g s A c) (hb:Below W.heap.size W W'):SongAt W' B g s A c:=h.keep fun k hk=>hb.block k (Nat.lt_of_lt_of_le hk h.le)
theorem SongB.at_ (h:SongB W g s):∃ A c,SongAt W W.heap.size g s A c:=by
 obtain ⟨A,c,h1,h2⟩:=h
 exact ⟨A,c,h1.lt,Nat.le_refl _,h1,h2⟩
end
attribute [local go_sem] Oper.semAt_some
set_option maxRecDepth 100000 in
set_option maxHeartbeats 1600000 in
theorem tones_seq {B g:Nat} {s:List Tn} {A:Option Addr} {c:Nat} (n gb:Nat) (w:World) (hlen:s.length≤12) (hS:SongAt w B g s A c) (hx:Blk w gb 52 #[.pointer (some ⟨g,0,none⟩)]) :
  SeqN Fence.wide (n+3) Tryz.prog 143 #[.pointer (some ⟨gb,0,none⟩)] encT (KeepT B gb) s w:=by
 intro y J W hW hJ hY h0
 replace hS:=hS.call hW
 replace hx:=hx.call hW
 refine callsIn_of_wp Tryz.func143 rfl trivial ?_ rfl
 simp only [Tryz.ntmps143,List.size_toArray,List.length_cons,List.length_nil,Nat.reduceAdd,Nat.reduceSub,Array.replicate_succ,Array.replicate_zero,List.push_toArray,List.append_toArray,List.nil_append,List.cons_append]
 have p0:=hx.cell 0
 have q0:=hS.blk.cell 0
 simp at p0 q0
 refine wpIn_wide.2 ?_
 go_wp2
 go_loopw [10] (fun i wr=>∃ k:Nat,k≤s.length∧i = .int .i64 k∧J (s.take k) wr∧SongAt wr B g s A c∧Blk wr gb 52 #[.pointer (some ⟨g,0,none⟩)]) (fun i _=>s.length-(intOf i).toNat)
 case atStart=>exact ⟨0,by omega,rfl,h0,hS,hx⟩
 case round =>
  clear h0 hS hx p0 q0
  obtain ⟨k,hk,rfl,hJ0,hS,hx⟩:=hrel
  by_cases hlt:k < s.length
  ·obtain ⟨A',c',e1,e2,e3,hcell⟩:=id hS.row
   injection e1 with e1 _ e4
   subst e1
   subst e4
   obtain ⟨b,off,rfl,hBb,hcc⟩:=hcell (by omega)
   obtain ⟨x,hxk⟩:∃ x,s[k]? = some x:=⟨s[k],List.getElem?_eq_getElem hlt⟩
   have c0:=hcc k x hxk 0 (by omega)
   have c1:=hcc k x hxk 1 (by omega)
   have c2:=hcc k x hxk 2 (by omega)
   simp only [Nat.add_zero,tcell] at c0 c1 c2
   have hsp:s.take k++x::s.drop (k+1)=s:=by
    obtain ⟨h1,h2⟩:=List.getElem?_eq_some_iff.1 hxk
    rw [← h2,← List.drop_eq_getElem_cons h1,List.take_append_drop]
   have hst:s.take (k+1)=s.take k++[x]:=by rw [List.take_add_one,hxk]; rfl
   have HSP:=Lib.hid hsp
   have HST:=Lib.hid hst
   clear hcell hcc hxk hsp hst
   go_upto_region 3 with (fail)
   have hb1:=(Below.refl wr.heap.size wr).alloc (Nat.le_refl _) (.cells #[.int .i64 x.lo,.int .i64 x.hi,.int .i64 x.nm] 101)
   have hX:=Blk.new wr 101 #[.int .i64 x.lo,.int .i64 x.hi,.int .i64 x.nm]
   replace hS:=hS.call hb1
   replace hx:=hx.call hb1
   have hJ1:=hJ _ _ _ none hJ0 (grown_of_below hb1) (by simp)
   clear c0 c1 c2 hJ0 hb1
   generalize wr.alloc (.cells #[.int .i64 x.lo,.int .i64 x.hi,.int .i64 x.nm] 101)=w1 at *
   have x0:=hX.cell 0
   have x1:=hX.cell 1
   have x2:=hX.cell 2
   simp at x0 x1 x2
   refine (wpIn_wide (n:=n+3)).1 ?_
   obtain ⟨fn,tmps,assign,body,hy,hR⟩:=hY (s.take k) x (s.drop (k+1)) w1 hJ1 HSP.out
   dsimp only [encT] at hy
   gi_wp2
   refine hR.mono ?_
   rintro e W3 ⟨rfl,hJ3,hk3⟩
   have hS3:=hS.keep fun q hq=>hk3 q (.inl hq)
   have hx3:Blk W3 gb 52 #[.pointer (some ⟨g,0,none⟩)]:=(hk3 gb (.inr rfl)).trans hx
   rw [← HST.out] at hJ3
   clear hR hy hS hx hJ1 hk3
   gi_wp2
   go_wp2
   go_roundw
   case rel=>exact ⟨k+1,by omega,by go_num,hJ3,hS3,hx3⟩
   case measure=>(simp [intOf]; try omega)
  ·obtain rfl:k=s.length:=by omega
   rw [List.take_length] at hJ0
   go_wp2
   go_end0
   exact ⟨⟨_,rfl⟩,hJ0⟩
end Go.Proofs.YtjpfjklobnilkaaGreat
