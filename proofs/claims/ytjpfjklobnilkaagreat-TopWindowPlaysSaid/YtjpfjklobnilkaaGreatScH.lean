/- Contract of high: a short scale, and the tones that bound it. -/
import Derived.Test.YtjpfjklobnilkaaGreatScT
namespace Go.Proofs.YtjpfjklobnilkaaGreat
open Go.RowKit Go.Shelf Sc
set_option linter.unusedVariables false
theorem wpListIn_of {P:Program} {ops:Array Oper} {Q:Exit→Act→World→Prop} {l n:Nat}:∀ {rest:List Oper} {a:Act} {w:World},(rest.all fun o=>match o.op with | .defer _=>false | _=>true)=true→wpList P ops (NoP Q) rest a w→wpListIn (Fence.wide.inRound l) n P ops (NoP Q) rest a w
 | [],a,w,_,h=>h
 | o::rest,a,w,hd,h=>by
   rw [List.all_cons,Bool.and_eq_true] at hd
   have hdo:∀ c,o.op ≠ .defer c:=by
    intro c hc
    have:=hd.1
    rw [hc] at this
    cases this
   unfold wpList at h
   unfold wpListIn
   split at h
   ·rename_i hw
    rw [if_pos hw]
    rcases h with h | ⟨_,a',w',h2⟩
    ·exact wpIn_of_wp hdo (Oper.wp_mono (fun a' w' hh=>wpListIn_of hd.2 hh) h)
    ·exact h2.elim
   ·rename_i hw
    rw [if_neg hw]
    exact ⟨fun _ _=>trivial,wpListIn_of hd.2 h⟩
theorem wpIn_region_plain {P:Program} {id l n:Nat} {Q:Exit→Act→World→Prop} {a:Act} {w:World} {ops:List Oper} (hd:(ops.all fun o=>match o.op with | .defer _=>false | _=>true)=true) (h:wpList P ops.toArray (NoP Q) ops a w) :
  (Code.region id ops.toArray false).wpIn (Fence.wide.inRound l) n P Q a w :=
 wpIn_mono (wpIn_region_lit (wpListIn_of hd h)) NoP_imp
theorem NoP_norm {Q:Exit→Act→World→Prop} {a:Act} {w:World} (h:Q .normal a w):NoP Q .normal a w:=h
def stH (q:Int×List Tn) (t:Tn):Int×List Tn:=if t.lo≤q.1 then q else (t.hi,q.2++[t])
def runH (pre:List Tn):Int×List Tn:=pre.foldl stH (-1,[])
theorem runH_snoc (pre:List Tn) (x:Tn):runH (pre++[x])=stH (runH pre) x:=by simp [runH]
theorem foldH:∀ (l:List Tn) (last:Int) (out:List Tn),(l.foldl stH (last,out)).2=out++greedy last l
 | [],last,out=>by simp [greedy]
 | t::r,last,out=>by
   rw [List.foldl_cons]
   unfold stH greedy
   split
   ·exact foldH r last out
   ·have:=foldH r t.hi (out++[t])
    unfold stH at this
    rw [this,List.append_assoc]
    rfl
theorem runH_all (l:List Tn):(runH l).2=greedy (-1) l:=by
 have:=foldH l (-1) []
 simpa [runH] using this
theorem runH_few:∀ (l:List Tn) (q:Int×List Tn),(l.foldl stH q).2.length≤q.2.length+l.length
 | [],q=>by simp
 | t::r,q=>by
   rw [List.foldl_cons]
   have h1:=runH_few r (stH q t)
   have h2:(stH q t).2.length≤q.2.length+1:=by unfold stH; split <;> simp
   rw [List.length_cons]
   omega
theorem runH_last:∀ (l:List Tn) (q:Int×List Tn),(∀ t∈l,0≤t.hi∧t.hi≤10000)→(-1≤q.1∧q.1≤10000) → -1≤(l.foldl stH q).1∧(l.foldl stH q).1≤10000
 | [],q,_,h=>h
 | t::r,q,hl,h=>by
   rw [List.foldl_cons]
   refine runH_last r (stH q t) (fun x hx=>hl x (List.mem_cons_of_mem _ hx)) ?_
   have:=hl t (List.mem_cons_self ..)
   unfold stH
   split
   ·exact h
   ·dsimp only; omega
theorem slT_i64:SlT 33 2 1 8 (.int .i64 0):=⟨Tryz.underlying33,by kernel_rfl,rfl,by omega⟩
theorem own_two {w:World} {base base' e e' size size' n n':Nat} {v v':Value} {xs xs':List Value} (h:w.ownsRow base e size v n xs) (h':w.ownsRow base' e' size' v' n' xs') (hne:e≠e'):v.ownBlock=none∨v.ownBlock≠v'.ownBlock:=by
 rcases h.2 with ⟨rfl,_⟩ | ⟨g,cap,cur,rfl,_,h2,_⟩
 ·exact .inl rfl
 ·refine .inr fun e0=>?_
  rcases h'.2 with ⟨rfl,_⟩ | ⟨g',cap',cur',rfl,_,h2',_⟩
  ·simp [Value.ownBlock] at e0
  ·simp only [Value.ownBlock,Option.some.injEq] at e0
   subst e0
   rw [h2] at h2'
   injection h2' with h2'
   injection h2' with _ h2'
   exact hne h2'
theorem own_cells {w:World} {base e size n:Nat} {v:Value} {xs:List Value} (h:w.ownsRow base e size v n xs) {r:Nat} (hr:v.ownBlock=some r):base≤r∧∃ cs t f,w.heap[r]? = some (.cells cs t f):=by
 rcases h.2 with ⟨rfl,_⟩ | ⟨g,cap,cur,rfl,h1,h2,_⟩
 ·simp [Value.ownBlock] at hr
 ·simp only [Value.ownBlock,Option.some.injEq] at hr
  subst hr
  exact ⟨h1,_,_,_,h2⟩
structure HiS (w0 W:World) (B g:Nat) (s:List Tn) (A:Option Addr) (c:Nat) (sA:Option Addr) (n sc:Nat) (xs:List Int) (nA:Option Addr) (m nc:Nat) (ys:List Int) (last:Int):Prop where
 sg:SongAt W B g s A c
 cl:Blk W B 32 #[.int .i64 1,.int .i64 0]
 st:Blk W (B+1) 33 #[.slice sA n sc]
 nm:Blk W (B+2) 22 #[.slice nA m nc]
 la:Blk W (B+3) 2 #[.int .i64 last]
 so:W.ownsRow (B+5) 2 1 (.slice sA n sc) n (xs.flatMap (cellsOf 1 icell))
 no:W.ownsRow (B+5) 3 1 (.slice nA m nc) m (ys.flatMap (cellsOf 1 icell))
 sz:B+5≤W.heap.size
 bw:Below B w0 W
section
variable {w0 W W':World} {B g:Nat} {s:List Tn} {A:Option Addr} {c:Nat} {sA:Option Addr} {n sc:Nat} {xs:List Int} {nA:Option Addr} {m nc:Nat} {ys:List Int} {last:Int}
theorem below_row {B:Nat} {w0 W W':World} {row:Option Nat} (h:Below B w0 W) (hg:W.grownBy W' row) (hB:B≤W.heap.size) (hr:∀ r,row=some r→B≤r):Below B w0 W' :=
 ⟨hg.os.trans h.os,hg.tape.trans h.tape,hg.output.trans h.output,Nat.le_trans h.size hg.size,fun k hk=>(hg.block k (Nat.lt_of_lt_of_le hk hB) fun e=>by have:=hr k e.symm; omega).trans (h.block k hk)⟩
theorem HiS.grown (h:HiS w0 W B g s A c sA n sc xs nA m nc ys last) {row:Option Nat} (hg:W.grownBy W' row) (hr:∀ r,row=some r→B+5≤r∧∃ o:Obj,W.heap[r]? = some o∧o.isCells=false):HiS w0 W' B g s A c sA n sc xs nA m nc ys last:=by
 have hk:∀ q,q < B+5→W'.heap[q]? = W.heap[q]? := fun q hq=>hg.block q (Nat.lt_of_lt_of_le hq h.sz) fun e=>by have:=(hr q e.symm).1; omega
 have hne:∀ {e:Nat} {v:Value} {k:Nat} {zs:List Value},W.ownsRow (B+5) e 1 v k zs→v.ownBlock=none∨v.ownBlock≠row:=fun {e v k zs} ho=>by
  cases hv:v.ownBlock with
  | none=>exact .inl rfl
  | some b =>
    refine .inr fun e0=>?_
    obtain ⟨_,cs,t,f,hb⟩:=own_cells ho hv
    obtain ⟨_,o,ho2,hc⟩:=hr b e0.symm
    rw [hb] at ho2
    injection ho2 with ho2
    subst ho2
    simp [Obj.isCells] at hc
 exact ⟨h.sg.keep fun q hq=>hk q (by omega),(hk _ (by omega)).trans h.cl,(hk _ (by omega)).trans h.st,(hk _ (by omega)).trans h.nm,(hk _ (by omega)).trans h.la,
  h.so.kept hg (hne h.so),h.no.kept hg (hne h.no),Nat.le_trans h.sz hg.size,below_row h.bw hg (by have:=h.sz; omega) fun r e=>by have:=(hr r e).1; omega⟩
theorem HiS.app1 (h:HiS w0 W B g s A c sA n sc xs nA m nc ys last) {w4:World} {y:Int} {A':Option Addr} {c':Nat} (hg:W.grownBy w4 (Value.slice sA n sc).ownBlock)
  (ho:w4.ownsRow (B+5) 2 1 (.slice A' (n+1) c') (n+1) ((xs++[y]).flatMap (cellsOf 1 icell))):HiS w0 (w4.setCell ⟨B+1,0,none⟩ (.slice A' (n+1) c')) B g s A c A' (n+1) c' (xs++[y]) nA m nc ys last:=by
 have hlo:∀ r,(Value.slice sA n sc).ownBlock=some r→B+5≤r:=fun r e=>(own_cells h.so e).1
 have hk:∀ q,q < B+5→w4.heap[q]? = W.heap[q]? := fun q hq=>hg.block q (Nat.lt_of_lt_of_le hq h.sz) fun e=>by have:=hlo q e.symm; omega
 have hg2:w4.grownBy (w4.setCell ⟨B+1,0,none⟩ (.slice A' (n+1) c')) (some (B+1)):=grown_setCell _
 have st4:Blk w4 (B+1) 33 #[.slice sA n sc]:=(hk _ (by omega)).trans h.st
 have hs:=st4.set_ 0 (.slice A' (n+1) c')
 simp at hs
 have hk2:∀ q,q < B+5→q≠B+1→(w4.setCell ⟨B+1,0,none⟩ (.slice A' (n+1) c')).heap[q]? = W.heap[q]? := fun q hq hn=>(hg2.block q (Nat.lt_of_lt_of_le (Nat.lt_of_lt_of_le hq h.sz) hg.size) fun e=>hn (by injection e)).trans (hk q hq)
 have no4:=h.no.kept hg (own_two h.no h.so (by decide))
 have hr1:∀ {e:Nat} {v:Value} {k:Nat} {zs:List Value},w4.ownsRow (B+5) e 1 v k zs→v.ownBlock=none∨v.ownBlock≠some (B+1):=fun {e v k zs} ho => .inr fun e0=>by have:=(own_cells ho e0).1; omega
 exact ⟨h.sg.keep fun q hq=>hk2 q (by omega) (by omega),(hk2 _ (by omega) (by omega)).trans h.cl,hs,(hk2 _ (by omega) (by omega)).trans h.nm,(hk2 _ (by omega) (by omega)).trans h.la,
  ho.kept hg2 (hr1 ho),no4.kept hg2 (hr1 no4),Nat.le_trans h.sz (Nat.le_trans hg.size hg2.size),
  below_row (below_row h.bw hg (by have:=h.sz; omega) fun r e=>by have:=hlo r e; omega) hg2 (by have:=h.sz; have:=hg.size; omega) fun r e=>by injection e; omega⟩
theorem HiS.app2 (h:HiS w0 W B g s A c sA n sc xs nA m nc ys last) {w4:World} {y:Int} {A':Option Addr} {c':Nat} (hg:W.grownBy w4 (Value.slice nA m nc).ownBlock)
  (ho:w4.ownsRow (B+5) 3 1 (.slice A' (m+1) c') (m+1) ((ys++[y]).flatMap (cellsOf 1 icell))):HiS w0 (w4.setCell ⟨B+2,0,none⟩ (.slice A' (m+1) c')) B g s A c sA n sc xs A' (m+1) c' (ys++[y]) last:=by
 have hlo:∀ r,(Value.slice nA m nc).ownBlock=some r→B+5≤r:=fun r e=>(own_cells h.no e).1
 have hk:∀ q,q < B+5→w4.heap[q]? = W.heap[q]? := fun q hq=>hg.block q (Nat.lt_of_lt_of_le hq h.sz) fun e=>by have:=hlo q e.symm; omega
 have hg2:w4.grownBy (w4.setCell ⟨B+2,0,none⟩ (.slice A' (m+1) c')) (some (B+2)):=grown_setCell _
 have st4:Blk w4 (B+2) 22 #[.slice nA m nc]:=(hk _ (by omega)).trans h.nm
 have hs:=st4.set_ 0 (.slice A' (m+1) c')
 simp at hs
 have hk2:∀ q,q < B+5→q≠B+2→(w4.setCell ⟨B+2,0,none⟩ (.slice A' (m+1) c')).heap[q]? = W.heap[q]? := fun q hq hn=>(hg2.block q (Nat.lt_of_lt_of_le (Nat.lt_of_lt_of_le hq h.sz) hg.size) fun e=>hn (by injection e)).trans (hk q hq)
 have so4:=h.so.kept hg (own_two h.so h.no (by decide))
 have hr1:∀ {e:Nat} {v:Value} {k:Nat} {zs:List Value},w4.ownsRow (B+5) e 1 v k zs→v.ownBlock=none∨v.ownBlock≠some (B+2):=fun {e v k zs} ho => .inr fun e0=>by have:=(own_cells ho e0).1; omega
 exact ⟨h.sg.keep fun q hq=>hk2 q (by omega) (by omega),(hk2 _ (by omega) (by omega)).trans h.cl,(hk2 _ (by omega) (by omega)).trans h.st,hs,(hk2 _ (by omega) (by omega)).trans h.la,
  so4.kept hg2 (hr1 so4),ho.kept hg2 (hr1 ho),Nat.le_trans h.sz (Nat.le_trans hg.size hg2.size),
  below_row (below_row h.bw hg (by have:=h.sz; omega) fun r e=>by have:=hlo r e; omega) hg2 (by have:=h.sz; have:=hg.size; omega) fun r e=>by injection e; omega⟩
theorem HiS.last_ (h:HiS w0 W B g s A c sA n sc xs nA m nc ys last) (y:Int):HiS w0 (W.setCell ⟨B+3,0,none⟩ (.int .i64 y)) B g s A c sA n sc xs nA m nc ys y:=by
 have hg:W.grownBy (W.setCell ⟨B+3,0,none⟩ (.int .i64 y)) (some (B+3)):=grown_setCell _
 have hs:=h.la.set_ 0 (.int .i64 y)
 simp at hs
 have hk:∀ q,q < B+5→q≠B+3→(W.setCell ⟨B+3,0,none⟩ (.int .i64 y)).heap[q]? = W.heap[q]? := fun q hq hn=>hg.block q (Nat.lt_of_lt_of_le hq h.sz) fun e=>hn (by injection e)
 have hr1:∀ {e:Nat} {v:Value} {k:Nat} {zs:List Value},W.ownsRow (B+5) e 1 v k zs→v.ownBlock=none∨v.ownBlock≠some (B+3):=fun {e v k zs} ho => .inr fun e0=>by have:=(own_cells ho e0).1; omega
 exact ⟨h.sg.keep fun q hq=>hk q (by omega) (by omega),(hk _ (by omega) (by omega)).trans h.cl,(hk _ (by omega) (by omega)).trans h.st,(hk _ (by omega) (by omega)).trans h.nm,hs,
  h.so.kept hg (hr1 h.so),h.no.kept hg (hr1 h.no),Nat.le_trans h.sz hg.size,below_row h.bw hg (by have:=h.sz; omega) fun r e=>by injection e; omega⟩
end
def ToneAx (tm:Array Value) (base:Nat) (x:Tn) (a':Act) (W:World):Prop :=
 ∃ Bx,base≤Bx∧Blk W Bx 101 #[.int .i64 x.lo,.int .i64 x.hi,.int .i64 x.nm]∧a'={ tmps:=(tm.setIfInBounds 13 (.agg #[.int .i64 x.lo,.int .i64 x.hi,.int .i64 x.nm])).setIfInBounds 9 (.pointer (some ⟨Bx,0,none⟩)),defers:=[] }
theorem tone_own {B Bx:Nat} {cs:Array Value} {t:TypeId} {W W':World} {row:Option Nat} (h2:Blk W Bx t cs) (hg:W.grownBy W' row) (hr:∀ r,row=some r→B≤r∧∃ o:Obj,W.heap[r]? = some o∧o.isCells=false):Blk W' Bx t cs:=by
 refine h2.grown hg ?_
 intro e
 obtain ⟨_,o,ho,hc⟩:=hr Bx e.symm
 rw [h2] at ho
 injection ho with ho
 subst ho
 simp [Obj.isCells] at hc
theorem ToneAx.own {tm:Array Value} {base B:Nat}:∀ (x:Tn) (a':Act),OwnFrom B (fun (_:Unit) W=>ToneAx tm base x a' W):=by
 rintro x a' _ W W' row ⟨Bx,h1,h2,h3⟩ hg hr
 exact ⟨Bx,h1,tone_own h2 hg hr,h3⟩
def HiI (w0:World) (B g:Nat) (s:List Tn) (A:Option Addr) (c:Nat) (pre:List Tn) (W:World):Prop :=
 ∃ (sA:Option Addr) (n sc:Nat) (nA:Option Addr) (nc:Nat),n=(runH pre).2.length∧HiS w0 W B g s A c sA n sc ((runH pre).2.map (·.hi)) nA n nc ((runH pre).2.map (·.nm)) (runH pre).1∧Blk W (B+4) 52 #[.pointer (some ⟨g,0,none⟩)]
end Go.Proofs.YtjpfjklobnilkaaGreat
