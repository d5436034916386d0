/- Contracts: met and CheckScale of the scale. -/
import Derived.Test.YtjpfjklobnilkaaGreatScF
import Derived.Laws.Rows
import Derived.Laws.Tables
namespace Go.Proofs.YtjpfjklobnilkaaGreat
open Go.RowKit Go.Shelf Sc
set_option linter.unusedVariables false
def rowA (n:Nat) (f:Nat→Value):Array Value:=((List.range n).map f).toArray
theorem rowA_size (n:Nat) (f:Nat→Value):(rowA n f).size=n:=by simp [rowA]
theorem rowA_get {n i:Nat} {f:Nat→Value} (h:i < n):(rowA n f)[i]? = some (f i):=by
 unfold rowA
 simp only [List.getElem?_toArray,List.getElem?_map]
 rw [List.getElem?_range h]
 rfl
theorem rowA_congr {n:Nat} {f g:Nat→Value} (h:∀ i,i < n→f i=g i):rowA n f=rowA n g:=by
 unfold rowA
 congr 1
 exact List.map_congr_left fun i hi=>h i (List.mem_range.1 hi)
theorem rowA_set {n i:Nat} {f g:Nat→Value} {v:Value} (h:∀ j,j < n→g j=if j=i then v else f j):(rowA n f).setIfInBounds i v=rowA n g:=by
 apply Array.ext_getElem?
 intro j
 rw [Array.getElem?_setIfInBounds,rowA_size]
 by_cases hj:j < n
 ·rw [rowA_get hj,rowA_get hj,h j hj]
  by_cases e:i=j
  ·subst e
   rw [if_pos rfl,if_pos hj,if_pos rfl]
  ·rw [if_neg e,if_neg fun e2=>e e2.symm]
 ·have e1:(rowA n f)[j]? = none:=Array.getElem?_eq_none (by rw [rowA_size]; omega)
  have e2:(rowA n g)[j]? = none:=Array.getElem?_eq_none (by rw [rowA_size]; omega)
  rw [e1,e2]
  by_cases e:i=j
  ·rw [if_pos e,if_neg (by omega)]
  ·rw [if_neg e]
abbrev mrkA (K:Nat→Int):Array Value:=rowA 25 fun u => .int .i64 (K u)
theorem mrk_zero:(rowA 25 fun _=>Value.int .i64 0)=#[.int .i64 0,.int .i64 0,.int .i64 0,.int .i64 0,.int .i64 0,.int .i64 0,.int .i64 0,.int .i64 0,.int .i64 0,.int .i64 0,.int .i64 0,.int .i64 0,.int .i64 0,.int .i64 0,.int .i64 0,.int .i64 0,.int .i64 0,.int .i64 0,.int .i64 0,.int .i64 0,.int .i64 0,.int .i64 0,.int .i64 0,.int .i64 0,.int .i64 0]:=by kernel_rfl
theorem blk_same {g n:Nat} {t:TypeId} {v:Value}:∀ (k o:Nat) (w:World),Blk w g t (rowA n fun _=>v)→Blk (w.setCells g o (List.replicate k v)) g t (rowA n fun _=>v)
 | 0,_,_,h=>h
 | k+1,o,w,h=>by
   rw [List.replicate_succ,World.setCells]
   refine blk_same k (o+1) _ ?_
   have:=h.set_ o v
   rwa [rowA_set (g:=fun _=>v) fun j _=>by split <;> rfl] at this
theorem run_clear25 (g:Nat) (w:World) (ty:TypeId) (h:Blk w g 68 (rowA 25 fun _ => .int .i64 0)) :
  (Builtin.clear_ #[22] ty #[.slice (some ⟨g,0,none⟩) 25 25]).run Tryz.prog w = .ok (.tuple #[]) (w.setCells g 0 (List.replicate 25 (.int .i64 0))):=by
 have hz:(zeroValue 3).run Tryz.prog w = .ok (.int .i64 0) w:=by kernel_rfl
 have hst:=run_storeCells_cells (P:=Tryz.prog) g 0 (List.replicate 25 (.int .i64 0)) 0 w (by
  intro j hj
  have hj':j < 25:=by simpa using hj
  rw [Nat.add_zero,Nat.zero_add,h.cell,rowA_get hj']
  rfl) (by intro j _; exact h.frozen _) (by simp [Value.oneCell'])
 rw [Nat.add_zero] at hst
 have hzc:(Builtin.zeroCells (Value.int IntKind.i64 0).cells 25).toList=List.replicate 25 (.int .i64 0):=by kernel_rfl
 generalize List.replicate 25 (Value.int .i64 0)=zs at *
 simp only [Builtin.clear_]
 simp [run_underlying Tryz.underlying22,hz,hzc,hst,Result.andThen]
def MrkB (W:World) (kb:Nat) (K:Nat→Int):Prop:=Blk W kb 68 (mrkA K)
section
variable {W W':World} {kb:Nat} {K:Nat→Int}
theorem MrkB.at_ (h:MrkB W kb K) {i:Nat} (hi:i < 25):W.cell? ⟨kb,i,none⟩=some (.int .i64 (K i)):=by
 rw [Blk.cell h,rowA_get hi]
theorem MrkB.put (h:MrkB W kb K) {i:Nat} {x:Int} {g:Nat→Int} (hg:∀ j,j < 25→g j=if j=i then x else K j):MrkB (W.setCell ⟨kb,i,none⟩ (.int .i64 x)) kb g:=by
 have:=Blk.set_ h i (.int .i64 x)
 rwa [rowA_set (g:=fun i => .int .i64 (g i)) fun j hj=>by rw [hg j hj]; split <;> rfl] at this
end
def marksTo (pre:List Tn) (i:Nat):Int:=if (pre.map (·.nm)).contains (i:Int)=true then 1 else 0
theorem marksTo_snoc {pre:List Tn} {x:Tn} {k:Nat} (hx:x.nm=(k:Int)) (j:Nat):marksTo (pre++[x]) j=if j=k then 1 else marksTo pre j:=by
 unfold marksTo
 by_cases h:j=k
 ·subst h
  rw [if_pos rfl,if_pos (by simp [hx])]
 ·rw [if_neg h]
  congr 1
  simp only [List.map_append,List.map_cons,List.map_nil,List.contains_append,eq_iff_iff]
  have:List.contains [x.nm] ((j:Nat):Int)=false:=by
   simp [hx]
   omega
  rw [this,Bool.or_false]
theorem marks_all {l:List Str} {s:List Tn} (ho:Ord (tonesL 0 l) s) (i:Nat):marksTo s i=if i < l.length then 1 else 0:=by
 unfold marksTo
 congr 1
 rw [List.contains_iff_mem,eq_iff_iff,List.mem_map]
 constructor
 ·rintro ⟨t,ht,e⟩
  obtain ⟨j,r,h1,rfl⟩:=tonesL_mem ((ho.2.1 t).1 ht)
  have h2:=(List.getElem?_eq_some_iff.1 h1).1
  simp only [toneOf] at e
  omega
 ·intro h
  have h1:=tonesL_at (i:=0) (List.getElem?_eq_getElem h)
  rw [Nat.zero_add] at h1
  exact ⟨_,(ho.2.1 _).2 h1,rfl⟩
theorem ord_name {l:List Str} {s:List Tn} (ho:Ord (tonesL 0 l) s) {t:Tn} (ht:t∈s):∃ (k:Nat) (r:Str),l[k]? = some r∧t.nm=(k:Int)∧t.lo=r.a∧t.hi=r.b:=by
 obtain ⟨j,r,h1,rfl⟩:=tonesL_mem ((ho.2.1 t).1 ht)
 exact ⟨j,r,h1,by simp [toneOf],rfl,rfl⟩
theorem on_ok (t:Tn) (x:Int) (w:World) :
  Calls Tryz.prog 79 #[.agg #[.int .i64 t.lo,.int .i64 t.hi,.int .i64 t.nm],.int .i64 x] w fun r w'=>r = .returned (.bool (decide (t.lo≤x)&&decide (x≤t.hi)))∧Below w.heap.size w w':=by
 go_enter Tryz.func79,Tryz.ntmps79
 go_wp2
 all_goals (go_ret; exact ⟨ret_b (by rw [Bool.eq_iff_iff]; simp [*]; try omega),(Below.refl _ _).alloc (Nat.le_refl _) _⟩)
structure MtS (w0 W:World) (B g:Nat) (s:List Tn) (A:Option Addr) (c:Nat) (sv:Value) (st:List Int) (K:Nat→Int):Prop where
 sg:SongAt W B g s A c
 sb:Blk W B 33 #[sv]
 sr:Arr W B 1 sv st icell
 rs:Blk W (B+1) 68 (rowA 25 fun _ => .int .i64 0)
 mm:MrkB W (B+2) K
 gb:Blk W (B+3) 52 #[.pointer (some ⟨g,0,none⟩)]
 sz:B+4≤W.heap.size
 bw:Below B w0 W
section
variable {w0 W W':World} {B g:Nat} {s:List Tn} {A:Option Addr} {c:Nat} {sv:Value} {st:List Int} {K:Nat→Int}
theorem MtS.grown (h:MtS w0 W B g s A c sv st K) {row:Option Nat} (hg:W.grownBy W' row) (hr:∀ r,row=some r→B+4≤r):MtS w0 W' B g s A c sv st K:=by
 have hk:∀ q,q < B+4→W'.heap[q]? = W.heap[q]? := fun q hq=>hg.block q (Nat.lt_of_lt_of_le hq h.sz) fun e=>by have:=hr q e.symm; omega
 exact ⟨h.sg.keep fun q hq=>hk q (by omega),(hk _ (by omega)).trans h.sb,h.sr.keep fun p hp=>World.cell?_of_block (hk _ (by omega)),(hk _ (by omega)).trans h.rs,(hk _ (by omega)).trans h.mm,(hk _ (by omega)).trans h.gb,
  Nat.le_trans h.sz hg.size,below_row h.bw hg (by have:=h.sz; omega) fun r e=>by have:=hr r e; omega⟩
theorem MtS.put (h:MtS w0 W B g s A c sv st K) {i:Nat} {x:Int} {K':Nat→Int} (hg:∀ j,j < 25→K' j=if j=i then x else K j):MtS w0 (W.setCell ⟨B+2,i,none⟩ (.int .i64 x)) B g s A c sv st K':=by
 have hgr:W.grownBy (W.setCell ⟨B+2,i,none⟩ (.int .i64 x)) (some (B+2)):=grown_setCell _
 have hk:∀ q,q < B+4→q≠B+2→(W.setCell ⟨B+2,i,none⟩ (.int .i64 x)).heap[q]? = W.heap[q]? := fun q hq hn=>hgr.block q (Nat.lt_of_lt_of_le hq h.sz) fun e=>hn (by injection e)
 exact ⟨h.sg.keep fun q hq=>hk q (by omega) (by omega),(hk _ (by omega) (by omega)).trans h.sb,h.sr.keep fun p hp=>World.cell?_of_block (hk _ (by omega) (by omega)),(hk _ (by omega) (by omega)).trans h.rs,h.mm.put hg,(hk _ (by omega) (by omega)).trans h.gb,
  Nat.le_trans h.sz hgr.size,below_row h.bw hgr (by have:=h.sz; omega) fun r e=>by injection e; omega⟩
end
def MetAx (tm:Array Value) (base:Nat) (x:Tn) (a':Act) (W:World):Prop :=
 ∃ Bx,base≤Bx∧Blk W Bx 101 #[.int .i64 x.lo,.int .i64 x.hi,.int .i64 x.nm]∧a'={ tmps:=(tm.setIfInBounds 11 (.agg #[.int .i64 x.lo,.int .i64 x.hi,.int .i64 x.nm])).setIfInBounds 6 (.pointer (some ⟨Bx,0,none⟩)),defers:=[] }
theorem MetAx.own {tm:Array Value} {base B:Nat}:∀ (x:Tn) (a':Act),OwnFrom B (fun (_:Unit) W=>MetAx tm base x a' W):=by
 rintro x a' _ W W' row ⟨Bx,h1,h2,h3⟩ hg hr
 exact ⟨Bx,h1,tone_own h2 hg hr,h3⟩
end Go.Proofs.YtjpfjklobnilkaaGreat
