/- Contracts: play.Best, play.Fewest. Contract: play.Labels. CheckLabels as a plain function. Plain facts for the statements: plans, best plans and labels. Contracts of the reference: Worn, In, Saved. Contract: play.Saves. Regions that draw their order: a head of operations that read or call what reads and makes memory, and behind all of them a tail that may write, which runs in the order of the text. Contract of the reference: Table. Contract of the reference: Kinds. Contract of the laws' Cylinder. Lists that grow behind fields of structs of the call's own: one second cylinder, or two. -/
import Derived.Test.YtaihbcmifjmapaaGreatPlayF
import Derived.Laws.CopyOwn
import Derived.Test.YtaihbcmifjmapaaGreatPE
import Derived.Test.YtaihbcmifjmapaaGreatPB
import Derived.StillTailTactics
import Derived.Deep.Cut
import Derived.Deep.CutBlock
import Derived.Test.YtaihbcmifjmapaaGreatPC
import Derived.Test.YtaihbcmifjmapaaGreatPA
import Derived.StillTail
import Derived.Deep.Quiet
import Derived.WalkLawsBesides
import Derived.Laws.EntriesVeiled
import Derived.Tactics
import Derived.Test.YtaihbcmifjmapaaGreatFill
import Derived.Test.YtaihbcmifjmapaaGreatPT
import Derived.Shelf.SlicesQ.Reverse
import Derived.Ground.SlgnProg
import Derived.ChangeKeysEq
import Derived.Laws.OwnMore
namespace Go.Proofs.YtaihbcmifjmapaaGreat
open Go.RowKit Go.Shelf
set_option linter.unusedVariables false
theorem flat_len {α:Type} (size:Nat) (cell:α→Nat→Value) (l:List α):(l.flatMap (cellsOf size cell)).length=l.length * size:=by
 induction l with
 | nil=>simp
 | cons x r ih=>rw [List.flatMap_cons,List.length_append,ih]; simp [cellsOf,Nat.add_mul]; omega
theorem Arr.of_row {α:Type} {w:World} {B size g cap:Nat} {t:TypeId} {l:List α} {cell:α→Nat→Value} {n:Nat} (h:Blk w g t (l.flatMap (cellsOf size cell)).toArray) (hn:n=l.length) (h1:l.length≤cap) (h2:cap≤9223372036854775807) (hB:g < B) :
  Arr w B size (.slice (some ⟨g,0,none⟩) n cap) l cell:=by
 subst hn
 refine ⟨_,cap,rfl,h1,h2,fun _=>⟨g,0,rfl,hB,fun i x hx j hj=>?_⟩⟩
 have hf:=flat_get size cell l i x hx j hj
 rw [h.cell,Nat.zero_add]
 simpa using hf
end Go.Proofs.YtaihbcmifjmapaaGreat
namespace Go.Proofs.YtaihbcmifjmapaaGreat
open Go.RowKit Go.Shelf
set_option linter.unusedVariables false
theorem wpList_appM {W:World} {ops:Array Oper} {rest:List Oper} {o:Oper} {a:Act} {Q:Exit→Act→World→Prop} {t e size bytes:Nat} {z:Value} (hT:SlT t e size bytes z)
  (hgd:o.guard=none) (s x:Operand) (ho:o.op = .call { callee := .builtin .append,args:=#[s,x],argTypes:=#[t,t] })
  {base n c m:Nat} {sv:Value} {xs:List Value} (hs:a.eval s=sv) (hown:W.ownsRow base e size sv n xs) (ad:Addr)
  (hx:a.eval x = .slice (some ad) m c) (news:List Value) (hlen:news.length=m * size) (hcell:∀ j u,news[j]? = some u→W.cell? (ad.add j)=some u) (h1:∀ u∈news,u.oneCell'=true) (hbase:base≤W.heap.size)
  (h63:n+m≤1048576) (hby:bytes≤1024)
  (h:∀ v' w',w'.ownsRow base e size v' (n+m) (xs++news)→Below base W w'→W.grownBy w' sv.ownBlock→wpList Tryz.prog ops Q rest (a.put o.dst v') w') :
  wpList Tryz.prog ops Q (o::rest) a W:=by
 obtain ⟨hT1,hT2,hT3,hT4⟩:=hT
 obtain ⟨i0,hi,hz0,hz1,hz2⟩:=info_parts hT2
 have hbytes:(n+m) * bytes≤140737488355328:=Nat.le_trans (Nat.mul_le_mul h63 hby) (by decide)
 refine wpList_append_own (P:=Tryz.prog) W hgd s x t ho base e i0 z size bytes hT1 hi hz0 hz1 hz2 hT3 hT4 _ n xs hs hown ad m c news hx hlen hcell h1 (by simp only [maxLen]; omega) hbytes hbase ?_
 intro v' w' hown' hgrow _
 refine h v' w' hown' ((Below.refl _ _).grown hgrow hbase fun k hk=>?_) hgrow
 exact (hown.lt k hk).1
end Go.Proofs.YtaihbcmifjmapaaGreat
namespace Go.Proofs.YtaihbcmifjmapaaGreat
set_option linter.unusedVariables false
def step1 (V:Nat→Nat→Int) (t k:Nat):Bool:=(decide (t=0)||decide (V (t-1) k≤V t k))&&(decide (k=0)||decide (V t (k-1)≤V t k))
def rowOk (V:Nat→Nat→Int) (K t:Nat):Bool:=(List.range (K+1)).all fun k=>step1 V t k
end Go.Proofs.YtaihbcmifjmapaaGreat
namespace Go.Proofs.YtaihbcmifjmapaaGreat
set_option linter.unusedVariables false
theorem pasOk_of {c:Cyl} (h:checkCyl c=0):c.pas.all (pasOk c.turns)=true:=by
 unfold checkCyl at h
 split at h
 ·omega
 ·split at h
  ·omega
  ·split at h
   ·omega
   ·split at h
    ·omega
    ·rename_i h4
     simpa using h4
theorem pas_le {c:Cyl} (h:checkCyl c=0):∀ p∈c.pas,p.a≤p.b:=fun p hp=>(pas_fit (pasOk_of h) p hp).2.1
def worthP (c:Cyl) (q:List Str):Int:=(savesGo q 0 c.pas).2
theorem worth_valI {c:Cyl} (h:checkCyl c=0) {q:List Str} {k:Nat} (hq:IsPlan c k q):worthP c q=valI (ownW c.pas) 0 c.pas q:=saves_worth hq.1 (pas_le h)
def mostK (c:Cyl) (k:Nat):Int:=tabC c (ownW c.pas) (tT c) k
theorem mostK_isMost {c:Cyl} (h:checkCyl c=0) {k:Nat} (hk:k≤tK c):IsMost c (ownW c.pas) k (mostK c k):=(tabC_isTab c _ h).most (cyl_nat h).1 hk
theorem mostK_ge {c:Cyl} (h:checkCyl c=0) {k:Nat} (hk:k≤tK c) {q:List Str} (hq:IsPlan c k q):worthP c q≤mostK c k:=by
 rw [worth_valI h hq]; exact (mostK_isMost h hk).1 q hq
theorem mostK_got {c:Cyl} (h:checkCyl c=0) {k:Nat} (hk:k≤tK c):∃ q,IsPlan c k q∧worthP c q=mostK c k:=by
 obtain ⟨q,hq,e⟩:=(mostK_isMost h hk).2
 exact ⟨q,hq,(worth_valI h hq).trans e⟩
theorem worthsOf_eq {c:Cyl} (h:checkCyl c=0):worthsOf c=(List.range (tK c+1)).map (mostK c):=by
 unfold worthsOf
 rw [if_pos h]
 rfl
theorem worthsOf_len {c:Cyl} (h:checkCyl c=0):(worthsOf c).length=tK c+1:=by rw [worthsOf_eq h]; simp
theorem worthsOf_get {c:Cyl} (h:checkCyl c=0) {k:Nat} (hk:k≤tK c):(worthsOf c)[k]? = some (mostK c k):=by
 rw [worthsOf_eq h,List.getElem?_map,List.getElem?_range (by omega)]
 rfl
theorem mostOf_eq (c:Cyl):mostOf c=mostK c (tK c):=rfl
theorem isPlan_le {c:Cyl} {k l:Nat} {q:List Str} (h:IsPlan c k q) (hl:k≤l):IsPlan c l q:=⟨h.1,Nat.le_trans h.2 hl⟩
theorem mostK_mono {c:Cyl} (h:checkCyl c=0) {k l:Nat} (hk:k≤l) (hl:l≤tK c):mostK c k≤mostK c l:=by
 obtain ⟨q,hq,e⟩:=mostK_got h (Nat.le_trans hk hl)
 rw [← e]
 exact mostK_ge h hl (isPlan_le hq hk)
end Go.Proofs.YtaihbcmifjmapaaGreat
namespace Go.Proofs.YtaihbcmifjmapaaGreat
open Go.RowKit Go.Shelf
set_option linter.unusedVariables false
theorem any_drop {α:Type} (p:α→Bool) (l:List α) (k:Nat) (x:α) (h:l[k]? = some x):(l.drop k).any p=(p x||(l.drop (k+1)).any p):=by
 obtain ⟨hk,hx⟩:=List.getElem?_eq_some_iff.1 h
 rw [List.drop_eq_getElem_cons hk,hx]
 rfl
end Go.Proofs.YtaihbcmifjmapaaGreat
namespace Go.Proofs.YtaihbcmifjmapaaGreat
open Go.RowKit Go.Shelf
set_option linter.unusedVariables false
theorem slT_int:SlT 31 3 1 8 (.int .i64 0):=⟨Tryz.underlying31,by kernel_rfl,rfl,by omega⟩
end Go.Proofs.YtaihbcmifjmapaaGreat
namespace Go.Proofs.YtaihbcmifjmapaaGreat
open Go.RowKit
set_option linter.unusedVariables false
section
variable {P:Program} {ops:Array Oper} {Q:Exit→Act→World→Prop} {C:World→Prop} {md:Region.Mode}
def backB (md:Region.Mode) (ops:Array Oper) (n:Nat):Bool :=
 (List.range n).all fun i=>match ops[i]? with
  | none=>false
  | some o=>(o.after.all fun e=>!Region.binds md e||decide (e.on < i))&&match o.guard with
    | none=>true
    | some (j,_)=>decide (j < n)
def headL (m n:Nat):Array Bool:=(Array.range m).map fun i=>decide (i < n)
def tailOk (ops:Array Oper) (n:Nat):Bool :=
 decide (n < ops.size)&&Region.sinkB .any ops n&&Region.chainB .any ops n&&backB .any ops n&&Region.noSelect (ops.take n)&&Region.lexFrom .any (ops.take n) n 0 (Array.replicate ops.size false)&&Region.seqB .any ops (ops.size-n) n (headL ops.size n)
theorem wpAny_more {Q':Exit→Act→World→Prop}:∀ (f:Nat) (listed:Array Bool) (a:Act) (w:World),wpAny P md ops Q' f listed a w→wpAny P md ops Q' (f+1) listed a w
 | 0,listed,a,w,h=>⟨fun _=>h.2,by rw [h.1]; simp⟩
 | f+1,listed,a,w,h=>⟨h.1,fun i hi=>wpOp_mono (fun a' w' h'=>wpAny_more f _ a' w' h') (h.2 i hi)⟩
theorem wpAny_plus {Q':Exit→Act→World→Prop} {g:Nat} {listed:Array Bool} {a:Act} {w:World} (h:wpAny P md ops Q' g listed a w):∀ f,wpAny P md ops Q' (f+g) listed a w
 | 0=>by rw [Nat.zero_add]; exact h
 | f+1=>by rw [show f+1+g=(f+g)+1 by omega]; exact wpAny_more _ _ _ _ (wpAny_plus h f)
theorem take_get {n i:Nat} (h:i < n):(ops.take n)[i]? = ops[i]? := by
 simp only [Array.take_eq_extract,Array.getElem?_extract]
 split
 ·simp
 ·symm; apply Array.getElem?_eq_none; omega
theorem take_none {n i:Nat} (h:n≤i):(ops.take n)[i]? = none:=by
 simp only [Array.take_eq_extract,Array.getElem?_extract]
 rw [if_neg (by omega)]
theorem ready_take {n i:Nat} {listed:Array Bool}:i∈Region.ready md (ops.take n) listed↔i < n∧i∈Region.ready md ops listed:=by
 rw [mem_ready,mem_ready]
 constructor
 ·rintro ⟨h1,o,h2,h3⟩
  have hi:i < n:=by
   rcases Nat.lt_or_ge i n with h | h
   ·exact h
   ·rw [take_none h] at h2; cases h2
  rw [take_get hi] at h2
  exact ⟨hi,h1,o,h2,h3⟩
 ·rintro ⟨hi,h1,o,h2,h3⟩
  exact ⟨h1,o,by rw [take_get hi]; exact h2,h3⟩
theorem backB_spec {n i:Nat} {o:Oper} (h:backB md ops n=true) (hi:i < n) (ho:ops[i]? = some o):(∀ e∈o.after,Region.binds md e=true→e.on < i)∧∀ j b,o.guard=some (j,b)→j < n:=by
 have h1:=List.all_eq_true.1 h i (List.mem_range.2 hi)
 simp only [ho,Bool.and_eq_true] at h1
 refine ⟨fun e he hb=>?_,fun j b hg=>?_⟩
 ·have:=Array.all_eq_true_iff_forall_mem.1 h1.1 e he
  simpa [hb] using this
 ·have:=h1.2
  rw [hg] at this
  simpa using this
theorem qOp_take {n i:Nat} {K:Act→Prop} {a:Act} (hb:backB md ops n=true) (hi:i < n) (h:qOp P (ops.take n) C i K a):qOp P ops C i K a:=by
 unfold qOp at h ⊢
 rw [take_get hi] at h
 cases ho:ops[i]? with
 | none=>simpa [ho] using h
 | some o =>
   simp only [ho] at h ⊢
   have hw:Region.wanted o (yielded (ops.take n) a.tmps)=Region.wanted o (yielded ops a.tmps):=by
    unfold Region.wanted
    cases hg:o.guard with
    | none=>rfl
    | some p =>
      obtain ⟨j,b⟩:=p
      have hj:=(backB_spec hb hi ho).2 j b hg
      simp only [yielded,take_get hj]
   rw [hw] at h
   exact h
theorem head_done {n:Nat} {listed:Array Bool} (hb:backB md ops n=true) (hn:n < ops.size) (inv:HeadInv md ops n listed) (h:Region.ready md (ops.take n) listed=[]):∀ i,i < n→listed.getD i true=true:=by
 intro i
 induction i using Nat.strongRecOn with
 | _ i ih =>
   intro hi
   cases hl:listed.getD i true with
   | true=>rfl
   | false =>
     exfalso
     obtain ⟨o,ho⟩:∃ o,ops[i]? = some o:=⟨ops[i]'(by omega),Array.getElem?_eq_getElem (by omega)⟩
     have hr:i∈Region.ready md (ops.take n) listed:=by
      rw [ready_take,mem_ready]
      refine ⟨hi,hl,o,ho,fun e he hbe=>?_⟩
      have h1:=(backB_spec hb hi ho).1 e he hbe
      have h2:=ih e.on h1 (by omega)
      have hs:e.on < listed.size:=by rw [inv.size]; omega
      simp [hs] at h2 ⊢
      exact h2
     rw [h] at hr
     cases hr
theorem listed_eq {n:Nat} {listed:Array Bool} (hn:n < ops.size) (inv:HeadInv md ops n listed) (h:∀ i,i < n→listed.getD i true=true):listed=headL ops.size n:=by
 apply Array.ext
 ·simp [headL,inv.size]
 ·intro i h1 h2
  have hs:i < ops.size:=by rw [← inv.size]; exact h1
  have e:(headL ops.size n)[i]=decide (i < n):=by simp [headL]
  rw [e]
  by_cases hi:i < n
  ·have:=h i hi
   simp [h1] at this
   simp [this,hi]
  ·have:=inv.tail i (by omega) hs
   simp [h1] at this
   simp [this,hi]
theorem any_tail {n:Nat} {Q':Exit→Act→World→Prop} {Lq:Act→World→Prop} (hs:Region.sinkB md ops n=true) (hc:Region.chainB md ops n=true) (hb:backB md ops n=true) (hn:n < ops.size) {g:Nat}
  (hL:∀ a w,C w→Lq a w→wpAny P md ops Q' g (headL ops.size n) a w):∀ (f:Nat) (listed:Array Bool) (a:Act) (w:World),HeadInv md ops n listed→C w →
  wpAnyQ P md (ops.take n) C (fun a'=>∀ w',C w'→Lq a' w') f listed a→wpAny P md ops Q' (f+g) listed a w:=by
 have hfin:∀ (f:Nat) (listed:Array Bool) (a:Act) (w:World),HeadInv md ops n listed→C w→Region.ready md (ops.take n) listed=[]→(∀ w',C w'→Lq a w')→wpAny P md ops Q' (f+g) listed a w:=by
  intro f listed a w inv hC hr hq
  rw [listed_eq hn inv (head_done hb hn inv hr)]
  exact wpAny_plus (hL a w hC (hq w hC)) f
 intro f
 induction f with
 | zero =>
   intro listed a w inv hC h
   exact hfin 0 listed a w inv hC h.1 h.2
 | succ f ih =>
   intro listed a w inv hC h
   by_cases hr:Region.ready md (ops.take n) listed=[]
   ·exact hfin (f+1) listed a w inv hC hr (h.1 hr)
   ·obtain ⟨i0,hi0⟩:=List.exists_mem_of_ne_nil _ hr
    obtain ⟨hi0n,hi0r⟩:=ready_take.1 hi0
    have hun:=(mem_ready.1 hi0r).1
    rw [show f+1+g=(f+g)+1 by omega]
    refine ⟨fun h0=>(by rw [h0] at hi0r; cases hi0r),fun j hj=>?_⟩
    have hjn:j < n:=by
     rcases Nat.lt_or_ge j n with h' | h'
     ·exact h'
     ·exact absurd hj (tail_waits hs hc hn inv _ i0 rfl hi0n hun j h')
    have hq:=h.2 j (ready_take.2 ⟨hjn,hj⟩)
    exact wpOp_of_qOp hC (fun a' w' hw' hh=>ih _ a' w' (inv.set hj hjn) hw' hh) (qOp_take hb hjn hq)
theorem any_of_tailOk {Q':Exit→Act→World→Prop} {l:List Oper} {n:Nat} {a:Act} {W:World} (hB:tailOk l.toArray n=true) (hC:C W.drew)
  (h:wpQuiet P (l.take n).toArray C (fun a'=>∀ w',C w'→wpList P l.toArray Q' (l.drop n) a' w') (l.take n) a):wpAny P .any l.toArray Q' l.toArray.size (Array.replicate l.toArray.size false) a W.drew:=by
 simp only [tailOk,Bool.and_eq_true,decide_eq_true_eq] at hB
 obtain ⟨⟨⟨⟨⟨⟨hn,hs⟩,hc⟩,hb⟩,hsel⟩,hlex⟩,hseq⟩:=hB
 have hn':n < l.length:=by simpa using hn
 have htk:l.toArray.take n=(l.take n).toArray:=by simp
 have htl:(l.take n).length=n:=by simp; omega
 have inv0:HeadInv .any l.toArray n (Array.replicate l.toArray.size false) :=
  ⟨by simp,fun j oj _ hl=>(by rw [getD_replicate_false] at hl; cases hl),fun t _ ht=>getD_in (by simpa using ht) (getD_replicate_false _ _)⟩
 rw [htk] at hsel hlex
 have hq:=wpAnyQ_lex (C:=C) (md := .any) hsel (l.take n) 0 (Array.replicate l.toArray.size false) a (by simp) (by rw [htl]; exact hlex) h
 rw [htl] at hq
 have:=any_tail (P:=P) (Q':=Q') (Lq:=fun a' w'=>wpList P l.toArray Q' (l.drop n) a' w') hs hc hb hn (g:=l.toArray.size-n) (fun a w _ hl=>by
  have:=wpAny_of_seq (md := .any) (ops:=l.toArray) (Q':=Q') (l.drop n) n (headL l.toArray.size n) a w (fun j=>by simp [List.getElem?_drop]) (by rw [show (l.drop n).length=l.toArray.size-n by simp]; exact hseq) hl
  rwa [show (l.drop n).length=l.toArray.size-n by simp] at this) n _ a W.drew inv0 hC (by rw [htk]; exact hq)
 rwa [show n+(l.toArray.size-n)=l.toArray.size by omega] at this
theorem wp_region_tail {id:Nat} {a:Act} {W:World} {l:List Oper} (n:Nat) (hm:P.follows .mixedOrders=true) (hB:tailOk l.toArray n=true) (hC:C W.drew)
  (h:wpQuiet P (l.take n).toArray C (fun a'=>∀ w',C w'→wpList P l.toArray Q (l.drop n) a' w') (l.take n) a):(Code.region id l.toArray true).wp P Q a W :=
 wp_region_any hm (any_of_tailOk hB hC h)
theorem NoP_then (Q:Exit→Act→World→Prop):NoP (Exit.then (Q .normal) Q)=NoP Q:=by
 funext e a w
 cases e <;> rfl
theorem wpQuiet_weak {R R':Act→Prop} (h:∀ a,R a→R' a):∀ (l:List Oper) (a:Act),wpQuiet P ops C R l a→wpQuiet P ops C R' l a
 | [],a,hh=>h a hh
 | o::l,a,hh=>by
   simp only [wpQuiet] at hh ⊢
   split
   ·rename_i hw
    rw [if_pos hw] at hh
    exact Oper.quiet_mono (fun a'=>wpQuiet_weak h l a') hh
   ·rename_i hw
    rw [if_neg hw] at hh
    exact wpQuiet_weak h l _ hh
theorem wpIn_region_tail {id r m:Nat} {a:Act} {W:World} {l:List Oper} (n:Nat) (hm:P.follows .mixedOrders=true) (hB:tailOk l.toArray n=true) (hnd:noDefer l.toArray=true) (hC:C W.drew)
  (h:wpQuiet P (l.take n).toArray C (fun a'=>∀ w',C w'→∀ K:Act→World→Prop,(∀ a w,Q .normal a w→K a w)→wpList P l.toArray (NoP (Exit.then K Q)) (l.drop n) a' w') (l.take n) a):(Code.region id l.toArray true).wpIn (Fence.wide.inRound r) m P Q a W:=by
 refine wpIn_mono (wpIn_region_any hm (wpAnyIn_of_wpAny hnd _ _ _ _ (any_of_tailOk (Q':=NoP Q) hB hC ?_))) NoP_imp
 refine wpQuiet_weak (fun a' hh w' hw'=>?_) _ _ h
 have:=hh w' hw' (Q .normal) fun _ _ h=>h
 rwa [NoP_then] at this
end
end Go.Proofs.YtaihbcmifjmapaaGreat
namespace Go.Proofs.YtaihbcmifjmapaaGreat
open Go.RowKit Go.Shelf
set_option linter.unusedVariables false
def rowB (K:Nat) (r:Nat→Int):Array Value:=((List.range (K+1)).map fun j=>Value.int .i64 (r j)).toArray
def TabAt (W:World) (base n K:Nat) (V:Nat→Nat→Int) (hs:List Value):Prop :=
 hs.length=n∧∀ i,i < n→∃ b,hs[i]? = some (.slice (some ⟨b,0,none⟩) (K+1) (K+1))∧base≤b∧Blk W b 2 (rowB K (V i))
theorem TabAt.keep {W W':World} {base n K:Nat} {V:Nat→Nat→Int} {hs:List Value} (h:TabAt W base n K V hs) (hk:∀ b cs,Blk W b 2 cs→W'.heap[b]? = W.heap[b]?):TabAt W' base n K V hs :=
 ⟨h.1,fun i hi=>by obtain ⟨b,h1,h2,h3⟩:=h.2 i hi; exact ⟨b,h1,h2,(hk b _ h3).trans h3⟩⟩
theorem TabAt.call {W W':World} {base n K:Nat} {V:Nat→Nat→Int} {hs:List Value} (h:TabAt W base n K V hs) (hb:Below W.heap.size W W'):TabAt W' base n K V hs :=
 h.keep fun b _ hB=>hb.block b hB.lt
theorem TabAt.snoc {W:World} {base n K b:Nat} {V:Nat→Nat→Int} {hs:List Value} (h:TabAt W base n K V hs) (hb:base≤b) (hB:Blk W b 2 (rowB K (V n))):TabAt W base (n+1) K V (hs++[.slice (some ⟨b,0,none⟩) (K+1) (K+1)]):=by
 refine ⟨by simp [h.1],fun i hi=>?_⟩
 by_cases hin:i < n
 ·obtain ⟨b',h1,h2,h3⟩:=h.2 i hin
  exact ⟨b',by rw [List.getElem?_append_left (by rw [h.1]; exact hin)]; exact h1,h2,h3⟩
 ·obtain rfl:i=n:=by omega
  exact ⟨b,by rw [List.getElem?_append_right (by rw [h.1]; omega),h.1]; simp,hb,hB⟩
end Go.Proofs.YtaihbcmifjmapaaGreat
namespace Go.Proofs.YtaihbcmifjmapaaGreat
open Go.RowKit Go.Shelf
set_option linter.unusedVariables false
def OwnB (w:World) (b n cap:Nat) (l:List Int):Prop:=∃ cur,Blk w b 2 cur∧cur.toList.take n=l.map (Value.int .i64)∧n=l.length∧n≤cap∧cap≤9223372036854775807∧n≤cur.size
theorem OwnB.lt {w:World} {b n cap:Nat} {l:List Int} (h:OwnB w b n cap l):b < w.heap.size:=h.elim fun cur h=>h.1.lt
theorem OwnB.call {w w':World} {b n cap:Nat} {l:List Int} (h:OwnB w b n cap l) (hb:Below w.heap.size w w'):OwnB w' b n cap l:=by
 obtain ⟨cur,h1,h2⟩:=h
 exact ⟨cur,h1.call hb,h2⟩
theorem OwnB.far {w:World} {b n cap:Nat} {l:List Int} (h:OwnB w b n cap l) {p:Addr} (hp:b≠p.block) (u:Value):OwnB (w.setCell p u) b n cap l:=by
 obtain ⟨cur,h1,h2⟩:=h
 exact ⟨cur,h1.far hp u,h2⟩
theorem OwnB.cell {w:World} {b n cap:Nat} {l:List Int} (h:OwnB w b n cap l) {i:Nat} {x:Int} (hx:l[i]? = some x):w.cell? ⟨b,i,none⟩=some (.int .i64 x)∧w.frozen? ⟨b,i,none⟩=false:=by
 obtain ⟨cur,h1,h2,h3,h4,h5,h6⟩:=h
 have hi:i < n:=by rw [h3]; exact (List.getElem?_eq_some_iff.1 hx).1
 refine ⟨?_,h1.frozen i⟩
 have h7:(cur.toList.take n)[i]? = some (.int .i64 x):=by rw [h2,List.getElem?_map,hx]; rfl
 rw [List.getElem?_take,if_pos hi] at h7
 rw [h1.cell]
 simpa using h7
theorem OwnB.set_ {w:World} {b n cap:Nat} {l:List Int} (h:OwnB w b n cap l) {i:Nat} (hi:i < n) (x:Int):OwnB (w.setCell ⟨b,i,none⟩ (.int .i64 x)) b n cap (l.set i x):=by
 obtain ⟨cur,h1,h2,h3,h4,h5,h6⟩:=h
 refine ⟨cur.setIfInBounds i (.int .i64 x),h1.set_ i _,?_,by simpa using h3,h4,h5,by simpa using h6⟩
 rw [Array.toList_setIfInBounds,List.take_set,h2,List.map_set]
theorem OwnB.arr {w:World} {b n cap:Nat} {l:List Int} (h:OwnB w b n cap l):Arr w w.heap.size 1 (.slice (some ⟨b,0,none⟩) n cap) l icell:=by
 have hl:=h.lt
 have h':=h
 obtain ⟨cur,h1,h2,h3,h4,h5,h6⟩:=h
 exact Arr.part h3 (by omega) h5 hl fun i x hx=>by rw [Nat.zero_add]; exact (h'.cell hx).1
end Go.Proofs.YtaihbcmifjmapaaGreat
namespace Go.Proofs.YtaihbcmifjmapaaGreat
open Go.RowKit Go.Shelf
set_option linter.unusedVariables false
theorem Arr.lit {w:World} {B g n cap size:Nat} {t:TypeId} {cs:Array Value} {α:Type} {l:List α} {cell:α→Nat→Value} (h:Blk w g t cs) (hB:g < B) (hn:n=l.length) (h1:l.length≤cap) (h2:cap≤9223372036854775807)
  (hc:cs.toList=l.flatMap (cellsOf size cell)):Arr w B size (.slice (some ⟨g,0,none⟩) n cap) l cell:=by
 refine Arr.of_row (t:=t) ?_ hn h1 h2 hB
 rw [← hc]
 simpa using h
end Go.Proofs.YtaihbcmifjmapaaGreat
namespace Go.Proofs.YtaihbcmifjmapaaGreat
open Go.RowKit Go.Shelf
set_option linter.unusedVariables false
structure MInv (wc:World) (g0 g1:Nat) (c:Cyl) (fa:Option Addr) (fc:Nat) (pa:Option Addr) (pc:Nat) (L:List Int) (A:Option Addr) (cap:Nat) (wr:World):Prop where
 cb:CB wr g0 g0 c fa fc pa pc
 x:Blk wr g1 34 #[.int .i64 c.turns,.int .i64 c.long,.int .i64 c.plays,.slice A L.length cap,.slice pa c.pas.length pc]
 own:wr.ownsRow wc.heap.size 3 1 (.slice A L.length cap) L.length (L.flatMap (cellsOf 1 icell))
 gr:wc.grownBy wr (some g1)
 lo:g0 < g1
 hi:g1 < wc.heap.size
section
variable {wc wr:World} {g0 g1:Nat} {c:Cyl} {fa:Option Addr} {fc:Nat} {pa:Option Addr} {pc:Nat} {L:List Int} {A:Option Addr} {cap:Nat}
theorem MInv.drew (h:MInv wc g0 g1 c fa fc pa pc L A cap wr):MInv wc g0 g1 c fa fc pa pc L A cap wr.drew :=
 ⟨h.cb.drew,h.x.drew,h.own,⟨h.gr.os,h.gr.tape,h.gr.output,h.gr.size,h.gr.block⟩,h.lo,h.hi⟩
theorem MInv.app (h:MInv wc g0 g1 c fa fc pa pc L A cap wr) {w4:World} {v':Value} {y:Int} (hb4:Below wc.heap.size wr w4)
  (hown:w4.ownsRow wc.heap.size 3 1 v' (L.length+1) (L.flatMap (cellsOf 1 icell)++(#[.int .i64 y]:Array Value).toList)) :
  ∃ A' cap',v' = .slice A' (L.length+1) cap'∧w4.cell? ⟨g1,3,none⟩=some (.slice A L.length cap)∧(∀ i,w4.frozen? ⟨g1,i,none⟩=false) ∧
   MInv wc g0 g1 c fa fc pa pc (L++[y]) A' cap' (w4.setCell ⟨g1,3,none⟩ (.slice A' (L.length+1) cap')):=by
 have hLL:(L++[y]).length=L.length+1:=by simp
 have hown5:=own_snoc (cell:=icell) (x:=y) rfl (by rfl) hown
 obtain ⟨A',cap',rfl⟩:=own_form hown5
 have hx4:Blk w4 g1 _ _:=h.x.below hb4 h.hi
 have hs:=hx4.set_ 3 (.slice A' (L++[y]).length cap')
 have hgr4:wc.grownBy w4 (some g1):=⟨hb4.os.trans h.gr.os,hb4.tape.trans h.gr.tape,hb4.output.trans h.gr.output,Nat.le_trans h.gr.size hb4.size,fun k hk hr=>(hb4.block k hk).trans (h.gr.block k hk hr)⟩
 have hC4:=h.cb.belowB hb4 (Nat.lt_trans h.lo h.hi)
 rw [← hLL]
 refine ⟨A',cap',rfl,by have:=hx4.cell 3; simpa using this,fun i=>hx4.frozen i,?_,by simpa using hs,hown5.kept (grown_setCell _) (.inr fun e=>own_blk_ne hown5 hx4 (by decide) e.symm),grown_trans' hgr4 (grown_setCell _),h.lo,h.hi⟩
 exact hC4.belowB ((Below.refl (g0+1) w4).setCell (p:=⟨g1,3,none⟩) h.lo _) (Nat.lt_succ_self _)
end
theorem append_none {w:World} (base:Nat) (t ty e:TypeId) (i:TypeInfo) (size c:Nat) (ht:Tryz.prog.underlying t=some (.slice e)) (hi:Tryz.prog.info? e=some i)
  (v:Value) (n:Nat) (xs:List Value) (hown:w.ownsRow base e size v n xs) :
  (Builtin.append_ #[t,t] ty #[v,.slice none 0 c]).run Tryz.prog w = .ok v w:=by
 rcases hown.2 with ⟨rfl,rfl⟩ | ⟨g,cap,cur,rfl,_,_,hnc,_⟩
 ·simp [Builtin.append_,run_underlying ht,sizeOf,typeInfo,hi,Builtin.lenOf,Builtin.firstCells]
 ·simp [Builtin.append_,run_underlying ht,sizeOf,typeInfo,hi,Builtin.lenOf,Builtin.firstCells,hnc,storeCells]
theorem wpList_appArr {α:Type} {W:World} {ops:Array Oper} {rest:List Oper} {o:Oper} {a:Act} {Q:Exit→Act→World→Prop} {t e size bytes:Nat} {z:Value} (hT:SlT t e size bytes z)
  (hgd:o.guard=none) (s x:Operand) (ho:o.op = .call { callee := .builtin .append,args:=#[s,x],argTypes:=#[t,t] })
  {base n c B:Nat} {sv:Value} {xs:List Value} {A:Option Addr} {l:List α} {cell:α→Nat→Value} (hs:a.eval s=sv) (hown:W.ownsRow base e size sv n xs)
  (hx:a.eval x = .slice A l.length c) (harr:Arr W B size (.slice A l.length c) l cell) (h1:∀ u∈l.flatMap (cellsOf size cell),u.oneCell'=true) (hbase:base≤W.heap.size)
  (h63:n+l.length≤1048576) (hby:bytes≤1024)
  (h:∀ v' w',w'.ownsRow base e size v' (n+l.length) (xs++l.flatMap (cellsOf size cell))→Below base W w'→W.grownBy w' sv.ownBlock→wpList Tryz.prog ops Q rest (a.put o.dst v') w') :
  wpList Tryz.prog ops Q (o::rest) a W:=by
 obtain ⟨A',c',hv,hb1,hb2,hb3⟩:=harr
 injection hv with hA _ hc
 subst hA hc
 cases A with
 | none =>
   have hl:l.length=0:=by
    rcases Nat.eq_zero_or_pos l.length with h0 | h0
    ·exact h0
    ·obtain ⟨b,off,hh,_⟩:=hb3 h0
     cases hh
   have hnil:l=[]:=List.length_eq_zero_iff.1 hl
   subst hnil
   obtain ⟨hT1,hT2,hT3,hT4⟩:=hT
   obtain ⟨i0,hi,hz0,hz1,hz2⟩:=info_parts hT2
   refine wpList_plain hgd fun _ hK=>?_
   have hr:=append_none (w:=W) base t o.type e i0 size c hT1 hi sv n xs hown
   unfold Oper.wp execOp
   simp only [List.length_nil] at hx
   simp only [ho,resolve,invoke,builtin,Sem.run_bind,Sem.run_pure,Result.andThen_ok,List.map_toArray,List.map_cons,List.map_nil,hs,hx,hr]
   exact hK _ _ (h sv W (by simpa using hown) (Below.refl _ _) (World.grownBy.refl _ _))
 | some ad =>
   refine wpList_appM hT hgd s x ho hs hown ad hx (l.flatMap (cellsOf size cell)) (flat_len size cell l) ?_ h1 hbase h63 hby fun v' w' k1 k2 k3=>h v' w' k1 k2 k3
   intro j u hu
   have hj:=(List.getElem?_eq_some_iff.1 hu).1
   rw [flat_len] at hj
   have hpos:0 < l.length:=by
    rcases Nat.eq_zero_or_pos l.length with h0 | h0
    ·rw [h0] at hj; simp at hj
    ·exact h0
   have hsz:0 < size:=by
    rcases Nat.eq_zero_or_pos size with h0 | h0
    ·rw [h0] at hj; simp at hj
    ·exact h0
   obtain ⟨b,off,hh,hb,hcell⟩:=hb3 hpos
   injection hh with hh
   subst hh
   have hi:j / size < l.length:=Nat.div_lt_of_lt_mul (by rw [Nat.mul_comm]; exact hj)
   have hm:j % size < size:=Nat.mod_lt _ hsz
   have hdm:j / size * size+j % size=j:=by rw [Nat.mul_comm]; exact Nat.div_add_mod j size
   have h2:=flat_get size cell l (j / size) _ (List.getElem?_eq_getElem hi) (j % size) hm
   rw [hdm,hu] at h2
   injection h2 with h2
   have h3:=hcell (j / size) _ (List.getElem?_eq_getElem hi) (j % size) hm
   rw [h2]
   have ha:(⟨b,off,none⟩:Addr).add j=⟨b,off+j / size * size+j % size,none⟩:=by
    unfold Addr.add
    split
    ·rename_i h0
     simp only [Addr.mk.injEq,and_true,true_and]
     omega
    ·simp only [Addr.mk.injEq,and_true,true_and]
     omega
   rw [ha]
   exact h3
theorem own_empty (w:World) (base:Nat) (e:TypeId) (size:Nat) (hb:base≤w.heap.size):(w.alloc (.cells #[] e)).ownsRow base e size (.slice (some ⟨w.heap.size,0,none⟩) 0 0) 0 []:=by
 have:=World.ownsRow_lit (base:=base) (e:=e) (size:=size) w #[] 0 hb (by simp) (by simp)
 simpa using this
theorem ne_own {b g n cap:Nat} (h:b≠g):some b≠(Value.slice (some ⟨g,0,none⟩) n cap).ownBlock:=fun e=>h (by simpa [Value.ownBlock] using e)
section
variable {w:World} {c:Cyl} {fa pa A:Option Addr} {fc pc cap:Nat}
end
structure TInv (wc:World) (g0 g1:Nat) (c:Cyl) (fa:Option Addr) (fc:Nat) (pa:Option Addr) (pc:Nat) (t l p:Int) (x3 x4:Value) (wr:World):Prop where
 cb:CB wr g0 g0 c fa fc pa pc
 x:Blk wr g1 34 #[.int .i64 t,.int .i64 l,.int .i64 p,x3,x4]
 gr:wc.grownBy wr (some g1)
 lo:g0 < g1
 hi:g1 < wc.heap.size
section
variable {wc wr w4:World} {g0 g1:Nat} {c:Cyl} {fa:Option Addr} {fc:Nat} {pa:Option Addr} {pc:Nat} {t l p:Int} {x3 x4:Value}
theorem TInv.below (h:TInv wc g0 g1 c fa fc pa pc t l p x3 x4 wr) (hb4:Below wc.heap.size wr w4):TInv wc g0 g1 c fa fc pa pc t l p x3 x4 w4 :=
 ⟨h.cb.belowB hb4 (Nat.lt_trans h.lo h.hi),h.x.below hb4 h.hi,
  ⟨hb4.os.trans h.gr.os,hb4.tape.trans h.gr.tape,hb4.output.trans h.gr.output,Nat.le_trans h.gr.size hb4.size,fun k hk hr=>(hb4.block k hk).trans (h.gr.block k hk hr)⟩,h.lo,h.hi⟩
theorem TInv.call (h:TInv wc g0 g1 c fa fc pa pc t l p x3 x4 wr) (hb:Below wr.heap.size wr w4):TInv wc g0 g1 c fa fc pa pc t l p x3 x4 w4:=h.below (hb.mono h.gr.size)
theorem TInv.f3 (h:TInv wc g0 g1 c fa fc pa pc t l p x3 x4 wr):wr.cell? ⟨g1,3,none⟩=some x3:=by
 have:=h.x.cell 3
 simpa using this
theorem TInv.f4 (h:TInv wc g0 g1 c fa fc pa pc t l p x3 x4 wr):wr.cell? ⟨g1,4,none⟩=some x4:=by
 have:=h.x.cell 4
 simpa using this
theorem TInv.set3 (h:TInv wc g0 g1 c fa fc pa pc t l p x3 x4 wr) (v:Value):TInv wc g0 g1 c fa fc pa pc t l p v x4 (wr.setCell ⟨g1,3,none⟩ v):=by
 have hs:=h.x.set_ 3 v
 exact ⟨h.cb.belowB ((Below.refl (g0+1) wr).setCell (p:=⟨g1,3,none⟩) h.lo _) (Nat.lt_succ_self _),by simpa using hs,grown_trans' h.gr (grown_setCell _),h.lo,h.hi⟩
theorem TInv.row (h:TInv wc g0 g1 c fa fc pa pc t l p x3 x4 wr) {base:Nat} {e size n:Nat} {v u:Value} {xs:List Value} {o:Nat} (hown:wr.ownsRow base e size v n xs) (he:e≠34) :
  (wr.setCell ⟨g1,o,none⟩ u).ownsRow base e size v n xs:=hown.kept (grown_setCell _) (.inr fun e=>own_blk_ne hown h.x he e.symm)
end
def part {α β:Type} (p:α→Bool) (g:α→β) (l:List α):List β:=(l.filter p).map g
structure But2 (w w':World) (a b:Nat):Prop where
 os:w'.os=w.os
 tape:w'.tape=w.tape
 output:w'.output=w.output
 size:w.heap.size≤w'.heap.size
 block:∀ k,k < w.heap.size→k≠a→k≠b→w'.heap[k]? = w.heap[k]?
section
variable {wc wr w4:World} {a b:Nat}
theorem But2.refl (w:World) (a b:Nat):But2 w w a b:=⟨rfl,rfl,rfl,Nat.le_refl _,fun _ _ _ _=>rfl⟩
theorem But2.below (h:But2 wc wr a b) (hb:Below wc.heap.size wr w4):But2 wc w4 a b :=
 ⟨hb.os.trans h.os,hb.tape.trans h.tape,hb.output.trans h.output,Nat.le_trans h.size hb.size,fun k hk h1 h2=>(hb.block k hk).trans (h.block k hk h1 h2)⟩
theorem But2.one (h:But2 wc wr a b) (hg:wr.grownBy w4 (some a)):But2 wc w4 a b :=
 ⟨hg.os.trans h.os,hg.tape.trans h.tape,hg.output.trans h.output,Nat.le_trans h.size hg.size,fun k hk h1 h2=>(hg.block k (Nat.lt_of_lt_of_le hk h.size) (by simpa using h1)).trans (h.block k hk h1 h2)⟩
end
structure PInv (wc:World) (g0 gx gy:Nat) (c:Cyl) (fa:Option Addr) (fc:Nat) (pa:Option Addr) (pc:Nat) (t l p u m q:Int) (x3 x4 y3 y4:Value) (wr:World):Prop where
 cb:CB wr g0 g0 c fa fc pa pc
 x:Blk wr gx 34 #[.int .i64 t,.int .i64 l,.int .i64 p,x3,x4]
 y:Blk wr gy 34 #[.int .i64 u,.int .i64 m,.int .i64 q,y3,y4]
 gr:But2 wc wr gx gy
 lo:g0 < gx
 md:gx < gy
 hi:gy < wc.heap.size
section
variable {wc wr w4:World} {g0 gx gy:Nat} {c:Cyl} {fa:Option Addr} {fc:Nat} {pa:Option Addr} {pc:Nat} {t l p u m q:Int} {x3 x4 y3 y4:Value}
theorem PInv.below (h:PInv wc g0 gx gy c fa fc pa pc t l p u m q x3 x4 y3 y4 wr) (hb4:Below wc.heap.size wr w4):PInv wc g0 gx gy c fa fc pa pc t l p u m q x3 x4 y3 y4 w4:=by
 have h1:=h.lo
 have h2:=h.md
 have h3:=h.hi
 exact ⟨h.cb.belowB hb4 (by omega),h.x.below hb4 (by omega),h.y.below hb4 h3,h.gr.below hb4,h1,h2,h3⟩
theorem PInv.call (h:PInv wc g0 gx gy c fa fc pa pc t l p u m q x3 x4 y3 y4 wr) (hb:Below wr.heap.size wr w4):PInv wc g0 gx gy c fa fc pa pc t l p u m q x3 x4 y3 y4 w4:=h.below (hb.mono h.gr.size)
theorem PInv.rx (h:PInv wc g0 gx gy c fa fc pa pc t l p u m q x3 x4 y3 y4 wr) {base:Nat} {e size n:Nat} {v z:Value} {xs:List Value} {o:Nat} (hown:wr.ownsRow base e size v n xs) (he:e≠34) :
  (wr.setCell ⟨gx,o,none⟩ z).ownsRow base e size v n xs:=hown.kept (grown_setCell _) (.inr fun e=>own_blk_ne hown h.x he e.symm)
theorem PInv.keep (h:PInv wc g0 gx gy c fa fc pa pc t l p u m q x3 x4 y3 y4 wr) {base:Nat} {e size n:Nat} {v:Value} {xs:List Value} {cs' cs:Array Value} (hx:Blk wc gx 34 cs') (hy:Blk wc gy 34 cs)
  (hown:wc.ownsRow base e size v n xs) (he:e≠34):wr.ownsRow base e size v n xs:=by
 obtain ⟨h1,h2⟩:=hown
 refine ⟨h1,?_⟩
 rcases h2 with h2 | ⟨g,cap,cur,h3,h4,h5,h6⟩
 ·exact .inl h2
 ·right
  refine ⟨g,cap,cur,h3,h4,?_,h6⟩
  have hlt:g < wc.heap.size:=Blk.lt (t:=e) (cs:=cur) h5
  rw [h.gr.block g hlt (fun e'=>?_) (fun e'=>?_)]
  ·exact h5
  ·subst e'
   unfold Blk at hx
   rw [h5] at hx
   injection hx with hx
   injection hx with _ hx
   exact he hx
  ·subst e'
   unfold Blk at hy
   rw [h5] at hy
   injection hy with hy
   injection hy with _ hy
   exact he hy
end
def Apart (v v':Value):Prop:=∀ b,v.ownBlock=some b→v'.ownBlock≠some b
theorem Apart.symm {v v':Value} (h:Apart v v'):Apart v' v:=fun b h1 h2=>h b h2 h1
end Go.Proofs.YtaihbcmifjmapaaGreat
