/- Plain data and plain functions for the layer of playings: nothing of the program is imported here. Words for memory: a slice that reads as a list; the contracts of package slices at this seat's numbers. Contracts of the small functions of package play: within, has, CheckCylinder, CheckPlan, Saves. Contracts: CheckCylinder, CheckPlan, Saves of package play. The contract of play.CheckCylinder. -/
import Derived.Test.YtaihbcmifjmapaaGreatProg
import Derived.WalkKit
import Derived.Outline
import Derived.Deep.QuietTactic
import Derived.Deep.Draws
import Derived.BigQuiet
import Derived.Lib.Hide
import Derived.RangeFuncCalls
import Derived.Shelf.Abstract
namespace Go.Proofs.YtaihbcmifjmapaaGreat
set_option linter.unusedVariables false
def idxOf {α:Type} (p:α→Bool):Nat→List α→Int
 | _,[] => -1
 | i,x::r=>if p x then (i:Int) else idxOf p (i+1) r
theorem idxOf_nonneg {α:Type} (p:α→Bool) (l:List α):∀ i,decide (0≤idxOf p i l)=l.any p:=by
 induction l with
 | nil=>intro i; simp [idxOf]
 | cons x r ih =>
   intro i
   unfold idxOf
   by_cases h:p x=true
   ·simp [h]
   ·simp only [h]; simp [h,ih (i+1)]
theorem idxOf_drop {α:Type} (p:α→Bool) (l:List α) (k:Nat) (x:α) (h:l[k]? = some x) :
  idxOf p k (l.drop k)=if p x then (k:Int) else idxOf p (k+1) (l.drop (k+1)):=by
 obtain ⟨hk,hx⟩:=List.getElem?_eq_some_iff.1 h
 rw [List.drop_eq_getElem_cons hk,hx]
 rfl
structure Pas where
 a:Int
 b:Int
 w:Int
 deriving Inhabited,DecidableEq
structure Str where
 a:Int
 b:Int
 deriving Inhabited,DecidableEq
structure Cyl where
 turns:Int
 long:Int
 plays:Int
 frag:List Int
 pas:List Pas
def inR (lo hi x:Int):Bool:=decide (lo≤x)&&decide (x≤hi)
def fragOk (T:Int):Int→List Int→Bool
 | _,[]=>true
 | last,t::r=>(decide (last < t)&&decide (t < T))&&fragOk T t r
def pasOk (T:Int) (p:Pas):Bool:=(((decide (0≤p.a)&&decide (p.a≤p.b))&&decide (p.b < T))&&decide (0≤p.w))&&decide (p.w≤1000)
def argOk (c:Cyl):Bool:=((((decide (1≤c.turns)&&decide (c.turns≤30))&&decide (1≤c.long))&&decide (c.long≤c.turns))&&decide (0≤c.plays))&&decide (c.plays≤6)
def checkCyl (c:Cyl):Int :=
 if argOk c=false then 2 else if fragOk c.turns (-1) c.frag=false then 16 else if 12 < c.pas.length then 6 else if c.pas.all (pasOk c.turns)=false then 3 else 0
def worn (c:Cyl) (a b:Int):Bool:=c.frag.any fun t=>decide (a≤t)&&decide (t≤b)
def hasP (s:Str) (p:Pas):Bool:=decide (s.a≤p.a)&&decide (p.b≤s.b)
def saved (plan:List Str) (p:Pas):Bool:=plan.any fun s=>hasP s p
def savesGo (plan:List Str):Nat→List Pas→List Int×Int
 | _,[]=>([],0)
 | i,p::r=>let q:=savesGo plan (i+1) r; if saved plan p then ((i:Int)::q.1,p.w+q.2) else q
def sumW (ws:Nat→Int) (s:Str):Nat→List Pas→Int
 | _,[]=>0
 | i,p::r=>(if hasP s p then ws i else 0)+sumW ws s (i+1) r
theorem sumW_drop (ws:Nat→Int) (s:Str) (l:List Pas) (k:Nat) (p:Pas) (h:l[k]? = some p) :
  sumW ws s k (l.drop k)=(if hasP s p then ws k else 0)+sumW ws s (k+1) (l.drop (k+1)):=by
 obtain ⟨hk,hx⟩:=List.getElem?_eq_some_iff.1 h
 rw [List.drop_eq_getElem_cons hk,hx]
 rfl
theorem sumW_bound (ws:Nat→Int) (M:Int) (hM:0≤M) (hw:∀ i, -M≤ws i∧ws i≤M) (s:Str):∀ (l:List Pas) (i:Nat), -(M * l.length)≤sumW ws s i l∧sumW ws s i l≤M * l.length
 | [],i=>by simp [sumW]
 | p::r,i=>by
   have ih:=sumW_bound ws M hM hw s r (i+1)
   have h:=hw i
   have e:M * ((p::r).length:Int)=M * (r.length:Int)+M:=by
    rw [List.length_cons,Int.natCast_add,Int.mul_add]; simp
   rw [e]
   unfold sumW
   split <;> omega
structure Cho where
 s:Str
 x:Int
 deriving Inhabited
def greater (out:Cho) (y:Cho):Cho:=if out.x < y.x then y else out
def pick:List Cho→Cho
 | []=>⟨⟨0,0⟩,0⟩
 | y::r=>r.foldl greater y
def strFrom (c:Cyl) (t:Nat):Nat→List Str
 | 0=>[]
 | n+1=>if (decide ((t:Int)-n < c.long)&&!(c.frag.any fun x=>(n:Int)==x))=true then ⟨n,t⟩::strFrom c t n else []
def allStr (c:Cyl):Nat→List Str
 | 0=>[]
 | t+1=>allStr c t++strFrom c t (t+1)
theorem allStr_prefix (c:Cyl) (t:Nat):∀ d,allStr c t <+: allStr c (t+d)
 | 0=>List.prefix_refl _
 | d+1=>(allStr_prefix c t d).trans (List.prefix_append _ _)
theorem allStr_le (c:Cyl) {t u:Nat} (h:t≤u):allStr c t <+: allStr c u:=by
 have:=allStr_prefix c t (u-t)
 rwa [show t+(u-t)=u by omega] at this
theorem strFrom_len (c:Cyl) (t:Nat):∀ n,(strFrom c t n).length≤n
 | 0=>by simp [strFrom]
 | n+1=>by
   unfold strFrom
   split
   ·have:=strFrom_len c t n
    simp; omega
   ·simp
theorem allStr_len (c:Cyl):∀ t,t≤30→(allStr c t).length≤31 * t
 | 0,_=>by simp [allStr]
 | t+1,h=>by
   have h1:=allStr_len c t (by omega)
   have h2:=strFrom_len c t (t+1)
   unfold allStr
   simp
   omega
abbrev VStr (T:Nat):={ s:Str // 0≤s.a∧s.a≤s.b∧s.b < (T:Int) }
def endsOf (ws:Nat→Int) (pas:List Pas) (pre:List Str) (i:Nat):List Cho :=
 (pre.filter fun s=>decide (s.b+1=(i:Int))).map fun s=>⟨s,sumW ws s 0 pas⟩
theorem endsOf_snoc (ws:Nat→Int) (pas:List Pas) (pre:List Str) (x:Str) (i j:Nat) (hi:x.b+1=(i:Int)) :
  endsOf ws pas (pre++[x]) j=if j=i then endsOf ws pas pre i++[⟨x,sumW ws x 0 pas⟩] else endsOf ws pas pre j:=by
 unfold endsOf
 rw [List.filter_append,List.map_append]
 by_cases h:j=i
 ·subst h
  simp [hi]
 ·rw [if_neg h]
  have:¬ (x.b+1=(j:Int)):=by omega
  simp [this]
theorem endsOf_len (ws:Nat→Int) (pas:List Pas) (pre:List Str) (i:Nat):(endsOf ws pas pre i).length≤pre.length:=by
 unfold endsOf
 rw [List.length_map]
 exact List.length_filter_le _ _
end Go.Proofs.YtaihbcmifjmapaaGreat
namespace Go.Proofs.YtaihbcmifjmapaaGreat
open Go.RowKit Go.Shelf
set_option linter.unusedVariables false
def Arr {α:Type} (w:World) (B size:Nat) (v:Value) (l:List α) (cell:α→Nat→Value):Prop :=
 ∃ A c,v = .slice A l.length c∧l.length≤c∧c≤9223372036854775807 ∧
  (0 < l.length→∃ b off,A=some ⟨b,off,none⟩∧b < B∧∀ i x,l[i]? = some x→∀ j,j < size→w.cell? ⟨b,off+i * size+j,none⟩=some (cell x j))
section
variable {α:Type} {w w':World} {B B' size:Nat} {v:Value} {l:List α} {cell:α→Nat→Value}
theorem Arr.keep (h:Arr w B size v l cell) (hk:∀ p:Addr,p.block < B→w'.cell? p=w.cell? p):Arr w' B size v l cell:=by
 obtain ⟨A,c,hv,h1,h2,h3⟩:=h
 refine ⟨A,c,hv,h1,h2,fun hl=>?_⟩
 obtain ⟨b,off,ha,hb,hc⟩:=h3 hl
 exact ⟨b,off,ha,hb,fun i x hx j hj=>(hk ⟨b,off+i * size+j,none⟩ hb).trans (hc i x hx j hj)⟩
theorem Arr.below (h:Arr w B size v l cell) (hb:Below B w w'):Arr w' B size v l cell:=h.keep fun p hp=>hb.cell hp
theorem Arr.more (h:Arr w B size v l cell) (hB:B≤B'):Arr w B' size v l cell:=by
 obtain ⟨A,c,hv,h1,h2,h3⟩:=h
 refine ⟨A,c,hv,h1,h2,fun hl=>?_⟩
 obtain ⟨b,off,ha,hb,hc⟩:=h3 hl
 exact ⟨b,off,ha,by omega,hc⟩
theorem Arr.alloc (h:Arr w B size v l cell) (hB:B≤w.heap.size) (o:Obj):Arr (w.alloc o) B size v l cell:=h.keep fun p hp=>World.cell?_alloc_lt w o p (by omega)
theorem Arr.nil_:Arr w B size (.slice none 0 0) ([]:List α) cell:=⟨none,0,rfl,Nat.le_refl _,by simp,fun h=>by simp at h⟩
end
theorem bthen {a b c:World} (h:Below a.heap.size a b) (k:Below b.heap.size b c):Below a.heap.size a c:=h.trans (k.mono h.size)
theorem bdrewN {B:Nat} {a b:World} (h:Below B a b) (n:Nat):Below B a (b.drewN n):=⟨h.os,h.tape,h.output,h.size,h.block⟩
theorem bcell {W w1:World} (hb:Below W.heap.size W w1):(∀ b o,b < W.heap.size→w1.cell? ⟨b,o,none⟩=W.cell? ⟨b,o,none⟩)∧(∀ b o,b < W.heap.size→w1.frozen? ⟨b,o,none⟩=W.frozen? ⟨b,o,none⟩) :=
 ⟨fun b o h=>hb.cell (p:=⟨b,o,none⟩) h,fun b o h=>hb.frozen (p:=⟨b,o,none⟩) h⟩
def Blk (w:World) (g:Nat) (t:TypeId) (cs:Array Value):Prop:=w.heap[g]? = some (.cells cs t (0,0))
section
variable {w w':World} {g:Nat} {t:TypeId} {cs:Array Value}
theorem Blk.lt (h:Blk w g t cs):g < w.heap.size:=by
 rcases Nat.lt_or_ge g w.heap.size with hlt | hge
 ·exact hlt
 ·unfold Blk at h; rw [Array.getElem?_eq_none hge] at h; cases h
theorem Blk.cell (h:Blk w g t cs) (i:Nat):w.cell? ⟨g,i,none⟩=cs[i]? := by
 unfold Blk at h; simp [World.cell?,h]
theorem Blk.frozen (h:Blk w g t cs) (i:Nat):w.frozen? ⟨g,i,none⟩=false:=by
 unfold Blk at h; simp [World.frozen?,h]
theorem Blk.new (w:World) (t:TypeId) (cs:Array Value):Blk (w.alloc (.cells cs t)) w.heap.size t cs:=by
 unfold Blk World.alloc; simp
theorem Blk.alloc (h:Blk w g t cs) (o:Obj):Blk (w.alloc o) g t cs:=(Below.heap_alloc w o g h.lt).trans h
theorem Blk.drew (h:Blk w g t cs):Blk w.drew g t cs:=h
theorem Blk.drewN (h:Blk w g t cs) (n:Nat):Blk (w.drewN n) g t cs:=h
theorem Blk.set_ (h:Blk w g t cs) (i:Nat) (u:Value):Blk (w.setCell ⟨g,i,none⟩ u) g t (cs.setIfInBounds i u):=by
 unfold Blk at h ⊢
 simp [World.setCell,Array.getElem?_modify,h]
theorem Blk.far (h:Blk w g t cs) {p:Addr} (hp:g≠p.block) (u:Value):Blk (w.setCell p u) g t cs:=(Below.heap_setCell w p u g hp).trans h
theorem Blk.below {B:Nat} (h:Blk w g t cs) (hb:Below B w w') (hg:g < B):Blk w' g t cs:=(hb.block g hg).trans h
theorem Blk.call (h:Blk w g t cs) (hb:Below w.heap.size w w'):Blk w' g t cs:=h.below hb h.lt
end
set_option maxHeartbeats 400000 in
theorem indexFunc_int (sv:Value) (l:List Int) (fn:FuncId) (fs cs:Array Value) (p:Int→Bool) (w:World)
 (eg:∀ args w,(callFunc fn args).run Tryz.prog w = .ok (.enter fn args) w)
 (hs:Arr w w.heap.size 1 sv l (fun x _ => .int .i64 x))
 (hcall:∀ x∈l,∀ w1,Below w.heap.size w w1→Calls Tryz.prog fn (fs.push (.int .i64 x)++cs) w1 fun e w2=>e = .returned (.bool (p x))∧Below w1.heap.size w1 w2) :
  Calls Tryz.prog 223 #[sv,.func (.func fn) fs cs] w fun r w'=>r = .returned (.int .i64 (idxOf p 0 l))∧Below w.heap.size w w':=by
 obtain ⟨A,c,rfl,hn,hc,hcell⟩:=hs
 go_enter Tryz.func223,Tryz.ntmps223
 go_wp2
 go_loopw [5,8] (fun x i wr=>∃ k:Nat,k≤l.length∧i = .int .i64 k∧idxOf p 0 l=idxOf p k (l.drop k)∧Below w.heap.size w wr) (fun _ i _=>l.length-(intOf i).toNat)
 case atStart=>exact ⟨0,Nat.zero_le _,rfl,rfl,Below.refl _ _⟩
 case round =>
  obtain ⟨k,hk,rfl,hf,hb⟩:=hrel
  by_cases hlt:k < l.length
  ·obtain ⟨b,off,rfl,hB,hcc⟩:=hcell (by omega)
   obtain ⟨x,hx⟩:∃ x,l[k]? = some x:=⟨l[k],List.getElem?_eq_getElem hlt⟩
   have hce:=(hb.cell (p:=⟨b,off+k*1+0,none⟩) hB).trans (hcc k x hx 0 (by omega))
   simp only [Nat.mul_one,Nat.add_zero] at hce
   have hcl:=hcall x (List.mem_of_getElem? hx) wr hb
   rw [idxOf_drop p l k x hx] at hf
   have H:=Lib.hid hf; clear hf
   have HX:=Lib.hid hx; clear hx
   clear hcall hcc hcell
   go_wp2_with (refine hcl.mono ?_; rintro e w1 ⟨rfl,hb1⟩)
   ·go_ret
    exact ⟨by rw [H.out]; simp [*],bthen hb hb1⟩
   ·go_roundw
    case rel=>exact ⟨k+1,by omega,by go_num,by rw [H.out]; simp [*],bthen hb hb1⟩
    case measure=>simp [intOf]; omega
  ·obtain rfl:k=l.length:=by omega
   have H:=Lib.hid hf; clear hf
   go_wp2
   go_ret
   exact ⟨by rw [H.out]; simp [idxOf],hb⟩
set_option maxHeartbeats 400000 in
theorem indexFunc_i64 (sv:Value) (l:List Int) (fn:FuncId) (fs cs:Array Value) (p:Int→Bool) (w:World)
 (eg:∀ args w,(callFunc fn args).run Tryz.prog w = .ok (.enter fn args) w)
 (hs:Arr w w.heap.size 1 sv l (fun x _ => .int .i64 x))
 (hcall:∀ x∈l,∀ w1,Below w.heap.size w w1→Calls Tryz.prog fn (fs.push (.int .i64 x)++cs) w1 fun e w2=>e = .returned (.bool (p x))∧Below w1.heap.size w1 w2) :
  Calls Tryz.prog 119 #[sv,.func (.func fn) fs cs] w fun r w'=>r = .returned (.int .i64 (idxOf p 0 l))∧Below w.heap.size w w':=by
 obtain ⟨A,c,rfl,hn,hc,hcell⟩:=hs
 go_enter Tryz.func119,Tryz.ntmps119
 go_wp2
 go_loopw [5,8] (fun x i wr=>∃ k:Nat,k≤l.length∧i = .int .i64 k∧idxOf p 0 l=idxOf p k (l.drop k)∧Below w.heap.size w wr) (fun _ i _=>l.length-(intOf i).toNat)
 case atStart=>exact ⟨0,Nat.zero_le _,rfl,rfl,Below.refl _ _⟩
 case round =>
  obtain ⟨k,hk,rfl,hf,hb⟩:=hrel
  by_cases hlt:k < l.length
  ·obtain ⟨b,off,rfl,hB,hcc⟩:=hcell (by omega)
   obtain ⟨x,hx⟩:∃ x,l[k]? = some x:=⟨l[k],List.getElem?_eq_getElem hlt⟩
   have hce:=(hb.cell (p:=⟨b,off+k*1+0,none⟩) hB).trans (hcc k x hx 0 (by omega))
   simp only [Nat.mul_one,Nat.add_zero] at hce
   have hcl:=hcall x (List.mem_of_getElem? hx) wr hb
   rw [idxOf_drop p l k x hx] at hf
   have H:=Lib.hid hf; clear hf
   have HX:=Lib.hid hx; clear hx
   clear hcall hcc hcell
   go_wp2_with (refine hcl.mono ?_; rintro e w1 ⟨rfl,hb1⟩)
   ·go_ret
    exact ⟨by rw [H.out]; simp [*],bthen hb hb1⟩
   ·go_roundw
    case rel=>exact ⟨k+1,by omega,by go_num,by rw [H.out]; simp [*],bthen hb hb1⟩
    case measure=>simp [intOf]; omega
  ·obtain rfl:k=l.length:=by omega
   have H:=Lib.hid hf; clear hf
   go_wp2
   go_ret
   exact ⟨by rw [H.out]; simp [idxOf],hb⟩
theorem containsFunc_int (sv:Value) (l:List Int) (fn:FuncId) (fs cs:Array Value) (p:Int→Bool) (w:World)
 (eg:∀ args w,(callFunc fn args).run Tryz.prog w = .ok (.enter fn args) w)
 (hs:Arr w w.heap.size 1 sv l (fun x _ => .int .i64 x))
 (hcall:∀ x∈l,∀ w1,Below w.heap.size w w1→Calls Tryz.prog fn (fs.push (.int .i64 x)++cs) w1 fun e w2=>e = .returned (.bool (p x))∧Below w1.heap.size w1 w2) :
  Calls Tryz.prog 98 #[sv,.func (.func fn) fs cs] w fun r w'=>r = .returned (.bool (l.any p))∧Below w.heap.size w w':=by
 have hi:=indexFunc_int sv l fn fs cs p w eg hs hcall
 have hd:=idxOf_nonneg p l 0
 have HD:=Lib.hid hd; clear hd
 clear hcall hs
 go_enter Tryz.func98,Tryz.ntmps98
 go_wp2_with (go_at_call 223; refine hi.mono ?_; rintro e w1 ⟨rfl,hb1⟩)
 go_ret
 exact ⟨by rw [← HD.out]; simp,hb1⟩
end Go.Proofs.YtaihbcmifjmapaaGreat
namespace Go.Proofs.YtaihbcmifjmapaaGreat
open Go.RowKit Go.Shelf
set_option linter.unusedVariables false
abbrev icell (x:Int) (_:Nat):Value := .int .i64 x
def pcell (p:Pas):Nat→Value
 | 0 => .int .i64 p.a
 | 1 => .int .i64 p.b
 | _ => .int .i64 p.w
set_option maxHeartbeats 400000 in
theorem indexFunc_pas (sv:Value) (l:List Pas) (fn:FuncId) (fs cs:Array Value) (p:Pas→Bool) (w:World)
 (eg:∀ args w,(callFunc fn args).run Tryz.prog w = .ok (.enter fn args) w)
 (hs:Arr w w.heap.size 3 sv l pcell)
 (hcall:∀ x∈l,∀ w1,Below w.heap.size w w1→Calls Tryz.prog fn (fs.push (.agg #[.int .i64 x.a,.int .i64 x.b,.int .i64 x.w])++cs) w1 fun e w2=>e = .returned (.bool (p x))∧Below w1.heap.size w1 w2) :
  Calls Tryz.prog 126 #[sv,.func (.func fn) fs cs] w fun r w'=>r = .returned (.int .i64 (idxOf p 0 l))∧Below w.heap.size w w':=by
 obtain ⟨A,c,rfl,hn,hc,hcell⟩:=hs
 go_enter Tryz.func126,Tryz.ntmps126
 go_wp2
 go_loopw [5,8] (fun x i wr=>∃ k:Nat,k≤l.length∧i = .int .i64 k∧idxOf p 0 l=idxOf p k (l.drop k)∧Below w.heap.size w wr) (fun _ i _=>l.length-(intOf i).toNat)
 case atStart=>exact ⟨0,Nat.zero_le _,rfl,rfl,Below.refl _ _⟩
 case round =>
  obtain ⟨k,hk,rfl,hf,hb⟩:=hrel
  by_cases hlt:k < l.length
  ·obtain ⟨b,off,rfl,hB,hcc⟩:=hcell (by omega)
   obtain ⟨x,hx⟩:∃ x,l[k]? = some x:=⟨l[k],List.getElem?_eq_getElem hlt⟩
   have hce:=fun j (hj:j < 3)=>(hb.cell (p:=⟨b,off+k*3+j,none⟩) hB).trans (hcc k x hx j hj)
   have c0:=hce 0 (by omega)
   have c1:=hce 1 (by omega)
   have c2:=hce (3-1) (by omega)
   clear hce
   simp only [Nat.add_zero,pcell,Nat.reduceSub] at c0 c1 c2
   have hcl:=hcall x (List.mem_of_getElem? hx) wr hb
   rw [idxOf_drop p l k x hx] at hf
   have H:=Lib.hid hf; clear hf
   have HX:=Lib.hid hx; clear hx
   clear hcall hcc hcell
   go_wp2_with (refine hcl.mono ?_; rintro e w1 ⟨rfl,hb1⟩)
   ·go_ret
    exact ⟨by rw [H.out]; simp [*],bthen hb hb1⟩
   ·go_roundw
    case rel=>exact ⟨k+1,by omega,by go_num,by rw [H.out]; simp [*],bthen hb hb1⟩
    case measure=>simp [intOf]; omega
  ·obtain rfl:k=l.length:=by omega
   have H:=Lib.hid hf; clear hf
   go_wp2
   go_ret
   exact ⟨by rw [H.out]; simp [idxOf],hb⟩
theorem containsFunc_pas (sv:Value) (l:List Pas) (fn:FuncId) (fs cs:Array Value) (p:Pas→Bool) (w:World)
 (eg:∀ args w,(callFunc fn args).run Tryz.prog w = .ok (.enter fn args) w)
 (hs:Arr w w.heap.size 3 sv l pcell)
 (hcall:∀ x∈l,∀ w1,Below w.heap.size w w1→Calls Tryz.prog fn (fs.push (.agg #[.int .i64 x.a,.int .i64 x.b,.int .i64 x.w])++cs) w1 fun e w2=>e = .returned (.bool (p x))∧Below w1.heap.size w1 w2) :
  Calls Tryz.prog 50 #[sv,.func (.func fn) fs cs] w fun r w'=>r = .returned (.bool (l.any p))∧Below w.heap.size w w':=by
 have hi:=indexFunc_pas sv l fn fs cs p w eg hs hcall
 have HD:=Lib.hid (idxOf_nonneg p l 0)
 clear hcall hs
 go_enter Tryz.func50,Tryz.ntmps50
 go_wp2_with (go_at_call 126; refine hi.mono ?_; rintro e w1 ⟨rfl,hb1⟩)
 go_ret
 exact ⟨by rw [← HD.out]; simp,hb1⟩
theorem within1_ok (x lo hi:Int) (w:World) (b1 b2:Nat) (h1:w.cell? ⟨b1,0,none⟩=some (.int .i64 lo)) (h2:w.cell? ⟨b2,0,none⟩=some (.int .i64 hi)) :
  Calls Tryz.prog 125 #[.int .i64 x,.pointer (some ⟨b1,0,none⟩),.pointer (some ⟨b2,0,none⟩)] w fun r w'=>r = .returned (.bool (decide (x < lo)||decide (hi < x)))∧Below w.heap.size w w':=by
 go_enter Tryz.func125,Tryz.ntmps125
 go_wp2
 all_goals (go_ret; exact ⟨by simp [*],Below.refl _ _⟩)
theorem all_of_any (lo hi:Int) (l:List Int):(!(l.any fun x=>decide (x < lo)||decide (hi < x)))=l.all (inR lo hi):=by
 induction l with
 | nil=>rfl
 | cons x r ih =>
   simp only [List.any_cons,List.all_cons,Bool.not_or,ih,inR]
   congr 1
   rw [Bool.eq_iff_iff]
   simp
theorem within_ok (lo hi:Int) (lv:Value) (l:List Int) (w:World) (hs:Arr w w.heap.size 1 lv l icell) :
  Calls Tryz.prog 48 #[.int .i64 lo,.int .i64 hi,lv] w fun r w'=>r = .returned (.bool (l.all (inR lo hi)))∧Below w.heap.size w w':=by
 have HA:=Lib.hid (all_of_any lo hi l)
 go_enter Tryz.func48,Tryz.ntmps48
 go_wp2_with fail
 refine (containsFunc_int _ l 125 _ _ (fun x=>decide (x < lo)||decide (hi < x)) _ (enters_of Tryz.func125 (by kernel_rfl) rfl) ?h1 ?h2).mono ?_
 case h1=>exact ((hs.alloc (by simp) _).alloc (by simp) _).more (by simp; omega)
 case h2 =>
  intro x _ w1 hb
  exact within1_ok x lo hi w1 _ _ ((hb.cell (p:=⟨w.heap.size,0,none⟩) (by simp; omega)).trans (by simp)) ((hb.cell (p:=⟨w.heap.size+1,0,none⟩) (by simp)).trans (by simp))
 rintro e w1 ⟨rfl,hb⟩
 go_wp2
 go_ret
 exact ⟨by rw [← HA.out]; simp,((((Below.refl _ _).alloc (Nat.le_refl _) _).alloc (by simp) _).trans (hb.mono (by simp; omega)))⟩
theorem has_ok (s:Str) (p:Pas) (w:World) :
  Calls Tryz.prog 113 #[.agg #[.int .i64 s.a,.int .i64 s.b],.agg #[.int .i64 p.a,.int .i64 p.b,.int .i64 p.w]] w fun r w'=>r = .returned (.bool (hasP s p))∧Below w.heap.size w w':=by
 go_enter Tryz.func113,Tryz.ntmps113
 go_wp2
 all_goals (go_ret; exact ⟨by simp [hasP, *]; try omega,((Below.refl _ _).alloc (Nat.le_refl _) _).alloc (by simp) _⟩)
end Go.Proofs.YtaihbcmifjmapaaGreat
namespace Go.Proofs.YtaihbcmifjmapaaGreat
open Go.RowKit Go.Shelf
set_option linter.unusedVariables false
theorem within_1 (lo hi x:Int) (b c:Nat) (w:World) (hb:b < w.heap.size) (h:w.cell? ⟨b,0,none⟩=some (.int .i64 x)) (hc:1≤c) (hc2:c≤9223372036854775807) :
  Calls Tryz.prog 48 #[.int .i64 lo,.int .i64 hi,.slice (some ⟨b,0,none⟩) 1 c] w fun r w'=>r = .returned (.bool (inR lo hi x))∧Below w.heap.size w w':=by
 refine (within_ok lo hi _ [x] w ⟨some ⟨b,0,none⟩,c,rfl,hc,hc2,fun _=>⟨b,0,rfl,hb,?_⟩⟩).mono ?_
 ·intro i y hy j hj
  obtain rfl:i=0:=by
   rcases Nat.eq_zero_or_pos i with h0 | h0
   ·exact h0
   ·rw [List.getElem?_eq_none (by simp; omega)] at hy; cases hy
  obtain rfl:j=0:=by omega
  simp at hy
  subst hy
  simpa using h
 ·rintro e w1 ⟨rfl,hb1⟩
  exact ⟨by simp,hb1⟩
theorem within_3 (lo hi x y z:Int) (b c:Nat) (w:World) (hb:b < w.heap.size) (h0:w.cell? ⟨b,0,none⟩=some (.int .i64 x)) (h1:w.cell? ⟨b,1,none⟩=some (.int .i64 y)) (h2:w.cell? ⟨b,2,none⟩=some (.int .i64 z)) (hc:3≤c) (hc2:c≤9223372036854775807) :
  Calls Tryz.prog 48 #[.int .i64 lo,.int .i64 hi,.slice (some ⟨b,0,none⟩) 3 c] w fun r w'=>r = .returned (.bool (inR lo hi x&&inR lo hi y&&inR lo hi z))∧Below w.heap.size w w':=by
 refine (within_ok lo hi _ [x,y,z] w ⟨some ⟨b,0,none⟩,c,rfl,hc,hc2,fun _=>⟨b,0,rfl,hb,?_⟩⟩).mono ?_
 ·intro i u hu j hj
  obtain rfl:j=0:=by omega
  match i,hu with
  | 0,hu=>simp at hu; subst hu; simpa using h0
  | 1,hu=>simp at hu; subst hu; simpa using h1
  | 2,hu=>simp at hu; subst hu; simpa using h2
  | n+3,hu=>simp at hu
 ·rintro e w1 ⟨rfl,hb1⟩
  exact ⟨by simp [Bool.and_assoc],hb1⟩
theorem ret_b {a b:Bool} (h:a=b):Ending.returned (.bool a)=Ending.returned (.bool b):=by rw [h]
theorem ret_i {k:IntKind} {a b:Int} (h:a=b):Ending.returned (.int k a)=Ending.returned (.int k b):=by rw [h]
theorem pasBad_f {T:Int} {p:Pas} (h2:T≤30) (hv:(inR 0 (T-1) p.a&&inR 0 (T-1) p.b&&inR 0 (T-1) (wrap64 (p.b-p.a)))=false):(!pasOk T p)=true:=by
 cases hok:pasOk T p
 ·rfl
 ·exfalso
  simp only [pasOk,Bool.and_eq_true,decide_eq_true_eq] at hok
  rw [IntWalk.wrap64_in _ ⟨by omega,by omega⟩] at hv
  rw [Bool.eq_false_iff] at hv
  apply hv
  simp [inR]
  omega
theorem pasBad_t {T:Int} {p:Pas} (h1:1≤T) (h2:T≤30) (hv:(inR 0 (T-1) p.a&&inR 0 (T-1) p.b&&inR 0 (T-1) (wrap64 (p.b-p.a)))=true):(!pasOk T p)=(decide (p.w < 0)||decide (1000 < p.w)):=by
 simp only [inR,Bool.and_eq_true,decide_eq_true_eq] at hv
 rw [IntWalk.wrap64_in _ ⟨by omega,by omega⟩] at hv
 rw [Bool.eq_iff_iff]
 simp [pasOk]
 omega
theorem pasBad_ok (T:Int) (p:Pas) (g:Nat) (w:World) (hg:g < w.heap.size) (h:w.cell? ⟨g,0,none⟩=some (.int .i64 T)) (h1:1≤T) (h2:T≤30) :
  Calls Tryz.prog 49 #[.agg #[.int .i64 p.a,.int .i64 p.b,.int .i64 p.w],.pointer (some ⟨g,0,none⟩)] w fun r w'=>r = .returned (.bool (!pasOk T p))∧Below w.heap.size w w':=by
 go_enter Tryz.func49,Tryz.ntmps49
 go_wp2_with fail
 refine (within_3 _ _ p.a p.b (wrap64 (p.b-p.a)) _ _ _ ?_ ?_ ?_ ?_ ?_ ?_).mono ?_
 ·simp
 ·simp
 ·simp
 ·simp
 ·simp
 ·simp
 rintro e w1 ⟨rfl,hb1⟩
 obtain ⟨hc1,hf1⟩:=bcell hb1
 have hbb:Below w.heap.size w w1:=((Below.refl _ _).alloc (Nat.le_refl _) _).alloc (by simp) _ |>.trans (hb1.mono (by simp; omega))
 cases hv:(inR 0 (T-1) p.a&&inR 0 (T-1) p.b&&inR 0 (T-1) (wrap64 (p.b-p.a)))
 all_goals (have HV:=Lib.hid hv; clear hv; go_wp2)
 all_goals go_ret
 all_goals (have hv:=HV.out; refine ⟨ret_b ?_,hbb⟩; first | exact (pasBad_f h2 hv).symm | (rw [pasBad_t h1 h2 hv]; done) | (rw [pasBad_t h1 h2 hv]; simp [*]; done) | (rw [pasBad_t h1 h2 hv]; simp [*]; omega))
end Go.Proofs.YtaihbcmifjmapaaGreat
namespace Go.Proofs.YtaihbcmifjmapaaGreat
open Go.RowKit Go.Shelf
set_option linter.unusedVariables false
def CylV (w:World) (B:Nat) (v:Value) (c:Cyl):Prop :=
 ∃ fv pv,v = .agg #[.int .i64 c.turns,.int .i64 c.long,.int .i64 c.plays,fv,pv]∧Arr w B 1 fv c.frag icell∧Arr w B 3 pv c.pas pcell
theorem fragOk_drop (T last t:Int) (l:List Int) (k:Nat) (h:l[k]? = some t):fragOk T last (l.drop k)=((decide (last < t)&&decide (t < T))&&fragOk T t (l.drop (k+1))):=by
 obtain ⟨hk,hx⟩:=List.getElem?_eq_some_iff.1 h
 rw [List.drop_eq_getElem_cons hk,hx]
 rfl
theorem Blk.c5 {w:World} {g:Nat} {t:TypeId} {a b c d e:Value} (h:Blk w g t #[a,b,c,d,e]) :
  w.cell? ⟨g,0,none⟩=some a∧w.cell? ⟨g,1,none⟩=some b∧w.cell? ⟨g,2,none⟩=some c∧w.cell? ⟨g,3,none⟩=some d∧w.cell? ⟨g,4,none⟩=some e:=by
 simp [h.cell]
theorem argOk_eq (c:Cyl):argOk c=(inR 1 30 c.turns&&inR 1 c.turns c.long&&inR 0 6 c.plays):=by
 rw [Bool.eq_iff_iff]; simp [argOk,inR]; omega
set_option maxRecDepth 100000 in
set_option maxHeartbeats 800000 in
theorem checkCyl_ok (v:Value) (c:Cyl) (w:World) (hv:CylV w w.heap.size v c) :
  Calls Tryz.prog 14 #[v] w fun r w'=>r = .returned (.int .i64 (checkCyl c))∧Below w.heap.size w w':=by
 obtain ⟨fv,pv,rfl,⟨fa,fc,rfl,hf1,hf2,hfc⟩,⟨pa,pc,rfl,hp1,hp2,hpc⟩⟩:=hv
 have hx:=Blk.new w 34 #[.int .i64 c.turns,.int .i64 c.long,.int .i64 c.plays,.slice fa c.frag.length fc,.slice pa c.pas.length pc]
 have hb0:Below w.heap.size w (w.alloc (.cells #[.int .i64 c.turns,.int .i64 c.long,.int .i64 c.plays,.slice fa c.frag.length fc,.slice pa c.pas.length pc] 34)):=(Below.refl _ _).alloc (Nat.le_refl _) _
 go_enter Tryz.func14,Tryz.ntmps14
 go_wp2_with fail
 refine (within_1 _ _ c.turns _ _ _ ?_ ?_ ?_ ?_).mono ?_
 ·simp
 ·simp
 ·simp
 ·simp
 rintro e w1 ⟨rfl,hb1⟩
 have hx1:=(hx.alloc _).call hb1
 have hz1:w.heap.size+2≤w1.heap.size:=by have:=hb1.size; simp at this; omega
 have hB1:=(hb0.alloc (by simp) _).trans (hb1.mono (by simp; omega))
 clear hx hb0 hb1
 obtain ⟨k0,k1,k2,k3,k4⟩:=hx1.c5
 cases hc1:inR 1 30 c.turns
 ·have HC:Hid (checkCyl c=2):=by simp [Hid,checkCyl,argOk_eq,hc1]
  clear hc1
  go_wp2
  go_ret
  exact ⟨ret_i HC.out.symm,hB1⟩
 have HC1:=Lib.hid hc1
 have hT:1≤c.turns∧c.turns≤30:=by simpa [inR] using hc1
 obtain ⟨hT1,hT2⟩:=hT
 clear hc1
 go_wp2_with fail
 refine (within_1 _ _ c.long _ _ _ ?_ ?_ ?_ ?_).mono ?_
 ·simp
 ·simp
 ·simp
 ·simp
 rintro e w2 ⟨rfl,hb2⟩
 have hx2:=(hx1.alloc _).call hb2
 have hz2:w.heap.size+2≤w2.heap.size:=by have:=hb2.size; simp at this; omega
 have hB2:=(hB1.alloc (by omega) _).trans (hb2.mono (by simp; omega))
 clear hx1 hB1 hb2 k0 k1 k2 k3 k4 hz1
 obtain ⟨k0,k1,k2,k3,k4⟩:=hx2.c5
 cases hc2:inR 1 c.turns c.long
 ·have HC:Hid (checkCyl c=2):=by simp [Hid,checkCyl,argOk_eq,hc2]
  clear hc2
  go_wp2
  go_ret
  exact ⟨ret_i HC.out.symm,hB2⟩
 have HC2:=Lib.hid hc2
 clear hc2
 go_wp2_with fail
 refine (within_1 _ _ c.plays _ _ _ ?_ ?_ ?_ ?_).mono ?_
 ·simp
 ·simp
 ·simp
 ·simp
 rintro e w3 ⟨rfl,hb3⟩
 have hx3:=(hx2.alloc _).call hb3
 have hz3:w.heap.size+2≤w3.heap.size:=by have:=hb3.size; simp at this; omega
 have hB3:=(hB2.alloc (by omega) _).trans (hb3.mono (by simp; omega))
 clear hx2 hB2 hb3 k0 k1 k2 k3 k4 hz2
 obtain ⟨k0,k1,k2,k3,k4⟩:=hx3.c5
 cases hc3:inR 0 6 c.plays
 ·have HC:Hid (checkCyl c=2):=by simp [Hid,checkCyl,argOk_eq,hc3]
  clear hc3
  go_wp2
  go_ret
  exact ⟨ret_i HC.out.symm,hB3⟩
 have HA:argOk c=true:=by rw [argOk_eq,HC1.out,HC2.out,hc3]; rfl
 have HA:=Lib.hid HA
 clear hc3 HC1 HC2
 go_wp2
 go_loop [3,5,31] (fun la t i=>∃ (k:Nat) (last:Int),k≤c.frag.length∧i = .int .i64 k∧la = .int .i64 last∧fragOk c.turns (-1) c.frag=fragOk c.turns last (c.frag.drop k)) (fun _ _ i=>c.frag.length-(intOf i).toNat)
 case atStart=>exact ⟨0, -1,Nat.zero_le _,rfl,rfl,rfl⟩
 case round =>
  obtain ⟨k,last,hk,rfl,rfl,hfr⟩:=hrel
  by_cases hlt:k < c.frag.length
  ·obtain ⟨b,off,rfl,hB,hcc⟩:=hfc (by omega)
   obtain ⟨t,ht⟩:∃ x,c.frag[k]? = some x:=⟨c.frag[k],List.getElem?_eq_getElem hlt⟩
   have hce:=(hB3.cell (p:=⟨b,off+k*1+0,none⟩) hB).trans (hcc k t ht 0 (by omega))
   simp only [Nat.mul_one,Nat.add_zero] at hce
   rw [fragOk_drop c.turns last t c.frag k ht] at hfr
   have HF:=Lib.hid hfr; clear hfr ht hcc hfc hpc
   by_cases h1:t≤last
   ·go_wp2
    go_ret
    refine ⟨ret_i ?_,hB3⟩
    have hbad:fragOk c.turns (-1) c.frag=false:=by rw [HF.out]; simp; omega
    simp [checkCyl,HA.out,hbad]
   ·by_cases h2:c.turns≤t
    ·go_wp2
     go_ret
     refine ⟨ret_i ?_,hB3⟩
     have hbad:fragOk c.turns (-1) c.frag=false:=by rw [HF.out]; simp; omega
     simp [checkCyl,HA.out,hbad]
    ·go_wp2
     go_round
     case rel=>exact ⟨k+1,t,by omega,by go_num,rfl,by rw [HF.out]; simp; omega⟩
     case measure=>simp [intOf]; omega
  ·obtain rfl:k=c.frag.length:=by omega
   have hgood:fragOk c.turns (-1) c.frag=true:=by rw [hfr]; simp [fragOk]
   have HG:=Lib.hid hgood
   clear hfr hgood
   by_cases hm:12 < c.pas.length
   ·go_wp2
    go_ret
    exact ⟨ret_i (by simp [checkCyl,HA.out,HG.out,hm]),hB3⟩
   ·go_wp2_with fail
    refine (containsFunc_pas _ c.pas 49 _ _ (fun p=>!pasOk c.turns p) _ (enters_of Tryz.func49 (by kernel_rfl) rfl) ?h1 ?h2).mono ?_
    case h1=>exact Arr.more (Arr.below ⟨pa,pc,rfl,hp1,hp2,hpc⟩ hB3) hB3.size
    case h2 =>
     intro x _ w4 hb4
     have hx4:=hx3.call hb4
     exact pasBad_ok c.turns x w.heap.size w4 hx4.lt hx4.c5.1 hT1 hT2
    rintro e w4 ⟨rfl,hb4⟩
    have HN:Hid ((c.pas.any fun p=>!pasOk c.turns p)=!(c.pas.all (pasOk c.turns))):=by simp [Hid,List.any_eq_not_all_not]
    cases hall:c.pas.all (pasOk c.turns)
    ·have HN':(c.pas.any fun p=>!pasOk c.turns p)=true:=by rw [HN.out,hall]; rfl
     rw [HN']
     clear HN'
     have HH:=Lib.hid hall; clear hall
     go_wp2
     go_ret
     exact ⟨ret_i (by simp only [checkCyl,HA.out,HG.out,HH.out,hm]; simp),hB3.trans (hb4.mono hB3.size)⟩
    ·have HN':(c.pas.any fun p=>!pasOk c.turns p)=false:=by rw [HN.out,hall]; rfl
     rw [HN']
     clear HN'
     have HH:=Lib.hid hall; clear hall
     go_wp2
     go_ret
     exact ⟨ret_i (by simp only [checkCyl,HA.out,HG.out,HH.out,hm]; simp),hB3.trans (hb4.mono hB3.size)⟩
end Go.Proofs.YtaihbcmifjmapaaGreat
