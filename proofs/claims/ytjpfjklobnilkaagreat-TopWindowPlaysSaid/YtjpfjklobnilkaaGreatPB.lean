/- Words for memory: a slice that reads as a list; the contracts of package slices at this seat's numbers. Contracts of the small functions of package play: within, has, CheckCylinder, CheckPlan, Saves. Contracts: CheckCylinder, CheckPlan, Saves of package play. The contract of play.CheckCylinder. Words for slices that a call makes: append of one element, and how such a slice reads. Regions that draw their order, whose operations read and whose calls make memory but change none that is there. A cylinder that lies in a box of the call's own. -/
import Derived.Test.YtjpfjklobnilkaaGreatProg
import Derived.Test.YtjpfjklobnilkaaGreatPA
import Derived.WalkKit
import Derived.Outline
import Derived.Deep.QuietTactic
import Derived.Deep.Draws
import Derived.BigQuiet
import Derived.Lib.Hide
import Derived.RangeFuncCalls
import Derived.Shelf.Abstract
import Derived.ArgAppend
import Derived.Laws.OwnMore
import Derived.Deep.Cut
import Derived.Deep.CutBlock
import Derived.StillTailTactics
namespace Go.Proofs.YtjpfjklobnilkaaGreat
open Go.RowKit Go.Shelf
set_option linter.unusedVariables false
def Arr {α:Type} (w:World) (B size:Nat) (v:Value) (l:List α) (cell:α→Nat→Value):Prop :=
 ∃ A c,v = .slice A l.length c∧l.length≤c∧c≤9223372036854775807 ∧
  (0 < l.length→∃ b off,A=some ⟨b,off,none⟩∧b < B∧∀ i x,l[i]? = some x→∀ j,j < size→w.cell? ⟨b,off+i * size+j,none⟩=some (cell x j))
section
variable {α:Type} {w w':World} {B B' size:Nat} {v:Value} {l:List α} {cell:α→Nat→Value}
theorem Arr.keep (h:Arr w B size v l cell) (hk:∀ p:Addr,p.block < B→w'.cell? p=w.cell? p):Arr w' B size v l cell:=by
 obtain ⟨A,c,hv,h1,h2,h3⟩:=h
 refine ⟨A,c,hv,h1,h2,fun hl=>?_⟩
 obtain ⟨b,off,ha,hb,hc⟩:=h3 hl
 exact ⟨b,off,ha,hb,fun i x hx j hj=>(hk ⟨b,off+i * size+j,none⟩ hb).trans (hc i x hx j hj)⟩
theorem Arr.below (h:Arr w B size v l cell) (hb:Below B w w'):Arr w' B size v l cell:=h.keep fun p hp=>hb.cell hp
theorem Arr.more (h:Arr w B size v l cell) (hB:B≤B'):Arr w B' size v l cell:=by
 obtain ⟨A,c,hv,h1,h2,h3⟩:=h
 refine ⟨A,c,hv,h1,h2,fun hl=>?_⟩
 obtain ⟨b,off,ha,hb,hc⟩:=h3 hl
 exact ⟨b,off,ha,by omega,hc⟩
theorem Arr.alloc (h:Arr w B size v l cell) (hB:B≤w.heap.size) (o:Obj):Arr (w.alloc o) B size v l cell:=h.keep fun p hp=>World.cell?_alloc_lt w o p (by omega)
theorem Arr.nil_:Arr w B size (.slice none 0 0) ([]:List α) cell:=⟨none,0,rfl,Nat.le_refl _,by simp,fun h=>by simp at h⟩
end
theorem bthen {a b c:World} (h:Below a.heap.size a b) (k:Below b.heap.size b c):Below a.heap.size a c:=h.trans (k.mono h.size)
theorem bdrewN {B:Nat} {a b:World} (h:Below B a b) (n:Nat):Below B a (b.drewN n):=⟨h.os,h.tape,h.output,h.size,h.block⟩
theorem bcell {W w1:World} (hb:Below W.heap.size W w1):(∀ b o,b < W.heap.size→w1.cell? ⟨b,o,none⟩=W.cell? ⟨b,o,none⟩)∧(∀ b o,b < W.heap.size→w1.frozen? ⟨b,o,none⟩=W.frozen? ⟨b,o,none⟩) :=
 ⟨fun b o h=>hb.cell (p:=⟨b,o,none⟩) h,fun b o h=>hb.frozen (p:=⟨b,o,none⟩) h⟩
def Blk (w:World) (g:Nat) (t:TypeId) (cs:Array Value):Prop:=w.heap[g]? = some (.cells cs t (0,0))
section
variable {w w':World} {g:Nat} {t:TypeId} {cs:Array Value}
theorem Blk.lt (h:Blk w g t cs):g < w.heap.size:=by
 rcases Nat.lt_or_ge g w.heap.size with hlt | hge
 ·exact hlt
 ·unfold Blk at h; rw [Array.getElem?_eq_none hge] at h; cases h
theorem Blk.cell (h:Blk w g t cs) (i:Nat):w.cell? ⟨g,i,none⟩=cs[i]? := by
 unfold Blk at h; simp [World.cell?,h]
theorem Blk.frozen (h:Blk w g t cs) (i:Nat):w.frozen? ⟨g,i,none⟩=false:=by
 unfold Blk at h; simp [World.frozen?,h]
theorem Blk.new (w:World) (t:TypeId) (cs:Array Value):Blk (w.alloc (.cells cs t)) w.heap.size t cs:=by
 unfold Blk World.alloc; simp
theorem Blk.alloc (h:Blk w g t cs) (o:Obj):Blk (w.alloc o) g t cs:=(Below.heap_alloc w o g h.lt).trans h
theorem Blk.drew (h:Blk w g t cs):Blk w.drew g t cs:=h
theorem Blk.drewN (h:Blk w g t cs) (n:Nat):Blk (w.drewN n) g t cs:=h
theorem Blk.set_ (h:Blk w g t cs) (i:Nat) (u:Value):Blk (w.setCell ⟨g,i,none⟩ u) g t (cs.setIfInBounds i u):=by
 unfold Blk at h ⊢
 simp [World.setCell,Array.getElem?_modify,h]
theorem Blk.far (h:Blk w g t cs) {p:Addr} (hp:g≠p.block) (u:Value):Blk (w.setCell p u) g t cs:=(Below.heap_setCell w p u g hp).trans h
theorem Blk.below {B:Nat} (h:Blk w g t cs) (hb:Below B w w') (hg:g < B):Blk w' g t cs:=(hb.block g hg).trans h
theorem Blk.call (h:Blk w g t cs) (hb:Below w.heap.size w w'):Blk w' g t cs:=h.below hb h.lt
end
set_option maxHeartbeats 400000 in
theorem indexFunc_int (sv:Value) (l:List Int) (fn:FuncId) (fs cs:Array Value) (p:Int→Bool) (w:World)
 (eg:∀ args w,(callFunc fn args).run Tryz.prog w = .ok (.enter fn args) w)
 (hs:Arr w w.heap.size 1 sv l (fun x _ => .int .i64 x))
 (hcall:∀ x∈l,∀ w1,Below w.heap.size w w1→Calls Tryz.prog fn (fs.push (.int .i64 x)++cs) w1 fun e w2=>e = .returned (.bool (p x))∧Below w1.heap.size w1 w2) :
  Calls Tryz.prog 242 #[sv,.func (.func fn) fs cs] w fun r w'=>r = .returned (.int .i64 (idxOf p 0 l))∧Below w.heap.size w w':=by
 obtain ⟨A,c,rfl,hn,hc,hcell⟩:=hs
 go_enter Tryz.func242,Tryz.ntmps242
 go_wp2
 go_loopw [5,8] (fun x i wr=>∃ k:Nat,k≤l.length∧i = .int .i64 k∧idxOf p 0 l=idxOf p k (l.drop k)∧Below w.heap.size w wr) (fun _ i _=>l.length-(intOf i).toNat)
 case atStart=>exact ⟨0,Nat.zero_le _,rfl,rfl,Below.refl _ _⟩
 case round =>
  obtain ⟨k,hk,rfl,hf,hb⟩:=hrel
  by_cases hlt:k < l.length
  ·obtain ⟨b,off,rfl,hB,hcc⟩:=hcell (by omega)
   obtain ⟨x,hx⟩:∃ x,l[k]? = some x:=⟨l[k],List.getElem?_eq_getElem hlt⟩
   have hce:=(hb.cell (p:=⟨b,off+k*1+0,none⟩) hB).trans (hcc k x hx 0 (by omega))
   simp only [Nat.mul_one,Nat.add_zero] at hce
   have hcl:=hcall x (List.mem_of_getElem? hx) wr hb
   rw [idxOf_drop p l k x hx] at hf
   have H:=Lib.hid hf; clear hf
   have HX:=Lib.hid hx; clear hx
   clear hcall hcc hcell
   go_wp2_with (refine hcl.mono ?_; rintro e w1 ⟨rfl,hb1⟩)
   ·go_ret
    exact ⟨by rw [H.out]; simp [*],bthen hb hb1⟩
   ·go_roundw
    case rel=>exact ⟨k+1,by omega,by go_num,by rw [H.out]; simp [*],bthen hb hb1⟩
    case measure=>simp [intOf]; omega
  ·obtain rfl:k=l.length:=by omega
   have H:=Lib.hid hf; clear hf
   go_wp2
   go_ret
   exact ⟨by rw [H.out]; simp [idxOf],hb⟩
set_option maxHeartbeats 400000 in
theorem indexFunc_i64 (sv:Value) (l:List Int) (fn:FuncId) (fs cs:Array Value) (p:Int→Bool) (w:World)
 (eg:∀ args w,(callFunc fn args).run Tryz.prog w = .ok (.enter fn args) w)
 (hs:Arr w w.heap.size 1 sv l (fun x _ => .int .i64 x))
 (hcall:∀ x∈l,∀ w1,Below w.heap.size w w1→Calls Tryz.prog fn (fs.push (.int .i64 x)++cs) w1 fun e w2=>e = .returned (.bool (p x))∧Below w1.heap.size w1 w2) :
  Calls Tryz.prog 23 #[sv,.func (.func fn) fs cs] w fun r w'=>r = .returned (.int .i64 (idxOf p 0 l))∧Below w.heap.size w w':=by
 obtain ⟨A,c,rfl,hn,hc,hcell⟩:=hs
 go_enter Tryz.func23,Tryz.ntmps23
 go_wp2
 go_loopw [5,8] (fun x i wr=>∃ k:Nat,k≤l.length∧i = .int .i64 k∧idxOf p 0 l=idxOf p k (l.drop k)∧Below w.heap.size w wr) (fun _ i _=>l.length-(intOf i).toNat)
 case atStart=>exact ⟨0,Nat.zero_le _,rfl,rfl,Below.refl _ _⟩
 case round =>
  obtain ⟨k,hk,rfl,hf,hb⟩:=hrel
  by_cases hlt:k < l.length
  ·obtain ⟨b,off,rfl,hB,hcc⟩:=hcell (by omega)
   obtain ⟨x,hx⟩:∃ x,l[k]? = some x:=⟨l[k],List.getElem?_eq_getElem hlt⟩
   have hce:=(hb.cell (p:=⟨b,off+k*1+0,none⟩) hB).trans (hcc k x hx 0 (by omega))
   simp only [Nat.mul_one,Nat.add_zero] at hce
   have hcl:=hcall x (List.mem_of_getElem? hx) wr hb
   rw [idxOf_drop p l k x hx] at hf
   have H:=Lib.hid hf; clear hf
   have HX:=Lib.hid hx; clear hx
   clear hcall hcc hcell
   go_wp2_with (refine hcl.mono ?_; rintro e w1 ⟨rfl,hb1⟩)
   ·go_ret
    exact ⟨by rw [H.out]; simp [*],bthen hb hb1⟩
   ·go_roundw
    case rel=>exact ⟨k+1,by omega,by go_num,by rw [H.out]; simp [*],bthen hb hb1⟩
    case measure=>simp [intOf]; omega
  ·obtain rfl:k=l.length:=by omega
   have H:=Lib.hid hf; clear hf
   go_wp2
   go_ret
   exact ⟨by rw [H.out]; simp [idxOf],hb⟩
theorem containsFunc_int (sv:Value) (l:List Int) (fn:FuncId) (fs cs:Array Value) (p:Int→Bool) (w:World)
 (eg:∀ args w,(callFunc fn args).run Tryz.prog w = .ok (.enter fn args) w)
 (hs:Arr w w.heap.size 1 sv l (fun x _ => .int .i64 x))
 (hcall:∀ x∈l,∀ w1,Below w.heap.size w w1→Calls Tryz.prog fn (fs.push (.int .i64 x)++cs) w1 fun e w2=>e = .returned (.bool (p x))∧Below w1.heap.size w1 w2) :
  Calls Tryz.prog 118 #[sv,.func (.func fn) fs cs] w fun r w'=>r = .returned (.bool (l.any p))∧Below w.heap.size w w':=by
 have hi:=indexFunc_int sv l fn fs cs p w eg hs hcall
 have hd:=idxOf_nonneg p l 0
 have HD:=Lib.hid hd; clear hd
 clear hcall hs
 go_enter Tryz.func118,Tryz.ntmps118
 go_wp2_with (go_at_call 242; refine hi.mono ?_; rintro e w1 ⟨rfl,hb1⟩)
 go_ret
 exact ⟨by rw [← HD.out]; simp,hb1⟩
end Go.Proofs.YtjpfjklobnilkaaGreat
namespace Go.Proofs.YtjpfjklobnilkaaGreat
open Go.RowKit Go.Shelf
set_option linter.unusedVariables false
abbrev icell (x:Int) (_:Nat):Value := .int .i64 x
def scell (s:Str):Nat→Value
 | 0 => .int .i64 s.a
 | _ => .int .i64 s.b
def pcell (p:Pas):Nat→Value
 | 0 => .int .i64 p.a
 | 1 => .int .i64 p.b
 | _ => .int .i64 p.w
set_option maxHeartbeats 400000 in
theorem indexFunc_pas (sv:Value) (l:List Pas) (fn:FuncId) (fs cs:Array Value) (p:Pas→Bool) (w:World)
 (eg:∀ args w,(callFunc fn args).run Tryz.prog w = .ok (.enter fn args) w)
 (hs:Arr w w.heap.size 3 sv l pcell)
 (hcall:∀ x∈l,∀ w1,Below w.heap.size w w1→Calls Tryz.prog fn (fs.push (.agg #[.int .i64 x.a,.int .i64 x.b,.int .i64 x.w])++cs) w1 fun e w2=>e = .returned (.bool (p x))∧Below w1.heap.size w1 w2) :
  Calls Tryz.prog 156 #[sv,.func (.func fn) fs cs] w fun r w'=>r = .returned (.int .i64 (idxOf p 0 l))∧Below w.heap.size w w':=by
 obtain ⟨A,c,rfl,hn,hc,hcell⟩:=hs
 go_enter Tryz.func156,Tryz.ntmps156
 go_wp2
 go_loopw [5,8] (fun x i wr=>∃ k:Nat,k≤l.length∧i = .int .i64 k∧idxOf p 0 l=idxOf p k (l.drop k)∧Below w.heap.size w wr) (fun _ i _=>l.length-(intOf i).toNat)
 case atStart=>exact ⟨0,Nat.zero_le _,rfl,rfl,Below.refl _ _⟩
 case round =>
  obtain ⟨k,hk,rfl,hf,hb⟩:=hrel
  by_cases hlt:k < l.length
  ·obtain ⟨b,off,rfl,hB,hcc⟩:=hcell (by omega)
   obtain ⟨x,hx⟩:∃ x,l[k]? = some x:=⟨l[k],List.getElem?_eq_getElem hlt⟩
   have hce:=fun j (hj:j < 3)=>(hb.cell (p:=⟨b,off+k*3+j,none⟩) hB).trans (hcc k x hx j hj)
   have c0:=hce 0 (by omega)
   have c1:=hce 1 (by omega)
   have c2:=hce (3-1) (by omega)
   clear hce
   simp only [Nat.add_zero,pcell,Nat.reduceSub] at c0 c1 c2
   have hcl:=hcall x (List.mem_of_getElem? hx) wr hb
   rw [idxOf_drop p l k x hx] at hf
   have H:=Lib.hid hf; clear hf
   have HX:=Lib.hid hx; clear hx
   clear hcall hcc hcell
   go_wp2_with (refine hcl.mono ?_; rintro e w1 ⟨rfl,hb1⟩)
   ·go_ret
    exact ⟨by rw [H.out]; simp [*],bthen hb hb1⟩
   ·go_roundw
    case rel=>exact ⟨k+1,by omega,by go_num,by rw [H.out]; simp [*],bthen hb hb1⟩
    case measure=>simp [intOf]; omega
  ·obtain rfl:k=l.length:=by omega
   have H:=Lib.hid hf; clear hf
   go_wp2
   go_ret
   exact ⟨by rw [H.out]; simp [idxOf],hb⟩
theorem containsFunc_pas (sv:Value) (l:List Pas) (fn:FuncId) (fs cs:Array Value) (p:Pas→Bool) (w:World)
 (eg:∀ args w,(callFunc fn args).run Tryz.prog w = .ok (.enter fn args) w)
 (hs:Arr w w.heap.size 3 sv l pcell)
 (hcall:∀ x∈l,∀ w1,Below w.heap.size w w1→Calls Tryz.prog fn (fs.push (.agg #[.int .i64 x.a,.int .i64 x.b,.int .i64 x.w])++cs) w1 fun e w2=>e = .returned (.bool (p x))∧Below w1.heap.size w1 w2) :
  Calls Tryz.prog 70 #[sv,.func (.func fn) fs cs] w fun r w'=>r = .returned (.bool (l.any p))∧Below w.heap.size w w':=by
 have hi:=indexFunc_pas sv l fn fs cs p w eg hs hcall
 have HD:=Lib.hid (idxOf_nonneg p l 0)
 clear hcall hs
 go_enter Tryz.func70,Tryz.ntmps70
 go_wp2_with (go_at_call 156; refine hi.mono ?_; rintro e w1 ⟨rfl,hb1⟩)
 go_ret
 exact ⟨by rw [← HD.out]; simp,hb1⟩
theorem within1_ok (x lo hi:Int) (w:World) (b1 b2:Nat) (h1:w.cell? ⟨b1,0,none⟩=some (.int .i64 lo)) (h2:w.cell? ⟨b2,0,none⟩=some (.int .i64 hi)) :
  Calls Tryz.prog 155 #[.int .i64 x,.pointer (some ⟨b1,0,none⟩),.pointer (some ⟨b2,0,none⟩)] w fun r w'=>r = .returned (.bool (decide (x < lo)||decide (hi < x)))∧Below w.heap.size w w':=by
 go_enter Tryz.func155,Tryz.ntmps155
 go_wp2
 all_goals (go_ret; exact ⟨by simp [*],Below.refl _ _⟩)
theorem all_of_any (lo hi:Int) (l:List Int):(!(l.any fun x=>decide (x < lo)||decide (hi < x)))=l.all (inR lo hi):=by
 induction l with
 | nil=>rfl
 | cons x r ih =>
   simp only [List.any_cons,List.all_cons,Bool.not_or,ih,inR]
   congr 1
   rw [Bool.eq_iff_iff]
   simp
theorem within_ok (lo hi:Int) (lv:Value) (l:List Int) (w:World) (hs:Arr w w.heap.size 1 lv l icell) :
  Calls Tryz.prog 68 #[.int .i64 lo,.int .i64 hi,lv] w fun r w'=>r = .returned (.bool (l.all (inR lo hi)))∧Below w.heap.size w w':=by
 have HA:=Lib.hid (all_of_any lo hi l)
 go_enter Tryz.func68,Tryz.ntmps68
 go_wp2_with fail
 refine (containsFunc_int _ l 155 _ _ (fun x=>decide (x < lo)||decide (hi < x)) _ (enters_of Tryz.func155 (by kernel_rfl) rfl) ?h1 ?h2).mono ?_
 case h1=>exact ((hs.alloc (by simp) _).alloc (by simp) _).more (by simp; omega)
 case h2 =>
  intro x _ w1 hb
  exact within1_ok x lo hi w1 _ _ ((hb.cell (p:=⟨w.heap.size,0,none⟩) (by simp; omega)).trans (by simp)) ((hb.cell (p:=⟨w.heap.size+1,0,none⟩) (by simp)).trans (by simp))
 rintro e w1 ⟨rfl,hb⟩
 go_wp2
 go_ret
 exact ⟨by rw [← HA.out]; simp,((((Below.refl _ _).alloc (Nat.le_refl _) _).alloc (by simp) _).trans (hb.mono (by simp; omega)))⟩
theorem has_ok (s:Str) (p:Pas) (w:World) :
  Calls Tryz.prog 134 #[.agg #[.int .i64 s.a,.int .i64 s.b],.agg #[.int .i64 p.a,.int .i64 p.b,.int .i64 p.w]] w fun r w'=>r = .returned (.bool (hasP s p))∧Below w.heap.size w w':=by
 go_enter Tryz.func134,Tryz.ntmps134
 go_wp2
 all_goals (go_ret; exact ⟨by simp [hasP, *]; try omega,((Below.refl _ _).alloc (Nat.le_refl _) _).alloc (by simp) _⟩)
end Go.Proofs.YtjpfjklobnilkaaGreat
namespace Go.Proofs.YtjpfjklobnilkaaGreat
open Go.RowKit Go.Shelf
set_option linter.unusedVariables false
theorem within_1 (lo hi x:Int) (b c:Nat) (w:World) (hb:b < w.heap.size) (h:w.cell? ⟨b,0,none⟩=some (.int .i64 x)) (hc:1≤c) (hc2:c≤9223372036854775807) :
  Calls Tryz.prog 68 #[.int .i64 lo,.int .i64 hi,.slice (some ⟨b,0,none⟩) 1 c] w fun r w'=>r = .returned (.bool (inR lo hi x))∧Below w.heap.size w w':=by
 refine (within_ok lo hi _ [x] w ⟨some ⟨b,0,none⟩,c,rfl,hc,hc2,fun _=>⟨b,0,rfl,hb,?_⟩⟩).mono ?_
 ·intro i y hy j hj
  obtain rfl:i=0:=by
   rcases Nat.eq_zero_or_pos i with h0 | h0
   ·exact h0
   ·rw [List.getElem?_eq_none (by simp; omega)] at hy; cases hy
  obtain rfl:j=0:=by omega
  simp at hy
  subst hy
  simpa using h
 ·rintro e w1 ⟨rfl,hb1⟩
  exact ⟨by simp,hb1⟩
theorem within_3 (lo hi x y z:Int) (b c:Nat) (w:World) (hb:b < w.heap.size) (h0:w.cell? ⟨b,0,none⟩=some (.int .i64 x)) (h1:w.cell? ⟨b,1,none⟩=some (.int .i64 y)) (h2:w.cell? ⟨b,2,none⟩=some (.int .i64 z)) (hc:3≤c) (hc2:c≤9223372036854775807) :
  Calls Tryz.prog 68 #[.int .i64 lo,.int .i64 hi,.slice (some ⟨b,0,none⟩) 3 c] w fun r w'=>r = .returned (.bool (inR lo hi x&&inR lo hi y&&inR lo hi z))∧Below w.heap.size w w':=by
 refine (within_ok lo hi _ [x,y,z] w ⟨some ⟨b,0,none⟩,c,rfl,hc,hc2,fun _=>⟨b,0,rfl,hb,?_⟩⟩).mono ?_
 ·intro i u hu j hj
  obtain rfl:j=0:=by omega
  match i,hu with
  | 0,hu=>simp at hu; subst hu; simpa using h0
  | 1,hu=>simp at hu; subst hu; simpa using h1
  | 2,hu=>simp at hu; subst hu; simpa using h2
  | n+3,hu=>simp at hu
 ·rintro e w1 ⟨rfl,hb1⟩
  exact ⟨by simp [Bool.and_assoc],hb1⟩
theorem ret_b {a b:Bool} (h:a=b):Ending.returned (.bool a)=Ending.returned (.bool b):=by rw [h]
theorem ret_i {k:IntKind} {a b:Int} (h:a=b):Ending.returned (.int k a)=Ending.returned (.int k b):=by rw [h]
theorem pasBad_f {T:Int} {p:Pas} (h2:T≤30) (hv:(inR 0 (T-1) p.a&&inR 0 (T-1) p.b&&inR 0 (T-1) (wrap64 (p.b-p.a)))=false):(!pasOk T p)=true:=by
 cases hok:pasOk T p
 ·rfl
 ·exfalso
  simp only [pasOk,Bool.and_eq_true,decide_eq_true_eq] at hok
  rw [IntWalk.wrap64_in _ ⟨by omega,by omega⟩] at hv
  rw [Bool.eq_false_iff] at hv
  apply hv
  simp [inR]
  omega
theorem pasBad_t {T:Int} {p:Pas} (h1:1≤T) (h2:T≤30) (hv:(inR 0 (T-1) p.a&&inR 0 (T-1) p.b&&inR 0 (T-1) (wrap64 (p.b-p.a)))=true):(!pasOk T p)=(decide (p.w < 0)||decide (1000 < p.w)):=by
 simp only [inR,Bool.and_eq_true,decide_eq_true_eq] at hv
 rw [IntWalk.wrap64_in _ ⟨by omega,by omega⟩] at hv
 rw [Bool.eq_iff_iff]
 simp [pasOk]
 omega
theorem pasBad_ok (T:Int) (p:Pas) (g:Nat) (w:World) (hg:g < w.heap.size) (h:w.cell? ⟨g,0,none⟩=some (.int .i64 T)) (h1:1≤T) (h2:T≤30) :
  Calls Tryz.prog 69 #[.agg #[.int .i64 p.a,.int .i64 p.b,.int .i64 p.w],.pointer (some ⟨g,0,none⟩)] w fun r w'=>r = .returned (.bool (!pasOk T p))∧Below w.heap.size w w':=by
 go_enter Tryz.func69,Tryz.ntmps69
 go_wp2_with fail
 refine (within_3 _ _ p.a p.b (wrap64 (p.b-p.a)) _ _ _ ?_ ?_ ?_ ?_ ?_ ?_).mono ?_
 ·simp
 ·simp
 ·simp
 ·simp
 ·simp
 ·simp
 rintro e w1 ⟨rfl,hb1⟩
 obtain ⟨hc1,hf1⟩:=bcell hb1
 have hbb:Below w.heap.size w w1:=((Below.refl _ _).alloc (Nat.le_refl _) _).alloc (by simp) _ |>.trans (hb1.mono (by simp; omega))
 cases hv:(inR 0 (T-1) p.a&&inR 0 (T-1) p.b&&inR 0 (T-1) (wrap64 (p.b-p.a)))
 all_goals (have HV:=Lib.hid hv; clear hv; go_wp2)
 all_goals go_ret
 all_goals (have hv:=HV.out; refine ⟨ret_b ?_,hbb⟩; first | exact (pasBad_f h2 hv).symm | (rw [pasBad_t h1 h2 hv]; done) | (rw [pasBad_t h1 h2 hv]; simp [*]; done) | (rw [pasBad_t h1 h2 hv]; simp [*]; omega))
end Go.Proofs.YtjpfjklobnilkaaGreat
namespace Go.Proofs.YtjpfjklobnilkaaGreat
open Go.RowKit Go.Shelf
set_option linter.unusedVariables false
def CylV (w:World) (B:Nat) (v:Value) (c:Cyl):Prop :=
 ∃ fv pv,v = .agg #[.int .i64 c.turns,.int .i64 c.long,.int .i64 c.plays,fv,pv]∧Arr w B 1 fv c.frag icell∧Arr w B 3 pv c.pas pcell
theorem fragOk_drop (T last t:Int) (l:List Int) (k:Nat) (h:l[k]? = some t):fragOk T last (l.drop k)=((decide (last < t)&&decide (t < T))&&fragOk T t (l.drop (k+1))):=by
 obtain ⟨hk,hx⟩:=List.getElem?_eq_some_iff.1 h
 rw [List.drop_eq_getElem_cons hk,hx]
 rfl
theorem Blk.c5 {w:World} {g:Nat} {t:TypeId} {a b c d e:Value} (h:Blk w g t #[a,b,c,d,e]) :
  w.cell? ⟨g,0,none⟩=some a∧w.cell? ⟨g,1,none⟩=some b∧w.cell? ⟨g,2,none⟩=some c∧w.cell? ⟨g,3,none⟩=some d∧w.cell? ⟨g,4,none⟩=some e:=by
 simp [h.cell]
theorem argOk_eq (c:Cyl):argOk c=(inR 1 30 c.turns&&inR 1 c.turns c.long&&inR 0 6 c.plays):=by
 rw [Bool.eq_iff_iff]; simp [argOk,inR]; omega
set_option maxRecDepth 100000 in
set_option maxHeartbeats 800000 in
theorem checkCyl_ok (v:Value) (c:Cyl) (w:World) (hv:CylV w w.heap.size v c) :
  Calls Tryz.prog 27 #[v] w fun r w'=>r = .returned (.int .i64 (checkCyl c))∧Below w.heap.size w w':=by
 obtain ⟨fv,pv,rfl,⟨fa,fc,rfl,hf1,hf2,hfc⟩,⟨pa,pc,rfl,hp1,hp2,hpc⟩⟩:=hv
 have hx:=Blk.new w 25 #[.int .i64 c.turns,.int .i64 c.long,.int .i64 c.plays,.slice fa c.frag.length fc,.slice pa c.pas.length pc]
 have hb0:Below w.heap.size w (w.alloc (.cells #[.int .i64 c.turns,.int .i64 c.long,.int .i64 c.plays,.slice fa c.frag.length fc,.slice pa c.pas.length pc] 25)):=(Below.refl _ _).alloc (Nat.le_refl _) _
 go_enter Tryz.func27,Tryz.ntmps27
 go_wp2_with fail
 refine (within_1 _ _ c.turns _ _ _ ?_ ?_ ?_ ?_).mono ?_
 ·simp
 ·simp
 ·simp
 ·simp
 rintro e w1 ⟨rfl,hb1⟩
 have hx1:=(hx.alloc _).call hb1
 have hz1:w.heap.size+2≤w1.heap.size:=by have:=hb1.size; simp at this; omega
 have hB1:=(hb0.alloc (by simp) _).trans (hb1.mono (by simp; omega))
 clear hx hb0 hb1
 obtain ⟨k0,k1,k2,k3,k4⟩:=hx1.c5
 cases hc1:inR 1 30 c.turns
 ·have HC:Hid (checkCyl c=2):=by simp [Hid,checkCyl,argOk_eq,hc1]
  clear hc1
  go_wp2
  go_ret
  exact ⟨ret_i HC.out.symm,hB1⟩
 have HC1:=Lib.hid hc1
 have hT:1≤c.turns∧c.turns≤30:=by simpa [inR] using hc1
 obtain ⟨hT1,hT2⟩:=hT
 clear hc1
 go_wp2_with fail
 refine (within_1 _ _ c.long _ _ _ ?_ ?_ ?_ ?_).mono ?_
 ·simp
 ·simp
 ·simp
 ·simp
 rintro e w2 ⟨rfl,hb2⟩
 have hx2:=(hx1.alloc _).call hb2
 have hz2:w.heap.size+2≤w2.heap.size:=by have:=hb2.size; simp at this; omega
 have hB2:=(hB1.alloc (by omega) _).trans (hb2.mono (by simp; omega))
 clear hx1 hB1 hb2 k0 k1 k2 k3 k4 hz1
 obtain ⟨k0,k1,k2,k3,k4⟩:=hx2.c5
 cases hc2:inR 1 c.turns c.long
 ·have HC:Hid (checkCyl c=2):=by simp [Hid,checkCyl,argOk_eq,hc2]
  clear hc2
  go_wp2
  go_ret
  exact ⟨ret_i HC.out.symm,hB2⟩
 have HC2:=Lib.hid hc2
 clear hc2
 go_wp2_with fail
 refine (within_1 _ _ c.plays _ _ _ ?_ ?_ ?_ ?_).mono ?_
 ·simp
 ·simp
 ·simp
 ·simp
 rintro e w3 ⟨rfl,hb3⟩
 have hx3:=(hx2.alloc _).call hb3
 have hz3:w.heap.size+2≤w3.heap.size:=by have:=hb3.size; simp at this; omega
 have hB3:=(hB2.alloc (by omega) _).trans (hb3.mono (by simp; omega))
 clear hx2 hB2 hb3 k0 k1 k2 k3 k4 hz2
 obtain ⟨k0,k1,k2,k3,k4⟩:=hx3.c5
 cases hc3:inR 0 6 c.plays
 ·have HC:Hid (checkCyl c=2):=by simp [Hid,checkCyl,argOk_eq,hc3]
  clear hc3
  go_wp2
  go_ret
  exact ⟨ret_i HC.out.symm,hB3⟩
 have HA:argOk c=true:=by rw [argOk_eq,HC1.out,HC2.out,hc3]; rfl
 have HA:=Lib.hid HA
 clear hc3 HC1 HC2
 go_wp2
 go_loop [3,5,31] (fun la t i=>∃ (k:Nat) (last:Int),k≤c.frag.length∧i = .int .i64 k∧la = .int .i64 last∧fragOk c.turns (-1) c.frag=fragOk c.turns last (c.frag.drop k)) (fun _ _ i=>c.frag.length-(intOf i).toNat)
 case atStart=>exact ⟨0, -1,Nat.zero_le _,rfl,rfl,rfl⟩
 case round =>
  obtain ⟨k,last,hk,rfl,rfl,hfr⟩:=hrel
  by_cases hlt:k < c.frag.length
  ·obtain ⟨b,off,rfl,hB,hcc⟩:=hfc (by omega)
   obtain ⟨t,ht⟩:∃ x,c.frag[k]? = some x:=⟨c.frag[k],List.getElem?_eq_getElem hlt⟩
   have hce:=(hB3.cell (p:=⟨b,off+k*1+0,none⟩) hB).trans (hcc k t ht 0 (by omega))
   simp only [Nat.mul_one,Nat.add_zero] at hce
   rw [fragOk_drop c.turns last t c.frag k ht] at hfr
   have HF:=Lib.hid hfr; clear hfr ht hcc hfc hpc
   by_cases h1:t≤last
   ·go_wp2
    go_ret
    refine ⟨ret_i ?_,hB3⟩
    have hbad:fragOk c.turns (-1) c.frag=false:=by rw [HF.out]; simp; omega
    simp [checkCyl,HA.out,hbad]
   ·by_cases h2:c.turns≤t
    ·go_wp2
     go_ret
     refine ⟨ret_i ?_,hB3⟩
     have hbad:fragOk c.turns (-1) c.frag=false:=by rw [HF.out]; simp; omega
     simp [checkCyl,HA.out,hbad]
    ·go_wp2
     go_round
     case rel=>exact ⟨k+1,t,by omega,by go_num,rfl,by rw [HF.out]; simp; omega⟩
     case measure=>simp [intOf]; omega
  ·obtain rfl:k=c.frag.length:=by omega
   have hgood:fragOk c.turns (-1) c.frag=true:=by rw [hfr]; simp [fragOk]
   have HG:=Lib.hid hgood
   clear hfr hgood
   by_cases hm:12 < c.pas.length
   ·go_wp2
    go_ret
    exact ⟨ret_i (by simp [checkCyl,HA.out,HG.out,hm]),hB3⟩
   ·go_wp2_with fail
    refine (containsFunc_pas _ c.pas 69 _ _ (fun p=>!pasOk c.turns p) _ (enters_of Tryz.func69 (by kernel_rfl) rfl) ?h1 ?h2).mono ?_
    case h1=>exact Arr.more (Arr.below ⟨pa,pc,rfl,hp1,hp2,hpc⟩ hB3) hB3.size
    case h2 =>
     intro x _ w4 hb4
     have hx4:=hx3.call hb4
     exact pasBad_ok c.turns x w.heap.size w4 hx4.lt hx4.c5.1 hT1 hT2
    rintro e w4 ⟨rfl,hb4⟩
    have HN:Hid ((c.pas.any fun p=>!pasOk c.turns p)=!(c.pas.all (pasOk c.turns))):=by simp [Hid,List.any_eq_not_all_not]
    cases hall:c.pas.all (pasOk c.turns)
    ·have HN':(c.pas.any fun p=>!pasOk c.turns p)=true:=by rw [HN.out,hall]; rfl
     rw [HN']
     clear HN'
     have HH:=Lib.hid hall; clear hall
     go_wp2
     go_ret
     exact ⟨ret_i (by simp only [checkCyl,HA.out,HG.out,HH.out,hm]; simp),hB3.trans (hb4.mono hB3.size)⟩
    ·have HN':(c.pas.any fun p=>!pasOk c.turns p)=false:=by rw [HN.out,hall]; rfl
     rw [HN']
     clear HN'
     have HH:=Lib.hid hall; clear hall
     go_wp2
     go_ret
     exact ⟨ret_i (by simp only [checkCyl,HA.out,HG.out,HH.out,hm]; simp),hB3.trans (hb4.mono hB3.size)⟩
end Go.Proofs.YtjpfjklobnilkaaGreat
namespace Go.Proofs.YtjpfjklobnilkaaGreat
open Go.RowKit Go.Shelf
set_option linter.unusedVariables false
def SlT (t e size bytes:Nat) (z:Value):Prop :=
 Tryz.prog.underlying t=some (.slice e)∧((Tryz.prog.info? e).map fun i=>(i.zero,i.size,i.bytes))=some (some z,size,bytes)∧z.cells.size=size∧0 < size
theorem own_mono {w:World} {base base':Nat} {e:TypeId} {size n:Nat} {v:Value} {xs:List Value} (h:w.ownsRow base' e size v n xs) (hb:base≤base'):w.ownsRow base e size v n xs:=by
 obtain ⟨h1,h2⟩:=h
 refine ⟨h1,?_⟩
 rcases h2 with h2 | ⟨g,cap,cur,h3,h4,h5⟩
 ·exact .inl h2
 ·exact .inr ⟨g,cap,cur,h3,by omega,h5⟩
theorem own_below {w w':World} {base B:Nat} {e:TypeId} {size n:Nat} {v:Value} {xs:List Value} (h:w.ownsRow base e size v n xs) (hb:Below B w w') (hB:w.heap.size≤B):w'.ownsRow base e size v n xs:=by
 obtain ⟨h1,h2⟩:=h
 refine ⟨h1,?_⟩
 rcases h2 with h2 | ⟨g,cap,cur,h3,h4,h5,h6⟩
 ·exact .inl h2
 ·have hg:g < w.heap.size:=by
   rcases Nat.lt_or_ge g w.heap.size with h | h
   ·exact h
   ·rw [Array.getElem?_eq_none h] at h5; cases h5
  exact .inr ⟨g,cap,cur,h3,h4,(hb.block g (by omega)).trans h5,h6⟩
theorem own_call {w w':World} {base:Nat} {e:TypeId} {size n:Nat} {v:Value} {xs:List Value} (h:w.ownsRow base e size v n xs) (hb:Below w.heap.size w w'):w'.ownsRow base e size v n xs:=own_below h hb (Nat.le_refl _)
theorem wpList_app1 {W:World} {ops:Array Oper} {rest:List Oper} {o:Oper} {a:Act} {Q:Exit→Act→World→Prop} {t e size bytes:Nat} {z:Value} (hT:SlT t e size bytes z)
  (hgd:o.guard=none) (s x:Operand) (ho:o.op = .call { callee := .builtin .append,args:=#[s,x],argTypes:=#[t,t] })
  {base n c cc:Nat} {A:Option Addr} {xs:List Value} {vals:Array Value} (hs:a.eval s = .slice A n cc) (hown:∃ cap,W.ownsRow base e size (.slice A n cap) n xs∧(cc=cap∨cc=n))
  (hx:a.eval x = .slice (some ⟨W.heap.size,0,none⟩) 1 c) (hvals:vals.size=size) (h1:∀ u∈vals.toList,u.oneCell'=true) (hbase:base≤W.heap.size)
  (h63:n+1≤1048576) (hby:bytes≤1024)
  (h:∀ v' w',w'.ownsRow base e size v' (n+1) (xs++vals.toList)→Below base W w'→(∀ g,g < W.heap.size→(∀ ad,A=some ad→ad.block≠g)→w'.heap[g]? = W.heap[g]?)→wpList Tryz.prog ops Q rest (a.put o.dst v') w') :
  wpList Tryz.prog ops Q (o::rest) a (W.alloc (.cells vals e)):=by
 obtain ⟨hT1,hT2,hT3,hT4⟩:=hT
 obtain ⟨i0,hi,hz0,hz1,hz2⟩:=info_parts hT2
 obtain ⟨cap,hown,hcc⟩:=hown
 have hbytes:(n+1) * bytes≤140737488355328:=Nat.le_trans (Nat.mul_le_mul h63 hby) (by decide)
 have hnew:Blk (W.alloc (.cells vals e)) W.heap.size e vals:=Blk.new _ _ _
 have hcell:∀ j u,vals.toList[j]? = some u→(W.alloc (.cells vals e)).cell? ((⟨W.heap.size,0,none⟩:Addr).add j)=some u:=by
  intro j u hu
  have:(⟨W.heap.size,0,none⟩:Addr).add j=⟨W.heap.size,j,none⟩:=by
   unfold Addr.add; split <;> simp_all
  rw [this,hnew.cell]
  simpa using hu
 have hlen:vals.toList.length=1 * size:=by simp [hvals]
 by_cases hfull:cc=cap
 ·subst hfull
  refine wpList_append_own (P:=Tryz.prog) (W.alloc (.cells vals e)) hgd s x t ho base e i0 z size bytes hT1 hi hz0 hz1 hz2 hT3 hT4 _ n xs hs (hown.alloc _) ⟨W.heap.size,0,none⟩ 1 c vals.toList hx hlen hcell h1 (by simp only [maxLen]; omega) hbytes (by simp; omega) ?_
  intro v' w' hown' hgrow _
  refine h v' w' hown' (((Below.refl _ _).alloc hbase _).grown hgrow (by simp; omega) fun k hk=>?_) fun g hg hne=>?_
  ·exact (hown.lt k hk).1
  ·refine (hgrow.block g (by simp; omega) fun hk=>?_).trans (Below.heap_alloc W _ g hg)
   cases A with
   | none=>simp [Value.ownBlock] at hk
   | some ad=>simp only [Value.ownBlock,Option.some.injEq] at hk; exact hne ad rfl hk.symm
 ·have hcn:cc=n:=hcc.resolve_left hfull
  subst hcn
  refine wpList_append_grows (P:=Tryz.prog) (W.alloc (.cells vals e)) hgd s x t ho e i0 z size bytes hT1 hi hz0 hz1 hz2 hT3 hT4 A cc cc xs hs ?_ hown.1 ?_ ⟨W.heap.size,0,none⟩ 1 c vals.toList hx hlen hcell h1 (by omega) (by simp only [maxLen]; omega) hbytes ?_
  ·intro hA
   rcases hown.2 with ⟨h2,h3⟩ | ⟨g,cap',cur,h3,_⟩
   ·exact ⟨h3,h3⟩
   ·rw [hA] at h3; cases h3
  ·intro b hb j u hu
   rcases hown.2 with ⟨h2,h3⟩ | ⟨g,cap',cur,h3,h4,h5,h6,h7,h8,h9⟩
   ·rw [hb] at h2; cases h2
   ·have hcl:=World.ownsRow.cells (hown.alloc (.cells vals e)) (g:=b.block) (by rw [hb]; rfl) j u hu
    have hb0:b=⟨g,0,none⟩:=by
     rw [hb] at h3
     simp only [Value.slice.injEq,Option.some.injEq] at h3
     exact h3.1
    have hb1:(⟨b.block,0,none⟩:Addr)=b:=by rw [hb0]
    rw [hb1] at hcl
    exact hcl
  ·intro v' w' hown' hgrow
   refine h v' w' (own_mono hown' (by simp; omega)) (((Below.refl _ _).alloc hbase _).grown hgrow (by simp; omega) fun k hk=>by cases hk) fun g hg hne=>?_
   exact (hgrow.block g (by simp; omega) fun hk=>by cases hk).trans (Below.heap_alloc W _ g hg)
theorem own_cap {w:World} {base:Nat} {e:TypeId} {size n m cap:Nat} {A:Option Addr} {xs:List Value} (h:w.ownsRow base e size (.slice A m cap) n xs):m=n∧n≤cap∧cap≤9223372036854775807:=by
 rcases h.2 with ⟨h1,h2⟩ | ⟨g,c,cur,h1,h2,h3,h4,h5,h6⟩
 ·injection h1 with _ h3 h4
  subst h3 h4 h2
  omega
 ·injection h1 with _ h7 h8
  subst h7 h8
  exact ⟨rfl,h4,by simpa only [maxLen] using h5⟩
theorem one_1 {k:IntKind} {n:Int}:∀ u∈(#[Value.int k n]:Array Value).toList,u.oneCell'=true:=by simp [Value.oneCell']
theorem one_2 {k k':IntKind} {n n':Int}:∀ u∈(#[Value.int k n,Value.int k' n']:Array Value).toList,u.oneCell'=true:=by simp [Value.oneCell']
theorem one_3 {k k' k'':IntKind} {n n' n'':Int}:∀ u∈(#[Value.int k n,Value.int k' n',Value.int k'' n'']:Array Value).toList,u.oneCell'=true:=by simp [Value.oneCell']
theorem own_form {w:World} {base:Nat} {e:TypeId} {size n:Nat} {v:Value} {xs:List Value} (h:w.ownsRow base e size v n xs):∃ A cap,v = .slice A n cap:=by
 rcases h.2 with ⟨h1,h2⟩ | ⟨g,c,cur,h1,_⟩
 ·exact ⟨none,0,by rw [h1,h2]⟩
 ·exact ⟨_,_,h1⟩
theorem own_ne {w:World} {base:Nat} {e:TypeId} {size n cap:Nat} {A:Option Addr} {xs:List Value} {g:Nat} (h:w.ownsRow base e size (.slice A n cap) n xs) (hg:w.heap.size≤g):∀ ad,A=some ad→ad.block≠g:=by
 intro ad ha
 have:=(h.lt ad.block (by rw [ha]; rfl)).2
 omega
theorem ret_t2 {a a':Value} {k':IntKind} {c c':Int} (h1:a=a') (h3:c=c'):Ending.returned (.tuple #[a,.int k' c])=Ending.returned (.tuple #[a',.int k' c']):=by rw [h1,h3]
def cellsOf {α:Type} (size:Nat) (cell:α→Nat→Value) (x:α):List Value:=(List.range size).map (cell x)
theorem flat_get {α:Type} (size:Nat) (cell:α→Nat→Value) (l:List α):∀ (i:Nat) (x:α),l[i]? = some x→∀ j,j < size→(l.flatMap (cellsOf size cell))[i * size+j]? = some (cell x j):=by
 induction l with
 | nil=>intro i x h; simp at h
 | cons y r ih =>
   intro i x h j hj
   have hlen:(cellsOf size cell y).length=size:=by simp [cellsOf]
   cases i with
   | zero =>
     simp at h
     subst h
     rw [List.flatMap_cons,List.getElem?_append_left (by omega)]
     simp [cellsOf,hj]
   | succ i =>
     rw [List.getElem?_cons_succ] at h
     rw [List.flatMap_cons,List.getElem?_append_right (by rw [hlen,Nat.add_mul]; omega),hlen]
     rw [show (i+1) * size+j-size=i * size+j by rw [Nat.add_mul]; omega]
     exact ih i x h j hj
theorem Arr.of_own {α:Type} {w:World} {base:Nat} {e:TypeId} {size:Nat} {v:Value} {l:List α} {cell:α→Nat→Value} (h:w.ownsRow base e size v l.length (l.flatMap (cellsOf size cell))):Arr w w.heap.size size v l cell:=by
 obtain ⟨h1,h2⟩:=h
 rcases h2 with ⟨hv,hn⟩ | ⟨g,cap,cur,hv,hg,hh,hc,hm,hs,ht⟩
 ·refine ⟨none,0,by rw [hv,hn],by omega,by omega,fun h=>by omega⟩
 ·refine ⟨some ⟨g,0,none⟩,cap,hv,hc,by simpa only [maxLen] using hm,fun hl=>⟨g,0,rfl,?_,fun i x hx j hj=>?_⟩⟩
  ·rcases Nat.lt_or_ge g w.heap.size with hlt | hge
   ·exact hlt
   ·rw [Array.getElem?_eq_none hge] at hh; cases hh
  ·have hf:=flat_get size cell l i x hx j hj
   rw [← ht,List.getElem?_take] at hf
   split at hf
   ·have hb:Blk w g e cur:=hh
    rw [hb.cell,Nat.zero_add]
    simpa using hf
   ·cases hf
theorem own_snoc {α:Type} {w:World} {base:Nat} {e:TypeId} {size n:Nat} {v:Value} {l:List α} {cell:α→Nat→Value} {x:α} {vals:Array Value} (hn:n=l.length) (hv:vals.toList=cellsOf size cell x)
  (h:w.ownsRow base e size v (n+1) (l.flatMap (cellsOf size cell)++vals.toList)):w.ownsRow base e size v (l++[x]).length ((l++[x]).flatMap (cellsOf size cell)):=by
 subst hn
 simpa [hv] using h
end Go.Proofs.YtjpfjklobnilkaaGreat
namespace Go.Proofs.YtjpfjklobnilkaaGreat
open Go.RowKit
set_option linter.unusedVariables false
structure Ext (W:World) where
 w:World
 h:Below W.heap.size W w
instance extNonempty (W:World):Nonempty (Ext W):=⟨⟨W,Below.refl _ _⟩⟩
theorem wp_region_ext {P:Program} {id:Nat} {Q:Exit→Act→World→Prop} {a:Act} {W:World} {l:List Oper} (hm:P.follows .mixedOrders=true) (hB:Region.lexB .any l.toArray=true)
  (h:wpQuiet P l.toArray (fun w'=>∃ x:Ext W,w'=x.w) (fun a'=>∀ w',(∃ x:Ext W,w'=x.w)→Q .normal a' w') l a):(Code.region id l.toArray true).wp P Q a W :=
 wp_region_quiet (C:=fun w'=>∃ x:Ext W,w'=x.w) hm hB ⟨⟨{ W with drawn:=W.drawn+1 },⟨rfl,rfl,rfl,Nat.le_refl _,fun _ _=>rfl⟩⟩,rfl⟩ (by simpa using h)
theorem cell_lt {w:World} {b o:Nat} {v:Value} (h:w.cell? ⟨b,o,none⟩=some v):b < w.heap.size:=by
 rcases Nat.lt_or_ge b w.heap.size with hl | hl
 ·exact hl
 ·simp [World.cell?,Array.getElem?_eq_none hl] at h
theorem Ext.of {W:World} {b o:Nat} {v:Value} (h:W.cell? ⟨b,o,none⟩=some v) (x:Ext W):x.w.cell? ⟨b,o,none⟩=some v :=
 (x.h.cell (p:=⟨b,o,none⟩) (cell_lt h)).trans h
theorem ext_call {P:Program} {f:FuncId} {args:Array Value} {W:World} {v:Value} (x:Ext W)
  (h:Calls P f args x.w fun e w'=>e = .returned v∧Below x.w.heap.size x.w w'):Calls P f args x.w fun e w''=>e = .returned v∧∃ y:Ext W,w''=y.w :=
 h.mono fun _ w' ⟨he,hw⟩=>⟨he,⟨w',x.h.trans (hw.mono x.h.size)⟩,rfl⟩
end Go.Proofs.YtjpfjklobnilkaaGreat
namespace Go.Proofs.YtjpfjklobnilkaaGreat
open Go.RowKit Go.Shelf
set_option linter.unusedVariables false
theorem CylV.open_ {w:World} {B:Nat} {v:Value} {c:Cyl} (h:CylV w B v c) :
  ∃ fa fc pa pc,v = .agg #[.int .i64 c.turns,.int .i64 c.long,.int .i64 c.plays,.slice fa c.frag.length fc,.slice pa c.pas.length pc] ∧
   Arr w B 1 (.slice fa c.frag.length fc) c.frag icell∧Arr w B 3 (.slice pa c.pas.length pc) c.pas pcell:=by
 obtain ⟨fv,pv,rfl,hf,hp⟩:=h
 have hf':=hf
 have hp':=hp
 obtain ⟨fa,fc,rfl,_⟩:=hf
 obtain ⟨pa,pc,rfl,_⟩:=hp
 exact ⟨fa,fc,pa,pc,rfl,hf',hp'⟩
structure CB (W:World) (B g:Nat) (c:Cyl) (fa:Option Addr) (fc:Nat) (pa:Option Addr) (pc:Nat):Prop where
 blk:Blk W g 25 #[.int .i64 c.turns,.int .i64 c.long,.int .i64 c.plays,.slice fa c.frag.length fc,.slice pa c.pas.length pc]
 fr:Arr W B 1 (.slice fa c.frag.length fc) c.frag icell
 ps:Arr W B 3 (.slice pa c.pas.length pc) c.pas pcell
 le:B≤g
section
variable {W W':World} {B g:Nat} {c:Cyl} {fa pa:Option Addr} {fc pc:Nat}
theorem CB.new {w:World} (hf:Arr w w.heap.size 1 (.slice fa c.frag.length fc) c.frag icell) (hp:Arr w w.heap.size 3 (.slice pa c.pas.length pc) c.pas pcell) :
  CB (w.alloc (.cells #[.int .i64 c.turns,.int .i64 c.long,.int .i64 c.plays,.slice fa c.frag.length fc,.slice pa c.pas.length pc] 25)) w.heap.size w.heap.size c fa fc pa pc :=
 ⟨Blk.new _ _ _,hf.alloc (Nat.le_refl _) _,hp.alloc (Nat.le_refl _) _,Nat.le_refl _⟩
theorem CB.cyl (h:CB W B g c fa fc pa pc):CylV W W.heap.size (.agg #[.int .i64 c.turns,.int .i64 c.long,.int .i64 c.plays,.slice fa c.frag.length fc,.slice pa c.pas.length pc]) c :=
 ⟨_,_,rfl,h.fr.more (by have:=h.le; have:=h.blk.lt; omega),h.ps.more (by have:=h.le; have:=h.blk.lt; omega)⟩
theorem CB.call (h:CB W B g c fa fc pa pc) (hb:Below W.heap.size W W'):CB W' B g c fa fc pa pc:=by
 have h1:=h.le
 have h2:=h.blk.lt
 exact ⟨h.blk.call hb,h.fr.below (hb.mono (by omega)),h.ps.below (hb.mono (by omega)),h1⟩
theorem CB.belowB {B0:Nat} (h:CB W B g c fa fc pa pc) (hb:Below B0 W W') (hg:g < B0):CB W' B g c fa fc pa pc:=by
 have h1:=h.le
 exact ⟨h.blk.below hb hg,h.fr.below (hb.mono (by omega)),h.ps.below (hb.mono (by omega)),h1⟩
theorem CB.alloc (h:CB W B g c fa fc pa pc) (o:Obj):CB (W.alloc o) B g c fa fc pa pc:=h.call ((Below.refl _ _).alloc (Nat.le_refl _) _)
theorem CB.drew (h:CB W B g c fa fc pa pc):CB W.drew B g c fa fc pa pc:=⟨h.blk,h.fr,h.ps,h.le⟩
theorem CB.drewN (h:CB W B g c fa fc pa pc) (n:Nat):CB (W.drewN n) B g c fa fc pa pc:=⟨h.blk,h.fr,h.ps,h.le⟩
theorem CB.c5 (h:CB W B g c fa fc pa pc) :
  W.cell? ⟨g,0,none⟩=some (.int .i64 c.turns)∧W.cell? ⟨g,1,none⟩=some (.int .i64 c.long)∧W.cell? ⟨g,2,none⟩=some (.int .i64 c.plays)∧W.cell? ⟨g,3,none⟩=some (.slice fa c.frag.length fc)∧W.cell? ⟨g,4,none⟩=some (.slice pa c.pas.length pc) :=
 h.blk.c5
end
theorem Arr.at_ {α:Type} {w:World} {B size n c:Nat} {A:Option Addr} {l:List α} {cell:α→Nat→Value} (h:Arr w B size (.slice A n c) l cell) {k:Nat} (hk:k < l.length) :
  ∃ b off x,A=some ⟨b,off,none⟩∧b < B∧l[k]? = some x∧∀ j,j < size→w.cell? ⟨b,off+k * size+j,none⟩=some (cell x j):=by
 obtain ⟨A',c',hv,h1,h2,h3⟩:=h
 injection hv with hA _ _
 subst hA
 obtain ⟨b,off,ha,hb,hc⟩:=h3 (by omega)
 exact ⟨b,off,l[k],ha,hb,List.getElem?_eq_getElem hk,hc k _ (List.getElem?_eq_getElem hk)⟩
theorem Arr.len_ {α:Type} {w:World} {B size n c:Nat} {A:Option Addr} {l:List α} {cell:α→Nat→Value} (h:Arr w B size (.slice A n c) l cell):n=l.length∧l.length≤c∧c≤9223372036854775807:=by
 obtain ⟨A',c',hv,h1,h2,h3⟩:=h
 injection hv with _ hn hc
 subst hn hc
 exact ⟨rfl,h1,h2⟩
theorem cyl_valid {c:Cyl} (h:checkCyl c=0):argOk c=true∧fragOk c.turns (-1) c.frag=true∧c.pas.length≤12∧c.pas.all (pasOk c.turns)=true:=by
 unfold checkCyl at h
 split at h
 ·omega
 ·split at h
  ·omega
  ·split at h
   ·omega
   ·split at h
    ·omega
    ·rename_i h1 h2 h3 h4
     exact ⟨by simpa using h1,by simpa using h2,by omega,by simpa using h4⟩
theorem cyl_bounds {c:Cyl} (h:checkCyl c=0):1≤c.turns∧c.turns≤30∧1≤c.long∧c.long≤c.turns∧0≤c.plays∧c.plays≤6:=by
 have:=(cyl_valid h).1
 simp only [argOk,Bool.and_eq_true,decide_eq_true_eq] at this
 omega
end Go.Proofs.YtjpfjklobnilkaaGreat
