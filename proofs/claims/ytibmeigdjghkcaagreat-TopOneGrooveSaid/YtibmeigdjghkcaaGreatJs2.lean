/- Contract: Rank. Contract of the table: joined. Maps whose keys are structs of two ints, with the stamps of their entries: m[k] += v, delete, a range. Contract of the table: pairs. Contract of the table: pairs (the walk). Contract: Passages. Joins as lists of steps: what they are, and their order. Plain. The pairs that all joins have, and the steps that come next in some join. Plain. What the laws say of joins: pairs of one join, rivals, wider cylinders. Plain. -/
import Derived.Test.YtibmeigdjghkcaaGreatPub
import Derived.WalkMore
import Derived.Test.YtibmeigdjghkcaaGreatSt2
import Derived.Test.YtibmeigdjghkcaaGreatMp2
import Derived.Maps.RangeRun
import Derived.Test.YtibmeigdjghkcaaGreatRf2
namespace Go.Proofs.YtibmeigdjghkcaaGreat.J
open Go.RowKit Go.Shelf
set_option linter.unusedVariables false
def numsN (c:Cyl) (l:List St):List Nat:=l.map fun s=>(numS c s).toNat
theorem checkJoin_zero {c:Cyl} {l:List St} (h:checkJoin c l=0):checkCyl c=0∧l.length=c.pcs.length∧l.all (isStep c)=true∧twice l=false∧chain c l=true:=by
 unfold checkJoin at h
 by_cases h1:checkCyl c≠0
 ·rw [if_pos h1] at h; exact absurd h h1
 ·rw [if_neg h1] at h
  by_cases h2:l.length≠c.pcs.length
  ·rw [if_pos h2] at h; omega
  ·rw [if_neg h2] at h
   by_cases h3:l.all (isStep c)=false
   ·rw [if_pos h3] at h; omega
   ·rw [if_neg h3] at h
    by_cases h4:twice l=true
    ·rw [if_pos h4] at h; omega
    ·rw [if_neg h4] at h
     by_cases h5:chain c l=false
     ·rw [if_pos h5] at h; omega
     ·exact ⟨by simpa using h1,by simpa using h2,by simpa using h3,by simpa using h4,by simpa using h5⟩
structure RkB (w:World) (x:TX) (c:Cyl) (b ob oo:Nat) (nm:List Int) (u:Nat) (o:Option Nat) (r:Nat) (ds:List Deferred) (T:Nat) (W:World):Prop where
 tb:TB W x c
 bt:Blk W b 118 #[.pointer (some ⟨x.g,0,none⟩)]
 bn:Blk W (b+1) 2 #[.int .i64 (r:Int)]
 bs:Blk W (b+2) 218 #[.int .i64 (u:Int),.int .i64 (lastI o)]
 cs:∀ j v,nm[j]? = some v→W.cell? ⟨ob,oo+j,none⟩=some (.int .i64 v)
 bl:Below w.heap.size w W
 mrk:Marks (b+3) T W ds
 sz:T≤W.heap.size
 lo:b+3≤T
 le:x.N≤b
 ol:ob < b
 oa:ob≠x.ga∧ob≠x.gu
 ga:w.heap.size≤x.ga∧w.heap.size≤x.gu
 wl:w.heap.size≤b
section
variable {w W W':World} {x:TX} {c:Cyl} {b ob oo u r T:Nat} {nm:List Int} {o:Option Nat} {ds:List Deferred}
theorem RkB.grown (h:RkB w x c b ob oo nm u o r ds T W) {row:Option Nat} (hg:W.grownBy W' row) (hr:∀ ρ,row=some ρ→T≤ρ):RkB w x c b ob oo nm u o r ds T W':=by
 have h1:=h.le
 have h2:=h.sz
 have h3:=h.lo
 have h4:=h.ol
 have h5:=h.wl
 have hc:∀ k,k < T→W'.heap[k]? = W.heap[k]? := fun k hk=>hg.block k (by omega) (fun e=>by have:=hr k e.symm; omega)
 exact ⟨h.tb.grown hg (fun ρ e=>by have:=hr ρ e; omega),h.bt.grown hg (fun e=>by have:=hr _ e.symm; omega),h.bn.grown hg (fun e=>by have:=hr _ e.symm; omega),h.bs.grown hg (fun e=>by have:=hr _ e.symm; omega),
  fun j v hv=>(World.cell?_of_block (a:=⟨ob,oo+j,none⟩) (hc ob (by omega))).trans (h.cs j v hv),⟨hg.os.trans h.bl.os,hg.tape.trans h.bl.tape,hg.output.trans h.bl.output,Nat.le_trans h.bl.size hg.size,fun k hk=>(hc k (by omega)).trans (h.bl.block k hk)⟩,
  h.mrk.grown h2 hg (fun ρ e => .inl (hr ρ e)),Nat.le_trans h2 hg.size,h3,h1,h4,h.oa,h.ga,h5⟩
theorem RkB.chg (h:RkB w x c b ob oo nm u o r ds T W) (ht:TB W' x c) (hc:Chg x.ga x.gu W W'):RkB w x c b ob oo nm u o r ds T W':=by
 have h1:=h.le
 have h2:=h.sz
 have h5:=h.lo
 have h3:=h.tb.f.al
 have h4:=h.tb.f.ul
 have h6:=h.ol
 have h7:=h.wl
 exact ⟨ht,hc.blk h.bt (by omega) (by omega),hc.blk h.bn (by omega) (by omega),hc.blk h.bs (by omega) (by omega),
  fun j v hv=>(World.cell?_of_block (a:=⟨ob,oo+j,none⟩) (hc.block ob (by omega) h.oa.1 h.oa.2)).trans (h.cs j v hv),h.bl.trans (hc.below (by have:=h.bl.size; omega) h.ga.1 h.ga.2),h.mrk.chg h2 hc (by omega) (by omega),Nat.le_trans h2 hc.size,h5,h1,h6,h.oa,h.ga,h7⟩
theorem RkB.put {W':World} (h:RkB w x c b ob oo nm u o r ds T W) {k u' r':Nat} {o':Option Nat} (hk:k=b+1∨k=b+2) (hg:W.grownBy W' (some k)) (hn:Blk W' (b+1) 2 #[.int .i64 (r':Int)]) (hs:Blk W' (b+2) 218 #[.int .i64 (u':Int),.int .i64 (lastI o')]) :
  RkB w x c b ob oo nm u' o' r' ds T W':=by
 have h1:=h.le
 have h2:=h.sz
 have h3:=h.lo
 have h4:=h.ol
 have h5:=h.wl
 have hc:∀ j,j < b→W'.heap[j]? = W.heap[j]? := fun j hj=>hg.block j (by omega) (fun e=>by injection e; omega)
 exact ⟨h.tb.grown hg (fun ρ e=>by injection e; omega),h.bt.grown hg (fun e=>by injection e; omega),hn,hs,
  fun j v hv=>(World.cell?_of_block (a:=⟨ob,oo+j,none⟩) (hc ob (by omega))).trans (h.cs j v hv),⟨hg.os.trans h.bl.os,hg.tape.trans h.bl.tape,hg.output.trans h.bl.output,Nat.le_trans h.bl.size hg.size,fun j hj=>(hc j (by omega)).trans (h.bl.block j hj)⟩,
  h.mrk.grown h2 hg (fun ρ e => .inr (by injection e; omega)),Nat.le_trans h2 hg.size,h3,h1,h4,h.oa,h.ga,h5⟩
theorem RkB.putn (h:RkB w x c b ob oo nm u o r ds T W) (r':Nat):RkB w x c b ob oo nm u o r' ds T (W.setCell ⟨b+1,0,none⟩ (.int .i64 (r':Int))) :=
 h.put (.inl rfl) (grown_setCell _) (by simpa using h.bn.set_ 0 (.int .i64 (r':Int))) (h.bs.far (by show b+2≠b+1; omega) _)
theorem RkB.puts (h:RkB w x c b ob oo nm u o r ds T W) (u':Nat) (o':Option Nat):RkB w x c b ob oo nm u' o' r ds T ((W.setCell ⟨b+2,0,none⟩ (.int .i64 (u':Int))).setCell ⟨b+2,1,none⟩ (.int .i64 (lastI o'))) :=
 h.put (.inr rfl) (grown_trans' (grown_setCell _) (grown_setCell _)) ((h.bn.far (by show b+1≠b+2; omega) _).far (by show b+1≠b+2; omega) _) (by simpa using (h.bs.set_ 0 (.int .i64 (u':Int))).set_ 1 (.int .i64 (lastI o')))
theorem RkB.mark {D:Nat} (h:RkB w x c b ob oo nm u o r ds T W) (hT:T≤D) (hd:W.heap[D]? = some (.deferred (some []))) :
  RkB w x c b ob oo nm u o r ({ target := .collected D,args:=#[] }::ds) W.heap.size W:=by
 have h1:=h.sz
 have h2:=h.lo
 have hlt:=(Array.getElem?_eq_some_iff.1 hd).1
 exact { h with mrk:=h.mrk.cons (W':=W) (by omega) hT hlt hd,sz:=Nat.le_refl _,lo:=by omega }
end
structure RkI (w:World) (x:TX) (c:Cyl) (b ob oo:Nat) (nm:List Int) (u:Nat) (o:Option Nat) (r:Nat) (ds:List Deferred) (T xb k:Nat) (W:World):Prop where
 b:RkB w x c b ob oo nm u o r ds T W
 s:Blk W xb 3 #[.int .i64 (k:Int)]
 lo:T≤xb
 sz:xb+4≤W.heap.size
section
variable {w W W':World} {x:TX} {c:Cyl} {b ob oo u r T xb k:Nat} {nm:List Int} {o:Option Nat} {ds:List Deferred}
theorem RkI.grown (h:RkI w x c b ob oo nm u o r ds T xb k W) {row:Option Nat} (hg:W.grownBy W' row) (hr:∀ ρ,row=some ρ→xb+4≤ρ):RkI w x c b ob oo nm u o r ds T xb k W':=by
 have h1:=h.lo
 exact ⟨h.b.grown hg (fun ρ e=>by have:=hr ρ e; omega),h.s.grown hg (fun e=>by have:=hr _ e.symm; omega),h1,Nat.le_trans h.sz hg.size⟩
theorem RkI.chg (h:RkI w x c b ob oo nm u o r ds T xb k W) (ht:TB W' x c) (hc:Chg x.ga x.gu W W'):RkI w x c b ob oo nm u o r ds T xb k W':=by
 have h1:=h.lo
 have h2:=h.b.lo
 have h3:=h.b.le
 have h4:=h.b.tb.f.al
 have h5:=h.b.tb.f.ul
 exact ⟨h.b.chg ht hc,hc.blk h.s (by omega) (by omega),h1,Nat.le_trans h.sz hc.size⟩
theorem RkI.putn (h:RkI w x c b ob oo nm u o r ds T xb k W) (r':Nat):RkI w x c b ob oo nm u o r' ds T xb k (W.setCell ⟨b+1,0,none⟩ (.int .i64 (r':Int))):=by
 have h1:=h.lo
 have h2:=h.b.lo
 exact ⟨h.b.putn r',h.s.far (by show xb≠b+1; omega) _,h1,by have:=h.sz; simpa [World.setCell] using this⟩
end
attribute [local go_sem] Oper.semAt_some
end Go.Proofs.YtibmeigdjghkcaaGreat.J
namespace Go.Proofs.YtibmeigdjghkcaaGreat.J
open Go.RowKit Go.Shelf
set_option linter.unusedVariables false
structure JnI (w:World) (x:TX) (c:Cyl) (rv:Bool) (W:World):Prop where
 tb:TB W x c
 bt:Blk W w.heap.size 118 #[.pointer (some ⟨x.g,0,none⟩)]
 rs:Blk W (w.heap.size+1) 4 #[.bool rv]
 lf:Blk W (w.heap.size+2) 216 #[.func (.func 129) #[.pointer (some ⟨x.g,0,none⟩)] #[]]
 ch:Chg x.ga x.gu w W
 sz:w.heap.size+5≤W.heap.size
 le:x.N≤w.heap.size
section
variable {w W W':World} {x:TX} {c:Cyl} {rv:Bool}
theorem JnI.grown (h:JnI w x c rv W) {row:Option Nat} (hg:W.grownBy W' row) (hr:∀ ρ,row=some ρ→w.heap.size+5≤ρ):JnI w x c rv W':=by
 have h1:=h.le
 have h2:=h.sz
 exact ⟨h.tb.grown hg (fun ρ e=>by have:=hr ρ e; omega),h.bt.grown hg (fun e=>by have:=hr _ e.symm; omega),h.rs.grown hg (fun e=>by have:=hr _ e.symm; omega),h.lf.grown hg (fun e=>by have:=hr _ e.symm; omega),h.ch.grown_ge hg (fun ρ e=>by have:=hr ρ e; omega),Nat.le_trans h2 hg.size,h1⟩
theorem JnI.chg (h:JnI w x c rv W) (ht:TB W' x c) (hc:Chg x.ga x.gu W W'):JnI w x c rv W':=by
 have h1:=h.le
 have h2:=h.sz
 have h3:=h.tb.f.al
 have h4:=h.tb.f.ul
 exact ⟨ht,hc.blk h.bt (by omega) (by omega),hc.blk h.rs (by omega) (by omega),hc.blk h.lf (by omega) (by omega),h.ch.trans hc,Nat.le_trans h2 hc.size,h1⟩
theorem JnI.put (h:JnI w x c rv W) (b:Bool):JnI w x c b (W.setCell ⟨w.heap.size+1,0,none⟩ (.bool b)):=by
 have h1:=h.le
 have hg:W.grownBy (W.setCell ⟨w.heap.size+1,0,none⟩ (.bool b)) (some (w.heap.size+1)):=grown_setCell _
 exact ⟨h.tb.grown hg (fun ρ e=>by injection e; omega),h.bt.grown hg (fun e=>by injection e; omega),by simpa using h.rs.set_ 0 (.bool b),h.lf.grown hg (fun e=>by injection e; omega),h.ch.grown_ge hg (fun ρ e=>by injection e; omega),Nat.le_trans h.sz hg.size,h1⟩
end
def UsAx (tm:Array Value) (q b base:Nat) (c:Cyl) (i:Nat) (y:VUs c i) (a':Act) (W:World):Prop :=
 ∃ Bx,base≤Bx∧Blk W Bx 218 #[.int .i64 (y.1:Int),.int .i64 (i:Int)]∧a'={ tmps:=(tm.setIfInBounds q (stateV y.1 (i:Int))).setIfInBounds b (.pointer (some ⟨Bx,0,none⟩)),defers:=[] }
theorem UsAx.own {tm:Array Value} {q b base B:Nat} {c:Cyl} {i:Nat}:∀ (y:VUs c i) (a':Act),OwnFrom B (fun (_:Unit) W=>UsAx tm q b base c i y a' W):=by
 rintro y a' _ W W' row ⟨Bx,h1,h2,h3⟩ hg hr
 refine ⟨Bx,h1,h2.grown hg ?_,h3⟩
 intro e
 obtain ⟨_,o,ho,hc⟩:=hr Bx e.symm
 rw [h2] at ho
 injection ho with ho
 subst ho
 simp [Obj.isCells] at hc
attribute [local go_sem] Oper.semAt_some
end Go.Proofs.YtibmeigdjghkcaaGreat.J
namespace Go.Proofs.YtibmeigdjghkcaaGreat.J
open Go.RowKit Go.Shelf
open Go.ChangeMaps (setBlock)
set_option linter.unusedVariables false
structure Ent where
 a:Int
 b:Int
 v:Value
 s:Nat
def entOf (x:Ent):MapEntry:={ key:=kv x.a x.b,val:=x.v,born:=x.s }
def tri (l:List Ent):List (Int×Int×Value):=l.map fun x=>(x.a,x.b,x.v)
def readL (l:List Ent) (a b:Int):Option Value:=(findII a b (tri l) 0).map (·.2)
def MapL (w:World) (g:Nat) (l:List Ent) (cl:Nat):Prop :=
 w.heap[g]? = some (.map (l.map entOf).toArray cl)∧(∀ x∈l,x.s < cl)∧(l.map (·.s)).Nodup∧(l.map fun x=>(x.a,x.b)).Nodup
theorem ents_tri (l:List Ent):entriesOf (l.map entOf).toArray.toList (tri l):=by
 simp [entriesOf,tri,entOf]
theorem MapL.of {w:World} {g cl:Nat} {l:List Ent} (h:MapL w g l cl):MapOf w g (readL l):=⟨_,cl,tri l,h.1,ents_tri l,fun _ _=>rfl⟩
theorem MapL.heap {w w':World} {g cl:Nat} {l:List Ent} (h:MapL w g l cl) (hh:w'.heap[g]? = w.heap[g]?):MapL w' g l cl:=⟨hh.trans h.1,h.2⟩
theorem MapL.lt {w:World} {g cl:Nat} {l:List Ent} (h:MapL w g l cl):g < w.heap.size:=(Array.getElem?_eq_some_iff.1 h.1).1
theorem MapL.new (w:World):MapL (w.alloc (.map #[] 0)) w.heap.size [] 0:=⟨by unfold World.alloc; simp,by simp,List.nodup_nil,List.nodup_nil⟩
end Go.Proofs.YtibmeigdjghkcaaGreat.J
namespace Go.Proofs.YtibmeigdjghkcaaGreat.J
open Go.RowKit Go.Shelf
set_option linter.unusedVariables false
def mapP (P:Nat→Nat→Nat) (a b:Int):Option Value:=if 0≤a∧0≤b∧0 < P a.toNat b.toNat then some (.int .i64 (P a.toNat b.toNat:Int)) else none
def MapPt (W:World) (g:Nat) (P:Nat→Nat→Nat):Prop:=∃ l cl,MapL W g l cl∧∀ x y,readL l x y=mapP P x y
theorem MapPt.heap {w w':World} {g:Nat} {P:Nat→Nat→Nat} (h:MapPt w g P) (hh:w'.heap[g]? = w.heap[g]?):MapPt w' g P:=by
 obtain ⟨l,cl,h1,h2⟩:=h
 exact ⟨l,cl,h1.heap hh,h2⟩
theorem MapPt.same {w:World} {g:Nat} {P P':Nat→Nat→Nat} (h:MapPt w g P) (e:∀ i k,P' i k=P i k):MapPt w g P':=by
 have:P'=P:=by funext i k; exact e i k
 rw [this]; exact h
theorem MapPt.lt {w:World} {g:Nat} {P:Nat→Nat→Nat} (h:MapPt w g P):g < w.heap.size:=by
 obtain ⟨l,cl,h1, -⟩:=h
 exact h1.lt
structure ChgM (gm ga gu:Nat) (w w':World):Prop where
 os:w'.os=w.os
 tape:True
 output:w'.output=w.output
 size:w.heap.size≤w'.heap.size
 block:∀ k,k < w.heap.size→k≠gm→k≠ga→k≠gu→w'.heap[k]? = w.heap[k]?
theorem ChgM.refl {gm ga gu:Nat} (w:World):ChgM gm ga gu w w:=⟨rfl,trivial,rfl,Nat.le_refl _,fun _ _ _ _ _=>rfl⟩
theorem ChgM.trans {gm ga gu:Nat} {w w' w'':World} (h:ChgM gm ga gu w w') (k:ChgM gm ga gu w' w''):ChgM gm ga gu w w'' :=
 ⟨k.os.trans h.os,trivial,k.output.trans h.output,Nat.le_trans h.size k.size,fun i h1 h2 h3 h4=>(k.block i (Nat.lt_of_lt_of_le h1 h.size) h2 h3 h4).trans (h.block i h1 h2 h3 h4)⟩
theorem ChgM.grown {gm ga gu:Nat} {w w' w'':World} (h:ChgM gm ga gu w w') {row:Option Nat} (hg:w'.grownBy w'' row) (hr:∀ r,row=some r→w.heap.size≤r∨r=gm):ChgM gm ga gu w w'' :=
 ⟨hg.os.trans h.os,trivial,hg.output.trans h.output,Nat.le_trans h.size hg.size,fun k h1 h2 h3 h4=>(hg.block k (Nat.lt_of_lt_of_le h1 h.size) (fun e=>by rcases hr k e.symm with h | h <;> omega)).trans (h.block k h1 h2 h3 h4)⟩
structure PrW (w:World) (x:TX) (c:Cyl) (P:Nat→Nat→Nat) (W:World):Prop where
 tb:TB W x c
 bt:Blk W w.heap.size 118 #[.pointer (some ⟨x.g,0,none⟩)]
 mp:MapPt W (w.heap.size+1) P
 bo:Blk W (w.heap.size+2) 455 #[.map (some (w.heap.size+1))]
 ch:Chg x.ga x.gu w W
 sz:w.heap.size+3≤W.heap.size
 le:x.N≤w.heap.size
section
variable {w W W':World} {x:TX} {c:Cyl} {P P':Nat→Nat→Nat}
theorem PrW.grown (h:PrW w x c P W) {row:Option Nat} (hg:W.grownBy W' row) (hr:∀ ρ,row=some ρ→w.heap.size+3≤ρ):PrW w x c P W':=by
 have h1:=h.le
 have h2:=h.sz
 exact ⟨h.tb.grown hg (fun ρ e=>by have:=hr ρ e; omega),h.bt.grown hg (fun e=>by have:=hr _ e.symm; omega),h.mp.heap (hg.block _ (by omega) (fun e=>by have:=hr _ e.symm; omega)),h.bo.grown hg (fun e=>by have:=hr _ e.symm; omega),h.ch.grown_ge hg (fun ρ e=>by have:=hr ρ e; omega),Nat.le_trans h2 hg.size,h1⟩
theorem PrW.chg (h:PrW w x c P W) (ht:TB W' x c) (hc:Chg x.ga x.gu W W'):PrW w x c P W':=by
 have h1:=h.le
 have h2:=h.sz
 have h3:=h.tb.f.al
 have h4:=h.tb.f.ul
 exact ⟨ht,hc.blk h.bt (by omega) (by omega),h.mp.heap (hc.block _ (by omega) (by omega) (by omega)),hc.blk h.bo (by omega) (by omega),h.ch.trans hc,Nat.le_trans h2 hc.size,h1⟩
theorem PrW.same (h:PrW w x c P W) (e:∀ i k,P' i k=P i k):PrW w x c P' W:={ h with mp:=h.mp.same e }
end
end Go.Proofs.YtibmeigdjghkcaaGreat.J
namespace Go.Proofs.YtibmeigdjghkcaaGreat.J
open Go.RowKit Go.Shelf
set_option linter.unusedVariables false
structure PrM (w:World) (x:TX) (c:Cyl) (P:Nat→Nat→Nat) (jb j:Nat) (W:World):Prop where
 p:PrW w x c P W
 j:Blk W jb 3 #[.int .i64 (j:Int)]
 lo:w.heap.size+3≤jb
 sz:jb+3≤W.heap.size
section
variable {w W W':World} {x:TX} {c:Cyl} {P P':Nat→Nat→Nat} {jb j:Nat}
theorem PrM.grown (h:PrM w x c P jb j W) {row:Option Nat} (hg:W.grownBy W' row) (hr:∀ ρ,row=some ρ→jb+3≤ρ):PrM w x c P jb j W':=by
 have h1:=h.lo
 exact ⟨h.p.grown hg (fun ρ e=>by have:=hr ρ e; omega),h.j.grown hg (fun e=>by have:=hr _ e.symm; omega),h1,Nat.le_trans h.sz hg.size⟩
theorem PrM.chg (h:PrM w x c P jb j W) (ht:TB W' x c) (hc:Chg x.ga x.gu W W'):PrM w x c P jb j W':=by
 have h1:=h.lo
 have h3:=h.p.tb.f.al
 have h4:=h.p.tb.f.ul
 have h5:=h.p.le
 exact ⟨h.p.chg ht hc,hc.blk h.j (by omega) (by omega),h1,Nat.le_trans h.sz hc.size⟩
theorem PrM.same (h:PrM w x c P jb j W) (e:∀ i k,P' i k=P i k):PrM w x c P' jb j W:={ h with p:=h.p.same e }
end
attribute [local go_sem] Oper.semAt_some
end Go.Proofs.YtibmeigdjghkcaaGreat.J
namespace Go.Proofs.YtibmeigdjghkcaaGreat.J
open Go.RowKit Go.Shelf
open Go.ChangeMaps (setBlock)
set_option linter.unusedVariables false
def pcell (p:St×St):Nat→Value
 | 0 => .int .i64 p.1.p
 | 1 => .bool p.1.t
 | 2 => .int .i64 p.2.p
 | _ => .bool p.2.t
def PrPost (w:World) (m:List (St×St)×Int) (r:Ending) (w':World):Prop :=
 ∃ A cap,r = .returned (.tuple #[.slice A m.1.length cap,.int .i64 m.2])∧Arr w' w'.heap.size 4 (.slice A m.1.length cap) m.1 pcell∧Below w.heap.size w w'
theorem PrPost.nil_ {w w':World} {e:Int} (h:Below w.heap.size w w') {m:List (St×St)×Int} (hm:m=([],e)):PrPost w m (.returned (.tuple #[.slice none 0 0,.int .i64 e])) w':=by
 subst hm
 exact ⟨none,0,rfl,Arr.nil_,h⟩
end Go.Proofs.YtibmeigdjghkcaaGreat.J
namespace Go.Proofs.YtibmeigdjghkcaaGreat.J
set_option linter.unusedVariables false
def goodL (c:Cyl) (l:List St):Prop:=l.length=c.pcs.length∧l.all (isStep c)=true∧twice l=false∧chain c l=true
theorem checkJoin_iff {c:Cyl} {l:List St}:checkJoin c l=0↔checkCyl c=0∧goodL c l:=by
 constructor
 ·exact checkJoin_zero
 ·rintro ⟨h0,h1,h2,h3,h4⟩
  unfold checkJoin
  rw [if_neg (by simpa using h0),if_neg (by simpa using h1),if_neg (by simp [h2]),if_neg (by simp [h3]),if_neg (by simp [h4])]
theorem stepAt_at {c:Cyl} {k:Nat} (h:k < (stepsOf c).length):(stepsOf c)[k]? = some (stepAt c k):=by
 unfold stepAt
 rw [List.getElem?_eq_getElem h]; rfl
theorem stepAt_of {c:Cyl} {k:Nat} {s:St} (h:(stepsOf c)[k]? = some s):stepAt c k=s:=by
 unfold stepAt
 rw [h]; rfl
theorem stepAt_is {c:Cyl} {k:Nat} (h:k < (stepsOf c).length):isStep c (stepAt c k)=true :=
 (isStep_iff c _).2 (List.mem_of_getElem? (stepAt_at h))
def numN (c:Cyl) (s:St):Nat:=(numS c s).toNat
theorem numN_lt {c:Cyl} {s:St} (h:isStep c s=true):numN c s < (stepsOf c).length∧stepAt c (numN c s)=s:=by
 obtain ⟨k,h1,h2⟩:=numS_got h
 have:numN c s=k:=by unfold numN; rw [h1]; simp
 rw [this]
 exact ⟨(List.getElem?_eq_some_iff.1 h2).1,stepAt_of h2⟩
theorem numsN_eq (c:Cyl) (l:List St):numsN c l=l.map (numN c):=rfl
theorem nums_steps {c:Cyl}:∀ {l:List St},l.all (isStep c)=true→(numsN c l).map (stepAt c)=l
 | [],_=>rfl
 | s::r,h=>by
   rw [List.all_cons,Bool.and_eq_true] at h
   rw [numsN_eq,List.map_cons,List.map_cons,(numN_lt h.1).2]
   have:=nums_steps h.2
   rw [numsN_eq] at this
   rw [this]
theorem pieceN_stepAt {c:Cyl} {k:Nat} (h:k < (stepsOf c).length):(stepAt c k).p=(pieceN c k:Int):=pieceN_eq (stepAt_at h)
theorem fitN_stepAt {c:Cyl} {i k:Nat} (hi:i < (stepsOf c).length) (hk:k < (stepsOf c).length):fitN c i k=fitsS c (stepAt c i) (stepAt c k):=fitN_at (stepAt_at hi) (stepAt_at hk)
def lastFit (c:Cyl):Option Nat→Nat→Bool
 | none,_=>true
 | some i,k=>fitN c i k
def chainN (c:Cyl):Option Nat→List Nat→Prop
 | _,[]=>True
 | o,k::r=>lastFit c o k=true∧chainN c (some k) r
theorem canGo_eq (c:Cyl) (u:Nat) (o:Option Nat) (k:Nat):canGo c u o k=(!u.testBit (pieceN c k)&&lastFit c o k):=by cases o <;> rfl
theorem walk_iff {c:Cyl}:∀ {L:List Nat} {u:Nat} {o:Option Nat},(∀ k∈L,k < (stepsOf c).length)→(walk c u o L↔(∀ k∈L,u.testBit (pieceN c k)=false)∧(L.map (pieceN c)).Nodup∧chainN c o L)
 | [],u,o,_=>by simp [walk,chainN]
 | k::r,u,o,h=>by
   have hk:=h k (by simp)
   rw [walk,walk_iff (L:=r) fun j hj=>h j (by simp [hj]),mem_next,chainN,canGo_eq]
   simp only [Bool.and_eq_true,Bool.not_eq_true',List.map_cons,List.nodup_cons]
   constructor
   ·rintro ⟨⟨_,h1,h2⟩,h3,h4,h5⟩
    refine ⟨fun j hj=>?_,⟨?_,h4⟩,h2,h5⟩
    ·rcases List.mem_cons.1 hj with rfl | hj
     ·exact h1
     ·have:=h3 j hj
      rw [testBit_on,Bool.or_eq_false_iff] at this
      exact this.1
    ·intro hm
     obtain ⟨j,hj,e⟩:=List.mem_map.1 hm
     have:=h3 j hj
     rw [testBit_on,e] at this
     simp at this
   ·rintro ⟨h1,⟨h2,h3⟩,h4,h5⟩
    refine ⟨⟨hk,h1 k (by simp),h4⟩,fun j hj=>?_,h3,h5⟩
    rw [testBit_on,h1 j (by simp [hj]),Bool.false_or,decide_eq_false_iff_not]
    intro e
    exact h2 (List.mem_map.2 ⟨j,hj,e.symm⟩)
theorem chain_some {c:Cyl}:∀ {L:List Nat} {i:Nat},i < (stepsOf c).length→(∀ k∈L,k < (stepsOf c).length)→(chainN c (some i) L↔chain c (stepAt c i::L.map (stepAt c))=true)
 | [],i,_,_=>by simp [chainN,chain]
 | k::r,i,hi,h=>by
   have hk:=h k (by simp)
   rw [chainN,List.map_cons,chain,chain_some hk fun j hj=>h j (by simp [hj]),← fitN_stepAt hi hk,Bool.and_eq_true,lastFit]
theorem chain_none {c:Cyl} {L:List Nat} (h:∀ k∈L,k < (stepsOf c).length):chainN c none L↔chain c (L.map (stepAt c))=true:=by
 cases L with
 | nil=>simp [chainN,chain]
 | cons k r =>
   rw [chainN,List.map_cons,chain_some (h k (by simp)) fun j hj=>h j (by simp [hj])]
   simp [lastFit]
theorem twice_map {c:Cyl} {L:List Nat} (h:∀ k∈L,k < (stepsOf c).length):twice (L.map (stepAt c))=false↔(L.map (pieceN c)).Nodup:=by
 rw [twice_pw,List.pairwise_map,List.Nodup,List.pairwise_map]
 constructor
 ·intro hp
  refine hp.imp_of_mem fun {a b} ha hb hne e=>hne ?_
  rw [pieceN_stepAt (h a ha),pieceN_stepAt (h b hb),e]
 ·intro hp
  refine hp.imp_of_mem fun {a b} ha hb hne e=>hne ?_
  rw [pieceN_stepAt (h a ha),pieceN_stepAt (h b hb)] at e
  omega
theorem good_of_nums {c:Cyl} {L:List Nat} (h:∀ k∈L,k < (stepsOf c).length):goodL c (L.map (stepAt c))↔L∈joinsN c:=by
 unfold goodL
 rw [mem_joins,walk_iff h,twice_map h,← chain_none h,List.length_map]
 have:(L.map (stepAt c)).all (isStep c)=true:=by
  rw [List.all_eq_true]
  intro s hs
  obtain ⟨k,hk,rfl⟩:=List.mem_map.1 hs
  exact stepAt_is (h k hk)
 simp [this]
theorem joinsN_lt {c:Cyl} {L:List Nat} (h:L∈joinsN c):∀ k∈L,k < (stepsOf c).length:=walk_lt (mem_joins.1 h).2
theorem mem_joinsS {c:Cyl} {l:List St}:l∈joinsS c↔goodL c l:=by
 unfold joinsS
 rw [List.mem_map]
 constructor
 ·rintro ⟨L,hL,rfl⟩
  exact (good_of_nums (joinsN_lt hL)).2 hL
 ·intro h
  have e:=nums_steps h.2.1
  have hlt:∀ k∈numsN c l,k < (stepsOf c).length:=fun k hk=>by
   obtain ⟨s,hs,rfl⟩:=List.mem_map.1 hk
   exact (numN_lt (List.all_eq_true.1 h.2.1 s hs)).1
  refine ⟨numsN c l,(good_of_nums hlt).1 ?_,e⟩
  rw [e]
  exact h
theorem joinsS_len (c:Cyl):(joinsS c).length=(joinsN c).length:=by unfold joinsS; rw [List.length_map]
theorem countM_good {c:Cyl} (h:checkCyl c=0):countM c=(((joinsS c).length:Int),0):=by
 unfold countM
 rw [if_neg (by simp [h]),joinsS_len]
theorem nthM_good {c:Cyl} (h:checkCyl c=0) {k:Nat} {l:List St} (hk:(joinsS c)[k]? = some l):nthM c k=(l,0):=by
 have hlt:=(List.getElem?_eq_some_iff.1 hk).1
 rw [joinsS_len] at hlt
 unfold nthM
 rw [if_neg (by simp [h]),if_pos (by omega),Int.toNat_natCast,hk]; rfl
end Go.Proofs.YtibmeigdjghkcaaGreat.J
namespace Go.Proofs.YtibmeigdjghkcaaGreat.J
set_option linter.unusedVariables false
end Go.Proofs.YtibmeigdjghkcaaGreat.J
namespace Go.Proofs.YtibmeigdjghkcaaGreat.J
open Go.RowKit Go.Shelf
set_option linter.unusedVariables false
theorem joins_i64 {c:Cyl} (h8:c.pcs.length≤8):(joinsS c).length≤4294967296:=by
 rw [joinsS_len]
 have:=left_small (c:=c) h8 0 none
 unfold leftN at this
 rw [cnt_zero] at this
 exact this
def pairsOf:List St→List (St×St)
 | []=>[]
 | [_]=>[]
 | a::b::r=>(a,b)::pairsOf (b::r)
end Go.Proofs.YtibmeigdjghkcaaGreat.J
