/- Groups: the model, what a group's slice is, the first that is not done. Contract: Groups. slices.Reverse at numbers, by the kit's contract. -/
import Derived.Test.YtibmeigdjghkcaaGreatPcB
import Derived.WalkLawsBesides
import Derived.Shelf.SlicesE.Reverse
import Derived.Ground.SlgnProg
namespace Go.Proofs.YtibmeigdjghkcaaGreat
open Go.RowKit Go.Shelf
set_option linter.unusedVariables false
def grpL (l:NL) (drop:List Int):List (List Int):=if openE l drop=0 then (groupsOf (pairsOf l.L (natL drop)) l.N).map intL else []
set_option maxHeartbeats 400000 in
theorem first_int (sv:Value) (l:List Int) (fn:FuncId) (fs cs:Array Value) (p:Int→Bool) (w:World)
 (eg:∀ args w,(callFunc fn args).run Tryz.prog w = .ok (.enter fn args) w)
 (hs:Arr w w.heap.size 1 sv l icell)
 (hcall:∀ x∈l,∀ w1,Below w.heap.size w w1→Calls Tryz.prog fn (fs.push (.int .i64 x)++cs) w1 fun e w2=>e = .returned (.bool (p x))∧Below w1.heap.size w1 w2) :
  Calls Tryz.prog 52 #[sv,.func (.func fn) fs cs] w fun r w'=>r = .returned (.int .i64 (idxOf p 0 l))∧Below w.heap.size w w':=by
 obtain ⟨A,c,rfl,hn,hc,hcell⟩:=hs
 go_enter Tryz.func52,Tryz.ntmps52
 go_wp2
 go_loopw [5,6,9] (fun x y i wr=>∃ k:Nat,k≤l.length∧i = .int .i64 k∧idxOf p 0 l=idxOf p k (l.drop k)∧Below w.heap.size w wr) (fun _ _ i _=>l.length-(intOf i).toNat)
 case atStart=>exact ⟨0,Nat.zero_le _,rfl,rfl,Below.refl _ _⟩
 case round =>
  obtain ⟨k,hk,rfl,hf,hb⟩:=hrel
  by_cases hlt:k < l.length
  ·obtain ⟨b,off,rfl,hB,hcc⟩:=hcell (by omega)
   obtain ⟨x,hx⟩:∃ x,l[k]? = some x:=⟨l[k],List.getElem?_eq_getElem hlt⟩
   have c0:=(hb.cell (p:=⟨b,off+k*1+0,none⟩) hB).trans (hcc k x hx 0 (by omega))
   simp only [Nat.mul_one,Nat.add_zero,icell] at c0
   have hcl:=hcall x (List.mem_of_getElem? hx) wr hb
   rw [idxOf_drop p l k x hx] at hf
   have H:=Lib.hid hf; clear hf
   have HX:=Lib.hid hx; clear hx
   clear hcall hcc hcell
   go_wp2_with (refine hcl.mono ?_; rintro e w1 ⟨rfl,hb1⟩)
   ·go_ret
    exact ⟨by rw [H.out]; simp [*],bthen hb hb1⟩
   ·go_roundw
    case rel=>exact ⟨k+1,by omega,by go_num,by rw [H.out]; simp [*],bthen hb hb1⟩
    case measure=>simp [intOf]; omega
  ·obtain rfl:k=l.length:=by omega
   have H:=Lib.hid hf; clear hf
   go_wp2
   go_ret
   exact ⟨by rw [H.out]; simp [idxOf],hb⟩
theorem zero_ok (x:Int) (w:World):Calls Tryz.prog 53 #[.int .i64 x] w fun r w'=>r = .returned (.bool (x==0))∧Below w.heap.size w w':=by
 go_enter Tryz.func53,Tryz.ntmps53
 go_wp2
 go_ret
 exact ⟨ret_b (by simp),Below.refl _ _⟩
theorem idxOf_range (p:Nat→Bool) (f:Nat→Int) (q:Int→Bool) (hq:∀ u,q (f u)=p u):∀ (d k N:Nat),N=k+d→(idxOf q k ((List.range' k d).map f) = -1∧∀ u,k≤u→u < N→p u=false)∨∃ n:Nat,k≤n∧n < N∧idxOf q k ((List.range' k d).map f)=n∧p n=true∧∀ u,k≤u→u < n→p u=false
 | 0,k,N,h => .inl ⟨rfl,fun u h1 h2=>by omega⟩
 | d+1,k,N,h=>by
   rw [List.range'_succ,List.map_cons]
   unfold idxOf
   rw [hq]
   cases hp:p k
   ·rw [if_neg (by simp)]
    rcases idxOf_range p f q hq d (k+1) N (by omega) with ⟨h1,h2⟩ | ⟨n,h1,h2,h3,h4,h5⟩
    ·refine .inl ⟨h1,fun u h3 h4=>?_⟩
     rcases Nat.lt_or_ge k u with h | h
     ·exact h2 u h h4
     ·obtain rfl:u=k:=by omega
      exact hp
    ·refine .inr ⟨n,by omega,h2,h3,h4,fun u h6 h7=>?_⟩
     rcases Nat.lt_or_ge k u with h | h
     ·exact h5 u h h7
     ·obtain rfl:u=k:=by omega
      exact hp
   ·rw [if_pos rfl]
    exact .inr ⟨k,by omega,by omega,rfl,hp,fun u h1 h2=>by omega⟩
theorem first_ok (eb N:Nat) (D:Nat→Bool) (w:World) (h:EndB w eb N (markD D)) (hN:N≤40) :
  Calls Tryz.prog 52 #[.slice (some ⟨eb,0,none⟩) N N,.func (.func 53) #[] #[]] w fun r w'=>Below w.heap.size w w' ∧
   ((r = .returned (.int .i64 (-1))∧∀ u,u < N→D u=true)∨∃ n:Nat,r = .returned (.int .i64 (n:Int))∧n < N∧D n=false∧∀ u,u < n→D u=true):=by
 have ha:Arr w w.heap.size 1 (.slice (some ⟨eb,0,none⟩) N N) ((List.range N).map (markD D)) icell:=by
  refine Arr.of_row (t:=3) ?_ (by simp) (by simp) (by omega) (Blk.lt h)
  rw [flat_int,List.map_map]
  exact h
 have hf:=first_int _ _ 53 #[] #[] (fun x=>x==0) w (enters_of Tryz.func53 (by kernel_rfl) rfl) ha fun x _ w1 _=>zero_ok x w1
 refine hf.mono ?_
 rintro e w1 ⟨rfl,hb⟩
 refine ⟨hb,?_⟩
 have hr:=idxOf_range (fun u=>!D u) (markD D) (fun x=>x==0) (fun u=>by unfold markD; cases D u <;> rfl) N 0 N (by omega)
 rw [← List.range_eq_range'] at hr
 rcases hr with ⟨h1,h2⟩ | ⟨n,h1,h2,h3,h4,h5⟩
 ·rw [h1]
  exact .inl ⟨rfl,fun u hu=>by simpa using h2 u (Nat.zero_le _) hu⟩
 ·rw [h3]
  exact .inr ⟨n,rfl,h2,by simpa using h4,fun u hu=>by simpa using h5 u (Nat.zero_le _) hu⟩
def OwnI (W:World) (base:Nat) (v:Value) (l:List Int):Prop:=∃ b cap cur,v = .slice (some ⟨b,0,none⟩) l.length cap∧base≤b∧Blk W b 3 cur∧cur.toList.take l.length=l.map (Value.int .i64)∧l.length≤cap∧cap≤9223372036854775807
theorem OwnI.of {W:World} {base base':Nat} {v:Value} {l:List Int} (h:W.ownsRow base 3 1 v l.length (l.map (Value.int .i64))) (hl:0 < l.length) (hb:base'≤base):OwnI W base' v l:=by
 obtain ⟨h1,h2⟩:=h
 rcases h2 with ⟨hv,h0⟩ | ⟨g,cap,cur,hv,hg,hh,hc,hm,hs,ht⟩
 ·omega
 ·exact ⟨g,cap,cur,hv,by omega,hh,by simpa using ht,hc,by simpa only [maxLen] using hm⟩
theorem OwnI.call {W W':World} {base:Nat} {v:Value} {l:List Int} (h:OwnI W base v l) (hb:Below W.heap.size W W'):OwnI W' base v l:=by
 obtain ⟨b,cap,cur,h1,h2,h3,h4⟩:=h
 exact ⟨b,cap,cur,h1,h2,h3.call hb,h4⟩
theorem OwnI.grown {W W':World} {base r:Nat} {v:Value} {l:List Int} (h:OwnI W base v l) (hg:W.grownBy W' (some r)) (hr:r < base∨∃ t cs,t≠3∧Blk W r t cs):OwnI W' base v l:=by
 obtain ⟨b,cap,cur,h1,h2,h3,h4⟩:=h
 refine ⟨b,cap,cur,h1,h2,h3.grown hg fun e=>?_,h4⟩
 injection e with e
 rcases hr with h | ⟨t,cs,ht,hb⟩
 ·omega
 ·subst e
  have:=h3.symm.trans hb
  injection this with this
  injection this with _ this
  exact ht this.symm
theorem OwnI.arr {W:World} {base:Nat} {v:Value} {l:List Int} (h:OwnI W base v l):Arr W W.heap.size 1 v l icell:=by
 obtain ⟨b,cap,cur,rfl,h2,h3,h4,h5,h6⟩:=h
 refine ⟨_,cap,rfl,h5,h6,fun _=>⟨b,0,rfl,h3.lt,fun i x hx j hj=>?_⟩⟩
 obtain rfl:j=0:=by omega
 rw [show 0+i * 1+0=i by omega,h3.cell]
 have hi:=(List.getElem?_eq_some_iff.1 hx).1
 have h7:(cur.toList.take l.length)[i]? = some (.int .i64 x):=by rw [h4,List.getElem?_map,hx]; rfl
 rw [List.getElem?_take,if_pos hi] at h7
 simpa using h7
def OwnL (W:World) (base:Nat) (v:Value) (xs:List VL):Prop:=W.ownsRow base 30 1 v xs.length (xs.map (·.1))∧∀ x∈xs,OwnI W base x.1 x.2
theorem OwnL.lli {W:World} {base:Nat} {v:Value} {xs:List VL} (h:OwnL W base v xs):LLi W v (xs.map (·.2)):=by
 obtain ⟨h1,h2⟩:=h
 refine ⟨xs,rfl,?_,fun x hx=>(h2 x hx).arr⟩
 refine Arr.of_own (base:=base) (e:=30) ?_
 have:xs.flatMap (cellsOf 1 vlcell)=xs.map (·.1):=by
  clear h1 h2
  induction xs with
  | nil=>rfl
  | cons x r ih=>rw [List.flatMap_cons,ih]; rfl
 rw [this]
 exact h1
theorem slT_ll:SlT 40 30 1 24 (.slice none 0 0):=⟨Tryz.underlying40,by kernel_rfl,rfl,by omega⟩
theorem grown_below {W0 W W':World} {r:Option Nat} (hg:W0.grownBy W r) (hb:Below W0.heap.size W W'):W0.grownBy W' r :=
 ⟨hb.os.trans hg.os,hb.tape.trans hg.tape,hb.output.trans hg.output,Nat.le_trans hg.size hb.size,fun k hk hr=>(hb.block k hk).trans (hg.block k hk hr)⟩
end Go.Proofs.YtibmeigdjghkcaaGreat
namespace Go.Proofs.YtibmeigdjghkcaaGreat
open Go.RowKit Go.Shelf
set_option linter.unusedVariables false
theorem found_group {l:NL} (g:Good l) {drop:List Nat} {n:Nat} (hn:n < l.N) (he:labN (pairsOf l.L drop) l.N n=n) {o:Ord1} {k:Nat} {ws:List (Nat×Nat)} (b:Bfs l.N l.L drop anyP [n] o o.length ws k) {u:Nat} (hu:u < l.N):u∈o.map (·.1)↔labN (pairsOf l.L drop) l.N u=n:=by
 have h1:u∈o.map (·.1)↔Rch l.L drop (fun _ _ _=>true) [n] u:=b.all rfl u
 rw [h1,rch_conn g.net]
 constructor
 ·rintro ⟨x,hx,hc⟩
  obtain rfl:x=n:=by simpa using hx
  rw [← (labN_iff (pairs_lt g.net drop) hn hu).2 hc,he]
 ·intro h
  exact ⟨n,by simp,(labN_iff (pairs_lt g.net drop) hn hu).1 (by rw [he,h])⟩
theorem found_groupAt {l:NL} (g:Good l) {drop:List Nat} {n:Nat} (hn:n < l.N) (he:labN (pairsOf l.L drop) l.N n=n) {o:Ord1} {k:Nat} {ws:List (Nat×Nat)} (b:Bfs l.N l.L drop anyP [n] o o.length ws k):foundTo o l.N=groupAt (pairsOf l.L drop) l.N n:=by
 unfold foundTo groupAt
 refine List.filter_congr fun u hu=>?_
 rw [List.mem_range] at hu
 rw [Bool.eq_iff_iff,decide_eq_true_eq,beq_iff_eq,found_group g hn he b hu]
def doneB (l:NL) (drop:List Nat) (s u:Nat):Bool:=decide (labN (pairsOf l.L drop) l.N u < s)
theorem done_mark {l:NL} (g:Good l) {drop:List Nat} {s n:Nat} (hn:n < l.N) (h0:doneB l drop s n=false) (h1:∀ u,u < n→doneB l drop s u=true) {o:Ord1} {k:Nat} {ws:List (Nat×Nat)} (b:Bfs l.N l.L drop anyP [n] o o.length ws k) {u:Nat} (hu:u < l.N) :
  markO o l.N 1 (markD (doneB l drop s)) u=markD (doneB l drop (n+1)) u:=by
 have hs:s≤labN (pairsOf l.L drop) l.N n:=by unfold doneB at h0; simpa using h0
 have h2:∀ k,k < n→labN (pairsOf l.L drop) l.N k < s:=fun k hk=>by have:=h1 k hk; unfold doneB at this; simpa using this
 have hd:=done_next (pairs_lt g.net drop) hn hs h2 u hu
 obtain ⟨he, -, -⟩:=next_group (pairs_lt g.net drop) hn hs h2
 have hf:=found_group g hn he b hu
 unfold markO markD doneB
 by_cases h3:u∈o.map (·.1)
 ·rw [if_pos ⟨hu,h3⟩,if_pos (by rw [decide_eq_true_eq,hd]; exact .inr (hf.1 h3))]
 ·rw [if_neg fun h=>h3 h.2]
  by_cases h4:labN (pairsOf l.L drop) l.N u < s
  ·rw [if_pos (by simpa using h4),if_pos (by rw [decide_eq_true_eq,hd]; exact .inl h4)]
  ·rw [if_neg (by simpa using h4),if_neg (by rw [decide_eq_true_eq,hd]; exact fun h=>h.elim h4 fun h=>h3 (hf.2 h))]
theorem OwnI.keep {W W':World} {base:Nat} {v:Value} {l:List Int} (h:OwnI W base v l) {A:Option Addr} (hk:∀ g,g < W.heap.size→(∀ ad,A=some ad→ad.block≠g)→W'.heap[g]? = W.heap[g]?) (hA:∀ ad,A=some ad→∃ t cs,t≠3∧Blk W ad.block t cs):OwnI W' base v l:=by
 obtain ⟨b,cap,cur,h1,h2,h3,h4⟩:=h
 refine ⟨b,cap,cur,h1,h2,?_,h4⟩
 unfold Blk at h3 ⊢
 rw [hk b (heap_lt h3) fun ad e hb=>?_]
 ·exact h3
 ·obtain ⟨t,cs,ht,hB⟩:=hA ad e
  rw [hb] at hB
  have:=h3.symm.trans hB
  injection this with this
  injection this with _ this
  exact ht this.symm
theorem own_type {w:World} {base n size cap:Nat} {e:TypeId} {A:Option Addr} {xs:List Value} (h:w.ownsRow base e size (.slice A n cap) n xs) (he:e≠3):∀ ad,A=some ad→∃ t cs,t≠3∧Blk w ad.block t cs:=by
 intro ad hA
 rcases h.2 with ⟨h1, -⟩ | ⟨g,c,cur,h1, -,h3, -⟩
 ·injection h1 with h1
  rw [h1] at hA
  cases hA
 ·injection h1 with h1
  rw [h1] at hA
  injection hA with hA
  rw [← hA]
  exact ⟨e,cur,he,h3⟩
def lenV:Value→Nat
 | .slice _ n _=>n
 | _=>0
theorem grpL_bad {l:NL} {drop:List Int} (h:openE l drop≠0):grpL l drop=[]:=if_neg h
theorem grpL_go {l:NL} {drop:List Int} (h:openE l drop=0):grpL l drop=(groupsOf (pairsOf l.L (natL drop)) l.N).map intL:=if_pos h
set_option maxHeartbeats 1600000 in
theorem groups_ok (v dv:Value) (l:NL) (drop:List Int) (w:World) (hv:NLV w w.heap.size v l) (hd:Arr w w.heap.size 1 dv drop icell) :
  Calls Tryz.prog 12 #[v,dv] w fun r w'=>∃ gv,r = .returned (.tuple #[gv,.int .i64 (openE l drop)])∧LLi w' gv (grpL l drop)∧Below w.heap.size w w':=by
 obtain ⟨ka,kc,aa,ac,ba,bc,rfl,hna⟩:=hv
 have hC:=NB.new hna
 have hB:=(Below.refl w.heap.size w).alloc (Nat.le_refl _) (.cells #[.int .i64 l.n,.slice ka l.links.length kc,.slice aa l.left.length ac,.slice ba l.right.length bc] 33)
 go_enter Tryz.func12,Tryz.ntmps12
 go_upto_region 1 with (fail)
 generalize w.alloc (.cells #[.int .i64 l.n,.slice ka l.links.length kc,.slice aa l.left.length ac,.slice ba l.right.length bc] 33)=W at *
 obtain ⟨k0,k1,k2,k3⟩:=hC.blk.c4
 have ho:=open_ok _ dv l drop W hC.v ((hd.below hB).more hB.size)
 go_wp2_with fail
 refine ho.mono ?_
 rintro e w1 ⟨hb,hcase⟩
 replace hB:=hB.trans (hb.mono hB.size)
 replace hC:=hC.call hb
 clear ho k0 k1 k2 k3
 rcases hcase with ⟨h0,rfl⟩ | ⟨h0,G,fb,ka',kc',aa',ac',ba',bc',da,dc,rfl,hveq,rfl,hN⟩
 ·have d0:(openE l drop != 0)=true:=by simpa using h0
  have HL:=Lib.hid (grpL_bad h0)
  clear h0
  go_wp2
  go_ret2
  exact ⟨_,rfl,by rw [HL.out]; exact LLB.nil_,hB⟩
 ·obtain ⟨rfl,rfl,rfl,rfl,rfl,rfl⟩:ka=ka'∧kc=kc'∧aa=aa'∧ac=ac'∧ba=ba'∧bc=bc':=by simpa [and_assoc] using hveq
  obtain ⟨hc0,hrd⟩:=openE_inv h0
  have hg:=check_good.1 hc0
  have hdp:∀ x∈drop,0≤x:=fun x hx=>by have:=(rises_lo hrd x hx).1; omega
  have hN40:l.N≤40:=by have:=hg.forty; have:=hg.nN; omega
  have HL:=Lib.hid (grpL_go h0)
  have H0:=Lib.hid h0
  obtain ⟨k0,k1,k2,k3⟩:=hC.blk.c4
  rw [← hg.nN] at k0
  have hmk:=run_mk slT_int l.N (by omega) (by omega)
  clear h0 hveq hrd hc0
  go_upto_region 5 with (fail)
  have hx:=Blk.new w1 3 (madeCells #[.int .i64 0] l.N)
  have hb1:=(Below.refl w1.heap.size w1).alloc (Nat.le_refl _) (.cells (madeCells #[.int .i64 0] l.N) 3)
  have hE:EndB (w1.alloc (.cells (madeCells #[.int .i64 0] l.N) 3)) w1.heap.size l.N (markD (doneB l (natL drop) 0)):=by
   have e:(rowA l.N fun _=>Value.int .i64 0)=madeCells #[.int .i64 0] l.N:=(made_one _ _).symm
   have e2:markD (doneB l (natL drop) 0)=fun _=>0:=by funext u; simp [markD,doneB]
   rw [e2]
   unfold EndB
   rw [e]
   exact hx
  have hN2:=hN.call hb1
  have hB2:=hB.trans (hb1.mono hB.size)
  have hG1:=hN.lt
  have hlo:=hN.net.le
  have hlo2:=hN.lo
  have hWw:=hC.blk.lt
  have hs1:(w1.alloc (.cells (madeCells #[.int .i64 0] l.N) 3)).heap.size=w1.heap.size+1:=by simp
  have hW1:=hB.size
  have hbsz:=hb.size
  clear k0 k1 k2 k3 hmk hx hb1 hN hC hB hb
  generalize w1.alloc (.cells (madeCells #[.int .i64 0] l.N) 3)=w2 at *
  generalize w1.heap.size=eb at *
  go_wp2
  go_loopw [9] (fun gv wr=>∃ (s:Nat) (A:Option Addr) (cap:Nat) (xs:List VL),s≤l.N∧gv = .slice A xs.length cap∧xs.map (·.2)=(groupsTo (pairsOf l.L (natL drop)) l.N s).map intL∧OwnL wr (eb+1) (.slice A xs.length cap) xs∧EndB wr eb l.N (markD (doneB l (natL drop) s))∧NetF wr W.heap.size G l ka kc aa ac ba bc da dc drop fb (fun _=>0) (fun _=>0)∧Below w.heap.size w wr∧eb+1≤wr.heap.size) (fun gv _=>l.N-lenV gv)
  case atStart=>exact ⟨0,none,0,[],Nat.zero_le _,rfl,rfl,⟨World.ownsRow_nil _ _ _ _,fun x hx=>by cases hx⟩,hE,hN2,hB2,by omega⟩
  case round =>
   clear hE hN2 hB2
   obtain ⟨s,A,cap,xs,hs,rfl,hxs,hown,hE,hN,hB,hsz⟩:=hrel
   have hfi:=first_ok eb l.N _ wr hE hN40
   go_wp2_with fail
   refine hfi.mono ?_
   rintro e w3 ⟨hb3,hcase⟩
   clear hfi
   have hE3:EndB w3 eb l.N _:=Blk.call hE hb3
   have hN3:=hN.call hb3
   have hB3:=hB.trans (hb3.mono hB.size)
   have hown3:OwnL w3 (eb+1) (.slice A xs.length cap) xs:=⟨own_call hown.1 hb3,fun x hx=>(hown.2 x hx).call hb3⟩
   have hsz3:=hb3.size
   clear hE hN hB hown hb3
   rcases hcase with ⟨rfl,hall⟩ | ⟨n,rfl,hn,hn0,hn1⟩
   ·have he:groupsTo (pairsOf l.L (natL drop)) l.N s=groupsOf (pairsOf l.L (natL drop)) l.N:=groups_end (pairs_lt hg.net _) hs fun k hk=>by have:=hall k hk; unfold doneB at this; simpa using this
    rw [he,← HL.out] at hxs
    have hli:=hown3.lli
    rw [hxs] at hli
    clear hxs he hall hown3
    go_wp2
    go_ret2
    exact ⟨_,by rw [H0.out]; rfl,hli,hB3⟩
   ·have hps:=pairs_lt hg.net (natL drop)
    have hs2:s≤labN (pairsOf l.L (natL drop)) l.N n:=by unfold doneB at hn0; simpa using hn0
    have hl2:∀ k,k < n→labN (pairsOf l.L (natL drop)) l.N k < s:=fun k hk=>by have:=hn1 k hk; unfold doneB at this; simpa using this
    obtain ⟨he,hsn,hgn⟩:=next_group hps hn hs2 hl2
    have d1:decide ((n:Int) < 0)=false:=decide_eq_false (by omega)
    have HDM:=Lib.hid (fun (o:Ord1) (k:Nat) (ws:List (Nat×Nat)) (b:Bfs l.N l.L (natL drop) anyP [n] o o.length ws k) (u:Nat) (hu:u < l.N)=>done_mark hg hn hn0 hn1 b hu)
    have HFG:=Lib.hid (fun (o:Ord1) (k:Nat) (ws:List (Nat×Nat)) (b:Bfs l.N l.L (natL drop) anyP [n] o o.length ws k)=>found_groupAt hg hn he b)
    have HGN:=Lib.hid hgn
    have hmem:n∈groupAt (pairsOf l.L (natL drop)) l.N n:=mem_group.2 ⟨hn,he⟩
    have hgl:=groupsTo_len (pairsOf l.L (natL drop)) l.N s
    have hxl:xs.length≤s:=by
     have:xs.length=(groupsTo (pairsOf l.L (natL drop)) l.N s).length:=by rw [← List.length_map (f:=(·.2)),hxs,List.length_map]
     omega
    have HXS:=Lib.hid hxs
    clear hgl he hgn hl2 hs2 hn0 hn1 hps hxs
    go_upto_region 10 with (fail)
    have hP:=Blk.new w3 3 #[.int .i64 (n:Int)]
    have hb4:=(Below.refl w3.heap.size w3).alloc (Nat.le_refl _) (.cells #[.int .i64 (n:Int)] 3)
    have harr:Arr (w3.alloc (.cells #[.int .i64 (n:Int)] 3)) (w3.alloc (.cells #[.int .i64 (n:Int)] 3)).heap.size 1 (.slice (some ⟨w3.heap.size,0,none⟩) 1 1) (intL [n]) icell:=Arr.lit hP (by simp) rfl (by simp [intL]) (by omega) (by simp [cellsOf,List.range_succ,icell,intL])
    have hrt:=reach_there (hN3.call hb4) hg hdp [n] _ harr (by simp) (by simpa using hn)
    have hE4:EndB _ eb l.N _:=Blk.call hE3 hb4
    have hN4:=hN3.call hb4
    have hB4:=hB3.trans (hb4.mono hB3.size)
    have hown4:OwnL _ (eb+1) (.slice A xs.length cap) xs:=⟨own_call hown3.1 hb4,fun x hx=>(hown3.2 x hx).call hb4⟩
    have hsz4:=hb4.size
    clear hE3 hN3 hB3 hown3 hb4 harr hP
    go_wp2_with fail
    refine hrt.mono ?_
    rintro e w5 ⟨ob,o,ws,kk,rfl,hwb,hob,hbf,hb5⟩
    have hE5:EndB w5 eb l.N (markO o 0 1 (markD (doneB l (natL drop) s))):=by rw [markO_zero]; exact Blk.call hE4 hb5
    have hN5:=hN4.call hb5
    have hB5:=hB4.trans (hb5.mono hB4.size)
    have hown5:OwnL w5 (eb+1) (.slice A xs.length cap) xs:=⟨own_call hown4.1 hb5,fun x hx=>(hown4.2 x hx).call hb5⟩
    have hsz5:=hb5.size
    have HDM2:=Lib.hid (HDM.out o kk ws hbf)
    have HFG2:=Lib.hid (HFG.out o kk ws hbf)
    have hobl:=Blk.lt hwb
    clear hE4 hN4 hB4 hown4 hb5 hrt HDM HFG
    go_wp2
    go_loopw [11,38] (fun sv i wr=>∃ (k:Nat) (A:Option Addr) (cap:Nat),k≤l.N∧i = .int .i64 k∧sv = .slice A (foundTo o k).length cap∧wr.ownsRow w5.heap.size 3 1 (.slice A (foundTo o k).length cap) (foundTo o k).length ((intL (foundTo o k)).map (Value.int .i64))∧EndB wr eb l.N (markO o k 1 (markD (doneB l (natL drop) s)))∧w5.grownBy wr (some eb)) (fun _ i _=>l.N-(intOf i).toNat)
    case atStart=>exact ⟨0,none,0,Nat.zero_le _,rfl,rfl,by simpa [foundTo,intL] using World.ownsRow_nil _ _ _ _,hE5,World.grownBy.refl _ _⟩
    case round =>
     clear hE5
     obtain ⟨k,A2,cap2,hk,rfl,rfl,hownr,hEr,hgr⟩:=hrel
     have hft:=foundTo_succ o k
     have hfl:=foundTo_len o k
     by_cases hlt:k < l.N
     ·have d2:decide (k < l.N)=true:=decide_eq_true hlt
      have d2':decide ((k:Int) < (l.N:Int))=true:=decide_eq_true (by omega)
      have hki:(k:Int) < (l.N:Int):=by omega
      have hwb2:WayB wr ob l.N (found o):=Blk.grown hwb hgr fun e=>by injection e; omega
      obtain ⟨s0,s1,s2⟩:=WayB.at_ hwb2 hlt
      have hqq:=fun w'=>neq_way hg.net hbf k w'
      have hAlt:=own_block hownr
      go_upto_region 13 with (fail)
      have hX:=Blk.new wr 131 #[.int .i64 (wayF k (found o k)),.int .i64 (wayT k (found o k)),.int .i64 (wayL k (found o k))]
      have hb1:=(Below.refl wr.heap.size wr).alloc (Nat.le_refl _) (.cells #[.int .i64 (wayF k (found o k)),.int .i64 (wayT k (found o k)),.int .i64 (wayL k (found o k))] 131)
      have hg1:=World.grownBy_alloc wr (.cells #[.int .i64 (wayF k (found o k)),.int .i64 (wayT k (found o k)),.int .i64 (wayL k (found o k))] 131) (some eb)
      have hE1:EndB _ eb l.N _:=Blk.call hEr hb1
      have hown1:=own_call hownr hb1
      have hgr1:=grown_trans' hgr hg1
      clear hEr hgr hg1 hwb2 s0 s1 s2 hb1 hownr
      generalize wr.alloc (.cells #[.int .i64 (wayF k (found o k)),.int .i64 (wayT k (found o k)),.int .i64 (wayL k (found o k))] 131)=wq at *
      have x0:=hX.cell 0
      have x1:=hX.cell 1
      have x2:=hX.cell 2
      simp at x0 x1 x2
      generalize wayF k (found o k)=yf at *
      generalize wayT k (found o k)=yt at *
      generalize wayL k (found o k)=yl at *
      by_cases hm:k∈o.map (·.1)
      ·have e1:(!decide (k∈o.map (·.1)))=false:=by rw [decide_eq_true hm]; rfl
       rw [e1] at hqq
       rw [if_pos hm] at hft
       have HFT:=Lib.hid hft
       have c1:=hE1.at_ hlt
       have c2:=Blk.frozen hE1 k
       have hE2:=hE1.put (i:=k) (x:=1) (g:=markO o (k+1) 1 (markD (doneB l (natL drop) s))) fun j _=>markO_yes hm j
       have hgr2:w5.grownBy (wq.setCell ⟨eb,k,none⟩ (.int .i64 1)) (some eb):=grown_trans' hgr1 (grown_setCell _)
       have hown2:(wq.setCell ⟨eb,k,none⟩ (.int .i64 1)).ownsRow w5.heap.size 3 1 (.slice A2 (foundTo o k).length cap2) (foundTo o k).length ((intL (foundTo o k)).map (Value.int .i64)):=own_low hown1 (by omega)
       clear hft hm e1 hE1 hgr1 hown1
       go_upto_region 15 with (fail)
       clear c1 c2
       generalize wq.setCell ⟨eb,k,none⟩ (.int .i64 1)=wz at *
       have hszq:=hgr2.size
       generalize hn0:(foundTo o k).length=m at *
       have HN0:=Lib.hid hn0
       clear hn0
       obtain ⟨-,hnc,hncm⟩:=own_cap hown2
       go_wp2_with (at_builtin; refine wpList_app1 slT_int rfl (.tmp 49) (.tmp 51) rfl (A:=A2) (cc:=cap2) rfl ⟨cap2,hown2,.inl rfl⟩ rfl rfl one_1 hszq ?_ ?_ ?_)
       any_goals omega
       intro v4 w4' hown4 hb4' hkeep4
       have hown5b:w4'.ownsRow w5.heap.size 3 1 v4 (foundTo o (k+1)).length ((intL (foundTo o (k+1))).map (Value.int .i64)):=by
        rw [HFT.out,intL_append,List.map_append,List.length_append,HN0.out]
        exact hown4
       have hgr3:=grown_below hgr2 hb4'
       obtain ⟨A4,c4,rfl⟩:=own_form hown5b
       have hE3:EndB w4' eb l.N (markO o (k+1) 1 (markD (doneB l (natL drop) s))):=by
        have:=hb4'.block eb (by omega)
        unfold EndB Blk at hE2 ⊢
        rw [this]
        exact hE2
       clear hown4 hb4' hkeep4 hown2 hgr2 hE2
       go_wp2
       go_roundw
       case rel=>exact ⟨k+1,_,_,by omega,by go_num,rfl,hown5b,hE3,hgr3⟩
       case measure=>(simp [intOf]; try omega)
      ·have e1:(!decide (k∈o.map (·.1)))=true:=by rw [decide_eq_false hm]; rfl
       rw [e1] at hqq
       rw [if_neg hm] at hft
       rw [← hft] at hown1
       rw [← hft]
       have hE2:EndB wq eb l.N (markO o (k+1) 1 (markD (doneB l (natL drop) s))):=by rw [markO_no hm]; exact hE1
       clear hft hm e1 hE1
       go_wp2
       go_roundw
       case rel=>exact ⟨k+1,_,_,by omega,by go_num,rfl,hown1,hE2,hgr1⟩
       case measure=>(simp [intOf]; try omega)
     ·obtain rfl:k=l.N:=by omega
      have d2:decide (l.N < l.N)=false:=by simp
      have hNr:=hN5.grown hgr fun r e=>by injection e with e; omega
      have hBr:Below w.heap.size w wr:=⟨hgr.os.trans hB5.os,hgr.tape.trans hB5.tape,hgr.output.trans hB5.output,Nat.le_trans hB5.size hgr.size,fun q hq=>(hgr.block q (Nat.lt_of_lt_of_le hq hB5.size) fun e=>by injection e; omega).trans (hB5.block q hq)⟩
      have hEn:EndB wr eb l.N (markD (doneB l (natL drop) (n+1))):=hEr.congr fun u hu=>HDM2.out u hu
      have hownr5:wr.ownsRow (eb+1) 30 1 (.slice A xs.length cap) xs.length (xs.map (·.1)):=hown5.1.kept hgr (by
       cases hq:(Value.slice A xs.length cap).ownBlock with
       | none=>exact .inl rfl
       | some q=>exact .inr fun e=>by have:=(hown5.1.lt q hq).1; injection e with e; omega)
      have hxr:∀ x∈xs,OwnI wr (eb+1) x.1 x.2:=fun x hx=>(hown5.2 x hx).grown hgr (.inl (by omega))
      have hfo:=HFG2.out
      rw [hfo] at hownr
      rw [hfo]
      have hgpos:0 < (groupAt (pairsOf l.L (natL drop)) l.N n).length:=List.length_pos_of_mem hmem
      have hil:(intL (groupAt (pairsOf l.L (natL drop)) l.N n)).length=(groupAt (pairsOf l.L (natL drop)) l.N n).length:=by simp [intL]
      have hinew:OwnI wr (eb+1) (.slice A2 (groupAt (pairsOf l.L (natL drop)) l.N n).length cap2) (intL (groupAt (pairsOf l.L (natL drop)) l.N n)):=OwnI.of (base:=w5.heap.size) (by rw [hil]; exact hownr) (by omega) (by omega)
      have HX2:Hid ((xs++[((.slice A2 (groupAt (pairsOf l.L (natL drop)) l.N n).length cap2:Value),intL (groupAt (pairsOf l.L (natL drop)) l.N n))]).map (·.2)=(groupsTo (pairsOf l.L (natL drop)) l.N (n+1)).map intL):=by
       rw [Hid,HGN.out,List.map_append,List.map_append,HXS.out]
       rfl
      have hmea:xs.length < l.N:=by omega
      have htyp:=own_type hownr5 (by decide)
      clear hwb hN5 hB5 hown5 hownr hEr hgr hft hfl hbf hfo hil hgpos hmem
      generalize (groupAt (pairsOf l.L (natL drop)) l.N n).length=gm at *
      generalize intL (groupAt (pairsOf l.L (natL drop)) l.N n)=gl at *
      go_upto_region 17 with (fail)
      have hszq:eb+1≤wr.heap.size:=Blk.lt hEn
      go_wp2_with (at_builtin; refine wpList_app1 slT_ll rfl (.tmp 54) (.tmp 56) rfl (A:=A) (cc:=cap) rfl ⟨cap,hownr5,.inl rfl⟩ rfl rfl (by simp [Value.oneCell']) hszq ?_ ?_ ?_)
      any_goals omega
      intro v4 w4' hown4 hb4' hkeep4
      have hE6:EndB w4' eb l.N (markD (doneB l (natL drop) (n+1))):=by
       have:=hb4'.block eb (by omega)
       unfold EndB Blk at hEn ⊢
       rw [this]
       exact hEn
      have hN6:NetF w4' W.heap.size G l ka kc aa ac ba bc da dc drop fb (fun _=>0) (fun _=>0):=⟨hNr.net.keep fun q hq=>hb4'.block q (by omega),by
       have:=hb4'.block fb (by omega)
       have hf:=hNr.flow
       unfold FlowB Blk at hf ⊢
       rw [this]
       exact hf,hNr.lo⟩
      have hB6:=hBr.trans (hb4'.mono (by omega))
      have hxr6:∀ x∈xs++[((.slice A2 gm cap2:Value),gl)],OwnI w4' (eb+1) x.1 x.2:=by
       intro x hx
       rcases List.mem_append.1 hx with hx | hx
       ·exact (hxr x hx).keep hkeep4 htyp
       ·obtain rfl:=List.mem_singleton.1 hx
        exact hinew.keep hkeep4 htyp
      have hl6:(xs++[((.slice A2 gm cap2:Value),gl)]).length=xs.length+1:=by simp
      have hown6:w4'.ownsRow (eb+1) 30 1 v4 (xs++[((.slice A2 gm cap2:Value),gl)]).length ((xs++[((.slice A2 gm cap2:Value),gl)]).map (·.1)):=by
       rw [hl6,List.map_append]
       exact hown4
      have hsz6:eb+1≤w4'.heap.size:=Nat.le_trans hszq hb4'.size
      obtain ⟨A6,c6,rfl⟩:=own_form hown6
      clear hown4 hb4' hkeep4 hxr hinew hNr hEn hownr5 hBr htyp hszq
      generalize xs++[((.slice A2 gm cap2:Value),gl)]=ys at *
      go_wp2
      go_roundw
      case rel=>exact ⟨n+1,_,_,ys,by omega,rfl,HX2.out,⟨hown6,hxr6⟩,hE6,hN6,hB6,hsz6⟩
      case measure=>(simp [lenV]; try omega)
end Go.Proofs.YtibmeigdjghkcaaGreat
namespace Go.Proofs.YtibmeigdjghkcaaGreat
open Go.RowKit Go.Shelf Go.Lib
set_option linter.unusedVariables false
def Tryz.reverseInt_ren:Go.Shelf.Ren:={ f:=fun | 35=>59 | n=>n,t:=fun | 22=>30 | 23=>3 | 3=>3 | 4=>4 | 0=>0 | n=>n,g:=fun n=>n }
theorem Tryz.reverseInt:Go.Proofs.SlLaysE.n35 Tryz.prog Tryz.reverseInt_ren :=
 { mixed:=by kernel_rfl,
   f35:=⟨Tryz.f59.name,by decide,Tryz.func59.trans (by kernel_rfl)⟩,
   t0:=Tryz.underlying0,a0:=Tryz.isAgg0,z0:=Tryz.sizeOf0,v0:=Tryz.zeroValue0,
   t3:=Tryz.underlying3,a3:=Tryz.isAgg3,z3:=Tryz.sizeOf3,v3:=Tryz.zeroValue3,
   t4:=Tryz.underlying4,a4:=Tryz.isAgg4,z4:=Tryz.sizeOf4,v4:=Tryz.zeroValue4,
   t22:=Tryz.underlying30,a22:=Tryz.isAgg30,z22:=Tryz.sizeOf30,v22:=Tryz.zeroValue30,
   a23:=Tryz.isAgg3,z23:=Tryz.sizeOf3 }
theorem reverse_ok {base:Nat} (l:List Int) (A:Option Addr) (cap:Nat) (w:World) (hown:w.ownsRow base 3 1 (.slice A l.length cap) l.length (l.map (Value.int .i64))) :
  Calls Tryz.prog 59 #[.slice A l.length cap] w fun e w'=>e = .returned (.tuple #[])∧Arr w' w'.heap.size 1 (.slice A l.length cap) l.reverse icell∧w.grownBy w' (Value.slice A l.length cap).ownBlock:=by
 rcases l with _ | ⟨x0,l0⟩
 ·refine (AnyE.slices_Reverse_empty Tryz.reverseInt A cap w).mono ?_
  rintro e w' ⟨rfl,rfl⟩
  exact ⟨rfl,Arr.of_own (by rw [flat_int]; exact hown),World.grownBy.refl _ _⟩
 ·obtain ⟨hl,hd⟩:=hown
  rcases hd with ⟨he,h0⟩ | ⟨g,cap',cur,he,hbase,hh,hn,hcap,hsz,htake⟩
  ·simp at h0
  ·injection he with hA _ hc
   subst hA
   subst hc
   have hB:Blk w g 3 cur:=hh
   have hH:Sort.Holds (Value.int .i64) w g 0 (x0::l0).toArray:=by
    intro i hi
    have hil:i < (x0::l0).length:=by simpa using hi
    refine ⟨?_,hB.frozen _⟩
    rw [Nat.zero_add,hB.cell]
    obtain ⟨x,hx⟩:∃ x,(x0::l0)[i]? = some x:=⟨_,List.getElem?_eq_getElem hil⟩
    have h7:(cur.toList.take ((x0::l0).length * 1))[i]? = some (.int .i64 x):=by rw [htake,List.getElem?_map,hx]; rfl
    rw [List.getElem?_take,if_pos (by omega)] at h7
    have e1:(x0::l0).toArray[i]! = x:=by
     have h5:(x0::l0).toArray[i]? = some x:=by rw [← hx]; simp
     exact (Array.getElem?_eq_some_iff.1 h5).2 ▸ getElem!_pos _ _ _
    rw [e1]
    simpa using h7
   simp only [maxLen] at hcap
   refine (AnyE.slices_Reverse Tryz.reverseInt (Value.int .i64) (fun x=>rfl) g 0 cap (x0::l0) w hH (by omega)).mono ?_
   rintro e w' ⟨rfl,n,rfl⟩
   have hH2:=Sort.holds_putRow (Value.int .i64) (Sort.ahead w n) g 0 (x0::l0).toArray (x0::l0).reverse.toArray (Sort.holds_ahead _ w n g 0 _ hH) (by simp)
   generalize hW:Sort.putRow (Value.int .i64) (Sort.ahead w n) g 0 (x0::l0).reverse.toArray=W at *
   have hgr:w.grownBy W (some g):=by
    rw [← hW]
    refine ⟨rfl,rfl,rfl,?_,fun k hk hne=>?_⟩
    ·simp [Sort.putRow,Sort.mapBlock]
    ·simp only [Sort.putRow,Sort.mapBlock,Sort.heap_ahead]
     rw [Array.getElem?_modify,if_neg (fun e=>hne (by rw [e]))]
   refine ⟨rfl,?_,hgr⟩
   have hlt:g < W.heap.size:=Nat.lt_of_lt_of_le hB.lt hgr.size
   refine ⟨_,cap,by simp,by simpa using hn,by omega,fun _=>⟨g,0,rfl,hlt,fun i x hx j hj=>?_⟩⟩
   obtain rfl:j=0:=by omega
   have hil:=(List.getElem?_eq_some_iff.1 hx).1
   have hz:=(hH2 i (by simpa using hil)).1
   rw [show 0+i * 1+0=0+i by omega,hz]
   have e1:(x0::l0).reverse.toArray[i]! = x:=by
    have h5:(x0::l0).reverse.toArray[i]? = some x:=by rw [← hx]; simp
    exact (Array.getElem?_eq_some_iff.1 h5).2 ▸ getElem!_pos _ _ _
   rw [e1]
end Go.Proofs.YtibmeigdjghkcaaGreat
