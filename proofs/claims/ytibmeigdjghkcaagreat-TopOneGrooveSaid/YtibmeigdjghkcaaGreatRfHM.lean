/- Contracts of the reference: linked. A row of the call's own that reads as a list of numbers; labels of names as such a row. Contract of the reference: groups. -/
import Derived.Test.YtibmeigdjghkcaaGreatRfCM
import Derived.Test.YtibmeigdjghkcaaGreatPlC
import Derived.Test.YtibmeigdjghkcaaGreatPcB
namespace Go.Proofs.YtibmeigdjghkcaaGreat
open Go.RowKit Go.Shelf
set_option linter.unusedVariables false
def linkR (l:NL) (drop:List Int) (x y:Int) (i:Nat):Bool :=
 !drop.contains (i:Int)&&(((l.links.getD i default).one==x&&(l.links.getD i default).two==y)||((l.links.getD i default).one==y&&(l.links.getD i default).two==x))
theorem linkR_eq {l:NL} {drop:List Int} (hd:∀ x∈drop,0≤x) (x y:Int) (i:Nat):linkR l drop x y i=linkI l (natL drop) x y i:=by
 unfold linkR linkI
 have:drop.contains (i:Int)=(natL drop).contains i:=by
  rw [Bool.eq_iff_iff,List.contains_iff_mem,List.contains_iff_mem]
  constructor
  ·intro h; exact List.mem_map.2 ⟨_,h,by simp⟩
  ·intro h
   obtain ⟨z,hz,he⟩:=List.mem_map.1 h
   have:=hd z hz
   have e:z=(i:Int):=by omega
   exact e ▸ hz
 rw [this]
theorem any_from (p:Nat→Bool) {k n:Nat} (h:k < n):((List.range' k (n-k)).any p)=(p k||(List.range' (k+1) (n-(k+1))).any p):=by
 rw [show n-k=(n-(k+1))+1 by omega,List.range'_succ,List.any_cons]
set_option maxHeartbeats 1600000 in
theorem rlinked_ok (v dv:Value) (l:NL) (drop:List Int) (x y:Int) (w:World) (hv:NLV w w.heap.size v l) (hd:Arr w w.heap.size 1 dv drop icell) :
  Calls Tryz.prog 61 #[v,dv,.int .i64 x,.int .i64 y] w fun r w'=>r = .returned (.bool ((List.range l.links.length).any (linkR l drop x y)))∧Below w.heap.size w w':=by
 obtain ⟨ka,kc,aa,ac,ba,bc,rfl,hna⟩:=hv
 have hC:=NB.new hna
 have hB:=(Below.refl w.heap.size w).alloc (Nat.le_refl _) (.cells #[.int .i64 l.n,.slice ka l.links.length kc,.slice aa l.left.length ac,.slice ba l.right.length bc] 33)
 go_enter Tryz.func61,Tryz.ntmps61
 go_upto_region 1 with (fail)
 generalize w.alloc (.cells #[.int .i64 l.n,.slice ka l.links.length kc,.slice aa l.left.length ac,.slice ba l.right.length bc] 33)=W at *
 have hll:l.links.length≤9223372036854775807:=by
  obtain ⟨a,c,h,h1,h2, -⟩:=hna.ks
  omega
 have hdW:=(hd.below hB).more hB.size
 have HR:=Lib.hid (show (List.range l.links.length).any (linkR l drop x y)=(List.range' 0 (l.links.length-0)).any (linkR l drop x y) by rw [List.range_eq_range']; rfl)
 go_wp2
 go_loopw [9] (fun i wr=>∃ k:Nat,k≤l.links.length∧i = .int .i64 k∧Hid ((List.range l.links.length).any (linkR l drop x y)=(List.range' k (l.links.length-k)).any (linkR l drop x y))∧Below W.heap.size W wr) (fun i _=>l.links.length-(intOf i).toNat)
 case atStart=>exact ⟨0,Nat.zero_le _,rfl,HR,Below.refl _ _⟩
 case round =>
  obtain ⟨k,hk,rfl,hq,hr⟩:=hrel
  have hCr:=hC.call hr
  have hBr:=hB.trans (hr.mono hB.size)
  obtain ⟨k0,k1,k2,k3⟩:=hCr.blk.c4
  by_cases hlt:k < l.links.length
  ·have e1:decide (k < l.links.length)=true:=decide_eq_true hlt
   have e1':decide ((k:Int) < (l.links.length:Int))=true:=decide_eq_true (by omega)
   have hki:(k:Int) < (l.links.length:Int):=by omega
   obtain ⟨b,off,z,rfl,hbl,hx,c0,c1,c2⟩:=link_at hCr.na.ks hlt
   have hst:=any_from (linkR l drop x y) hlt
   have hlk:linkR l drop x y k=(!drop.contains (k:Int)&&((z.one==x&&z.two==y)||(z.one==y&&z.two==x))):=by
    unfold linkR
    rw [List.getD_eq_getElem?_getD,hx]
    rfl
   go_upto_region 5 with (fail)
   have hX:=Blk.new wr 36 #[.int .i64 z.one,.int .i64 z.two,.int .i64 z.trust]
   have hb1:=(Below.refl wr.heap.size wr).alloc (Nat.le_refl _) (.cells #[.int .i64 z.one,.int .i64 z.two,.int .i64 z.trust] 36)
   have hr1:=hr.trans (hb1.mono hr.size)
   have hB1:=hBr.trans (hb1.mono hBr.size)
   have hin:=rin_ok dv drop (k:Int) _ (hdW.call hr1)
   clear c0 c1 c2 hx hbl hr hBr hCr hb1 k0 k1 k2 k3
   generalize wr.alloc (.cells #[.int .i64 z.one,.int .i64 z.two,.int .i64 z.trust] 36)=V at *
   have x0:=hX.cell 0
   have x1:=hX.cell 1
   simp at x0 x1
   clear hX
   generalize hg1:z.one=p at *
   generalize hg2:z.two=q at *
   clear hg1 hg2
   have hfin:∀ bb,linkR l drop x y k=bb→(bb=true→Hid ((List.range l.links.length).any (linkR l drop x y)=true))∧(bb=false→Hid ((List.range l.links.length).any (linkR l drop x y)=(List.range' (k+1) (l.links.length-(k+1))).any (linkR l drop x y))):=fun bb hbb =>
    ⟨fun h=>by rw [Hid,hq.out,hst,hbb,h]; rfl,fun h=>by rw [Hid,hq.out,hst,hbb,h]; rfl⟩
   have HF:=Lib.hid hfin
   clear hst hq hfin
   cases hc:drop.contains (k:Int) <;> cases hpx:(p==x) <;> cases hqy:(q==y) <;> cases hpy:(p==y) <;> cases hqx:(q==x) <;> rw [hc,hpx,hqy,hpy,hqx] at hlk <;> rw [hc] at hin <;> (
    have HN:=Lib.hid (HF.out _ hlk)
    clear hlk hc HF
    go_wp2_with fail
    refine hin.mono ?_
    rintro e w2 ⟨rfl,rfl⟩
    clear hin
    go_wp2
    first
    | (go_ret; exact ⟨ret_b (HN.out.1 rfl).out.symm,hB1⟩)
    | (go_roundw
       case rel=>exact ⟨k+1,by omega,by go_num,HN.out.2 rfl,hr1⟩
       case measure=>(simp [intOf]; try omega)))
  ·obtain rfl:k=l.links.length:=by omega
   have e1:decide (l.links.length < l.links.length)=false:=by simp
   have HX:Hid ((List.range l.links.length).any (linkR l drop x y)=false):=by rw [Hid,hq.out,Nat.sub_self]; rfl
   clear hq
   go_wp2
   go_ret
   exact ⟨ret_b HX.out.symm,hBr⟩
end Go.Proofs.YtibmeigdjghkcaaGreat
namespace Go.Proofs.YtibmeigdjghkcaaGreat
open Go.RowKit Go.Shelf
set_option linter.unusedVariables false
theorem Arr.part {w:World} {B g off n cap:Nat} {l:List Int} (hn:n=l.length) (h1:l.length≤cap) (h2:cap≤9223372036854775807) (hg:g < B)
  (hc:∀ i x,l[i]? = some x→w.cell? ⟨g,off+i,none⟩=some (.int .i64 x)):Arr w B 1 (.slice (some ⟨g,off,none⟩) n cap) l icell:=by
 subst hn
 refine ⟨_,cap,rfl,h1,h2,fun _=>⟨g,off,rfl,hg,fun i x hx j hj=>?_⟩⟩
 obtain rfl:j=0:=by omega
 rw [Nat.mul_one,Nat.add_zero]
 exact hc i x hx
def OwnB (w:World) (b n cap:Nat) (l:List Int):Prop:=∃ cur,Blk w b 3 cur∧cur.toList.take n=l.map (Value.int .i64)∧n=l.length∧n≤cap∧cap≤9223372036854775807∧n≤cur.size
theorem OwnB.lt {w:World} {b n cap:Nat} {l:List Int} (h:OwnB w b n cap l):b < w.heap.size:=h.elim fun cur h=>h.1.lt
theorem OwnB.call {w w':World} {b n cap:Nat} {l:List Int} (h:OwnB w b n cap l) (hb:Below w.heap.size w w'):OwnB w' b n cap l:=by
 obtain ⟨cur,h1,h2⟩:=h
 exact ⟨cur,h1.call hb,h2⟩
theorem OwnB.far {w:World} {b n cap:Nat} {l:List Int} (h:OwnB w b n cap l) {p:Addr} (hp:b≠p.block) (u:Value):OwnB (w.setCell p u) b n cap l:=by
 obtain ⟨cur,h1,h2⟩:=h
 exact ⟨cur,h1.far hp u,h2⟩
theorem OwnB.cell {w:World} {b n cap:Nat} {l:List Int} (h:OwnB w b n cap l) {i:Nat} {x:Int} (hx:l[i]? = some x):w.cell? ⟨b,i,none⟩=some (.int .i64 x)∧w.frozen? ⟨b,i,none⟩=false:=by
 obtain ⟨cur,h1,h2,h3,h4,h5,h6⟩:=h
 have hi:i < n:=by rw [h3]; exact (List.getElem?_eq_some_iff.1 hx).1
 refine ⟨?_,h1.frozen i⟩
 have h7:(cur.toList.take n)[i]? = some (.int .i64 x):=by rw [h2,List.getElem?_map,hx]; rfl
 rw [List.getElem?_take,if_pos hi] at h7
 rw [h1.cell]
 simpa using h7
theorem OwnB.set_ {w:World} {b n cap:Nat} {l:List Int} (h:OwnB w b n cap l) {i:Nat} (hi:i < n) (x:Int):OwnB (w.setCell ⟨b,i,none⟩ (.int .i64 x)) b n cap (l.set i x):=by
 obtain ⟨cur,h1,h2,h3,h4,h5,h6⟩:=h
 refine ⟨cur.setIfInBounds i (.int .i64 x),h1.set_ i _,?_,by simpa using h3,h4,h5,by simpa using h6⟩
 rw [Array.toList_setIfInBounds,List.take_set,h2,List.map_set]
theorem OwnB.arr {w:World} {b n cap:Nat} {l:List Int} (h:OwnB w b n cap l):Arr w w.heap.size 1 (.slice (some ⟨b,0,none⟩) n cap) l icell:=by
 have hl:=h.lt
 have h':=h
 obtain ⟨cur,h1,h2,h3,h4,h5,h6⟩:=h
 exact Arr.part h3 (by omega) h5 hl fun i x hx=>by rw [Nat.zero_add]; exact (h'.cell hx).1
end Go.Proofs.YtibmeigdjghkcaaGreat
namespace Go.Proofs.YtibmeigdjghkcaaGreat
open Go.RowKit Go.Shelf
set_option linter.unusedVariables false
end Go.Proofs.YtibmeigdjghkcaaGreat
