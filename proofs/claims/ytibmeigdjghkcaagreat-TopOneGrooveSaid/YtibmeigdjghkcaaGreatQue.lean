/- A list of numbers that is appended to at its end and cut at its beginning; marks of loops over functions. -/
import Derived.Test.YtibmeigdjghkcaaGreatIterM
import Derived.Sort.CutIn
namespace Go.Proofs.YtibmeigdjghkcaaGreat
open Go.RowKit Go.Shelf
set_option linter.unusedVariables false
theorem intL_append (a b:List Nat):intL (a++b)=intL a++intL b:=by simp [intL]
theorem intL_at {l:List Nat} {k x:Nat} (h:l[k]? = some x):(intL l)[k]? = some (x:Int):=by simp [intL,h]
def QRow (w:World) (base:Nat) (v:Value) (xs:List Int):Prop :=
 (v = .slice none 0 0∧xs=[])∨∃ (g off cap:Nat) (cur:Array Value),v = .slice (some ⟨g,off,none⟩) xs.length cap∧base≤g∧Blk w g 3 cur∧xs.length≤cap∧cap≤9223372036854775807∧off+cap≤cur.size ∧
  ∀ j x,xs[j]? = some x→cur[off+j]? = some (.int .i64 x)
theorem QRow.kept {w w':World} {base:Nat} {v:Value} {xs:List Int} (h:QRow w base v xs) (hk:∀ g cs,v.ownBlock=some g→Blk w g 3 cs→Blk w' g 3 cs):QRow w' base v xs:=by
 rcases h with h | ⟨g,off,cap,cur,rfl,h2,h3,h4⟩
 ·exact .inl h
 ·exact .inr ⟨g,off,cap,cur,rfl,h2,hk g cur rfl h3,h4⟩
theorem QRow.grown {w w':World} {base:Nat} {v:Value} {xs:List Int} {row:Option Nat} (h:QRow w base v xs) (hg:w.grownBy w' row) (hr:∀ r,row=some r→v.ownBlock≠some r):QRow w' base v xs :=
 h.kept fun g cs hv hb=>hb.grown hg fun e=>hr g e.symm hv
theorem QRow.call {w w':World} {base:Nat} {v:Value} {xs:List Int} (h:QRow w base v xs) (hb:Below w.heap.size w w'):QRow w' base v xs:=h.kept fun g cs _ hg=>hg.call hb
theorem QRow.lt {w:World} {base:Nat} {v:Value} {xs:List Int} (h:QRow w base v xs) {g:Nat} (hg:v.ownBlock=some g):base≤g∧g < w.heap.size:=by
 rcases h with ⟨rfl, -⟩ | ⟨g',off,cap,cur,rfl,h2,h3, -⟩
 ·simp [Value.ownBlock] at hg
 ·simp only [Value.ownBlock,Option.some.injEq] at hg
  subst hg
  exact ⟨h2,h3.lt⟩
theorem QRow.cells {w:World} {base:Nat} {v:Value} {xs:List Int} (h:QRow w base v xs) {g:Nat} (hg:v.ownBlock=some g):∃ cs,Blk w g 3 cs:=by
 rcases h with ⟨rfl, -⟩ | ⟨g',off,cap,cur,rfl,h2,h3, -⟩
 ·simp [Value.ownBlock] at hg
 ·simp only [Value.ownBlock,Option.some.injEq] at hg
  subst hg
  exact ⟨cur,h3⟩
theorem QRow.form {w:World} {base:Nat} {v:Value} {xs:List Int} (h:QRow w base v xs):∃ A cap,v = .slice A xs.length cap∧xs.length≤cap∧cap≤9223372036854775807:=by
 rcases h with ⟨rfl,rfl⟩ | ⟨g',off,cap,cur,rfl,h2,h3,h4,h5, -⟩
 ·exact ⟨none,0,rfl,by simp,by omega⟩
 ·exact ⟨_,cap,rfl,h4,h5⟩
theorem QRow.head {w:World} {base:Nat} {v:Value} {x:Int} {xs:List Int} (h:QRow w base v (x::xs)):∃ g off cap,v = .slice (some ⟨g,off,none⟩) (xs.length+1) cap∧xs.length+1≤cap∧cap≤9223372036854775807∧base≤g∧g < w.heap.size∧w.cell? ⟨g,off,none⟩=some (.int .i64 x) ∧
  QRow w base (.slice (if cap=1 then some ⟨g,off,none⟩ else some ⟨g,off+1,none⟩) xs.length (cap-1)) xs:=by
 rcases h with ⟨-,h⟩ | ⟨g,off,cap,cur,rfl,h2,h3,h4,h5,h6,h7⟩
 ·cases h
 ·rw [List.length_cons] at h4
  refine ⟨g,off,cap,rfl,h4,h5,h2,h3.lt,?_,?_⟩
  ·rw [h3.cell]; exact h7 0 x rfl
  by_cases hc:cap=1
  ·rw [if_pos hc]
   exact .inr ⟨g,off,cap-1,cur,rfl,h2,h3,by omega,by omega,by omega,fun j y hy=>by
    have:=(List.getElem?_eq_some_iff.1 hy).1
    omega⟩
  ·rw [if_neg hc]
   refine .inr ⟨g,off+1,cap-1,cur,rfl,h2,h3,by omega,by omega,by omega,fun j y hy=>?_⟩
   rw [Nat.add_assoc,Nat.add_comm 1 j]; exact h7 (j+1) y (by simpa using hy)
theorem QRow.of_own {w:World} {base base':Nat} {v:Value} {xs:List Int} (h:w.ownsRow base 3 1 v xs.length (xs.map (Value.int .i64))) (hb:base'≤base):QRow w base' v xs:=by
 obtain ⟨h1,h2⟩:=h
 rcases h2 with ⟨rfl,h3⟩ | ⟨g,cap,cur,rfl,hg,hh,hc,hm,hs,ht⟩
 ·exact .inl ⟨rfl,List.length_eq_zero_iff.1 h3⟩
 ·refine .inr ⟨g,0,cap,cur,rfl,by omega,hh,hc,by simpa only [maxLen] using hm,by omega,fun j x hx=>?_⟩
  have hj:=(List.getElem?_eq_some_iff.1 hx).1
  have h4:(xs.map (Value.int .i64))[j]? = some (.int .i64 x):=by rw [List.getElem?_map,hx]; rfl
  rw [← ht,List.getElem?_take] at h4
  split at h4
  ·rw [Nat.zero_add]; simpa using h4
  ·cases h4
theorem cells_of_Q {w:World} {g off:Nat} {cur:Array Value} {xs:List Int} (hb:Blk w g 3 cur) (h:∀ j x,xs[j]? = some x→cur[off+j]? = some (.int .i64 x)) :
  ∀ j u,(xs.map (Value.int .i64))[j]? = some u→w.cell? ⟨g,off+j,none⟩=some u:=by
 intro j u hu
 rw [List.getElem?_map,Option.map_eq_some_iff] at hu
 obtain ⟨x,hx,rfl⟩:=hu
 rw [hb.cell]
 exact h j x hx
theorem run_appQ {W:World} {ty:TypeId} {base c:Nat} {sv:Value} {xs:List Int} {y:Int} (hq:QRow W base sv xs) (hbase:base≤W.heap.size) (h63:xs.length+1≤1048576) :
  ∃ v' w',(Builtin.append_ #[30,30] ty #[sv,.slice (some ⟨W.heap.size,0,none⟩) 1 c]).run Tryz.prog (W.alloc (.cells #[.int .i64 y] 3)) = .ok v' w'∧QRow w' base v' (xs++[y])∧W.grownBy w' sv.ownBlock∧(∀ b,v'.ownBlock=some b→sv.ownBlock=some b∨W.heap.size≤b):=by
 obtain ⟨hT1,hT2,hT3,hT4⟩:=slT_int
 obtain ⟨i0,hi,hz0,hz1,hz2⟩:=info_parts hT2
 have hcell:∀ j u,[Value.int .i64 y][j]? = some u→(W.alloc (.cells #[.int .i64 y] 3)).cell? ((⟨W.heap.size,0,none⟩:Addr).add j)=some u:=cell_one_new _ _ _
 have hz:W.heap.size≤(W.alloc (.cells #[.int .i64 y] 3)).heap.size:=by simp
 have h1c:∀ u∈[Value.int .i64 y],u.oneCell'=true:=by simp [Value.oneCell']
 rcases hq with ⟨rfl,rfl⟩ | ⟨g,off,cap,cur,rfl,h2,h3,h4,h5,h6,h7⟩
 ·obtain ⟨v',w',k1,k2,k3, -,k4⟩:=run_append_own_at (P:=Tryz.prog) (W.alloc (.cells #[.int .i64 y] 3)) base 30 ty 3 i0 (.int .i64 0) 1 8 hT1 hi hz0 hz1 hz2 hT3 hT4 (.slice none 0 0) 0 [] (World.ownsRow_nil _ _ _ _) ⟨W.heap.size,0,none⟩ 1 c [.int .i64 y] rfl hcell h1c (by simp only [maxLen]; omega) (by omega) (by omega)
  refine ⟨v',w',k1,QRow.of_own (by simpa using k2) (Nat.le_refl _),?_,fun b hb=>?_⟩
  ·exact grown_trans' (World.grownBy_alloc _ _ _) k3
  ·rcases k4 with k4 | k4
   ·rw [k4] at hb; simp [Value.ownBlock] at hb
   ·rw [k4] at hb; injection hb with hb; exact .inr (by omega)
 ·have h3':=h3.alloc (.cells #[.int .i64 y] 3)
  have hglt:=h3.lt
  have hlen:(xs++[y]).length=xs.length+1:=by simp
  by_cases hr:xs.length+1≤cap
  ·have hrun:=run_append_room_cells (P:=Tryz.prog) (W.alloc (.cells #[.int .i64 y] 3)) 30 ty 3 i0 hT1 hi g off xs.length cap ⟨W.heap.size,0,none⟩ 1 c [.int .i64 y] (by rw [hz1]; rfl) hcell h1c hr
    (fun j hj=>by
     obtain rfl:j=0:=by simpa using hj
     rw [h3'.cell,hz1,Array.getElem?_eq_getElem (by omega)]
     rfl) (fun j hj=>h3'.frozen _)
   rw [hz1] at hrun
   have hset:=h3'.set_ (off+xs.length * 1) (.int .i64 y)
   have hg1:W.grownBy ((W.alloc (.cells #[.int .i64 y] 3)).setCells g (off+xs.length * 1) [.int .i64 y]) (some g) :=
    grown_trans' (World.grownBy_alloc _ _ _) (grown_setCells _ _ _)
   refine ⟨_,_,hrun,.inr ⟨g,off,cap,_,by rw [hlen],h2,hset,by rw [hlen]; exact hr,h5,by simp; omega,fun j z hz=>?_⟩,hg1,(fun b hb => .inl hb)⟩
   rw [Array.getElem?_setIfInBounds]
   have hj:=(List.getElem?_eq_some_iff.1 hz).1
   rw [hlen] at hj
   by_cases e:j=xs.length
   ·subst e
    rw [if_pos (by omega),if_pos (by omega)]
    rw [List.getElem?_append_right (Nat.le_refl _)] at hz
    simp at hz
    rw [hz]
   ·rw [if_neg (by omega)]
    rw [List.getElem?_append_left (by omega)] at hz
    exact h7 j z hz
  ·obtain ⟨v',w',hrun,k1,k2⟩:=run_append_arg_grows (P:=Tryz.prog) (W.alloc (.cells #[.int .i64 y] 3)) 30 ty 3 i0 (.int .i64 0) 1 8 hT1 hi hz0 hz1 hz2 hT3 hT4 ⟨g,off,none⟩ xs.length cap (xs.map (Value.int .i64)) (by simp)
    (fun j u hj=>by rw [Addr.add_lit]; exact cells_of_Q h3' h7 j u hj) ⟨W.heap.size,0,none⟩ 1 c [.int .i64 y] rfl hcell (by omega) (by simp only [maxLen]; omega) (by omega)
   refine ⟨v',w',hrun,QRow.of_own (by simpa using k1) (by omega),?_,fun b hb => .inr (by have:=(k1.lt b hb).1; omega)⟩
   exact grown_trans' (World.grownBy_alloc _ _ _) ⟨k2.os,k2.tape,k2.output,k2.size,fun k hk _=>k2.block k hk (by simp)⟩
theorem wpList_appQ {W:World} {ops:Array Oper} {rest:List Oper} {o:Oper} {a:Act} {Q:Exit→Act→World→Prop} (hgd:o.guard=none) (s x:Operand)
  (ho:o.op = .call { callee := .builtin .append,args:=#[s,x],argTypes:=#[30,30] })
  {base c:Nat} {sv:Value} {xs:List Int} {y:Int} (hs:a.eval s=sv) (hq:QRow W base sv xs) (hx:a.eval x = .slice (some ⟨W.heap.size,0,none⟩) 1 c) (hbase:base≤W.heap.size) (h63:xs.length+1≤1048576)
  (h:∀ v' w',QRow w' base v' (xs++[y])→W.grownBy w' sv.ownBlock→(∀ b,v'.ownBlock=some b→sv.ownBlock=some b∨W.heap.size≤b)→wpList Tryz.prog ops Q rest (a.put o.dst v') w') :
  wpList Tryz.prog ops Q (o::rest) a (W.alloc (.cells #[.int .i64 y] 3)):=by
 obtain ⟨v',w',hr,h2,h3,h4⟩:=run_appQ (ty:=o.type) (c:=c) (y:=y) hq hbase h63
 refine wpList_plain hgd fun _ hK=>?_
 unfold Oper.wp execOp
 simp only [ho,resolve,invoke,builtin,Sem.run_bind,Sem.run_pure,Result.andThen_ok,List.map_toArray,List.map_cons,List.map_nil,hs,hx,hr]
 exact hK _ _ (h v' w' h2 h3 h4)
theorem wpListIn_of {P:Program} {ops:Array Oper} {Q:Exit→Act→World→Prop} {l n:Nat}:∀ {rest:List Oper} {a:Act} {w:World},(rest.all fun o=>match o.op with | .defer _=>false | _=>true)=true→wpList P ops (NoP Q) rest a w→wpListIn (Fence.wide.inRound l) n P ops (NoP Q) rest a w
 | [],a,w,_,h=>h
 | o::rest,a,w,hd,h=>by
   rw [List.all_cons,Bool.and_eq_true] at hd
   have hdo:∀ c,o.op ≠ .defer c:=by
    intro c hc
    have:=hd.1
    rw [hc] at this
    cases this
   unfold wpList at h
   unfold wpListIn
   split at h
   ·rename_i hw
    rw [if_pos hw]
    rcases h with h | ⟨_,a',w',h2⟩
    ·exact wpIn_of_wp hdo (Oper.wp_mono (fun a' w' hh=>wpListIn_of hd.2 hh) h)
    ·exact h2.elim
   ·rename_i hw
    rw [if_neg hw]
    exact ⟨fun _ _=>trivial,wpListIn_of hd.2 h⟩
theorem wpIn_region_plain {P:Program} {id l n:Nat} {Q:Exit→Act→World→Prop} {a:Act} {w:World} {ops:List Oper} (hd:(ops.all fun o=>match o.op with | .defer _=>false | _=>true)=true) (h:wpList P ops.toArray (NoP Q) ops a w) :
  (Code.region id ops.toArray false).wpIn (Fence.wide.inRound l) n P Q a w :=
 wpIn_mono (wpIn_region_lit (wpListIn_of hd h)) NoP_imp
theorem NoP_norm {Q:Exit→Act→World→Prop} {a:Act} {w:World} (h:Q .normal a w):NoP Q .normal a w:=h
def Marks (B T:Nat) (W:World):List Deferred→Prop
 | []=>True
 | d::r=>(∃ D,d={ target := .collected D,args:=#[] }∧B≤D∧D < T∧W.heap[D]? = some (.deferred (some []))∧∀ D',{ target := .collected D',args:=#[] }∈r→D'≠D)∧Marks B T W r
theorem Marks.keep {B T T':Nat} {W W':World} (hT:T≤T') (hk:∀ D,B≤D→D < T→W.heap[D]? = some (.deferred (some []))→W'.heap[D]? = some (.deferred (some []))):∀ {ds:List Deferred},Marks B T W ds→Marks B T' W' ds
 | [],_=>trivial
 | d::r,⟨⟨D,h1,h2,h6,h3,h4⟩,h5⟩=>⟨⟨D,h1,h2,by omega,hk D h2 h6 h3,h4⟩,h5.keep hT hk⟩
theorem Marks.lt {B T:Nat} {W:World}:∀ {ds:List Deferred},Marks B T W ds→∀ D,{ target := .collected D,args:=#[] }∈ds→D < T
 | [],_,D,h=>by cases h
 | d::r,⟨⟨D,h1,h2,h6,h3,h4⟩,h5⟩,D',h=>by
   rcases List.mem_cons.1 h with h | h
   ·subst h1
    injection h with h
    injection h with h
    rw [h]; exact h6
   ·exact h5.lt D' h
theorem Marks.cons {B T T' D:Nat} {W:World} {ds:List Deferred} (h:Marks B T W ds) (hB:B≤D) (hT:T≤D) (hT':D < T') (hD:W.heap[D]? = some (.deferred (some []))):Marks B T' W ({ target := .collected D,args:=#[] }::ds) :=
 ⟨⟨D,rfl,hB,hT',hD,fun D' hD'=>by have:=h.lt D' hD'; omega⟩,h.keep (by omega) fun _ _ _ h=>h⟩
theorem Marks.other {B T D:Nat} {W:World} (o:Obj):∀ {ds:List Deferred},Marks B T W ds→(∀ D',{ target := .collected D',args:=#[] }∈ds→D'≠D)→Marks B T (W.putObj D o) ds
 | [],_,_=>trivial
 | d::r,⟨⟨D1,h1,h2,h6,h3,h4⟩,h5⟩,hn=>⟨⟨D1,h1,h2,h6,(World.putObj_heap_other (by have:=hn D1 (by rw [h1]; exact List.mem_cons_self); omega)).trans h3,h4⟩,h5.other o fun D' hD'=>hn D' (List.mem_cons_of_mem _ hD')⟩
theorem Marks.grown {B T:Nat} {W W':World} {ds:List Deferred} {row:Option Nat} (h:Marks B T W ds) (hg:W.grownBy W' row) (hr:∀ r,row=some r→T≤r∨r < B∨∃ cs t f,W.heap[r]? = some (.cells cs t f)):Marks B T W' ds :=
 h.keep (Nat.le_refl _) fun D h1 h2 h3=>(hg.block D (heap_lt h3) (fun e=>by
  rcases hr D e.symm with q | q | ⟨cs,t,f,q⟩
  ·omega
  ·omega
  ·rw [h3] at q; cases q)).trans h3
theorem Marks.call {B T:Nat} {W W':World} {ds:List Deferred} (h:Marks B T W ds) (hb:Below W.heap.size W W'):Marks B T W' ds:=h.grown (grown_call hb none) fun r e=>by cases e
theorem Marks.leave {B T n:Nat} {P:Program} {fn:Func} {tmps:Array Value} {R:Ending→World→Prop} (I:World→Prop) (hI:∀ W D,B≤D→W.heap[D]? = some (.deferred (some []))→I W→I (W.putObj D (.deferred none)))
  (hR:∀ W,I W→LeavesInM Fence.wide n P fn tmps R [] .returning W):∀ (ds:List Deferred) (W:World),Marks B T W ds→I W→LeavesInM Fence.wide n P fn tmps R ds .returning W
 | [],W,_,h=>hR W h
 | d::r,W,⟨⟨D,h1,h2,h6,h3,h4⟩,h5⟩,h=>by
   subst h1
   exact ⟨by simp,.inl ⟨D,_,rfl,run_takeDeferred h3,Marks.leave I hI hR r _ (h5.other _ h4) (hI W D h2 h3 h)⟩⟩
end Go.Proofs.YtibmeigdjghkcaaGreat
