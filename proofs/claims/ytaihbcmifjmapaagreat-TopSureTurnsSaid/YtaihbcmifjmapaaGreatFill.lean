/- fill: its parts. -/
import Derived.Test.YtaihbcmifjmapaaGreatPD
import Derived.Test.YtaihbcmifjmapaaGreatPT
namespace Go.Proofs.YtaihbcmifjmapaaGreat
open Go.RowKit Go.Shelf
set_option linter.unusedVariables false
theorem slT_ends:SlT 103 107 1 24 (.slice none 0 0):=⟨Tryz.underlying103,by kernel_rfl,rfl,by omega⟩
theorem slT_cho:SlT 107 110 3 24 (.agg #[.int .i64 0,.int .i64 0,.int .i64 0]):=⟨Tryz.underlying107,by kernel_rfl,rfl,by omega⟩
theorem keyState:KeyII 114 where
 und:=⟨_,Tryz.underlying114⟩
 eq:=by
  intro a b c d w
  show (Op.equalIn (9999+1) 114 _ _).run _ _=_
  rw [run_equalIn_struct w 9999 114 _ _ (by kernel_rfl) (by kernel_rfl)]
  cases h:(a==c)
  ·simp [Op.eqFields,go_sem,h]
  ·cases h2:(b==d) <;> simp [Op.eqFields,go_sem,h,h2]
 ck:=fun e a b w=>by kernel_rfl
def AxOf (tm:Array Value) (base T:Nat) (x:VStr T) (a':Act) (W:World):Prop :=
 ∃ Bx,base≤Bx∧Blk W Bx 89 #[.int .i64 x.1.a,.int .i64 x.1.b]∧a'={ tmps:=(tm.setIfInBounds 36 (.agg #[.int .i64 x.1.a,.int .i64 x.1.b])).setIfInBounds 6 (.pointer (some ⟨Bx,0,none⟩)),defers:=[] }
structure FillInv (w0:World) (B g gm ge T:Nat) (c:Cyl) (fa:Option Addr) (fc:Nat) (pa:Option Addr) (pc:Nat) (V:Nat→Nat→Int) (M:Int→Int→Option Value) (E:Nat→List Cho) (fn:FuncId) (fs cs:Array Value) (W:World):Prop where
 bd:Board W B g c fa fc pa pc V (.map (some gm))
 en:EndsAt W ge (ge+3) (T+1) E
 mp:MapOf W gm M
 x1:Blk W w0.heap.size 48 #[.pointer (some ⟨g,0,none⟩)]
 x2:Blk W (w0.heap.size+1) 51 #[.func (.func fn) fs cs]
 xb:Blk W (ge+1) 103 #[.slice (some ⟨ge,0,none⟩) (T+1) (T+1)]
 xc:Blk W (ge+2) 48 #[.pointer (some ⟨g,0,none⟩)]
 gr:w0.grownBy W (some g)
 l1:g < w0.heap.size
 l2:w0.heap.size+2≤gm
 l3:gm < ge
theorem FillInv.sz {w0 W:World} {B g gm ge T:Nat} {c:Cyl} {fa pa:Option Addr} {fc pc:Nat} {V:Nat→Nat→Int} {M:Int→Int→Option Value} {E:Nat→List Cho} {fn:FuncId} {fs cs:Array Value} (h:FillInv w0 B g gm ge T c fa fc pa pc V M E fn fs cs W):ge+2 < W.heap.size:=h.xc.lt
theorem FillInv.grown {w0 W W':World} {B g gm ge T:Nat} {c:Cyl} {fa pa:Option Addr} {fc pc:Nat} {V:Nat→Nat→Int} {M:Int→Int→Option Value} {E:Nat→List Cho} {fn:FuncId} {fs cs:Array Value} (h:FillInv w0 B g gm ge T c fa fc pa pc V M E fn fs cs W) {row:Option Nat} (hg:W.grownBy W' row) (hr:∀ r,row=some r→ge+3≤r∧∃ o:Obj,W.heap[r]? = some o∧o.isCells=false):FillInv w0 B g gm ge T c fa fc pa pc V M E fn fs cs W':=by
 have e1:=h.l1
 have e2:=h.l2
 have e3:=h.l3
 have e4:=h.sz
 have key:∀ k,k < ge+3→W'.heap[k]? = W.heap[k]? := fun k hk=>hg.block k (by omega) (fun e=>by have:=(hr k e.symm).1; omega)
 refine ⟨h.bd.same fun k hk=>key k (by omega),h.en.grown hg (fun e=>by have:=(hr _ e.symm).1; omega) (fun r e => .inr (hr r e).2),h.mp.heap (key _ (by omega)),(key _ (by omega)).trans h.x1,(key _ (by omega)).trans h.x2,(key _ (by omega)).trans h.xb,(key _ (by omega)).trans h.xc,
  ⟨hg.os.trans h.gr.os,hg.tape.trans h.gr.tape,hg.output.trans h.gr.output,Nat.le_trans h.gr.size hg.size,fun k hk hne=>(hg.block k (Nat.lt_of_lt_of_le hk h.gr.size) (fun e=>by have:=(hr k e.symm).1; omega)).trans (h.gr.block k hk hne)⟩,e1,e2,e3⟩
theorem FillInv.call {w0 W W':World} {B g gm ge T:Nat} {c:Cyl} {fa pa:Option Addr} {fc pc:Nat} {V:Nat→Nat→Int} {M:Int→Int→Option Value} {E:Nat→List Cho} {fn:FuncId} {fs cs:Array Value} (h:FillInv w0 B g gm ge T c fa fc pa pc V M E fn fs cs W) (hb:Below W.heap.size W W'):FillInv w0 B g gm ge T c fa fc pa pc V M E fn fs cs W' :=
 h.grown (grown_call hb none) (fun r e=>by cases e)
theorem FillInv.put {w0 W W':World} {B g gm ge T:Nat} {c:Cyl} {fa pa:Option Addr} {fc pc:Nat} {V V':Nat→Nat→Int} {M:Int→Int→Option Value} {E:Nat→List Cho} {fn:FuncId} {fs cs:Array Value} (h:FillInv w0 B g gm ge T c fa fc pa pc V M E fn fs cs W) (hg:W.grownBy W' (some g)) (hb:Board W' B g c fa fc pa pc V' (.map (some gm))):FillInv w0 B g gm ge T c fa fc pa pc V' M E fn fs cs W':=by
 have e1:=h.l1
 have e2:=h.l2
 have e3:=h.l3
 have e4:=h.sz
 have key:∀ k,k < W.heap.size→k≠g→W'.heap[k]? = W.heap[k]? := fun k hk hne=>hg.block k hk (fun e=>hne (by injection e))
 exact ⟨hb,h.en.grown hg (fun e=>by injection e with e; omega) (fun r e => .inl (by injection e with e; omega)),h.mp.heap (key _ (by omega) (by omega)),(key _ (by omega) (by omega)).trans h.x1,(key _ (by omega) (by omega)).trans h.x2,(key _ (by omega) (by omega)).trans h.xb,(key _ (by omega) (by omega)).trans h.xc,grown_trans' h.gr hg,e1,e2,e3⟩
theorem FillInv.upd {w0 W W':World} {B g gm ge T:Nat} {c:Cyl} {fa pa:Option Addr} {fc pc:Nat} {V:Nat→Nat→Int} {M M':Int→Int→Option Value} {E:Nat→List Cho} {fn:FuncId} {fs cs:Array Value} (h:FillInv w0 B g gm ge T c fa fc pa pc V M E fn fs cs W) (hg:W.grownBy W' (some gm)) (hm:MapOf W' gm M'):FillInv w0 B g gm ge T c fa fc pa pc V M' E fn fs cs W':=by
 have e1:=h.l1
 have e2:=h.l2
 have e3:=h.l3
 have e4:=h.sz
 have key:∀ k,k < W.heap.size→k≠gm→W'.heap[k]? = W.heap[k]? := fun k hk hne=>hg.block k hk (fun e=>hne (by injection e))
 refine ⟨h.bd.same fun k hk=>key k (by omega) (by omega),h.en.grown hg (fun e=>by injection e with e; omega) (fun r e => .inl (by injection e with e; omega)),hm,(key _ (by omega) (by omega)).trans h.x1,(key _ (by omega) (by omega)).trans h.x2,(key _ (by omega) (by omega)).trans h.xb,(key _ (by omega) (by omega)).trans h.xc,?_,e1,e2,e3⟩
 have hr:=h.gr
 exact ⟨hg.os.trans hr.os,hg.tape.trans hr.tape,hg.output.trans hr.output,Nat.le_trans hr.size hg.size,fun k hk hne=>(key k (by have:=hr.size; omega) (by omega)).trans (hr.block k hk hne)⟩
theorem FillInv.congr {w0 W:World} {B g gm ge T:Nat} {c:Cyl} {fa pa:Option Addr} {fc pc:Nat} {V V':Nat→Nat→Int} {M M':Int→Int→Option Value} {E:Nat→List Cho} {fn:FuncId} {fs cs:Array Value} (h:FillInv w0 B g gm ge T c fa fc pa pc V M E fn fs cs W) (hV:∀ t k,V' t k=V t k) (hM:∀ a b,M' a b=M a b):FillInv w0 B g gm ge T c fa fc pa pc V' M' E fn fs cs W:=by
 have e1:V'=V:=funext fun t=>funext fun k=>hV t k
 have e2:M'=M:=funext fun t=>funext fun k=>hM t k
 rw [e1,e2]
 exact h
theorem grown_put {w:World} {g:Nat} (es:Array MapEntry) (cl:Nat):w.grownBy (putMap w g es cl) (some g):=by
 refine ⟨rfl,rfl,rfl,by simp [putMap],fun k hk hne=>?_⟩
 simp only [putMap]
 rw [Array.getElem?_setIfInBounds_ne (fun e=>hne (by rw [e]))]
theorem wrap_id (x:Int) (h1 : -9000000000000000000≤x) (h2:x≤9000000000000000000):IntKind.i64.wrap x=x:=by
 rw [IntKind.wrap_i64]
 omega
theorem FillInv.row7 {w0 W:World} {B g gm ge T:Nat} {c:Cyl} {fa pa:Option Addr} {fc pc:Nat} {V V':Nat→Nat→Int} {M:Int→Int→Option Value} {E:Nat→List Cho} {fn:FuncId} {fs cs:Array Value} (h:FillInv w0 B g gm ge T c fa fc pa pc V M E fn fs cs W) {t:Nat} (ht:t < 31) (r:Nat→Int) (hV:∀ t' k',t' < 31→k' < 7→V' t' k'=if t'=t then r k' else V t' k') :
  W.grownBy (((((((W.setCell ⟨g,5+t * 7,none⟩ (.int .i64 (r 0))).setCell ⟨g,5+t * 7+1,none⟩ (.int .i64 (r 1))).setCell ⟨g,5+t * 7+2,none⟩ (.int .i64 (r 2))).setCell ⟨g,5+t * 7+3,none⟩ (.int .i64 (r 3))).setCell ⟨g,5+t * 7+4,none⟩ (.int .i64 (r 4))).setCell ⟨g,5+t * 7+5,none⟩ (.int .i64 (r 5))).setCell ⟨g,5+t * 7+6,none⟩ (.int .i64 (r 6))) (some g)∧FillInv w0 B g gm ge T c fa fc pa pc V' M E fn fs cs (((((((W.setCell ⟨g,5+t * 7,none⟩ (.int .i64 (r 0))).setCell ⟨g,5+t * 7+1,none⟩ (.int .i64 (r 1))).setCell ⟨g,5+t * 7+2,none⟩ (.int .i64 (r 2))).setCell ⟨g,5+t * 7+3,none⟩ (.int .i64 (r 3))).setCell ⟨g,5+t * 7+4,none⟩ (.int .i64 (r 4))).setCell ⟨g,5+t * 7+5,none⟩ (.int .i64 (r 5))).setCell ⟨g,5+t * 7+6,none⟩ (.int .i64 (r 6))):=by
 have hb:=Board.setCells_ ht r 7 0 _ _ (by omega) h.bd
 have hg:=grown_setCells (g:=g) ((List.range' 0 7).map fun k=>Value.int .i64 (r k)) (5+t * 7+0) W
 refine ⟨hg,h.put hg (hb.congr fun t' k' h1 h2=>?_)⟩
 rw [hV t' k' h1 h2]
 by_cases h3:t'=t
 ·rw [if_pos h3,if_pos ⟨h3,by omega,by omega⟩]
 ·rw [if_neg h3,if_neg (by omega)]
theorem own_lit (w:World) (vals:Array Value) (e size:Nat) (hs:vals.size=size):(w.alloc (.cells vals e)).ownsRow w.heap.size e size (.slice (some ⟨w.heap.size,0,none⟩) 1 1) 1 vals.toList:=by
 subst hs
 exact ⟨by simp,.inr ⟨_,1,vals,rfl,Nat.le_refl _,Blk.new _ _ _,by omega,by decide,by simp,by rw [Nat.one_mul]; exact List.take_of_length_le (by simp)⟩⟩
def strV (s:Str):Value := .agg #[.int .i64 s.a,.int .i64 s.b]
attribute [local go_sem] Oper.semAt_some
set_option maxRecDepth 100000 in
set_option maxHeartbeats 1600000 in
theorem fill_ok (T K:Nat) (B g:Nat) (c:Cyl) (hT:c.turns=T) (hT2:T≤30) (hL:c.long≤30) (hK:c.plays=K) (hK2:K≤6) (V:Nat→Nat→Int) (m:Value) (w:World) (h:BoardAt w B g c V m) (fn:FuncId) (fs cs:Array Value) (ws:Nat→Int) (hg:Gives w B g c fn fs cs c.pas.length ws)
  (hws:∀ i, -100000≤ws i∧ws i≤100000) (hlen:c.pas.length≤12) :
  Calls Tryz.prog 16 #[.pointer (some ⟨g,0,none⟩),.func (.func fn) fs cs] w fun r w'=>r = .returned (.tuple #[])∧∃ gm,w.heap.size≤gm∧BoardAt w' B g c (tabN (endsOf ws c.pas (allStr c T)) K T) (.map (some gm))∧MapOf w' gm (fun a b=>(byN (endsOf ws c.pas (allStr c T)) K T 1 a b).map strV)∧w.grownBy w' (some g):=by
 obtain ⟨E,hE0⟩:∃ E,E=endsOf ws c.pas (allStr c T):=⟨_,rfl⟩
 rw [← hE0]
 obtain ⟨fa,fc,pa,pc,h⟩:=h
 have hmm:=@run_makeMap Tryz.prog
 refine (callsIn_wide (n:=8)).1 ?_
 refine callsIn_of_wp_marks Tryz.func16 rfl trivial ?_ rfl
 simp only [Tryz.ntmps16,List.size_toArray,List.length_cons,List.length_nil,Nat.reduceAdd,Nat.reduceSub,Array.replicate_succ,Array.replicate_zero,List.push_toArray,List.append_toArray,List.nil_append,List.cons_append]
 refine wpIn_wide.2 ?_
 go_upto_region 1 with (fail)
 have hx1:=(Blk.new w 48 #[.pointer (some ⟨g,0,none⟩)]).alloc (.cells #[.func (.func fn) fs cs] 51)
 have hx2:=Blk.new (w.alloc (.cells #[.pointer (some ⟨g,0,none⟩)] 48)) 51 #[.func (.func fn) fs cs]
 have hB:=((Below.refl w.heap.size w).alloc (Nat.le_refl _) (.cells #[.pointer (some ⟨g,0,none⟩)] 48)).alloc (by simp) (.cells #[.func (.func fn) fs cs] 51)
 have hb:=(h.alloc (.cells #[.pointer (some ⟨g,0,none⟩)] 48)).alloc (.cells #[.func (.func fn) fs cs] 51)
 have hgw:=h.blk.lt
 rw [show (w.alloc (.cells #[.pointer (some ⟨g,0,none⟩)] 48)).heap.size=w.heap.size+1 by simp] at hx2
 generalize hW:(w.alloc (.cells #[.pointer (some ⟨g,0,none⟩)] 48)).alloc (.cells #[.func (.func fn) fs cs] 51)=W at *
 clear hW h
 have hgr0:w.grownBy W (some g):=⟨hB.os,hB.tape,hB.output,hB.size,fun k hk _=>hB.block k hk⟩
 go_wp2
 go_loopw [4,13] (fun x i wr=>∃ (k:Nat) (V':Nat→Nat→Int),k≤31∧i = .int .i64 k∧Board wr B g c fa fc pa pc V' m∧(∀ t j,t < k→j < 7→V' t j=0)∧W.grownBy wr (some g)) (fun _ i _=>31-(intOf i).toNat)
 case atStart=>exact ⟨0,V,by omega,rfl,hb,fun t j ht=>absurd ht (by omega),World.grownBy.refl _ _⟩
 case round =>
  obtain ⟨k,V',hk,rfl,hb,hz,hgr⟩:=hrel
  have hy1:=hx1.grown hgr (by simp; omega)
  have hy2:=hx2.grown hgr (by simp; omega)
  have b0:=hy1.cell 0
  have b1:=hy2.cell 0
  simp at b0 b1
  by_cases hlt:k < 31
  ·have a1:(k:Int) < 31:=by omega
   have hcl:=fun ty=>run_clear7 g (5+k * 7) 7 wr ty (fun j hj=>by rw [hb.at_ hlt hj]; rfl) (fun j=>hb.frozen j)
   have hbn:=Board.setCells_ hlt (fun _=>0) 7 0 wr V' (by omega) hb
   have hgn:=grown_trans' hgr (grown_setCells (g:=g) ((List.range' 0 7).map fun _=>Value.int .i64 0) (5+k * 7) wr)
   have HZ:=Lib.hid hz
   clear hz
   rw [Nat.add_zero] at hbn
   go_wp2
   go_roundw
   case rel =>
    refine ⟨k+1,_,by omega,by go_num,hbn,fun t j ht hj=>?_,hgn⟩
    by_cases h:t=k
    ·rw [if_pos ⟨h,by omega,by omega⟩]
    ·rw [if_neg (by omega)]; exact HZ.out t j (by omega) hj
   case measure=>simp [intOf]; omega
  ·obtain rfl:k=31:=by omega
   have hbz:=hb.congr (V':=fun _ _=>0) (fun t j ht hj=>(hz t j ht hj).symm)
   clear hz hb
   have hlt0:=hbz.blk.lt
   have c1:=hbz.mp
   have c2:=hbz.frozen 222
   have hbm:=(hbz.setm (.map (some wr.heap.size))).alloc (.map #[] 0)
   have hmo:=MapOf.new (wr.setCell ⟨g,222,none⟩ (.map (some wr.heap.size)))
   rw [show (wr.setCell ⟨g,222,none⟩ (.map (some wr.heap.size))).heap.size=wr.heap.size by simp [World.setCell]] at hmo
   have hgm:=grown_trans' (grown_trans' hgr (grown_setCell (g:=g) (o:=222) (.map (some wr.heap.size)))) (World.grownBy_alloc (wr.setCell ⟨g,222,none⟩ (.map (some wr.heap.size))) (.map #[] 0) (some g))
   have hy1m:=hx1.grown hgm (by simp; omega)
   have hy2m:=hx2.grown hgm (by simp; omega)
   have hq1:w.heap.size+2≤wr.heap.size:=by have:=hy2.lt; omega
   go_upto_region 7 with (fail)
   generalize hW2:(wr.setCell ⟨g,222,none⟩ (.map (some wr.heap.size))).alloc (.map #[] 0)=W2 at *
   have hq2:wr.heap.size < W2.heap.size:=hmo.lt
   generalize hgmn:wr.heap.size=gm at *
   clear hW2 hgmn c1 c2 hy1 hy2 b0 b1 hbz hgr hlt0
   have b0:=hy1m.cell 0
   have b1:=hy2m.cell 0
   simp at b0 b1
   obtain ⟨k0,k1,k2,k3,k4⟩:=hbm.c5
   rw [hT] at k0
   have hq3:w.heap.size < W2.heap.size:=by omega
   have hq4:w.heap.size+1 < W2.heap.size:=by omega
   have hq5:g < W2.heap.size:=by omega
   have hmk:=run_mk slT_ends (T+1) (by omega) (by omega)
   rw [show ((T+1:Nat):Int)=(T:Int)+1 by omega] at hmk
   go_wp2_with fail
   refine (stretches_ok g _).mono ?_
   rintro e w' ⟨rfl,rfl⟩
   have he0:=EndsAt.made W2 (T+1) (W2.heap.size+3)
   have hmc:madeCells (Value.slice none 0 0).cells ((T+1) * 1)=madeCells #[Value.slice none 0 0] (T+1):=by rw [Nat.mul_one]; rfl
   rw [hmc] at he0
   generalize hWa:W2.alloc (.cells (madeCells #[Value.slice none 0 0] (T+1)) 107)=Wa at *
   have hsa:Wa.heap.size=W2.heap.size+1:=by rw [← hWa]; simp
   have hga:W2.grownBy Wa (some g):=by rw [← hWa]; exact World.grownBy_alloc _ _ _
   have hba:Below W2.heap.size W2 Wa:=by rw [← hWa]; exact (Below.refl _ _).alloc (Nat.le_refl _) _
   have hxb:=Blk.new Wa 103 #[.slice (some ⟨W2.heap.size,0,none⟩) (T+1) (T+1)]
   have hbb:=hba.alloc (by omega) (.cells #[.slice (some ⟨W2.heap.size,0,none⟩) (T+1) (T+1)] 103)
   generalize hWb:Wa.alloc (.cells #[.slice (some ⟨W2.heap.size,0,none⟩) (T+1) (T+1)] 103)=Wb at *
   have hsb:Wb.heap.size=W2.heap.size+2:=by rw [← hWb]; simp [hsa]
   have he1:EndsAt Wb W2.heap.size (W2.heap.size+3) (T+1) fun _=>[]:=by rw [← hWb]; exact he0.grown (World.grownBy_alloc _ _ none) (by simp) (fun r hr=>by cases hr)
   rw [hsa] at hxb
   have hxc:=Blk.new Wb 48 #[.pointer (some ⟨g,0,none⟩)]
   have hbc:=hbb.alloc (by omega) (.cells #[.pointer (some ⟨g,0,none⟩)] 48)
   have hxb2:=hxb.alloc (.cells #[.pointer (some ⟨g,0,none⟩)] 48)
   have he2:EndsAt (Wb.alloc (.cells #[.pointer (some ⟨g,0,none⟩)] 48)) W2.heap.size (W2.heap.size+3) (T+1) fun _=>[]:=he1.grown (World.grownBy_alloc _ _ none) (by simp) (fun r hr=>by cases hr)
   rw [hsb] at hxc
   rw [hsb]
   generalize hWc:Wb.alloc (.cells #[.pointer (some ⟨g,0,none⟩)] 48)=Wc at *
   have hsc:Wc.heap.size=W2.heap.size+3:=by rw [← hWc]; simp [hsb]
   have hbd:=hbm.call hbc
   have hm3:=hmo.heap (hbc.block gm hq2)
   have hz1:=hy1m.call hbc
   have hz2:=hy2m.call hbc
   have hgw3:w.grownBy Wc (some g):=grown_trans' (grown_trans' hgr0 hgm) (grown_call hbc (some g))
   clear hWa hWb hWc he0 hmc hga hba hxb hbb he1 hmk b0 b1 k0 k1 k2 k3 k4 hsa hsb hbm hmo hy1m hy2m hbc hgm
   go_wp2
   have hinv:FillInv w B g gm W2.heap.size T c fa fc pa pc (fun _ _=>0) (fun _ _=>none) (endsOf ws c.pas []) fn fs cs Wc :=
    ⟨hbd,he2,hm3,hz1,hz2,hxb2,hxc,hgw3,hgw,hq1,hq2⟩
   refine (wpIn_wide (n:=8)).1 ?_
   refine wpIn_rangeFunc_ownH (F:=Fence.wide) (n:=8) (a:=?aa) rfl (by omega) (gf:=127) (lb:=#[.pointer (some ⟨W2.heap.size+2,0,none⟩)]) ?hgg trivial (enters_of Tryz.func127 (by kernel_rfl) rfl)
    (stretches_stops 4 B g (W2.heap.size+2) c fa pa fc pc (fun _ _=>0) (.map (some gm)) T hT hT2 hL Wc hbd hxc) ?hKt ?hKb (Below.refl _ _) ?hps
    (fun pre W=>FillInv w B g gm W2.heap.size T c fa fc pa pc (fun _ _=>0) (fun _ _=>none) (endsOf ws c.pas (pre.map (·.1))) fn fs cs W) (fun _ _ _=>False) ?hI (fun _ _ _ _ _ hs _ _=>hs) hinv (AxOf (Act.tmps ?aa) (W2.heap.size+3) T) ?hAx ?assign ?body ?done ?stop
   case hKt=>exact fun h1 h2 k hk=>(h2 k hk).trans (h1 k hk)
   case hKb =>
    intro W l o o' hl ho _ _ k hk
    exact World.putObj_heap_other (by omega)
   case hgg=>rfl
   case hps=>exact fun _=>rfl
   case hI =>
    intro s W W' row hs hg hr
    exact hs.grown hg (fun r e=>by obtain ⟨h1,h2⟩:=hr r e; exact ⟨by omega,h2⟩)
   case hAx =>
    rintro x a' _ W W' row ⟨Bx,h1,h2,h3⟩ hg hr
    refine ⟨Bx,h1,h2.grown hg ?_,h3⟩
    intro e
    obtain ⟨_,o,ho,hc⟩:=hr Bx e.symm
    rw [h2] at ho
    injection ho with ho
    subst ho
    simp [Obj.isCells] at hc
   case assign =>
    intro l pre x W K hi hK
    have hx:=Blk.new W 89 #[.int .i64 x.1.a,.int .i64 x.1.b]
    have hk:=hK ({ tmps:=(_:Array Value),defers:=[] }) (W.alloc (.cells #[.int .i64 x.1.a,.int .i64 x.1.b] 89)) ((KeepsOthers.alloc _ _).from _) (fun k hk=>Below.heap_alloc W _ k (by have:=hi.sz; have:=hi.l1; have:=hi.l2; have:=hi.l3; omega)) (hi.grown (World.grownBy_alloc _ _ none) (fun r e=>by cases e)) ⟨W.heap.size,by have:=hi.sz; omega,hx,rfl⟩
    simp [encStr]
    gi_wp2
    exact hk
   case body =>
    rintro l pre x a' W hl hr hi ⟨Bx,hBx,bX,rfl⟩ hlt
    simp only [List.setIfInBounds_toArray,List.set_cons_succ,List.set_cons_zero]
    obtain ⟨hx0,hx1,hx2⟩:=x.2
    have hib:x.1.b+1=(((x.1.b+1).toNat:Nat):Int):=by omega
    have hiT:(x.1.b+1).toNat < T+1:=by omega
    obtain ⟨sv,hsv,hown⟩:=hi.en.row hiT
    have b0:=hi.x1.cell 0
    have b1:=hi.x2.cell 0
    have b2:=hi.xb.cell 0
    have s0:=bX.cell 0
    have s1:=bX.cell 1
    simp at b0 b1 b2 s0 s1
    have hS:∃ F:World→Prop,(∀ w',F w'↔(w'.cell? ⟨w.heap.size,0,none⟩=some (.pointer (some ⟨g,0,none⟩))∧w'.cell? ⟨w.heap.size+1,0,none⟩=some (.func (.func fn) fs cs)∧w'.cell? ⟨W2.heap.size+1,0,none⟩=some (.slice (some ⟨W2.heap.size,0,none⟩) (T+1) (T+1)) ∧
      w'.cell? ⟨Bx,0,none⟩=some (.int .i64 x.1.a)∧w'.cell? ⟨Bx,1,none⟩=some (.int .i64 x.1.b)∧w'.cell? ⟨W2.heap.size,(x.1.b+1).toNat,none⟩=some sv)):=⟨_,fun _=>Iff.rfl⟩
    obtain ⟨F,hF⟩:=hS
    have hF0:F W:=(hF W).2 ⟨b0,b1,b2,s0,s1,hsv⟩
    haveI:Nonempty (SubW F):=⟨⟨W,hF0⟩⟩
    have f0:∀ y:SubW F,y.w.cell? ⟨w.heap.size,0,none⟩=some (.pointer (some ⟨g,0,none⟩)):=fun y=>((hF y.w).1 y.h).1
    have f1:∀ y:SubW F,y.w.cell? ⟨w.heap.size+1,0,none⟩=some (.func (.func fn) fs cs):=fun y=>((hF y.w).1 y.h).2.1
    have f2:∀ y:SubW F,y.w.cell? ⟨W2.heap.size+1,0,none⟩=some (.slice (some ⟨W2.heap.size,0,none⟩) (T+1) (T+1)):=fun y=>((hF y.w).1 y.h).2.2.1
    have f3:∀ y:SubW F,y.w.cell? ⟨Bx,0,none⟩=some (.int .i64 x.1.a):=fun y=>((hF y.w).1 y.h).2.2.2.1
    have f4:∀ y:SubW F,y.w.cell? ⟨Bx,1,none⟩=some (.int .i64 x.1.b):=fun y=>((hF y.w).1 y.h).2.2.2.2.1
    have f5:∀ y:SubW F,y.w.cell? ⟨W2.heap.size,(x.1.b+1).toNat,none⟩=some sv:=fun y=>((hF y.w).1 y.h).2.2.2.2.2
    have hFd:F W.drew:=(hF W.drew).2 ⟨b0,b1,b2,s0,s1,hsv⟩
    have HF:=Lib.hid hF
    have HIB:=Lib.hid hib
    have i1:(0:Int)≤x.1.b+1:=by omega
    have i2:x.1.b+1 < (T:Int)+1:=by omega
    have i3:x.1.b≤30:=by omega
    clear hF hib b0 b1 b2 s0 s1
    gi_wp2
    refine wpIn_region_sched (C:=fun w'=>∃ y:SubW F,w'=y.w) [(0,true),(1,true),(2,true),(3,true),(4,true),(5,true),(6,true),(7,true),(8,true),(9,true),(10,true),(11,true),(12,true),(13,true),(14,false),(15,true),(16,false),(17,false),(18,true),(19,false)] (by kernel_rfl) (by kernel_rfl) (by kernel_rfl) ⟨⟨W.drew,hFd⟩,rfl⟩ ?_
    refine sched_q (by rfl) (by rfl) ?_
    intro K hK
    go_big_quiet_op
    go_big_quiet_on
    refine sched_q (by rfl) (by rfl) ?_
    intro K hK
    go_big_quiet_op
    go_big_quiet_on
    refine sched_q (by rfl) (by rfl) ?_
    intro K hK
    go_big_quiet_op
    go_big_quiet_on
    refine sched_q (by rfl) (by rfl) ?_
    intro K hK
    go_big_quiet_op
    go_big_quiet_on
    refine sched_q (by rfl) (by rfl) ?_
    intro K hK
    go_big_quiet_op
    go_big_quiet_on
    refine sched_q (by rfl) (by rfl) ?_
    intro K hK
    go_big_quiet_op
    go_big_quiet_on
    refine sched_q (by rfl) (by rfl) ?_
    intro K hK
    go_big_quiet_op
    go_big_quiet_on
    refine sched_q (by rfl) (by rfl) ?_
    intro K hK
    go_big_quiet_op
    go_big_quiet_on
    refine sched_q (by rfl) (by rfl) ?_
    intro K hK
    go_big_quiet_op
    go_big_quiet_on
    refine sched_q (by rfl) (by rfl) ?_
    intro K hK
    go_big_quiet_op
    go_big_quiet_on
    refine sched_q (by rfl) (by rfl) ?_
    intro K hK
    go_big_quiet_op
    go_big_quiet_on
    refine sched_q (by rfl) (by rfl) ?_
    intro K hK
    go_big_quiet_op
    go_big_quiet_on
    refine sched_q (by rfl) (by rfl) ?_
    intro K hK
    go_big_quiet_op
    go_big_quiet_on
    refine sched_q (by rfl) (by rfl) ?_
    intro K hK
    go_big_quiet_op
    go_big_quiet_on
    refine sched_c (by rfl) (by rfl) ?_
    intro K hK
    go_wp2_with fail
    refine (sum_ok B g c x.1 _ _ W.drew ⟨fa,fc,pa,pc,hi.bd.drew⟩ fn fs cs ws ((hg.grown hi.gr).grown (grown_call ((Below.refl _ W).drew) _)) hws hlen).mono ?_
    rintro e W3 ⟨rfl,hb3⟩
    have hb3':Below W.heap.size W W3:=((Below.refl _ W).drew).trans hb3
    go_wp2
    have hF3:F W3:=by
     obtain ⟨d0,d1,d2,d3,d4,d5⟩:=(HF.out W).1 hF0
     exact (HF.out W3).2 ⟨(hb3'.cell (p:=⟨_,_,none⟩) (cell_lt d0)).trans d0,(hb3'.cell (p:=⟨_,_,none⟩) (cell_lt d1)).trans d1,(hb3'.cell (p:=⟨_,_,none⟩) (cell_lt d2)).trans d2,(hb3'.cell (p:=⟨_,_,none⟩) (cell_lt d3)).trans d3,(hb3'.cell (p:=⟨_,_,none⟩) (cell_lt d4)).trans d4,(hb3'.cell (p:=⟨_,_,none⟩) (cell_lt d5)).trans d5⟩
    refine hK _ _ ⟨.inr ⟨⟨W3,hF3⟩,rfl⟩,?_⟩
    clear hK K
    refine sched_q (by rfl) (by rfl) ?_
    intro K hK
    go_big_quiet_op
    go_big_quiet_on
    refine sched_c (by rfl) (by rfl) ?_
    intro K hK
    go_wp2
    have hF4:∀ o:Obj,F (W3.alloc o):=by
     intro o
     obtain ⟨d0,d1,d2,d3,d4,d5⟩:=(HF.out W3).1 hF3
     exact (HF.out _).2 ⟨(World.cell?_alloc_lt _ _ _ (cell_lt d0)).trans d0,(World.cell?_alloc_lt _ _ _ (cell_lt d1)).trans d1,(World.cell?_alloc_lt _ _ _ (cell_lt d2)).trans d2,(World.cell?_alloc_lt _ _ _ (cell_lt d3)).trans d3,(World.cell?_alloc_lt _ _ _ (cell_lt d4)).trans d4,(World.cell?_alloc_lt _ _ _ (cell_lt d5)).trans d5⟩
    refine hK _ _ ⟨.inr ⟨⟨_,hF4 _⟩,rfl⟩,?_⟩
    clear hK K hF4
    refine sched_c (by rfl) (by rfl) ?_
    intro K hK
    have hown3:W3.ownsRow (W2.heap.size+3) 110 3 sv _ _:=own_call hown hb3'
    have hlen9:=endsOf_len ws c.pas (pre.map (·.1)) (x.1.b+1).toNat
    rw [List.length_map] at hlen9
    have hlenp:=allStr_len c T hT2
    have bX3:=bX.call hb3'
    have hi3:=hi.grown (grown_call hb3' none) (fun r e=>by cases e)
    refine wpList_app2 slT_cho rfl (.tmp 46) (.tmp 53) rfl rfl hown3 rfl rfl one_3 ?_ ?_ ?_ ?_
    ·have:=hi3.sz; omega
    ·omega
    ·omega
    intro v' w4 hown4 hg4 hat
    obtain ⟨nn,A',cap',rfl⟩:∃ nn A' cap',v' = .slice A' nn cap':=by obtain ⟨A',cap',h⟩:=own_form hown4; exact ⟨_,A',cap',h⟩
    have hne:some Bx≠sv.ownBlock:=own_blk_ne hown3 bX3 (by decide)
    have hlo:∀ k,k < W2.heap.size+3→some k≠sv.ownBlock:=fun k hk e=>by have:=(hown3.lt k e.symm).1; omega
    have hsz3:=hi3.sz
    have hl1:=hi3.l1
    have hl2:=hi3.l2
    have hl3:=hi3.l3
    have hF5:F w4:=by
     obtain ⟨d0,d1,d2,d3,d4,d5⟩:=(HF.out W3).1 hF3
     exact (HF.out _).2 ⟨(World.cell?_of_block (hg4.block w.heap.size (cell_lt d0) (hlo _ (by omega)))).trans d0,(World.cell?_of_block (hg4.block (w.heap.size+1) (cell_lt d1) (hlo _ (by omega)))).trans d1,(World.cell?_of_block (hg4.block (W2.heap.size+1) (cell_lt d2) (hlo _ (by omega)))).trans d2,(World.cell?_of_block (hg4.block Bx (cell_lt d3) hne)).trans d3,(World.cell?_of_block (hg4.block Bx (cell_lt d4) hne)).trans d4,(World.cell?_of_block (hg4.block W2.heap.size (cell_lt d5) (hlo _ (by omega)))).trans d5⟩
    go_wp2
    refine hK _ _ ⟨.inr ⟨⟨w4,hF5⟩,rfl⟩,?_⟩
    clear hK K
    refine sched_q (by rfl) (by rfl) ?_
    intro K hK
    go_big_quiet_op
    go_big_quiet_on
    refine sched_c (by rfl) (by rfl) ?_
    intro K hK
    have hfz:w4.frozen? ⟨W2.heap.size,(x.1.b+1).toNat,none⟩=false:=by
     rw [World.frozen?_of_block (hg4.block W2.heap.size (by omega) (hlo _ (by omega)))]
     exact hi3.en.frozen _
    have hce:w4.cell? ⟨W2.heap.size,(x.1.b+1).toNat,none⟩=some sv:=((HF.out w4).1 hF5).2.2.2.2.2
    go_wp2
    refine hK _ _ ⟨(by first | exact .inl rfl | exact .inl trivial),?_⟩
    clear hK K
    refine sched_nil ?_
    have hsv3:W3.cell? ⟨W2.heap.size,(x.1.b+1).toNat,none⟩=some sv:=((HF.out W3).1 hF3).2.2.2.2.2
    have hen:=hi3.en.put (E':=endsOf ws c.pas ((pre++[x]).map (·.1))) (y:=⟨x.1,sumW ws x.1 0 c.pas⟩) hiT (by omega) hsv3 (by simpa [cellsOf,ccell,List.range_succ] using hown4) hg4 hat (fun j hj=>by rw [List.map_append]; exact endsOf_snoc ws c.pas _ x.1 _ j HIB.out)
    generalize hw5:w4.setCell ⟨W2.heap.size,(x.1.b+1).toNat,none⟩ (.slice A' nn cap')=w5 at *
    have hgs:w4.grownBy w5 (some W2.heap.size):=by rw [← hw5]; exact grown_setCell _
    have hblk:∀ k,k < W3.heap.size→some k≠sv.ownBlock→k≠W2.heap.size→w5.heap[k]? = W3.heap[k]? :=
     fun k hk h1 h2=>(hgs.block k (Nat.lt_of_lt_of_le hk hg4.size) (fun e=>h2 (by injection e))).trans (hg4.block k hk h1)
    refine ⟨⟨?_,?_⟩,?_,?_⟩
    ·exact Nat.le_trans hb3'.size (Nat.le_trans hg4.size hgs.size)
    ·intro k o hk ho hc
     have hkl:k < W.heap.size:=(Array.getElem?_eq_some_iff.1 ho).1
     have h3:W3.heap[k]? = some o:=(hb3'.block k hkl).trans ho
     refine (hblk k (Nat.lt_of_lt_of_le hkl hb3'.size) ?_ (by omega)).trans h3
     intro he
     rcases hown3.2 with ⟨rfl,_⟩ | ⟨g',cap,cur,rfl,_,hh,_⟩
     ·simp [Value.ownBlock] at he
     ·simp only [Value.ownBlock,Option.some.injEq] at he
      subst he
      rw [hh] at h3
      injection h3 with h3
      subst h3
      simp [Obj.isCells] at hc
    ·intro k hk
     have hkl:k < W2.heap.size+3:=by omega
     exact (hblk k (by omega) (hlo k hkl) (by omega)).trans (hb3'.block k (by have:=hi.sz; omega))
    ·refine ⟨hi3.bd.same fun k hk=>hblk k (by omega) (hlo k (by omega)) (by omega),hen,hi3.mp.heap (hblk _ (by omega) (hlo _ (by omega)) (by omega)),(hblk _ (by omega) (hlo _ (by omega)) (by omega)).trans hi3.x1,(hblk _ (by omega) (hlo _ (by omega)) (by omega)).trans hi3.x2,(hblk _ (by omega) (hlo _ (by omega)) (by omega)).trans hi3.xb,(hblk _ (by omega) (hlo _ (by omega)) (by omega)).trans hi3.xc,?_,hl1,hl2,hl3⟩
     have hg3:=hi3.gr
     exact ⟨hgs.os.trans (hg4.os.trans hg3.os),hgs.tape.trans (hg4.tape.trans hg3.tape),hgs.output.trans (hg4.output.trans hg3.output),Nat.le_trans hg3.size (Nat.le_trans hg4.size hgs.size),fun k hk hne=>(hblk k (by omega) (hlo k (by omega)) (by omega)).trans (hg3.block k hk hne)⟩
   case stop =>
    rintro D cc pre W _ _ hh _
    exact hh.elim
   case done =>
    rintro D xs W hD hS hi hdf
    clear hg hx1 hx2 hB hb hgr0 hbd hm3 hz1 hz2 hgw3 hxb2 hxc he2 hinv
    have hE:Fit E 1200000:=by rw [hE0]; exact endsOf_fit ws c T hws hlen
    rw [hS,← hE0] at hi
    have hElen:∀ i,(E i).length≤1000000:=by
     intro i
     have h1:=endsOf_len ws c.pas (allStr c T) i
     have h2:=allStr_len c T hT2
     rw [← hE0] at h1
     omega
    clear hE0 hS
    generalize W2.heap.size=ge at *
    go_wp2
    obtain ⟨wo,rfl⟩:∃ wo:World,wo=wr:=⟨_,rfl⟩
    go_loopw [7] (fun i wr=>∃ n:Nat,n≤T∧i = .int .i64 (n+1:Nat)∧FillInv w B g gm ge T c fa fc pa pc (tabN E K n) (fun a b=>(byN E K n 1 a b).map strV) E fn fs cs wr∧wr.heap[D]? = some (.deferred (some []))∧D < wr.heap.size) (fun i _=>T+1-(intOf i).toNat)
    case atStart=>exact ⟨0,by omega,by go_num,hi.congr (fun t k=>rfl) (fun a b=>by rw [byN_zero]; rfl),hdf,(Array.getElem?_eq_some_iff.1 hdf).1⟩
    case round =>
     obtain ⟨n,hn,rfl,hv,hdf,hD⟩:=hrel
     obtain ⟨k0,k1,k2,k3,k4⟩:=hv.bd.c5
     rw [hT] at k0
     have b0:=hv.x1.cell 0
     simp at b0
     have ql1:=hv.l1
     have ql2:=hv.l2
     have ql3:=hv.l3
     have ql4:=hv.sz
     by_cases hlt:n < T
     ·have a1:((n+1:Nat):Int)≤T:=by omega
      have r0:=hv.bd.at_ (t:=n) (k:=0) (by omega) (by omega)
      have r1:=hv.bd.at_ (t:=n) (k:=1) (by omega) (by omega)
      have r2:=hv.bd.at_ (t:=n) (k:=2) (by omega) (by omega)
      have r3:=hv.bd.at_ (t:=n) (k:=3) (by omega) (by omega)
      have r4:=hv.bd.at_ (t:=n) (k:=4) (by omega) (by omega)
      have r5:=hv.bd.at_ (t:=n) (k:=5) (by omega) (by omega)
      have r6:=hv.bd.at_ (t:=n) (k:=6) (by omega) (by omega)
      rw [Nat.add_zero] at r0
      have a2:(n:Int) < 31:=by omega
      have a3:(n:Int)+1 < 31:=by omega
      have e1:IntKind.i64.wrap (n:Int)=n:=wrap_id _ (by omega) (by omega)
      have a4:0≤(n:Int)+1:=by omega
      have q0:=hv.bd.at_ (t:=n+1) (k:=0) (by omega) (by omega)
      have q1:=hv.bd.at_ (t:=n+1) (k:=1) (by omega) (by omega)
      have q2:=hv.bd.at_ (t:=n+1) (k:=2) (by omega) (by omega)
      have q3:=hv.bd.at_ (t:=n+1) (k:=3) (by omega) (by omega)
      have q4:=hv.bd.at_ (t:=n+1) (k:=4) (by omega) (by omega)
      have q5:=hv.bd.at_ (t:=n+1) (k:=5) (by omega) (by omega)
      have q6:=hv.bd.at_ (t:=n+1) (k:=6) (by omega) (by omega)
      have hfz:=hv.bd.frozen
      rw [Nat.add_zero] at q0
      go_wp2_with fail
      go_still_tail 12,(by kernel_rfl)
      change wpList _ _ _ _ _ (wr).drew
      go_wp2
      obtain ⟨hg7,hm⟩:=hv.row7 (V':=midN E K n 1) (t:=n+1) (by omega) (fun j=>tabN E K n n j) (fun t' k' _ _=>midN_one E K n t' k')
      have hdf1:=(hg7.block D hD (fun e=>by injection e; omega)).trans hdf
      have hm:=hm.call ((Below.refl _ _).drew)
      clear r0 r1 r2 r3 r4 r5 r6 q0 q1 q2 q3 q4 q5 q6 hfz
      generalize (((((((wr.setCell ⟨g,5+(n+1) * 7,none⟩ (.int .i64 (tabN E K n n 0))).setCell ⟨g,5+(n+1) * 7+1,none⟩ (.int .i64 (tabN E K n n 1))).setCell ⟨g,5+(n+1) * 7+2,none⟩ (.int .i64 (tabN E K n n 2))).setCell ⟨g,5+(n+1) * 7+3,none⟩ (.int .i64 (tabN E K n n 3))).setCell ⟨g,5+(n+1) * 7+4,none⟩ (.int .i64 (tabN E K n n 4))).setCell ⟨g,5+(n+1) * 7+5,none⟩ (.int .i64 (tabN E K n n 5))).setCell ⟨g,5+(n+1) * 7+6,none⟩ (.int .i64 (tabN E K n n 6)))=wm at *
      clear hv hdf hD k0 k1 k2 k3 k4 b0
      obtain ⟨wp,rfl⟩:∃ wp:World,wp=wr:=⟨_,rfl⟩
      go_loopw [8] (fun i wr=>∃ k:Nat,k≤K∧i = .int .i64 (k+1:Nat)∧FillInv w B g gm ge T c fa fc pa pc (midN E K n (k+1)) (fun a b=>(byN E K n (k+1) a b).map strV) E fn fs cs wr∧wr.heap[D]? = some (.deferred (some []))) (fun i _=>K+1-(intOf i).toNat)
      case atStart=>exact ⟨0,by omega,by go_num,hm,hdf1⟩
      case round =>
       obtain ⟨k,hk2,rfl,hv,hdf⟩:=hrel
       obtain ⟨k0,k1,k2,k3,k4⟩:=hv.bd.c5
       rw [hK] at k2
       have b0:=hv.x1.cell 0
       have b1:=hv.xb.cell 0
       simp at b0 b1
       have ql4:=hv.sz
       have hDl:=(Array.getElem?_eq_some_iff.1 hdf).1
       by_cases hkl:k < K
       ·have a6:(k:Int)+1≤K:=by omega
        have a7:(k:Int)+1 < 7:=by omega
        have a7':0≤(k:Int)+1:=by omega
        have a8:IntKind.i64.wrap (k:Int)=k:=wrap_id _ (by omega) (by omega)
        have a9:(k:Int) < 7:=by omega
        have c0:=hv.bd.at_ (t:=n) (k:=k+1) (by omega) (by omega)
        rw [midN_low _ _ _ _ _ _ (Nat.le_refl _)] at c0
        obtain ⟨sv,hsv,hown⟩:=hv.en.row (i:=n+1) (by omega)
        obtain ⟨A1,cap1,rfl⟩:=own_form hown
        have hcap1:=own_cap hown
        have harr:=Arr.of_own hown
        go_upto_region 19 with (fail)
        have hlit:=own_lit wr #[.int .i64 (-1),.int .i64 0,.int .i64 (tabN E K n n (k+1))] 110 3 rfl
        have hB0:=(Below.refl wr.heap.size wr).alloc (Nat.le_refl _) (.cells #[.int .i64 (-1),.int .i64 0,.int .i64 (tabN E K n n (k+1))] 110)
        obtain ⟨wk,rfl⟩:∃ wk:World,wk=wr:=⟨_,rfl⟩
        generalize wk.alloc (.cells #[.int .i64 (-1),.int .i64 0,.int .i64 (tabN E K n n (k+1))] 110)=w1 at *
        have q1:ge < wk.heap.size:=by omega
        have q2:ge+1 < wk.heap.size:=by omega
        have q3:g < wk.heap.size:=by omega
        have q4:w.heap.size < wk.heap.size:=by omega
        have d1:=(hB0.cell (p:=⟨ge+1,0,none⟩) q2).trans b1
        have d2:=(hB0.cell (p:=⟨ge,n+1,none⟩) q1).trans hsv
        have a10:(n:Int)+1 < (T:Int)+1:=by omega
        have hch:(choices E (tabN E K n) (n+1) (k+1)).length=(E (n+1)).length+1:=by simp [choices]
        go_wp2
        go_loopw [9,103] (fun all i wr=>∃ (j:Nat) (A:Option Addr) (cap:Nat),j≤(E (n+1)).length∧i = .int .i64 j∧all = .slice A (j+1) cap∧wr.ownsRow wk.heap.size 110 3 (.slice A (j+1) cap) (j+1) (((choices E (tabN E K n) (n+1) (k+1)).take (j+1)).flatMap (cellsOf 3 ccell))∧Below wk.heap.size wk wr) (fun _ i _=>(E (n+1)).length-(intOf i).toNat)
        case atStart=>exact ⟨0,_,_,by omega,by go_num,rfl,by simpa [choices,cellsOf,ccell,List.range_succ] using hlit,hB0⟩
        case round =>
         obtain ⟨j,A,cap,hj,rfl,rfl,hal,hb1⟩:=hrel
         have hb2:=(Below.refl wk.heap.size wk).trans hb1
         have hvr:=hv.call hb2
         have har:=harr.below hb2
         have hck:=own_cap hal
         have e0:=hvr.x1.cell 0
         have r0:=hv.sz
         simp at e0
         by_cases hlj:j < (E (n+1)).length
         ·obtain ⟨bb,off,y,rfl,hbb,hy,hyc⟩:=har.at_ hlj
          have y0:=hyc 0 (by omega)
          have y1:=hyc 1 (by omega)
          have y2:=hyc 2 (by omega)
          simp only [Nat.add_zero,ccell] at y0 y1 y2
          obtain ⟨f1,f2,f3,f4⟩:=hE (n+1) y (List.mem_of_getElem? hy)
          obtain ⟨ya,hya⟩:∃ q:Nat,y.s.a=q:=⟨y.s.a.toNat,by omega⟩
          have hV:=tabN_bound E 1200000 (by omega) hE K n ya k
          have hx:=Blk.new wr 110 #[.int .i64 y.s.a,.int .i64 y.s.b,.int .i64 y.x]
          have hget:(choices E (tabN E K n) (n+1) (k+1))[j+1]? = some ⟨y.s,y.x+tabN E K n ya k⟩:=by
           have e:y.s.a.toNat=ya:=by omega
           simp [choices,hy,e]
          have hbx:=(Below.refl wr.heap.size wr).alloc (Nat.le_refl _) (.cells #[.int .i64 y.s.a,.int .i64 y.s.b,.int .i64 y.x] 110)
          have vb:=hvr.bd.at_ (t:=ya) (k:=k) (by omega) (by omega)
          rw [midN_low _ _ _ _ _ _ (by omega)] at vb
          have a11:(j:Int) < (E (n+1)).length:=by omega
          have a12:IntKind.i64.wrap (y.x+tabN E K n ya k)=y.x+tabN E K n ya k:=wrap_id _ (by omega) (by omega)
          have a13:(ya:Int) < 31:=by omega
          have gl1:=hvr.bd.blk.lt
          have gl2:=hvr.x1.lt
          have HX:=Lib.hid hget
          rw [hya] at y0 hx hbx
          clear hget f1 f2 f3 f4 hyc hy hV
          go_upto_region 22 with (fail)
          generalize wr.alloc (.cells #[.int .i64 (ya:Int),.int .i64 y.s.b,.int .i64 y.x] 110)=wx at *
          have x0:=hx.cell 0
          have x1:=hx.cell 1
          have x2:=hx.cell 2
          simp at x0 x1 x2
          have z0:=hx.frozen 2
          have vb':=(hbx.cell (p:=⟨g,5+ya * 7+k,none⟩) gl1).trans vb
          have e0':=(hbx.cell (p:=⟨w.heap.size,0,none⟩) gl2).trans e0
          clear y0 y1 y2 vb e0
          go_wp2_with fail
          go_still_tail 15,(by kernel_rfl)
          change wpList _ _ _ _ _ (wx).drew
          have hx2:=hx.drew
          have hbx2:=hbx.drew
          generalize wx.drew=wy at *
          clear x0 x1 x2 z0 vb' e0' hx hbx
          have x0:=hx2.cell 0
          have x1:=hx2.cell 1
          have x2:=hx2.cell 2
          simp at x0 x1 x2
          have z0:=hx2.frozen 2
          go_upto_region 23 with (fail)
          have hx3:=hx2.set_ 2 (.int .i64 (y.x+tabN E K n ya k))
          have hbx3:=hbx2.setCell (p:=⟨wr.heap.size,2,none⟩) (Nat.le_refl _) (.int .i64 (y.x+tabN E K n ya k))
          generalize wy.setCell ⟨wr.heap.size,2,none⟩ (.int .i64 (y.x+tabN E K n ya k))=wz at *
          clear x0 x1 x2 z0 hx2 hbx2
          have x0:=hx3.cell 0
          have x1:=hx3.cell 1
          have x2:=hx3.cell 2
          simp at x0 x1 x2
          have hal3:=own_call hal hbx3
          have szz:wk.heap.size≤wz.heap.size:=Nat.le_trans hb1.size hbx3.size
          have hL31:(E (n+1)).length≤1000000:=hElen _
          clear hck
          go_wp2_with (at_builtin; refine wpList_app1 slT_cho rfl (.tmp 122) (.tmp 124) rfl (A:=A) (cc:=cap) rfl ⟨cap,hal3,.inl rfl⟩ rfl rfl one_3 szz ?_ ?_ ?_)
          ·omega
          ·omega
          intro v' w4 hown4 hb4 hkeep
          have hown5:=own_snoc (cell:=ccell) (x:=(⟨y.s,y.x+tabN E K n ya k⟩:Cho)) (l:=(choices E (tabN E K n) (n+1) (k+1)).take (j+1)) (by rw [List.length_take]; omega) (by simp [cellsOf,ccell,List.range_succ,hya]) hown4
          rw [show (choices E (tabN E K n) (n+1) (k+1)).take (j+1)++[⟨y.s,y.x+tabN E K n ya k⟩]=(choices E (tabN E K n) (n+1) (k+1)).take (j+1+1) by rw [List.take_add_one (i:=j+1),HX.out]; rfl] at hown5
          rw [show ((choices E (tabN E K n) (n+1) (k+1)).take (j+1+1)).length=j+1+1 by rw [List.length_take]; omega] at hown5
          obtain ⟨A',cap',rfl⟩:=own_form hown5
          clear hown4 hkeep hal3 x0 x1 x2
          have hb5:Below wk.heap.size wk w4:=hb1.trans ((hbx3.mono hb1.size).trans hb4)
          go_wp2
          go_roundw
          case rel=>exact ⟨j+1,A',cap',by omega,by go_num,rfl,hown5,hb5⟩
          case measure=>simp [intOf]; omega
         ·obtain rfl:j=(E (n+1)).length:=by omega
          have hfull:(choices E (tabN E K n) (n+1) (k+1)).take ((E (n+1)).length+1)=choices E (tabN E K n) (n+1) (k+1):=List.take_of_length_le (by omega)
          rw [hfull] at hal
          have hal2:wr.ownsRow wk.heap.size 110 3 (.slice A ((E (n+1)).length+1) cap) (choices E (tabN E K n) (n+1) (k+1)).length ((choices E (tabN E K n) (n+1) (k+1)).flatMap (cellsOf 3 ccell)):=by rw [hch]; exact hal
          have hne:choices E (tabN E K n) (n+1) (k+1)≠[]:=by simp [choices]
          go_wp2_with fail
          refine (greatest_ok _ (choices E (tabN E K n) (n+1) (k+1)) wr hne (Arr.of_own hal2)).mono ?_
          rintro e w' ⟨rfl,hb3⟩
          obtain ⟨cw,hcw⟩:∃ cw,choW E (tabN E K n) (n+1) (k+1)=cw:=⟨_,rfl⟩
          rw [show pick (choices E (tabN E K n) (n+1) (k+1))=cw from hcw]
          go_upto_region 26 with (fail)
          have hx:=Blk.new w' 110 #[.int .i64 cw.s.a,.int .i64 cw.s.b,.int .i64 cw.x]
          have hb4:=(hb1.trans (hb3.mono hb1.size)).alloc (Nat.le_trans hb1.size hb3.size) (.cells #[.int .i64 cw.s.a,.int .i64 cw.s.b,.int .i64 cw.x] 110)
          generalize w'.alloc (.cells #[.int .i64 cw.s.a,.int .i64 cw.s.b,.int .i64 cw.x] 110)=w5 at *
          clear e0 d1 d2 hlit hal hal2 hvr har
          have hv5:=hv.call hb4
          have hdf5:=(hb4.block D hDl).trans hdf
          have e0:=hv5.x1.cell 0
          have x0:=hx.cell 0
          have x1:=hx.cell 1
          have x2:=hx.cell 2
          simp at e0 x0 x1 x2
          have v0:=hv5.bd.at_ (t:=n+1) (k:=k+1) (by omega) (by omega)
          have v1:=hv5.bd.frozen
          go_wp2_with fail
          go_still_tail 9,(by kernel_rfl)
          change wpList _ _ _ _ _ (w5).drew
          have hx2:=hx.drew
          have hv6:=hv5.call ((Below.refl _ _).drew)
          replace hdf5:w5.drew.heap[D]? = _:=hdf5
          generalize w5.drew=w6 at *
          clear e0 x0 x1 x2 v0 v1 hx hv5 hb4
          have v0:=hv6.bd.at_ (t:=n+1) (k:=k+1) (by omega) (by omega)
          have v1:=hv6.bd.frozen (5+(n+1) * 7+(k+1))
          go_upto_region 27 with (fail)
          have hv7:=hv6.put (grown_setCell (.int .i64 cw.x)) (hv6.bd.set_ (V':=midN E K n (k+1+1)) (t:=n+1) (k:=k+1) (x:=cw.x) (by omega) (by omega) (fun t' j' _ _=>by rw [midN_succ _ _ _ _ _ _ (by omega),hcw]))
          have hx3:=hx2.far (p:=⟨g,5+(n+1) * 7+(k+1),none⟩) (by have h1:=hb1.size; have h2:=hb3.size; show w'.heap.size≠g; omega) (.int .i64 cw.x)
          have hdf7:=((grown_setCell (w:=w6) (g:=g) (o:=5+(n+1) * 7+(k+1)) (.int .i64 cw.x)).block D (Array.getElem?_eq_some_iff.1 hdf5).1 (fun e=>by injection e; omega)).trans hdf5
          generalize w6.setCell ⟨g,5+(n+1) * 7+(k+1),none⟩ (.int .i64 cw.x)=w7 at *
          clear v0 v1 hx2 hv6 hdf5 hv
          have e0:=hv7.x1.cell 0
          have x0:=hx3.cell 0
          have x1:=hx3.cell 1
          have x2:=hx3.cell 2
          simp at e0 x0 x1 x2
          by_cases hs:0≤cw.s.a
          ·go_upto_region 28 with (fail)
           have m0:=hv7.bd.mp
           have hv8:=hv7.call ((Below.refl _ _).drew)
           obtain ⟨es,cl,hmu,hmo⟩:=hv8.mp.update keyState Tryz.underlying55 ((n:Int)+1) ((k:Int)+1) (.agg #[.int .i64 cw.s.a,.int .i64 cw.s.b])
           go_wp2_with fail
           go_still_tail 9,(by kernel_rfl)
           change wpList _ _ _ _ _ (w7).drew
           replace hdf7:w7.drew.heap[D]? = _:=hdf7
           generalize w7.drew=w8 at *
           have hdf8:=((grown_put (w:=w8) (g:=gm) es cl).block D (Array.getElem?_eq_some_iff.1 hdf7).1 (fun e=>by injection e; omega)).trans hdf7
           have hv9:=hv8.upd (grown_put es cl) hmo
           clear e0 x0 x1 x2 m0 hv7 hv8 hx3
           go_wp2
           go_roundw
           case rel =>
            refine ⟨k+1,by omega,by go_num,hv9.congr (fun _ _=>rfl) (fun a b=>?_),hdf8⟩
            rw [byN_succ E K n (k+1) (by omega) (by omega),hcw]
            by_cases hab:a=(n:Int)+1∧b=((k+1:Nat):Int)
            ·rw [if_pos ⟨hs,hab⟩,if_pos (by simp [hab.1,hab.2])]
             rfl
            ·rw [if_neg (fun q=>hab q.2),if_neg (by simp; omega)]
           case measure=>simp [intOf]; omega
          ·go_wp2
           go_roundw
           case rel =>
            refine ⟨k+1,by omega,by go_num,hv7.congr (fun _ _=>rfl) (fun a b=>?_),hdf7⟩
            rw [byN_succ E K n (k+1) (by omega) (by omega),hcw,if_neg (fun q=>hs q.1)]
           case measure=>simp [intOf]; omega
       ·obtain rfl:k=K:=by omega
        go_wp2
        go_roundw
        case rel=>exact ⟨n+1,by omega,by go_num,hv.congr (fun t j=>(midN_last E k n t j).symm) (fun a b=>by rw [byN_last]),hdf,hDl⟩
        case measure=>simp [intOf]; omega
     ·obtain rfl:n=T:=by omega
      go_wp2
      refine ⟨by simp,.inl ⟨_,_,rfl,run_takeDeferred hdf,?_⟩⟩
      have hvD:=hv.grown (grownBy_putObj' wr D (.deferred none)) (fun r e=>by cases e; exact ⟨by omega,_,hdf,rfl⟩)
      exact ⟨.tuple #[],by simp [results,Tryz.results16,go_sem],rfl,gm,by omega,⟨fa,fc,pa,pc,hvD.bd⟩,hvD.mp,hvD.gr⟩
end Go.Proofs.YtaihbcmifjmapaaGreat
