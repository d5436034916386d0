/- Contracts: turns, within, CheckSheet of package speed, at valid sheets. Contracts: CheckSheet, slices.Clone, newNet of package speed; the iterator of a net's rules. -/
import Derived.Test.YtaihbcmifjmapaaGreatSB
import Derived.Test.YtaihbcmifjmapaaGreatPG
namespace Go.Proofs.YtaihbcmifjmapaaGreat
open Go.RowKit Go.Shelf Sp
set_option linter.unusedVariables false
theorem turns1_ok (n lo hi:Int) (b0 b1:Nat) (w:World) (h0:w.cell? ⟨b0,0,none⟩=some (.int .i64 lo)) (h1:w.cell? ⟨b1,0,none⟩=some (.int .i64 hi)) (hn:lo≤n∧n≤hi) :
  Calls Tryz.prog 131 #[.int .i64 n,.pointer (some ⟨b0,0,none⟩),.pointer (some ⟨b1,0,none⟩)] w fun r w'=>r = .returned (.bool false)∧Below w.heap.size w w':=by
 have d1:decide (n < lo)=false:=decide_eq_false (by omega)
 have d2:decide (hi < n)=false:=decide_eq_false (by omega)
 clear hn
 go_enter Tryz.func131,Tryz.ntmps131
 go_wp2
 go_ret
 exact ⟨rfl,Below.refl _ _⟩
theorem spWithin1_ok (n lo hi:Int) (b0 b1:Nat) (w:World) (h0:w.cell? ⟨b0,0,none⟩=some (.int .i64 lo)) (h1:w.cell? ⟨b1,0,none⟩=some (.int .i64 hi)) (hn:lo≤n∧n≤hi) :
  Calls Tryz.prog 231 #[.int .i64 n,.pointer (some ⟨b0,0,none⟩),.pointer (some ⟨b1,0,none⟩)] w fun r w'=>r = .returned (.bool false)∧Below w.heap.size w w':=by
 have d1:decide (n < lo)=false:=decide_eq_false (by omega)
 have d2:decide (hi < n)=false:=decide_eq_false (by omega)
 clear hn
 go_enter Tryz.func231,Tryz.ntmps231
 go_wp2
 go_ret
 exact ⟨rfl,Below.refl _ _⟩
theorem containsFunc_i64 (sv:Value) (l:List Int) (fn:FuncId) (fs cs:Array Value) (p:Int→Bool) (w:World)
 (eg:∀ args w,(callFunc fn args).run Tryz.prog w = .ok (.enter fn args) w)
 (hs:Arr w w.heap.size 1 sv l icell)
 (hcall:∀ x∈l,∀ w1,Below w.heap.size w w1→Calls Tryz.prog fn (fs.push (.int .i64 x)++cs) w1 fun e w2=>e = .returned (.bool (p x))∧Below w1.heap.size w1 w2) :
  Calls Tryz.prog 230 #[sv,.func (.func fn) fs cs] w fun r w'=>r = .returned (.bool (l.any p))∧Below w.heap.size w w':=by
 have hi:=indexFunc_i64 sv l fn fs cs p w eg hs hcall
 have HD:=Lib.hid (idxOf_nonneg p l 0)
 clear hcall hs
 go_enter Tryz.func230,Tryz.ntmps230
 go_wp2_with (go_at_call 119; refine hi.mono ?_; rintro e w1 ⟨rfl,hb1⟩)
 go_ret
 exact ⟨by rw [← HD.out]; simp,hb1⟩
theorem any_none (l:List Int):(l.any fun _=>false)=false:=by simp
theorem turns_ok (sv:Value) (l:List Int) (lo hi:Int) (w:World) (hs:Arr w w.heap.size 1 sv l icell) (hl:∀ n∈l,lo≤n∧n≤hi) :
  Calls Tryz.prog 56 #[.int .i64 lo,.int .i64 hi,sv] w fun r w'=>r = .returned (.bool true)∧Below w.heap.size w w':=by
 have HS:=Lib.hid hs
 obtain ⟨A,c,rfl, -⟩:=hs
 go_enter Tryz.func56,Tryz.ntmps56
 go_upto_region 1 with (fail)
 have x0:=Blk.new w 3 #[.int .i64 lo]
 have hb:=(Below.refl w.heap.size w).alloc (Nat.le_refl _) (.cells #[.int .i64 lo] 3)
 have z0:(w.alloc (.cells #[.int .i64 lo] 3)).heap.size=w.heap.size+1:=by simp
 have x1:=Blk.new (w.alloc (.cells #[.int .i64 lo] 3)) 3 #[.int .i64 hi]
 have hb1:=(Below.refl (w.alloc (.cells #[.int .i64 lo] 3)).heap.size (w.alloc (.cells #[.int .i64 lo] 3))).alloc (Nat.le_refl _) (.cells #[.int .i64 hi] 3)
 replace x0:=x0.call hb1
 replace hb:=hb.trans (hb1.mono hb.size)
 rw [z0] at x1
 clear hb1 z0
 generalize (w.alloc (.cells #[.int .i64 lo] 3)).alloc (.cells #[.int .i64 hi] 3)=W at *
 have l0:=x0.lt
 have l1:=x1.lt
 have hc:=containsFunc_int (.slice A l.length c) l 131 #[] #[.pointer (some ⟨w.heap.size,0,none⟩),.pointer (some ⟨w.heap.size+1,0,none⟩)] (fun _=>false) W (enters_of Tryz.func131 (by kernel_rfl) rfl) ((HS.out.below hb).more hb.size)
  (fun n hn w1 hw1=>by
   have y0:=(x0.call hw1).cell 0
   have y1:=(x1.call hw1).cell 0
   simp at y0 y1
   exact turns1_ok n lo hi w.heap.size (w.heap.size+1) w1 y0 y1 (hl n hn))
 rw [any_none] at hc
 clear hl x0 x1
 go_wp2_with (refine hc.mono ?_; rintro e w1 ⟨rfl,hb1⟩)
 go_ret
 exact ⟨rfl,hb.trans (hb1.mono hb.size)⟩
theorem spWithin_ok (sv:Value) (l:List Int) (lo hi:Int) (w:World) (hs:Arr w w.heap.size 1 sv l icell) (hl:∀ n∈l,lo≤n∧n≤hi) :
  Calls Tryz.prog 129 #[.int .i64 lo,.int .i64 hi,sv] w fun r w'=>r = .returned (.bool true)∧Below w.heap.size w w':=by
 have HS:=Lib.hid hs
 obtain ⟨A,c,rfl, -⟩:=hs
 go_enter Tryz.func129,Tryz.ntmps129
 go_upto_region 1 with (fail)
 have x0:=Blk.new w 2 #[.int .i64 lo]
 have hb:=(Below.refl w.heap.size w).alloc (Nat.le_refl _) (.cells #[.int .i64 lo] 2)
 have z0:(w.alloc (.cells #[.int .i64 lo] 2)).heap.size=w.heap.size+1:=by simp
 have x1:=Blk.new (w.alloc (.cells #[.int .i64 lo] 2)) 2 #[.int .i64 hi]
 have hb1:=(Below.refl (w.alloc (.cells #[.int .i64 lo] 2)).heap.size (w.alloc (.cells #[.int .i64 lo] 2))).alloc (Nat.le_refl _) (.cells #[.int .i64 hi] 2)
 replace x0:=x0.call hb1
 replace hb:=hb.trans (hb1.mono hb.size)
 rw [z0] at x1
 clear hb1 z0
 generalize (w.alloc (.cells #[.int .i64 lo] 2)).alloc (.cells #[.int .i64 hi] 2)=W at *
 have l0:=x0.lt
 have l1:=x1.lt
 have hc:=containsFunc_i64 (.slice A l.length c) l 231 #[] #[.pointer (some ⟨w.heap.size,0,none⟩),.pointer (some ⟨w.heap.size+1,0,none⟩)] (fun _=>false) W (enters_of Tryz.func231 (by kernel_rfl) rfl) ((HS.out.below hb).more hb.size)
  (fun n hn w1 hw1=>by
   have y0:=(x0.call hw1).cell 0
   have y1:=(x1.call hw1).cell 0
   simp at y0 y1
   exact spWithin1_ok n lo hi w.heap.size (w.heap.size+1) w1 y0 y1 (hl n hn))
 rw [any_none] at hc
 clear hl x0 x1
 go_wp2_with (refine hc.mono ?_; rintro e w1 ⟨rfl,hb1⟩)
 go_ret
 exact ⟨rfl,hb.trans (hb1.mono hb.size)⟩
theorem Arr.ints1 {w:World} {g:Nat} {t:TypeId} {x:Int} (h:Blk w g t #[.int .i64 x]):Arr w w.heap.size 1 (.slice (some ⟨g,0,none⟩) 1 1) [x] icell:=by
 refine ⟨_,1,rfl,by simp,by omega,fun _=>⟨g,0,rfl,h.lt,fun i y hy j hj=>?_⟩⟩
 obtain rfl:j=0:=by omega
 have hi:=(List.getElem?_eq_some_iff.1 hy).1
 obtain rfl:i=0:=by simp at hi; omega
 simp at hy
 subst hy
 have:=h.cell 0
 simpa using this
theorem Arr.ints2 {w:World} {g:Nat} {t:TypeId} {x y:Int} (h:Blk w g t #[.int .i64 x,.int .i64 y]):Arr w w.heap.size 1 (.slice (some ⟨g,0,none⟩) 2 2) [x,y] icell:=by
 refine ⟨_,2,rfl,by simp,by omega,fun _=>⟨g,0,rfl,h.lt,fun i z hz j hj=>?_⟩⟩
 obtain rfl:j=0:=by omega
 have hi:=(List.getElem?_eq_some_iff.1 hz).1
 have:i=0∨i=1:=by simp at hi; omega
 rcases this with rfl | rfl
 ·simp at hz
  subst hz
  have:=h.cell 0
  simpa using this
 ·simp at hz
  subst hz
  have:=h.cell 1
  simpa using this
set_option maxRecDepth 100000 in
theorem bad_ok {T:Nat} {l:List Ru} (hk:SheetOk T l) {r:Ru} (hr:r∈l) (g:Nat) (rv:Value) (w:World) (hb:Blk w g 24 #[.int .i64 T,rv]) :
  Calls Tryz.prog 128 #[.agg #[.int .i64 r.f,.int .i64 r.t,.int .i64 r.m],.pointer (some ⟨g,0,none⟩)] w fun e w'=>e = .returned (.bool false)∧Below w.heap.size w w':=by
 obtain ⟨h1,h2,h3,h4,h5,h6,h7⟩:=hk.fit r hr
 have d1:(r.f==r.t)=false:=by rw [beq_eq_false_iff_ne]; exact h5
 have H:=Lib.hid (show (∀ n∈[r.f,r.t],(0:Int)≤n∧n≤(T:Int))∧(∀ n∈[r.m],(-100000:Int)≤n∧n≤100000) from ⟨fun n hn=>by simp at hn; rcases hn with rfl | rfl <;> omega,fun n hn=>by simp at hn; subst hn; omega⟩)
 clear hk hr h1 h2 h3 h4 h5 h6 h7
 go_enter Tryz.func128,Tryz.ntmps128
 go_upto_region 1 with (fail)
 have x0:=Blk.new w 27 #[.int .i64 r.f,.int .i64 r.t,.int .i64 r.m]
 have hB:=(Below.refl w.heap.size w).alloc (Nat.le_refl _) (.cells #[.int .i64 r.f,.int .i64 r.t,.int .i64 r.m] 27)
 have hb1:=hb.call hB
 generalize w.alloc (.cells #[.int .i64 r.f,.int .i64 r.t,.int .i64 r.m] 27)=W at *
 have c0:=hb1.cell 0
 have p0:=x0.cell 0
 have p1:=x0.cell 1
 have p2:=x0.cell 2
 simp at c0 p0 p1 p2
 have hA:=Blk.new W 3 #[.int .i64 r.f,.int .i64 r.t]
 have hB1:=(Below.refl W.heap.size W).alloc (Nat.le_refl _) (.cells #[.int .i64 r.f,.int .i64 r.t] 3)
 go_wp2_with fail
 refine (turns_ok _ [r.f,r.t] 0 T _ (Arr.ints2 hA) H.out.1).mono ?_
 rintro e w2 ⟨rfl,hb2⟩
 have hB2:=hB1.trans (hb2.mono hB1.size)
 have x2:=x0.call hB2
 clear p0 p1 p2 c0
 have p0:=x2.cell 0
 have p1:=x2.cell 1
 have p2:=x2.cell 2
 simp at p0 p1 p2
 have hC:=Blk.new w2 2 #[.int .i64 r.m]
 have hB3:=(Below.refl w2.heap.size w2).alloc (Nat.le_refl _) (.cells #[.int .i64 r.m] 2)
 have hB4:=hB.trans ((hB2.trans (hB3.mono hB2.size)).mono hB.size)
 go_wp2_with fail
 refine (spWithin_ok _ [r.m] (-100000) 100000 _ (Arr.ints1 hC) H.out.2).mono ?_
 rintro e w3 ⟨rfl,hb3⟩
 go_wp2
 go_ret
 exact ⟨rfl,hB4.trans (hb3.mono hB4.size)⟩
end Go.Proofs.YtaihbcmifjmapaaGreat
namespace Go.Proofs.YtaihbcmifjmapaaGreat
open Go.RowKit Go.Shelf Sp
set_option linter.unusedVariables false
set_option maxHeartbeats 400000 in
theorem indexFunc_ru (sv:Value) (l:List Ru) (fn:FuncId) (fs cs:Array Value) (p:Ru→Bool) (w:World)
 (eg:∀ args w,(callFunc fn args).run Tryz.prog w = .ok (.enter fn args) w)
 (hs:Arr w w.heap.size 3 sv l rucell)
 (hcall:∀ x∈l,∀ w1,Below w.heap.size w w1→Calls Tryz.prog fn (fs.push (.agg #[.int .i64 x.f,.int .i64 x.t,.int .i64 x.m])++cs) w1 fun e w2=>e = .returned (.bool (p x))∧Below w1.heap.size w1 w2) :
  Calls Tryz.prog 232 #[sv,.func (.func fn) fs cs] w fun r w'=>r = .returned (.int .i64 (idxOf p 0 l))∧Below w.heap.size w w':=by
 obtain ⟨A,c,rfl,hn,hc,hcell⟩:=hs
 go_enter Tryz.func232,Tryz.ntmps232
 go_wp2
 go_loopw [5,8] (fun x i wr=>∃ k:Nat,k≤l.length∧i = .int .i64 k∧idxOf p 0 l=idxOf p k (l.drop k)∧Below w.heap.size w wr) (fun _ i _=>l.length-(intOf i).toNat)
 case atStart=>exact ⟨0,Nat.zero_le _,rfl,rfl,Below.refl _ _⟩
 case round =>
  obtain ⟨k,hk,rfl,hf,hb⟩:=hrel
  by_cases hlt:k < l.length
  ·obtain ⟨b,off,rfl,hB,hcc⟩:=hcell (by omega)
   obtain ⟨x,hx⟩:∃ x,l[k]? = some x:=⟨l[k],List.getElem?_eq_getElem hlt⟩
   have c0:=(hb.cell (p:=⟨b,off+k*3+0,none⟩) hB).trans (hcc k x hx 0 (by omega))
   have c1:=(hb.cell (p:=⟨b,off+k*3+1,none⟩) hB).trans (hcc k x hx 1 (by omega))
   have c2:=(hb.cell (p:=⟨b,off+k*3+2,none⟩) hB).trans (hcc k x hx 2 (by omega))
   simp only [Nat.add_zero,rucell] at c0 c1 c2
   have hcl:=hcall x (List.mem_of_getElem? hx) wr hb
   rw [idxOf_drop p l k x hx] at hf
   have H:=Lib.hid hf; clear hf
   have HX:=Lib.hid hx; clear hx
   clear hcall hcc hcell
   go_wp2_with (refine hcl.mono ?_; rintro e w1 ⟨rfl,hb1⟩)
   ·go_ret
    exact ⟨by rw [H.out]; simp [*],bthen hb hb1⟩
   ·go_roundw
    case rel=>exact ⟨k+1,by omega,by go_num,by rw [H.out]; simp [*],bthen hb hb1⟩
    case measure=>simp [intOf]; omega
  ·obtain rfl:k=l.length:=by omega
   have H:=Lib.hid hf; clear hf
   go_wp2
   go_ret
   exact ⟨by rw [H.out]; simp [idxOf],hb⟩
theorem containsFunc_ru (sv:Value) (l:List Ru) (fn:FuncId) (fs cs:Array Value) (p:Ru→Bool) (w:World)
 (eg:∀ args w,(callFunc fn args).run Tryz.prog w = .ok (.enter fn args) w)
 (hs:Arr w w.heap.size 3 sv l rucell)
 (hcall:∀ x∈l,∀ w1,Below w.heap.size w w1→Calls Tryz.prog fn (fs.push (.agg #[.int .i64 x.f,.int .i64 x.t,.int .i64 x.m])++cs) w1 fun e w2=>e = .returned (.bool (p x))∧Below w1.heap.size w1 w2) :
  Calls Tryz.prog 130 #[sv,.func (.func fn) fs cs] w fun r w'=>r = .returned (.bool (l.any p))∧Below w.heap.size w w':=by
 have hi:=indexFunc_ru sv l fn fs cs p w eg hs hcall
 have HD:=Lib.hid (idxOf_nonneg p l 0)
 clear hcall hs
 go_enter Tryz.func130,Tryz.ntmps130
 go_wp2_with (go_at_call 232; refine hi.mono ?_; rintro e w1 ⟨rfl,hb1⟩)
 go_ret
 exact ⟨by rw [← HD.out]; simp,hb1⟩
theorem any_none_ru (l:List Ru):(l.any fun _=>false)=false:=by simp
set_option maxRecDepth 100000 in
theorem spSheet_ok (v:Value) (T:Nat) (l:List Ru) (w:World) (hk:SheetOk T l) (hs:SheetV w w.heap.size v T l) :
  Calls Tryz.prog 55 #[v] w fun r w'=>r = .returned (.int .i64 0)∧Below w.heap.size w w':=by
 obtain ⟨A,c,rfl,ha⟩:=hs
 have h1:=hk.few
 have h2:=hk.t1
 have h3:=hk.t20
 go_enter Tryz.func55,Tryz.ntmps55
 go_upto_region 1 with (fail)
 have x0:=Blk.new w 24 #[.int .i64 T,.slice A l.length c]
 have hb:=(Below.refl w.heap.size w).alloc (Nat.le_refl _) (.cells #[.int .i64 T,.slice A l.length c] 24)
 generalize w.alloc (.cells #[.int .i64 T,.slice A l.length c] 24)=W at *
 have ha1:=(ha.below hb).more hb.size
 have p0:=x0.cell 0
 have p1:=x0.cell 1
 simp at p0 p1
 have hA:=Blk.new W 3 #[.int .i64 T]
 have hB1:=(Below.refl W.heap.size W).alloc (Nat.le_refl _) (.cells #[.int .i64 T] 3)
 have HT:=Lib.hid (show ∀ n∈[(T:Int)],(1:Int)≤n∧n≤20 from fun n hn=>by simp at hn; subst hn; omega)
 have HK:=Lib.hid hk
 clear hk h2 h3
 go_wp2_with fail
 refine (turns_ok _ [(T:Int)] 1 20 _ (Arr.ints1 hA) HT.out).mono ?_
 rintro e w2 ⟨rfl,hb2⟩
 have hB2:=hB1.trans (hb2.mono hB1.size)
 have x2:=x0.call hB2
 have ha2:=(ha1.below hB2).more hB2.size
 have hBw:=hb.trans (hB2.mono hb.size)
 clear p0 p1 ha ha1 hA
 have p0:=x2.cell 0
 have p1:=x2.cell 1
 simp at p0 p1
 have hc:=containsFunc_ru (.slice A l.length c) l 128 #[] #[.pointer (some ⟨w.heap.size,0,none⟩)] (fun _=>false) w2 (enters_of Tryz.func128 (by kernel_rfl) rfl) ha2
  (fun r hr w1 hw1=>bad_ok HK.out hr w.heap.size (.slice A l.length c) w1 (x2.call hw1))
 rw [any_none_ru] at hc
 clear x0 x2 ha2
 go_wp2_with (refine hc.mono ?_; rintro e w3 ⟨rfl,hb3⟩)
 go_ret
 exact ⟨rfl,hBw.trans (hb3.mono hBw.size)⟩
theorem slT_ru:SlT 22 27 3 24 (.agg #[.int .i64 0,.int .i64 0,.int .i64 0]):=⟨Tryz.underlying22,by kernel_rfl,rfl,by omega⟩
theorem one_ru (l:List Ru):∀ u∈l.flatMap (cellsOf 3 rucell),u.oneCell'=true:=by
 intro u hu
 simp only [List.mem_flatMap,cellsOf,List.mem_map,List.mem_range] at hu
 obtain ⟨p,_,j,hj,rfl⟩:=hu
 have:j=0∨j=1∨j=2:=by omega
 rcases this with rfl | rfl | rfl <;> rfl
theorem ru_eql (ad:Addr) (n c:Nat) (w:World):(binOp .eql 22 (.slice (some ad) n c) (.slice none 0 0)).run Tryz.prog w = .ok (.bool false) w:=by
 have hu:=Tryz.underlying22
 have h:(Op.equalIn (9999+1) 22 (.slice (some ad) n c) (.slice none 0 0)).run Tryz.prog w = .ok false w:=by
  unfold Op.equalIn
  simp only [Sem.run_bind,run_underlying hu,Result.andThen_ok]
  simp [go_sem]
 show ((Op.equal 22 (.slice (some ad) n c) (.slice none 0 0)) >>= fun b=>pure (.bool b):Sem Value).run Tryz.prog w=_
 simp only [Sem.run_bind]
 unfold Op.equal
 rw [show Op.maxDepth=9999+1 from rfl,h]
 simp
theorem ru_eqn (n c:Nat) (w:World):(binOp .eql 22 (.slice none n c) (.slice none 0 0)).run Tryz.prog w = .ok (.bool true) w:=by
 have hu:=Tryz.underlying22
 have h:(Op.equalIn (9999+1) 22 (.slice none n c) (.slice none 0 0)).run Tryz.prog w = .ok true w:=by
  unfold Op.equalIn
  simp only [Sem.run_bind,run_underlying hu,Result.andThen_ok]
  simp [go_sem]
 show ((Op.equal 22 (.slice none n c) (.slice none 0 0)) >>= fun b=>pure (.bool b):Sem Value).run Tryz.prog w=_
 simp only [Sem.run_bind]
 unfold Op.equal
 rw [show Op.maxDepth=9999+1 from rfl,h]
 simp
attribute [local go_sem] ru_eql ru_eqn
set_option maxRecDepth 100000 in
theorem clone_ok (sv:Value) (l:List Ru) (w:World) (hlen:l.length≤1000) (hs:Arr w w.heap.size 3 sv l rucell) :
  Calls Tryz.prog 233 #[sv] w fun r w'=>∃ A c,r = .returned (.slice A l.length c)∧w'.ownsRow w.heap.size 27 3 (.slice A l.length c) l.length (l.flatMap (cellsOf 3 rucell))∧Below w.heap.size w w':=by
 obtain ⟨A,c,rfl,h1,h2,h3⟩:=id hs
 cases A with
 | none =>
   have hl:l.length=0:=by
    rcases Nat.eq_zero_or_pos l.length with h0 | h0
    ·exact h0
    ·obtain ⟨b,off,hh,_⟩:=h3 h0
     cases hh
   have hnil:l=[]:=List.length_eq_zero_iff.1 hl
   subst hnil
   go_enter Tryz.func233,Tryz.ntmps233
   go_wp2
   go_ret
   exact ⟨none,0,rfl,World.ownsRow_nil _ _ _ _,Below.refl _ _⟩
 | some ad =>
   have hb:=(Below.refl w.heap.size w).alloc (Nat.le_refl _) (.cells #[] 27)
   have hown:=own_empty w w.heap.size 27 3 (Nat.le_refl _)
   have ha:=hs.below hb
   have HO:=one_ru l
   clear h3
   go_enter Tryz.func233,Tryz.ntmps233
   go_upto_region 3 with (fail)
   go_wp2_with (at_builtin; refine wpList_appArr slT_ru rfl (.tmp 5) (.tmp 6) rfl rfl hown rfl ha HO hb.size ?_ ?_ ?_)
   ·omega
   ·omega
   ·intro v' w' hown' hb' hg'
    obtain ⟨A',cap',rfl⟩:=own_form hown'
    go_wp2
    go_ret
    exact ⟨A',cap',rfl,hown',hb.trans hb'⟩
end Go.Proofs.YtaihbcmifjmapaaGreat
