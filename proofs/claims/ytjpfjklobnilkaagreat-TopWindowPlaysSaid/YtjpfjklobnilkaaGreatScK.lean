/- Contracts: met and CheckScale of the scale. -/
import Derived.Test.YtjpfjklobnilkaaGreatScM
namespace Go.Proofs.YtjpfjklobnilkaaGreat
open Go.RowKit Go.Shelf Sc
set_option linter.unusedVariables false
attribute [local go_sem] Oper.semAt_some
set_option maxRecDepth 100000 in
set_option maxHeartbeats 1600000 in
theorem met_ok {g:Nat} {l:List Str} {s:List Tn} {sv:Value} {st:List Int} (w:World) (hS:SongB w g s) (hl:SongOk l) (ho:Ord (tonesL 0 l) s) (hst:ScaleOk l st) (hr:Arr w w.heap.size 1 sv st icell) :
  Calls Tryz.prog 35 #[.pointer (some ⟨g,0,none⟩),sv] w fun r w'=>r = .returned (.agg (mrkA fun i=>if i < l.length then 1 else 0))∧Below w.heap.size w w':=by
 obtain ⟨A,c,hS⟩:=hS.at_
 have hlen:=(ord_in hl ho).1
 have hll:=hl.2.1
 obtain ⟨B,hB⟩:∃ B,B=w.heap.size:=⟨_,rfl⟩
 rw [← hB] at hS hr ⊢
 obtain ⟨sA,sc,rfl, -⟩:=id hr
 refine (callsIn_wide (n:=8)).1 ?_
 refine callsIn_of_wp_marks Tryz.func35 rfl trivial ?_ rfl
 simp only [Tryz.ntmps35,List.size_toArray,List.length_cons,List.length_nil,Nat.reduceAdd,Nat.reduceSub,Array.replicate_succ,Array.replicate_zero,List.push_toArray,List.append_toArray,List.nil_append,List.cons_append]
 refine wpIn_wide.2 ?_
 go_upto_region 1 with (fail)
 rw [← mrk_zero]
 have x1:=Blk.new w 33 #[.slice sA st.length sc]
 have b1:=(Below.refl w.heap.size w).alloc (Nat.le_refl _) (.cells #[.slice sA st.length sc] 33)
 have z1:(w.alloc (.cells #[.slice sA st.length sc] 33)).heap.size=B+1:=by simp [hB]
 have m1:=hS.keep (W':=w.alloc (.cells #[.slice sA st.length sc] 33)) fun q hq=>b1.block q (by omega)
 have r1:=hr.keep (w':=w.alloc (.cells #[.slice sA st.length sc] 33)) fun p hp=>World.cell?_of_block (b1.block _ (by omega))
 rw [← hB] at x1 b1 ⊢
 have HB:=Lib.hid hB
 clear hB hS hr
 generalize w.alloc (.cells #[.slice sA st.length sc] 33)=W1 at *
 have x2:=Blk.new W1 68 (rowA 25 fun _ => .int .i64 0)
 have b2:=(Below.refl W1.heap.size W1).alloc (Nat.le_refl _) (.cells (rowA 25 fun _ => .int .i64 0) 68)
 have z2:(W1.alloc (.cells (rowA 25 fun _ => .int .i64 0) 68)).heap.size=B+2:=by simp [z1]
 replace m1:=m1.call b2
 replace r1:=r1.keep (w':=W1.alloc (.cells (rowA 25 fun _ => .int .i64 0) 68)) fun p hp=>World.cell?_of_block (b2.block _ (by omega))
 replace x1:=x1.call b2
 replace b1:=b1.trans (b2.mono (by omega))
 rw [z1] at x2
 try rw [z1]
 try rw [← HB.out]
 clear b2 z1
 generalize W1.alloc (.cells (rowA 25 fun _ => .int .i64 0) 68)=W2 at *
 go_upto_region 2 with (fail)
 rw [← mrk_zero]
 have x3:=Blk.new W2 68 (rowA 25 fun _ => .int .i64 0)
 have b2:=(Below.refl W2.heap.size W2).alloc (Nat.le_refl _) (.cells (rowA 25 fun _ => .int .i64 0) 68)
 have z3:(W2.alloc (.cells (rowA 25 fun _ => .int .i64 0) 68)).heap.size=B+3:=by simp [z2]
 replace m1:=m1.call b2
 replace r1:=r1.keep (w':=W2.alloc (.cells (rowA 25 fun _ => .int .i64 0) 68)) fun p hp=>World.cell?_of_block (b2.block _ (by omega))
 replace x1:=x1.call b2
 replace x2:=x2.call b2
 replace b1:=b1.trans (b2.mono (by omega))
 rw [z2] at x3
 try rw [z2]
 try rw [← HB.out]
 clear b2 z2
 generalize W2.alloc (.cells (rowA 25 fun _ => .int .i64 0) 68)=W3 at *
 have hcl:=fun ty=>run_clear25 (B+2) W3 ty x3
 have x4:=blk_same 25 0 W3 x3
 have hgc:W3.grownBy (W3.setCells (B+2) 0 (List.replicate 25 (.int .i64 0))) (some (B+2)):=grown_setCells _ _ _
 generalize List.replicate 25 (Value.int .i64 0)=zs at *
 go_upto_region 3 with (fail)
 have hkc:∀ q,q < B+2→(W3.setCells (B+2) 0 zs).heap[q]? = W3.heap[q]? := fun q hq=>hgc.block q (by omega) fun e=>by injection e; omega
 replace m1:=m1.keep (W':=W3.setCells (B+2) 0 zs) fun q hq=>hkc q (by omega)
 replace r1:=r1.keep (w':=W3.setCells (B+2) 0 zs) fun p hp=>World.cell?_of_block (hkc _ (by omega))
 replace x1:Blk (W3.setCells (B+2) 0 zs) B 33 #[.slice sA st.length sc]:=(hkc _ (by omega)).trans x1
 replace x2:Blk (W3.setCells (B+2) 0 zs) (B+1) 68 (rowA 25 fun _ => .int .i64 0):=(hkc _ (by omega)).trans x2
 replace b1:=below_row b1 hgc (by omega) fun r e=>by injection e; omega
 have z4:(W3.setCells (B+2) 0 zs).heap.size=B+3:=by rw [← z3]; simp
 have x5:MrkB (W3.setCells (B+2) 0 zs) (B+2) (marksTo []):=x4
 clear hcl x3 x4 hgc z3 hkc
 generalize W3.setCells (B+2) 0 zs=W4 at *
 go_wp2_with fail
 refine (tones_ok g W4).mono ?_
 rintro e v2 ⟨rfl,rfl⟩
 have x6:=Blk.new W4 52 #[.pointer (some ⟨g,0,none⟩)]
 have b2:=(Below.refl W4.heap.size W4).alloc (Nat.le_refl _) (.cells #[.pointer (some ⟨g,0,none⟩)] 52)
 have z5:(W4.alloc (.cells #[.pointer (some ⟨g,0,none⟩)] 52)).heap.size=B+4:=by simp [z4]
 rw [z4] at x6
 try rw [z4]
 have hin:MtS w (W4.alloc (.cells #[.pointer (some ⟨g,0,none⟩)] 52)) B g s A c (.slice sA st.length sc) st (marksTo []) :=
  ⟨m1.call b2,x1.call b2,r1.keep fun p hp=>World.cell?_of_block (b2.block _ (by omega)),x2.call b2,Blk.call x5 b2,x6,by omega,b1.trans (b2.mono (by omega))⟩
 clear x1 x2 x5 m1 r1 b1 b2 z4
 generalize W4.alloc (.cells #[.pointer (some ⟨g,0,none⟩)] 52)=v2 at *
 go_wp2
 refine (wpIn_wide (n:=8)).1 ?_
 refine wpIn_range_list (F:=Fence.wide) (n:=8) (a:=?aa) rfl (by omega) (gf:=143) (lb:=#[.pointer (some ⟨B+3,0,none⟩)]) ?hgg trivial (enters_of Tryz.func143 (by kernel_rfl) rfl)
  (tones_seq 4 (B+3) v2 hlen hin.sg x6) ?hKt ?hKb (Below.refl _ _) ?hps (fun pre W=>MtS w W B g s A c (.slice sA st.length sc) st (marksTo pre)) ?hI hin (MetAx (Act.tmps ?aa) (B+4)) MetAx.own ?assign ?body ?done
 case hKt=>exact fun h1 h2=>h1.trans h2
 case hKb=>exact fun W y o o' hl _ _ _ k hk=>World.putObj_heap_other (by omega)
 case hgg=>rfl
 case hps=>exact fun _=>rfl
 case hI =>
  rintro pre W W' row hs hg hr
  rw [z5] at hr
  exact hs.grown hg fun r e=>(hr r e).1
 case assign =>
  rintro y pre x post W K hs hpre hsz hK
  have hx:=Blk.new W 101 #[.int .i64 x.lo,.int .i64 x.hi,.int .i64 x.nm]
  have hgA:=World.grownBy_alloc W (.cells #[.int .i64 x.lo,.int .i64 x.hi,.int .i64 x.nm] 101) none
  have hk':=hK ({ tmps:=(_:Array Value),defers:=[] }) (W.alloc (.cells #[.int .i64 x.lo,.int .i64 x.hi,.int .i64 x.nm] 101)) ((KeepsOthers.alloc _ _).from _) (KeepT.of_grown hgA (by have:=hs.sz; omega) fun r e=>by cases e) (hs.grown hgA fun r e=>by cases e) ⟨W.heap.size,by have:=hs.sz; omega,hx,rfl⟩
  simp [encT]
  gi_wp2
  exact hk'
 case body =>
  rintro y pre x post a' W hs ⟨Bx,hBx,bX,rfl⟩ hpre
  simp only [List.setIfInBounds_toArray,List.set_cons_succ,List.set_cons_zero]
  have hmem:x∈s:=by rw [← hpre]; simp
  obtain ⟨k,r,hk1,hk2,hk3,hk4⟩:=ord_name ho hmem
  have hkl:=(List.getElem?_eq_some_iff.1 hk1).1
  have hmt:=hst.met r (List.mem_of_getElem? hk1)
  have HS:=Lib.hid (fun j=>marksTo_snoc (pre:=pre) hk2 j)
  have p0:=bX.cell 0
  have p1:=bX.cell 1
  have p2:=bX.cell 2
  have s0:=hs.sb.cell 0
  simp at p0 p1 p2 s0
  rw [hk2] at p2 bX
  have hcf:=fun w1 hx=>containsFunc_i64 (.slice sA st.length sc) st 79 #[.agg #[.int .i64 x.lo,.int .i64 x.hi,.int .i64 (k:Int)]] #[] (fun n=>decide (x.lo≤n)&&decide (n≤x.hi)) w1 (enters_of Tryz.func79 (by kernel_rfl) rfl) hx (fun n _ w2 _=>by have:=on_ok x n w2; rw [hk2] at this; exact this)
  have hmt2:(st.any fun n=>decide (x.lo≤n)&&decide (n≤x.hi))=true:=by rw [hk3,hk4]; exact hmt
  have hcc:=hcf W (hs.sr.more (by have:=hs.sz; omega))
  rw [hmt2] at hcc
  clear hcf hmt hmt2 hk1 hk3 hk4 hmem hpre hk2
  gi_wp2_with fail
  refine ⟨trivial,(CallsIn.inRound _ (callsIn_wide.2 hcc)).mono ?_⟩
  rintro e W6 ⟨rfl,hb6⟩
  have hs6:=hs.grown (grown_call hb6 none) fun r e=>by cases e
  have bX6:=bX.call hb6
  have hk25:k < 25:=by omega
  have hki:(k:Int) < 25:=by omega
  clear hcc p0 p1 p2 s0
  have p2:=bX6.cell 2
  simp at p2
  have z0:=hs6.mm.at_ hk25
  have z1:=Blk.frozen hs6.mm k
  gi_wp2
  have hs7:=hs6.put (i:=k) (x:=1) (K':=marksTo (pre++[x])) fun j _=>HS.out j
  have hg7:W6.grownBy (W6.setCell ⟨B+2,k,none⟩ (.int .i64 1)) (some (B+2)):=grown_setCell _
  have hsz:=hs.sz
  have hsz6:=hb6.size
  exact ⟨(keeps_cells (grown_call hb6 none) fun r e=>by cases e).trans (keeps_cells hg7 fun r e=>by injection e; exact .inl (by omega)),
   (KeepT.of_grown (grown_call hb6 none) (by omega) fun r e=>by cases e).trans (KeepT.of_grown hg7 (by omega) fun r e=>by injection e; omega),hs7⟩
 case done =>
  rintro D W hD hs hdf
  rw [z5] at hD
  have hsz:=hs.sz
  obtain ⟨cs,hcs⟩:∃ cs,cs=mrkA (marksTo s):=⟨_,rfl⟩
  have hs40:cs.size=25:=by rw [hcs]; exact rowA_size _ _
  have hi40:(Tryz.prog.info? 68).map (·.size)=some cs.size:=by rw [hs40]; kernel_rfl
  have h1c:cs.all (·.oneCell')=true:=by
   rw [hcs,Array.all_eq_true_iff_forall_mem]
   intro x hx
   simp [mrkA,rowA] at hx
   obtain ⟨u, -,rfl⟩:=hx
   rfl
  have x4:Blk W (B+2) 68 cs:=by rw [hcs]; exact hs.mm
  have x1:=hs.rs
  have hset:Blk (W.setRow (B+1) cs) (B+1) 68 cs:=setRow_heap W (B+1) _ _ 68 (0,0) x1
  have hgr:W.grownBy (W.setRow (B+1) cs) (some (B+1)):=by
   refine ⟨rfl,rfl,rfl,by simp [World.setRow],fun k hk hne=>?_⟩
   have:¬ B+1=k:=fun e=>hne (by rw [e])
   simp [World.setRow,Array.getElem?_setIfInBounds,Array.getElem?_modify,this]
  have hbw:=hs.bw
  have HCS:Hid (cs=mrkA fun i=>if i < l.length then 1 else 0):=by
   rw [Hid,hcs]
   exact rowA_congr fun i _=>by rw [marks_all ho]
  clear hcs
  go_wp2_with (first | (refine wpList_load_row rfl 68 (.tmp 5) rfl (B+2) rfl 68 cs (0,0) _ x4 Tryz.underlying68 rfl hi40 ?_) | (refine wpList_store_row rfl 68 (.tmp 4) (.tmp 20) rfl (B+1) cs rfl rfl 68 _ x1 hi40 (by rw [rowA_size,hs40]) h1c ?_))
  have hdf2:(W.setRow (B+1) cs).heap[D]? = some (.deferred (some [])):=(hgr.block D (Array.getElem?_eq_some_iff.1 hdf).1 fun e=>by injection e; omega).trans hdf
  have hgp:=grownBy_putObj' (W.setRow (B+1) cs) D (.deferred none)
  have hset2:Blk ((W.setRow (B+1) cs).putObj D (.deferred none)) (B+1) 68 cs:=(hgp.block (B+1) hset.lt fun e=>by injection e; omega).trans hset
  have hbw2:=below_row (below_row hbw hgr (by omega) fun r e=>by injection e; omega) hgp (by have:=hgr.size; omega) fun r e=>by injection e; omega
  refine ⟨by simp,.inl ⟨_,_,rfl,run_takeDeferred (w:=W.setRow (B+1) cs) hdf2,?_⟩⟩
  exact ⟨.agg cs,results_cell_row Tryz.results35 _ _ (B+1) 68 cs (0,0) _ rfl hset2 Tryz.underlying68 rfl hi40,by rw [HCS.out],hbw2⟩
end Go.Proofs.YtjpfjklobnilkaaGreat
