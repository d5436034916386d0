/- Contract of high: a short scale, and the tones that bound it. -/
import Derived.Test.YtjpfjklobnilkaaGreatScH
import Derived.Test.YtjpfjklobnilkaaGreatPlayE
import Derived.WalkMore
namespace Go.Proofs.YtjpfjklobnilkaaGreat
open Go.RowKit Go.Shelf Sc
set_option linter.unusedVariables false
attribute [local go_sem] Oper.semAt_some
set_option maxRecDepth 100000 in
set_option maxHeartbeats 1600000 in
theorem high_ok {g:Nat} {s:List Tn} (w:World) (hS:SongB w g s) (hlen:s.length≤12) (hv:∀ t∈s,0≤t.lo∧t.lo≤t.hi∧t.hi≤10000) :
  Calls Tryz.prog 20 #[.pointer (some ⟨g,0,none⟩),.agg #[.int .i64 1,.int .i64 0]] w fun r w'=>∃ sv nv,r = .returned (.tuple #[sv,nv])∧Arr w' w'.heap.size 1 sv (stepsF s) icell∧Arr w' w'.heap.size 1 nv (namesF s) icell∧Below w.heap.size w w':=by
 obtain ⟨A,c,hS⟩:=hS.at_
 obtain ⟨B,hB⟩:∃ B,B=w.heap.size:=⟨_,rfl⟩
 rw [← hB] at hS ⊢
 refine (callsIn_wide (n:=8)).1 ?_
 refine callsIn_of_wp_marks Tryz.func20 rfl trivial ?_ rfl
 simp only [Tryz.ntmps20,List.size_toArray,List.length_cons,List.length_nil,Nat.reduceAdd,Nat.reduceSub,Array.replicate_succ,Array.replicate_zero,List.push_toArray,List.append_toArray,List.nil_append,List.cons_append]
 refine wpIn_wide.2 ?_
 go_upto_region 1 with (fail)
 have x1:=Blk.new w 32 #[.int .i64 1,.int .i64 0]
 have b1:=(Below.refl w.heap.size w).alloc (Nat.le_refl _) (.cells #[.int .i64 1,.int .i64 0] 32)
 have z1:(w.alloc (.cells #[.int .i64 1,.int .i64 0] 32)).heap.size=B+1:=by simp [hB]
 have m1:=hS.keep (W':=w.alloc (.cells #[.int .i64 1,.int .i64 0] 32)) fun q hq=>b1.block q (by omega)
 rw [← hB] at x1 b1 ⊢
 have HB:=Lib.hid hB
 clear hB
 generalize w.alloc (.cells #[.int .i64 1,.int .i64 0] 32)=W1 at *
 refine wp_scope_straight ?_
 go_upto_region 2 with (fail)
 have x2:=Blk.new W1 33 #[.slice none 0 0]
 have b2:=(Below.refl W1.heap.size W1).alloc (Nat.le_refl _) (.cells #[.slice none 0 0] 33)
 have z2:(W1.alloc (.cells #[.slice none 0 0] 33)).heap.size=B+2:=by simp [z1]
 replace m1:=m1.call b2
 replace x1:=x1.call b2
 replace b1:=b1.trans (b2.mono (by omega))
 rw [z1] at x2
 try rw [z1]
 try rw [← HB.out]
 try simp only [Nat.add_assoc,Nat.reduceAdd]
 clear b2 z1
 generalize W1.alloc (.cells #[.slice none 0 0] 33)=W2 at *
 go_upto_region 3 with (fail)
 have x3:=Blk.new W2 22 #[.slice none 0 0]
 have b2:=(Below.refl W2.heap.size W2).alloc (Nat.le_refl _) (.cells #[.slice none 0 0] 22)
 have z3:(W2.alloc (.cells #[.slice none 0 0] 22)).heap.size=B+3:=by simp [z2]
 replace m1:=m1.call b2
 replace x1:=x1.call b2
 replace x2:=x2.call b2
 replace b1:=b1.trans (b2.mono (by omega))
 rw [z2] at x3
 try rw [z2]
 try rw [← HB.out]
 try simp only [Nat.add_assoc,Nat.reduceAdd]
 clear b2 z2
 generalize W2.alloc (.cells #[.slice none 0 0] 22)=W3 at *
 go_wp2_with fail
 have x4:=Blk.new W3 2 #[.int .i64 (-1)]
 have b2:=(Below.refl W3.heap.size W3).alloc (Nat.le_refl _) (.cells #[.int .i64 (-1)] 2)
 have z4:(W3.alloc (.cells #[.int .i64 (-1)] 2)).heap.size=B+4:=by simp [z3]
 replace m1:=m1.call b2
 replace x1:=x1.call b2
 replace x2:=x2.call b2
 replace x3:=x3.call b2
 replace b1:=b1.trans (b2.mono (by omega))
 rw [z3] at x4
 try rw [z3]
 try rw [← HB.out]
 try simp only [Nat.add_assoc,Nat.reduceAdd]
 clear b2 z3
 generalize W3.alloc (.cells #[.int .i64 (-1)] 2)=W4 at *
 apply wp_label
 go_wp2_with fail
 refine (tones_ok g W4).mono ?_
 rintro e v2 ⟨rfl,rfl⟩
 have x5:=Blk.new W4 52 #[.pointer (some ⟨g,0,none⟩)]
 have b2:=(Below.refl W4.heap.size W4).alloc (Nat.le_refl _) (.cells #[.pointer (some ⟨g,0,none⟩)] 52)
 have z5:(W4.alloc (.cells #[.pointer (some ⟨g,0,none⟩)] 52)).heap.size=B+5:=by simp [z4]
 replace m1:=m1.call b2
 replace x1:=x1.call b2
 replace x2:=x2.call b2
 replace x3:=x3.call b2
 replace x4:=x4.call b2
 replace b1:=b1.trans (b2.mono (by omega))
 rw [z4] at x5
 try rw [z4]
 try rw [← HB.out]
 try simp only [Nat.add_assoc,Nat.reduceAdd]
 clear b2 z4
 generalize W4.alloc (.cells #[.pointer (some ⟨g,0,none⟩)] 52)=v2 at *
 have hin:HiI w B g s A c [] v2:=⟨none,0,0,none,0,rfl,⟨m1,x1,x2,x3,x4,World.ownsRow_nil _ _ _ _,World.ownsRow_nil _ _ _ _,by omega,b1⟩,x5⟩
 clear x1 x2 x3 x4 b1 hS
 go_wp2
 refine (wpIn_wide (n:=8)).1 ?_
 refine wpIn_range_list (F:=Fence.wide) (n:=8) (a:=?aa) rfl (by omega) (gf:=143) (lb:=#[.pointer (some ⟨B+4,0,none⟩)]) ?hgg trivial (enters_of Tryz.func143 (by kernel_rfl) rfl)
  (tones_seq 4 (B+4) v2 hlen m1 x5) ?hKt ?hKb (Below.refl _ _) ?hps (HiI w B g s A c) ?hI hin (ToneAx (Act.tmps ?aa) (B+5)) ToneAx.own ?assign ?body ?done
 case hKt=>exact fun h1 h2=>h1.trans h2
 case hKb=>exact fun W y o o' hl _ _ _ k hk=>World.putObj_heap_other (by omega)
 case hgg=>rfl
 case hps=>exact fun _=>rfl
 case hI =>
  rintro pre W W' row ⟨sA,n,sc,nA,nc,hn,hs,hx⟩ hg hr
  rw [z5] at hr
  exact ⟨sA,n,sc,nA,nc,hn,hs.grown hg hr,tone_own hx hg hr⟩
 case assign =>
  rintro y pre x post W K ⟨sA,n,sc,nA,nc,hn,hs,hxb⟩ hpre hsz hK
  have hx:=Blk.new W 101 #[.int .i64 x.lo,.int .i64 x.hi,.int .i64 x.nm]
  have hgA:=World.grownBy_alloc W (.cells #[.int .i64 x.lo,.int .i64 x.hi,.int .i64 x.nm] 101) none
  have hk':=hK ({ tmps:=(_:Array Value),defers:=[] }) (W.alloc (.cells #[.int .i64 x.lo,.int .i64 x.hi,.int .i64 x.nm] 101)) ((KeepsOthers.alloc _ _).from _) (KeepT.of_grown hgA (by have:=hs.sz; omega) fun r e=>by cases e) ⟨sA,n,sc,nA,nc,hn,hs.grown hgA (fun r e=>by cases e),hxb.alloc _⟩ ⟨W.heap.size,by have:=hs.sz; omega,hx,rfl⟩
  simp [encT]
  gi_wp2
  exact hk'
 case body =>
  rintro y pre x post a' W ⟨sA,n,sc,nA,nc,hn,hs,hxb⟩ ⟨Bx,hBx,bX,rfl⟩ hpre
  simp only [List.setIfInBounds_toArray,List.set_cons_succ,List.set_cons_zero]
  have hmem:x∈s:=by rw [← hpre]; simp
  obtain ⟨v1,v2',v3⟩:=hv x hmem
  have hsn:=runH_snoc pre x
  have hfew:(runH pre).2.length≤12:=by
   have h1:=runH_few pre (-1,[])
   have h2:pre.length≤s.length:=by rw [← hpre]; simp
   simp only [List.length_nil] at h1
   show (pre.foldl stH (-1,[])).2.length≤12
   omega
  have hla:=runH_last pre (-1,[]) (fun t ht=>by have:=hv t (by rw [← hpre]; simp [ht]); omega) ⟨by decide,by decide⟩
  change -1≤(runH pre).1∧(runH pre).1≤10000 at hla
  obtain ⟨q,hq0⟩:∃ q,q=runH pre:=⟨_,rfl⟩
  rw [← hq0] at hn hs hsn hfew hla
  have HQ:=Lib.hid hsn
  have hn12:n≤12:=by omega
  have HN:=Lib.hid hn
  clear hsn hpre hmem hq0 hn hfew
  have l0:=hs.la.cell 0
  have p0:=bX.cell 0
  have p1:=bX.cell 1
  have p2:=bX.cell 2
  have k0:=hs.cl.cell 0
  have k1:=hs.cl.cell 1
  simp at l0 p0 p1 p2 k0 k1
  by_cases hle:x.lo≤q.1
  ·have d1:decide (x.lo≤q.1)=true:=decide_eq_true hle
   have hq:runH (pre++[x])=q:=by rw [HQ.out,stH,if_pos hle]
   have HR:=Lib.hid hq
   clear hle HQ hq
   gi_wp2
   exact ⟨KeepsFrom.refl _ _,fun k hk=>rfl,sA,n,sc,nA,nc,by rw [HR.out]; exact HN.out,by rw [HR.out]; exact hs,hxb⟩
  ·have d1:decide (x.lo≤q.1)=false:=decide_eq_false hle
   have hq:runH (pre++[x])=(x.hi,q.2++[x]):=by rw [HQ.out,stH,if_neg hle]
   have HR:=Lib.hid hq
   clear hle HQ hq
   have d2:decide (x.hi < x.lo)=false:=decide_eq_false (by omega)
   gi_upto_region 8 with fail
   by_cases h1:1≤x.hi
   ·have d5:decide (1≤x.hi)=true:=decide_eq_true h1
    have d6:decide (x.hi≤0)=false:=decide_eq_false (by omega)
    clear h1
    gi_upto_region 10 with fail
    have s0:=hs.st.cell 0
    simp at s0
    have hszW:=hs.sz
    clear l0 k0 k1 d1 d5
    refine wpIn_region_plain (by rfl) ?_
    go_wp2_with (at_builtin; refine wpList_app2 slT_i64 rfl (.tmp 35) (.tmp 37) rfl rfl hs.so rfl rfl one_1 hszW ?_ ?_ ?_)
    any_goals omega
    intro v4 w4 hown4 hg4 hat4
    have hown5:w4.ownsRow (B+5) 2 1 v4 (n+1) ((q.2.map (·.hi)++[x.hi]).flatMap (cellsOf 1 icell)):=by
     rw [List.flatMap_append]
     exact hown4
    obtain ⟨A4,c4,rfl⟩:=own_form hown5
    have st4:Blk w4 (B+1) 33 #[.slice sA n sc]:=hs.st.grown hg4 fun e=>by have:=(own_cells hs.so e.symm).1; omega
    have bX4:=bX.grown hg4 (own_blk_ne hs.so bX (by decide))
    have hxb4:=hxb.grown hg4 (own_blk_ne hs.so hxb (by decide))
    have z0:=st4.cell 0
    have z1:=st4.frozen 0
    simp at z0
    go_wp2
    refine NoP_norm ?_
    have hs5:=hs.app1 hg4 hown5
    have hg5:w4.grownBy (w4.setCell ⟨B+1,0,none⟩ (.slice A4 (n+1) c4)) (some (B+1)):=grown_setCell _
    have hK1:KeepsFrom v2.heap.size W (w4.setCell ⟨B+1,0,none⟩ (.slice A4 (n+1) c4)) :=
     (keeps_cells hg4 fun r e => .inr (own_cells hs.so e).2).trans (keeps_cells hg5 fun r e=>by injection e; exact .inl (by omega))
    have hK2:KeepT B (B+4) W (w4.setCell ⟨B+1,0,none⟩ (.slice A4 (n+1) c4)) :=
     (KeepT.of_grown hg4 (by omega) fun r e=>by have:=(own_cells hs.so e).1; omega).trans (KeepT.of_grown hg5 (by have:=hg4.size; omega) fun r e=>by injection e; omega)
    have bX5:=bX4.grown hg5 fun e=>by injection e; omega
    have hxb5:=hxb4.grown hg5 fun e=>by injection e; omega
    clear st4 bX4 hxb4 z0 z1 hg5 hg4 hown4 hown5 hat4 hs bX hxb s0 p0 p1 p2
    generalize w4.setCell ⟨B+1,0,none⟩ (.slice A4 (n+1) c4)=w5 at *
    have p0:=bX5.cell 0
    have p1:=bX5.cell 1
    have p2:=bX5.cell 2
    have s0:=hs5.nm.cell 0
    simp at p0 p1 p2 s0
    gi_upto_region 12 with fail
    have hszW5:=hs5.sz
    refine wpIn_region_plain (by rfl) ?_
    go_wp2_with (at_builtin; refine wpList_app2 slT_int rfl (.tmp 44) (.tmp 47) rfl rfl hs5.no rfl rfl one_1 hszW5 ?_ ?_ ?_)
    any_goals omega
    intro v6 w6 hown6 hg6 hat6
    have hown7:w6.ownsRow (B+5) 3 1 v6 (n+1) ((q.2.map (·.nm)++[x.nm]).flatMap (cellsOf 1 icell)):=by
     rw [List.flatMap_append]
     exact hown6
    obtain ⟨A6,c6,rfl⟩:=own_form hown7
    have nm6:Blk w6 (B+2) 22 #[.slice nA n nc]:=hs5.nm.grown hg6 fun e=>by have:=(own_cells hs5.no e.symm).1; omega
    have hxb6:=hxb5.grown hg6 (own_blk_ne hs5.no hxb5 (by decide))
    have z0:=nm6.cell 0
    have z1:=nm6.frozen 0
    simp at z0
    go_wp2
    refine NoP_norm ?_
    have hs7:=hs5.app2 hg6 hown7
    have hg7:w6.grownBy (w6.setCell ⟨B+2,0,none⟩ (.slice A6 (n+1) c6)) (some (B+2)):=grown_setCell _
    have hK3:=hK1.trans ((keeps_cells hg6 fun r e => .inr (own_cells hs5.no e).2).trans (keeps_cells hg7 fun r e=>by injection e; exact .inl (by omega)))
    have hK4:=hK2.trans ((KeepT.of_grown hg6 (by omega) fun r e=>by have:=(own_cells hs5.no e).1; omega).trans (KeepT.of_grown hg7 (by have:=hg6.size; omega) fun r e=>by injection e; omega))
    have hxb7:=hxb6.grown hg7 fun e=>by injection e; omega
    clear nm6 hxb6 z0 z1 hg7 hg6 hown6 hown7 hat6 hs5 bX5 hxb5 s0 p0 p1 p2 hK1 hK2
    generalize w6.setCell ⟨B+2,0,none⟩ (.slice A6 (n+1) c6)=w7 at *
    have l0:=hs7.la.cell 0
    have l1:=hs7.la.frozen 0
    simp at l0
    gi_wp2
    have hs8:=hs7.last_ x.hi
    have hg8:w7.grownBy (w7.setCell ⟨B+3,0,none⟩ (.int .i64 x.hi)) (some (B+3)):=grown_setCell _
    have hsz7:=hs7.sz
    refine ⟨hK3.trans (keeps_cells hg8 fun r e=>by injection e; exact .inl (by omega)),hK4.trans (KeepT.of_grown hg8 (by omega) fun r e=>by injection e; omega),A4,n+1,c4,A6,c6,?_,?_,hxb7.grown hg8 fun e=>by injection e; omega⟩
    ·rw [HR.out]
     simp [HN.out]
    ·rw [HR.out]
     simpa using hs8
   ·have d5:decide (1≤x.hi)=false:=decide_eq_false h1
    clear h1
    gi_upto_region 10 with fail
    have s0:=hs.st.cell 0
    simp at s0
    have hszW:=hs.sz
    clear l0 k0 k1 d1 d5
    refine wpIn_region_plain (by rfl) ?_
    go_wp2_with (at_builtin; refine wpList_app2 slT_i64 rfl (.tmp 35) (.tmp 37) rfl rfl hs.so rfl rfl one_1 hszW ?_ ?_ ?_)
    any_goals omega
    intro v4 w4 hown4 hg4 hat4
    have hown5:w4.ownsRow (B+5) 2 1 v4 (n+1) ((q.2.map (·.hi)++[x.hi]).flatMap (cellsOf 1 icell)):=by
     rw [List.flatMap_append]
     exact hown4
    obtain ⟨A4,c4,rfl⟩:=own_form hown5
    have st4:Blk w4 (B+1) 33 #[.slice sA n sc]:=hs.st.grown hg4 fun e=>by have:=(own_cells hs.so e.symm).1; omega
    have bX4:=bX.grown hg4 (own_blk_ne hs.so bX (by decide))
    have hxb4:=hxb.grown hg4 (own_blk_ne hs.so hxb (by decide))
    have z0:=st4.cell 0
    have z1:=st4.frozen 0
    simp at z0
    go_wp2
    refine NoP_norm ?_
    have hs5:=hs.app1 hg4 hown5
    have hg5:w4.grownBy (w4.setCell ⟨B+1,0,none⟩ (.slice A4 (n+1) c4)) (some (B+1)):=grown_setCell _
    have hK1:KeepsFrom v2.heap.size W (w4.setCell ⟨B+1,0,none⟩ (.slice A4 (n+1) c4)) :=
     (keeps_cells hg4 fun r e => .inr (own_cells hs.so e).2).trans (keeps_cells hg5 fun r e=>by injection e; exact .inl (by omega))
    have hK2:KeepT B (B+4) W (w4.setCell ⟨B+1,0,none⟩ (.slice A4 (n+1) c4)) :=
     (KeepT.of_grown hg4 (by omega) fun r e=>by have:=(own_cells hs.so e).1; omega).trans (KeepT.of_grown hg5 (by have:=hg4.size; omega) fun r e=>by injection e; omega)
    have bX5:=bX4.grown hg5 fun e=>by injection e; omega
    have hxb5:=hxb4.grown hg5 fun e=>by injection e; omega
    clear st4 bX4 hxb4 z0 z1 hg5 hg4 hown4 hown5 hat4 hs bX hxb s0 p0 p1 p2
    generalize w4.setCell ⟨B+1,0,none⟩ (.slice A4 (n+1) c4)=w5 at *
    have p0:=bX5.cell 0
    have p1:=bX5.cell 1
    have p2:=bX5.cell 2
    have s0:=hs5.nm.cell 0
    simp at p0 p1 p2 s0
    gi_upto_region 12 with fail
    have hszW5:=hs5.sz
    refine wpIn_region_plain (by rfl) ?_
    go_wp2_with (at_builtin; refine wpList_app2 slT_int rfl (.tmp 44) (.tmp 47) rfl rfl hs5.no rfl rfl one_1 hszW5 ?_ ?_ ?_)
    any_goals omega
    intro v6 w6 hown6 hg6 hat6
    have hown7:w6.ownsRow (B+5) 3 1 v6 (n+1) ((q.2.map (·.nm)++[x.nm]).flatMap (cellsOf 1 icell)):=by
     rw [List.flatMap_append]
     exact hown6
    obtain ⟨A6,c6,rfl⟩:=own_form hown7
    have nm6:Blk w6 (B+2) 22 #[.slice nA n nc]:=hs5.nm.grown hg6 fun e=>by have:=(own_cells hs5.no e.symm).1; omega
    have hxb6:=hxb5.grown hg6 (own_blk_ne hs5.no hxb5 (by decide))
    have z0:=nm6.cell 0
    have z1:=nm6.frozen 0
    simp at z0
    go_wp2
    refine NoP_norm ?_
    have hs7:=hs5.app2 hg6 hown7
    have hg7:w6.grownBy (w6.setCell ⟨B+2,0,none⟩ (.slice A6 (n+1) c6)) (some (B+2)):=grown_setCell _
    have hK3:=hK1.trans ((keeps_cells hg6 fun r e => .inr (own_cells hs5.no e).2).trans (keeps_cells hg7 fun r e=>by injection e; exact .inl (by omega)))
    have hK4:=hK2.trans ((KeepT.of_grown hg6 (by omega) fun r e=>by have:=(own_cells hs5.no e).1; omega).trans (KeepT.of_grown hg7 (by have:=hg6.size; omega) fun r e=>by injection e; omega))
    have hxb7:=hxb6.grown hg7 fun e=>by injection e; omega
    clear nm6 hxb6 z0 z1 hg7 hg6 hown6 hown7 hat6 hs5 bX5 hxb5 s0 p0 p1 p2 hK1 hK2
    generalize w6.setCell ⟨B+2,0,none⟩ (.slice A6 (n+1) c6)=w7 at *
    have l0:=hs7.la.cell 0
    have l1:=hs7.la.frozen 0
    simp at l0
    gi_wp2
    have hs8:=hs7.last_ x.hi
    have hg8:w7.grownBy (w7.setCell ⟨B+3,0,none⟩ (.int .i64 x.hi)) (some (B+3)):=grown_setCell _
    have hsz7:=hs7.sz
    refine ⟨hK3.trans (keeps_cells hg8 fun r e=>by injection e; exact .inl (by omega)),hK4.trans (KeepT.of_grown hg8 (by omega) fun r e=>by injection e; omega),A4,n+1,c4,A6,c6,?_,?_,hxb7.grown hg8 fun e=>by injection e; omega⟩
    ·rw [HR.out]
     simp [HN.out]
    ·rw [HR.out]
     simpa using hs8
 case done =>
  rintro D W hD ⟨sA,n,sc,nA,nc,hn,hs,hxb⟩ hdf
  have HN:=Lib.hid hn
  have hsz:=hs.sz
  rw [z5] at hD
  have s0:=hs.st.cell 0
  have n0:=hs.nm.cell 0
  simp at s0 n0
  have f0:=Ext.of s0
  have f1:=Ext.of n0
  clear hn s0 n0
  go_upto_region 14 with (fail)
  refine wp_region_ext (by kernel_rfl) (by kernel_rfl) ?_
  repeat (go_big_quiet_step (fail))
  refine wpQuiet_nil ?_
  intro _ hw'
  obtain ⟨xr,hw''⟩:=hw'
  subst hw''
  have hb:=xr.h
  have hs2:=hs.grown (grown_call hb none) fun r e=>by cases e
  have hdf2:xr.w.heap[D]? = some (.deferred (some [])):=(hb.block D (Array.getElem?_eq_some_iff.1 hdf).1).trans hdf
  generalize xr.w=w6 at *
  clear f0 f1 hb hs hxb hdf
  go_wp2
  rw [Exit.noGoto_ret]
  have hgp:=grownBy_putObj' w6 D (.deferred none)
  have hs3:=hs2.grown hgp fun r e=>by
   injection e with e
   subst e
   exact ⟨hD,_,hdf2,rfl⟩
  have hq:=runH_all s
  obtain ⟨q,hq0⟩:∃ q,q=runH s:=⟨_,rfl⟩
  rw [← hq0] at hs3 hq
  have hso:=hs3.so
  have hno:=hs3.no
  have hbw:=hs3.bw
  have hnl:n=(stepsF s).length:=by unfold stepsF; rw [List.length_map,HN.out,← hq0,hq]
  have hnm:n=(namesF s).length:=by unfold namesF; rw [List.length_map,HN.out,← hq0,hq]
  rw [hq] at hso hno
  have aso:Arr (w6.putObj D (.deferred none)) (w6.putObj D (.deferred none)).heap.size 1 (.slice sA n sc) (stepsF s) icell:=by
   rw [hnl] at hso ⊢
   exact Arr.of_own hso
  have ano:Arr (w6.putObj D (.deferred none)) (w6.putObj D (.deferred none)).heap.size 1 (.slice nA n nc) (namesF s) icell:=by
   rw [hnm] at hno ⊢
   exact Arr.of_own hno
  clear hs2 hs3 hq hq0 hso hno hnl hnm hgp
  simp +zetaDelta only [go_sem,Exit.inBlock,Exit.then]
  refine ⟨by simp,.inl ⟨_,_,rfl,run_takeDeferred (w:=w6) hdf2,?_⟩⟩
  exact ⟨.tuple #[.slice sA n sc,.slice nA n nc],by simp [results,Tryz.results20,go_sem],_,_,rfl,aso,ano,hbw⟩
end Go.Proofs.YtjpfjklobnilkaaGreat
