/- Contracts: Fewest and Apart of the scale. -/
import Derived.Test.YtjpfjklobnilkaaGreatScI
import Derived.Test.YtjpfjklobnilkaaGreatScA
import Derived.Test.YtjpfjklobnilkaaGreatPlayG
namespace Go.Proofs.YtjpfjklobnilkaaGreat
open Go.RowKit Go.Shelf Go.Sort Sc
set_option linter.unusedVariables false
theorem names_pos {l:List Str} {s:List Tn} (hl:SongOk l) (ho:Ord (tonesL 0 l) s):0 < (namesF s).length:=by
 rw [← steps_names]
 have h1:=hl.1
 obtain ⟨r,hr⟩:∃ r,r∈l:=⟨l[0],List.getElem_mem (by omega)⟩
 obtain ⟨x,hx,_⟩:=meetsB_iff.1 ((short_ok hl ho).met r hr)
 exact List.length_pos_of_mem hx
theorem ord_in {l:List Str} {s:List Tn} (hl:SongOk l) (ho:Ord (tonesL 0 l) s):s.length≤12∧∀ t∈s,0≤t.lo∧t.lo≤t.hi∧t.hi≤10000:=by
 refine ⟨?_,fun t ht=>?_⟩
 ·have:=ho.2.2
  rw [tonesL_len] at this
  have:=hl.2.1
  omega
 ·obtain ⟨r,hr,h1,h2⟩:=ord_tone ho ht
  have:=hl.2.2 r hr
  omega
set_option maxRecDepth 100000 in
theorem scFewest_ok (sv:Value) (l:List Str) (w:World) (hl:SongOk l) (hs:Arr w w.heap.size 2 sv l scell) :
  Calls Tryz.prog 6 #[sv] w fun r w'=>∃ st s,r = .returned (.tuple #[st,.int .i64 0])∧Ord (tonesL 0 l) s∧Arr w' w'.heap.size 1 st (stepsF s) icell∧Below w.heap.size w w':=by
 have hc:=checkSong_ok sv l w hl hs
 have HS:=Lib.hid hs
 have HL:=Lib.hid hl
 obtain ⟨A,c,rfl, -, -, -⟩:=hs
 clear hl
 go_enter Tryz.func6,Tryz.ntmps6
 go_wp2_with fail
 refine hc.mono ?_
 rintro e w1 ⟨rfl,hb1⟩
 clear hc
 go_wp2_with fail
 refine (newSong_ok _ l w1 HL.out ((HS.out.below hb1).more hb1.size)).mono ?_
 rintro e w2 ⟨g,s,rfl,ho,hsb,hb2⟩
 obtain ⟨h12,hv⟩:=ord_in HL.out ho
 have hb3:=hb1.trans (hb2.mono hb1.size)
 go_wp2_with fail
 refine (high_ok w2 hsb h12 hv).mono ?_
 rintro e w3 ⟨st,nv,rfl,ha, -,hb4⟩
 have hb5:=hb3.trans (hb4.mono hb3.size)
 go_wp2
 go_ret2
 exact ⟨st,s,rfl,ho,ha,hb5⟩
set_option maxRecDepth 100000 in
theorem scApart_ok (sv:Value) (l:List Str) (w:World) (hl:SongOk l) (hs:Arr w w.heap.size 2 sv l scell) :
  Calls Tryz.prog 7 #[sv] w fun r w'=>∃ s A c,r = .returned (.tuple #[.slice A (namesF s).length c,.int .i64 0])∧Ord (tonesL 0 l) s∧Below w.heap.size w w':=by
 have hc:=checkSong_ok sv l w hl hs
 have HS:=Lib.hid hs
 have HL:=Lib.hid hl
 obtain ⟨A,c,rfl, -, -, -⟩:=hs
 clear hl
 go_enter Tryz.func7,Tryz.ntmps7
 go_wp2_with fail
 refine hc.mono ?_
 rintro e w1 ⟨rfl,hb1⟩
 clear hc
 go_wp2_with fail
 refine (newSong_ok _ l w1 HL.out ((HS.out.below hb1).more hb1.size)).mono ?_
 rintro e w2 ⟨g,s,rfl,ho,hsb,hb2⟩
 obtain ⟨h12,hv⟩:=ord_in HL.out ho
 have hb3:=hb1.trans (hb2.mono hb1.size)
 go_wp2_with fail
 refine (high_ok w2 hsb h12 hv).mono ?_
 rintro e w4 ⟨st,nv,rfl, -,harr,hb4⟩
 have hB4:=hb3.trans (hb4.mono hb3.size)
 have hwl:(namesF s).length≤12:=by
  have h1:=steps_few s
  have h2:=steps_names s
  omega
 have hpos:=names_pos HL.out ho
 clear hb1 hb2 hb3 hb4 hsb hv h12
 obtain ⟨z,hz0⟩:∃ z,z=namesF s:=⟨_,rfl⟩
 rw [← hz0] at harr hwl hpos
 have HZ:=Lib.hid hz0
 clear hz0
 obtain ⟨nA,cap,rfl, -⟩:=id harr
 have hmk:=run_mk slT_int z.length (by omega) (by omega)
 go_upto_region 6 with (fail)
 have hx:=Blk.new w4 3 (madeCells (Value.int .i64 0).cells (z.length * 1))
 have hz:madeCells (Value.int .i64 0).cells (z.length * 1)=madeCells #[.int .i64 0] z.length:=by rw [Nat.mul_one]; rfl
 rw [hz] at hx
 have hsx:(madeCells #[Value.int .i64 0] z.length).size=z.length * 1:=by simp [size_madeCells]
 have hbW:=(Below.refl w4.heap.size w4).alloc (Nat.le_refl _) (.cells (madeCells #[.int .i64 0] z.length) 3)
 generalize w4.alloc (.cells (madeCells #[.int .i64 0] z.length) 3)=W5 at *
 have harrW:=(harr.below hbW).more hbW.size
 have hcp:=fun ty=>run_copy_full W5 22 22 ty 3 1 w4.heap.size z.length z.length nA cap _ 3 (z.flatMap (cellsOf 1 icell)) Tryz.underlying22 (by kernel_rfl) hx (flat_len _ _ _) hsx (cells_arr harrW (by omega)) (fun v hv=>by
  obtain ⟨x,_,hx⟩:=List.mem_flatMap.1 hv
  simp [cellsOf,List.range_succ,icell] at hx
  subst hx
  rfl)
 have hx6:Blk (W5.setRow w4.heap.size (z.flatMap (cellsOf 1 icell)).toArray) w4.heap.size 3 (z.flatMap (cellsOf 1 icell)).toArray:=setRow_heap W5 w4.heap.size _ _ 3 (0,0) hx
 have hb6:Below w4.heap.size w4 (W5.setRow w4.heap.size (z.flatMap (cellsOf 1 icell)).toArray):=below_setRow hbW (Nat.le_refl _) _
 clear harr harrW hx hsx hbW hz hmk
 go_upto_region 7 with (fail)
 generalize W5.setRow w4.heap.size (z.flatMap (cellsOf 1 icell)).toArray=w6 at *
 have hH:Holds (Value.int .i64) w6 w4.heap.size 0 z.toArray:=by
  intro j hj
  have hj':j < z.length:=by simpa using hj
  refine ⟨?_,hx6.frozen _⟩
  rw [hx6.cell,Nat.zero_add]
  have h1:=flat_get 1 icell z j z[j] (List.getElem?_eq_getElem hj') 0 (by omega)
  rw [Nat.mul_one,Nat.add_zero] at h1
  rw [List.getElem?_toArray,h1,getElem!_pos z.toArray j hj]
  rfl
 have hso:=Any.slices_Sort_int sortI w4.heap.size 0 z.length z w6 hH hx6.lt (by omega)
 change Calls Tryz.prog 21 _ _ _ at hso
 go_wp2_with fail
 refine hso.mono ?_
 rintro e w7 ⟨rfl,n,os,rfl⟩
 have hgs:w6.grownBy (grow (putRow (Value.int .i64) (Sort.ahead w6 n) w4.heap.size 0 (z.mergeSort fun x y=>decide (x≤y)).toArray) os) (some w4.heap.size):=by
  refine ⟨rfl,rfl,rfl,by simp,fun k hk hne=>?_⟩
  rw [heap_grow_old _ _ (by simpa using hk)]
  have:w4.heap.size≠k:=fun e=>hne (by rw [e])
  simp [putRow,mapBlock,Sort.ahead,Array.getElem?_modify,this]
 have hB6:=hB4.trans (hb6.mono hB4.size)
 have hB7:=below_row hB6 hgs hB6.size fun r e=>by have:=hB4.size; injection e; omega
 clear hso hgs
 generalize grow (putRow (Value.int .i64) (Sort.ahead w6 n) w4.heap.size 0 (z.mergeSort fun x y=>decide (x≤y)).toArray) os=w7 at *
 go_wp2
 go_ret2
 exact ⟨s,_,_,by rw [← HZ.out]; rfl,ho,hB7⟩
end Go.Proofs.YtjpfjklobnilkaaGreat
