/- The sorts of the library at this seat: slices.Sort at []int, slices.SortStableFunc at tones (one block of at most 20: insertion sort). -/
import Derived.Test.YtjpfjklobnilkaaGreatWpP
import Derived.Test.YtjpfjklobnilkaaGreatPC
import Derived.Test.YtjpfjklobnilkaaGreatPB
import Derived.Shelf.Sort.Plain
import Derived.Shelf.SlSortCmp.InsertionK
namespace Go.Proofs.YtjpfjklobnilkaaGreat
open Go.RowKit Go.Shelf Go.Sort Sc
set_option linter.unusedVariables false
def sortI_ren:Go.Shelf.Ren:=⟨fun | 189=>21 | 125=>66 | 257=>65 | 128=>153 | 129=>154 | 294=>144 | 295=>145 | 296=>146 | 297=>147 | 298=>148 | 299=>149 | 216=>150 | 300=>151 | 301=>152 | 328=>251 | 329=>252 | 330=>253 | 331=>254 | 332=>255 | 215=>256 | 343=>307 | n=>n,fun | 28=>22 | 3=>3 | 46=>109 | 0=>0 | 51=>219 | 53=>221 | 4=>4 | 183=>211 | 182=>210 | 131=>216 | 5=>5 | 9=>9 | 218=>342 | 222=>346 | 228=>427 | 229=>428 | n=>n,fun n=>n⟩
theorem sortI:Lays.n189 Tryz.prog sortI_ren where
 mixed:=by kernel_rfl
 f125:=Tryz.func66.trans (congrArg some (by kernel_rfl))
 f128:=Tryz.func153.trans (congrArg some (by kernel_rfl))
 f129:=Tryz.func154.trans (congrArg some (by kernel_rfl))
 f189:=Tryz.func21.trans (congrArg some (by kernel_rfl))
 f215:=Tryz.func256.trans (congrArg some (by kernel_rfl))
 f216:=Tryz.func150.trans (congrArg some (by kernel_rfl))
 f257:=Tryz.func65.trans (congrArg some (by kernel_rfl))
 f294:=Tryz.func144.trans (congrArg some (by kernel_rfl))
 f295:=Tryz.func145.trans (congrArg some (by kernel_rfl))
 f296:=Tryz.func146.trans (congrArg some (by kernel_rfl))
 f297:=Tryz.func147.trans (congrArg some (by kernel_rfl))
 f298:=Tryz.func148.trans (congrArg some (by kernel_rfl))
 f299:=Tryz.func149.trans (congrArg some (by kernel_rfl))
 f300:=Tryz.func151.trans (congrArg some (by kernel_rfl))
 f301:=Tryz.func152.trans (congrArg some (by kernel_rfl))
 f328:=Tryz.func251.trans (congrArg some (by kernel_rfl))
 f329:=Tryz.func252.trans (congrArg some (by kernel_rfl))
 f330:=Tryz.func253.trans (congrArg some (by kernel_rfl))
 f331:=Tryz.func254.trans (congrArg some (by kernel_rfl))
 f332:=Tryz.func255.trans (congrArg some (by kernel_rfl))
 f343:=Tryz.func307.trans (congrArg some (by kernel_rfl))
 t0:=Tryz.underlying0
 a0:=Tryz.isAgg0
 z0:=Tryz.sizeOf0
 v0:=Tryz.zeroValue0
 t3:=Tryz.underlying3
 a3:=Tryz.isAgg3
 z3:=Tryz.sizeOf3
 v3:=Tryz.zeroValue3
 t4:=Tryz.underlying4
 a4:=Tryz.isAgg4
 z4:=Tryz.sizeOf4
 v4:=Tryz.zeroValue4
 t5:=Tryz.underlying5
 a5:=Tryz.isAgg5
 z5:=Tryz.sizeOf5
 v5:=Tryz.zeroValue5
 t9:=Tryz.underlying9
 a9:=Tryz.isAgg9
 z9:=Tryz.sizeOf9
 v9:=Tryz.zeroValue9
 t28:=Tryz.underlying22
 a28:=Tryz.isAgg22
 z28:=Tryz.sizeOf22
 v28:=Tryz.zeroValue22
 t46:=Tryz.underlying109
 a46:=Tryz.isAgg109
 z46:=Tryz.sizeOf109
 v46:=Tryz.zeroValue109
 t51:=Tryz.underlying219
 a51:=Tryz.isAgg219
 z51:=Tryz.sizeOf219
 v51:=Tryz.zeroValue219
 t53:=Tryz.underlying221
 a53:=Tryz.isAgg221
 z53:=Tryz.sizeOf221
 v53:=Tryz.zeroValue221
 t131:=Tryz.underlying216
 a131:=Tryz.isAgg216
 z131:=Tryz.sizeOf216
 v131:=Tryz.zeroValue216
 t182:=Tryz.underlying210
 a182:=Tryz.isAgg210
 z182:=Tryz.sizeOf210
 v182:=Tryz.zeroValue210
 t183:=Tryz.underlying211
 a183:=Tryz.isAgg211
 z183:=Tryz.sizeOf211
 v183:=Tryz.zeroValue211
 t218:=Tryz.underlying342
 a218:=Tryz.isAgg342
 z218:=Tryz.sizeOf342
 v218:=Tryz.zeroValue342
 t222:=Tryz.underlying346
 a222:=Tryz.isAgg346
 z222:=Tryz.sizeOf346
 v222:=Tryz.zeroValue346
 t228:=Tryz.underlying427
 a228:=Tryz.isAgg427
 z228:=Tryz.sizeOf427
 v228:=Tryz.zeroValue427
 t229:=Tryz.underlying428
 a229:=Tryz.isAgg428
 z229:=Tryz.sizeOf428
 v229:=Tryz.zeroValue428
def sortT_ren:Go.Shelf.Ren:=⟨fun | 20=>249 | n=>n,fun | 24=>101 | 22=>97 | 3=>3 | 25=>103 | 4=>4 | 0=>0 | n=>n,fun n=>n⟩
theorem sortT:SlLaysF0.n20 Tryz.prog sortT_ren where
 mixed:=by kernel_rfl
 f20:=⟨Tryz.f249.name,by kernel_rfl,Tryz.func249.trans (congrArg some (by kernel_rfl))⟩
 t0:=Tryz.underlying0
 a0:=Tryz.isAgg0
 z0:=Tryz.sizeOf0
 v0:=Tryz.zeroValue0
 t3:=Tryz.underlying3
 a3:=Tryz.isAgg3
 z3:=Tryz.sizeOf3
 v3:=Tryz.zeroValue3
 t4:=Tryz.underlying4
 a4:=Tryz.isAgg4
 z4:=Tryz.sizeOf4
 v4:=Tryz.zeroValue4
 t22:=Tryz.underlying97
 a22:=Tryz.isAgg97
 z22:=Tryz.sizeOf97
 v22:=Tryz.zeroValue97
 t25:=Tryz.underlying103
 a25:=Tryz.isAgg103
 z25:=Tryz.sizeOf103
 v25:=Tryz.zeroValue103
def tcell (t:Tn):Nat→Value
 | 0 => .int .i64 t.lo
 | 1 => .int .i64 t.hi
 | _ => .int .i64 t.nm
structure VTn where
 t:Tn
 h:0≤t.hi∧t.hi≤10000
instance:Inhabited VTn:=⟨⟨⟨0,0,0⟩,by decide⟩⟩
def encV (x:VTn):List Value:=[.int .i64 x.1.lo,.int .i64 x.1.hi,.int .i64 x.1.nm]
def cfV (x y:VTn):Int:=x.1.hi-y.1.hi
theorem ltV (x y:VTn):ltOf cfV x y=decide (x.1.hi < y.1.hi):=by
 unfold ltOf cfV
 by_cases h:x.1.hi < y.1.hi
 ·rw [decide_eq_true h,decide_eq_true (by omega)]
 ·rw [decide_eq_false h,decide_eq_false (by omega)]
theorem swoV:SWO (ltOf cfV) where
 irrefl x:=by rw [ltV]; simp
 trans x y z h1 h2:=by rw [ltV] at *; simp at *; omega
 ntrans x y z h1 h2:=by rw [ltV] at *; simp at *; omega
def sortedV (d:Array VTn):Array VTn:=Sort.insertionSort (ltOf cfV) d 0 d.size
theorem sortedV_perm (d:Array VTn):(sortedV d).toList.Perm d.toList:=by
 have h:=(insertionSort_holds swoV d 0 d.size (Nat.zero_le _) (Nat.le_refl _)).1
 have hs:(sortedV d).size=d.size:=h.1
 have h2:=h.2.2
 have e1:(Sort.insertionSort (ltOf cfV) d 0 d.size).extract 0 d.size=sortedV d:=by
  have:(sortedV d).extract 0 (sortedV d).size=sortedV d:=by simp
  rw [hs] at this
  exact this
 rw [e1] at h2
 simpa using h2
theorem sortedV_size (d:Array VTn):(sortedV d).size=d.size:=(insertionSort_holds swoV d 0 d.size (Nat.zero_le _) (Nat.le_refl _)).1.1
theorem sortedV_ups (d:Array VTn):Ups ((sortedV d).toList.map (·.1)):=by
 have h:=(insertionSort_holds swoV d 0 d.size (Nat.zero_le _) (Nat.le_refl _)).2
 have hs:=sortedV_size d
 unfold Ups
 rw [List.pairwise_map,List.pairwise_iff_getElem]
 intro i j hi hj hij
 have hi':i < (sortedV d).size:=by simpa using hi
 have hj':j < (sortedV d).size:=by simpa using hj
 have:=h i j (Nat.zero_le _) hij (by omega)
 rw [ltV] at this
 have e1:(sortedV d)[i]! = (sortedV d)[i]:=getElem!_pos (sortedV d) i hi'
 have e2:(sortedV d)[j]! = (sortedV d)[j]:=getElem!_pos (sortedV d) j hj'
 change decide (((sortedV d)[j]!).1.hi < ((sortedV d)[i]!).1.hi)=false at this
 rw [e1,e2] at this
 simp only [decide_eq_false_iff_not] at this
 simp only [Array.getElem_toList]
 omega
theorem sortedV_ord (d:Array VTn):Ord (d.toList.map (·.1)) ((sortedV d).toList.map (·.1)):=by
 refine ⟨sortedV_ups d,fun x=>?_,?_⟩
 ·exact ((sortedV_perm d).map (·.1)).mem_iff
 ·rw [List.length_map,List.length_map]
  exact (sortedV_perm d).length_eq
set_option maxHeartbeats 1000000 in
theorem tcmp_ok (x y:VTn) (W:World):Calls Tryz.prog 63 #[.agg #[.int .i64 x.1.lo,.int .i64 x.1.hi,.int .i64 x.1.nm],.agg #[.int .i64 y.1.lo,.int .i64 y.1.hi,.int .i64 y.1.nm]] W fun e w'=>e = .returned (.int .i64 (cfV x y))∧∃ q os',w'=grow (W.drewN q) os':=by
 obtain ⟨⟨a,b,c⟩,hx1,hx2⟩:=x
 obtain ⟨⟨a',b',c'⟩,hy1,hy2⟩:=y
 dsimp only [cfV] at hx1 hx2 hy1 hy2 ⊢
 have hw:IntKind.i64.wrap (b-b')=b-b':=by rw [IntKind.wrap_i64]; omega
 go_enter Tryz.func63,Tryz.ntmps63
 go_wp2
 go_ret
 exact ⟨rfl,0,_,by rw [alloc_eq_grow,alloc_eq_grow,grow_grow]; rfl⟩
theorem cmpV (blk off size:Nat) (w:World):CmpLays Tryz.prog 63 #[] encV 3 cfV blk off size w:=fun _ _ _ _ x y=>tcmp_ok x y _
set_option maxHeartbeats 1000000 in
theorem stableCmp_ok (blk off cap:Nat) (d:Array VTn) (w:World) (hH:HoldsK encV 3 w blk off d) (hblk:blk < w.heap.size) (h12:d.size≤12) :
  Calls Tryz.prog 142 #[.slice (some ⟨blk,off,none⟩) d.size cap,.int .i64 d.size,.func (.func 63) #[] #[]] w fun e w'=>e = .returned (.tuple #[])∧∃ n os,w'=sortWorldK encV 3 w blk off n (sortedV d) os:=by
 have hi:=AnyQ.insertionSortCmpFunc sortT 3 Tryz.isAgg101 Tryz.sizeOf101 encV (fun _=>rfl) (fun x v hv=>by simp [encV] at hv; rcases hv with rfl | rfl | rfl <;> rfl) cfV 63 #[] blk off cap 0 d.size d w (enters_of Tryz.func63 (by kernel_rfl) rfl) (cmpV blk off d.size w) hH hblk (Nat.zero_le _) (Nat.le_refl _) (by omega)
 change Calls Tryz.prog 249 _ _ _ at hi
 have d1:¬ (20:Int)≤(d.size:Int):=by omega
 have d2:¬ (20:Int) < (d.size:Int):=by omega
 clear hH
 generalize hr:Sort.insertionSort (ltOf cfV) d 0 d.size=r at hi
 have HR:Hid (sortedV d=r):=hr
 clear hr
 go_enter Tryz.func142,Tryz.ntmps142
 go_wp2
 refine wp_loop_rounds 1 ?_
 rw [rounds_succ]
 go_wp2_with (go_at_call 249; refine hi.mono ?_; rintro e w' ⟨rfl,n,os,rfl⟩)
 refine wp_loop_rounds 1 ?_
 rw [rounds_succ]
 go_wp2
 go_end0
 exact ⟨rfl,n,os,by rw [HR.out]⟩
theorem sortStable_ok (blk off cap:Nat) (d:Array VTn) (w:World) (hH:HoldsK encV 3 w blk off d) (hblk:blk < w.heap.size) (h12:d.size≤12) :
  Calls Tryz.prog 62 #[.slice (some ⟨blk,off,none⟩) d.size cap,.func (.func 63) #[] #[]] w fun e w'=>e = .returned (.tuple #[])∧∃ n os,w'=sortWorldK encV 3 w blk off n (sortedV d) os:=by
 have hi:=stableCmp_ok blk off cap d w hH hblk h12
 clear hH
 generalize sortedV d=r at hi ⊢
 go_enter Tryz.func62,Tryz.ntmps62
 go_wp2_with (go_at_call 142; refine hi.mono ?_; rintro e w' ⟨rfl,n,os,rfl⟩)
 go_end0
 exact ⟨rfl,n,os,rfl⟩
theorem holds_own {w:World} {base e g cap:Nat} {s:List VTn} (h:w.ownsRow base e 3 (.slice (some ⟨g,0,none⟩) s.length cap) s.length ((s.map (·.1)).flatMap (cellsOf 3 tcell))):HoldsK encV 3 w g 0 s.toArray:=by
 have ha:Arr w w.heap.size 3 (.slice (some ⟨g,0,none⟩) (s.map (·.1)).length cap) (s.map (·.1)) tcell:=Arr.of_own (base:=base) (e:=e) (by rw [List.length_map]; exact h)
 have hfr:∀ j,w.frozen? ⟨g,j,none⟩=false:=by
  intro j
  rcases h.2 with ⟨h1,_⟩ | ⟨g',cap',cur,h1,_,h2,_⟩
  ·cases h1
  ·cases h1
   simp [World.frozen?,h2]
 intro t ht
 rw [size_flatK] at ht
 have ht':t < s.length * 3:=by simpa using ht
 have hi:t / 3 < s.length:=by omega
 refine ⟨?_,hfr _⟩
 rw [get_flatK _ _ _ _ ht]
 obtain ⟨A,c,h1,_,_,h4⟩:=ha
 obtain ⟨b,off,h5,_,h6⟩:=h4 (by rw [List.length_map]; omega)
 injection h1 with h1
 rw [← h1] at h5
 injection h5 with h5
 injection h5 with h5 h7
 subst h5
 subst h7
 have h8:=h6 (t / 3) (s[t / 3]).1 (by rw [List.getElem?_map,List.getElem?_eq_getElem hi]; rfl) (t % 3) (by omega)
 have e1:0+t / 3 * 3+t % 3=0+t:=by omega
 rw [e1] at h8
 rw [h8]
 have e2:(s.toArray)[t / 3]! = s[t / 3]:=by
  rw [getElem!_pos s.toArray (t / 3) (by simpa using hi)]
  rfl
 rw [e2]
 have:t % 3=0∨t % 3=1∨t % 3=2:=by omega
 rcases this with h | h | h <;> rw [h] <;> rfl
theorem arr_holds {w:World} {g cap:Nat} {d:Array VTn} (h:HoldsK encV 3 w g 0 d) (hg:g < w.heap.size) (hc:d.size≤cap) (hc2:cap≤9223372036854775807) :
  Arr w w.heap.size 3 (.slice (some ⟨g,0,none⟩) (d.toList.map (·.1)).length cap) (d.toList.map (·.1)) tcell:=by
 refine ⟨_,cap,rfl,by simpa using hc,hc2,fun _=>⟨g,0,rfl,hg,fun i x hx j hj=>?_⟩⟩
 rw [List.getElem?_map] at hx
 have hi:i < d.size:=by
  rcases Nat.lt_or_ge i d.size with hl | hl
  ·exact hl
  ·rw [List.getElem?_eq_none (by simpa using hl)] at hx
   simp at hx
 rw [List.getElem?_eq_getElem (by simpa using hi)] at hx
 simp only [Option.map_some,Option.some.injEq,Array.getElem_toList] at hx
 have h1:=(h.cell hi hj).1
 rw [h1,getElem!_pos d i hi,← hx]
 have:j=0∨j=1∨j=2:=by omega
 rcases this with rfl | rfl | rfl <;> rfl
theorem grown_sorted {w:World} {g n:Nat} {os:Array Obj} (d:Array VTn):w.grownBy (sortWorldK encV 3 w g 0 n d os) (some g):=by
 refine ⟨rfl,rfl,rfl,by simp [sortWorldK,putRowK],fun k hk hne=>?_⟩
 unfold sortWorldK putRowK
 rw [heap_grow_old _ _ (by simpa using hk)]
 have:g≠k:=fun e=>hne (by rw [e])
 simp [putRow,mapBlock,Sort.ahead,Array.getElem?_modify,this]
end Go.Proofs.YtjpfjklobnilkaaGreat
