/- Contracts: rising, ends, CheckList. Contract: CheckList. -/
import Derived.Test.YtibmeigdjghkcaaGreatLbM
import Derived.Laws.EntriesVeiled
namespace Go.Proofs.YtibmeigdjghkcaaGreat
open Go.RowKit Go.Shelf
set_option linter.unusedVariables false
theorem risesFrom_cons {lo below x:Int} {l:List Int}:risesFrom lo below (x::l)=(decide (lo < x)&&decide (x < below)&&risesFrom x below l):=rfl
set_option maxHeartbeats 800000 in
theorem rising_ok (below:Int) (lv:Value) (ls:List (List Int)) (w:World) (hl:LLi w lv ls) :
  Calls Tryz.prog 131 #[.int .i64 below,lv] w fun r w'=>r = .returned (.bool (ls.all (rises below)))∧Below w.heap.size w w':=by
 obtain ⟨A,cap,rfl,hcl,hcm⟩:=hl.form
 go_enter Tryz.func131,Tryz.ntmps131
 go_wp2
 go_loop [12] (fun i=>∃ k:Nat,k≤ls.length∧i = .int .i64 k∧Hid (ls.all (rises below)=(ls.drop k).all (rises below))) (fun i=>ls.length-(intOf i).toNat)
 case atStart=>exact ⟨0,Nat.zero_le _,rfl,rfl⟩
 case round =>
  obtain ⟨k,hk,rfl,hal⟩:=hrel
  by_cases hlt:k < ls.length
  ·have d1:decide (k < ls.length)=true:=decide_eq_true hlt
   have d1':decide ((k:Int) < (ls.length:Int))=true:=decide_eq_true (by omega)
   have hki:(k:Int) < (ls.length:Int):=by omega
   obtain ⟨b,off,lA,lc,rfl,hb,hc,harr⟩:=hl.at_ (List.getElem?_eq_getElem hlt)
   have HK:Hid (ls.drop k=ls[k]::ls.drop (k+1)):=List.drop_eq_getElem_cons hlt
   rw [Hid,HK.out,List.all_cons] at hal
   have HAL:Hid (ls.all (rises below)=(rises below ls[k]&&(ls.drop (k+1)).all (rises below))):=hal
   clear hal HK
   generalize ls[k]=l at *
   have hcap:=harr.len_
   obtain ⟨hq1,hq2,hq3⟩:=hcap
   clear hq1
   go_wp2
   go_loop [7,18] (fun last i=>∃ (j:Nat) (lo:Int),j≤l.length∧i = .int .i64 j∧last = .int .i64 lo∧Hid (rises below l=risesFrom lo below (l.drop j))) (fun _ i=>l.length-(intOf i).toNat)
   case atStart=>exact ⟨0, -1,Nat.zero_le _,rfl,rfl,rfl⟩
   case round =>
    obtain ⟨j,lo,hj,rfl,rfl,hr⟩:=hrel
    by_cases hjl:j < l.length
    ·have d2:decide (j < l.length)=true:=decide_eq_true hjl
     have d2':decide ((j:Int) < (l.length:Int))=true:=decide_eq_true (by omega)
     have hji:(j:Int) < (l.length:Int):=by omega
     obtain ⟨xb,xo,x,rfl,hxb,hx,xc⟩:=numx_at harr hjl
     rw [Hid,drop_cons hx,risesFrom_cons] at hr
     have HR:=Lib.hid hr
     clear hr hx
     by_cases h1:x≤lo
     ·have d3:decide (x≤lo)=true:=decide_eq_true h1
      have d4:Hid (decide (lo < x)=false):=decide_eq_false (by omega)
      have HE:Hid (ls.all (rises below)=false):=by rw [Hid,HAL.out,HR.out,d4.out]; rfl
      clear h1
      go_wp2
      go_ret
      exact ⟨ret_b HE.out.symm,Below.refl _ _⟩
     ·have d3:decide (x≤lo)=false:=decide_eq_false h1
      have d4:Hid (decide (lo < x)=true):=decide_eq_true (by omega)
      by_cases h2:below≤x
      ·have d5:decide (below≤x)=true:=decide_eq_true h2
       have d6:Hid (decide (x < below)=false):=decide_eq_false (by omega)
       have HE:Hid (ls.all (rises below)=false):=by rw [Hid,HAL.out,HR.out,d4.out,d6.out]; rfl
       clear h1 h2
       go_wp2
       go_ret
       exact ⟨ret_b HE.out.symm,Below.refl _ _⟩
      ·have d5:decide (below≤x)=false:=decide_eq_false h2
       have d6:Hid (decide (x < below)=true):=decide_eq_true (by omega)
       have HE:Hid (rises below l=risesFrom x below (l.drop (j+1))):=by rw [Hid,HR.out,d4.out,d6.out]; rfl
       clear h1 h2
       go_wp2
       go_round
       case rel=>exact ⟨j+1,x,by omega,by go_num,rfl,HE⟩
       case measure=>(simp [intOf]; try omega)
    ·obtain rfl:j=l.length:=by omega
     have d2:decide (l.length < l.length)=false:=by simp
     have HE:Hid (ls.all (rises below)=(ls.drop (k+1)).all (rises below)):=by
      rw [Hid,HAL.out,hr.out,List.drop_length]; rfl
     clear hr
     go_wp2
     go_round
     case rel=>exact ⟨k+1,by omega,by go_num,HE⟩
     case measure=>(simp [intOf]; try omega)
  ·obtain rfl:k=ls.length:=by omega
   have d1:decide (ls.length < ls.length)=false:=by simp
   have HE:Hid (ls.all (rises below)=true):=by rw [Hid,hal.out,List.drop_length]; rfl
   clear hal
   go_wp2
   go_ret
   exact ⟨ret_b HE.out.symm,Below.refl _ _⟩
theorem ends_ok (sv:Value) (l:List Int) (w:World) (hs:Arr w w.heap.size 1 sv l icell) :
  Calls Tryz.prog 225 #[sv] w fun r w'=>r = .returned (.bool (endsB l))∧w=w':=by
 obtain ⟨A,c,rfl, -⟩:=hs
 go_enter Tryz.func225,Tryz.ntmps225
 have HE:Hid (endsB l=(decide (0 < l.length)&&decide (l.length≤10))):=rfl
 by_cases h1:0 < l.length
 ·have d1:decide (0 < l.length)=true:=decide_eq_true h1
  have d1':decide ((0:Int) < (l.length:Int))=true:=decide_eq_true (by omega)
  rw [d1] at HE
  by_cases h2:l.length≤10
  ·have d2:decide (l.length≤10)=true:=decide_eq_true h2
   have d2':decide ((l.length:Int)≤10)=true:=decide_eq_true (by omega)
   rw [d2] at HE
   clear h1 h2
   go_wp2
   go_ret
   exact ⟨ret_b HE.out.symm,rfl⟩
  ·have d2:decide (l.length≤10)=false:=decide_eq_false h2
   have d2':decide ((l.length:Int)≤10)=false:=decide_eq_false (by omega)
   rw [d2] at HE
   clear h1 h2
   go_wp2
   go_ret
   exact ⟨ret_b HE.out.symm,rfl⟩
 ·have d1:decide (0 < l.length)=false:=decide_eq_false h1
  have d1':decide ((0:Int) < (l.length:Int))=false:=decide_eq_false (by omega)
  rw [d1] at HE
  clear h1
  go_wp2
  go_ret
  exact ⟨ret_b HE.out.symm,rfl⟩
theorem cl1_ok (x n:Int) (g:Nat) (w:World) (h:w.cell? ⟨g,0,none⟩=some (.int .i64 n)) :
  Calls Tryz.prog 223 #[.int .i64 x,.pointer (some ⟨g,0,none⟩)] w fun r w'=>r = .returned (.bool (inN n x))∧w=w':=by
 have HE:Hid (inN n x=(decide (0≤x)&&decide (x < n))):=rfl
 go_enter Tryz.func223,Tryz.ntmps223
 by_cases h1:0≤x
 ·have d1:decide (0≤x)=true:=decide_eq_true h1
  rw [d1] at HE
  clear h1
  go_wp2
  go_ret
  exact ⟨ret_b (by rw [HE.out,Bool.true_and]),rfl⟩
 ·have d1:decide (0≤x)=false:=decide_eq_false h1
  rw [d1] at HE
  clear h1
  go_wp2
  go_ret
  exact ⟨ret_b (by rw [HE.out,Bool.false_and]),rfl⟩
set_option maxHeartbeats 800000 in
theorem cl2_ok (x:LkI) (n:Int) (g fb:Nat) (w:World) (h:w.cell? ⟨g,0,none⟩=some (.int .i64 n)) (hf:w.cell? ⟨fb,0,none⟩=some (.func (.func 223) #[] #[.pointer (some ⟨g,0,none⟩)])) :
  Calls Tryz.prog 224 #[.agg #[.int .i64 x.one,.int .i64 x.two,.int .i64 x.trust],.pointer (some ⟨fb,0,none⟩)] w fun r w'=>r = .returned (.bool (badLk n x))∧Below w.heap.size w w':=by
 obtain ⟨a,b,t⟩:=x
 have HE:Hid (badLk n ⟨a,b,t⟩=(!inN n a||!inN n b||a==b||decide (t < 1)||decide (1000000 < t))):=rfl
 have HX:=fun x w h=>cl1_ok x n g w h
 go_enter Tryz.func224,Tryz.ntmps224
 go_upto_region 1 with (fail)
 have hX:=Blk.new w 36 #[.int .i64 a,.int .i64 b,.int .i64 t]
 have hB:=(Below.refl w.heap.size w).alloc (Nat.le_refl _) (.cells #[.int .i64 a,.int .i64 b,.int .i64 t] 36)
 replace h:=(hB.cell (p:=⟨g,0,none⟩) (cell_lt h)).trans h
 replace hf:=(hB.cell (p:=⟨fb,0,none⟩) (cell_lt hf)).trans hf
 generalize w.alloc (.cells #[.int .i64 a,.int .i64 b,.int .i64 t] 36)=W at *
 have x0:=hX.cell 0
 have x1:=hX.cell 1
 have x2:=hX.cell 2
 simp at x0 x1 x2
 have HA:=Lib.hid (HX a W h)
 have HB:=Lib.hid (HX b W h)
 clear HX hX
 generalize inN n a=p at *
 generalize inN n b=q at *
 cases p
 ·go_wp2_with fail
  refine HA.out.mono ?_
  rintro e w1 ⟨rfl,rfl⟩
  go_wp2
  go_ret
  exact ⟨ret_b (by rw [HE.out]; rfl),hB⟩
 ·cases q
  ·go_wp2_with fail
   refine HA.out.mono ?_
   rintro e w1 ⟨rfl,rfl⟩
   go_wp2_with fail
   refine HB.out.mono ?_
   rintro e w1 ⟨rfl,rfl⟩
   go_wp2
   go_ret
   exact ⟨ret_b (by rw [HE.out]; rfl),hB⟩
  ·by_cases h1:a=b
   ·have d1:(a==b)=true:=by simpa using h1
    rw [d1] at HE
    clear h1
    go_wp2_with fail
    refine HA.out.mono ?_
    rintro e w1 ⟨rfl,rfl⟩
    go_wp2_with fail
    refine HB.out.mono ?_
    rintro e w1 ⟨rfl,rfl⟩
    go_wp2
    go_ret
    exact ⟨ret_b (by rw [HE.out]; rfl),hB⟩
   ·have d1:(a==b)=false:=by simpa using h1
    rw [d1] at HE
    clear h1
    by_cases h2:t < 1
    ·have d2:decide (t < 1)=true:=decide_eq_true h2
     rw [d2] at HE
     clear h2
     go_wp2_with fail
     refine HA.out.mono ?_
     rintro e w1 ⟨rfl,rfl⟩
     go_wp2_with fail
     refine HB.out.mono ?_
     rintro e w1 ⟨rfl,rfl⟩
     go_wp2
     go_ret
     exact ⟨ret_b (by rw [HE.out]; rfl),hB⟩
    ·have d2:decide (t < 1)=false:=decide_eq_false h2
     rw [d2] at HE
     clear h2
     go_wp2_with fail
     refine HA.out.mono ?_
     rintro e w1 ⟨rfl,rfl⟩
     go_wp2_with fail
     refine HB.out.mono ?_
     rintro e w1 ⟨rfl,rfl⟩
     go_wp2
     go_ret
     exact ⟨ret_b (by rw [HE.out]; simp),hB⟩
theorem contains_any (l:List Int) (x:Int):(l.any fun y=>x==y)=l.contains x:=by
 rw [Bool.eq_iff_iff]
 simp
theorem cl3_ok (x:Int) (g:Nat) (l:NL) (ka:Option Addr) (kc:Nat) (aa:Option Addr) (ac:Nat) (ba:Option Addr) (bc:Nat) (w:World) (hb:NB w g l ka kc aa ac ba bc) :
  Calls Tryz.prog 227 #[.int .i64 x,.pointer (some ⟨g,0,none⟩)] w fun r w'=>r = .returned (.bool (l.right.contains x))∧Below w.heap.size w w':=by
 have hc:=contains_int_ok _ l.right x w hb.na.bs
 obtain ⟨-, -, -,k3⟩:=hb.blk.c4
 rw [contains_any] at hc
 go_enter Tryz.func227,Tryz.ntmps227
 go_wp2_with fail
 refine hc.mono ?_
 rintro e w1 ⟨rfl,hb1⟩
 go_wp2
 go_ret
 exact ⟨ret_b (by simp),hb1⟩
theorem Arr.pair {w:World} {B g:Nat} {t:TypeId} {u v:Value} {l m:List Int} (h:Blk w g t #[u,v]) (hg:g < B) (hl:Arr w B 1 u l icell) (hm:Arr w B 1 v m icell):LLB w B (.slice (some ⟨g,0,none⟩) 2 2) [l,m] :=
 ⟨[(u,l),(v,m)],rfl,Arr.lit h hg rfl (by simp) (by omega) (by simp [cellsOf,List.range_succ,vlcell]),by simp [hl,hm]⟩
theorem Arr.sole {w:World} {B g:Nat} {t:TypeId} {u:Value} {l:List Int} (h:Blk w g t #[u]) (hg:g < B) (hl:Arr w B 1 u l icell):LLB w B (.slice (some ⟨g,0,none⟩) 1 1) [l] :=
 ⟨[(u,l)],rfl,Arr.lit h hg rfl (by simp) (by omega) (by simp [cellsOf,List.range_succ,vlcell]),by simp [hl]⟩
end Go.Proofs.YtibmeigdjghkcaaGreat
namespace Go.Proofs.YtibmeigdjghkcaaGreat
open Go.RowKit Go.Shelf
set_option linter.unusedVariables false
theorem checkL_go {l:NL} (h:manyL l=false):checkL l=if (l.links.any (badLk l.n))=true then 2 else if (rises l.n l.left&&rises l.n l.right)=false then 3 else if (l.left.any fun x=>l.right.contains x)=true then 21 else 0:=by
 unfold checkL
 rw [h]
 rfl
theorem checkL_many {l:NL} (h:manyL l=true):checkL l=6:=by
 unfold checkL
 rw [h]
 rfl
set_option maxHeartbeats 1600000 in
theorem checkList_ok (v:Value) (l:NL) (w:World) (hv:NLV w w.heap.size v l) :
  Calls Tryz.prog 130 #[v] w fun r w'=>r = .returned (.int .i64 (checkL l))∧Below w.heap.size w w':=by
 obtain ⟨ka,kc,aa,ac,ba,bc,rfl,hna⟩:=hv
 have hC:=NB.new hna
 have hB:=(Below.refl w.heap.size w).alloc (Nat.le_refl _) (.cells #[.int .i64 l.n,.slice ka l.links.length kc,.slice aa l.left.length ac,.slice ba l.right.length bc] 33)
 have HM:Hid (manyL l=(decide (l.n < 2)||decide (40 < l.n)||decide (120 < l.links.length)||!endsB l.left||!endsB l.right)):=rfl
 have HGO:=Lib.hid (@checkL_go l)
 have HMA:=Lib.hid (@checkL_many l)
 go_enter Tryz.func130,Tryz.ntmps130
 go_upto_region 1 with (fail)
 generalize w.alloc (.cells #[.int .i64 l.n,.slice ka l.links.length kc,.slice aa l.left.length ac,.slice ba l.right.length bc] 33)=W at *
 clear hna
 go_upto_region 2 with (fail)
 have hF:=Blk.new W 126 #[.func (.func 223) #[] #[.pointer (some ⟨w.heap.size,0,none⟩)]]
 have hb1:=(Below.refl W.heap.size W).alloc (Nat.le_refl _) (.cells #[.func (.func 223) #[] #[.pointer (some ⟨w.heap.size,0,none⟩)]] 126)
 replace hC:=hC.call hb1
 replace hB:=hB.trans (hb1.mono hB.size)
 clear hb1
 generalize W.alloc (.cells #[.func (.func 223) #[] #[.pointer (some ⟨w.heap.size,0,none⟩)]] 126)=V at *
 generalize W.heap.size=fb at *
 obtain ⟨k0,k1,k2,k3⟩:=hC.blk.c4
 have he1:=ends_ok _ l.left V hC.na.as_
 have he2:=ends_ok _ l.right V hC.na.bs
 generalize hp:endsB l.left=p at *
 generalize hq:endsB l.right=q at *
 clear hp hq
 by_cases h1:l.n < 2
 ·have d1:decide (l.n < 2)=true:=decide_eq_true h1
  rw [d1] at HM
  clear h1
  clear HGO
  go_wp2
  go_ret
  exact ⟨ret_i (by rw [HMA.out (by rw [HM.out]; simp)]),hB⟩
 have d1:decide (l.n < 2)=false:=decide_eq_false h1
 rw [d1] at HM
 clear h1
 by_cases h2:40 < l.n
 ·have d2:decide (40 < l.n)=true:=decide_eq_true h2
  rw [d2] at HM
  clear h2
  clear HGO
  go_wp2
  go_ret
  exact ⟨ret_i (by rw [HMA.out (by rw [HM.out]; simp)]),hB⟩
 have d2:decide (40 < l.n)=false:=decide_eq_false h2
 rw [d2] at HM
 clear h2
 by_cases h3:120 < l.links.length
 ·have d3:decide (120 < l.links.length)=true:=decide_eq_true h3
  have d3':decide ((120:Int) < (l.links.length:Int))=true:=decide_eq_true (by omega)
  rw [d3] at HM
  clear h3
  clear HGO
  go_wp2
  go_ret
  exact ⟨ret_i (by rw [HMA.out (by rw [HM.out]; simp)]),hB⟩
 have d3:decide (120 < l.links.length)=false:=decide_eq_false h3
 have d3':decide ((120:Int) < (l.links.length:Int))=false:=decide_eq_false (by omega)
 rw [d3] at HM
 clear h3
 cases p
 ·clear HGO
  go_wp2_with fail
  refine he1.mono ?_
  rintro e w1 ⟨rfl,rfl⟩
  go_wp2
  go_ret
  exact ⟨ret_i (by rw [HMA.out (by rw [HM.out]; simp)]),hB⟩
 cases q
 ·clear HGO
  go_wp2_with fail
  refine he1.mono ?_
  rintro e w1 ⟨rfl,rfl⟩
  go_wp2_with fail
  refine he2.mono ?_
  rintro e w1 ⟨rfl,rfl⟩
  go_wp2
  go_ret
  exact ⟨ret_i (by rw [HMA.out (by rw [HM.out]; simp)]),hB⟩
 have HG:=Lib.hid (HGO.out (by rw [HM.out]; simp))
 clear HGO HM HMA
 go_wp2_with fail
 refine he1.mono ?_
 rintro e w1 ⟨rfl,rfl⟩
 go_wp2_with fail
 refine he2.mono ?_
 rintro e w1 ⟨rfl,rfl⟩
 clear he1 he2 d1 d2 d3 d3'
 have f0:=hF.cell 0
 simp at f0
 have hlk:=containsFunc_lk _ l.links 224 #[] #[.pointer (some ⟨fb,0,none⟩)] (badLk l.n) _ (enters_of Tryz.func224 (by kernel_rfl) rfl) hC.na.ks (fun x _ w1 hb1=>cl2_ok x l.n w.heap.size fb w1 ((hb1.cell (p:=⟨w.heap.size,0,none⟩) (cell_lt k0)).trans k0) ((hb1.cell (p:=⟨fb,0,none⟩) (cell_lt f0)).trans f0))
 clear f0 hF
 go_wp2_with fail
 refine hlk.mono ?_
 rintro e w1 ⟨rfl,hb⟩
 clear hlk k0 k1 k2 k3
 replace hB:=hB.trans (hb.mono hB.size)
 replace hC:=hC.call hb
 obtain ⟨k0,k1,k2,k3⟩:=hC.blk.c4
 clear hb
 cases hbd:l.links.any (badLk l.n)
 ·rw [Hid,hbd] at HG
  have HG2:Hid (checkL l=if (rises l.n l.left&&rises l.n l.right)=false then 3 else if (l.left.any fun x=>l.right.contains x)=true then 21 else 0):=HG
  clear HG hbd
  go_upto_region 7 with (fail)
  have hP:=Blk.new w1 30 #[.slice aa l.left.length ac,.slice ba l.right.length bc]
  have hb1:=(Below.refl w1.heap.size w1).alloc (Nat.le_refl _) (.cells #[.slice aa l.left.length ac,.slice ba l.right.length bc] 30)
  have hC1:=hC.call hb1
  have hr:=rising_ok l.n _ [l.left,l.right] _ (Arr.pair hP (by simp) hC1.na.as_ hC1.na.bs)
  have e2:[l.left,l.right].all (rises l.n)=(rises l.n l.left&&rises l.n l.right):=by simp
  rw [e2] at hr
  have hB1:=hB.trans (hb1.mono hB.size)
  clear hb1 e2 hP
  go_wp2_with fail
  refine hr.mono ?_
  rintro e w2 ⟨rfl,hb⟩
  clear hr k0 k1 k2 k3
  replace hB1:=hB1.trans (hb.mono hB1.size)
  replace hC1:=hC1.call hb
  obtain ⟨k0,k1,k2,k3⟩:=hC1.blk.c4
  clear hb hC hB
  cases hrs:(rises l.n l.left&&rises l.n l.right)
  ·have HE:Hid (checkL l=3):=by rw [Hid,HG2.out,hrs]; rfl
   clear hrs
   go_wp2
   go_ret
   exact ⟨ret_i HE.out.symm,hB1⟩
  ·rw [Hid,hrs] at HG2
   have HG3:Hid (checkL l=if (l.left.any fun x=>l.right.contains x)=true then 21 else 0):=HG2
   clear HG2 hrs
   have hcl:=containsFunc_int _ l.left 227 #[] #[.pointer (some ⟨w.heap.size,0,none⟩)] (fun x=>l.right.contains x) _ (enters_of Tryz.func227 (by kernel_rfl) rfl) hC1.na.as_ (fun x _ w3 hb3=>cl3_ok x w.heap.size l ka kc aa ac ba bc w3 (hC1.call hb3))
   go_wp2_with fail
   refine hcl.mono ?_
   rintro e w3 ⟨rfl,hb⟩
   replace hB1:=hB1.trans (hb.mono hB1.size)
   clear hcl hb
   cases hcx:l.left.any fun x=>l.right.contains x
   ·have HE:Hid (checkL l=0):=by rw [Hid,HG3.out,hcx]; rfl
    clear hcx
    go_wp2
    go_ret
    exact ⟨ret_i HE.out.symm,hB1⟩
   ·have HE:Hid (checkL l=21):=by rw [Hid,HG3.out,hcx]; rfl
    clear hcx
    go_wp2
    go_ret
    exact ⟨ret_i HE.out.symm,hB1⟩
 ·have HE:Hid (checkL l=2):=by rw [Hid,HG.out,hbd]; rfl
  clear hbd
  go_wp2
  go_ret
  exact ⟨ret_i HE.out.symm,hB⟩
end Go.Proofs.YtibmeigdjghkcaaGreat
