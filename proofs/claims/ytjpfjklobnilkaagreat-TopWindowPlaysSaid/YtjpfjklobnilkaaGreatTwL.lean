/- Contracts: put03, cylinder07 of the playings. -/
import Derived.Test.YtjpfjklobnilkaaGreatScF
import Derived.Test.YtjpfjklobnilkaaGreatRefC
namespace Go.Proofs.YtjpfjklobnilkaaGreat
open Go.RowKit Go.Shelf Sc
set_option linter.unusedVariables false
def greatC (c:Cyl):Bool:=decide (40 < c.frag.length)||decide (20 < c.pas.length)
def fineC (c:Cyl):Bool:=!greatC c&&decide (checkCyl c=0)
set_option maxRecDepth 100000 in
theorem cylinder07_ok (v:Value) (c:Cyl) (w:World) (hv:CylV w w.heap.size v c) :
  Calls Tryz.prog 4 #[v] w fun r w'=>r = .returned (.bool (fineC c))∧Below w.heap.size w w':=by
 have HC:=Lib.hid (fun (h1:¬ 40 < c.frag.length) (h2:¬ 20 < c.pas.length)=>show fineC c=decide (checkCyl c=0) by simp [fineC,greatC,h1,h2])
 have H1:=Lib.hid (fun (h1:40 < c.frag.length)=>show fineC c=false by simp [fineC,greatC,h1])
 have H2:=Lib.hid (fun (h1:20 < c.pas.length)=>show fineC c=false by simp [fineC,greatC,h1])
 obtain ⟨fa,fc,pa,pc,rfl,hf,hp⟩:=hv.open_
 have hC:=CB.new hf hp
 have hB:=(Below.refl w.heap.size w).alloc (Nat.le_refl _) (.cells #[.int .i64 c.turns,.int .i64 c.long,.int .i64 c.plays,.slice fa c.frag.length fc,.slice pa c.pas.length pc] 25)
 go_enter Tryz.func4,Tryz.ntmps4
 go_upto_region 1 with (fail)
 generalize hW:w.alloc (.cells #[.int .i64 c.turns,.int .i64 c.long,.int .i64 c.plays,.slice fa c.frag.length fc,.slice pa c.pas.length pc] 25)=W at *
 clear hW hf hp
 obtain ⟨k0,k1,k2,k3,k4⟩:=hC.c5
 have hcc:=rcheckCyl_ok _ c W hC.cyl
 by_cases h1:40 < c.frag.length
 ·have d1:decide (c.frag.length≤40)=false:=decide_eq_false (by omega)
  have d1':decide ((c.frag.length:Int)≤40)=false:=decide_eq_false (by omega)
  have HE:=Lib.hid (H1.out h1)
  clear h1 hcc
  go_wp2
  go_ret
  exact ⟨by rw [HE.out]; rfl,hB⟩
 ·have d1:decide (c.frag.length≤40)=true:=decide_eq_true (by omega)
  have d1':decide ((c.frag.length:Int)≤40)=true:=decide_eq_true (by omega)
  by_cases h2:20 < c.pas.length
  ·have d2:decide (c.pas.length≤20)=false:=decide_eq_false (by omega)
   have d2':decide ((c.pas.length:Int)≤20)=false:=decide_eq_false (by omega)
   have HE:=Lib.hid (H2.out h2)
   clear h1 h2 hcc
   go_wp2
   go_ret
   exact ⟨by rw [HE.out]; rfl,hB⟩
  ·have d2:decide (c.pas.length≤20)=true:=decide_eq_true (by omega)
   have d2':decide ((c.pas.length:Int)≤20)=true:=decide_eq_true (by omega)
   have HE:=Lib.hid (HC.out h1 h2)
   clear h1 h2
   go_wp2_with (refine hcc.mono ?_; rintro e w1 ⟨rfl,hb1⟩)
   go_ret
   exact ⟨by rw [HE.out]; exact ret_b (by rw [Bool.eq_iff_iff]; simp),hB.trans (hb1.mono hB.size)⟩
def finL (x:Int) (d:Bool) (r:List Int):List Int:=if d then r else putL x r
set_option maxRecDepth 100000 in
set_option maxHeartbeats 1600000 in
theorem put03_ok (lv:Value) (l:List Int) (x:Int) (w:World) (hlen:l.length≤1000) (hs:Arr w w.heap.size 1 lv l icell) :
  Calls Tryz.prog 12 #[lv,.int .i64 x] w fun r w'=>∃ v,r = .returned v∧Arr w' w'.heap.size 1 v (putL x l) icell∧Below w.heap.size w w':=by
 obtain ⟨xA,xc,rfl,hn,hc,hcell⟩:=hs
 go_enter Tryz.func12,Tryz.ntmps12
 go_wp2
 go_loopw [5,6,7] (fun o d i wr=>∃ (k:Nat) (out:List Int) (b:Bool) (A:Option Addr) (c:Nat),k≤l.length∧i = .int .i64 k∧d = .bool b∧o = .slice A out.length c∧wr.ownsRow w.heap.size 2 1 (.slice A out.length c) out.length (out.flatMap (cellsOf 1 icell))∧Below w.heap.size w wr∧out.length+(if b=true then 0 else 1)≤k+1∧Hid (out++finL x b (l.drop k)=putL x l)) (fun _ _ i _=>l.length-(intOf i).toNat)
 case atStart=>exact ⟨0,[],false,none,0,Nat.zero_le _,rfl,rfl,rfl,World.ownsRow_nil _ _ _ _,Below.refl _ _,by simp,by simp [Hid,finL]⟩
 case round =>
  obtain ⟨k,out,b,A,c,hk,rfl,rfl,rfl,hown,hB,hol,HO⟩:=hrel
  by_cases hlt:k < l.length
  ·obtain ⟨bb,off,rfl,hBb,hcc⟩:=hcell (by omega)
   obtain ⟨y,hy⟩:∃ y,l[k]? = some y:=⟨l[k],List.getElem?_eq_getElem hlt⟩
   have c0:=(hB.cell (p:=⟨bb,off+k*1+0,none⟩) hBb).trans (hcc k y hy 0 (by omega))
   simp only [Nat.mul_one,Nat.add_zero,icell] at c0
   have hdr:l.drop k=y::l.drop (k+1):=by
    obtain ⟨h1,h2⟩:=List.getElem?_eq_some_iff.1 hy
    rw [← h2]
    exact List.drop_eq_getElem_cons h1
   have HD:=Lib.hid hdr
   have hki:(k:Int) < (l.length:Int):=by omega
   clear hcell hcc hy hdr
   have hk1:k+1≤l.length:=by omega
   cases b
   ·have hol1:out.length≤k:=by simpa using hol
    clear hol
    by_cases h1:x≤y
    ·have d1:decide (x≤y)=true:=decide_eq_true h1
     by_cases h2:x < y
     ·have d2:decide (x < y)=true:=decide_eq_true h2
      have HE:Hid (((out++[x])++[y])++finL x true (l.drop (k+1))=putL x l):=by
       rw [Hid,← HO.out,HD.out]
       simp only [finL,putL,if_neg (show ¬ y < x by omega),if_pos h2]
       simp
      clear h1 h2 HO HD
      go_upto_region 8 with (fail)
      have hkeep:∀ w':World,Below w.heap.size w w'→w'.cell? ⟨bb,off+k,none⟩=some (.int .i64 y):=fun w' hb=>(hb.cell (p:=⟨bb,off+k,none⟩) hBb).trans ((hB.cell (p:=⟨bb,off+k,none⟩) hBb).symm.trans c0)
      have HKP:=Lib.hid hkeep
      clear hkeep
      have hsz4:=hB.size
      go_wp2_with (at_builtin; refine wpList_app2 slT_i64 rfl (.tmp 30) (.tmp 32) rfl rfl hown rfl rfl one_1 hsz4 ?_ ?_ ?_)
      any_goals omega
      intro v4 w4 hown4 hg4 hat4
      have hB4:=below_row hB hg4 hsz4 fun r e=>(own_cells hown e).1
      have hw4:w4.ownsRow w.heap.size 2 1 v4 (out++[x]).length ((out++[x]).flatMap (cellsOf 1 icell)):=by
       rw [List.flatMap_append,List.length_append]
       exact hown4
      have hl4:(out++[x]).length≤(out).length+1:=by simp
      obtain ⟨zs,hz4⟩:∃ z,z=out++[x]:=⟨_,rfl⟩
      rw [← hz4] at hw4 hl4 HE
      obtain ⟨A4,c4,rfl⟩:=own_form hw4
      clear hown hB hown4 hat4 hg4 hsz4 hz4
      clear c0
      have c04:=HKP.out w4 hB4
      go_upto_region 10 with (fail)
      have hown:=hw4
      have hB:=hB4
      have c1:=c04
      clear hw4 hB4 c04
      have hsz5:=hB.size
      go_wp2_with (at_builtin; refine wpList_app2 slT_i64 rfl (.tmp 34) (.tmp 39) rfl rfl hown rfl rfl one_1 hsz5 ?_ ?_ ?_)
      any_goals omega
      intro v5 w5 hown5 hg5 hat5
      have hB5:=below_row hB hg5 hsz5 fun r e=>(own_cells hown e).1
      have hw5:w5.ownsRow w.heap.size 2 1 v5 (zs++[y]).length ((zs++[y]).flatMap (cellsOf 1 icell)):=by
       rw [List.flatMap_append,List.length_append]
       exact hown5
      have hl5:(zs++[y]).length≤(zs).length+1:=by simp
      obtain ⟨ys,hz5⟩:∃ z,z=zs++[y]:=⟨_,rfl⟩
      rw [← hz5] at hw5 hl5 HE
      obtain ⟨A5,c5,rfl⟩:=own_form hw5
      clear hown hB hown5 hat5 hg5 hsz5 hz5
      go_wp2
      go_roundw
      case rel=>exact ⟨k+1,ys,true,A5,c5,hk1,by go_num,rfl,rfl,hw5,hB5,by simp; omega,HE⟩
      case measure=>(simp [intOf]; try omega)
     ·have d2:decide (x < y)=false:=decide_eq_false h2
      have HE:Hid ((out++[y])++finL x true (l.drop (k+1))=putL x l):=by
       rw [Hid,← HO.out,HD.out]
       simp only [finL,putL,if_neg (show ¬ y < x by omega),if_neg h2]
       simp
      clear h1 h2 HO HD
      go_upto_region 10 with (fail)
      have hsz4:=hB.size
      go_wp2_with (at_builtin; refine wpList_app2 slT_i64 rfl (.tmp 34) (.tmp 39) rfl rfl hown rfl rfl one_1 hsz4 ?_ ?_ ?_)
      any_goals omega
      intro v4 w4 hown4 hg4 hat4
      have hB4:=below_row hB hg4 hsz4 fun r e=>(own_cells hown e).1
      have hw4:w4.ownsRow w.heap.size 2 1 v4 (out++[y]).length ((out++[y]).flatMap (cellsOf 1 icell)):=by
       rw [List.flatMap_append,List.length_append]
       exact hown4
      have hl4:(out++[y]).length≤(out).length+1:=by simp
      obtain ⟨zs,hz4⟩:∃ z,z=out++[y]:=⟨_,rfl⟩
      rw [← hz4] at hw4 hl4 HE
      obtain ⟨A4,c4,rfl⟩:=own_form hw4
      clear hown hB hown4 hat4 hg4 hsz4 hz4
      go_wp2
      go_roundw
      case rel=>exact ⟨k+1,zs,true,A4,c4,hk1,by go_num,rfl,rfl,hw4,hB4,by simp; omega,HE⟩
      case measure=>(simp [intOf]; try omega)
    ·have d1:decide (x≤y)=false:=decide_eq_false h1
     have HE:Hid ((out++[y])++finL x false (l.drop (k+1))=putL x l):=by
      rw [Hid,← HO.out,HD.out]
      simp only [finL,putL,if_pos (show y < x by omega)]
      simp
     clear h1 HO HD
     go_upto_region 10 with (fail)
     have hsz4:=hB.size
     go_wp2_with (at_builtin; refine wpList_app2 slT_i64 rfl (.tmp 34) (.tmp 39) rfl rfl hown rfl rfl one_1 hsz4 ?_ ?_ ?_)
     any_goals omega
     intro v4 w4 hown4 hg4 hat4
     have hB4:=below_row hB hg4 hsz4 fun r e=>(own_cells hown e).1
     have hw4:w4.ownsRow w.heap.size 2 1 v4 (out++[y]).length ((out++[y]).flatMap (cellsOf 1 icell)):=by
      rw [List.flatMap_append,List.length_append]
      exact hown4
     have hl4:(out++[y]).length≤(out).length+1:=by simp
     obtain ⟨zs,hz4⟩:∃ z,z=out++[y]:=⟨_,rfl⟩
     rw [← hz4] at hw4 hl4 HE
     obtain ⟨A4,c4,rfl⟩:=own_form hw4
     clear hown hB hown4 hat4 hg4 hsz4 hz4
     go_wp2
     go_roundw
     case rel=>exact ⟨k+1,zs,false,A4,c4,hk1,by go_num,rfl,rfl,hw4,hB4,by simp; omega,HE⟩
     case measure=>(simp [intOf]; try omega)
   ·have hol1:out.length≤k+1:=by simpa using hol
    clear hol
    have HE:Hid ((out++[y])++finL x true (l.drop (k+1))=putL x l):=by
     rw [Hid,← HO.out,HD.out]
     simp [finL]
    clear HO HD
    go_upto_region 10 with (fail)
    have hsz4:=hB.size
    go_wp2_with (at_builtin; refine wpList_app2 slT_i64 rfl (.tmp 34) (.tmp 39) rfl rfl hown rfl rfl one_1 hsz4 ?_ ?_ ?_)
    any_goals omega
    intro v4 w4 hown4 hg4 hat4
    have hB4:=below_row hB hg4 hsz4 fun r e=>(own_cells hown e).1
    have hw4:w4.ownsRow w.heap.size 2 1 v4 (out++[y]).length ((out++[y]).flatMap (cellsOf 1 icell)):=by
     rw [List.flatMap_append,List.length_append]
     exact hown4
    have hl4:(out++[y]).length≤(out).length+1:=by simp
    obtain ⟨zs,hz4⟩:∃ z,z=out++[y]:=⟨_,rfl⟩
    rw [← hz4] at hw4 hl4 HE
    obtain ⟨A4,c4,rfl⟩:=own_form hw4
    clear hown hB hown4 hat4 hg4 hsz4 hz4
    go_wp2
    go_roundw
    case rel=>exact ⟨k+1,zs,true,A4,c4,hk1,by go_num,rfl,rfl,hw4,hB4,by simp; omega,HE⟩
    case measure=>(simp [intOf]; try omega)
  ·obtain rfl:k=l.length:=by omega
   rw [List.drop_length] at HO
   cases b
   ·have HE:Hid (out++[x]=putL x l):=HO
    have hol1:out.length≤l.length:=by simpa using hol
    clear HO hlt
    go_upto_region 12 with (fail)
    have hsz4:=hB.size
    go_wp2_with (at_builtin; refine wpList_app2 slT_i64 rfl (.tmp 43) (.tmp 45) rfl rfl hown rfl rfl one_1 hsz4 ?_ ?_ ?_)
    any_goals omega
    intro v4 w4 hown4 hg4 hat4
    have hB4:=below_row hB hg4 hsz4 fun r e=>(own_cells hown e).1
    have hw4:w4.ownsRow w.heap.size 2 1 v4 (out++[x]).length ((out++[x]).flatMap (cellsOf 1 icell)):=by
     rw [List.flatMap_append,List.length_append]
     exact hown4
    have hl4:(out++[x]).length≤(out).length+1:=by simp
    obtain ⟨zs,hz4⟩:∃ z,z=out++[x]:=⟨_,rfl⟩
    rw [← hz4] at hw4 hl4 HE
    obtain ⟨A4,c4,rfl⟩:=own_form hw4
    clear hown hB hown4 hat4 hg4 hsz4 hz4
    go_wp2
    go_ret
    have ha:=Arr.of_own hw4
    exact ⟨_,rfl,by rw [← HE.out]; exact ha,hB4⟩
   ·have HE:Hid (out=putL x l):=by rw [Hid,← HO.out]; simp [finL]
    have ha:=Arr.of_own hown
    clear HO hlt
    go_wp2
    go_ret
    exact ⟨_,rfl,by rw [← HE.out]; exact ha,hB⟩
end Go.Proofs.YtjpfjklobnilkaaGreat
