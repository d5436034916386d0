/- Contracts of the reference: Worn, In, Saved. -/
import Derived.Test.YtjpfjklobnilkaaGreatPB
import Derived.StillTailTactics
import Derived.Deep.Cut
import Derived.Deep.CutBlock
namespace Go.Proofs.YtjpfjklobnilkaaGreat
open Go.RowKit Go.Shelf
set_option linter.unusedVariables false
theorem any_drop {α:Type} (p:α→Bool) (l:List α) (k:Nat) (x:α) (h:l[k]? = some x):(l.drop k).any p=(p x||(l.drop (k+1)).any p):=by
 obtain ⟨hk,hx⟩:=List.getElem?_eq_some_iff.1 h
 rw [List.drop_eq_getElem_cons hk,hx]
 rfl
set_option maxRecDepth 100000 in
theorem worn_ok (v:Value) (c:Cyl) (a b:Int) (w:World) (hv:CylV w w.heap.size v c) :
  Calls Tryz.prog 33 #[v,.int .i64 a,.int .i64 b] w fun r w'=>r = .returned (.bool (worn c a b))∧Below w.heap.size w w':=by
 obtain ⟨fv,pv,rfl,⟨fa,fc,rfl,hf1,hf2,hfc⟩,hp⟩:=hv
 have hx:=Blk.new w 25 #[.int .i64 c.turns,.int .i64 c.long,.int .i64 c.plays,.slice fa c.frag.length fc,pv]
 have hB:=(Below.refl w.heap.size w).alloc (Nat.le_refl _) (.cells #[.int .i64 c.turns,.int .i64 c.long,.int .i64 c.plays,.slice fa c.frag.length fc,pv] 25)
 go_enter Tryz.func33,Tryz.ntmps33
 go_upto_region 1 with (fail)
 generalize hW:w.alloc (.cells #[.int .i64 c.turns,.int .i64 c.long,.int .i64 c.plays,.slice fa c.frag.length fc,pv] 25)=W at *
 clear hW
 obtain ⟨k0,k1,k2,k3,k4⟩:=hx.c5
 go_wp2
 go_loop [7] (fun i=>∃ (k:Nat),k≤c.frag.length∧i = .int .i64 k∧worn c a b=(c.frag.drop k).any fun t=>decide (a≤t)&&decide (t≤b)) (fun i=>c.frag.length-(intOf i).toNat)
 case atStart=>exact ⟨0,Nat.zero_le _,rfl,rfl⟩
 case round =>
  obtain ⟨k,hk,rfl,hr⟩:=hrel
  by_cases hlt:k < c.frag.length
  ·obtain ⟨bb,off,rfl,hBb,hcc⟩:=hfc (by omega)
   obtain ⟨t,ht⟩:∃ x,c.frag[k]? = some x:=⟨c.frag[k],List.getElem?_eq_getElem hlt⟩
   have hce:=(hB.cell (p:=⟨bb,off+k*1+0,none⟩) hBb).trans (hcc k t ht 0 (by omega))
   simp only [Nat.mul_one,Nat.add_zero] at hce
   rw [any_drop _ _ k t ht] at hr
   have HR:=Lib.hid hr; clear hr ht hcc hfc hp
   by_cases h1:a≤t
   ·by_cases h2:t≤b
    ·go_wp2
     go_ret
     exact ⟨ret_b (by rw [HR.out]; simp [h1,h2]),hB⟩
    ·go_wp2
     go_round
     case rel=>exact ⟨k+1,by omega,by go_num,by rw [HR.out]; simp [h1,h2]⟩
     case measure=>simp [intOf]; omega
   ·go_wp2
    go_round
    case rel=>exact ⟨k+1,by omega,by go_num,by rw [HR.out]; simp [h1]⟩
    case measure=>simp [intOf]; omega
  ·obtain rfl:k=c.frag.length:=by omega
   have HR:=Lib.hid hr; clear hr
   go_wp2
   go_ret
   exact ⟨ret_b (by rw [HR.out]; simp),hB⟩
end Go.Proofs.YtjpfjklobnilkaaGreat
