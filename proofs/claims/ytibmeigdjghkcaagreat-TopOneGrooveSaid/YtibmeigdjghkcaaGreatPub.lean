/- Contracts: CheckJoin, Count. Contracts: Nth, Only. -/
import Derived.Test.YtibmeigdjghkcaaGreatSt2
import Derived.Test.YtibmeigdjghkcaaGreatRf2
import Derived.Test.YtibmeigdjghkcaaGreatNth
import Derived.Test.YtibmeigdjghkcaaGreatMp2
namespace Go.Proofs.YtibmeigdjghkcaaGreat.J
open Go.RowKit Go.Shelf
set_option linter.unusedVariables false
theorem openE_nil (c:Cyl):openE c []=checkCyl c:=by
 unfold openE
 by_cases h:checkCyl c≠0
 ·rw [if_pos h]
 ·rw [if_neg h]; simp at h ⊢; exact h.symm
def countM (c:Cyl):Int×Int:=if checkCyl c≠0 then (0,checkCyl c) else (((joinsN c).length:Int),0)
set_option maxRecDepth 100000 in
set_option maxHeartbeats 1600000 in
theorem count_ok (v:Value) (c:Cyl) (w:World) (hv:CylV w w.heap.size v c) :
  Calls Tryz.prog 11 #[v] w fun r w'=>r = .returned (.tuple #[.int .i64 (countM c).1,.int .i64 (countM c).2])∧Below w.heap.size w w':=by
 obtain ⟨pa,pc,rfl,hp⟩:=hv.open_
 have hC:=CB.new hp
 have hB:=(Below.refl w.heap.size w).alloc (Nat.le_refl _) (.cells #[.slice pa c.pcs.length pc,.int .i64 c.off,.int .i64 c.slo,.int .i64 c.shi] 26)
 go_enter Tryz.func11,Tryz.ntmps11
 go_upto_region 1 with (fail)
 have HWS:Hid ((w.alloc (.cells #[.slice pa c.pcs.length pc,.int .i64 c.off,.int .i64 c.slo,.int .i64 c.shi] 26)).heap.size=w.heap.size+1):=by simp [Hid]
 generalize hW:w.alloc (.cells #[.slice pa c.pcs.length pc,.int .i64 c.off,.int .i64 c.slo,.int .i64 c.shi] 26)=W at *
 clear hW hp
 obtain ⟨k0,k1,k2,k3⟩:=hC.c4
 go_wp2_with fail
 refine (open_ok _ _ c [] W hC.cyl Arr.nil_).mono ?_
 rintro e w1 ⟨hb1,hpost⟩
 rw [openE_nil] at hpost
 have hgx:=hB.size
 have hB1:=hB.trans (hb1.mono hB.size)
 clear k0 k1 k2 k3 hC hB hb1
 rcases hpost with ⟨hne,rfl⟩ | ⟨-,h0,x,rfl,hT,hga,hgu⟩
 ·have d0:(checkCyl c != 0)=true:=by simp [hne]
  have HE:Hid (countM c=(0,checkCyl c)):=if_pos hne
  clear hne
  have hB:=hB1
  go_wp2
  exact bodyPost_ret (v := .tuple #[.int .i64 0,.int .i64 (checkCyl c)]) (by simp [results,Tryz.results11,go_sem]) rfl ⟨by rw [HE.out],hB⟩
 ·have HE:Hid (countM c=(((joinsN c).length:Int),0)):=if_neg (by simp [h0])
  clear h0
  go_wp2_with fail
  refine (all_ok x c w1 hT).mono ?_
  rintro e w2 ⟨rfl,hT2,hC2⟩
  have hB:Below w.heap.size w w2:=hB1.trans (hC2.below hB1.size (by omega) (by omega))
  go_wp2
  exact bodyPost_ret (v := .tuple #[.int .i64 ((joinsN c).length:Int),.int .i64 0]) (by simp [results,Tryz.results11,go_sem]) rfl ⟨by rw [HE.out],hB⟩
end Go.Proofs.YtibmeigdjghkcaaGreat.J
namespace Go.Proofs.YtibmeigdjghkcaaGreat.J
open Go.RowKit Go.Shelf
set_option linter.unusedVariables false
def joinsS (c:Cyl):List (List St):=(joinsN c).map fun l=>l.map (stepAt c)
def nthM (c:Cyl) (n:Int):List St×Int:=if checkCyl c≠0 then ([],checkCyl c) else if 0≤n∧n < (joinsN c).length then (((joinsS c)[n.toNat]?).getD [],0) else ([],3)
def StPost (w:World) (m:List St×Int) (r:Ending) (w':World):Prop :=
 ∃ A cap,r = .returned (.tuple #[.slice A m.1.length cap,.int .i64 m.2])∧Arr w' w'.heap.size 2 (.slice A m.1.length cap) m.1 stcell∧Below w.heap.size w w'
theorem StPost.nil_ {w w':World} {e:Int} (h:Below w.heap.size w w') {m:List St×Int} (hm:m=([],e)):StPost w m (.returned (.tuple #[.slice none 0 0,.int .i64 e])) w':=by
 subst hm
 exact ⟨none,0,rfl,Arr.nil_,h⟩
theorem nthIs_S {c:Cyl} {k:Nat} {l:List Nat} (h:NthIs c k l):((joinsS c)[k]?).getD []=l.map (stepAt c):=by
 unfold joinsS
 unfold NthIs at h
 rw [List.getElem?_map,h]; rfl
set_option maxRecDepth 100000 in
set_option maxHeartbeats 1600000 in
theorem nthP_ok (v:Value) (c:Cyl) (n:Int) (w:World) (hv:CylV w w.heap.size v c) :
  Calls Tryz.prog 16 #[v,.int .i64 n] w (StPost w (nthM c n)):=by
 obtain ⟨pa,pc,rfl,hp⟩:=hv.open_
 have hC:=CB.new hp
 have hB:=(Below.refl w.heap.size w).alloc (Nat.le_refl _) (.cells #[.slice pa c.pcs.length pc,.int .i64 c.off,.int .i64 c.slo,.int .i64 c.shi] 26)
 go_enter Tryz.func16,Tryz.ntmps16
 go_upto_region 1 with (fail)
 have HWS:Hid ((w.alloc (.cells #[.slice pa c.pcs.length pc,.int .i64 c.off,.int .i64 c.slo,.int .i64 c.shi] 26)).heap.size=w.heap.size+1):=by simp [Hid]
 generalize hW:w.alloc (.cells #[.slice pa c.pcs.length pc,.int .i64 c.off,.int .i64 c.slo,.int .i64 c.shi] 26)=W at *
 clear hW hp
 obtain ⟨k0,k1,k2,k3⟩:=hC.c4
 go_wp2_with fail
 refine (open_ok _ _ c [] W hC.cyl Arr.nil_).mono ?_
 rintro e w1 ⟨hb1,hpost⟩
 rw [openE_nil] at hpost
 have hgx:=hB.size
 have hB1:=hB.trans (hb1.mono hB.size)
 clear k0 k1 k2 k3 hC hB hb1
 rcases hpost with ⟨hne,rfl⟩ | ⟨-,h0,x,rfl,hT,hga,hgu⟩
 ·have d0:(checkCyl c != 0)=true:=by simp [hne]
  have HE:Hid (nthM c n=([],checkCyl c)):=if_pos hne
  clear hne
  go_wp2
  exact bodyPost_ret (v := .tuple #[.slice none 0 0,.int .i64 (checkCyl c)]) (by simp [results,Tryz.results16,go_sem]) rfl (StPost.nil_ hB1 HE.out)
 ·have HE:Hid (nthM c n=if 0≤n∧n < (joinsN c).length then (((joinsS c)[n.toNat]?).getD [],0) else ([],3)):=if_neg (by simp [h0])
  clear h0
  by_cases hn:n < 0
  ·have d1:decide (n < 0)=true:=by simpa using hn
   have HE2:Hid (nthM c n=([],3)):=by rw [Hid,HE.out,if_neg (by omega)]
   clear hn
   go_wp2
   exact bodyPost_ret (v := .tuple #[.slice none 0 0,.int .i64 3]) (by simp [results,Tryz.results16,go_sem]) rfl (StPost.nil_ hB1 HE2.out)
  ·have d1:decide (n < 0)=false:=by simpa using hn
   go_wp2_with fail
   refine (all_ok x c w1 hT).mono ?_
   rintro e w2 ⟨rfl,hT2,hC2⟩
   have hB2:Below w.heap.size w w2:=hB1.trans (hC2.below hB1.size (by omega) (by omega))
   have hc2s:=hC2.size
   have hb1s:=hB1.size
   by_cases hc:((joinsN c).length:Int)≤n
   ·have d2:decide (((joinsN c).length:Int)≤n)=true:=by simpa using hc
    have HE2:Hid (nthM c n=([],3)):=by rw [Hid,HE.out,if_neg (by omega)]
    clear hn hc
    go_wp2
    exact bodyPost_ret (v := .tuple #[.slice none 0 0,.int .i64 3]) (by simp [results,Tryz.results16,go_sem]) rfl (StPost.nil_ hB2 HE2.out)
   ·have d2:decide (((joinsN c).length:Int)≤n)=false:=by simpa using hc
    obtain ⟨k,rfl⟩:∃ k:Nat,n=(k:Int):=⟨n.toNat,by omega⟩
    have HE2:Hid (nthM c (k:Int)=(((joinsS c)[k]?).getD [],0)):=by rw [Hid,HE.out,if_pos (by omega),Int.toNat_natCast]
    have hk:k < (joinsN c).length:=by omega
    clear hn hc
    go_wp2_with fail
    refine (nth_ok x c k w2 hT2 hk).mono ?_
    rintro e w3 ⟨l,A,cap,hN,rfl,hA,hT3,hC3⟩
    have HN:=Lib.hid (nthIs_S hN)
    have hB3:Below w.heap.size w w3:=hB2.trans (hC3.below hB2.size (by omega) (by omega))
    clear hk hN
    go_wp2
    refine bodyPost_ret (v := .tuple #[.slice A l.length cap,.int .i64 0]) (by simp [results,Tryz.results16,go_sem]) rfl ?_
    rw [HE2.out,HN.out]
    exact ⟨A,cap,by simp,by simpa using hA,hB3⟩
end Go.Proofs.YtibmeigdjghkcaaGreat.J
