/- Tables: rows of numbers, each in a block of its own. -/
import Derived.Test.YtaihbcmifjmapaaGreatSpW
namespace Go.Proofs.YtaihbcmifjmapaaGreat
open Go.RowKit Go.Shelf Sp
set_option linter.unusedVariables false
def sliR (n:Nat) (p:Nat×Nat) (_:Nat):Value := .slice (some ⟨p.1,0,none⟩) n p.2
theorem slT_row:SlT 63 39 1 24 (.slice none 0 0):=⟨Tryz.underlying63,by kernel_rfl,rfl,by omega⟩
theorem slT_n64:SlT 39 2 1 8 (.int .i64 0):=⟨Tryz.underlying39,by kernel_rfl,rfl,by omega⟩
structure RowsAt (W:World) (base n:Nat) (rs:List (Nat×Nat)) (F:Mat):Prop where
 row:∀ i p,rs[i]? = some p→∃ cur,Blk W p.1 2 cur∧∀ k,k < n→cur[k]? = some (.int .i64 (F i k))
 lo:∀ p∈rs,base≤p.1
 ne:∀ (i j:Nat) (p q:Nat×Nat),rs[i]? = some p→rs[j]? = some q→p.1=q.1→i=j
section
variable {W W':World} {base n:Nat} {rs:List (Nat×Nat)} {F:Mat}
theorem RowsAt.lt (h:RowsAt W base n rs F) {i:Nat} {p:Nat×Nat} (hp:rs[i]? = some p):p.1 < W.heap.size:=by
 obtain ⟨cur,h1,_⟩:=h.row i p hp
 exact h1.lt
theorem RowsAt.at_ (h:RowsAt W base n rs F) {i k:Nat} {p:Nat×Nat} (hp:rs[i]? = some p) (hk:k < n):W.cell? ⟨p.1,k,none⟩=some (.int .i64 (F i k))∧W.frozen? ⟨p.1,k,none⟩=false:=by
 obtain ⟨cur,h1,h2⟩:=h.row i p hp
 exact ⟨(h1.cell k).trans (h2 k hk),h1.frozen k⟩
theorem RowsAt.keep (h:RowsAt W base n rs F) (hk:∀ p∈rs,W'.heap[p.1]? = W.heap[p.1]?):RowsAt W' base n rs F :=
 ⟨fun i p hp=>by
  obtain ⟨cur,h1,h2⟩:=h.row i p hp
  exact ⟨cur,(hk p (List.mem_of_getElem? hp)).trans h1,h2⟩,h.lo,h.ne⟩
theorem RowsAt.memlt (h:RowsAt W base n rs F) {p:Nat×Nat} (hp:p∈rs):p.1 < W.heap.size:=by
 obtain ⟨i,hi⟩:=List.getElem?_of_mem hp
 exact h.lt hi
theorem RowsAt.call (h:RowsAt W base n rs F) (hb:Below W.heap.size W W'):RowsAt W' base n rs F:=h.keep fun p hp=>hb.block p.1 (h.memlt hp)
theorem RowsAt.grown (h:RowsAt W base n rs F) {row:Option Nat} (hg:W.grownBy W' row) (hr:∀ r,row=some r→∀ cs,¬ Blk W r 2 cs):RowsAt W' base n rs F:=h.keep fun p hp=>hg.block p.1 (h.memlt hp) fun e=>by
 obtain ⟨i,hi⟩:=List.getElem?_of_mem hp
 obtain ⟨cur,h1,_⟩:=h.row i p hi
 exact hr p.1 e.symm cur h1
theorem RowsAt.same (h:RowsAt W base n rs F) {G:Mat} (e:∀ i k,i < rs.length→k < n→G i k=F i k):RowsAt W base n rs G :=
 ⟨fun i p hp=>by
  obtain ⟨cur,h1,h2⟩:=h.row i p hp
  exact ⟨cur,h1,fun k hk=>by rw [e i k (List.getElem?_eq_some_iff.1 hp).1 hk]; exact h2 k hk⟩,h.lo,h.ne⟩
theorem RowsAt.snoc (h:RowsAt W base n rs F) {p:Nat×Nat} {cur:Array Value} (h1:Blk W p.1 2 cur) (h2:∀ k,k < n→cur[k]? = some (.int .i64 (F rs.length k))) (hl:base≤p.1) (hn:∀ q∈rs,q.1≠p.1):RowsAt W base n (rs++[p]) F:=by
 have key:∀ i q,(rs++[p])[i]? = some q→rs[i]? = some q∨(i=rs.length∧q=p):=by
  intro i q hq
  rcases Nat.lt_trichotomy i rs.length with hi | hi | hi
  ·rw [List.getElem?_append_left hi] at hq
   exact .inl hq
  ·subst hi
   simp at hq
   exact .inr ⟨rfl,hq.symm⟩
  ·rw [List.getElem?_eq_none (by simp; omega)] at hq
   cases hq
 refine ⟨fun i q hq=>?_,fun q hq=>?_,fun i j q r hq hr e=>?_⟩
 ·rcases key i q hq with hq | ⟨rfl,rfl⟩
  ·exact h.row i q hq
  ·exact ⟨cur,h1,h2⟩
 ·rcases List.mem_append.1 hq with hq | hq
  ·exact h.lo q hq
  ·simp at hq
   subst hq
   exact hl
 ·rcases key i q hq with hq' | ⟨e1,e2⟩ <;> rcases key j r hr with hr' | ⟨e3,e4⟩
  ·exact h.ne i j q r hq' hr' e
  ·exact absurd (e.trans (by rw [e4])) (hn q (List.mem_of_getElem? hq'))
  ·exact absurd (e.symm.trans (by rw [e2])) (hn r (List.mem_of_getElem? hr'))
  ·rw [e1,e3]
theorem RowsAt.put (h:RowsAt W base n rs F) {i k:Nat} {p:Nat×Nat} (hp:rs[i]? = some p) (hk:k < n) (x:Int):RowsAt (W.setCell ⟨p.1,k,none⟩ (.int .i64 x)) base n rs (updM F i k x):=by
 refine ⟨fun j q hq=>?_,h.lo,h.ne⟩
 obtain ⟨cur,h1,h2⟩:=h.row j q hq
 by_cases e:q.1=p.1
 ·obtain rfl:=h.ne j i q p hq hp e
  rw [hp] at hq
  injection hq with hq
  subst hq
  refine ⟨_,h1.set_ k (.int .i64 x),fun m hm=>?_⟩
  rw [Array.getElem?_setIfInBounds]
  have hks:k < cur.size:=(Array.getElem?_eq_some_iff.1 (h2 k hk)).1
  unfold updM
  by_cases e2:k=m
  ·subst e2
   rw [if_pos rfl,if_pos hks,if_pos ⟨rfl,rfl⟩]
  ·rw [if_neg e2,if_neg fun h=>e2 h.2.symm]
   exact h2 m hm
 ·refine ⟨cur,h1.far (by exact e) _,fun m hm=>?_⟩
  rw [h2 m hm]
  unfold updM
  rw [if_neg]
  rintro ⟨rfl,_⟩
  rw [hp] at hq
  injection hq with hq
  exact e (by rw [hq])
end
structure TabF (W:World) (base b n cap:Nat) (rs:List (Nat×Nat)) (F:Mat):Prop where
 own:W.ownsRow base 39 1 (.slice (some ⟨b,0,none⟩) n cap) n (rs.flatMap (cellsOf 1 (sliR n)))
 rows:RowsAt W base n rs F
 len:rs.length=n
section
variable {W W':World} {base b n cap:Nat} {rs:List (Nat×Nat)} {F:Mat}
theorem TabF.call (h:TabF W base b n cap rs F) (hb:Below W.heap.size W W'):TabF W' base b n cap rs F:=⟨own_call h.own hb,h.rows.call hb,h.len⟩
theorem TabF.head (h:TabF W base b n cap rs F) {i:Nat} (hi:i < n):∃ p,rs[i]? = some p∧W.cell? ⟨b,i,none⟩=some (.slice (some ⟨p.1,0,none⟩) n p.2)∧base≤p.1:=by
 have ho:=h.own
 have hl:=h.len
 obtain ⟨p,hp⟩:∃ p,rs[i]? = some p:=⟨_,List.getElem?_eq_getElem (by omega)⟩
 refine ⟨p,hp,?_,h.rows.lo p (List.mem_of_getElem? hp)⟩
 rw [← hl] at ho
 have ha:=Arr.of_own ho
 obtain ⟨b',off,x,h1,h2,h3,h4⟩:=ha.at_ (by omega:i < rs.length)
 rw [hp] at h3
 injection h3 with h3
 subst h3
 injection h1 with h1
 injection h1 with h1 h5
 subst h1 h5
 have:=h4 0 (by omega)
 simp only [Nat.mul_one,Nat.add_zero,Nat.zero_add,sliR,hl] at this
 exact this
theorem TabF.put (h:TabF W base b n cap rs F) {i k:Nat} {p:Nat×Nat} (hp:rs[i]? = some p) (hk:k < n) (x:Int):TabF (W.setCell ⟨p.1,k,none⟩ (.int .i64 x)) base b n cap rs (updM F i k x):=by
 refine ⟨h.own.kept (grown_setCell _) (.inr fun e=>?_),h.rows.put hp hk x,h.len⟩
 obtain ⟨cur,h1,_⟩:=h.rows.row i p hp
 exact own_blk_ne h.own h1 (by decide) e.symm
theorem TabF.same (h:TabF W base b n cap rs F) {G:Mat} (e:∀ i k,i < n→k < n→G i k=F i k):TabF W base b n cap rs G:=⟨h.own,h.rows.same fun i k hi hk=>e i k (by rw [← h.len]; exact hi) hk,h.len⟩
end
end Go.Proofs.YtaihbcmifjmapaaGreat
