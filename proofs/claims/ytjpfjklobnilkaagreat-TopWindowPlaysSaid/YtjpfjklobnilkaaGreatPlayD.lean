/- Contracts: play.CheckPlan, play.Saves. -/
import Derived.Test.YtjpfjklobnilkaaGreatPB
namespace Go.Proofs.YtjpfjklobnilkaaGreat
open Go.RowKit Go.Shelf
set_option linter.unusedVariables false
theorem planGo_drop (c:Cyl) (last:Int) (l:List Str) (k:Nat) (s:Str) (h:l[k]? = some s):planGo c last (l.drop k) =
  if (inR 0 (c.turns-1) s.a&&inR 0 (c.turns-1) s.b&&decide (s.a≤s.b))=false then 3
  else if c.long≤s.b-s.a then 2
  else if s.a≤last then 22
  else if worn c s.a s.b=true then 22
  else planGo c s.b (l.drop (k+1)):=by
 obtain ⟨hk,hx⟩:=List.getElem?_eq_some_iff.1 h
 rw [List.drop_eq_getElem_cons hk,hx]
 rfl
end Go.Proofs.YtjpfjklobnilkaaGreat
