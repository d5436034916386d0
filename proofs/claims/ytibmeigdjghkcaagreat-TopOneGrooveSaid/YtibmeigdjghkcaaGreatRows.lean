/-
  No cell of these rows narrows 'for every input' (looked for: loops, veiled, ifaces, maps, wideKeys, modest, calm, conditions, laid).
  DERIVED. THE GIVEN ROWS OF THIS SEAT. 5 by the template 'for every input the law returns true; each argument reads behind the call as it read before'; 0 by the template 'total and deterministic' (their statements: YtibmeigdjghkcaaGreatTotals.lean).
  GIVEN WITH THE SEED: the statements are not yours to turn. If you find one false, say at which input.
  Laid BY PROGRAM, IN A SANDBOX (cutbox-rows.mjs): the forced cells as the released guide's own fill.sh prints them over the translation 6dc7de6aa41ec6c4… (all of the seat's roots in one cut). By AI agents, Wed Nov 11 2026. No macro, syntax, notation, axiom, sorry.
-/
import Derived.Test.YtibmeigdjghkcaaGreatChecked
import GoSem.Claim
import GoSem.ClaimJoined
import GoSem.ClaimMapViews
import Derived.JoinedTies
import Derived.KernelRfl
namespace Go.Proofs.YtibmeigdjghkcaaGreat
/- THE CELL 'sum', in the pinned program and in every row, IS THE sha256 OF THE DUMP (.gsa) THAT YtibmeigdjghkcaaGreatProg.lean LOADS. Nothing in Lean hashes anything: it is a label: what it is worth is what the hold of that sum in a sandbox is worth. -/
noncomputable def Tryz.pinned : Pinned := { name := "ytibmeigdjghkcaagreat", sum := "6dc7de6aa41ec6c49fdf2a4561eda1b73cbf066ce9841040679acaa50f96cedf", checked := Tryz.checked }
namespace Rows
def none {H : Type} : Left H := { results := [], args := [] }

/-- 'mandreltop.TopOneGroove': WHATEVER THE INPUT: true; the input reads as it did. -/
def topOneGrooveSpec : ChangeSpec := { name := "topOneGroove", fn := fun _ => fun
  | [d1, d2, d3, d4] => { results := [.lit (.bool true)], args := [d1, d2, d3, d4] }
  | _ => none }
def topOneGrooveRow : OpenClaim := { program := "ytibmeigdjghkcaagreat", sum := "6dc7de6aa41ec6c49fdf2a4561eda1b73cbf066ce9841040679acaa50f96cedf", func := "mandrel/mandreltop.TopOneGroove", spec := "topOneGroove", unfollowed := true, recurses := true, plainKeys := false, apart := false }
def TopOneGrooveSaid : Prop := topOneGrooveRow.holds Tryz.pinned (OpenSpec.ofChange topOneGrooveSpec)

/-- ITS FALSE NEIGHBOUR: 'it returns false'. Refute it at one input. -/
def topOneGrooveWrong : ChangeSpec := { name := "topOneGroove", fn := fun _ => fun
  | [d1, d2, d3, d4] => { results := [.lit (.bool false)], args := [d1, d2, d3, d4] }
  | _ => none }
def TopOneGrooveWrongFalsely : Prop := topOneGrooveRow.holds Tryz.pinned (OpenSpec.ofChange topOneGrooveWrong)

/-- 'mandreltop.TopOneName': WHATEVER THE INPUT: true; the input reads as it did. -/
def topOneNameSpec : ChangeSpec := { name := "topOneName", fn := fun _ => fun
  | [d1, d2, d3] => { results := [.lit (.bool true)], args := [d1, d2, d3] }
  | _ => none }
def topOneNameRow : OpenClaim := { program := "ytibmeigdjghkcaagreat", sum := "6dc7de6aa41ec6c49fdf2a4561eda1b73cbf066ce9841040679acaa50f96cedf", func := "mandrel/mandreltop.TopOneName", spec := "topOneName", unfollowed := true, recurses := true, plainKeys := false, apart := false }
def TopOneNameSaid : Prop := topOneNameRow.holds Tryz.pinned (OpenSpec.ofChange topOneNameSpec)

/-- ITS FALSE NEIGHBOUR: 'it returns false'. Refute it at one input. -/
def topOneNameWrong : ChangeSpec := { name := "topOneName", fn := fun _ => fun
  | [d1, d2, d3] => { results := [.lit (.bool false)], args := [d1, d2, d3] }
  | _ => none }
def TopOneNameWrongFalsely : Prop := topOneNameRow.holds Tryz.pinned (OpenSpec.ofChange topOneNameWrong)

/-- 'mandreltop.TopAlikeNames': WHATEVER THE INPUT: true; the input reads as it did. -/
def topAlikeNamesSpec : ChangeSpec := { name := "topAlikeNames", fn := fun _ => fun
  | [d1, d2] => { results := [.lit (.bool true)], args := [d1, d2] }
  | _ => none }
def topAlikeNamesRow : OpenClaim := { program := "ytibmeigdjghkcaagreat", sum := "6dc7de6aa41ec6c49fdf2a4561eda1b73cbf066ce9841040679acaa50f96cedf", func := "mandrel/mandreltop.TopAlikeNames", spec := "topAlikeNames", unfollowed := true, recurses := true, plainKeys := false, apart := false }
def TopAlikeNamesSaid : Prop := topAlikeNamesRow.holds Tryz.pinned (OpenSpec.ofChange topAlikeNamesSpec)

/-- ITS FALSE NEIGHBOUR: 'it returns false'. Refute it at one input. -/
def topAlikeNamesWrong : ChangeSpec := { name := "topAlikeNames", fn := fun _ => fun
  | [d1, d2] => { results := [.lit (.bool false)], args := [d1, d2] }
  | _ => none }
def TopAlikeNamesWrongFalsely : Prop := topAlikeNamesRow.holds Tryz.pinned (OpenSpec.ofChange topAlikeNamesWrong)

/-- 'mandreltop.TopWindowPlays': WHATEVER THE INPUT: true; the input reads as it did. -/
def topWindowPlaysSpec : ChangeSpec := { name := "topWindowPlays", fn := fun _ => fun
  | [d] => { results := [.lit (.bool true)], args := [d] }
  | _ => none }
def topWindowPlaysRow : OpenClaim := { program := "ytibmeigdjghkcaagreat", sum := "6dc7de6aa41ec6c49fdf2a4561eda1b73cbf066ce9841040679acaa50f96cedf", func := "mandrel/mandreltop.TopWindowPlays", spec := "topWindowPlays", unfollowed := true, recurses := true, plainKeys := false, apart := false }
def TopWindowPlaysSaid : Prop := topWindowPlaysRow.holds Tryz.pinned (OpenSpec.ofChange topWindowPlaysSpec)

/-- ITS FALSE NEIGHBOUR: 'it returns false'. Refute it at one input. -/
def topWindowPlaysWrong : ChangeSpec := { name := "topWindowPlays", fn := fun _ => fun
  | [d] => { results := [.lit (.bool false)], args := [d] }
  | _ => none }
def TopWindowPlaysWrongFalsely : Prop := topWindowPlaysRow.holds Tryz.pinned (OpenSpec.ofChange topWindowPlaysWrong)

/-- 'mandreltop.TopSureTurns': WHATEVER THE INPUT: true; the input reads as it did. -/
def topSureTurnsSpec : ChangeSpec := { name := "topSureTurns", fn := fun _ => fun
  | [d1, d2, d3, d4, d5] => { results := [.lit (.bool true)], args := [d1, d2, d3, d4, d5] }
  | _ => none }
def topSureTurnsRow : OpenClaim := { program := "ytibmeigdjghkcaagreat", sum := "6dc7de6aa41ec6c49fdf2a4561eda1b73cbf066ce9841040679acaa50f96cedf", func := "mandrel/mandreltop.TopSureTurns", spec := "topSureTurns", unfollowed := true, recurses := true, plainKeys := false, apart := false }
def TopSureTurnsSaid : Prop := topSureTurnsRow.holds Tryz.pinned (OpenSpec.ofChange topSureTurnsSpec)

/-- ITS FALSE NEIGHBOUR: 'it returns false'. Refute it at one input. -/
def topSureTurnsWrong : ChangeSpec := { name := "topSureTurns", fn := fun _ => fun
  | [d1, d2, d3, d4, d5] => { results := [.lit (.bool false)], args := [d1, d2, d3, d4, d5] }
  | _ => none }
def TopSureTurnsWrongFalsely : Prop := topSureTurnsRow.holds Tryz.pinned (OpenSpec.ofChange topSureTurnsWrong)

/- THE SECOND FORM. 'bulk': how many values and letters a reading holds, each counted each time it is reached (what is shared counts as often as it is met; a slice's spare places count too). A statement '..UptoSaid' is the law's where the arguments, and the package variables that the reading takes, are together of bulk at most 1048576: NARROWER than '..Said'. Prove '..Said' where nothing that the law and all that it calls make is longer than what came in: it says more and counts as full. Else prove '..UptoSaid'. A law counts once. -/
mutual
def uptoBulk {H : Type} : DataW H → Nat
  | .lit (.string bytes) => bytes.length + 1
  | .lit _ => 1
  | .nil => 1
  | .ptr d => uptoBulk d + 1
  | .slice elems spare => uptoBulkAll elems + uptoBulkAll spare + 1
  | .agg parts => uptoBulkAll parts + 1
  | .iface _ d => uptoBulk d + 1
  | .map entries => uptoBulkEntries entries + 1
  | .held _ => 1
def uptoBulkAll {H : Type} : List (DataW H) → Nat
  | [] => 0
  | d :: r => uptoBulk d + uptoBulkAll r
def uptoBulkEntries {H : Type} : List (Lit × DataW H) → Nat
  | [] => 0
  | x :: r => uptoBulkEntry x + uptoBulkEntries r
def uptoBulkEntry {H : Type} : Lit × DataW H → Nat
  | (.string bytes, d) => bytes.length + uptoBulk d + 1
  | (_, d) => uptoBulk d + 1
 end
def uptoSmall : (H : Type) → List (DataW H) → Bool := fun _ ds => decide (uptoBulkAll ds ≤ 1048576)
def OpenSpec.upto (s : _root_.Go.ChangeSpec) : _root_.Go.OpenSpec := { _root_.Go.OpenSpec.ofChange s with cond := some uptoSmall }

/-- 'mandreltop.TopOneGroove', WHERE WHAT IT READS IS OF BULK AT MOST 1048576: true; the input reads as it did. -/
def topOneGrooveUptoRow : OpenClaim := { program := "ytibmeigdjghkcaagreat", sum := "6dc7de6aa41ec6c49fdf2a4561eda1b73cbf066ce9841040679acaa50f96cedf", func := "mandrel/mandreltop.TopOneGroove", spec := "topOneGroove", unfollowed := true, recurses := true, plainKeys := false, apart := false, narrowed := true }
def TopOneGrooveUptoSaid : Prop := topOneGrooveUptoRow.holds Tryz.pinned (OpenSpec.upto topOneGrooveSpec)

/-- 'mandreltop.TopOneName', WHERE WHAT IT READS IS OF BULK AT MOST 1048576: true; the input reads as it did. -/
def topOneNameUptoRow : OpenClaim := { program := "ytibmeigdjghkcaagreat", sum := "6dc7de6aa41ec6c49fdf2a4561eda1b73cbf066ce9841040679acaa50f96cedf", func := "mandrel/mandreltop.TopOneName", spec := "topOneName", unfollowed := true, recurses := true, plainKeys := false, apart := false, narrowed := true }
def TopOneNameUptoSaid : Prop := topOneNameUptoRow.holds Tryz.pinned (OpenSpec.upto topOneNameSpec)

/-- 'mandreltop.TopAlikeNames', WHERE WHAT IT READS IS OF BULK AT MOST 1048576: true; the input reads as it did. -/
def topAlikeNamesUptoRow : OpenClaim := { program := "ytibmeigdjghkcaagreat", sum := "6dc7de6aa41ec6c49fdf2a4561eda1b73cbf066ce9841040679acaa50f96cedf", func := "mandrel/mandreltop.TopAlikeNames", spec := "topAlikeNames", unfollowed := true, recurses := true, plainKeys := false, apart := false, narrowed := true }
def TopAlikeNamesUptoSaid : Prop := topAlikeNamesUptoRow.holds Tryz.pinned (OpenSpec.upto topAlikeNamesSpec)

/-- 'mandreltop.TopWindowPlays', WHERE WHAT IT READS IS OF BULK AT MOST 1048576: true; the input reads as it did. -/
def topWindowPlaysUptoRow : OpenClaim := { program := "ytibmeigdjghkcaagreat", sum := "6dc7de6aa41ec6c49fdf2a4561eda1b73cbf066ce9841040679acaa50f96cedf", func := "mandrel/mandreltop.TopWindowPlays", spec := "topWindowPlays", unfollowed := true, recurses := true, plainKeys := false, apart := false, narrowed := true }
def TopWindowPlaysUptoSaid : Prop := topWindowPlaysUptoRow.holds Tryz.pinned (OpenSpec.upto topWindowPlaysSpec)

/-- 'mandreltop.TopSureTurns', WHERE WHAT IT READS IS OF BULK AT MOST 1048576: true; the input reads as it did. -/
def topSureTurnsUptoRow : OpenClaim := { program := "ytibmeigdjghkcaagreat", sum := "6dc7de6aa41ec6c49fdf2a4561eda1b73cbf066ce9841040679acaa50f96cedf", func := "mandrel/mandreltop.TopSureTurns", spec := "topSureTurns", unfollowed := true, recurses := true, plainKeys := false, apart := false, narrowed := true }
def TopSureTurnsUptoSaid : Prop := topSureTurnsUptoRow.holds Tryz.pinned (OpenSpec.upto topSureTurnsSpec)

end Rows
end Go.Proofs.YtibmeigdjghkcaaGreat
