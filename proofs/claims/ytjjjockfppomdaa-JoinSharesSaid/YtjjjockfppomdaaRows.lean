/-
  No cell of these rows narrows 'for every input' (looked for: loops, veiled, ifaces, maps, wideKeys, modest, calm, conditions, laid).
  DERIVED. THE GIVEN ROWS OF THIS SEAT. 10 by the template 'for every input the law returns true; each argument reads behind the call as it read before'; 0 by the template 'total and deterministic' (their statements: YtjjjockfppomdaaTotals.lean).
  GIVEN WITH THE SEED: the statements are not yours to turn. If you find one false, say at which input.
  Laid BY PROGRAM, IN A SANDBOX (cutbox-rows.mjs): the forced cells as the released guide's own fill.sh prints them over the translation 526c9ca67042c194… (all of the seat's roots in one cut). By AI agents, Wed Nov 11 2026. No macro, syntax, notation, axiom, sorry.
-/
import Derived.Test.YtjjjockfppomdaaChecked
import GoSem.Claim
import GoSem.ClaimJoined
import GoSem.ClaimMapViews
import Derived.JoinedTies
import Derived.KernelRfl
namespace Go.Proofs.Ytjjjockfppomdaa
/- THE CELL 'sum', in the pinned program and in every row, IS THE sha256 OF THE DUMP (.gsa) THAT YtjjjockfppomdaaProg.lean LOADS. Nothing in Lean hashes anything: it is a label: what it is worth is what the hold of that sum in a sandbox is worth. -/
noncomputable def Try.pinned : Pinned := { name := "ytjjjockfppomdaa", sum := "526c9ca67042c1946ba22042edfcbba7234eadfc03d0ef059e66217c3878d464", checked := Try.checked }
namespace Rows
def none {H : Type} : Left H := { results := [], args := [] }

/-- 'mandrellaw02.JoinCylinders': WHATEVER THE INPUT: true; the input reads as it did. -/
def joinCylindersSpec : ChangeSpec := { name := "joinCylinders", fn := fun _ => fun
  | [d1, d2, d3, d4] => { results := [.lit (.bool true)], args := [d1, d2, d3, d4] }
  | _ => none }
def joinCylindersRow : OpenClaim := { program := "ytjjjockfppomdaa", sum := "526c9ca67042c1946ba22042edfcbba7234eadfc03d0ef059e66217c3878d464", func := "mandrel/mandrellaw02.JoinCylinders", spec := "joinCylinders", unfollowed := true, recurses := true, plainKeys := false, apart := false }
def JoinCylindersSaid : Prop := joinCylindersRow.holds Try.pinned (OpenSpec.ofChange joinCylindersSpec)

/-- ITS FALSE NEIGHBOUR: 'it returns false'. Refute it at one input. -/
def joinCylindersWrong : ChangeSpec := { name := "joinCylinders", fn := fun _ => fun
  | [d1, d2, d3, d4] => { results := [.lit (.bool false)], args := [d1, d2, d3, d4] }
  | _ => none }
def JoinCylindersWrongFalsely : Prop := joinCylindersRow.holds Try.pinned (OpenSpec.ofChange joinCylindersWrong)

/-- 'mandrellaw02.JoinCounts': WHATEVER THE INPUT: true; the input reads as it did. -/
def joinCountsSpec : ChangeSpec := { name := "joinCounts", fn := fun _ => fun
  | [d1, d2, d3] => { results := [.lit (.bool true)], args := [d1, d2, d3] }
  | _ => none }
def joinCountsRow : OpenClaim := { program := "ytjjjockfppomdaa", sum := "526c9ca67042c1946ba22042edfcbba7234eadfc03d0ef059e66217c3878d464", func := "mandrel/mandrellaw02.JoinCounts", spec := "joinCounts", unfollowed := true, recurses := true, plainKeys := false, apart := false }
def JoinCountsSaid : Prop := joinCountsRow.holds Try.pinned (OpenSpec.ofChange joinCountsSpec)

/-- ITS FALSE NEIGHBOUR: 'it returns false'. Refute it at one input. -/
def joinCountsWrong : ChangeSpec := { name := "joinCounts", fn := fun _ => fun
  | [d1, d2, d3] => { results := [.lit (.bool false)], args := [d1, d2, d3] }
  | _ => none }
def JoinCountsWrongFalsely : Prop := joinCountsRow.holds Try.pinned (OpenSpec.ofChange joinCountsWrong)

/-- 'mandrellaw02.JoinShares': WHATEVER THE INPUT: true; the input reads as it did. -/
def joinSharesSpec : ChangeSpec := { name := "joinShares", fn := fun _ => fun
  | [d1, d2] => { results := [.lit (.bool true)], args := [d1, d2] }
  | _ => none }
def joinSharesRow : OpenClaim := { program := "ytjjjockfppomdaa", sum := "526c9ca67042c1946ba22042edfcbba7234eadfc03d0ef059e66217c3878d464", func := "mandrel/mandrellaw02.JoinShares", spec := "joinShares", unfollowed := true, recurses := true, plainKeys := false, apart := false }
def JoinSharesSaid : Prop := joinSharesRow.holds Try.pinned (OpenSpec.ofChange joinSharesSpec)

/-- ITS FALSE NEIGHBOUR: 'it returns false'. Refute it at one input. -/
def joinSharesWrong : ChangeSpec := { name := "joinShares", fn := fun _ => fun
  | [d1, d2] => { results := [.lit (.bool false)], args := [d1, d2] }
  | _ => none }
def JoinSharesWrongFalsely : Prop := joinSharesRow.holds Try.pinned (OpenSpec.ofChange joinSharesWrong)

/-- 'mandrellaw02.JoinListed': WHATEVER THE INPUT: true; the input reads as it did. -/
def joinListedSpec : ChangeSpec := { name := "joinListed", fn := fun _ => fun
  | [d1, d2, d3, d4] => { results := [.lit (.bool true)], args := [d1, d2, d3, d4] }
  | _ => none }
def joinListedRow : OpenClaim := { program := "ytjjjockfppomdaa", sum := "526c9ca67042c1946ba22042edfcbba7234eadfc03d0ef059e66217c3878d464", func := "mandrel/mandrellaw02.JoinListed", spec := "joinListed", unfollowed := true, recurses := true, plainKeys := false, apart := false }
def JoinListedSaid : Prop := joinListedRow.holds Try.pinned (OpenSpec.ofChange joinListedSpec)

/-- ITS FALSE NEIGHBOUR: 'it returns false'. Refute it at one input. -/
def joinListedWrong : ChangeSpec := { name := "joinListed", fn := fun _ => fun
  | [d1, d2, d3, d4] => { results := [.lit (.bool false)], args := [d1, d2, d3, d4] }
  | _ => none }
def JoinListedWrongFalsely : Prop := joinListedRow.holds Try.pinned (OpenSpec.ofChange joinListedWrong)

/-- 'mandrellaw02.JoinAlone': WHATEVER THE INPUT: true; the input reads as it did. -/
def joinAloneSpec : ChangeSpec := { name := "joinAlone", fn := fun _ => fun
  | [d1, d2, d3] => { results := [.lit (.bool true)], args := [d1, d2, d3] }
  | _ => none }
def joinAloneRow : OpenClaim := { program := "ytjjjockfppomdaa", sum := "526c9ca67042c1946ba22042edfcbba7234eadfc03d0ef059e66217c3878d464", func := "mandrel/mandrellaw02.JoinAlone", spec := "joinAlone", unfollowed := true, recurses := true, plainKeys := false, apart := false }
def JoinAloneSaid : Prop := joinAloneRow.holds Try.pinned (OpenSpec.ofChange joinAloneSpec)

/-- ITS FALSE NEIGHBOUR: 'it returns false'. Refute it at one input. -/
def joinAloneWrong : ChangeSpec := { name := "joinAlone", fn := fun _ => fun
  | [d1, d2, d3] => { results := [.lit (.bool false)], args := [d1, d2, d3] }
  | _ => none }
def JoinAloneWrongFalsely : Prop := joinAloneRow.holds Try.pinned (OpenSpec.ofChange joinAloneWrong)

/-- 'mandrellaw02.JoinShared': WHATEVER THE INPUT: true; the input reads as it did. -/
def joinSharedSpec : ChangeSpec := { name := "joinShared", fn := fun _ => fun
  | [d1, d2, d3] => { results := [.lit (.bool true)], args := [d1, d2, d3] }
  | _ => none }
def joinSharedRow : OpenClaim := { program := "ytjjjockfppomdaa", sum := "526c9ca67042c1946ba22042edfcbba7234eadfc03d0ef059e66217c3878d464", func := "mandrel/mandrellaw02.JoinShared", spec := "joinShared", unfollowed := true, recurses := true, plainKeys := false, apart := false }
def JoinSharedSaid : Prop := joinSharedRow.holds Try.pinned (OpenSpec.ofChange joinSharedSpec)

/-- ITS FALSE NEIGHBOUR: 'it returns false'. Refute it at one input. -/
def joinSharedWrong : ChangeSpec := { name := "joinShared", fn := fun _ => fun
  | [d1, d2, d3] => { results := [.lit (.bool false)], args := [d1, d2, d3] }
  | _ => none }
def JoinSharedWrongFalsely : Prop := joinSharedRow.holds Try.pinned (OpenSpec.ofChange joinSharedWrong)

/-- 'mandrellaw02.JoinWider': WHATEVER THE INPUT: true; the input reads as it did. -/
def joinWiderSpec : ChangeSpec := { name := "joinWider", fn := fun _ => fun
  | [d1, d2, d3, d4, d5, d6] => { results := [.lit (.bool true)], args := [d1, d2, d3, d4, d5, d6] }
  | _ => none }
def joinWiderRow : OpenClaim := { program := "ytjjjockfppomdaa", sum := "526c9ca67042c1946ba22042edfcbba7234eadfc03d0ef059e66217c3878d464", func := "mandrel/mandrellaw02.JoinWider", spec := "joinWider", unfollowed := true, recurses := true, plainKeys := false, apart := false }
def JoinWiderSaid : Prop := joinWiderRow.holds Try.pinned (OpenSpec.ofChange joinWiderSpec)

/-- ITS FALSE NEIGHBOUR: 'it returns false'. Refute it at one input. -/
def joinWiderWrong : ChangeSpec := { name := "joinWider", fn := fun _ => fun
  | [d1, d2, d3, d4, d5, d6] => { results := [.lit (.bool false)], args := [d1, d2, d3, d4, d5, d6] }
  | _ => none }
def JoinWiderWrongFalsely : Prop := joinWiderRow.holds Try.pinned (OpenSpec.ofChange joinWiderWrong)

/-- 'mandrellaw02.JoinReversed': WHATEVER THE INPUT: true; the input reads as it did. -/
def joinReversedSpec : ChangeSpec := { name := "joinReversed", fn := fun _ => fun
  | [d1, d2] => { results := [.lit (.bool true)], args := [d1, d2] }
  | _ => none }
def joinReversedRow : OpenClaim := { program := "ytjjjockfppomdaa", sum := "526c9ca67042c1946ba22042edfcbba7234eadfc03d0ef059e66217c3878d464", func := "mandrel/mandrellaw02.JoinReversed", spec := "joinReversed", unfollowed := true, recurses := true, plainKeys := false, apart := false }
def JoinReversedSaid : Prop := joinReversedRow.holds Try.pinned (OpenSpec.ofChange joinReversedSpec)

/-- ITS FALSE NEIGHBOUR: 'it returns false'. Refute it at one input. -/
def joinReversedWrong : ChangeSpec := { name := "joinReversed", fn := fun _ => fun
  | [d1, d2] => { results := [.lit (.bool false)], args := [d1, d2] }
  | _ => none }
def JoinReversedWrongFalsely : Prop := joinReversedRow.holds Try.pinned (OpenSpec.ofChange joinReversedWrong)

/-- 'mandrellaw02.JoinRenamed': WHATEVER THE INPUT: true; the input reads as it did. -/
def joinRenamedSpec : ChangeSpec := { name := "joinRenamed", fn := fun _ => fun
  | [d1, d2, d3, d4] => { results := [.lit (.bool true)], args := [d1, d2, d3, d4] }
  | _ => none }
def joinRenamedRow : OpenClaim := { program := "ytjjjockfppomdaa", sum := "526c9ca67042c1946ba22042edfcbba7234eadfc03d0ef059e66217c3878d464", func := "mandrel/mandrellaw02.JoinRenamed", spec := "joinRenamed", unfollowed := true, recurses := true, plainKeys := false, apart := false }
def JoinRenamedSaid : Prop := joinRenamedRow.holds Try.pinned (OpenSpec.ofChange joinRenamedSpec)

/-- ITS FALSE NEIGHBOUR: 'it returns false'. Refute it at one input. -/
def joinRenamedWrong : ChangeSpec := { name := "joinRenamed", fn := fun _ => fun
  | [d1, d2, d3, d4] => { results := [.lit (.bool false)], args := [d1, d2, d3, d4] }
  | _ => none }
def JoinRenamedWrongFalsely : Prop := joinRenamedRow.holds Try.pinned (OpenSpec.ofChange joinRenamedWrong)

/-- 'mandrellaw02.JoinKnown': WHATEVER THE INPUT: true; the input reads as it did. -/
def joinKnownSpec : ChangeSpec := { name := "joinKnown", fn := fun _ => fun
  | [] => { results := [.lit (.bool true)], args := [] }
  | _ => none }
def joinKnownRow : OpenClaim := { program := "ytjjjockfppomdaa", sum := "526c9ca67042c1946ba22042edfcbba7234eadfc03d0ef059e66217c3878d464", func := "mandrel/mandrellaw02.JoinKnown", spec := "joinKnown", unfollowed := true, recurses := true, plainKeys := false, apart := false }
def JoinKnownSaid : Prop := joinKnownRow.holds Try.pinned (OpenSpec.ofChange joinKnownSpec)

/-- ITS FALSE NEIGHBOUR: 'it returns false'. Refute it at one input. -/
def joinKnownWrong : ChangeSpec := { name := "joinKnown", fn := fun _ => fun
  | [] => { results := [.lit (.bool false)], args := [] }
  | _ => none }
def JoinKnownWrongFalsely : Prop := joinKnownRow.holds Try.pinned (OpenSpec.ofChange joinKnownWrong)

/- THE SECOND FORM. 'bulk': how many values and letters a reading holds, each counted each time it is reached (what is shared counts as often as it is met; a slice's spare places count too). A statement '..UptoSaid' is the law's where the arguments, and the package variables that the reading takes, are together of bulk at most 1048576: NARROWER than '..Said'. Prove '..Said' where nothing that the law and all that it calls make is longer than what came in: it says more and counts as full. Else prove '..UptoSaid'. A law counts once. -/
mutual
def uptoBulk {H : Type} : DataW H → Nat
  | .lit (.string bytes) => bytes.length + 1
  | .lit _ => 1
  | .nil => 1
  | .ptr d => uptoBulk d + 1
  | .slice elems spare => uptoBulkAll elems + uptoBulkAll spare + 1
  | .agg parts => uptoBulkAll parts + 1
  | .iface _ d => uptoBulk d + 1
  | .map entries => uptoBulkEntries entries + 1
  | .held _ => 1
def uptoBulkAll {H : Type} : List (DataW H) → Nat
  | [] => 0
  | d :: r => uptoBulk d + uptoBulkAll r
def uptoBulkEntries {H : Type} : List (Lit × DataW H) → Nat
  | [] => 0
  | x :: r => uptoBulkEntry x + uptoBulkEntries r
def uptoBulkEntry {H : Type} : Lit × DataW H → Nat
  | (.string bytes, d) => bytes.length + uptoBulk d + 1
  | (_, d) => uptoBulk d + 1
 end
def uptoSmall : (H : Type) → List (DataW H) → Bool := fun _ ds => decide (uptoBulkAll ds ≤ 1048576)
def OpenSpec.upto (s : _root_.Go.ChangeSpec) : _root_.Go.OpenSpec := { _root_.Go.OpenSpec.ofChange s with cond := some uptoSmall }

/-- 'mandrellaw02.JoinCylinders', WHERE WHAT IT READS IS OF BULK AT MOST 1048576: true; the input reads as it did. -/
def joinCylindersUptoRow : OpenClaim := { program := "ytjjjockfppomdaa", sum := "526c9ca67042c1946ba22042edfcbba7234eadfc03d0ef059e66217c3878d464", func := "mandrel/mandrellaw02.JoinCylinders", spec := "joinCylinders", unfollowed := true, recurses := true, plainKeys := false, apart := false, narrowed := true }
def JoinCylindersUptoSaid : Prop := joinCylindersUptoRow.holds Try.pinned (OpenSpec.upto joinCylindersSpec)

/-- 'mandrellaw02.JoinCounts', WHERE WHAT IT READS IS OF BULK AT MOST 1048576: true; the input reads as it did. -/
def joinCountsUptoRow : OpenClaim := { program := "ytjjjockfppomdaa", sum := "526c9ca67042c1946ba22042edfcbba7234eadfc03d0ef059e66217c3878d464", func := "mandrel/mandrellaw02.JoinCounts", spec := "joinCounts", unfollowed := true, recurses := true, plainKeys := false, apart := false, narrowed := true }
def JoinCountsUptoSaid : Prop := joinCountsUptoRow.holds Try.pinned (OpenSpec.upto joinCountsSpec)

/-- 'mandrellaw02.JoinShares', WHERE WHAT IT READS IS OF BULK AT MOST 1048576: true; the input reads as it did. -/
def joinSharesUptoRow : OpenClaim := { program := "ytjjjockfppomdaa", sum := "526c9ca67042c1946ba22042edfcbba7234eadfc03d0ef059e66217c3878d464", func := "mandrel/mandrellaw02.JoinShares", spec := "joinShares", unfollowed := true, recurses := true, plainKeys := false, apart := false, narrowed := true }
def JoinSharesUptoSaid : Prop := joinSharesUptoRow.holds Try.pinned (OpenSpec.upto joinSharesSpec)

/-- 'mandrellaw02.JoinListed', WHERE WHAT IT READS IS OF BULK AT MOST 1048576: true; the input reads as it did. -/
def joinListedUptoRow : OpenClaim := { program := "ytjjjockfppomdaa", sum := "526c9ca67042c1946ba22042edfcbba7234eadfc03d0ef059e66217c3878d464", func := "mandrel/mandrellaw02.JoinListed", spec := "joinListed", unfollowed := true, recurses := true, plainKeys := false, apart := false, narrowed := true }
def JoinListedUptoSaid : Prop := joinListedUptoRow.holds Try.pinned (OpenSpec.upto joinListedSpec)

/-- 'mandrellaw02.JoinAlone', WHERE WHAT IT READS IS OF BULK AT MOST 1048576: true; the input reads as it did. -/
def joinAloneUptoRow : OpenClaim := { program := "ytjjjockfppomdaa", sum := "526c9ca67042c1946ba22042edfcbba7234eadfc03d0ef059e66217c3878d464", func := "mandrel/mandrellaw02.JoinAlone", spec := "joinAlone", unfollowed := true, recurses := true, plainKeys := false, apart := false, narrowed := true }
def JoinAloneUptoSaid : Prop := joinAloneUptoRow.holds Try.pinned (OpenSpec.upto joinAloneSpec)

/-- 'mandrellaw02.JoinShared', WHERE WHAT IT READS IS OF BULK AT MOST 1048576: true; the input reads as it did. -/
def joinSharedUptoRow : OpenClaim := { program := "ytjjjockfppomdaa", sum := "526c9ca67042c1946ba22042edfcbba7234eadfc03d0ef059e66217c3878d464", func := "mandrel/mandrellaw02.JoinShared", spec := "joinShared", unfollowed := true, recurses := true, plainKeys := false, apart := false, narrowed := true }
def JoinSharedUptoSaid : Prop := joinSharedUptoRow.holds Try.pinned (OpenSpec.upto joinSharedSpec)

/-- 'mandrellaw02.JoinWider', WHERE WHAT IT READS IS OF BULK AT MOST 1048576: true; the input reads as it did. -/
def joinWiderUptoRow : OpenClaim := { program := "ytjjjockfppomdaa", sum := "526c9ca67042c1946ba22042edfcbba7234eadfc03d0ef059e66217c3878d464", func := "mandrel/mandrellaw02.JoinWider", spec := "joinWider", unfollowed := true, recurses := true, plainKeys := false, apart := false, narrowed := true }
def JoinWiderUptoSaid : Prop := joinWiderUptoRow.holds Try.pinned (OpenSpec.upto joinWiderSpec)

/-- 'mandrellaw02.JoinReversed', WHERE WHAT IT READS IS OF BULK AT MOST 1048576: true; the input reads as it did. -/
def joinReversedUptoRow : OpenClaim := { program := "ytjjjockfppomdaa", sum := "526c9ca67042c1946ba22042edfcbba7234eadfc03d0ef059e66217c3878d464", func := "mandrel/mandrellaw02.JoinReversed", spec := "joinReversed", unfollowed := true, recurses := true, plainKeys := false, apart := false, narrowed := true }
def JoinReversedUptoSaid : Prop := joinReversedUptoRow.holds Try.pinned (OpenSpec.upto joinReversedSpec)

/-- 'mandrellaw02.JoinRenamed', WHERE WHAT IT READS IS OF BULK AT MOST 1048576: true; the input reads as it did. -/
def joinRenamedUptoRow : OpenClaim := { program := "ytjjjockfppomdaa", sum := "526c9ca67042c1946ba22042edfcbba7234eadfc03d0ef059e66217c3878d464", func := "mandrel/mandrellaw02.JoinRenamed", spec := "joinRenamed", unfollowed := true, recurses := true, plainKeys := false, apart := false, narrowed := true }
def JoinRenamedUptoSaid : Prop := joinRenamedUptoRow.holds Try.pinned (OpenSpec.upto joinRenamedSpec)

/-- 'mandrellaw02.JoinKnown', WHERE WHAT IT READS IS OF BULK AT MOST 1048576: true; the input reads as it did. -/
def joinKnownUptoRow : OpenClaim := { program := "ytjjjockfppomdaa", sum := "526c9ca67042c1946ba22042edfcbba7234eadfc03d0ef059e66217c3878d464", func := "mandrel/mandrellaw02.JoinKnown", spec := "joinKnown", unfollowed := true, recurses := true, plainKeys := false, apart := false, narrowed := true }
def JoinKnownUptoSaid : Prop := joinKnownUptoRow.holds Try.pinned (OpenSpec.upto joinKnownSpec)

end Rows
end Go.Proofs.Ytjjjockfppomdaa
