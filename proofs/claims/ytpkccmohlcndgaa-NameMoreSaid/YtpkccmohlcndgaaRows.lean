/-
  No cell of these rows narrows 'for every input' (looked for: loops, veiled, ifaces, maps, wideKeys, modest, calm, conditions, laid).
  DERIVED. THE GIVEN ROWS OF THIS SEAT. 10 by the template 'for every input the law returns true; each argument reads behind the call as it read before'; 0 by the template 'total and deterministic' (their statements: YtpkccmohlcndgaaTotals.lean).
  GIVEN WITH THE SEED: the statements are not yours to turn. If you find one false, say at which input.
  Laid BY PROGRAM, IN A SANDBOX (cutbox-rows.mjs): the forced cells as the released guide's own fill.sh prints them over the translation 3d90b095e573d5bc… (all of the seat's roots in one cut). By AI agents, Wed Nov 11 2026. No macro, syntax, notation, axiom, sorry.
-/
import Derived.Test.YtpkccmohlcndgaaChecked
import GoSem.Claim
import GoSem.ClaimJoined
import GoSem.ClaimMapViews
import Derived.JoinedTies
import Derived.KernelRfl
namespace Go.Proofs.Ytpkccmohlcndgaa
/- THE CELL 'sum', in the pinned program and in every row, IS THE sha256 OF THE DUMP (.gsa) THAT YtpkccmohlcndgaaProg.lean LOADS. Nothing in Lean hashes anything: it is a label: what it is worth is what the hold of that sum in a sandbox is worth. -/
noncomputable def Try.pinned : Pinned := { name := "ytpkccmohlcndgaa", sum := "3d90b095e573d5bc4650ada980c2a8c321059a357b87deab89d8f99a148597d0", checked := Try.checked }
namespace Rows
def none {H : Type} : Left H := { results := [], args := [] }

/-- 'mandrellaw06.NameLists': WHATEVER THE INPUT: true; the input reads as it did. -/
def nameListsSpec : ChangeSpec := { name := "nameLists", fn := fun _ => fun
  | [d1, d2] => { results := [.lit (.bool true)], args := [d1, d2] }
  | _ => none }
def nameListsRow : OpenClaim := { program := "ytpkccmohlcndgaa", sum := "3d90b095e573d5bc4650ada980c2a8c321059a357b87deab89d8f99a148597d0", func := "mandrel/mandrellaw06.NameLists", spec := "nameLists", unfollowed := true, recurses := true, apart := false }
def NameListsSaid : Prop := nameListsRow.holds Try.pinned (OpenSpec.ofChange nameListsSpec)

/-- ITS FALSE NEIGHBOUR: 'it returns false'. Refute it at one input. -/
def nameListsWrong : ChangeSpec := { name := "nameLists", fn := fun _ => fun
  | [d1, d2] => { results := [.lit (.bool false)], args := [d1, d2] }
  | _ => none }
def NameListsWrongFalsely : Prop := nameListsRow.holds Try.pinned (OpenSpec.ofChange nameListsWrong)

/-- 'mandrellaw06.NameChains': WHATEVER THE INPUT: true; the input reads as it did. -/
def nameChainsSpec : ChangeSpec := { name := "nameChains", fn := fun _ => fun
  | [d1, d2, d3] => { results := [.lit (.bool true)], args := [d1, d2, d3] }
  | _ => none }
def nameChainsRow : OpenClaim := { program := "ytpkccmohlcndgaa", sum := "3d90b095e573d5bc4650ada980c2a8c321059a357b87deab89d8f99a148597d0", func := "mandrel/mandrellaw06.NameChains", spec := "nameChains", unfollowed := true, recurses := true, apart := false }
def NameChainsSaid : Prop := nameChainsRow.holds Try.pinned (OpenSpec.ofChange nameChainsSpec)

/-- ITS FALSE NEIGHBOUR: 'it returns false'. Refute it at one input. -/
def nameChainsWrong : ChangeSpec := { name := "nameChains", fn := fun _ => fun
  | [d1, d2, d3] => { results := [.lit (.bool false)], args := [d1, d2, d3] }
  | _ => none }
def NameChainsWrongFalsely : Prop := nameChainsRow.holds Try.pinned (OpenSpec.ofChange nameChainsWrong)

/-- 'mandrellaw06.NameCuts': WHATEVER THE INPUT: true; the input reads as it did. -/
def nameCutsSpec : ChangeSpec := { name := "nameCuts", fn := fun _ => fun
  | [d1, d2, d3] => { results := [.lit (.bool true)], args := [d1, d2, d3] }
  | _ => none }
def nameCutsRow : OpenClaim := { program := "ytpkccmohlcndgaa", sum := "3d90b095e573d5bc4650ada980c2a8c321059a357b87deab89d8f99a148597d0", func := "mandrel/mandrellaw06.NameCuts", spec := "nameCuts", unfollowed := true, recurses := true, apart := false }
def NameCutsSaid : Prop := nameCutsRow.holds Try.pinned (OpenSpec.ofChange nameCutsSpec)

/-- ITS FALSE NEIGHBOUR: 'it returns false'. Refute it at one input. -/
def nameCutsWrong : ChangeSpec := { name := "nameCuts", fn := fun _ => fun
  | [d1, d2, d3] => { results := [.lit (.bool false)], args := [d1, d2, d3] }
  | _ => none }
def NameCutsWrongFalsely : Prop := nameCutsRow.holds Try.pinned (OpenSpec.ofChange nameCutsWrong)

/-- 'mandrellaw06.NameSides': WHATEVER THE INPUT: true; the input reads as it did. -/
def nameSidesSpec : ChangeSpec := { name := "nameSides", fn := fun _ => fun
  | [d] => { results := [.lit (.bool true)], args := [d] }
  | _ => none }
def nameSidesRow : OpenClaim := { program := "ytpkccmohlcndgaa", sum := "3d90b095e573d5bc4650ada980c2a8c321059a357b87deab89d8f99a148597d0", func := "mandrel/mandrellaw06.NameSides", spec := "nameSides", unfollowed := true, recurses := true, apart := false }
def NameSidesSaid : Prop := nameSidesRow.holds Try.pinned (OpenSpec.ofChange nameSidesSpec)

/-- ITS FALSE NEIGHBOUR: 'it returns false'. Refute it at one input. -/
def nameSidesWrong : ChangeSpec := { name := "nameSides", fn := fun _ => fun
  | [d] => { results := [.lit (.bool false)], args := [d] }
  | _ => none }
def NameSidesWrongFalsely : Prop := nameSidesRow.holds Try.pinned (OpenSpec.ofChange nameSidesWrong)

/-- 'mandrellaw06.NameProved': WHATEVER THE INPUT: true; the input reads as it did. -/
def nameProvedSpec : ChangeSpec := { name := "nameProved", fn := fun _ => fun
  | [d1, d2, d3] => { results := [.lit (.bool true)], args := [d1, d2, d3] }
  | _ => none }
def nameProvedRow : OpenClaim := { program := "ytpkccmohlcndgaa", sum := "3d90b095e573d5bc4650ada980c2a8c321059a357b87deab89d8f99a148597d0", func := "mandrel/mandrellaw06.NameProved", spec := "nameProved", unfollowed := true, recurses := true, apart := false }
def NameProvedSaid : Prop := nameProvedRow.holds Try.pinned (OpenSpec.ofChange nameProvedSpec)

/-- ITS FALSE NEIGHBOUR: 'it returns false'. Refute it at one input. -/
def nameProvedWrong : ChangeSpec := { name := "nameProved", fn := fun _ => fun
  | [d1, d2, d3] => { results := [.lit (.bool false)], args := [d1, d2, d3] }
  | _ => none }
def NameProvedWrongFalsely : Prop := nameProvedRow.holds Try.pinned (OpenSpec.ofChange nameProvedWrong)

/-- 'mandrellaw06.NameParted': WHATEVER THE INPUT: true; the input reads as it did. -/
def namePartedSpec : ChangeSpec := { name := "nameParted", fn := fun _ => fun
  | [d1, d2, d3] => { results := [.lit (.bool true)], args := [d1, d2, d3] }
  | _ => none }
def namePartedRow : OpenClaim := { program := "ytpkccmohlcndgaa", sum := "3d90b095e573d5bc4650ada980c2a8c321059a357b87deab89d8f99a148597d0", func := "mandrel/mandrellaw06.NameParted", spec := "nameParted", unfollowed := true, recurses := true, apart := false }
def NamePartedSaid : Prop := namePartedRow.holds Try.pinned (OpenSpec.ofChange namePartedSpec)

/-- ITS FALSE NEIGHBOUR: 'it returns false'. Refute it at one input. -/
def namePartedWrong : ChangeSpec := { name := "nameParted", fn := fun _ => fun
  | [d1, d2, d3] => { results := [.lit (.bool false)], args := [d1, d2, d3] }
  | _ => none }
def NamePartedWrongFalsely : Prop := namePartedRow.holds Try.pinned (OpenSpec.ofChange namePartedWrong)

/-- 'mandrellaw06.NameMet': WHATEVER THE INPUT: true; the input reads as it did. -/
def nameMetSpec : ChangeSpec := { name := "nameMet", fn := fun _ => fun
  | [d1, d2] => { results := [.lit (.bool true)], args := [d1, d2] }
  | _ => none }
def nameMetRow : OpenClaim := { program := "ytpkccmohlcndgaa", sum := "3d90b095e573d5bc4650ada980c2a8c321059a357b87deab89d8f99a148597d0", func := "mandrel/mandrellaw06.NameMet", spec := "nameMet", unfollowed := true, recurses := true, apart := false }
def NameMetSaid : Prop := nameMetRow.holds Try.pinned (OpenSpec.ofChange nameMetSpec)

/-- ITS FALSE NEIGHBOUR: 'it returns false'. Refute it at one input. -/
def nameMetWrong : ChangeSpec := { name := "nameMet", fn := fun _ => fun
  | [d1, d2] => { results := [.lit (.bool false)], args := [d1, d2] }
  | _ => none }
def NameMetWrongFalsely : Prop := nameMetRow.holds Try.pinned (OpenSpec.ofChange nameMetWrong)

/-- 'mandrellaw06.NameTurned': WHATEVER THE INPUT: true; the input reads as it did. -/
def nameTurnedSpec : ChangeSpec := { name := "nameTurned", fn := fun _ => fun
  | [d] => { results := [.lit (.bool true)], args := [d] }
  | _ => none }
def nameTurnedRow : OpenClaim := { program := "ytpkccmohlcndgaa", sum := "3d90b095e573d5bc4650ada980c2a8c321059a357b87deab89d8f99a148597d0", func := "mandrel/mandrellaw06.NameTurned", spec := "nameTurned", unfollowed := true, recurses := true, apart := false }
def NameTurnedSaid : Prop := nameTurnedRow.holds Try.pinned (OpenSpec.ofChange nameTurnedSpec)

/-- ITS FALSE NEIGHBOUR: 'it returns false'. Refute it at one input. -/
def nameTurnedWrong : ChangeSpec := { name := "nameTurned", fn := fun _ => fun
  | [d] => { results := [.lit (.bool false)], args := [d] }
  | _ => none }
def NameTurnedWrongFalsely : Prop := nameTurnedRow.holds Try.pinned (OpenSpec.ofChange nameTurnedWrong)

/-- 'mandrellaw06.NameMore': WHATEVER THE INPUT: true; the input reads as it did. -/
def nameMoreSpec : ChangeSpec := { name := "nameMore", fn := fun _ => fun
  | [d1, d2, d3, d4, d5] => { results := [.lit (.bool true)], args := [d1, d2, d3, d4, d5] }
  | _ => none }
def nameMoreRow : OpenClaim := { program := "ytpkccmohlcndgaa", sum := "3d90b095e573d5bc4650ada980c2a8c321059a357b87deab89d8f99a148597d0", func := "mandrel/mandrellaw06.NameMore", spec := "nameMore", unfollowed := true, recurses := true, apart := false }
def NameMoreSaid : Prop := nameMoreRow.holds Try.pinned (OpenSpec.ofChange nameMoreSpec)

/-- ITS FALSE NEIGHBOUR: 'it returns false'. Refute it at one input. -/
def nameMoreWrong : ChangeSpec := { name := "nameMore", fn := fun _ => fun
  | [d1, d2, d3, d4, d5] => { results := [.lit (.bool false)], args := [d1, d2, d3, d4, d5] }
  | _ => none }
def NameMoreWrongFalsely : Prop := nameMoreRow.holds Try.pinned (OpenSpec.ofChange nameMoreWrong)

/-- 'mandrellaw06.NameKnown': WHATEVER THE INPUT: true; the input reads as it did. -/
def nameKnownSpec : ChangeSpec := { name := "nameKnown", fn := fun _ => fun
  | [] => { results := [.lit (.bool true)], args := [] }
  | _ => none }
def nameKnownRow : OpenClaim := { program := "ytpkccmohlcndgaa", sum := "3d90b095e573d5bc4650ada980c2a8c321059a357b87deab89d8f99a148597d0", func := "mandrel/mandrellaw06.NameKnown", spec := "nameKnown", unfollowed := true, recurses := true, apart := false }
def NameKnownSaid : Prop := nameKnownRow.holds Try.pinned (OpenSpec.ofChange nameKnownSpec)

/-- ITS FALSE NEIGHBOUR: 'it returns false'. Refute it at one input. -/
def nameKnownWrong : ChangeSpec := { name := "nameKnown", fn := fun _ => fun
  | [] => { results := [.lit (.bool false)], args := [] }
  | _ => none }
def NameKnownWrongFalsely : Prop := nameKnownRow.holds Try.pinned (OpenSpec.ofChange nameKnownWrong)

/- THE SECOND FORM. 'bulk': how many values and letters a reading holds, each counted each time it is reached (what is shared counts as often as it is met; a slice's spare places count too). A statement '..UptoSaid' is the law's where the arguments, and the package variables that the reading takes, are together of bulk at most 1048576: NARROWER than '..Said'. Prove '..Said' where nothing that the law and all that it calls make is longer than what came in: it says more and counts as full. Else prove '..UptoSaid'. A law counts once. -/
mutual
def uptoBulk {H : Type} : DataW H → Nat
  | .lit (.string bytes) => bytes.length + 1
  | .lit _ => 1
  | .nil => 1
  | .ptr d => uptoBulk d + 1
  | .slice elems spare => uptoBulkAll elems + uptoBulkAll spare + 1
  | .agg parts => uptoBulkAll parts + 1
  | .iface _ d => uptoBulk d + 1
  | .map entries => uptoBulkEntries entries + 1
  | .held _ => 1
def uptoBulkAll {H : Type} : List (DataW H) → Nat
  | [] => 0
  | d :: r => uptoBulk d + uptoBulkAll r
def uptoBulkEntries {H : Type} : List (Lit × DataW H) → Nat
  | [] => 0
  | x :: r => uptoBulkEntry x + uptoBulkEntries r
def uptoBulkEntry {H : Type} : Lit × DataW H → Nat
  | (.string bytes, d) => bytes.length + uptoBulk d + 1
  | (_, d) => uptoBulk d + 1
 end
def uptoSmall : (H : Type) → List (DataW H) → Bool := fun _ ds => decide (uptoBulkAll ds ≤ 1048576)
def OpenSpec.upto (s : _root_.Go.ChangeSpec) : _root_.Go.OpenSpec := { _root_.Go.OpenSpec.ofChange s with cond := some uptoSmall }

/-- 'mandrellaw06.NameLists', WHERE WHAT IT READS IS OF BULK AT MOST 1048576: true; the input reads as it did. -/
def nameListsUptoRow : OpenClaim := { program := "ytpkccmohlcndgaa", sum := "3d90b095e573d5bc4650ada980c2a8c321059a357b87deab89d8f99a148597d0", func := "mandrel/mandrellaw06.NameLists", spec := "nameLists", unfollowed := true, recurses := true, apart := false, narrowed := true }
def NameListsUptoSaid : Prop := nameListsUptoRow.holds Try.pinned (OpenSpec.upto nameListsSpec)

/-- 'mandrellaw06.NameChains', WHERE WHAT IT READS IS OF BULK AT MOST 1048576: true; the input reads as it did. -/
def nameChainsUptoRow : OpenClaim := { program := "ytpkccmohlcndgaa", sum := "3d90b095e573d5bc4650ada980c2a8c321059a357b87deab89d8f99a148597d0", func := "mandrel/mandrellaw06.NameChains", spec := "nameChains", unfollowed := true, recurses := true, apart := false, narrowed := true }
def NameChainsUptoSaid : Prop := nameChainsUptoRow.holds Try.pinned (OpenSpec.upto nameChainsSpec)

/-- 'mandrellaw06.NameCuts', WHERE WHAT IT READS IS OF BULK AT MOST 1048576: true; the input reads as it did. -/
def nameCutsUptoRow : OpenClaim := { program := "ytpkccmohlcndgaa", sum := "3d90b095e573d5bc4650ada980c2a8c321059a357b87deab89d8f99a148597d0", func := "mandrel/mandrellaw06.NameCuts", spec := "nameCuts", unfollowed := true, recurses := true, apart := false, narrowed := true }
def NameCutsUptoSaid : Prop := nameCutsUptoRow.holds Try.pinned (OpenSpec.upto nameCutsSpec)

/-- 'mandrellaw06.NameSides', WHERE WHAT IT READS IS OF BULK AT MOST 1048576: true; the input reads as it did. -/
def nameSidesUptoRow : OpenClaim := { program := "ytpkccmohlcndgaa", sum := "3d90b095e573d5bc4650ada980c2a8c321059a357b87deab89d8f99a148597d0", func := "mandrel/mandrellaw06.NameSides", spec := "nameSides", unfollowed := true, recurses := true, apart := false, narrowed := true }
def NameSidesUptoSaid : Prop := nameSidesUptoRow.holds Try.pinned (OpenSpec.upto nameSidesSpec)

/-- 'mandrellaw06.NameProved', WHERE WHAT IT READS IS OF BULK AT MOST 1048576: true; the input reads as it did. -/
def nameProvedUptoRow : OpenClaim := { program := "ytpkccmohlcndgaa", sum := "3d90b095e573d5bc4650ada980c2a8c321059a357b87deab89d8f99a148597d0", func := "mandrel/mandrellaw06.NameProved", spec := "nameProved", unfollowed := true, recurses := true, apart := false, narrowed := true }
def NameProvedUptoSaid : Prop := nameProvedUptoRow.holds Try.pinned (OpenSpec.upto nameProvedSpec)

/-- 'mandrellaw06.NameParted', WHERE WHAT IT READS IS OF BULK AT MOST 1048576: true; the input reads as it did. -/
def namePartedUptoRow : OpenClaim := { program := "ytpkccmohlcndgaa", sum := "3d90b095e573d5bc4650ada980c2a8c321059a357b87deab89d8f99a148597d0", func := "mandrel/mandrellaw06.NameParted", spec := "nameParted", unfollowed := true, recurses := true, apart := false, narrowed := true }
def NamePartedUptoSaid : Prop := namePartedUptoRow.holds Try.pinned (OpenSpec.upto namePartedSpec)

/-- 'mandrellaw06.NameMet', WHERE WHAT IT READS IS OF BULK AT MOST 1048576: true; the input reads as it did. -/
def nameMetUptoRow : OpenClaim := { program := "ytpkccmohlcndgaa", sum := "3d90b095e573d5bc4650ada980c2a8c321059a357b87deab89d8f99a148597d0", func := "mandrel/mandrellaw06.NameMet", spec := "nameMet", unfollowed := true, recurses := true, apart := false, narrowed := true }
def NameMetUptoSaid : Prop := nameMetUptoRow.holds Try.pinned (OpenSpec.upto nameMetSpec)

/-- 'mandrellaw06.NameTurned', WHERE WHAT IT READS IS OF BULK AT MOST 1048576: true; the input reads as it did. -/
def nameTurnedUptoRow : OpenClaim := { program := "ytpkccmohlcndgaa", sum := "3d90b095e573d5bc4650ada980c2a8c321059a357b87deab89d8f99a148597d0", func := "mandrel/mandrellaw06.NameTurned", spec := "nameTurned", unfollowed := true, recurses := true, apart := false, narrowed := true }
def NameTurnedUptoSaid : Prop := nameTurnedUptoRow.holds Try.pinned (OpenSpec.upto nameTurnedSpec)

/-- 'mandrellaw06.NameMore', WHERE WHAT IT READS IS OF BULK AT MOST 1048576: true; the input reads as it did. -/
def nameMoreUptoRow : OpenClaim := { program := "ytpkccmohlcndgaa", sum := "3d90b095e573d5bc4650ada980c2a8c321059a357b87deab89d8f99a148597d0", func := "mandrel/mandrellaw06.NameMore", spec := "nameMore", unfollowed := true, recurses := true, apart := false, narrowed := true }
def NameMoreUptoSaid : Prop := nameMoreUptoRow.holds Try.pinned (OpenSpec.upto nameMoreSpec)

/-- 'mandrellaw06.NameKnown', WHERE WHAT IT READS IS OF BULK AT MOST 1048576: true; the input reads as it did. -/
def nameKnownUptoRow : OpenClaim := { program := "ytpkccmohlcndgaa", sum := "3d90b095e573d5bc4650ada980c2a8c321059a357b87deab89d8f99a148597d0", func := "mandrel/mandrellaw06.NameKnown", spec := "nameKnown", unfollowed := true, recurses := true, apart := false, narrowed := true }
def NameKnownUptoSaid : Prop := nameKnownUptoRow.holds Try.pinned (OpenSpec.upto nameKnownSpec)

end Rows
end Go.Proofs.Ytpkccmohlcndgaa
