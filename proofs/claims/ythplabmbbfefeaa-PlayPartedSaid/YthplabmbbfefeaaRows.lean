/-
  No cell of these rows narrows 'for every input' (looked for: loops, veiled, ifaces, maps, wideKeys, modest, calm, conditions, laid).
  DERIVED. THE GIVEN ROWS OF THIS SEAT. 11 by the template 'for every input the law returns true; each argument reads behind the call as it read before'; 0 by the template 'total and deterministic' (their statements: YthplabmbbfefeaaTotals.lean).
  GIVEN WITH THE SEED: the statements are not yours to turn. If you find one false, say at which input.
  Laid BY PROGRAM, IN A SANDBOX (cutbox-rows.mjs): the forced cells as the released guide's own fill.sh prints them over the translation 7acbe231aedabef0… (all of the seat's roots in one cut). By AI agents, Wed Nov 11 2026. No macro, syntax, notation, axiom, sorry.
-/
import Derived.Test.YthplabmbbfefeaaChecked
import GoSem.Claim
import GoSem.ClaimJoined
import GoSem.ClaimMapViews
import Derived.JoinedTies
import Derived.KernelRfl
namespace Go.Proofs.Ythplabmbbfefeaa
/- THE CELL 'sum', in the pinned program and in every row, IS THE sha256 OF THE DUMP (.gsa) THAT YthplabmbbfefeaaProg.lean LOADS. Nothing in Lean hashes anything: it is a label: what it is worth is what the hold of that sum in a sandbox is worth. -/
noncomputable def Try.pinned : Pinned := { name := "ythplabmbbfefeaa", sum := "7acbe231aedabef0baa01fd97e0741e006502e18a0e83b0d80523a9987d87b08", checked := Try.checked }
namespace Rows
def none {H : Type} : Left H := { results := [], args := [] }

/-- 'mandrellaw07.PlayPlans': WHATEVER THE INPUT: true; the input reads as it did. -/
def playPlansSpec : ChangeSpec := { name := "playPlans", fn := fun _ => fun
  | [d1, d2] => { results := [.lit (.bool true)], args := [d1, d2] }
  | _ => none }
def playPlansRow : OpenClaim := { program := "ythplabmbbfefeaa", sum := "7acbe231aedabef0baa01fd97e0741e006502e18a0e83b0d80523a9987d87b08", func := "mandrel/mandrellaw07.PlayPlans", spec := "playPlans", unfollowed := true, recurses := true, plainKeys := false, apart := false }
def PlayPlansSaid : Prop := playPlansRow.holds Try.pinned (OpenSpec.ofChange playPlansSpec)

/-- ITS FALSE NEIGHBOUR: 'it returns false'. Refute it at one input. -/
def playPlansWrong : ChangeSpec := { name := "playPlans", fn := fun _ => fun
  | [d1, d2] => { results := [.lit (.bool false)], args := [d1, d2] }
  | _ => none }
def PlayPlansWrongFalsely : Prop := playPlansRow.holds Try.pinned (OpenSpec.ofChange playPlansWrong)

/-- 'mandrellaw07.PlayBests': WHATEVER THE INPUT: true; the input reads as it did. -/
def playBestsSpec : ChangeSpec := { name := "playBests", fn := fun _ => fun
  | [d1, d2] => { results := [.lit (.bool true)], args := [d1, d2] }
  | _ => none }
def playBestsRow : OpenClaim := { program := "ythplabmbbfefeaa", sum := "7acbe231aedabef0baa01fd97e0741e006502e18a0e83b0d80523a9987d87b08", func := "mandrel/mandrellaw07.PlayBests", spec := "playBests", unfollowed := true, recurses := true, plainKeys := false, apart := false }
def PlayBestsSaid : Prop := playBestsRow.holds Try.pinned (OpenSpec.ofChange playBestsSpec)

/-- ITS FALSE NEIGHBOUR: 'it returns false'. Refute it at one input. -/
def playBestsWrong : ChangeSpec := { name := "playBests", fn := fun _ => fun
  | [d1, d2] => { results := [.lit (.bool false)], args := [d1, d2] }
  | _ => none }
def PlayBestsWrongFalsely : Prop := playBestsRow.holds Try.pinned (OpenSpec.ofChange playBestsWrong)

/-- 'mandrellaw07.PlayKinds': WHATEVER THE INPUT: true; the input reads as it did. -/
def playKindsSpec : ChangeSpec := { name := "playKinds", fn := fun _ => fun
  | [d] => { results := [.lit (.bool true)], args := [d] }
  | _ => none }
def playKindsRow : OpenClaim := { program := "ythplabmbbfefeaa", sum := "7acbe231aedabef0baa01fd97e0741e006502e18a0e83b0d80523a9987d87b08", func := "mandrel/mandrellaw07.PlayKinds", spec := "playKinds", unfollowed := true, recurses := true, plainKeys := false, apart := false }
def PlayKindsSaid : Prop := playKindsRow.holds Try.pinned (OpenSpec.ofChange playKindsSpec)

/-- ITS FALSE NEIGHBOUR: 'it returns false'. Refute it at one input. -/
def playKindsWrong : ChangeSpec := { name := "playKinds", fn := fun _ => fun
  | [d] => { results := [.lit (.bool false)], args := [d] }
  | _ => none }
def PlayKindsWrongFalsely : Prop := playKindsRow.holds Try.pinned (OpenSpec.ofChange playKindsWrong)

/-- 'mandrellaw07.PlayMore': WHATEVER THE INPUT: true; the input reads as it did. -/
def playMoreSpec : ChangeSpec := { name := "playMore", fn := fun _ => fun
  | [d1, d2, d3, d4] => { results := [.lit (.bool true)], args := [d1, d2, d3, d4] }
  | _ => none }
def playMoreRow : OpenClaim := { program := "ythplabmbbfefeaa", sum := "7acbe231aedabef0baa01fd97e0741e006502e18a0e83b0d80523a9987d87b08", func := "mandrel/mandrellaw07.PlayMore", spec := "playMore", unfollowed := true, recurses := true, plainKeys := false, apart := false }
def PlayMoreSaid : Prop := playMoreRow.holds Try.pinned (OpenSpec.ofChange playMoreSpec)

/-- ITS FALSE NEIGHBOUR: 'it returns false'. Refute it at one input. -/
def playMoreWrong : ChangeSpec := { name := "playMore", fn := fun _ => fun
  | [d1, d2, d3, d4] => { results := [.lit (.bool false)], args := [d1, d2, d3, d4] }
  | _ => none }
def PlayMoreWrongFalsely : Prop := playMoreRow.holds Try.pinned (OpenSpec.ofChange playMoreWrong)

/-- 'mandrellaw07.PlayTurned': WHATEVER THE INPUT: true; the input reads as it did. -/
def playTurnedSpec : ChangeSpec := { name := "playTurned", fn := fun _ => fun
  | [d1, d2] => { results := [.lit (.bool true)], args := [d1, d2] }
  | _ => none }
def playTurnedRow : OpenClaim := { program := "ythplabmbbfefeaa", sum := "7acbe231aedabef0baa01fd97e0741e006502e18a0e83b0d80523a9987d87b08", func := "mandrel/mandrellaw07.PlayTurned", spec := "playTurned", unfollowed := true, recurses := true, plainKeys := false, apart := false }
def PlayTurnedSaid : Prop := playTurnedRow.holds Try.pinned (OpenSpec.ofChange playTurnedSpec)

/-- ITS FALSE NEIGHBOUR: 'it returns false'. Refute it at one input. -/
def playTurnedWrong : ChangeSpec := { name := "playTurned", fn := fun _ => fun
  | [d1, d2] => { results := [.lit (.bool false)], args := [d1, d2] }
  | _ => none }
def PlayTurnedWrongFalsely : Prop := playTurnedRow.holds Try.pinned (OpenSpec.ofChange playTurnedWrong)

/-- 'mandrellaw07.PlayParted': WHATEVER THE INPUT: true; the input reads as it did. -/
def playPartedSpec : ChangeSpec := { name := "playParted", fn := fun _ => fun
  | [d1, d2] => { results := [.lit (.bool true)], args := [d1, d2] }
  | _ => none }
def playPartedRow : OpenClaim := { program := "ythplabmbbfefeaa", sum := "7acbe231aedabef0baa01fd97e0741e006502e18a0e83b0d80523a9987d87b08", func := "mandrel/mandrellaw07.PlayParted", spec := "playParted", unfollowed := true, recurses := true, plainKeys := false, apart := false }
def PlayPartedSaid : Prop := playPartedRow.holds Try.pinned (OpenSpec.ofChange playPartedSpec)

/-- ITS FALSE NEIGHBOUR: 'it returns false'. Refute it at one input. -/
def playPartedWrong : ChangeSpec := { name := "playParted", fn := fun _ => fun
  | [d1, d2] => { results := [.lit (.bool false)], args := [d1, d2] }
  | _ => none }
def PlayPartedWrongFalsely : Prop := playPartedRow.holds Try.pinned (OpenSpec.ofChange playPartedWrong)

/-- 'mandrellaw07.PlayCertain': WHATEVER THE INPUT: true; the input reads as it did. -/
def playCertainSpec : ChangeSpec := { name := "playCertain", fn := fun _ => fun
  | [d1, d2, d3] => { results := [.lit (.bool true)], args := [d1, d2, d3] }
  | _ => none }
def playCertainRow : OpenClaim := { program := "ythplabmbbfefeaa", sum := "7acbe231aedabef0baa01fd97e0741e006502e18a0e83b0d80523a9987d87b08", func := "mandrel/mandrellaw07.PlayCertain", spec := "playCertain", unfollowed := true, recurses := true, plainKeys := false, apart := false }
def PlayCertainSaid : Prop := playCertainRow.holds Try.pinned (OpenSpec.ofChange playCertainSpec)

/-- ITS FALSE NEIGHBOUR: 'it returns false'. Refute it at one input. -/
def playCertainWrong : ChangeSpec := { name := "playCertain", fn := fun _ => fun
  | [d1, d2, d3] => { results := [.lit (.bool false)], args := [d1, d2, d3] }
  | _ => none }
def PlayCertainWrongFalsely : Prop := playCertainRow.holds Try.pinned (OpenSpec.ofChange playCertainWrong)

/-- 'mandrellaw07.PlayFewest': WHATEVER THE INPUT: true; the input reads as it did. -/
def playFewestSpec : ChangeSpec := { name := "playFewest", fn := fun _ => fun
  | [d1, d2] => { results := [.lit (.bool true)], args := [d1, d2] }
  | _ => none }
def playFewestRow : OpenClaim := { program := "ythplabmbbfefeaa", sum := "7acbe231aedabef0baa01fd97e0741e006502e18a0e83b0d80523a9987d87b08", func := "mandrel/mandrellaw07.PlayFewest", spec := "playFewest", unfollowed := true, recurses := true, plainKeys := false, apart := false }
def PlayFewestSaid : Prop := playFewestRow.holds Try.pinned (OpenSpec.ofChange playFewestSpec)

/-- ITS FALSE NEIGHBOUR: 'it returns false'. Refute it at one input. -/
def playFewestWrong : ChangeSpec := { name := "playFewest", fn := fun _ => fun
  | [d1, d2] => { results := [.lit (.bool false)], args := [d1, d2] }
  | _ => none }
def PlayFewestWrongFalsely : Prop := playFewestRow.holds Try.pinned (OpenSpec.ofChange playFewestWrong)

/-- 'mandrellaw07.PlayKnown': WHATEVER THE INPUT: true; the input reads as it did. -/
def playKnownSpec : ChangeSpec := { name := "playKnown", fn := fun _ => fun
  | [] => { results := [.lit (.bool true)], args := [] }
  | _ => none }
def playKnownRow : OpenClaim := { program := "ythplabmbbfefeaa", sum := "7acbe231aedabef0baa01fd97e0741e006502e18a0e83b0d80523a9987d87b08", func := "mandrel/mandrellaw07.PlayKnown", spec := "playKnown", unfollowed := true, recurses := true, plainKeys := false, apart := false }
def PlayKnownSaid : Prop := playKnownRow.holds Try.pinned (OpenSpec.ofChange playKnownSpec)

/-- ITS FALSE NEIGHBOUR: 'it returns false'. Refute it at one input. -/
def playKnownWrong : ChangeSpec := { name := "playKnown", fn := fun _ => fun
  | [] => { results := [.lit (.bool false)], args := [] }
  | _ => none }
def PlayKnownWrongFalsely : Prop := playKnownRow.holds Try.pinned (OpenSpec.ofChange playKnownWrong)

/-- 'mandrellaw07.PlayLabels': WHATEVER THE INPUT: true; the input reads as it did. -/
def playLabelsSpec : ChangeSpec := { name := "playLabels", fn := fun _ => fun
  | [d1, d2] => { results := [.lit (.bool true)], args := [d1, d2] }
  | _ => none }
def playLabelsRow : OpenClaim := { program := "ythplabmbbfefeaa", sum := "7acbe231aedabef0baa01fd97e0741e006502e18a0e83b0d80523a9987d87b08", func := "mandrel/mandrellaw07.PlayLabels", spec := "playLabels", unfollowed := true, recurses := true, plainKeys := false, apart := false }
def PlayLabelsSaid : Prop := playLabelsRow.holds Try.pinned (OpenSpec.ofChange playLabelsSpec)

/-- ITS FALSE NEIGHBOUR: 'it returns false'. Refute it at one input. -/
def playLabelsWrong : ChangeSpec := { name := "playLabels", fn := fun _ => fun
  | [d1, d2] => { results := [.lit (.bool false)], args := [d1, d2] }
  | _ => none }
def PlayLabelsWrongFalsely : Prop := playLabelsRow.holds Try.pinned (OpenSpec.ofChange playLabelsWrong)

/-- 'mandrellaw07.PlayProved': WHATEVER THE INPUT: true; the input reads as it did. -/
def playProvedSpec : ChangeSpec := { name := "playProved", fn := fun _ => fun
  | [d1, d2, d3, d4] => { results := [.lit (.bool true)], args := [d1, d2, d3, d4] }
  | _ => none }
def playProvedRow : OpenClaim := { program := "ythplabmbbfefeaa", sum := "7acbe231aedabef0baa01fd97e0741e006502e18a0e83b0d80523a9987d87b08", func := "mandrel/mandrellaw07.PlayProved", spec := "playProved", unfollowed := true, recurses := true, plainKeys := false, apart := false }
def PlayProvedSaid : Prop := playProvedRow.holds Try.pinned (OpenSpec.ofChange playProvedSpec)

/-- ITS FALSE NEIGHBOUR: 'it returns false'. Refute it at one input. -/
def playProvedWrong : ChangeSpec := { name := "playProved", fn := fun _ => fun
  | [d1, d2, d3, d4] => { results := [.lit (.bool false)], args := [d1, d2, d3, d4] }
  | _ => none }
def PlayProvedWrongFalsely : Prop := playProvedRow.holds Try.pinned (OpenSpec.ofChange playProvedWrong)

/- THE SECOND FORM. 'bulk': how many values and letters a reading holds, each counted each time it is reached (what is shared counts as often as it is met; a slice's spare places count too). A statement '..UptoSaid' is the law's where the arguments, and the package variables that the reading takes, are together of bulk at most 1048576: NARROWER than '..Said'. Prove '..Said' where nothing that the law and all that it calls make is longer than what came in: it says more and counts as full. Else prove '..UptoSaid'. A law counts once. -/
mutual
def uptoBulk {H : Type} : DataW H → Nat
  | .lit (.string bytes) => bytes.length + 1
  | .lit _ => 1
  | .nil => 1
  | .ptr d => uptoBulk d + 1
  | .slice elems spare => uptoBulkAll elems + uptoBulkAll spare + 1
  | .agg parts => uptoBulkAll parts + 1
  | .iface _ d => uptoBulk d + 1
  | .map entries => uptoBulkEntries entries + 1
  | .held _ => 1
def uptoBulkAll {H : Type} : List (DataW H) → Nat
  | [] => 0
  | d :: r => uptoBulk d + uptoBulkAll r
def uptoBulkEntries {H : Type} : List (Lit × DataW H) → Nat
  | [] => 0
  | x :: r => uptoBulkEntry x + uptoBulkEntries r
def uptoBulkEntry {H : Type} : Lit × DataW H → Nat
  | (.string bytes, d) => bytes.length + uptoBulk d + 1
  | (_, d) => uptoBulk d + 1
 end
def uptoSmall : (H : Type) → List (DataW H) → Bool := fun _ ds => decide (uptoBulkAll ds ≤ 1048576)
def OpenSpec.upto (s : _root_.Go.ChangeSpec) : _root_.Go.OpenSpec := { _root_.Go.OpenSpec.ofChange s with cond := some uptoSmall }

/-- 'mandrellaw07.PlayPlans', WHERE WHAT IT READS IS OF BULK AT MOST 1048576: true; the input reads as it did. -/
def playPlansUptoRow : OpenClaim := { program := "ythplabmbbfefeaa", sum := "7acbe231aedabef0baa01fd97e0741e006502e18a0e83b0d80523a9987d87b08", func := "mandrel/mandrellaw07.PlayPlans", spec := "playPlans", unfollowed := true, recurses := true, plainKeys := false, apart := false, narrowed := true }
def PlayPlansUptoSaid : Prop := playPlansUptoRow.holds Try.pinned (OpenSpec.upto playPlansSpec)

/-- 'mandrellaw07.PlayBests', WHERE WHAT IT READS IS OF BULK AT MOST 1048576: true; the input reads as it did. -/
def playBestsUptoRow : OpenClaim := { program := "ythplabmbbfefeaa", sum := "7acbe231aedabef0baa01fd97e0741e006502e18a0e83b0d80523a9987d87b08", func := "mandrel/mandrellaw07.PlayBests", spec := "playBests", unfollowed := true, recurses := true, plainKeys := false, apart := false, narrowed := true }
def PlayBestsUptoSaid : Prop := playBestsUptoRow.holds Try.pinned (OpenSpec.upto playBestsSpec)

/-- 'mandrellaw07.PlayKinds', WHERE WHAT IT READS IS OF BULK AT MOST 1048576: true; the input reads as it did. -/
def playKindsUptoRow : OpenClaim := { program := "ythplabmbbfefeaa", sum := "7acbe231aedabef0baa01fd97e0741e006502e18a0e83b0d80523a9987d87b08", func := "mandrel/mandrellaw07.PlayKinds", spec := "playKinds", unfollowed := true, recurses := true, plainKeys := false, apart := false, narrowed := true }
def PlayKindsUptoSaid : Prop := playKindsUptoRow.holds Try.pinned (OpenSpec.upto playKindsSpec)

/-- 'mandrellaw07.PlayMore', WHERE WHAT IT READS IS OF BULK AT MOST 1048576: true; the input reads as it did. -/
def playMoreUptoRow : OpenClaim := { program := "ythplabmbbfefeaa", sum := "7acbe231aedabef0baa01fd97e0741e006502e18a0e83b0d80523a9987d87b08", func := "mandrel/mandrellaw07.PlayMore", spec := "playMore", unfollowed := true, recurses := true, plainKeys := false, apart := false, narrowed := true }
def PlayMoreUptoSaid : Prop := playMoreUptoRow.holds Try.pinned (OpenSpec.upto playMoreSpec)

/-- 'mandrellaw07.PlayTurned', WHERE WHAT IT READS IS OF BULK AT MOST 1048576: true; the input reads as it did. -/
def playTurnedUptoRow : OpenClaim := { program := "ythplabmbbfefeaa", sum := "7acbe231aedabef0baa01fd97e0741e006502e18a0e83b0d80523a9987d87b08", func := "mandrel/mandrellaw07.PlayTurned", spec := "playTurned", unfollowed := true, recurses := true, plainKeys := false, apart := false, narrowed := true }
def PlayTurnedUptoSaid : Prop := playTurnedUptoRow.holds Try.pinned (OpenSpec.upto playTurnedSpec)

/-- 'mandrellaw07.PlayParted', WHERE WHAT IT READS IS OF BULK AT MOST 1048576: true; the input reads as it did. -/
def playPartedUptoRow : OpenClaim := { program := "ythplabmbbfefeaa", sum := "7acbe231aedabef0baa01fd97e0741e006502e18a0e83b0d80523a9987d87b08", func := "mandrel/mandrellaw07.PlayParted", spec := "playParted", unfollowed := true, recurses := true, plainKeys := false, apart := false, narrowed := true }
def PlayPartedUptoSaid : Prop := playPartedUptoRow.holds Try.pinned (OpenSpec.upto playPartedSpec)

/-- 'mandrellaw07.PlayCertain', WHERE WHAT IT READS IS OF BULK AT MOST 1048576: true; the input reads as it did. -/
def playCertainUptoRow : OpenClaim := { program := "ythplabmbbfefeaa", sum := "7acbe231aedabef0baa01fd97e0741e006502e18a0e83b0d80523a9987d87b08", func := "mandrel/mandrellaw07.PlayCertain", spec := "playCertain", unfollowed := true, recurses := true, plainKeys := false, apart := false, narrowed := true }
def PlayCertainUptoSaid : Prop := playCertainUptoRow.holds Try.pinned (OpenSpec.upto playCertainSpec)

/-- 'mandrellaw07.PlayFewest', WHERE WHAT IT READS IS OF BULK AT MOST 1048576: true; the input reads as it did. -/
def playFewestUptoRow : OpenClaim := { program := "ythplabmbbfefeaa", sum := "7acbe231aedabef0baa01fd97e0741e006502e18a0e83b0d80523a9987d87b08", func := "mandrel/mandrellaw07.PlayFewest", spec := "playFewest", unfollowed := true, recurses := true, plainKeys := false, apart := false, narrowed := true }
def PlayFewestUptoSaid : Prop := playFewestUptoRow.holds Try.pinned (OpenSpec.upto playFewestSpec)

/-- 'mandrellaw07.PlayKnown', WHERE WHAT IT READS IS OF BULK AT MOST 1048576: true; the input reads as it did. -/
def playKnownUptoRow : OpenClaim := { program := "ythplabmbbfefeaa", sum := "7acbe231aedabef0baa01fd97e0741e006502e18a0e83b0d80523a9987d87b08", func := "mandrel/mandrellaw07.PlayKnown", spec := "playKnown", unfollowed := true, recurses := true, plainKeys := false, apart := false, narrowed := true }
def PlayKnownUptoSaid : Prop := playKnownUptoRow.holds Try.pinned (OpenSpec.upto playKnownSpec)

/-- 'mandrellaw07.PlayLabels', WHERE WHAT IT READS IS OF BULK AT MOST 1048576: true; the input reads as it did. -/
def playLabelsUptoRow : OpenClaim := { program := "ythplabmbbfefeaa", sum := "7acbe231aedabef0baa01fd97e0741e006502e18a0e83b0d80523a9987d87b08", func := "mandrel/mandrellaw07.PlayLabels", spec := "playLabels", unfollowed := true, recurses := true, plainKeys := false, apart := false, narrowed := true }
def PlayLabelsUptoSaid : Prop := playLabelsUptoRow.holds Try.pinned (OpenSpec.upto playLabelsSpec)

/-- 'mandrellaw07.PlayProved', WHERE WHAT IT READS IS OF BULK AT MOST 1048576: true; the input reads as it did. -/
def playProvedUptoRow : OpenClaim := { program := "ythplabmbbfefeaa", sum := "7acbe231aedabef0baa01fd97e0741e006502e18a0e83b0d80523a9987d87b08", func := "mandrel/mandrellaw07.PlayProved", spec := "playProved", unfollowed := true, recurses := true, plainKeys := false, apart := false, narrowed := true }
def PlayProvedUptoSaid : Prop := playProvedUptoRow.holds Try.pinned (OpenSpec.upto playProvedSpec)

end Rows
end Go.Proofs.Ythplabmbbfefeaa
