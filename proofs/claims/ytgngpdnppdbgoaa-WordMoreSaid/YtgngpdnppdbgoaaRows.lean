/-
  No cell of these rows narrows 'for every input' (looked for: loops, veiled, ifaces, maps, wideKeys, modest, calm, conditions, laid).
  DERIVED. THE GIVEN ROWS OF THIS SEAT. 10 by the template 'for every input the law returns true; each argument reads behind the call as it read before'; 0 by the template 'total and deterministic' (their statements: YtgngpdnppdbgoaaTotals.lean).
  GIVEN WITH THE SEED: the statements are not yours to turn. If you find one false, say at which input.
  Laid BY PROGRAM, IN A SANDBOX (cutbox-rows.mjs): the forced cells as the released guide's own fill.sh prints them over the translation 3900b2d17bb1c5c9… (all of the seat's roots in one cut). By AI agents, Wed Nov 11 2026. No macro, syntax, notation, axiom, sorry.
-/
import Derived.Test.YtgngpdnppdbgoaaChecked
import GoSem.Claim
import GoSem.ClaimJoined
import GoSem.ClaimMapViews
import Derived.JoinedTies
import Derived.KernelRfl
namespace Go.Proofs.Ytgngpdnppdbgoaa
/- THE CELL 'sum', in the pinned program and in every row, IS THE sha256 OF THE DUMP (.gsa) THAT YtgngpdnppdbgoaaProg.lean LOADS. Nothing in Lean hashes anything: it is a label: what it is worth is what the hold of that sum in a sandbox is worth. -/
noncomputable def Try.pinned : Pinned := { name := "ytgngpdnppdbgoaa", sum := "3900b2d17bb1c5c9984b767502d5bb698b0cd4f861e0f649bb50c1055c400254", checked := Try.checked }
namespace Rows
def none {H : Type} : Left H := { results := [], args := [] }

/-- 'mandrellaw04.WordBooks': WHATEVER THE INPUT: true; the input reads as it did. -/
def wordBooksSpec : ChangeSpec := { name := "wordBooks", fn := fun _ => fun
  | [d1, d2, d3, d4] => { results := [.lit (.bool true)], args := [d1, d2, d3, d4] }
  | _ => none }
def wordBooksRow : OpenClaim := { program := "ytgngpdnppdbgoaa", sum := "3900b2d17bb1c5c9984b767502d5bb698b0cd4f861e0f649bb50c1055c400254", func := "mandrel/mandrellaw04.WordBooks", spec := "wordBooks", unfollowed := true, recurses := true, plainKeys := false, apart := false }
def WordBooksSaid : Prop := wordBooksRow.holds Try.pinned (OpenSpec.ofChange wordBooksSpec)

/-- ITS FALSE NEIGHBOUR: 'it returns false'. Refute it at one input. -/
def wordBooksWrong : ChangeSpec := { name := "wordBooks", fn := fun _ => fun
  | [d1, d2, d3, d4] => { results := [.lit (.bool false)], args := [d1, d2, d3, d4] }
  | _ => none }
def WordBooksWrongFalsely : Prop := wordBooksRow.holds Try.pinned (OpenSpec.ofChange wordBooksWrong)

/-- 'mandrellaw04.WordLevels': WHATEVER THE INPUT: true; the input reads as it did. -/
def wordLevelsSpec : ChangeSpec := { name := "wordLevels", fn := fun _ => fun
  | [d1, d2, d3, d4] => { results := [.lit (.bool true)], args := [d1, d2, d3, d4] }
  | _ => none }
def wordLevelsRow : OpenClaim := { program := "ytgngpdnppdbgoaa", sum := "3900b2d17bb1c5c9984b767502d5bb698b0cd4f861e0f649bb50c1055c400254", func := "mandrel/mandrellaw04.WordLevels", spec := "wordLevels", unfollowed := true, recurses := true, plainKeys := false, apart := false }
def WordLevelsSaid : Prop := wordLevelsRow.holds Try.pinned (OpenSpec.ofChange wordLevelsSpec)

/-- ITS FALSE NEIGHBOUR: 'it returns false'. Refute it at one input. -/
def wordLevelsWrong : ChangeSpec := { name := "wordLevels", fn := fun _ => fun
  | [d1, d2, d3, d4] => { results := [.lit (.bool false)], args := [d1, d2, d3, d4] }
  | _ => none }
def WordLevelsWrongFalsely : Prop := wordLevelsRow.holds Try.pinned (OpenSpec.ofChange wordLevelsWrong)

/-- 'mandrellaw04.WordLongest': WHATEVER THE INPUT: true; the input reads as it did. -/
def wordLongestSpec : ChangeSpec := { name := "wordLongest", fn := fun _ => fun
  | [d1, d2] => { results := [.lit (.bool true)], args := [d1, d2] }
  | _ => none }
def wordLongestRow : OpenClaim := { program := "ytgngpdnppdbgoaa", sum := "3900b2d17bb1c5c9984b767502d5bb698b0cd4f861e0f649bb50c1055c400254", func := "mandrel/mandrellaw04.WordLongest", spec := "wordLongest", unfollowed := true, recurses := true, plainKeys := false, apart := false }
def WordLongestSaid : Prop := wordLongestRow.holds Try.pinned (OpenSpec.ofChange wordLongestSpec)

/-- ITS FALSE NEIGHBOUR: 'it returns false'. Refute it at one input. -/
def wordLongestWrong : ChangeSpec := { name := "wordLongest", fn := fun _ => fun
  | [d1, d2] => { results := [.lit (.bool false)], args := [d1, d2] }
  | _ => none }
def WordLongestWrongFalsely : Prop := wordLongestRow.holds Try.pinned (OpenSpec.ofChange wordLongestWrong)

/-- 'mandrellaw04.WordGrades': WHATEVER THE INPUT: true; the input reads as it did. -/
def wordGradesSpec : ChangeSpec := { name := "wordGrades", fn := fun _ => fun
  | [d1, d2, d3] => { results := [.lit (.bool true)], args := [d1, d2, d3] }
  | _ => none }
def wordGradesRow : OpenClaim := { program := "ytgngpdnppdbgoaa", sum := "3900b2d17bb1c5c9984b767502d5bb698b0cd4f861e0f649bb50c1055c400254", func := "mandrel/mandrellaw04.WordGrades", spec := "wordGrades", unfollowed := true, recurses := true, plainKeys := false, apart := false }
def WordGradesSaid : Prop := wordGradesRow.holds Try.pinned (OpenSpec.ofChange wordGradesSpec)

/-- ITS FALSE NEIGHBOUR: 'it returns false'. Refute it at one input. -/
def wordGradesWrong : ChangeSpec := { name := "wordGrades", fn := fun _ => fun
  | [d1, d2, d3] => { results := [.lit (.bool false)], args := [d1, d2, d3] }
  | _ => none }
def WordGradesWrongFalsely : Prop := wordGradesRow.holds Try.pinned (OpenSpec.ofChange wordGradesWrong)

/-- 'mandrellaw04.WordProved': WHATEVER THE INPUT: true; the input reads as it did. -/
def wordProvedSpec : ChangeSpec := { name := "wordProved", fn := fun _ => fun
  | [d1, d2, d3, d4, d5] => { results := [.lit (.bool true)], args := [d1, d2, d3, d4, d5] }
  | _ => none }
def wordProvedRow : OpenClaim := { program := "ytgngpdnppdbgoaa", sum := "3900b2d17bb1c5c9984b767502d5bb698b0cd4f861e0f649bb50c1055c400254", func := "mandrel/mandrellaw04.WordProved", spec := "wordProved", unfollowed := true, recurses := true, plainKeys := false, apart := false }
def WordProvedSaid : Prop := wordProvedRow.holds Try.pinned (OpenSpec.ofChange wordProvedSpec)

/-- ITS FALSE NEIGHBOUR: 'it returns false'. Refute it at one input. -/
def wordProvedWrong : ChangeSpec := { name := "wordProved", fn := fun _ => fun
  | [d1, d2, d3, d4, d5] => { results := [.lit (.bool false)], args := [d1, d2, d3, d4, d5] }
  | _ => none }
def WordProvedWrongFalsely : Prop := wordProvedRow.holds Try.pinned (OpenSpec.ofChange wordProvedWrong)

/-- 'mandrellaw04.WordCertain': WHATEVER THE INPUT: true; the input reads as it did. -/
def wordCertainSpec : ChangeSpec := { name := "wordCertain", fn := fun _ => fun
  | [d1, d2, d3, d4] => { results := [.lit (.bool true)], args := [d1, d2, d3, d4] }
  | _ => none }
def wordCertainRow : OpenClaim := { program := "ytgngpdnppdbgoaa", sum := "3900b2d17bb1c5c9984b767502d5bb698b0cd4f861e0f649bb50c1055c400254", func := "mandrel/mandrellaw04.WordCertain", spec := "wordCertain", unfollowed := true, recurses := true, plainKeys := false, apart := false }
def WordCertainSaid : Prop := wordCertainRow.holds Try.pinned (OpenSpec.ofChange wordCertainSpec)

/-- ITS FALSE NEIGHBOUR: 'it returns false'. Refute it at one input. -/
def wordCertainWrong : ChangeSpec := { name := "wordCertain", fn := fun _ => fun
  | [d1, d2, d3, d4] => { results := [.lit (.bool false)], args := [d1, d2, d3, d4] }
  | _ => none }
def WordCertainWrongFalsely : Prop := wordCertainRow.holds Try.pinned (OpenSpec.ofChange wordCertainWrong)

/-- 'mandrellaw04.WordMore': WHATEVER THE INPUT: true; the input reads as it did. -/
def wordMoreSpec : ChangeSpec := { name := "wordMore", fn := fun _ => fun
  | [d1, d2, d3, d4, d5, d6, d7] => { results := [.lit (.bool true)], args := [d1, d2, d3, d4, d5, d6, d7] }
  | _ => none }
def wordMoreRow : OpenClaim := { program := "ytgngpdnppdbgoaa", sum := "3900b2d17bb1c5c9984b767502d5bb698b0cd4f861e0f649bb50c1055c400254", func := "mandrel/mandrellaw04.WordMore", spec := "wordMore", unfollowed := true, recurses := true, plainKeys := false, apart := false }
def WordMoreSaid : Prop := wordMoreRow.holds Try.pinned (OpenSpec.ofChange wordMoreSpec)

/-- ITS FALSE NEIGHBOUR: 'it returns false'. Refute it at one input. -/
def wordMoreWrong : ChangeSpec := { name := "wordMore", fn := fun _ => fun
  | [d1, d2, d3, d4, d5, d6, d7] => { results := [.lit (.bool false)], args := [d1, d2, d3, d4, d5, d6, d7] }
  | _ => none }
def WordMoreWrongFalsely : Prop := wordMoreRow.holds Try.pinned (OpenSpec.ofChange wordMoreWrong)

/-- 'mandrellaw04.WordTurned': WHATEVER THE INPUT: true; the input reads as it did. -/
def wordTurnedSpec : ChangeSpec := { name := "wordTurned", fn := fun _ => fun
  | [d1, d2, d3, d4] => { results := [.lit (.bool true)], args := [d1, d2, d3, d4] }
  | _ => none }
def wordTurnedRow : OpenClaim := { program := "ytgngpdnppdbgoaa", sum := "3900b2d17bb1c5c9984b767502d5bb698b0cd4f861e0f649bb50c1055c400254", func := "mandrel/mandrellaw04.WordTurned", spec := "wordTurned", unfollowed := true, recurses := true, plainKeys := false, apart := false }
def WordTurnedSaid : Prop := wordTurnedRow.holds Try.pinned (OpenSpec.ofChange wordTurnedSpec)

/-- ITS FALSE NEIGHBOUR: 'it returns false'. Refute it at one input. -/
def wordTurnedWrong : ChangeSpec := { name := "wordTurned", fn := fun _ => fun
  | [d1, d2, d3, d4] => { results := [.lit (.bool false)], args := [d1, d2, d3, d4] }
  | _ => none }
def WordTurnedWrongFalsely : Prop := wordTurnedRow.holds Try.pinned (OpenSpec.ofChange wordTurnedWrong)

/-- 'mandrellaw04.WordAlike': WHATEVER THE INPUT: true; the input reads as it did. -/
def wordAlikeSpec : ChangeSpec := { name := "wordAlike", fn := fun _ => fun
  | [d1, d2, d3, d4, d5] => { results := [.lit (.bool true)], args := [d1, d2, d3, d4, d5] }
  | _ => none }
def wordAlikeRow : OpenClaim := { program := "ytgngpdnppdbgoaa", sum := "3900b2d17bb1c5c9984b767502d5bb698b0cd4f861e0f649bb50c1055c400254", func := "mandrel/mandrellaw04.WordAlike", spec := "wordAlike", unfollowed := true, recurses := true, plainKeys := false, apart := false }
def WordAlikeSaid : Prop := wordAlikeRow.holds Try.pinned (OpenSpec.ofChange wordAlikeSpec)

/-- ITS FALSE NEIGHBOUR: 'it returns false'. Refute it at one input. -/
def wordAlikeWrong : ChangeSpec := { name := "wordAlike", fn := fun _ => fun
  | [d1, d2, d3, d4, d5] => { results := [.lit (.bool false)], args := [d1, d2, d3, d4, d5] }
  | _ => none }
def WordAlikeWrongFalsely : Prop := wordAlikeRow.holds Try.pinned (OpenSpec.ofChange wordAlikeWrong)

/-- 'mandrellaw04.WordKnown': WHATEVER THE INPUT: true; the input reads as it did. -/
def wordKnownSpec : ChangeSpec := { name := "wordKnown", fn := fun _ => fun
  | [] => { results := [.lit (.bool true)], args := [] }
  | _ => none }
def wordKnownRow : OpenClaim := { program := "ytgngpdnppdbgoaa", sum := "3900b2d17bb1c5c9984b767502d5bb698b0cd4f861e0f649bb50c1055c400254", func := "mandrel/mandrellaw04.WordKnown", spec := "wordKnown", unfollowed := true, recurses := true, plainKeys := false, apart := false }
def WordKnownSaid : Prop := wordKnownRow.holds Try.pinned (OpenSpec.ofChange wordKnownSpec)

/-- ITS FALSE NEIGHBOUR: 'it returns false'. Refute it at one input. -/
def wordKnownWrong : ChangeSpec := { name := "wordKnown", fn := fun _ => fun
  | [] => { results := [.lit (.bool false)], args := [] }
  | _ => none }
def WordKnownWrongFalsely : Prop := wordKnownRow.holds Try.pinned (OpenSpec.ofChange wordKnownWrong)

/- THE SECOND FORM. 'bulk': how many values and letters a reading holds, each counted each time it is reached (what is shared counts as often as it is met; a slice's spare places count too). A statement '..UptoSaid' is the law's where the arguments, and the package variables that the reading takes, are together of bulk at most 1048576: NARROWER than '..Said'. Prove '..Said' where nothing that the law and all that it calls make is longer than what came in: it says more and counts as full. Else prove '..UptoSaid'. A law counts once. -/
mutual
def uptoBulk {H : Type} : DataW H → Nat
  | .lit (.string bytes) => bytes.length + 1
  | .lit _ => 1
  | .nil => 1
  | .ptr d => uptoBulk d + 1
  | .slice elems spare => uptoBulkAll elems + uptoBulkAll spare + 1
  | .agg parts => uptoBulkAll parts + 1
  | .iface _ d => uptoBulk d + 1
  | .map entries => uptoBulkEntries entries + 1
  | .held _ => 1
def uptoBulkAll {H : Type} : List (DataW H) → Nat
  | [] => 0
  | d :: r => uptoBulk d + uptoBulkAll r
def uptoBulkEntries {H : Type} : List (Lit × DataW H) → Nat
  | [] => 0
  | x :: r => uptoBulkEntry x + uptoBulkEntries r
def uptoBulkEntry {H : Type} : Lit × DataW H → Nat
  | (.string bytes, d) => bytes.length + uptoBulk d + 1
  | (_, d) => uptoBulk d + 1
 end
def uptoSmall : (H : Type) → List (DataW H) → Bool := fun _ ds => decide (uptoBulkAll ds ≤ 1048576)
def OpenSpec.upto (s : _root_.Go.ChangeSpec) : _root_.Go.OpenSpec := { _root_.Go.OpenSpec.ofChange s with cond := some uptoSmall }

/-- 'mandrellaw04.WordBooks', WHERE WHAT IT READS IS OF BULK AT MOST 1048576: true; the input reads as it did. -/
def wordBooksUptoRow : OpenClaim := { program := "ytgngpdnppdbgoaa", sum := "3900b2d17bb1c5c9984b767502d5bb698b0cd4f861e0f649bb50c1055c400254", func := "mandrel/mandrellaw04.WordBooks", spec := "wordBooks", unfollowed := true, recurses := true, plainKeys := false, apart := false, narrowed := true }
def WordBooksUptoSaid : Prop := wordBooksUptoRow.holds Try.pinned (OpenSpec.upto wordBooksSpec)

/-- 'mandrellaw04.WordLevels', WHERE WHAT IT READS IS OF BULK AT MOST 1048576: true; the input reads as it did. -/
def wordLevelsUptoRow : OpenClaim := { program := "ytgngpdnppdbgoaa", sum := "3900b2d17bb1c5c9984b767502d5bb698b0cd4f861e0f649bb50c1055c400254", func := "mandrel/mandrellaw04.WordLevels", spec := "wordLevels", unfollowed := true, recurses := true, plainKeys := false, apart := false, narrowed := true }
def WordLevelsUptoSaid : Prop := wordLevelsUptoRow.holds Try.pinned (OpenSpec.upto wordLevelsSpec)

/-- 'mandrellaw04.WordLongest', WHERE WHAT IT READS IS OF BULK AT MOST 1048576: true; the input reads as it did. -/
def wordLongestUptoRow : OpenClaim := { program := "ytgngpdnppdbgoaa", sum := "3900b2d17bb1c5c9984b767502d5bb698b0cd4f861e0f649bb50c1055c400254", func := "mandrel/mandrellaw04.WordLongest", spec := "wordLongest", unfollowed := true, recurses := true, plainKeys := false, apart := false, narrowed := true }
def WordLongestUptoSaid : Prop := wordLongestUptoRow.holds Try.pinned (OpenSpec.upto wordLongestSpec)

/-- 'mandrellaw04.WordGrades', WHERE WHAT IT READS IS OF BULK AT MOST 1048576: true; the input reads as it did. -/
def wordGradesUptoRow : OpenClaim := { program := "ytgngpdnppdbgoaa", sum := "3900b2d17bb1c5c9984b767502d5bb698b0cd4f861e0f649bb50c1055c400254", func := "mandrel/mandrellaw04.WordGrades", spec := "wordGrades", unfollowed := true, recurses := true, plainKeys := false, apart := false, narrowed := true }
def WordGradesUptoSaid : Prop := wordGradesUptoRow.holds Try.pinned (OpenSpec.upto wordGradesSpec)

/-- 'mandrellaw04.WordProved', WHERE WHAT IT READS IS OF BULK AT MOST 1048576: true; the input reads as it did. -/
def wordProvedUptoRow : OpenClaim := { program := "ytgngpdnppdbgoaa", sum := "3900b2d17bb1c5c9984b767502d5bb698b0cd4f861e0f649bb50c1055c400254", func := "mandrel/mandrellaw04.WordProved", spec := "wordProved", unfollowed := true, recurses := true, plainKeys := false, apart := false, narrowed := true }
def WordProvedUptoSaid : Prop := wordProvedUptoRow.holds Try.pinned (OpenSpec.upto wordProvedSpec)

/-- 'mandrellaw04.WordCertain', WHERE WHAT IT READS IS OF BULK AT MOST 1048576: true; the input reads as it did. -/
def wordCertainUptoRow : OpenClaim := { program := "ytgngpdnppdbgoaa", sum := "3900b2d17bb1c5c9984b767502d5bb698b0cd4f861e0f649bb50c1055c400254", func := "mandrel/mandrellaw04.WordCertain", spec := "wordCertain", unfollowed := true, recurses := true, plainKeys := false, apart := false, narrowed := true }
def WordCertainUptoSaid : Prop := wordCertainUptoRow.holds Try.pinned (OpenSpec.upto wordCertainSpec)

/-- 'mandrellaw04.WordMore', WHERE WHAT IT READS IS OF BULK AT MOST 1048576: true; the input reads as it did. -/
def wordMoreUptoRow : OpenClaim := { program := "ytgngpdnppdbgoaa", sum := "3900b2d17bb1c5c9984b767502d5bb698b0cd4f861e0f649bb50c1055c400254", func := "mandrel/mandrellaw04.WordMore", spec := "wordMore", unfollowed := true, recurses := true, plainKeys := false, apart := false, narrowed := true }
def WordMoreUptoSaid : Prop := wordMoreUptoRow.holds Try.pinned (OpenSpec.upto wordMoreSpec)

/-- 'mandrellaw04.WordTurned', WHERE WHAT IT READS IS OF BULK AT MOST 1048576: true; the input reads as it did. -/
def wordTurnedUptoRow : OpenClaim := { program := "ytgngpdnppdbgoaa", sum := "3900b2d17bb1c5c9984b767502d5bb698b0cd4f861e0f649bb50c1055c400254", func := "mandrel/mandrellaw04.WordTurned", spec := "wordTurned", unfollowed := true, recurses := true, plainKeys := false, apart := false, narrowed := true }
def WordTurnedUptoSaid : Prop := wordTurnedUptoRow.holds Try.pinned (OpenSpec.upto wordTurnedSpec)

/-- 'mandrellaw04.WordAlike', WHERE WHAT IT READS IS OF BULK AT MOST 1048576: true; the input reads as it did. -/
def wordAlikeUptoRow : OpenClaim := { program := "ytgngpdnppdbgoaa", sum := "3900b2d17bb1c5c9984b767502d5bb698b0cd4f861e0f649bb50c1055c400254", func := "mandrel/mandrellaw04.WordAlike", spec := "wordAlike", unfollowed := true, recurses := true, plainKeys := false, apart := false, narrowed := true }
def WordAlikeUptoSaid : Prop := wordAlikeUptoRow.holds Try.pinned (OpenSpec.upto wordAlikeSpec)

/-- 'mandrellaw04.WordKnown', WHERE WHAT IT READS IS OF BULK AT MOST 1048576: true; the input reads as it did. -/
def wordKnownUptoRow : OpenClaim := { program := "ytgngpdnppdbgoaa", sum := "3900b2d17bb1c5c9984b767502d5bb698b0cd4f861e0f649bb50c1055c400254", func := "mandrel/mandrellaw04.WordKnown", spec := "wordKnown", unfollowed := true, recurses := true, plainKeys := false, apart := false, narrowed := true }
def WordKnownUptoSaid : Prop := wordKnownUptoRow.holds Try.pinned (OpenSpec.upto wordKnownSpec)

end Rows
end Go.Proofs.Ytgngpdnppdbgoaa
