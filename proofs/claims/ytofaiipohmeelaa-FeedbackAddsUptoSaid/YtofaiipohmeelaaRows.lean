/-
  No cell of these rows narrows 'for every input' (looked for: loops, veiled, ifaces, maps, wideKeys, modest, calm, conditions, laid).
  DERIVED. THE GIVEN ROWS OF THIS SEAT. 6 by the template 'for every input the law returns true; each argument reads behind the call as it read before'; 0 by the template 'total and deterministic' (their statements: YtofaiipohmeelaaTotals.lean).
  GIVEN WITH THE SEED: the statements are not yours to turn. If you find one false, say at which input.
  Laid BY PROGRAM, IN A SANDBOX (cutbox-rows.mjs): the forced cells as the released guide's own fill.sh prints them over the translation 3fe2303027eabbb8… (all of the seat's roots in one cut). By AI agents, Wed Nov 11 2026. No macro, syntax, notation, axiom, sorry.
-/
import Derived.Test.YtofaiipohmeelaaChecked
import GoSem.Claim
import GoSem.ClaimJoined
import GoSem.ClaimMapViews
import Derived.JoinedTies
import Derived.KernelRfl
namespace Go.Proofs.Ytofaiipohmeelaa
/- THE CELL 'sum', in the pinned program and in every row, IS THE sha256 OF THE DUMP (.gsa) THAT YtofaiipohmeelaaProg.lean LOADS. Nothing in Lean hashes anything: it is a label: what it is worth is what the hold of that sum in a sandbox is worth. -/
noncomputable def Try.pinned : Pinned := { name := "ytofaiipohmeelaa", sum := "3fe2303027eabbb8d3f4cfd98e90e30204bf08b9939671f450a1fc1d31684e67", checked := Try.checked }
namespace Rows
def none {H : Type} : Left H := { results := [], args := [] }

/-- 'foghornlaw11.FeedbackLoops': WHATEVER THE INPUT: true; the input reads as it did. -/
def feedbackLoopsSpec : ChangeSpec := { name := "feedbackLoops", fn := fun _ => fun
  | [d1, d2, d3, d4, d5] => { results := [.lit (.bool true)], args := [d1, d2, d3, d4, d5] }
  | _ => none }
def feedbackLoopsRow : OpenClaim := { program := "ytofaiipohmeelaa", sum := "3fe2303027eabbb8d3f4cfd98e90e30204bf08b9939671f450a1fc1d31684e67", func := "foghorn/foghornlaw11.FeedbackLoops", spec := "feedbackLoops", inPlace := ["math.Float64frombits", "math.Float64bits", "math.archFloor", "math.archTrunc", "math.archMin", "math.archMax", "math.archCeil"], unfollowed := true, recurses := true, apart := false }
def FeedbackLoopsSaid : Prop := feedbackLoopsRow.holds Try.pinned (OpenSpec.ofChange feedbackLoopsSpec)

/-- ITS FALSE NEIGHBOUR: 'it returns false'. Refute it at one input. -/
def feedbackLoopsWrong : ChangeSpec := { name := "feedbackLoops", fn := fun _ => fun
  | [d1, d2, d3, d4, d5] => { results := [.lit (.bool false)], args := [d1, d2, d3, d4, d5] }
  | _ => none }
def FeedbackLoopsWrongFalsely : Prop := feedbackLoopsRow.holds Try.pinned (OpenSpec.ofChange feedbackLoopsWrong)

/-- 'foghornlaw11.FeedbackNames': WHATEVER THE INPUT: true; the input reads as it did. -/
def feedbackNamesSpec : ChangeSpec := { name := "feedbackNames", fn := fun _ => fun
  | [] => { results := [.lit (.bool true)], args := [] }
  | _ => none }
def feedbackNamesRow : OpenClaim := { program := "ytofaiipohmeelaa", sum := "3fe2303027eabbb8d3f4cfd98e90e30204bf08b9939671f450a1fc1d31684e67", func := "foghorn/foghornlaw11.FeedbackNames", spec := "feedbackNames", inPlace := ["math.archFloor", "math.Float64bits", "math.Float64frombits", "math.archTrunc", "math.archMin", "math.archMax", "math.archCeil"], unfollowed := true, recurses := true, apart := false }
def FeedbackNamesSaid : Prop := feedbackNamesRow.holds Try.pinned (OpenSpec.ofChange feedbackNamesSpec)

/-- ITS FALSE NEIGHBOUR: 'it returns false'. Refute it at one input. -/
def feedbackNamesWrong : ChangeSpec := { name := "feedbackNames", fn := fun _ => fun
  | [] => { results := [.lit (.bool false)], args := [] }
  | _ => none }
def FeedbackNamesWrongFalsely : Prop := feedbackNamesRow.holds Try.pinned (OpenSpec.ofChange feedbackNamesWrong)

/-- 'foghornlaw11.FeedbackParts': WHATEVER THE INPUT: true; the input reads as it did. -/
def feedbackPartsSpec : ChangeSpec := { name := "feedbackParts", fn := fun _ => fun
  | [d1, d2, d3, d4, d5, d6, d7] => { results := [.lit (.bool true)], args := [d1, d2, d3, d4, d5, d6, d7] }
  | _ => none }
def feedbackPartsRow : OpenClaim := { program := "ytofaiipohmeelaa", sum := "3fe2303027eabbb8d3f4cfd98e90e30204bf08b9939671f450a1fc1d31684e67", func := "foghorn/foghornlaw11.FeedbackParts", spec := "feedbackParts", inPlace := ["math.Float64bits", "math.Float64frombits", "math.archFloor", "math.archTrunc", "math.archMin", "math.archMax", "math.archCeil"], unfollowed := true, recurses := true, apart := false }
def FeedbackPartsSaid : Prop := feedbackPartsRow.holds Try.pinned (OpenSpec.ofChange feedbackPartsSpec)

/-- ITS FALSE NEIGHBOUR: 'it returns false'. Refute it at one input. -/
def feedbackPartsWrong : ChangeSpec := { name := "feedbackParts", fn := fun _ => fun
  | [d1, d2, d3, d4, d5, d6, d7] => { results := [.lit (.bool false)], args := [d1, d2, d3, d4, d5, d6, d7] }
  | _ => none }
def FeedbackPartsWrongFalsely : Prop := feedbackPartsRow.holds Try.pinned (OpenSpec.ofChange feedbackPartsWrong)

/-- 'foghornlaw11.FeedbackRuns': WHATEVER THE INPUT: true; the input reads as it did. -/
def feedbackRunsSpec : ChangeSpec := { name := "feedbackRuns", fn := fun _ => fun
  | [d1, d2, d3] => { results := [.lit (.bool true)], args := [d1, d2, d3] }
  | _ => none }
def feedbackRunsRow : OpenClaim := { program := "ytofaiipohmeelaa", sum := "3fe2303027eabbb8d3f4cfd98e90e30204bf08b9939671f450a1fc1d31684e67", func := "foghorn/foghornlaw11.FeedbackRuns", spec := "feedbackRuns", inPlace := ["math.Float64frombits", "math.Float64bits", "math.archFloor", "math.archTrunc", "math.archMin", "math.archMax", "math.archCeil"], unfollowed := true, recurses := true, apart := false }
def FeedbackRunsSaid : Prop := feedbackRunsRow.holds Try.pinned (OpenSpec.ofChange feedbackRunsSpec)

/-- ITS FALSE NEIGHBOUR: 'it returns false'. Refute it at one input. -/
def feedbackRunsWrong : ChangeSpec := { name := "feedbackRuns", fn := fun _ => fun
  | [d1, d2, d3] => { results := [.lit (.bool false)], args := [d1, d2, d3] }
  | _ => none }
def FeedbackRunsWrongFalsely : Prop := feedbackRunsRow.holds Try.pinned (OpenSpec.ofChange feedbackRunsWrong)

/-- 'foghornlaw11.FeedbackAdds': WHATEVER THE INPUT: true; the input reads as it did. -/
def feedbackAddsSpec : ChangeSpec := { name := "feedbackAdds", fn := fun _ => fun
  | [d1, d2, d3, d4, d5, d6] => { results := [.lit (.bool true)], args := [d1, d2, d3, d4, d5, d6] }
  | _ => none }
def feedbackAddsRow : OpenClaim := { program := "ytofaiipohmeelaa", sum := "3fe2303027eabbb8d3f4cfd98e90e30204bf08b9939671f450a1fc1d31684e67", func := "foghorn/foghornlaw11.FeedbackAdds", spec := "feedbackAdds", inPlace := ["math.Float64bits", "math.Float64frombits", "math.archFloor", "math.archTrunc", "math.archMin", "math.archMax", "math.archCeil"], unfollowed := true, recurses := true, apart := false }
def FeedbackAddsSaid : Prop := feedbackAddsRow.holds Try.pinned (OpenSpec.ofChange feedbackAddsSpec)

/-- ITS FALSE NEIGHBOUR: 'it returns false'. Refute it at one input. -/
def feedbackAddsWrong : ChangeSpec := { name := "feedbackAdds", fn := fun _ => fun
  | [d1, d2, d3, d4, d5, d6] => { results := [.lit (.bool false)], args := [d1, d2, d3, d4, d5, d6] }
  | _ => none }
def FeedbackAddsWrongFalsely : Prop := feedbackAddsRow.holds Try.pinned (OpenSpec.ofChange feedbackAddsWrong)

/-- 'foghornlaw11.FeedbackReach': WHATEVER THE INPUT: true; the input reads as it did. -/
def feedbackReachSpec : ChangeSpec := { name := "feedbackReach", fn := fun _ => fun
  | [d1, d2, d3, d4, d5, d6] => { results := [.lit (.bool true)], args := [d1, d2, d3, d4, d5, d6] }
  | _ => none }
def feedbackReachRow : OpenClaim := { program := "ytofaiipohmeelaa", sum := "3fe2303027eabbb8d3f4cfd98e90e30204bf08b9939671f450a1fc1d31684e67", func := "foghorn/foghornlaw11.FeedbackReach", spec := "feedbackReach", inPlace := ["math.Float64bits", "math.Float64frombits", "math.archFloor", "math.archTrunc", "math.archMin", "math.archMax", "math.archCeil"], unfollowed := true, recurses := true, apart := false }
def FeedbackReachSaid : Prop := feedbackReachRow.holds Try.pinned (OpenSpec.ofChange feedbackReachSpec)

/-- ITS FALSE NEIGHBOUR: 'it returns false'. Refute it at one input. -/
def feedbackReachWrong : ChangeSpec := { name := "feedbackReach", fn := fun _ => fun
  | [d1, d2, d3, d4, d5, d6] => { results := [.lit (.bool false)], args := [d1, d2, d3, d4, d5, d6] }
  | _ => none }
def FeedbackReachWrongFalsely : Prop := feedbackReachRow.holds Try.pinned (OpenSpec.ofChange feedbackReachWrong)

/- THE SECOND FORM. 'bulk': how many values and letters a reading holds, each counted each time it is reached (what is shared counts as often as it is met; a slice's spare places count too). A statement '..UptoSaid' is the law's where the arguments, and the package variables that the reading takes, are together of bulk at most 1048576: NARROWER than '..Said'. Prove '..Said' where nothing that the law and all that it calls make is longer than what came in: it says more and counts as full. Else prove '..UptoSaid'. A law counts once. -/
mutual
def uptoBulk {H : Type} : DataW H → Nat
  | .lit (.string bytes) => bytes.length + 1
  | .lit _ => 1
  | .nil => 1
  | .ptr d => uptoBulk d + 1
  | .slice elems spare => uptoBulkAll elems + uptoBulkAll spare + 1
  | .agg parts => uptoBulkAll parts + 1
  | .iface _ d => uptoBulk d + 1
  | .map entries => uptoBulkEntries entries + 1
  | .held _ => 1
def uptoBulkAll {H : Type} : List (DataW H) → Nat
  | [] => 0
  | d :: r => uptoBulk d + uptoBulkAll r
def uptoBulkEntries {H : Type} : List (Lit × DataW H) → Nat
  | [] => 0
  | x :: r => uptoBulkEntry x + uptoBulkEntries r
def uptoBulkEntry {H : Type} : Lit × DataW H → Nat
  | (.string bytes, d) => bytes.length + uptoBulk d + 1
  | (_, d) => uptoBulk d + 1
 end
def uptoSmall : (H : Type) → List (DataW H) → Bool := fun _ ds => decide (uptoBulkAll ds ≤ 1048576)
def OpenSpec.upto (s : _root_.Go.ChangeSpec) : _root_.Go.OpenSpec := { _root_.Go.OpenSpec.ofChange s with cond := some uptoSmall }

/-- 'foghornlaw11.FeedbackLoops', WHERE WHAT IT READS IS OF BULK AT MOST 1048576: true; the input reads as it did. -/
def feedbackLoopsUptoRow : OpenClaim := { program := "ytofaiipohmeelaa", sum := "3fe2303027eabbb8d3f4cfd98e90e30204bf08b9939671f450a1fc1d31684e67", func := "foghorn/foghornlaw11.FeedbackLoops", spec := "feedbackLoops", inPlace := ["math.Float64frombits", "math.Float64bits", "math.archFloor", "math.archTrunc", "math.archMin", "math.archMax", "math.archCeil"], unfollowed := true, recurses := true, apart := false, narrowed := true }
def FeedbackLoopsUptoSaid : Prop := feedbackLoopsUptoRow.holds Try.pinned (OpenSpec.upto feedbackLoopsSpec)

/-- 'foghornlaw11.FeedbackNames', WHERE WHAT IT READS IS OF BULK AT MOST 1048576: true; the input reads as it did. -/
def feedbackNamesUptoRow : OpenClaim := { program := "ytofaiipohmeelaa", sum := "3fe2303027eabbb8d3f4cfd98e90e30204bf08b9939671f450a1fc1d31684e67", func := "foghorn/foghornlaw11.FeedbackNames", spec := "feedbackNames", inPlace := ["math.archFloor", "math.Float64bits", "math.Float64frombits", "math.archTrunc", "math.archMin", "math.archMax", "math.archCeil"], unfollowed := true, recurses := true, apart := false, narrowed := true }
def FeedbackNamesUptoSaid : Prop := feedbackNamesUptoRow.holds Try.pinned (OpenSpec.upto feedbackNamesSpec)

/-- 'foghornlaw11.FeedbackParts', WHERE WHAT IT READS IS OF BULK AT MOST 1048576: true; the input reads as it did. -/
def feedbackPartsUptoRow : OpenClaim := { program := "ytofaiipohmeelaa", sum := "3fe2303027eabbb8d3f4cfd98e90e30204bf08b9939671f450a1fc1d31684e67", func := "foghorn/foghornlaw11.FeedbackParts", spec := "feedbackParts", inPlace := ["math.Float64bits", "math.Float64frombits", "math.archFloor", "math.archTrunc", "math.archMin", "math.archMax", "math.archCeil"], unfollowed := true, recurses := true, apart := false, narrowed := true }
def FeedbackPartsUptoSaid : Prop := feedbackPartsUptoRow.holds Try.pinned (OpenSpec.upto feedbackPartsSpec)

/-- 'foghornlaw11.FeedbackRuns', WHERE WHAT IT READS IS OF BULK AT MOST 1048576: true; the input reads as it did. -/
def feedbackRunsUptoRow : OpenClaim := { program := "ytofaiipohmeelaa", sum := "3fe2303027eabbb8d3f4cfd98e90e30204bf08b9939671f450a1fc1d31684e67", func := "foghorn/foghornlaw11.FeedbackRuns", spec := "feedbackRuns", inPlace := ["math.Float64frombits", "math.Float64bits", "math.archFloor", "math.archTrunc", "math.archMin", "math.archMax", "math.archCeil"], unfollowed := true, recurses := true, apart := false, narrowed := true }
def FeedbackRunsUptoSaid : Prop := feedbackRunsUptoRow.holds Try.pinned (OpenSpec.upto feedbackRunsSpec)

/-- 'foghornlaw11.FeedbackAdds', WHERE WHAT IT READS IS OF BULK AT MOST 1048576: true; the input reads as it did. -/
def feedbackAddsUptoRow : OpenClaim := { program := "ytofaiipohmeelaa", sum := "3fe2303027eabbb8d3f4cfd98e90e30204bf08b9939671f450a1fc1d31684e67", func := "foghorn/foghornlaw11.FeedbackAdds", spec := "feedbackAdds", inPlace := ["math.Float64bits", "math.Float64frombits", "math.archFloor", "math.archTrunc", "math.archMin", "math.archMax", "math.archCeil"], unfollowed := true, recurses := true, apart := false, narrowed := true }
def FeedbackAddsUptoSaid : Prop := feedbackAddsUptoRow.holds Try.pinned (OpenSpec.upto feedbackAddsSpec)

/-- 'foghornlaw11.FeedbackReach', WHERE WHAT IT READS IS OF BULK AT MOST 1048576: true; the input reads as it did. -/
def feedbackReachUptoRow : OpenClaim := { program := "ytofaiipohmeelaa", sum := "3fe2303027eabbb8d3f4cfd98e90e30204bf08b9939671f450a1fc1d31684e67", func := "foghorn/foghornlaw11.FeedbackReach", spec := "feedbackReach", inPlace := ["math.Float64bits", "math.Float64frombits", "math.archFloor", "math.archTrunc", "math.archMin", "math.archMax", "math.archCeil"], unfollowed := true, recurses := true, apart := false, narrowed := true }
def FeedbackReachUptoSaid : Prop := feedbackReachUptoRow.holds Try.pinned (OpenSpec.upto feedbackReachSpec)

end Rows
end Go.Proofs.Ytofaiipohmeelaa
