/-
  No cell of these rows narrows 'for every input' (looked for: loops, veiled, ifaces, maps, wideKeys, modest, calm, conditions, laid).
  DERIVED. THE GIVEN ROWS OF THIS SEAT. 5 by the template 'for every input the law returns true; each argument reads behind the call as it read before'; 0 by the template 'total and deterministic' (their statements: YtjodglepaeomiaaTotals.lean).
  GIVEN WITH THE SEED: the statements are not yours to turn. If you find one false, say at which input.
  Laid BY PROGRAM, IN A SANDBOX (cutbox-rows.mjs): the forced cells as the released guide's own fill.sh prints them over the translation 5d7fd7e38e1a2270… (all of the seat's roots in one cut). By AI agents, Wed Nov 11 2026. No macro, syntax, notation, axiom, sorry.
-/
import Derived.Test.YtjodglepaeomiaaChecked
import GoSem.Claim
import GoSem.ClaimJoined
import GoSem.ClaimMapViews
import Derived.JoinedTies
import Derived.KernelRfl
namespace Go.Proofs.Ytjodglepaeomiaa
/- THE CELL 'sum', in the pinned program and in every row, IS THE sha256 OF THE DUMP (.gsa) THAT YtjodglepaeomiaaProg.lean LOADS. Nothing in Lean hashes anything: it is a label: what it is worth is what the hold of that sum in a sandbox is worth. -/
noncomputable def Try.pinned : Pinned := { name := "ytjodglepaeomiaa", sum := "5d7fd7e38e1a227071c2cd99b29d409f49d65e5499f27d2ce165eb2f3f8a923d", checked := Try.checked }
namespace Rows
def none {H : Type} : Left H := { results := [], args := [] }

/-- 'prompterlaw27.RaftKnown': WHATEVER THE INPUT: true; the input reads as it did. -/
def raftKnownSpec : ChangeSpec := { name := "raftKnown", fn := fun _ => fun
  | [] => { results := [.lit (.bool true)], args := [] }
  | _ => none }
def raftKnownRow : OpenClaim := { program := "ytjodglepaeomiaa", sum := "5d7fd7e38e1a227071c2cd99b29d409f49d65e5499f27d2ce165eb2f3f8a923d", func := "prompter/prompterlaw27.RaftKnown", spec := "raftKnown", unfollowed := true, recurses := true, apart := false }
def RaftKnownSaid : Prop := raftKnownRow.holds Try.pinned (OpenSpec.ofChange raftKnownSpec)

/-- ITS FALSE NEIGHBOUR: 'it returns false'. Refute it at one input. -/
def raftKnownWrong : ChangeSpec := { name := "raftKnown", fn := fun _ => fun
  | [] => { results := [.lit (.bool false)], args := [] }
  | _ => none }
def RaftKnownWrongFalsely : Prop := raftKnownRow.holds Try.pinned (OpenSpec.ofChange raftKnownWrong)

/-- 'prompterlaw27.RaftSafe': WHATEVER THE INPUT: true; the input reads as it did. -/
def raftSafeSpec : ChangeSpec := { name := "raftSafe", fn := fun _ => fun
  | [d1, d2] => { results := [.lit (.bool true)], args := [d1, d2] }
  | _ => none }
def raftSafeRow : OpenClaim := { program := "ytjodglepaeomiaa", sum := "5d7fd7e38e1a227071c2cd99b29d409f49d65e5499f27d2ce165eb2f3f8a923d", func := "prompter/prompterlaw27.RaftSafe", spec := "raftSafe", unfollowed := true, recurses := true, apart := false }
def RaftSafeSaid : Prop := raftSafeRow.holds Try.pinned (OpenSpec.ofChange raftSafeSpec)

/-- ITS FALSE NEIGHBOUR: 'it returns false'. Refute it at one input. -/
def raftSafeWrong : ChangeSpec := { name := "raftSafe", fn := fun _ => fun
  | [d1, d2] => { results := [.lit (.bool false)], args := [d1, d2] }
  | _ => none }
def RaftSafeWrongFalsely : Prop := raftSafeRow.holds Try.pinned (OpenSpec.ofChange raftSafeWrong)

/-- 'prompterlaw27.RaftGoes': WHATEVER THE INPUT: true; the input reads as it did. -/
def raftGoesSpec : ChangeSpec := { name := "raftGoes", fn := fun _ => fun
  | [d1, d2, d3, d4] => { results := [.lit (.bool true)], args := [d1, d2, d3, d4] }
  | _ => none }
def raftGoesRow : OpenClaim := { program := "ytjodglepaeomiaa", sum := "5d7fd7e38e1a227071c2cd99b29d409f49d65e5499f27d2ce165eb2f3f8a923d", func := "prompter/prompterlaw27.RaftGoes", spec := "raftGoes", unfollowed := true, recurses := true, apart := false }
def RaftGoesSaid : Prop := raftGoesRow.holds Try.pinned (OpenSpec.ofChange raftGoesSpec)

/-- ITS FALSE NEIGHBOUR: 'it returns false'. Refute it at one input. -/
def raftGoesWrong : ChangeSpec := { name := "raftGoes", fn := fun _ => fun
  | [d1, d2, d3, d4] => { results := [.lit (.bool false)], args := [d1, d2, d3, d4] }
  | _ => none }
def RaftGoesWrongFalsely : Prop := raftGoesRow.holds Try.pinned (OpenSpec.ofChange raftGoesWrong)

/-- 'prompterlaw27.RaftSteps': WHATEVER THE INPUT: true; the input reads as it did. -/
def raftStepsSpec : ChangeSpec := { name := "raftSteps", fn := fun _ => fun
  | [d1, d2, d3, d4] => { results := [.lit (.bool true)], args := [d1, d2, d3, d4] }
  | _ => none }
def raftStepsRow : OpenClaim := { program := "ytjodglepaeomiaa", sum := "5d7fd7e38e1a227071c2cd99b29d409f49d65e5499f27d2ce165eb2f3f8a923d", func := "prompter/prompterlaw27.RaftSteps", spec := "raftSteps", unfollowed := true, recurses := true, apart := false }
def RaftStepsSaid : Prop := raftStepsRow.holds Try.pinned (OpenSpec.ofChange raftStepsSpec)

/-- ITS FALSE NEIGHBOUR: 'it returns false'. Refute it at one input. -/
def raftStepsWrong : ChangeSpec := { name := "raftSteps", fn := fun _ => fun
  | [d1, d2, d3, d4] => { results := [.lit (.bool false)], args := [d1, d2, d3, d4] }
  | _ => none }
def RaftStepsWrongFalsely : Prop := raftStepsRow.holds Try.pinned (OpenSpec.ofChange raftStepsWrong)

/-- 'prompterlaw27.RaftNobody': WHATEVER THE INPUT: true; the input reads as it did. -/
def raftNobodySpec : ChangeSpec := { name := "raftNobody", fn := fun _ => fun
  | [d1, d2] => { results := [.lit (.bool true)], args := [d1, d2] }
  | _ => none }
def raftNobodyRow : OpenClaim := { program := "ytjodglepaeomiaa", sum := "5d7fd7e38e1a227071c2cd99b29d409f49d65e5499f27d2ce165eb2f3f8a923d", func := "prompter/prompterlaw27.RaftNobody", spec := "raftNobody", unfollowed := true, recurses := true, apart := false }
def RaftNobodySaid : Prop := raftNobodyRow.holds Try.pinned (OpenSpec.ofChange raftNobodySpec)

/-- ITS FALSE NEIGHBOUR: 'it returns false'. Refute it at one input. -/
def raftNobodyWrong : ChangeSpec := { name := "raftNobody", fn := fun _ => fun
  | [d1, d2] => { results := [.lit (.bool false)], args := [d1, d2] }
  | _ => none }
def RaftNobodyWrongFalsely : Prop := raftNobodyRow.holds Try.pinned (OpenSpec.ofChange raftNobodyWrong)

/- THE SECOND FORM. 'bulk': how many values and letters a reading holds, each counted each time it is reached (what is shared counts as often as it is met; a slice's spare places count too). A statement '..UptoSaid' is the law's where the arguments, and the package variables that the reading takes, are together of bulk at most 1048576: NARROWER than '..Said'. Prove '..Said' where nothing that the law and all that it calls make is longer than what came in: it says more and counts as full. Else prove '..UptoSaid'. A law counts once. -/
mutual
def uptoBulk {H : Type} : DataW H → Nat
  | .lit (.string bytes) => bytes.length + 1
  | .lit _ => 1
  | .nil => 1
  | .ptr d => uptoBulk d + 1
  | .slice elems spare => uptoBulkAll elems + uptoBulkAll spare + 1
  | .agg parts => uptoBulkAll parts + 1
  | .iface _ d => uptoBulk d + 1
  | .map entries => uptoBulkEntries entries + 1
  | .held _ => 1
def uptoBulkAll {H : Type} : List (DataW H) → Nat
  | [] => 0
  | d :: r => uptoBulk d + uptoBulkAll r
def uptoBulkEntries {H : Type} : List (Lit × DataW H) → Nat
  | [] => 0
  | x :: r => uptoBulkEntry x + uptoBulkEntries r
def uptoBulkEntry {H : Type} : Lit × DataW H → Nat
  | (.string bytes, d) => bytes.length + uptoBulk d + 1
  | (_, d) => uptoBulk d + 1
 end
def uptoSmall : (H : Type) → List (DataW H) → Bool := fun _ ds => decide (uptoBulkAll ds ≤ 1048576)
def OpenSpec.upto (s : _root_.Go.ChangeSpec) : _root_.Go.OpenSpec := { _root_.Go.OpenSpec.ofChange s with cond := some uptoSmall }

/-- 'prompterlaw27.RaftKnown', WHERE WHAT IT READS IS OF BULK AT MOST 1048576: true; the input reads as it did. -/
def raftKnownUptoRow : OpenClaim := { program := "ytjodglepaeomiaa", sum := "5d7fd7e38e1a227071c2cd99b29d409f49d65e5499f27d2ce165eb2f3f8a923d", func := "prompter/prompterlaw27.RaftKnown", spec := "raftKnown", unfollowed := true, recurses := true, apart := false, narrowed := true }
def RaftKnownUptoSaid : Prop := raftKnownUptoRow.holds Try.pinned (OpenSpec.upto raftKnownSpec)

/-- 'prompterlaw27.RaftSafe', WHERE WHAT IT READS IS OF BULK AT MOST 1048576: true; the input reads as it did. -/
def raftSafeUptoRow : OpenClaim := { program := "ytjodglepaeomiaa", sum := "5d7fd7e38e1a227071c2cd99b29d409f49d65e5499f27d2ce165eb2f3f8a923d", func := "prompter/prompterlaw27.RaftSafe", spec := "raftSafe", unfollowed := true, recurses := true, apart := false, narrowed := true }
def RaftSafeUptoSaid : Prop := raftSafeUptoRow.holds Try.pinned (OpenSpec.upto raftSafeSpec)

/-- 'prompterlaw27.RaftGoes', WHERE WHAT IT READS IS OF BULK AT MOST 1048576: true; the input reads as it did. -/
def raftGoesUptoRow : OpenClaim := { program := "ytjodglepaeomiaa", sum := "5d7fd7e38e1a227071c2cd99b29d409f49d65e5499f27d2ce165eb2f3f8a923d", func := "prompter/prompterlaw27.RaftGoes", spec := "raftGoes", unfollowed := true, recurses := true, apart := false, narrowed := true }
def RaftGoesUptoSaid : Prop := raftGoesUptoRow.holds Try.pinned (OpenSpec.upto raftGoesSpec)

/-- 'prompterlaw27.RaftSteps', WHERE WHAT IT READS IS OF BULK AT MOST 1048576: true; the input reads as it did. -/
def raftStepsUptoRow : OpenClaim := { program := "ytjodglepaeomiaa", sum := "5d7fd7e38e1a227071c2cd99b29d409f49d65e5499f27d2ce165eb2f3f8a923d", func := "prompter/prompterlaw27.RaftSteps", spec := "raftSteps", unfollowed := true, recurses := true, apart := false, narrowed := true }
def RaftStepsUptoSaid : Prop := raftStepsUptoRow.holds Try.pinned (OpenSpec.upto raftStepsSpec)

/-- 'prompterlaw27.RaftNobody', WHERE WHAT IT READS IS OF BULK AT MOST 1048576: true; the input reads as it did. -/
def raftNobodyUptoRow : OpenClaim := { program := "ytjodglepaeomiaa", sum := "5d7fd7e38e1a227071c2cd99b29d409f49d65e5499f27d2ce165eb2f3f8a923d", func := "prompter/prompterlaw27.RaftNobody", spec := "raftNobody", unfollowed := true, recurses := true, apart := false, narrowed := true }
def RaftNobodyUptoSaid : Prop := raftNobodyUptoRow.holds Try.pinned (OpenSpec.upto raftNobodySpec)

end Rows
end Go.Proofs.Ytjodglepaeomiaa
