/-
  No cell of these rows narrows 'for every input' (looked for: loops, veiled, ifaces, maps, wideKeys, modest, calm, conditions, laid).
  DERIVED. THE GIVEN ROWS OF THIS SEAT. 6 by the template 'for every input the law returns true; each argument reads behind the call as it read before'; 0 by the template 'total and deterministic' (their statements: YticcicdbncmfbaaTotals.lean).
  GIVEN WITH THE SEED: the statements are not yours to turn. If you find one false, say at which input.
  Laid BY PROGRAM, IN A SANDBOX (cutbox-rows.mjs): the forced cells as the released guide's own fill.sh prints them over the translation 5be5ee9ed5be1b22… (all of the seat's roots in one cut). By AI agents, Wed Nov 11 2026. No macro, syntax, notation, axiom, sorry.
-/
import Derived.Test.YticcicdbncmfbaaChecked
import GoSem.Claim
import GoSem.ClaimJoined
import GoSem.ClaimMapViews
import Derived.JoinedTies
import Derived.KernelRfl
namespace Go.Proofs.Yticcicdbncmfbaa
/- THE CELL 'sum', in the pinned program and in every row, IS THE sha256 OF THE DUMP (.gsa) THAT YticcicdbncmfbaaProg.lean LOADS. Nothing in Lean hashes anything: it is a label: what it is worth is what the hold of that sum in a sandbox is worth. -/
noncomputable def Try.pinned : Pinned := { name := "yticcicdbncmfbaa", sum := "5be5ee9ed5be1b2233229c52dfaf3128a83fcc4d1b7e240e0b3ba0191666841d", checked := Try.checked }
namespace Rows
def none {H : Type} : Left H := { results := [], args := [] }

/-- 'prompterlaw20.RetryWaits': WHATEVER THE INPUT: true; the input reads as it did. -/
def retryWaitsSpec : ChangeSpec := { name := "retryWaits", fn := fun _ => fun
  | [d1, d2] => { results := [.lit (.bool true)], args := [d1, d2] }
  | _ => none }
def retryWaitsRow : OpenClaim := { program := "yticcicdbncmfbaa", sum := "5be5ee9ed5be1b2233229c52dfaf3128a83fcc4d1b7e240e0b3ba0191666841d", func := "prompter/prompterlaw20.RetryWaits", spec := "retryWaits", unfollowed := true, recurses := true, apart := false }
def RetryWaitsSaid : Prop := retryWaitsRow.holds Try.pinned (OpenSpec.ofChange retryWaitsSpec)

/-- ITS FALSE NEIGHBOUR: 'it returns false'. Refute it at one input. -/
def retryWaitsWrong : ChangeSpec := { name := "retryWaits", fn := fun _ => fun
  | [d1, d2] => { results := [.lit (.bool false)], args := [d1, d2] }
  | _ => none }
def RetryWaitsWrongFalsely : Prop := retryWaitsRow.holds Try.pinned (OpenSpec.ofChange retryWaitsWrong)

/-- 'prompterlaw20.RetryDrawn': WHATEVER THE INPUT: true; the input reads as it did. -/
def retryDrawnSpec : ChangeSpec := { name := "retryDrawn", fn := fun _ => fun
  | [d1, d2, d3] => { results := [.lit (.bool true)], args := [d1, d2, d3] }
  | _ => none }
def retryDrawnRow : OpenClaim := { program := "yticcicdbncmfbaa", sum := "5be5ee9ed5be1b2233229c52dfaf3128a83fcc4d1b7e240e0b3ba0191666841d", func := "prompter/prompterlaw20.RetryDrawn", spec := "retryDrawn", unfollowed := true, recurses := true, named := ["math/bits.divideError", "math/bits.overflowError"], apart := false }
def RetryDrawnSaid : Prop := retryDrawnRow.holds Try.pinned (OpenSpec.ofChange retryDrawnSpec)

/-- ITS FALSE NEIGHBOUR: 'it returns false'. Refute it at one input. -/
def retryDrawnWrong : ChangeSpec := { name := "retryDrawn", fn := fun _ => fun
  | [d1, d2, d3] => { results := [.lit (.bool false)], args := [d1, d2, d3] }
  | _ => none }
def RetryDrawnWrongFalsely : Prop := retryDrawnRow.holds Try.pinned (OpenSpec.ofChange retryDrawnWrong)

/-- 'prompterlaw20.RetryRises': WHATEVER THE INPUT: true; the input reads as it did. -/
def retryRisesSpec : ChangeSpec := { name := "retryRises", fn := fun _ => fun
  | [d1, d2, d3, d4] => { results := [.lit (.bool true)], args := [d1, d2, d3, d4] }
  | _ => none }
def retryRisesRow : OpenClaim := { program := "yticcicdbncmfbaa", sum := "5be5ee9ed5be1b2233229c52dfaf3128a83fcc4d1b7e240e0b3ba0191666841d", func := "prompter/prompterlaw20.RetryRises", spec := "retryRises", unfollowed := true, recurses := true, named := ["math/bits.divideError", "math/bits.overflowError"], apart := false }
def RetryRisesSaid : Prop := retryRisesRow.holds Try.pinned (OpenSpec.ofChange retryRisesSpec)

/-- ITS FALSE NEIGHBOUR: 'it returns false'. Refute it at one input. -/
def retryRisesWrong : ChangeSpec := { name := "retryRises", fn := fun _ => fun
  | [d1, d2, d3, d4] => { results := [.lit (.bool false)], args := [d1, d2, d3, d4] }
  | _ => none }
def RetryRisesWrongFalsely : Prop := retryRisesRow.holds Try.pinned (OpenSpec.ofChange retryRisesWrong)

/-- 'prompterlaw20.RetryNext': WHATEVER THE INPUT: true; the input reads as it did. -/
def retryNextSpec : ChangeSpec := { name := "retryNext", fn := fun _ => fun
  | [d1, d2, d3, d4] => { results := [.lit (.bool true)], args := [d1, d2, d3, d4] }
  | _ => none }
def retryNextRow : OpenClaim := { program := "yticcicdbncmfbaa", sum := "5be5ee9ed5be1b2233229c52dfaf3128a83fcc4d1b7e240e0b3ba0191666841d", func := "prompter/prompterlaw20.RetryNext", spec := "retryNext", unfollowed := true, recurses := true, named := ["math/bits.divideError", "math/bits.overflowError"], apart := false }
def RetryNextSaid : Prop := retryNextRow.holds Try.pinned (OpenSpec.ofChange retryNextSpec)

/-- ITS FALSE NEIGHBOUR: 'it returns false'. Refute it at one input. -/
def retryNextWrong : ChangeSpec := { name := "retryNext", fn := fun _ => fun
  | [d1, d2, d3, d4] => { results := [.lit (.bool false)], args := [d1, d2, d3, d4] }
  | _ => none }
def RetryNextWrongFalsely : Prop := retryNextRow.holds Try.pinned (OpenSpec.ofChange retryNextWrong)

/-- 'prompterlaw20.RetryKnown': WHATEVER THE INPUT: true; the input reads as it did. -/
def retryKnownSpec : ChangeSpec := { name := "retryKnown", fn := fun _ => fun
  | [] => { results := [.lit (.bool true)], args := [] }
  | _ => none }
def retryKnownRow : OpenClaim := { program := "yticcicdbncmfbaa", sum := "5be5ee9ed5be1b2233229c52dfaf3128a83fcc4d1b7e240e0b3ba0191666841d", func := "prompter/prompterlaw20.RetryKnown", spec := "retryKnown", unfollowed := true, recurses := true, named := ["math/bits.divideError", "math/bits.overflowError"], apart := false }
def RetryKnownSaid : Prop := retryKnownRow.holds Try.pinned (OpenSpec.ofChange retryKnownSpec)

/-- ITS FALSE NEIGHBOUR: 'it returns false'. Refute it at one input. -/
def retryKnownWrong : ChangeSpec := { name := "retryKnown", fn := fun _ => fun
  | [] => { results := [.lit (.bool false)], args := [] }
  | _ => none }
def RetryKnownWrongFalsely : Prop := retryKnownRow.holds Try.pinned (OpenSpec.ofChange retryKnownWrong)

/-- 'prompterlaw20.RetryEnds': WHATEVER THE INPUT: true; the input reads as it did. -/
def retryEndsSpec : ChangeSpec := { name := "retryEnds", fn := fun _ => fun
  | [d1, d2, d3] => { results := [.lit (.bool true)], args := [d1, d2, d3] }
  | _ => none }
def retryEndsRow : OpenClaim := { program := "yticcicdbncmfbaa", sum := "5be5ee9ed5be1b2233229c52dfaf3128a83fcc4d1b7e240e0b3ba0191666841d", func := "prompter/prompterlaw20.RetryEnds", spec := "retryEnds", unfollowed := true, recurses := true, named := ["math/bits.divideError", "math/bits.overflowError"], apart := false }
def RetryEndsSaid : Prop := retryEndsRow.holds Try.pinned (OpenSpec.ofChange retryEndsSpec)

/-- ITS FALSE NEIGHBOUR: 'it returns false'. Refute it at one input. -/
def retryEndsWrong : ChangeSpec := { name := "retryEnds", fn := fun _ => fun
  | [d1, d2, d3] => { results := [.lit (.bool false)], args := [d1, d2, d3] }
  | _ => none }
def RetryEndsWrongFalsely : Prop := retryEndsRow.holds Try.pinned (OpenSpec.ofChange retryEndsWrong)

/- THE SECOND FORM. 'bulk': how many values and letters a reading holds, each counted each time it is reached (what is shared counts as often as it is met; a slice's spare places count too). A statement '..UptoSaid' is the law's where the arguments, and the package variables that the reading takes, are together of bulk at most 1048576: NARROWER than '..Said'. Prove '..Said' where nothing that the law and all that it calls make is longer than what came in: it says more and counts as full. Else prove '..UptoSaid'. A law counts once. -/
mutual
def uptoBulk {H : Type} : DataW H → Nat
  | .lit (.string bytes) => bytes.length + 1
  | .lit _ => 1
  | .nil => 1
  | .ptr d => uptoBulk d + 1
  | .slice elems spare => uptoBulkAll elems + uptoBulkAll spare + 1
  | .agg parts => uptoBulkAll parts + 1
  | .iface _ d => uptoBulk d + 1
  | .map entries => uptoBulkEntries entries + 1
  | .held _ => 1
def uptoBulkAll {H : Type} : List (DataW H) → Nat
  | [] => 0
  | d :: r => uptoBulk d + uptoBulkAll r
def uptoBulkEntries {H : Type} : List (Lit × DataW H) → Nat
  | [] => 0
  | x :: r => uptoBulkEntry x + uptoBulkEntries r
def uptoBulkEntry {H : Type} : Lit × DataW H → Nat
  | (.string bytes, d) => bytes.length + uptoBulk d + 1
  | (_, d) => uptoBulk d + 1
 end
def uptoSmall : (H : Type) → List (DataW H) → Bool := fun _ ds => decide (uptoBulkAll ds ≤ 1048576)
def OpenSpec.upto (s : _root_.Go.ChangeSpec) : _root_.Go.OpenSpec := { _root_.Go.OpenSpec.ofChange s with cond := some uptoSmall }

/-- 'prompterlaw20.RetryWaits', WHERE WHAT IT READS IS OF BULK AT MOST 1048576: true; the input reads as it did. -/
def retryWaitsUptoRow : OpenClaim := { program := "yticcicdbncmfbaa", sum := "5be5ee9ed5be1b2233229c52dfaf3128a83fcc4d1b7e240e0b3ba0191666841d", func := "prompter/prompterlaw20.RetryWaits", spec := "retryWaits", unfollowed := true, recurses := true, apart := false, narrowed := true }
def RetryWaitsUptoSaid : Prop := retryWaitsUptoRow.holds Try.pinned (OpenSpec.upto retryWaitsSpec)

/-- 'prompterlaw20.RetryDrawn', WHERE WHAT IT READS IS OF BULK AT MOST 1048576: true; the input reads as it did. -/
def retryDrawnUptoRow : OpenClaim := { program := "yticcicdbncmfbaa", sum := "5be5ee9ed5be1b2233229c52dfaf3128a83fcc4d1b7e240e0b3ba0191666841d", func := "prompter/prompterlaw20.RetryDrawn", spec := "retryDrawn", unfollowed := true, recurses := true, named := ["math/bits.divideError", "math/bits.overflowError"], apart := false, narrowed := true }
def RetryDrawnUptoSaid : Prop := retryDrawnUptoRow.holds Try.pinned (OpenSpec.upto retryDrawnSpec)

/-- 'prompterlaw20.RetryRises', WHERE WHAT IT READS IS OF BULK AT MOST 1048576: true; the input reads as it did. -/
def retryRisesUptoRow : OpenClaim := { program := "yticcicdbncmfbaa", sum := "5be5ee9ed5be1b2233229c52dfaf3128a83fcc4d1b7e240e0b3ba0191666841d", func := "prompter/prompterlaw20.RetryRises", spec := "retryRises", unfollowed := true, recurses := true, named := ["math/bits.divideError", "math/bits.overflowError"], apart := false, narrowed := true }
def RetryRisesUptoSaid : Prop := retryRisesUptoRow.holds Try.pinned (OpenSpec.upto retryRisesSpec)

/-- 'prompterlaw20.RetryNext', WHERE WHAT IT READS IS OF BULK AT MOST 1048576: true; the input reads as it did. -/
def retryNextUptoRow : OpenClaim := { program := "yticcicdbncmfbaa", sum := "5be5ee9ed5be1b2233229c52dfaf3128a83fcc4d1b7e240e0b3ba0191666841d", func := "prompter/prompterlaw20.RetryNext", spec := "retryNext", unfollowed := true, recurses := true, named := ["math/bits.divideError", "math/bits.overflowError"], apart := false, narrowed := true }
def RetryNextUptoSaid : Prop := retryNextUptoRow.holds Try.pinned (OpenSpec.upto retryNextSpec)

/-- 'prompterlaw20.RetryKnown', WHERE WHAT IT READS IS OF BULK AT MOST 1048576: true; the input reads as it did. -/
def retryKnownUptoRow : OpenClaim := { program := "yticcicdbncmfbaa", sum := "5be5ee9ed5be1b2233229c52dfaf3128a83fcc4d1b7e240e0b3ba0191666841d", func := "prompter/prompterlaw20.RetryKnown", spec := "retryKnown", unfollowed := true, recurses := true, named := ["math/bits.divideError", "math/bits.overflowError"], apart := false, narrowed := true }
def RetryKnownUptoSaid : Prop := retryKnownUptoRow.holds Try.pinned (OpenSpec.upto retryKnownSpec)

/-- 'prompterlaw20.RetryEnds', WHERE WHAT IT READS IS OF BULK AT MOST 1048576: true; the input reads as it did. -/
def retryEndsUptoRow : OpenClaim := { program := "yticcicdbncmfbaa", sum := "5be5ee9ed5be1b2233229c52dfaf3128a83fcc4d1b7e240e0b3ba0191666841d", func := "prompter/prompterlaw20.RetryEnds", spec := "retryEnds", unfollowed := true, recurses := true, named := ["math/bits.divideError", "math/bits.overflowError"], apart := false, narrowed := true }
def RetryEndsUptoSaid : Prop := retryEndsUptoRow.holds Try.pinned (OpenSpec.upto retryEndsSpec)

end Rows
end Go.Proofs.Yticcicdbncmfbaa
