/-
  No cell of these rows narrows 'for every input' (looked for: loops, veiled, ifaces, maps, wideKeys, modest, calm, conditions, laid).
  DERIVED. THE GIVEN ROWS OF THIS SEAT. 4 by the template 'for every input the law returns true; each argument reads behind the call as it read before'; 0 by the template 'total and deterministic' (their statements: YtnipmhidiiondaaTotals.lean).
  GIVEN WITH THE SEED: the statements are not yours to turn. If you find one false, say at which input.
  Laid BY PROGRAM, IN A SANDBOX (cutbox-rows.mjs): the forced cells as the released guide's own fill.sh prints them over the translation 9466076cf6817847… (all of the seat's roots in one cut). By AI agents, Wed Nov 11 2026. No macro, syntax, notation, axiom, sorry.
-/
import Derived.Test.YtnipmhidiiondaaChecked
import GoSem.Claim
import GoSem.ClaimJoined
import GoSem.ClaimMapViews
import Derived.JoinedTies
import Derived.KernelRfl
namespace Go.Proofs.Ytnipmhidiiondaa
/- THE CELL 'sum', in the pinned program and in every row, IS THE sha256 OF THE DUMP (.gsa) THAT YtnipmhidiiondaaProg.lean LOADS. Nothing in Lean hashes anything: it is a label: what it is worth is what the hold of that sum in a sandbox is worth. -/
noncomputable def Try.pinned : Pinned := { name := "ytnipmhidiiondaa", sum := "9466076cf6817847d436b0751b68420b7ad00918be92b87a90b7397f81420906", checked := Try.checked }
namespace Rows
def none {H : Type} : Left H := { results := [], args := [] }

/-- 'prompterlaw19.StickyWider': WHATEVER THE INPUT: true; the input reads as it did. -/
def stickyWiderSpec : ChangeSpec := { name := "stickyWider", fn := fun _ => fun
  | [d1, d2, d3] => { results := [.lit (.bool true)], args := [d1, d2, d3] }
  | _ => none }
def stickyWiderRow : OpenClaim := { program := "ytnipmhidiiondaa", sum := "9466076cf6817847d436b0751b68420b7ad00918be92b87a90b7397f81420906", func := "prompter/prompterlaw19.StickyWider", spec := "stickyWider", apart := false }
def StickyWiderSaid : Prop := stickyWiderRow.holds Try.pinned (OpenSpec.ofChange stickyWiderSpec)

/-- ITS FALSE NEIGHBOUR: 'it returns false'. Refute it at one input. -/
def stickyWiderWrong : ChangeSpec := { name := "stickyWider", fn := fun _ => fun
  | [d1, d2, d3] => { results := [.lit (.bool false)], args := [d1, d2, d3] }
  | _ => none }
def StickyWiderWrongFalsely : Prop := stickyWiderRow.holds Try.pinned (OpenSpec.ofChange stickyWiderWrong)

/-- 'prompterlaw19.StickyLast': WHATEVER THE INPUT: true; the input reads as it did. -/
def stickyLastSpec : ChangeSpec := { name := "stickyLast", fn := fun _ => fun
  | [d1, d2] => { results := [.lit (.bool true)], args := [d1, d2] }
  | _ => none }
def stickyLastRow : OpenClaim := { program := "ytnipmhidiiondaa", sum := "9466076cf6817847d436b0751b68420b7ad00918be92b87a90b7397f81420906", func := "prompter/prompterlaw19.StickyLast", spec := "stickyLast", apart := false }
def StickyLastSaid : Prop := stickyLastRow.holds Try.pinned (OpenSpec.ofChange stickyLastSpec)

/-- ITS FALSE NEIGHBOUR: 'it returns false'. Refute it at one input. -/
def stickyLastWrong : ChangeSpec := { name := "stickyLast", fn := fun _ => fun
  | [d1, d2] => { results := [.lit (.bool false)], args := [d1, d2] }
  | _ => none }
def StickyLastWrongFalsely : Prop := stickyLastRow.holds Try.pinned (OpenSpec.ofChange stickyLastWrong)

/-- 'prompterlaw19.StickyScript': WHATEVER THE INPUT: true; the input reads as it did. -/
def stickyScriptSpec : ChangeSpec := { name := "stickyScript", fn := fun _ => fun
  | [d1, d2] => { results := [.lit (.bool true)], args := [d1, d2] }
  | _ => none }
def stickyScriptRow : OpenClaim := { program := "ytnipmhidiiondaa", sum := "9466076cf6817847d436b0751b68420b7ad00918be92b87a90b7397f81420906", func := "prompter/prompterlaw19.StickyScript", spec := "stickyScript", apart := false }
def StickyScriptSaid : Prop := stickyScriptRow.holds Try.pinned (OpenSpec.ofChange stickyScriptSpec)

/-- ITS FALSE NEIGHBOUR: 'it returns false'. Refute it at one input. -/
def stickyScriptWrong : ChangeSpec := { name := "stickyScript", fn := fun _ => fun
  | [d1, d2] => { results := [.lit (.bool false)], args := [d1, d2] }
  | _ => none }
def StickyScriptWrongFalsely : Prop := stickyScriptRow.holds Try.pinned (OpenSpec.ofChange stickyScriptWrong)

/-- 'prompterlaw19.StickyNobody': WHATEVER THE INPUT: true; the input reads as it did. -/
def stickyNobodySpec : ChangeSpec := { name := "stickyNobody", fn := fun _ => fun
  | [d1, d2] => { results := [.lit (.bool true)], args := [d1, d2] }
  | _ => none }
def stickyNobodyRow : OpenClaim := { program := "ytnipmhidiiondaa", sum := "9466076cf6817847d436b0751b68420b7ad00918be92b87a90b7397f81420906", func := "prompter/prompterlaw19.StickyNobody", spec := "stickyNobody", apart := false }
def StickyNobodySaid : Prop := stickyNobodyRow.holds Try.pinned (OpenSpec.ofChange stickyNobodySpec)

/-- ITS FALSE NEIGHBOUR: 'it returns false'. Refute it at one input. -/
def stickyNobodyWrong : ChangeSpec := { name := "stickyNobody", fn := fun _ => fun
  | [d1, d2] => { results := [.lit (.bool false)], args := [d1, d2] }
  | _ => none }
def StickyNobodyWrongFalsely : Prop := stickyNobodyRow.holds Try.pinned (OpenSpec.ofChange stickyNobodyWrong)

/- THE SECOND FORM. 'bulk': how many values and letters a reading holds, each counted each time it is reached (what is shared counts as often as it is met; a slice's spare places count too). A statement '..UptoSaid' is the law's where the arguments, and the package variables that the reading takes, are together of bulk at most 1048576: NARROWER than '..Said'. Prove '..Said' where nothing that the law and all that it calls make is longer than what came in: it says more and counts as full. Else prove '..UptoSaid'. A law counts once. -/
mutual
def uptoBulk {H : Type} : DataW H → Nat
  | .lit (.string bytes) => bytes.length + 1
  | .lit _ => 1
  | .nil => 1
  | .ptr d => uptoBulk d + 1
  | .slice elems spare => uptoBulkAll elems + uptoBulkAll spare + 1
  | .agg parts => uptoBulkAll parts + 1
  | .iface _ d => uptoBulk d + 1
  | .map entries => uptoBulkEntries entries + 1
  | .held _ => 1
def uptoBulkAll {H : Type} : List (DataW H) → Nat
  | [] => 0
  | d :: r => uptoBulk d + uptoBulkAll r
def uptoBulkEntries {H : Type} : List (Lit × DataW H) → Nat
  | [] => 0
  | x :: r => uptoBulkEntry x + uptoBulkEntries r
def uptoBulkEntry {H : Type} : Lit × DataW H → Nat
  | (.string bytes, d) => bytes.length + uptoBulk d + 1
  | (_, d) => uptoBulk d + 1
 end
def uptoSmall : (H : Type) → List (DataW H) → Bool := fun _ ds => decide (uptoBulkAll ds ≤ 1048576)
def OpenSpec.upto (s : _root_.Go.ChangeSpec) : _root_.Go.OpenSpec := { _root_.Go.OpenSpec.ofChange s with cond := some uptoSmall }

/-- 'prompterlaw19.StickyWider', WHERE WHAT IT READS IS OF BULK AT MOST 1048576: true; the input reads as it did. -/
def stickyWiderUptoRow : OpenClaim := { program := "ytnipmhidiiondaa", sum := "9466076cf6817847d436b0751b68420b7ad00918be92b87a90b7397f81420906", func := "prompter/prompterlaw19.StickyWider", spec := "stickyWider", apart := false, narrowed := true }
def StickyWiderUptoSaid : Prop := stickyWiderUptoRow.holds Try.pinned (OpenSpec.upto stickyWiderSpec)

/-- 'prompterlaw19.StickyLast', WHERE WHAT IT READS IS OF BULK AT MOST 1048576: true; the input reads as it did. -/
def stickyLastUptoRow : OpenClaim := { program := "ytnipmhidiiondaa", sum := "9466076cf6817847d436b0751b68420b7ad00918be92b87a90b7397f81420906", func := "prompter/prompterlaw19.StickyLast", spec := "stickyLast", apart := false, narrowed := true }
def StickyLastUptoSaid : Prop := stickyLastUptoRow.holds Try.pinned (OpenSpec.upto stickyLastSpec)

/-- 'prompterlaw19.StickyScript', WHERE WHAT IT READS IS OF BULK AT MOST 1048576: true; the input reads as it did. -/
def stickyScriptUptoRow : OpenClaim := { program := "ytnipmhidiiondaa", sum := "9466076cf6817847d436b0751b68420b7ad00918be92b87a90b7397f81420906", func := "prompter/prompterlaw19.StickyScript", spec := "stickyScript", apart := false, narrowed := true }
def StickyScriptUptoSaid : Prop := stickyScriptUptoRow.holds Try.pinned (OpenSpec.upto stickyScriptSpec)

/-- 'prompterlaw19.StickyNobody', WHERE WHAT IT READS IS OF BULK AT MOST 1048576: true; the input reads as it did. -/
def stickyNobodyUptoRow : OpenClaim := { program := "ytnipmhidiiondaa", sum := "9466076cf6817847d436b0751b68420b7ad00918be92b87a90b7397f81420906", func := "prompter/prompterlaw19.StickyNobody", spec := "stickyNobody", apart := false, narrowed := true }
def StickyNobodyUptoSaid : Prop := stickyNobodyUptoRow.holds Try.pinned (OpenSpec.upto stickyNobodySpec)

end Rows
end Go.Proofs.Ytnipmhidiiondaa
