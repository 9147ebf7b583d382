/-
  DERIVED. GIVEN WITH THE SEED: THE CARDS: each row of YtlfkiaphmifelaaDoorRows.lean that lists a variable, with what it lists TIED to the program's text (the seventh form; the later family's looks); each row that meets fmt, with fmt's text TOLD by the authors' own Lean function (tested against real Go, not proved from fmt's source: count such statements apart). THE CARD IS WHAT COUNTS. Prove the row's statement (the work); the ties are given (YtlfkiaphmifelaaDoorTie.lean); close each card by the builder's one call (the guide's Derived/Test/ToyasCard.lean, 'card_holds'). Laid BY PROGRAM, IN A SANDBOX (cutbox-door.mjs). By AI agents, Wed Nov 11 2026. No macro, syntax, notation, axiom, sorry.
-/
import Derived.Test.YtlfkiaphmifelaaDoorRows
import GoSem.ClaimSeven
namespace Go.Proofs.YtlfkiaphmifelaaDoor
namespace Rows

/-- THE TIED CARD OF 'prompterlaw07.TokenSpells'. -/
def tokenSpellsCard : Claim7 := { stood := { row := tokenSpellsRow, standIns := [], harness := (true, "0e2a908d1f0391778720009256d37ea104984ad96ee73cbe76a8f5ae179dd02a"), looks := false }, kinds := [], alts := [], laidByText := true, laidKinds := [.data, .data, .data], laidTests := true, laidLooks := .later }
def TokenSpellsCardSaid : Prop := Claim7.holds Tryd.pinned (.plain (OpenSpec.ofChange tokenSpellsSpec)) tokenSpellsCard

/-- THE TIED CARD OF 'prompterlaw07.TokenBack'. -/
def tokenBackCard : Claim7 := { stood := { row := tokenBackRow, standIns := [], harness := (true, "0e2a908d1f0391778720009256d37ea104984ad96ee73cbe76a8f5ae179dd02a"), looks := false }, kinds := [], alts := [], laidByText := true, laidKinds := [.data, .data, .data], laidTests := true, laidLooks := .later }
def TokenBackCardSaid : Prop := Claim7.holds Tryd.pinned (.plain (OpenSpec.ofChange tokenBackSpec)) tokenBackCard

/-- THE SECOND FORM's CARD OF 'prompterlaw07.TokenSpells'. -/
def tokenSpellsUptoCard : Claim7 := { stood := { row := tokenSpellsUptoRow, standIns := [], harness := (true, "0e2a908d1f0391778720009256d37ea104984ad96ee73cbe76a8f5ae179dd02a"), looks := false }, kinds := [], alts := [], laidByText := true, laidKinds := [.data, .data, .data], laidTests := true, laidLooks := .later }
def TokenSpellsUptoCardSaid : Prop := Claim7.holds Tryd.pinned (.plain (OpenSpec.upto tokenSpellsSpec)) tokenSpellsUptoCard

/-- THE SECOND FORM's CARD OF 'prompterlaw07.TokenBack'. -/
def tokenBackUptoCard : Claim7 := { stood := { row := tokenBackUptoRow, standIns := [], harness := (true, "0e2a908d1f0391778720009256d37ea104984ad96ee73cbe76a8f5ae179dd02a"), looks := false }, kinds := [], alts := [], laidByText := true, laidKinds := [.data, .data, .data], laidTests := true, laidLooks := .later }
def TokenBackUptoCardSaid : Prop := Claim7.holds Tryd.pinned (.plain (OpenSpec.upto tokenBackSpec)) tokenBackUptoCard
end Rows
end Go.Proofs.YtlfkiaphmifelaaDoor
