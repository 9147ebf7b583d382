/-
  DERIVED. GIVEN WITH THE SEED: THE CARDS: each row of YtbcadlocldplfaaDoorRows.lean that lists a variable, with what it lists TIED to the program's text (the seventh form; the later family's looks); each row that meets fmt, with fmt's text TOLD by the authors' own Lean function (tested against real Go, not proved from fmt's source: count such statements apart). THE CARD IS WHAT COUNTS. Prove the row's statement (the work); the ties are given (YtbcadlocldplfaaDoorTie.lean); close each card by the builder's one call (the guide's Derived/Test/ToyasCard.lean, 'card_holds'). Laid BY PROGRAM, IN A SANDBOX (cutbox-door.mjs). By AI agents, Wed Nov 11 2026. No macro, syntax, notation, axiom, sorry.
-/
import Derived.Test.YtbcadlocldplfaaDoorRows
import GoSem.ClaimSeven
namespace Go.Proofs.YtbcadlocldplfaaDoor
namespace Rows

/-- THE TIED CARD OF 'prompterlaw10.ShowTree'. -/
def showTreeCard : Claim7 := { stood := { row := showTreeRow, standIns := [], harness := (true, "b8312ab22eee39806a409a588ee9e32fa20c3fe6820522a7e7118668624f7f32"), looks := true }, kinds := [], alts := [], laidByText := true, laidKinds := [.data, .data, .data], laidTests := true, laidLooks := .later }
def ShowTreeCardSaid : Prop := Claim7.holds Tryd.pinned (.plain (OpenSpec.ofChange showTreeSpec)) showTreeCard

/-- THE TIED CARD OF 'prompterlaw10.ShowTokens'. -/
def showTokensCard : Claim7 := { stood := { row := showTokensRow, standIns := [], harness := (true, "b8312ab22eee39806a409a588ee9e32fa20c3fe6820522a7e7118668624f7f32"), looks := true }, kinds := [], alts := [], laidByText := true, laidKinds := [.data, .data, .data], laidTests := true, laidLooks := .later }
def ShowTokensCardSaid : Prop := Claim7.holds Tryd.pinned (.plain (OpenSpec.ofChange showTokensSpec)) showTokensCard

/-- THE TIED CARD OF 'prompterlaw09.ParseRight'. -/
def parseRightCard : Claim7 := { stood := { row := parseRightRow, standIns := [], harness := (true, "b8312ab22eee39806a409a588ee9e32fa20c3fe6820522a7e7118668624f7f32"), looks := true }, kinds := [], alts := [], laidByText := true, laidKinds := [.data, .data, .data], laidTests := true, laidLooks := .later }
def ParseRightCardSaid : Prop := Claim7.holds Tryd.pinned (.plain (OpenSpec.ofChange parseRightSpec)) parseRightCard

/-- THE TIED CARD OF 'prompterlaw10.ShowBack'. -/
def showBackCard : Claim7 := { stood := { row := showBackRow, standIns := [], harness := (true, "b8312ab22eee39806a409a588ee9e32fa20c3fe6820522a7e7118668624f7f32"), looks := true }, kinds := [], alts := [], laidByText := true, laidKinds := [.data, .data, .data], laidTests := true, laidLooks := .later }
def ShowBackCardSaid : Prop := Claim7.holds Tryd.pinned (.plain (OpenSpec.ofChange showBackSpec)) showBackCard

/-- THE TIED CARD OF 'prompterlaw10.ShowLeast'. -/
def showLeastCard : Claim7 := { stood := { row := showLeastRow, standIns := [], harness := (true, "b8312ab22eee39806a409a588ee9e32fa20c3fe6820522a7e7118668624f7f32"), looks := true }, kinds := [], alts := [], laidByText := true, laidKinds := [.data, .data, .data], laidTests := true, laidLooks := .later }
def ShowLeastCardSaid : Prop := Claim7.holds Tryd.pinned (.plain (OpenSpec.ofChange showLeastSpec)) showLeastCard

/-- THE SECOND FORM's CARD OF 'prompterlaw10.ShowTree'. -/
def showTreeUptoCard : Claim7 := { stood := { row := showTreeUptoRow, standIns := [], harness := (true, "b8312ab22eee39806a409a588ee9e32fa20c3fe6820522a7e7118668624f7f32"), looks := true }, kinds := [], alts := [], laidByText := true, laidKinds := [.data, .data, .data], laidTests := true, laidLooks := .later }
def ShowTreeUptoCardSaid : Prop := Claim7.holds Tryd.pinned (.plain (OpenSpec.upto showTreeSpec)) showTreeUptoCard

/-- THE SECOND FORM's CARD OF 'prompterlaw10.ShowTokens'. -/
def showTokensUptoCard : Claim7 := { stood := { row := showTokensUptoRow, standIns := [], harness := (true, "b8312ab22eee39806a409a588ee9e32fa20c3fe6820522a7e7118668624f7f32"), looks := true }, kinds := [], alts := [], laidByText := true, laidKinds := [.data, .data, .data], laidTests := true, laidLooks := .later }
def ShowTokensUptoCardSaid : Prop := Claim7.holds Tryd.pinned (.plain (OpenSpec.upto showTokensSpec)) showTokensUptoCard

/-- THE SECOND FORM's CARD OF 'prompterlaw09.ParseRight'. -/
def parseRightUptoCard : Claim7 := { stood := { row := parseRightUptoRow, standIns := [], harness := (true, "b8312ab22eee39806a409a588ee9e32fa20c3fe6820522a7e7118668624f7f32"), looks := true }, kinds := [], alts := [], laidByText := true, laidKinds := [.data, .data, .data], laidTests := true, laidLooks := .later }
def ParseRightUptoCardSaid : Prop := Claim7.holds Tryd.pinned (.plain (OpenSpec.upto parseRightSpec)) parseRightUptoCard

/-- THE SECOND FORM's CARD OF 'prompterlaw10.ShowBack'. -/
def showBackUptoCard : Claim7 := { stood := { row := showBackUptoRow, standIns := [], harness := (true, "b8312ab22eee39806a409a588ee9e32fa20c3fe6820522a7e7118668624f7f32"), looks := true }, kinds := [], alts := [], laidByText := true, laidKinds := [.data, .data, .data], laidTests := true, laidLooks := .later }
def ShowBackUptoCardSaid : Prop := Claim7.holds Tryd.pinned (.plain (OpenSpec.upto showBackSpec)) showBackUptoCard

/-- THE SECOND FORM's CARD OF 'prompterlaw10.ShowLeast'. -/
def showLeastUptoCard : Claim7 := { stood := { row := showLeastUptoRow, standIns := [], harness := (true, "b8312ab22eee39806a409a588ee9e32fa20c3fe6820522a7e7118668624f7f32"), looks := true }, kinds := [], alts := [], laidByText := true, laidKinds := [.data, .data, .data], laidTests := true, laidLooks := .later }
def ShowLeastUptoCardSaid : Prop := Claim7.holds Tryd.pinned (.plain (OpenSpec.upto showLeastSpec)) showLeastUptoCard
end Rows
end Go.Proofs.YtbcadlocldplfaaDoor
