/- Contract of the document's fine. -/
import Derived.Test.YtpdofcjgpomehaaRf1
import Derived.Test.YtpdofcjgpomehaaRf2
import Derived.Test.YtpdofcjgpomehaaRf3
import Derived.Test.YtpdofcjgpomehaaRf4
namespace Go.Proofs.Ytpdofcjgpomehaa
open Go.RowKit

theorem refFine_any (x : Tw) (w : World) (hx : TwOk x) : Calls Try.prog 31 #[.agg (twCells x)] w fun e w' => e = .returned (.bool (fineB x (fun _ => true))) ∧ Below w.heap.size w w' := by
  cases he : exprB x.op
  · cases hs : stmtB x.op
    · by_cases h3 : 1 ≤ x.op ∧ x.op ≤ 3
      · exact refFine_3 x w hx he hs h3
      · exact refFine_4 x w hx he hs h3
    · exact refFine_2 x w hx he hs
  · exact refFine_1 x w hx he
end Go.Proofs.Ytpdofcjgpomehaa
