/- Contract of token.Keyword: it says whether a text stands in the list of words. No conditions. -/
import Derived.Test.YtpdofcjgpomehaaChecked
import Derived.WalkKit
import Derived.WalkLawsBesides
import Derived.WalkSpells
namespace Go.Proofs.Ytpdofcjgpomehaa
open Go.RowKit

def kwords : List (List UInt8) := [[102, 108, 111, 119], [108, 101, 116], [105, 102], [101, 108, 115, 101], [119, 104, 105, 108, 101], [114, 101, 116, 117, 114, 110], [102, 97, 105, 108], [115, 108, 101, 101, 112], [100, 111], [110, 111, 110, 101], [116, 114, 117, 101], [102, 97, 108, 115, 101], [111, 114], [97, 110, 100], [110, 111, 116], [108, 101, 110], [110, 117, 109], [114, 101], [105, 109], [99, 111, 110, 106], [99, 97, 108, 108], [99, 104, 105, 108, 100], [116, 105, 109, 101, 114], [102, 111, 114, 107], [97, 119, 97, 105, 116], [115, 101, 116, 116, 108, 101], [116, 97, 107, 101], [118, 101, 114, 115, 105, 111, 110]]

def kw (s : List UInt8) : Bool := kwords.contains s

theorem kw_of (s : List UInt8) {x : List UInt8} (h : (s == x) = true) (hx : kwords.contains x = true) : kw s = true := by
  have : s = x := by simpa using h
  subst this; exact hx

set_option maxHeartbeats 800000 in
theorem keyword_any (s : ByteArray) (w : World) :
    Calls Try.prog 47 #[.string s] w fun e w' => e = .returned (.bool (kw s.toList)) ∧ w = w' := by
  go_enter Try.func47, Try.ntmps47
  go_wp2
  all_goals first | (exfalso; simp_all; done) | skip
  all_goals go_ret
  all_goals first | (rw [kw_of _ (by assumption) (by decide)]; exact ⟨rfl, rfl⟩) | skip
  all_goals
    have hk : kw s.toList = false := by
      simp only [kw, kwords, List.contains, List.elem, *]
    rw [hk]; exact ⟨rfl, rfl⟩
end Go.Proofs.Ytpdofcjgpomehaa
