/- The laws' Copied. -/
import Derived.Test.YtpdofcjgpomehaaRck
namespace Go.Proofs.Ytpdofcjgpomehaa
open Go.RowKit

set_option maxRecDepth 100000 in
set_option maxHeartbeats 8000000 in
/-- 'append(Tree{}, t...)': a tree in new memory. -/
theorem copied_any (A : Option Addr) (c : Nat) (l : List Tw) (w : World) (hrd : RdW w A l) (hlen : l.length ≤ 100000) :
    Calls Try.prog 13 #[.slice A l.length c] w fun e w' => (∃ A' c', e = .returned (.slice A' l.length c') ∧ w'.ownsRow w.heap.size 33 4 (.slice A' l.length c') l.length (wcells l)) ∧ Below w.heap.size w w' := by
  have HB0 := Lib.hid ((Below.refl w.heap.size w).alloc (Nat.le_refl _) (.cells #[] 33))
  have HRD := Lib.hid (hrd.below HB0.out).reads
  have HO0 : Hid ((w.alloc (.cells #[] 33)).ownsRow w.heap.size 33 4 (.slice (some ⟨w.heap.size, 0, none⟩) 0 0) 0 (wcells [])) := ⟨rfl, .inr ⟨w.heap.size, 0, _, rfl, Nat.le_refl _, heap_alloc_new w _, Nat.le_refl _, by decide, rfl, rfl⟩⟩
  obtain ⟨n, hn⟩ : ∃ n, n = l.length := ⟨_, rfl⟩
  rw [← hn] at HRD hlen ⊢
  clear hrd hn
  go_enter Try.func13, Try.ntmps13
  go_wp2_with (at_builtin; go_loud (refine wpList_app_twigs rfl (.tmp 3) (.tmp 4) rfl w.heap.size 0 n 0 c _ (some ⟨w.heap.size, 0, none⟩) A [] l rfl HO0.out rfl HRD.out (by omega) HB0.out.size ?_; intro A4 c4 w6 ho6 hg6; have H6 := Lib.hid (And.intro ho6 (HB0.out.grown hg6 HB0.out.size (fun r hr => (World.ownsRow.lt HO0.out r hr).1))); clear ho6 hg6))
  go_ret
  exact ⟨⟨A4, c4, rfl, by have h := H6.out.1; rw [Nat.zero_add] at h; exact h⟩, H6.out.2⟩
end Go.Proofs.Ytpdofcjgpomehaa
