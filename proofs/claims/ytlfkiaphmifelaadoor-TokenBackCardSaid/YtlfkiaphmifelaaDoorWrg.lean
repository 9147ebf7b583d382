/- Contract of the document's wrong. -/
import Derived.Test.YtlfkiaphmifelaaDoorRlo
namespace Go.Proofs.YtlfkiaphmifelaaDoor
open Go.RowKit

def toldV (t : Tok) (e q er : Nat) : Value := .agg #[.int .u8 (t.kind : Nat), .string ⟨t.text.toArray⟩, .int .i64 (t.int : Nat), .int .i64 (t.place : Nat), .int .i64 (e : Nat), .int .i64 (q : Nat), .int .i64 (er : Nat)]
/-- A 'Told': a token and where it ends; or where it goes wrong, and how. -/
def told : (Nat × Nat) ⊕ (Tok × Nat) → Value
  | .inl (q, er) => toldV ⟨0, [], 0, 0⟩ 0 q er
  | .inr (t, e) => toldV t e 0 0
def ToldPost (w : World) (r : (Nat × Nat) ⊕ (Tok × Nat)) (e : Ending) (w' : World) : Prop := e = .returned (told r) ∧ Below w.heap.size w w'

theorem wrong_any (q e : Nat) (w : World) : Calls Tryd.prog 40 #[.int .i64 (q : Nat), .int .i64 (e : Nat)] w (ToldPost w (.inl (q, e))) := by
  go_enter Tryd.func40, Tryd.ntmps40
  go_wp2_with fail
  refine bodyPost_ret (results_cell_row rfl _ _ w.heap.size 61 _ (0, 0) _ rfl (Blk.new w 61 _) Tryd.underlying61 rfl (by kernel_rfl)) rfl ⟨rfl, (Below.refl _ _).alloc (Nat.le_refl _) _⟩
theorem extract_cut (s : List UInt8) (i e : Nat) : (⟨s.toArray⟩ : ByteArray).extract i e = ⟨(cutL s i e).toArray⟩ := by
  apply ByteArray.ext
  rw [ByteArray.data_extract]
  unfold cutL
  simp [List.drop_take]
end Go.Proofs.YtlfkiaphmifelaaDoor
