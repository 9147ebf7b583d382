/- Contract of the closure that says what a part may be. -/
import Derived.Outline
import Derived.Laws.EntriesVeiled
import Derived.Test.YtpdofcjgpomehaaWkp
namespace Go.Proofs.Ytpdofcjgpomehaa
open Go.RowKit

abbrev formCells (f : Form) : Array Value := #[fv f.txt, .int .i64 (f.least : Nat), .int .i64 (f.most : Nat), fv f.prt]
abbrev twCells (x : Tw) : Array Value := #[.int .u8 (x.op : Nat), .int .i64 x.kids, .int .i64 x.int, .string x.text]
theorem may_part (w : World) (bf bi bx : Nat) (f : Form) (i n : Nat) (x : Tw) (hf : formOf x.op = some f) (h1 : Blk w bf 51 (formCells f)) (h2 : Blk w bi 3 #[.int .i64 (i : Nat)]) (h3 : Blk w bx 33 (twCells x)) (hk : x.kids = (n : Nat)) (hi : i < n) (hn : n ≤ 9223372036854775807) :
    MayOk w 28 #[.pointer (some ⟨bf, 0, none⟩), .pointer (some ⟨bi, 0, none⟩), .pointer (some ⟨bx, 0, none⟩)] (partOf x i) := by
  refine ⟨fun _ _ => by kernel_rfl, fun op W hop hW => ?_⟩
  show Calls Try.prog 28 #[.int .u8 (op : Nat), .pointer (some ⟨bf, 0, none⟩), .pointer (some ⟨bi, 0, none⟩), .pointer (some ⟨bx, 0, none⟩)] W _
  have c1 : W.cell? ⟨bf, 3, none⟩ = some (fv f.prt) := (h1.below hW h1.lt).cell 3
  have c2 : W.cell? ⟨bi, 0, none⟩ = some (.int .i64 (i : Nat)) := (h2.below hW h2.lt).cell 0
  have c3 : W.cell? ⟨bx, 1, none⟩ = some (.int .i64 (n : Nat)) := by rw [← hk]; exact (h3.below hW h3.lt).cell 1
  have hcf := (enter_form hf).2
  have HP := Lib.hid (part_any hf i n op W hop hi hn)
  have HR := Lib.hid (show partOf x i op = prtB f.prt i n op from by
    unfold partOf
    rw [hf, hk]
    rfl)
  clear h1 h2 h3 hf
  obtain ⟨ft, fl, fm, fp⟩ := f
  dsimp only at c1 hcf HP HR
  go_enter Try.func28, Try.ntmps28
  go_wp2_with fail
  refine HP.out.mono ?_
  rintro e w2 ⟨rfl, hw2⟩
  rw [hw2]
  clear hw2 w2
  go_wp2_with fail
  go_ret
  exact ⟨ret_bool HR.out.symm, rfl⟩
end Go.Proofs.Ytpdofcjgpomehaa
