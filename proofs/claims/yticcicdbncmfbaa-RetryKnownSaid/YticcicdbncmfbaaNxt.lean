/- Whether a code is fatal; the next attempt. -/
import Derived.Test.YticcicdbncmfbaaDw
import Derived.Test.YticcicdbncmfbaaCls
import Derived.Test.YticcicdbncmfbaaWai
namespace Go.Proofs.Yticcicdbncmfbaa
open Go.RowKit

def IxPost (l : List Int) (v : Int) (w : World) (e : Ending) (w' : World) : Prop := ∃ r : Int, e = .returned (.int .i64 r) ∧ w = w' ∧ ((0 ≤ r ∧ v ∈ l) ∨ (r < 0 ∧ v ∉ l))
def hasB (l : List Int) (v : Int) : Bool := decide (v ∈ l)

set_option maxHeartbeats 400000 in
theorem index_any (A : Option Addr) (L K : Nat) (l : List Int) (v : Int) (w : World) (hrow : InRow w A L K l) : Calls Try.prog 39 #[.slice A L K, .int .i64 v] w (IxPost l v w) := by
  obtain ⟨hr, hl, _, hm, _⟩ := hrow
  have HR := Lib.hid hr
  have HL := Lib.hid hl
  clear hr hl
  go_enter Try.func39, Try.ntmps39
  go_wp2
  go_loop [5, 8] (fun _ i => ∃ k : Nat, k ≤ L ∧ i = .int .i64 k ∧ v ∉ l.take k) (fun _ i => L - (intOf i).toNat)
  case atStart => exact ⟨0, Nat.zero_le _, rfl, by simp⟩
  case round =>
    obtain ⟨k, hk, rfl, hv⟩ := hrel
    have HV := Lib.hid hv
    clear hv
    by_cases hlt : k < L
    · have hkl : k < l.length := by rw [HL.out]; exact hlt
      obtain ⟨b, off, rfl, _, hc⟩ := HR.out.place (by omega)
      have hck : w.cell? ⟨b, off + k, none⟩ = some (.int .i64 l[k]) := hc k _ (by unfold icells; rw [List.getElem?_map, List.getElem?_eq_getElem hkl]; rfl)
      have HT := Lib.hid (List.take_succ_eq_append_getElem hkl)
      have HM := Lib.hid (List.getElem_mem hkl)
      clear hc
      obtain ⟨y, hy⟩ : ∃ y, y = l[k] := ⟨_, rfl⟩
      rw [← hy] at hck HT HM
      clear hy
      by_cases he : v = y
      · have hb : (v == y) = true := by simpa using he
        have HE := Lib.hid he
        clear he
        go_wp2
        go_ret
        exact ⟨_, rfl, rfl, .inl ⟨by omega, by rw [HE.out]; exact HM.out⟩⟩
      · have hb : (v == y) = false := by simpa using he
        have HE := Lib.hid he
        clear he
        go_wp2
        go_round
        case rel => exact ⟨k + 1, by omega, by go_num, by rw [HT.out, List.mem_append, List.mem_singleton]; exact fun h => h.elim HV.out HE.out⟩
        case measure => simp [intOf]; omega
    · go_wp2
      go_ret
      exact ⟨_, rfl, rfl, .inr ⟨by omega, by have h := HV.out; rwa [List.take_of_length_le (by rw [HL.out]; omega)] at h⟩⟩

theorem contains_any (A : Option Addr) (L K : Nat) (l : List Int) (v : Int) (w : World) (hrow : InRow w A L K l) : Calls Try.prog 37 #[.slice A L K, .int .i64 v] w fun e w' => e = .returned (.bool (hasB l v)) ∧ w = w' := by
  have HR := Lib.hid hrow
  clear hrow
  go_enter Try.func37, Try.ntmps37
  go_wp2_with fail
  refine (index_any A L K l v w HR.out).mono ?_
  rintro e w' ⟨r, rfl, rfl, h⟩
  rcases h with ⟨h1, h2⟩ | ⟨h1, h2⟩
  · have H := Lib.hid (show hasB l v = true from decide_eq_true h2)
    clear h2
    go_wp2_with fail
    go_ret
    exact ⟨by rw [H.out]; rfl, rfl⟩
  · have H := Lib.hid (show hasB l v = false from decide_eq_false h2)
    have hd : decide (0 ≤ r) = false := by simp; omega
    clear h2
    go_wp2_with fail
    go_ret
    exact ⟨by rw [H.out]; rfl, rfl⟩

theorem fatal_any (F C N D M S : Int) (A : Option Addr) (L K : Nat) (l : List Int) (v : Int) (w : World) (hrow : InRow w A L K l) :
    Calls Try.prog 30 #[.agg #[.int .i64 F, .int .i64 C, .int .i64 N, .int .i64 D, .int .i64 M, .int .i64 S, .slice A L K], .int .i64 v] w fun e w' => e = .returned (.bool (hasB l v)) ∧ Below w.heap.size w w' := by
  have HR := Lib.hid (hrow.alloc (.cells #[.int .i64 F, .int .i64 C, .int .i64 N, .int .i64 D, .int .i64 M, .int .i64 S, .slice A L K] 53))
  clear hrow
  go_enter Try.func30, Try.ntmps30
  go_wp2_with fail
  refine (contains_any A L K l v _ HR.out).mono ?_
  rintro e w' ⟨rfl, rfl⟩
  go_wp2_with fail
  go_ret
  exact ⟨rfl, (Below.refl _ _).alloc (Nat.le_refl _) _⟩
end Go.Proofs.Yticcicdbncmfbaa
