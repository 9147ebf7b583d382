/- The walk of prompterlaw07.TokenWords: it returns true, whatever the text. -/
import Derived.Test.YtlfkiaphmifelaaAm
namespace Go.Proofs.Ytlfkiaphmifelaa
open Go.RowKit

theorem kwords_length : kwords.length = 28 := by decide
theorem among_kw (s : List UInt8) : amongL kwords 28 s = kw s := by
  unfold amongL kw
  rw [List.take_of_length_le (by decide), Bool.eq_iff_iff]
  simp

theorem words_cell (w : World) (k : Nat) (x : List UInt8) (h : kwords[k]? = some x) : (w.alloc (.cells wordCells 9)).cell? ⟨w.heap.size, k, none⟩ = some (strOf x) := by
  have : wordCells[k]? = some (strOf x) := by
    unfold wordCells
    rw [List.getElem?_toArray, List.getElem?_map, h]; rfl
  rw [← this]
  exact World.cell?_alloc_new w _ _ _

set_option maxHeartbeats 400000 in
theorem refKeyword_any (s : ByteArray) (w : World) :
    Calls Try.prog 8 #[.string s] w fun e w' => e = .returned (.bool (kw s.toList)) ∧ w.alloc (.cells wordCells 9) = w' := by
  go_enter Try.func8, Try.ntmps8
  go_wp2_with fail
  refine (words_call w).mono ?_
  rintro e w' ⟨rfl, rfl⟩
  go_wp2_with fail
  refine (among_any _ _ _ kwords s _ kwords_length (by omega) (words_cell w)).mono ?_
  rintro e w' ⟨rfl, rfl⟩
  go_wp2_with fail
  go_ret
  exact ⟨ret_bool (among_kw _), rfl⟩

theorem keyword_yes (s : ByteArray) (w : World) (h : kw s.toList = true) :
    Calls Try.prog 7 #[.string s] w fun e w' => e = .returned (.bool true) ∧ w = w' := (keyword_any s w).mono fun _ _ ⟨he, hw⟩ => ⟨by rw [he, h], hw⟩
theorem keyword_no (s : ByteArray) (w : World) (h : kw s.toList = false) :
    Calls Try.prog 7 #[.string s] w fun e w' => e = .returned (.bool false) ∧ w = w' := (keyword_any s w).mono fun _ _ ⟨he, hw⟩ => ⟨by rw [he, h], hw⟩
theorem kw_words : ∀ x ∈ kwords, kw x = true ∧ kw (x ++ [95]) = false := by decide
theorem kw_word (k : Nat) (hl : k < kwords.length) : kw (ByteArray.toList ⟨kwords[k].toArray⟩) = true := by
  simpa using (kw_words _ (List.getElem_mem hl)).1

theorem kw_word_no (k : Nat) (hl : k < kwords.length) : kw (ByteArray.toList (⟨kwords[k].toArray⟩ ++ ⟨#[95]⟩)) = false := by
  rw [ByteArray.toList_eq, ByteArray.data_append]
  simpa using (kw_words _ (List.getElem_mem hl)).2
theorem kw_lens : ∀ x ∈ kwords, x.length ≤ 10 := by decide
theorem kw_len (k : Nat) (hl : k < kwords.length) : kwords[k].length ≤ 10 := kw_lens _ (List.getElem_mem hl)

set_option maxHeartbeats 400000 in
theorem tokenWords_walk (s : ByteArray) (w : World) :
    Calls Try.prog 3 #[.string s] w fun e w' => e = .returned (.bool true) ∧ Below w.heap.size w w' := by
  go_enter Try.func3, Try.ntmps3
  go_wp2_with fail
  refine (words_call w).mono ?_
  rintro e w' ⟨rfl, rfl⟩
  have HC := Lib.hid (words_cell w)
  go_wp2_with fail
  go_loop [4] (fun i => ∃ k : Nat, k ≤ 28 ∧ i = .int .i64 k) (fun i => 28 - (intOf i).toNat)
  case atStart => exact ⟨0, by omega, rfl⟩
  case round =>
    obtain ⟨k, hk, rfl⟩ := hrel
    by_cases hlt : k < 28
    · have hl : k < kwords.length := by rw [kwords_length]; exact hlt
      have hcell := HC.out k kwords[k] (List.getElem?_eq_getElem hl)
      unfold strOf at hcell
      have hb := kw_len k hl
      go_wp2_with fail
      refine (keyword_yes _ _ (kw_word k hl)).mono ?_
      rintro e w' ⟨rfl, rfl⟩
      go_wp2_with fail
      refine (keyword_no _ _ (kw_word_no k hl)).mono ?_
      rintro e w' ⟨rfl, rfl⟩
      go_wp2_with fail
      go_round
      case rel => exact ⟨k + 1, by omega, by go_num⟩
      case measure => simp [intOf]; omega
    · go_wp2_with fail
      refine (keyword_any _ _).mono ?_
      rintro e w' ⟨rfl, rfl⟩
      go_wp2_with fail
      refine (refKeyword_any _ _).mono ?_
      rintro e w' ⟨rfl, rfl⟩
      go_wp2_with fail
      go_ret
      exact ⟨rfl, ((Below.refl _ _).alloc (Nat.le_refl _) _).alloc (by simp) _⟩
end Go.Proofs.Ytlfkiaphmifelaa
