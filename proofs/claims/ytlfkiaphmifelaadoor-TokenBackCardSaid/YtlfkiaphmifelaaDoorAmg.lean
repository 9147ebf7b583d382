/- Contracts of the document's Among and Signs. -/
import Derived.Test.YtlfkiaphmifelaaDoorSpe
namespace Go.Proofs.YtlfkiaphmifelaaDoor
open Go.RowKit

def strOf (l : List UInt8) : Value := .string ⟨l.toArray⟩
def amongL (ss : List (List UInt8)) (k : Nat) (s : List UInt8) : Bool := (ss.take k).any fun x => x == s

theorem amongL_succ (ss : List (List UInt8)) (k : Nat) (s : List UInt8) (h : k < ss.length) : amongL ss (k + 1) s = (amongL ss k s || ss[k] == s) := by
  unfold amongL; rw [List.take_succ_eq_append_getElem h]; simp only [List.any_append, List.any_cons, List.any_nil, Bool.or_false]

theorem amongL_true (ss : List (List UInt8)) (k n : Nat) (s : List UInt8) (h : k < ss.length) (hn : k < n) (he : (ss[k] == s) = true) : amongL ss n s = true := by
  unfold amongL
  rw [List.any_eq_true]
  refine ⟨ss[k], ?_, he⟩
  rw [List.mem_take_iff_getElem]
  exact ⟨k, by omega, rfl⟩

set_option maxHeartbeats 400000 in
theorem among_any (b n cap : Nat) (ss : List (List UInt8)) (s : ByteArray) (w : World) (hlen : ss.length = n) (hn : n ≤ 1000)
    (hc : ∀ k x, ss[k]? = some x → w.cell? ⟨b, k, none⟩ = some (strOf x)) :
    Calls Tryd.prog 29 #[.slice (some ⟨b, 0, none⟩) n cap, .string s] w fun e w' => e = .returned (.bool (amongL ss n s.toList)) ∧ w = w' := by
  have HL := Lib.hid hlen
  clear hlen
  have HC := Lib.hid hc
  clear hc
  go_enter Tryd.func29, Tryd.ntmps29
  go_wp2
  go_loop [5] (fun i => ∃ k : Nat, k ≤ n ∧ i = .int .i64 k ∧ amongL ss k s.toList = false) (fun i => n - (intOf i).toNat)
  case atStart => exact ⟨0, by omega, rfl, by simp [amongL]⟩
  case round =>
    obtain ⟨k, hk, rfl, hf⟩ := hrel
    by_cases hlt : k < n
    · have hl : k < ss.length := by rw [HL.out]; exact hlt
      have hcell := HC.out k ss[k] (List.getElem?_eq_getElem hl)
      unfold strOf at hcell
      have HF := Lib.hid hf
      clear hf
      have HS := Lib.hid (amongL_succ ss k s.toList hl)
      go_wp2
      · go_ret
        exact ⟨ret_bool (amongL_true ss k n s.toList hl hlt (by assumption)).symm, rfl⟩
      · have hne : (ss[k] == s.toList) = false := by assumption
        go_round
        case rel => exact ⟨k + 1, by omega, by go_num, by rw [HS.out, HF.out, hne]; rfl⟩
        case measure => simp [intOf]; omega
    · have hkn : k = n := by omega
      have HF := Lib.hid hf
      clear hf
      go_wp2
      go_ret
      exact ⟨ret_bool (by rw [← hkn, HF.out]), rfl⟩
def sgnR : List (List UInt8) := [[61, 61], [33, 61], [60, 61], [40], [41], [123], [125], [91], [93], [44], [61], [60], [43], [45], [42], [47], [37]]
def sgnCells : Array Value := (sgnR.map strOf).toArray
theorem signs_call (w : World) :
    Calls Tryd.prog 30 #[] w fun e w' => e = .returned (.slice (some ⟨w.heap.size, 0, none⟩) 17 17) ∧ w.alloc (.cells sgnCells 9) = w' := by
  go_enter Tryd.func30, Tryd.ntmps30
  go_wp2_with fail
  go_ret
  exact ⟨rfl, rfl⟩
theorem amongR (s : List UInt8) : amongL sgnR 17 s = decide (s ∈ sgn17) := by
  unfold amongL
  rw [List.take_of_length_le (by decide)]
  rw [Bool.eq_iff_iff, List.any_eq_true, decide_eq_true_eq]
  constructor
  · rintro ⟨x, hx, he⟩
    have : x = s := by simpa using he
    subst this
    revert hx
    have key : ∀ y ∈ sgnR, y ∈ sgn17 := by decide
    exact key x
  · intro h
    have key : ∀ y ∈ sgn17, y ∈ sgnR := by decide
    exact ⟨s, key s h, by simp⟩
theorem scan_all {p : UInt8 → Bool} (s : List UInt8) : decide (scan p s 0 = s.length) = s.all p := by
  have key : ∀ s : List UInt8, (s.takeWhile p).length = s.length ↔ s.all p = true := fun s => by
    induction s with
    | nil => simp
    | cons c r ih =>
      rw [List.takeWhile_cons, List.all_cons]
      cases h : p c
      · simp
      · simp [ih]
  unfold scan
  rw [List.drop_zero, Nat.zero_add]
  rw [Bool.eq_iff_iff, decide_eq_true_eq]
  exact key s
end Go.Proofs.YtlfkiaphmifelaaDoor
