/- Rows of twigs that grow; a row of twigs that was made. And what follows from it. -/
import Derived.Lib.Hide
import Derived.Test.YtbcadlocldplfaaDoorQta
import Derived.Test.YtbcadlocldplfaaDoorQt0
set_option maxHeartbeats 16000000
set_option linter.unusedSimpArgs false
set_option linter.unusedVariables false
namespace Go.Proofs.YtbcadlocldplfaaDoor
open Go.Proofs.Tryd
set_option maxRecDepth 100000
open Go.RowKit
variable {w wk wn : World}
structure Od (w wk : World) (A : Option Addr) (n c : Nat) (t : List Tw) : Prop where
 len : n = t.length
 own : wk.ownsRow w.heap.size 42 4 (.slice A n c) n (rowOf twcell t)
theorem Od.rd {A : Option Addr} {n c : Nat} {t : List Tw} (ho : Od w wk A n c t) : RdL twcell 4 wk A t := RdL.of_own twcell_len ho.own ho.len
theorem Od.nil (w wk : World) : Od w wk none 0 0 [] := ⟨rfl, World.ownsRow_nil _ _ _ _⟩
end Go.Proofs.YtbcadlocldplfaaDoor
namespace Go.Proofs.YtbcadlocldplfaaDoor
open Go.Proofs.Tryd
end Go.Proofs.YtbcadlocldplfaaDoor
namespace Go.Proofs.YtbcadlocldplfaaDoor
open Go.Proofs.Tryd
open Go.RowKit
def strOf (l : List UInt8) : Value := .string ⟨l.toArray⟩
def wordCells : Array Value := (kw28.map strOf).toArray
theorem words_call (w : World) :
 Calls prog 130 #[] w fun e w' => e = .returned (.slice (some ⟨w.heap.size, 0, none⟩) 28 28) ∧ w.alloc (.cells wordCells 9) = w' := by
 go_in
 go_wp2
 go_ret
 exact ⟨rfl, rfl⟩
def amongL (ss : List (List UInt8)) (k : Nat) (s : List UInt8) : Bool := (ss.take k).any fun x => x == s
theorem amongL_succ (ss : List (List UInt8)) (k : Nat) (s : List UInt8) (h : k < ss.length) : amongL ss (k + 1) s = (amongL ss k s || ss[k] == s) := by
 unfold amongL; rw [List.take_succ_eq_append_getElem h]; simp only [List.any_append, List.any_cons, List.any_nil, Bool.or_false]
theorem amongL_true (ss : List (List UInt8)) (k n : Nat) (s : List UInt8) (h : k < ss.length) (hn : k < n) (he : (ss[k] == s) = true) : amongL ss n s = true := by
 unfold amongL
 rw [List.any_eq_true]
 refine ⟨ss[k], ?_, he⟩
 rw [List.mem_take_iff_getElem]
 exact ⟨k, by omega, rfl⟩
theorem among_any (b n cap : Nat) (ss : List (List UInt8)) (s : ByteArray) (w : World) (hlen : ss.length = n) (hn : n <= 1000)
 (hc : ∀ k x, ss[k]? = some x -> w.cell? ⟨b, k, none⟩ = some (strOf x)) :
 Calls prog 90 #[.slice (some ⟨b, 0, none⟩) n cap, .string s] w fun e w' => e = .returned (.bool (amongL ss n s.toList)) ∧ w = w' := by
 have HL := zh hlen
 clear hlen
 have HC := zh hc
 clear hc
 go_in
 go_wp2
 go_loop [5] (fun i => ∃ k : Nat, k <= n ∧ i = .int .i64 k ∧ amongL ss k s.toList = false) (fun i => n - (intOf i).toNat)
 case atStart => exact ⟨0, by omega, rfl, by simp [amongL]⟩
 case round =>
  obtain ⟨k, hk, rfl, hf⟩ := hrel
  by_cases hlt : k < n
  . have hl : k < ss.length := by rw [HL.out]; exact hlt
    have hcell := HC.out k ss[k] (List.getElem?_eq_getElem hl)
    unfold strOf at hcell
    have HF := zh hf
    clear hf
    have HS := zh (amongL_succ ss k s.toList hl)
    go_wp2
    . go_ret
      exact ⟨ret_bool (amongL_true ss k n s.toList hl hlt (by assumption)).symm, rfl⟩
    . have hne : (ss[k] == s.toList) = false := by assumption
      go_round
      case rel => exact ⟨k + 1, by omega, by go_num, by rw [HS.out, HF.out, hne]; rfl⟩
      case measure => simp [intOf]; omega
  . have hkn : k = n := by omega
    have HF := zh hf
    clear hf
    go_wp2
    go_ret
    exact ⟨ret_bool (by rw [<- hkn, HF.out]), rfl⟩
theorem kw28_length : kw28.length = 28 := by decide
theorem among_kw (s : List UInt8) : amongL kw28 28 s = kw s := by
 unfold amongL kw
 rw [List.take_of_length_le (by decide), Bool.eq_iff_iff]
 simp
theorem words_cell (w : World) (k : Nat) (x : List UInt8) (h : kw28[k]? = some x) : (w.alloc (.cells wordCells 9)).cell? ⟨w.heap.size, k, none⟩ = some (strOf x) := by
 have : wordCells[k]? = some (strOf x) := by
  unfold wordCells
  rw [List.getElem?_toArray, List.getElem?_map, h]; rfl
 rw [<- this]
 exact World.cell?_alloc_new w _ _ _
theorem refKeyword_any (s : ByteArray) (w : World) :
 Calls prog 120 #[.string s] w fun e w' => e = .returned (.bool (kw s.toList)) ∧ w.alloc (.cells wordCells 9) = w' := by
 go_in
 go_wp2_with fail
 refine (words_call w).mono ?_
 rintro e w' ⟨rfl, rfl⟩
 go_wp2_with fail
 refine (among_any _ _ _ kw28 s _ kw28_length (by omega) (words_cell w)).mono ?_
 rintro e w' ⟨rfl, rfl⟩
 go_wp2_with fail
 go_ret
 exact ⟨ret_bool (among_kw _), rfl⟩
end Go.Proofs.YtbcadlocldplfaaDoor
