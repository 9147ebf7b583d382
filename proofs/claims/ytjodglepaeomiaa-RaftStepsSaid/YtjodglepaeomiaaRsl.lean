/- Contracts of SameLog, big. -/
import Derived.Test.YtjodglepaeomiaaRnw
namespace Go.Proofs.Ytjodglepaeomiaa
open Go.RowKit

set_option maxRecDepth 100000 in
set_option maxHeartbeats 4000000 in
theorem big_any (A : Option Addr) (c : Nat) (l : List Ent) (w : World) (hrd : RdE w A l) (hlen : l.length ≤ 9223372036854775807) :
    Calls Try.prog 25 #[.slice A l.length c] w fun e w' => e = .returned (.bool (decide (60 < l.length) || l.any fun x => decide (100 < x.data.size))) ∧ w' = w := by
  obtain ⟨R, hR⟩ : ∃ R, R = (decide (60 < l.length) || l.any fun x => decide (100 < x.data.size)) := ⟨_, rfl⟩
  obtain ⟨n, hn⟩ : ∃ n, n = l.length := ⟨_, rfl⟩
  have HH := Lib.hid (And.intro hrd (And.intro hn hR))
  rw [← hR]
  rw [← hn] at hlen ⊢
  clear hrd hn hR
  go_enter Try.func25, Try.ntmps25
  by_cases h60 : 60 < n
  · have d0 : decide ((60 : Int) < (n : Int)) = true := decide_eq_true (by omega)
    have HRT : Hid (R = true) := by rw [HH.out.2.2, ← HH.out.2.1, decide_eq_true h60]; exact Lib.hid rfl
    go_wp2_with fail
    go_ret
    exact ⟨ret_bool HRT.out.symm, rfl⟩
  · have d0 : decide ((60 : Int) < (n : Int)) = false := decide_eq_false (by omega)
    have HR2 : Hid (R = l.any fun x => decide (100 < x.data.size)) := by rw [HH.out.2.2, ← HH.out.2.1, decide_eq_false h60]; exact Lib.hid rfl
    go_wp2_with fail
    go_loopw [3] (fun s3 wr => ∃ k : Nat, s3 = .int .i64 (k : Nat) ∧ k ≤ n ∧ ((l.take k).any fun x => decide (100 < x.data.size)) = false ∧ wr = w) (fun s3 _ => n - (intOf s3).toNat)
    case atStart => exact ⟨0, rfl, by omega, rfl, rfl⟩
    case round =>
      obtain ⟨k, rfl, hk, hany, rfl⟩ := hrel
      have HB := Lib.hid hany
      clear hany
      by_cases hlt : k < n
      · have hkl : k < l.length := by rw [← HH.out.2.1]; exact hlt
        obtain ⟨x, hx⟩ : ∃ x, l[k]? = some x := ⟨_, List.getElem?_eq_getElem hkl⟩
        obtain ⟨b0, off, hE, hbl, c0, c1⟩ := HH.out.1.ents hx
        subst hE
        have HX := Lib.hid hx
        have d1 : decide ((k : Int) < (n : Int)) = true := decide_eq_true (by omega)
        have k0 : (0 : Int) ≤ (k : Int) := by omega
        have kn : (k : Int) < (n : Int) := by omega
        clear hx hkl
        by_cases h1 : 100 < x.data.size
        · have d2 : decide ((100 : Int) < (x.data.size : Int)) = true := decide_eq_true (by omega)
          have HRT : Hid (R = true) := by
            rw [HR2.out, List.any_eq_true]
            exact Lib.hid ⟨x, List.mem_of_getElem? HX.out, decide_eq_true h1⟩
          go_wp2_with fail
          go_ret
          exact ⟨ret_bool HRT.out.symm, rfl⟩
        · have d2 : decide ((100 : Int) < (x.data.size : Int)) = false := decide_eq_false (by omega)
          have HST : Hid (((l.take (k + 1)).any fun x => decide (100 < x.data.size)) = false) := by
            rw [List.take_add_one, HX.out, List.any_append, HB.out]
            exact Lib.hid (by simp; omega)
          clear h1
          go_wp2_with fail
          go_roundw
          case rel => exact ⟨k + 1, by go_num, by omega, HST.out, trivial⟩
          case measure => simp [intOf]; omega
      · have d1 : decide ((k : Int) < (n : Int)) = false := decide_eq_false (by omega)
        have HRF : Hid (R = false) := by
          rw [HR2.out]
          have h := HB.out
          rw [List.take_of_length_le (by rw [← HH.out.2.1]; omega)] at h
          exact Lib.hid h
        go_wp2_with fail
        go_ret
        exact ⟨ret_bool HRF.out.symm, rfl⟩
set_option maxRecDepth 100000 in
set_option maxHeartbeats 4000000 in
theorem sameLog_any (A A' : Option Addr) (c c' : Nat) (l : List Ent) (w : World) (hrd : RdE w A l) (hrd' : RdE w A' l) (hlen : l.length ≤ 9223372036854775807) :
    Calls Try.prog 24 #[.slice A l.length c, .slice A' l.length c'] w fun e w' => e = .returned (.bool true) ∧ Below w.heap.size w w' := by
  obtain ⟨n, hn⟩ : ∃ n, n = l.length := ⟨_, rfl⟩
  have HH := Lib.hid (And.intro hrd (And.intro hrd' hn))
  rw [← hn] at hlen ⊢
  clear hrd hrd' hn
  go_enter Try.func24, Try.ntmps24
  go_wp2_with fail
  go_loopw [5] (fun s5 wr => ∃ k : Nat, s5 = .int .i64 (k : Nat) ∧ k ≤ n ∧ Below w.heap.size w wr) (fun s5 _ => n - (intOf s5).toNat)
  case atStart => exact ⟨0, rfl, by omega, Below.refl _ _⟩
  case round =>
    obtain ⟨k, rfl, hk, hb⟩ := hrel
    have HB := Lib.hid hb
    clear hb
    by_cases hlt : k < n
    · have hkl : k < l.length := by rw [← HH.out.2.2]; exact hlt
      obtain ⟨x, hx⟩ : ∃ x, l[k]? = some x := ⟨_, List.getElem?_eq_getElem hkl⟩
      obtain ⟨b0, off, hE, _, c0, c1⟩ := (HH.out.1.below HB.out).ents hx
      obtain ⟨b1, off1, hE1, _, e0, e1⟩ := (HH.out.2.1.below HB.out).ents hx
      subst hE
      subst hE1
      have d1 : decide ((k : Int) < (n : Int)) = true := decide_eq_true (by omega)
      have k0 : (0 : Int) ≤ (k : Int) := by omega
      have kn : (k : Int) < (n : Int) := by omega
      obtain ⟨t, d⟩ := x
      dsimp only at c0 c1 e0 e1
      clear hx hkl
      go_wp2_with fail
      go_quiet (fail)
      go_wp2_with fail
      go_roundw
      case rel => exact ⟨k + 1, by go_num, by omega, below_drewN HB.out _⟩
      case measure => simp [intOf]; omega
    · have d1 : decide ((k : Int) < (n : Int)) = false := decide_eq_false (by omega)
      go_wp2_with fail
      go_ret
      exact ⟨rfl, HB.out⟩
end Go.Proofs.Ytjodglepaeomiaa
