/- Contracts of Peek, Drop. -/
import Derived.Test.YtnipmhidiiondaaPut
namespace Go.Proofs.Ytnipmhidiiondaa
open Go.RowKit Go.Maps

set_option maxHeartbeats 2000000 in
theorem peek_any (g : Nat) (A : Abs) (p : Pls) (s : ByteArray) (w : World) (h : CRep w g A p) (hs : s.size ≤ maxLen) :
    Calls Try.prog 18 #[.pointer (some ⟨g, 0, none⟩), .string s] w fun e w' => e = .returned (.tuple #[.int .i64 ((lk A.L s).getD 0), .bool (lk A.L s).isSome]) ∧ w' = w := by
  obtain ⟨gm, gc, cap, fv⟩ := p
  obtain ⟨S, q, hh⟩ := h
  have hl := hh.inv.lookup s
  have HFI := Lib.hid (find_any g S ⟨gm, gc, cap, fv⟩ s w hh.rep hs)
  cases hf : S.f s with
  | none =>
    rw [hf] at hl HFI
    rw [hl]
    clear hh hl hf hs
    simp only [Option.map_none, Option.getD_none, Option.isSome_none] at HFI ⊢
    go_enter Try.func18, Try.ntmps18
    go_wp2_with fail
    refine HFI.out.mono ?_
    rintro e w1 ⟨rfl, hw1⟩
    rw [hw1]
    clear hw1 w1
    go_wp2_with fail
    go_ret2
    exact ⟨rfl, rfl⟩
  | some i =>
    rw [hf] at hl HFI
    rw [hl]
    obtain ⟨hi, hnm⟩ := (hh.inv.fnd s i).1 hf
    obtain ⟨q1, _⟩ := hh.inv.places hi
    simp only [Option.map_some, Option.getD_some, Option.isSome_some] at HFI ⊢
    obtain ⟨n, hnn⟩ : ∃ n, n = S.cs.length := ⟨_, rfl⟩
    obtain ⟨v, hv⟩ : ∃ v, v = vl S.cs i := ⟨_, rfl⟩
    have k2 : w.cell? ⟨g, 2, none⟩ = some (.slice (some ⟨gc, 0, none⟩) n cap) := by rw [hnn]; exact hh.rep.top.cell 2
    have d1 : w.cell? ⟨gc, i * 4 + 1, none⟩ = some (.int .i64 v) := by rw [hv]; exact hh.rep.cell (i := i) (j := 1) q1 rfl
    have hin : (i : Int) < (n : Int) := by omega
    have hi0 : (0 : Int) ≤ (i : Int) := by omega
    have hn1 : n ≤ 4097 := by rw [hnn]; exact hh.inv.few
    rw [← hv]
    clear hh hl hf hs hi hnm q1 hnn hv
    go_enter Try.func18, Try.ntmps18
    go_wp2_with fail
    refine HFI.out.mono ?_
    rintro e w1 ⟨rfl, hw1⟩
    rw [hw1]
    clear hw1 w1
    go_wp2_with fail
    go_ret2
    exact ⟨rfl, rfl⟩
theorem rm_none {L : List Ent} {s : ByteArray} (h : ∀ x ∈ L, x.1 ≠ s) : rm L s = L := List.filter_eq_self.2 (fun x hx => decide_eq_true (h x hx))
set_option maxHeartbeats 2000000 in
theorem drop_any (g : Nat) (A : Abs) (p : Pls) (s : ByteArray) (w : World) (h : CRep w g A p) (hs : s.size ≤ maxLen) :
    Calls Try.prog 20 #[.pointer (some ⟨g, 0, none⟩), .string s] w fun e w' => e = .returned (.bool (lk A.L s).isSome) ∧ KeepsA w g p { A with L := rm A.L s } w' := by
  obtain ⟨S, q, hh⟩ := h
  have hl := hh.inv.lookup s
  have HFI := Lib.hid (find_any g S p s w hh.rep hs)
  cases hf : S.f s with
  | none =>
    rw [hf] at hl HFI
    rw [hl, rm_none (hh.inv.absent hf)]
    have HK : Hid (KeepsA w g p A w) := .refl ⟨S, q, hh⟩
    clear hh hl hf hs
    simp only [Option.map_none, Option.getD_none, Option.isSome_none] at HFI ⊢
    go_enter Try.func20, Try.ntmps20
    go_wp2_with fail
    refine HFI.out.mono ?_
    rintro e w1 ⟨rfl, hw1⟩
    rw [hw1]
    clear hw1 w1
    go_wp2_with fail
    go_ret
    exact ⟨rfl, HK.out⟩
  | some i =>
    rw [hf] at hl HFI
    rw [hl]
    obtain ⟨hi, hnm⟩ := (hh.inv.fnd s i).1 hf
    obtain ⟨q1, q2, q3, q4, q5, q6⟩ := hh.inv.places hi
    have hfl : S.fl.length ≤ 100000 := by have := hh.inv.all; have := hh.inv.few; omega
    have HO := Lib.hid (out_any g S p i w hh.rep q1 q2 q3 q5 (Nat.le_trans hh.inv.few (by omega)) hfl)
    obtain ⟨q', hi2⟩ := hh.inv.out hi
    rw [hnm] at hi2
    have HI2 := Lib.hid hi2
    have HH := Lib.hid hh
    simp only [Option.map_some, Option.getD_some, Option.isSome_some] at HFI ⊢
    clear hh hl hf hs hi hnm q1 q2 q3 q4 q5 q6 hfl hi2
    go_enter Try.func20, Try.ntmps20
    go_wp2_with fail
    refine HFI.out.mono ?_
    rintro e w1 ⟨rfl, hw1⟩
    rw [hw1]
    clear hw1 w1
    go_wp2_with fail
    refine HO.out.mono ?_
    rintro e w1 ⟨rfl, hk⟩
    have HK := Lib.hid hk
    clear hk
    go_wp2_with fail
    go_ret
    exact ⟨rfl, KeepsA.of HK.out HI2.out HH.out.room HH.out.hits HH.out.misses⟩
end Go.Proofs.Ytnipmhidiiondaa
