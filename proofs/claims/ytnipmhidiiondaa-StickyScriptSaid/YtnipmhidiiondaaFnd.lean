/- Contracts of the cache's eldest, Room, may, Len, find, Counts. -/
import Derived.Deep.QuietTactic
import Derived.BigQuiet
import Derived.Test.YtnipmhidiiondaaPlc
namespace Go.Proofs.Ytnipmhidiiondaa
open Go.RowKit Go.Maps

set_option maxHeartbeats 2000000 in
theorem eldest_any (g : Nat) (S : Sta) (p : Pls) (i : Nat) (w : World) (h : Rep w g S p) (hei : ah S.cs 0 = i) (hi : i < S.cs.length) (ha : ah S.cs i < S.cs.length) (hn : nx S.cs i < S.cs.length) (hnm : (nm S.cs i).size ≤ maxLen) (hl : S.cs.length ≤ 100000) (hfl : S.fl.length ≤ 100000) :
    Calls Try.prog 38 #[.pointer (some ⟨g, 0, none⟩)] w fun e w' => e = .returned (.string (nm S.cs i)) ∧ Keeps w g p (outS S i) w' := by
  have HO := Lib.hid (out_any g S p i w h hi ha hn hnm hl hfl)
  obtain ⟨gm, gc, cap, fv⟩ := p
  obtain ⟨n, hnn⟩ : ∃ n, n = S.cs.length := ⟨_, rfl⟩
  have k2 : w.cell? ⟨g, 2, none⟩ = some (.slice (some ⟨gc, 0, none⟩) n cap) := by rw [hnn]; exact h.top.cell 2
  have d2 : w.cell? ⟨gc, 2, none⟩ = some (.int .i64 (i : Nat)) := by rw [← hei]; exact h.cell (i := 0) (j := 2) (by omega) rfl
  have h0n : (0 : Int) < (n : Int) := by omega
  have h0n' : 0 < n := by omega
  clear hei hi ha hn hnm hl hfl h hnn
  go_enter Try.func38, Try.ntmps38
  go_wp2_with fail
  refine HO.out.mono ?_
  rintro e w1 ⟨rfl, hk⟩
  have HK := Lib.hid hk
  clear hk
  go_wp2_with fail
  go_ret
  exact ⟨rfl, HK.out⟩
theorem room_any (g : Nat) (S : Sta) (p : Pls) (w : World) (h : Rep w g S p) :
    Calls Try.prog 36 #[.pointer (some ⟨g, 0, none⟩)] w fun e w' => e = .returned (.int .i64 (S.room : Nat)) ∧ w' = w := by
  have k0 : w.cell? ⟨g, 0, none⟩ = some (.int .i64 (S.room : Nat)) := h.top.cell 0
  clear h
  go_enter Try.func36, Try.ntmps36
  go_wp2_with fail
  go_ret
  exact ⟨rfl, rfl⟩
def mayB (r : Int) : Bool := decide (1 ≤ r) && decide (r ≤ 4096)
theorem may_any (r : Int) (w : World) : Calls Try.prog 35 #[.int .i64 r] w fun e w' => e = .returned (.bool (mayB r)) ∧ w' = w := by
  have HM : Hid (mayB r = (decide (1 ≤ r) && decide (r ≤ 4096))) := rfl
  by_cases h1 : 1 ≤ r
  · by_cases h2 : r ≤ 4096
    · go_enter Try.func35, Try.ntmps35
      go_wp2_with fail
      go_ret
      exact ⟨by rw [HM.out]; simp [h1, h2], rfl⟩
    · go_enter Try.func35, Try.ntmps35
      go_wp2_with fail
      go_ret
      exact ⟨by rw [HM.out]; simp [h1, h2], rfl⟩
  · go_enter Try.func35, Try.ntmps35
    go_wp2_with fail
    go_ret
    exact ⟨by rw [HM.out]; simp [h1]; omega, rfl⟩
theorem lit_int {a b : Int} (h : (DataW.lit (.int .i64 a) : DataW Unit) = .lit (.int .i64 b)) : a = b := by
  injection h with h
  injection h
theorem len_any (g : Nat) (S : Sta) (p : Pls) (w : World) (h : Rep w g S p) :
    Calls Try.prog 14 #[.pointer (some ⟨g, 0, none⟩)] w fun e w' => e = .returned (.int .i64 (S.m : Nat)) ∧ w' = w := by
  obtain ⟨gm, gc, cap, fv⟩ := p
  have k1 : w.cell? ⟨g, 1, none⟩ = some (.map (some gm)) := h.top.cell 1
  obtain ⟨D, hD, hsz, hf⟩ := h.map
  have HD := Lib.hid (And.intro hD (And.intro hsz hf))
  clear hD hsz hf h
  go_enter Try.func14, Try.ntmps14
  go_wp2_with (at_len; refine wpList_len_own _ rfl (.tmp 8) 51 rfl 9 3 Try.underlying51 (plainElem Try.prog 3) gm S.m D rfl HD.out.1 ?_; rw [HD.out.2.1])
  go_ret
  exact ⟨rfl, rfl⟩
set_option maxHeartbeats 1000000 in
theorem find_any (g : Nat) (S : Sta) (p : Pls) (s : ByteArray) (w : World) (h : Rep w g S p) (hs : s.size ≤ maxLen) :
    Calls Try.prog 41 #[.pointer (some ⟨g, 0, none⟩), .string s] w fun e w' => e = .returned (.tuple #[.int .i64 ((S.f s).getD 0 : Nat), .bool (S.f s).isSome]) ∧ w' = w := by
  obtain ⟨gm, gc, cap, fv⟩ := p
  have k1 : w.cell? ⟨g, 1, none⟩ = some (.map (some gm)) := h.top.cell 1
  obtain ⟨D, hD, hsz, hf⟩ := h.map
  have hat0 := (hf s).2
  have hhas := (hf s).1
  obtain ⟨j, hj⟩ : ∃ j, j = (S.f s).getD 0 := ⟨_, rfl⟩
  obtain ⟨b, hb⟩ : ∃ b, b = (S.f s).isSome := ⟨_, rfl⟩
  rw [← hj] at hat0 ⊢
  rw [← hb] at hhas ⊢
  have HD := Lib.hid (And.intro hD (And.intro hat0 hhas))
  have HS := Lib.hid hs
  clear hD hsz hf h hat0 hhas hj hb hs
  go_enter Try.func41, Try.ntmps41
  go_wp2_with (at_lookup; refine wpList_lookup_own_ok_int _ rfl (.tmp 14) (.tmp 15) 51 rfl 9 3 .i64 law9 Try.underlying51 Try.underlying3 (zero3 _) gm S.m D rfl HD.out.1 (.string s) (kd s) rfl (key9 HS.out) ?_; intro c hat _; have hcj : c = (j : Int) := lit_int (hat.symm.trans HD.out.2.1); subst hcj; rw [HD.out.2.2]; clear hat)
  go_ret2
  exact ⟨rfl, rfl⟩
theorem counts_any (g : Nat) (S : Sta) (p : Pls) (w : World) (h : Rep w g S p) :
    Calls Try.prog 46 #[.pointer (some ⟨g, 0, none⟩)] w fun e w' => e = .returned (.tuple #[.int .i64 (S.hits : Nat), .int .i64 (S.misses : Nat)]) ∧ ∃ n, w' = w.drewN n := by
  have k4 : w.cell? ⟨g, 4, none⟩ = some (.int .i64 (S.hits : Nat)) := h.top.cell 4
  have k5 : w.cell? ⟨g, 5, none⟩ = some (.int .i64 (S.misses : Nat)) := h.top.cell 5
  clear h
  go_enter Try.func46, Try.ntmps46
  go_wp2_with fail
  go_quiet (fail)
  go_wp2_with fail
  go_ret2
  exact ⟨rfl, nq, rfl⟩
end Go.Proofs.Ytnipmhidiiondaa
