/- Contract of Propose. -/
import Derived.Test.YtjodglepaeomiaaHdl
namespace Go.Proofs.Ytjodglepaeomiaa
open Go.RowKit

set_option maxRecDepth 100000 in
set_option maxHeartbeats 8000000 in
theorem propose_any (S : Sv) (d : ByteArray) (g : Nat) (A : Option Addr) (c : Nat) (w : World) (hS : SvM w g S A c) (hok : S.Ok) :
    Calls Try.prog 14 #[.pointer (some ⟨g, 0, none⟩), .string d] w fun e w' => e = .returned (.tuple #[.int .i64 ((S.propose d).2.1 : Nat), .int .i64 (S.propose d).2.2]) ∧ KeepsM w g A (S.propose d).1 w' := by
  have HQ := Lib.hid (show S.propose d = if S.role ≠ 2 then (S, 0, 270) else if 65536 < d.size then (S, 0, 2) else if S.log.length = 4096 then (S, 0, 7) else ((S.put d).agree, S.log.length + 1, 0) from rfl)
  have HS := Lib.hid hS
  have HK := Lib.hid hok
  obtain ⟨sn, hsn⟩ : ∃ z, z = S.n := ⟨_, rfl⟩
  have hsn0 : 0 < sn := by rw [hsn]; have := hok.id; omega
  have HMD := Lib.hid (made_any w g sn (by rw [hsn]; exact hS.c1) hsn0)
  have c5 := hS.c5
  obtain ⟨l, hll⟩ : ∃ l, l = S.log.length := ⟨_, rfl⟩
  have hl : l ≤ 4096 := by rw [hll]; exact hok.len
  have HL := Lib.hid (last_any w g l c A (by rw [hll]; exact hS.c4))
  have HLL := Lib.hid hll
  have HKP : Hid (KeepsM w g A S w) := Lib.hid hS.keeps
  clear hS hok hsn hll
  go_enter Try.func14, Try.ntmps14
  go_wp2_with fail
  refine HMD.out.mono ?_
  rintro e w1 ⟨rfl, hw1⟩
  rw [hw1]
  clear hw1 w1 HMD
  by_cases hr : S.role = 2
  · have b1 : ((S.role : Int) != 2) = false := by rw [hr]; rfl
    by_cases hd : 65536 < d.size
    · have d1 : decide ((65536 : Int) < (d.size : Int)) = true := decide_eq_true (by omega)
      have HQ1 : Hid (S.propose d = (S, 0, 2)) := Lib.hid (by rw [HQ.out, if_neg (fun h => h hr), if_pos hd])
      clear HQ
      go_wp2_with fail
      go_ret2
      rw [HQ1.out]
      exact ⟨rfl, HKP.out⟩
    · have d1 : decide ((65536 : Int) < (d.size : Int)) = false := decide_eq_false (by omega)
      by_cases hl4 : l = 4096
      · have b2 : ((l : Int) == 4096) = true := by rw [hl4]; rfl
        have HQ1 : Hid (S.propose d = (S, 0, 7)) := Lib.hid (by rw [HQ.out, if_neg (fun h => h hr), if_neg hd, if_pos (by rw [← HLL.out]; exact hl4)])
        clear HQ hl4
        go_wp2_with fail
        refine HL.out.mono ?_
        rintro e w1 ⟨rfl, hw1⟩
        rw [hw1]
        clear hw1 w1
        go_wp2_with fail
        go_ret2
        rw [HQ1.out]
        exact ⟨rfl, HKP.out⟩
      · have b2 : ((l : Int) == 4096) = false := by simp; omega
        have HQ1 : Hid (S.propose d = ((S.put d).agree, S.log.length + 1, 0)) := Lib.hid (by rw [HQ.out, if_neg (fun h => h hr), if_neg hd, if_neg (by rw [← HLL.out]; exact hl4)])
        clear HQ
        go_wp2_with fail
        refine HL.out.mono ?_
        rintro e w1 ⟨rfl, hw1⟩
        rw [hw1]
        clear hw1 w1
        go_wp2_with fail
        refine (put_any S d g A c w HS.out HK.out.len).mono ?_
        rintro e w2 ⟨rfl, A2, c2, hm2, hc2, ht2⟩
        have H2 := Lib.hid (And.intro hm2 (And.intro hc2 ht2))
        clear hm2 hc2 ht2
        go_wp2_with fail
        refine (agree_any (S.put d) g A2 c2 w2 H2.out.1 (by show (S.log ++ [_]).length ≤ 4096; rw [List.length_append, List.length_singleton, ← HLL.out]; omega) HK.out.n (Nat.le_trans HK.out.com HK.out.len)).mono ?_
        rintro e w3 ⟨rfl, hk3⟩
        obtain ⟨A3, c3, hm3, hc3, ht3⟩ := KeepsM.trans H2.out.2.1 H2.out.2.2 hk3
        have HKL : Hid (KeepsM w g A (S.put d).agree w3) := Lib.hid ⟨A3, c3, hm3, hc3, ht3⟩
        have HL3 := Lib.hid (last_any w3 g (l + 1) c3 A3 (by have h := hm3.c4; have e : (S.put d).agree.log.length = l + 1 := by show (S.log ++ [_]).length = _; rw [List.length_append, List.length_singleton, ← HLL.out]
                                                             rw [e] at h; exact h))
        clear hm3 hc3 ht3 hk3
        go_wp2_with fail
        refine HL3.out.mono ?_
        rintro e w4 ⟨rfl, hw4⟩
        rw [hw4]
        clear hw4 w4
        go_wp2_with fail
        go_ret2
        rw [HQ1.out, ← HLL.out]
        exact ⟨rfl, HKL.out⟩
  · have b1 : ((S.role : Int) != 2) = true := by simp; omega
    have HQ1 : Hid (S.propose d = (S, 0, 270)) := Lib.hid (by rw [HQ.out, if_pos hr])
    clear HQ
    go_wp2_with fail
    go_ret2
    rw [HQ1.out]
    exact ⟨rfl, HKP.out⟩
end Go.Proofs.Ytjodglepaeomiaa
