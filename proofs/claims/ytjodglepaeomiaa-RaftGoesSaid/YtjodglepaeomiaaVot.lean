/- Contract of voted. -/
import Derived.Test.YtjodglepaeomiaaAsk
namespace Go.Proofs.Ytjodglepaeomiaa
open Go.RowKit

theorem or_shl : ∀ v < 128, ∀ k < 7, bits .or .u64 ((v : Nat) : Int) (IntKind.u64.wrap ((2 : Int) ^ min k 64)) = (((v ||| 2 ^ k : Nat)) : Int) := by decide +kernel
theorem or_lt {v k : Nat} (h : v < 128) (hk : k < 7) : v ||| 2 ^ k < 128 := by
  have h1 : 2 ^ k < 2 ^ 7 := Nat.pow_lt_pow_right (by decide) hk
  exact Nat.or_lt_two_pow (n := 7) h h1
theorem ones_le (v : Nat) : ∀ k, ones v k ≤ k
  | 0 => Nat.le_refl _
  | k + 1 => by have := ones_le v k; rw [ones]; split <;> omega
set_option maxRecDepth 100000 in
set_option maxHeartbeats 16000000 in
theorem voted_any (S : Sv) (m : Mg) (g k : Nat) (A E : Option Addr) (cs c : Nat) (w : World) (hS : SvM w g S A cs) (hl : S.log.length ≤ 4096) (hn : S.n ≤ 7) (hcm : S.commit ≤ 4096) (hv : S.voters < 128) (hf : m.frm = (k : Nat)) (hk : k < S.n) :
    Calls Try.prog 44 #[.pointer (some ⟨g, 0, none⟩), .agg (mcell E c m).toArray] w (OutS w g A (S.voted m).1 (S.voted m).2) := by
  have HK := Lib.hid (And.intro hl (And.intro hn (And.intro hcm (And.intro hv hk))))
  have HQ := Lib.hid (show S.voted m = (if S.role ≠ 1 ∨ m.term ≠ S.term ∨ m.ok = false then (S, [])
    else if 2 * ones (S.vote1 m.frm.toNat).voters 7 ≤ S.n then (S.vote1 m.frm.toNat, []) else ((S.vote1 m.frm.toNat).lead, (S.vote1 m.frm.toNat).lead.outs)) from rfl)
  obtain ⟨S', ms, hq⟩ : ∃ (S' : Sv) (ms : List Mg), S.voted m = (S', ms) := ⟨_, _, rfl⟩
  rw [hq] at HQ ⊢
  clear hq
  dsimp only
  obtain ⟨mk, frm, to, term, index, logTerm, ents, commit, mok⟩ := m
  dsimp only [mcell] at HQ hf ⊢
  subst hf
  rw [Int.toNat_natCast] at HQ
  generalize ents.length = n at *
  have HBX : Hid (Below w.heap.size w (w.alloc (.cells #[.int .u8 (mk : Nat), .int .i64 (k : Nat), .int .i64 to, .int .i64 term, .int .i64 index, .int .i64 logTerm, .slice E n c, .int .i64 commit, .bool mok] 34)) ∧ Blk (w.alloc (.cells #[.int .u8 (mk : Nat), .int .i64 (k : Nat), .int .i64 to, .int .i64 term, .int .i64 index, .int .i64 logTerm, .slice E n c, .int .i64 commit, .bool mok] 34)) w.heap.size 34 #[.int .u8 (mk : Nat), .int .i64 (k : Nat), .int .i64 to, .int .i64 term, .int .i64 index, .int .i64 logTerm, .slice E n c, .int .i64 commit, .bool mok]) := ⟨(Below.refl _ w).alloc (Nat.le_refl _) _, Blk.new _ _ _⟩
  have hsz : (w.alloc (.cells #[.int .u8 (mk : Nat), .int .i64 (k : Nat), .int .i64 to, .int .i64 term, .int .i64 index, .int .i64 logTerm, .slice E n c, .int .i64 commit, .bool mok] 34)).heap.size = w.heap.size + 1 := by simp
  have HS := Lib.hid (hS.below HBX.out.1)
  have hbg : ¬ w.heap.size = g := by have := hS.lt; omega
  clear hS hl hn hcm hk
  go_enter Try.func44, Try.ntmps44
  go_wp2_with fail
  generalize w.alloc (.cells #[.int .u8 (mk : Nat), .int .i64 (k : Nat), .int .i64 to, .int .i64 term, .int .i64 index, .int .i64 logTerm, .slice E n c, .int .i64 commit, .bool mok] 34) = w0 at *
  have x1 : w0.cell? ⟨w.heap.size, 1, none⟩ = some (.int .i64 (k : Nat)) := HBX.out.2.cell 1
  have x3 : w0.cell? ⟨w.heap.size, 3, none⟩ = some (.int .i64 term) := HBX.out.2.cell 3
  have x8 : w0.cell? ⟨w.heap.size, 8, none⟩ = some (.bool mok) := HBX.out.2.cell 8
  have c1 := HS.out.c1
  have c2 := HS.out.c2
  have c5 := HS.out.c5
  have c8 := HS.out.c8
  have f8 : w0.frozen? ⟨g, 8, none⟩ = false := HS.out.top.frozen 8
  by_cases hr : S.role = 1
  · have b1 : ((S.role : Int) != 1) = false := by rw [hr]; rfl
    by_cases ht : term = S.term
    · have b2 : (term != S.term) = false := by simp [ht]
      cases mok
      · have HQ1 : Hid ((S', ms) = (S, [])) := Lib.hid (by rw [HQ.out, if_pos (.inr (.inr rfl))])
        clear HQ
        go_wp2_with fail
        go_quiet (fail)
        go_wp2_with fail
        go_ret
        have h := HQ1.out
        injection h with h1 h2
        rw [h1, h2]
        exact OutS.nil ⟨A, cs, HS.out.drewN _, .of_below (below_drewN HBX.out.1 _), fun a ha => .inl ⟨a, ha, rfl⟩⟩
      · have HQ1 : Hid ((S', ms) = if 2 * ones (S.vote1 k).voters 7 ≤ S.n then (S.vote1 k, []) else ((S.vote1 k).lead, (S.vote1 k).lead.outs)) := Lib.hid (by rw [HQ.out, if_neg (fun h => h.elim (fun h => h hr) (fun h => h.elim (fun h => h ht) (fun h => by cases h)))])
        clear hr ht HQ
        go_wp2_with fail
        go_quiet (fail)
        go_wp2_with fail
        go_region
        have hst := (HS.out.drewN (nq + 1)).set (S' := S.vote1 k) 8 (.int .u64 ((S.voters ||| 2 ^ k : Nat) : Int)) rfl HS.out.nxl HS.out.mtl rfl
        have HM3 := Lib.hid (And.intro hst.1 (((Chg.of_below HBX.out.1).drewN (nq + 1)).trans hst.2))
        rw [or_shl S.voters HK.out.2.2.2.1 k (by have := HK.out; omega)]
        clear hst b1 b2 c1 c2 c5 c8 f8 x1 x3 x8
        generalize (w0.drewN (nq + 1)).setCell ⟨g, 8, none⟩ (.int .u64 ((S.voters ||| 2 ^ k : Nat) : Int)) = w3 at *
        obtain ⟨nn, hnn⟩ : ∃ z, z = S.n := ⟨_, rfl⟩
        have HNN := Lib.hid hnn
        have c1 : w3.cell? ⟨g, 1, none⟩ = some (.int .i64 (nn : Nat)) := by rw [hnn]; exact HM3.out.1.c1
        have c8 : w3.cell? ⟨g, 8, none⟩ = some (.int .u64 (((S.vote1 k).voters : Nat) : Int)) := HM3.out.1.c8
        have HV8 : Hid ((S.vote1 k).voters < 128) := or_lt HK.out.2.2.2.1 (by have := HK.out; omega)
        have HO := Lib.hid (fun N => ones_any (S.vote1 k).voters (w3.drewN N) HV8.out)
        have HQ2 : Hid ((S', ms) = if 2 * ones (S.vote1 k).voters 7 ≤ nn then (S.vote1 k, []) else ((S.vote1 k).lead, (S.vote1 k).lead.outs)) := by rw [hnn]; exact HQ1.out
        obtain ⟨oc, hoc⟩ : ∃ z, z = ones (S.vote1 k).voters 7 := ⟨_, rfl⟩
        rw [← hoc] at HO HQ2
        have hoc7 : oc ≤ 7 := by rw [hoc]; exact ones_le _ 7
        clear hnn hoc HQ1 HBX HS
        have HCH : Hid (Chg (SvT g A) w w3 ∧ ∀ a, A = some a → (∃ a0, A = some a0 ∧ a.block = a0.block) ∨ w.heap.size ≤ a.block) := ⟨HM3.out.2.mono (fun b hb => .inl hb), fun a ha => .inl ⟨a, ha, rfl⟩⟩
        generalize (S.vote1 k).voters = vv at *
        by_cases hle : 2 * oc ≤ nn
        · have d1 : decide (2 * (oc : Int) ≤ (nn : Int)) = true := decide_eq_true (by omega)
          have HQ3 : Hid ((S', ms) = (S.vote1 k, [])) := Lib.hid (by rw [HQ2.out, if_pos hle])
          clear HQ2
          go_wp2_with fail
          go_quiet (refine Calls.quiet_of_same (HO.out _))
          go_wp2_with fail
          go_ret
          have h := HQ3.out
          injection h with h1 h2
          rw [h1, h2]
          exact OutS.nil ⟨A, cs, HM3.out.1.drewN _, HCH.out.1.drewN _, HCH.out.2⟩
        · have d1 : decide (2 * (oc : Int) ≤ (nn : Int)) = false := decide_eq_false (by omega)
          have HQ3 : Hid ((S', ms) = ((S.vote1 k).lead, (S.vote1 k).lead.outs)) := Lib.hid (by rw [HQ2.out, if_neg hle])
          have HLD := Lib.hid (fun N => lead_any (S.vote1 k) g A cs (w3.drewN N) (HM3.out.1.drewN N) HK.out.1 HK.out.2.1 HK.out.2.2.1)
          clear HQ2
          go_wp2_with fail
          go_quiet (refine Calls.quiet_of_same (HO.out _))
          go_wp2_with fail
          refine (HLD.out _).mono ?_
          intro e w6 hout
          have HOUT := Lib.hid (OutS.after (HCH.out.1.drewN _) HCH.out.2 hout)
          clear hout
          obtain ⟨A', c', B, D, d, _, _, _, _, _, rfl, _⟩ := HOUT.out
          have h := HQ3.out
          injection h with h1 h2
          subst h1
          rw [← h2] at HOUT ⊢
          clear h2 HQ3
          generalize ms.length = ol at *
          go_wp2_with fail
          go_ret
          exact HOUT.out
    · have b2 : (term != S.term) = true := by simp [ht]
      have HQ1 : Hid ((S', ms) = (S, [])) := Lib.hid (by rw [HQ.out, if_pos (.inr (.inl ht))])
      clear HQ
      go_wp2_with fail
      go_quiet (fail)
      go_wp2_with fail
      go_ret
      have h := HQ1.out
      injection h with h1 h2
      rw [h1, h2]
      exact OutS.nil ⟨A, cs, HS.out.drewN _, .of_below (below_drewN HBX.out.1 _), fun a ha => .inl ⟨a, ha, rfl⟩⟩
  · have b1 : ((S.role : Int) != 1) = true := by simp; omega
    have HQ1 : Hid ((S', ms) = (S, [])) := Lib.hid (by rw [HQ.out, if_pos (.inl hr)])
    clear HQ
    go_wp2_with fail
    go_quiet (fail)
    go_wp2_with fail
    go_ret
    have h := HQ1.out
    injection h with h1 h2
    rw [h1, h2]
    exact OutS.nil ⟨A, cs, HS.out.drewN _, .of_below (below_drewN HBX.out.1 _), fun a ha => .inl ⟨a, ha, rfl⟩⟩
end Go.Proofs.Ytjodglepaeomiaa
