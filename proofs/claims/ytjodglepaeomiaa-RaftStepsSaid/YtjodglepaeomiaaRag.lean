/- Contract of the document's agrees. -/
import Derived.Test.YtjodglepaeomiaaRbk
namespace Go.Proofs.Ytjodglepaeomiaa
open Go.RowKit

def Sv.rhave (S : Sv) (m : Nat) : Nat → Nat
  | 0 => 0
  | k + 1 => S.rhave m k + if k = S.id ∨ m ≤ S.mt.getD k 0 then 1 else 0
theorem have_rhave (S : Sv) (m : Nat) : ∀ k, S.have_ m k = S.rhave m k + if k ≤ S.id then 1 else 0
  | 0 => by rw [Sv.have_, Sv.rhave, if_pos (Nat.zero_le _)]
  | k + 1 => by
    rw [Sv.have_, Sv.rhave, have_rhave S m k]
    split <;> split <;> split <;> split <;> omega
theorem rhave_eq {S : Sv} (h : S.id < S.n) (m : Nat) : S.rhave m S.n = S.have_ m S.n := by
  rw [have_rhave, if_neg (by omega), Nat.add_zero]
theorem rhave_le (S : Sv) (m : Nat) : ∀ k, S.rhave m k ≤ k
  | 0 => Nat.le_refl _
  | k + 1 => by have := rhave_le S m k; rw [Sv.rhave]; split <;> omega
def Sv.ragr (S : Sv) : Nat → Nat
  | 0 => S.commit
  | m + 1 => if S.commit < m + 1 ∧ termAt S.log (m + 1) = S.term ∧ S.n < 2 * S.rhave (m + 1) S.n then m + 1 else S.ragr m
theorem termAt_mono : ∀ (l : List Ent) (a b : Int) (i j : Nat), rises l a b = true → 0 < i → i ≤ j → j ≤ l.length → termAt l i ≤ termAt l j
  | [], _, _, i, j, _, h0, h1, h2 => by simp at h2; omega
  | x :: r, a, b, i, j, h, h0, h1, h2 => by
    have hr := h
    simp only [rises, Bool.and_eq_true] at hr
    obtain ⟨i, rfl⟩ : ∃ i', i = i' + 1 := ⟨i - 1, by omega⟩
    obtain ⟨j, rfl⟩ : ∃ j', j = j' + 1 := ⟨j - 1, by omega⟩
    rw [termAt_cons, termAt_cons]
    by_cases hi : i = 0
    · rw [if_pos hi]
      by_cases hj : j = 0
      · rw [if_pos hj]; exact Int.le_refl _
      · rw [if_neg hj]
        exact (rises_ge r x.term b j hr.2 (by omega) (by simpa using h2)).1
    · rw [if_neg hi, if_neg (by omega)]
      exact termAt_mono r x.term b i j hr.2 (by omega) (by omega) (by simpa using h2)
theorem ragr_low {S : Sv} : ∀ m, m ≤ S.commit → S.ragr m = S.commit
  | 0, _ => rfl
  | m + 1, h => by rw [Sv.ragr, if_neg (fun e => by omega)]; exact ragr_low m (by omega)
theorem ragr_old {S : Sv} : ∀ m, (∀ i, 0 < i → i ≤ m → termAt S.log i ≠ S.term) → S.ragr m = S.commit
  | 0, _ => rfl
  | m + 1, h => by
    rw [Sv.ragr, if_neg (fun e => h (m + 1) (by omega) (Nat.le_refl _) e.2.1)]
    exact ragr_old m (fun i h0 h1 => h i h0 (by omega))
theorem agr_ragr {S : Sv} (h : S.Ok) : ∀ m, m ≤ S.log.length → S.agr m = S.ragr m
  | 0, _ => rfl
  | m + 1, hm => by
    rw [Sv.agr, Sv.ragr, rhave_eq h.id]
    by_cases hc : S.commit < m + 1
    · by_cases ht : termAt S.log (m + 1) = S.term
      · rw [if_pos ⟨hc, ht⟩]
        by_cases hh : S.n < 2 * S.have_ (m + 1) S.n
        · rw [if_pos hh, if_pos ⟨hc, ht, hh⟩]
        · rw [if_neg hh, if_neg (fun e => hh e.2.2)]
          exact agr_ragr h m (by omega)
      · rw [if_neg (fun e => ht e.2), if_neg (fun e => ht e.2.1)]
        refine (ragr_old m (fun i h0 h1 e => ?_)).symm
        have h2 := termAt_mono S.log 1 S.term i (m + 1) h.log h0 (by omega) hm
        have h3 := rises_ge S.log 1 S.term (m + 1) h.log (by omega) hm
        omega
    · rw [if_neg (fun e => hc e.1), if_neg (fun e => hc e.1)]
      exact (ragr_low m (by omega)).symm
theorem ragr_le (S : Sv) : ∀ m, S.ragr m ≤ max S.commit m
  | 0 => by rw [Sv.ragr]; omega
  | m + 1 => by
    rw [Sv.ragr]
    have := ragr_le S m
    split <;> omega
set_option maxRecDepth 100000 in
set_option maxHeartbeats 8000000 in
theorem agrees_any (S : Sv) (g : Nat) (A : Option Addr) (c : Nat) (V : List Bool) (P : List (Nat × Nat)) (w : World) (hS : RvM w g S A c V P) (hok : S.Ok) (hP : ∀ k, k < S.n → (P.getD k (0, 0)).2 = S.mt.getD k 0) :
    Calls Try.prog 79 #[.pointer (some ⟨g, 0, none⟩)] w fun e w' => e = .returned (.tuple #[]) ∧ KeepsR w g A S.agree V P w' := by
  have HM : Hid (∀ W, Below w.heap.size w W → RvM W g S A c V P) := fun W hW => hS.below hW
  have HPP := Lib.hid hP
  obtain ⟨l, hll⟩ : ∃ l, l = S.log.length := ⟨_, rfl⟩
  obtain ⟨n, hnn⟩ : ∃ n, n = S.n := ⟨_, rfl⟩
  obtain ⟨cm, hcc⟩ : ∃ n, n = S.commit := ⟨_, rfl⟩
  obtain ⟨id, hid_⟩ : ∃ n, n = S.id := ⟨_, rfl⟩
  have HN := Lib.hid (And.intro hll (And.intro hnn (And.intro hcc (And.intro hid_ hok))))
  have hl : l ≤ 4096 := by rw [hll]; exact hok.len
  have hn : n ≤ 7 := by rw [hnn]; exact hok.n
  have hcm : cm ≤ l := by rw [hll, hcc]; exact hok.com
  have HC : Hid (∀ W, Below w.heap.size w W → W.cell? ⟨g, 0, none⟩ = some (.int .i64 (id : Nat)) ∧ W.cell? ⟨g, 1, none⟩ = some (.int .i64 (n : Nat)) ∧ W.cell? ⟨g, 2, none⟩ = some (.int .i64 S.term) ∧ W.cell? ⟨g, 4, none⟩ = some (.slice A l c) ∧ W.cell? ⟨g, 7, none⟩ = some (.int .i64 (cm : Nat))) := fun W hW =>
    ⟨by rw [hid_]; exact (HM.out W hW).c0, by rw [hnn]; exact (HM.out W hW).c1, (HM.out W hW).c2, by rw [hll]; exact (HM.out W hW).c4, by rw [hcc]; exact (HM.out W hW).c7⟩
  have HAG : Hid (S.agree = { S with commit := S.ragr l }) := by rw [hll, ← agr_ragr hok _ (Nat.le_refl _)]; exact Lib.hid rfl
  have HR0 : Hid (S.ragr cm = cm) := by rw [hcc]; exact Lib.hid (ragr_low _ (Nat.le_refl _))
  rw [HAG.out]
  have c7 := (HC.out w (Below.refl _ _)).2.2.2.2
  clear hS hok hP hll hnn hcc hid_
  go_enter Try.func79, Try.ntmps79
  go_wp2_with fail
  go_loopw [2, 3] (fun s2 s3 wr => ∃ m : Nat, s2 = .int .i64 (S.ragr m : Nat) ∧ s3 = .int .i64 ((m + 1 : Nat) : Int) ∧ cm ≤ m ∧ m ≤ l ∧ Below w.heap.size w wr) (fun _ s3 _ => l + 1 - (intOf s3).toNat)
  case atStart => exact ⟨cm, by rw [HR0.out], by go_num, Nat.le_refl _, hcm, Below.refl _ _⟩
  case round =>
    obtain ⟨m, rfl, rfl, hm0, hm, hb⟩ := hrel
    have HB := Lib.hid hb
    have hC := HC.out wr hb
    obtain ⟨k0, k1, k2, k4, k7⟩ := hC
    clear hb
    obtain ⟨bst, hbst⟩ : ∃ z, z = S.ragr m := ⟨_, rfl⟩
    have hbl : bst ≤ 4096 := by rw [hbst]; have := ragr_le S m; rw [← HN.out.2.2.1] at this; omega
    have HBST := Lib.hid hbst
    rw [← hbst]
    clear hbst
    obtain ⟨p, hp⟩ : ∃ z, z = m + 1 := ⟨_, rfl⟩
    have HPM := Lib.hid hp
    rw [← hp]
    have hp0 : p ≤ l + 1 ∧ 1 ≤ p := by omega
    obtain ⟨hp1, hp2⟩ := hp0
    clear hp
    by_cases hgt : p ≤ l
    · have d1 : decide ((p : Int) ≤ (l : Int)) = true := decide_eq_true (by omega)
      go_wp2_with fail
      go_loopw [4, 5] (fun s4 s5 wl => ∃ k : Nat, s4 = .int .i64 (S.rhave p k : Nat) ∧ s5 = .int .i64 (k : Nat) ∧ k ≤ n ∧ wl = wr) (fun _ s5 _ => n - (intOf s5).toNat)
      case atStart => exact ⟨0, rfl, rfl, by omega, rfl⟩
      case round =>
        obtain ⟨k, rfl, rfl, hk, rfl⟩ := hrel
        have hle := rhave_le S p k
        by_cases hlt : k < n
        · have d2 : decide ((k : Int) < (n : Int)) = true := decide_eq_true (by omega)
          have i0 : (0 : Int) ≤ (k : Int) := by omega
          have i7 : (k : Int) < 7 := by omega
          by_cases hid : k = id
          · have b2 : ((k : Int) == (id : Int)) = true := by simp [hid]
            have HH := Lib.hid (show S.rhave p (k + 1) = S.rhave p k + 1 from by rw [Sv.rhave, if_pos (.inl (hid.trans HN.out.2.2.2.1))])
            clear hid
            generalize S.rhave p k = hv at *
            go_wp2_with fail
            go_roundw
            case rel => exact ⟨k + 1, by rw [HH.out]; go_num, by go_num, by omega, trivial⟩
            case measure => simp [intOf]; omega
          · have b2 : ((k : Int) == (id : Int)) = false := by simp; omega
            have jm := ((HM.out _ HB.out).cp (show k < 7 by omega)).2
            obtain ⟨q, hq⟩ : ∃ q, q = S.mt.getD k 0 := ⟨_, rfl⟩
            rw [HPP.out k (by rw [← HN.out.2.1]; exact hlt), ← hq] at jm
            by_cases hge : p ≤ q
            · have d3 : decide ((p : Int) ≤ (q : Int)) = true := decide_eq_true (by omega)
              have HH := Lib.hid (show S.rhave p (k + 1) = S.rhave p k + 1 from by rw [Sv.rhave, if_pos (.inr (hq ▸ hge))])
              clear hid hq
              generalize S.rhave p k = hv at *
              go_wp2_with fail
              go_roundw
              case rel => exact ⟨k + 1, by rw [HH.out]; go_num, by go_num, by omega, trivial⟩
              case measure => simp [intOf]; omega
            · have d3 : decide ((p : Int) ≤ (q : Int)) = false := decide_eq_false (by omega)
              have HH := Lib.hid (show S.rhave p (k + 1) = S.rhave p k from by rw [Sv.rhave, if_neg (fun e => e.elim (fun e => hid (e.trans HN.out.2.2.2.1.symm)) (fun e => hge (hq ▸ e))), Nat.add_zero])
              clear hid hq
              generalize S.rhave p k = hv at *
              go_wp2_with fail
              go_roundw
              case rel => exact ⟨k + 1, by rw [HH.out], by go_num, by omega, trivial⟩
              case measure => simp [intOf]; omega
        · have d2 : decide ((k : Int) < (n : Int)) = false := decide_eq_false (by omega)
          obtain rfl : k = n := by omega
          have HT := Lib.hid (fun N => termat_any ((HM.out _ HB.out).drewN N) p (by rw [← HN.out.1]; exact hgt) (by rw [← HN.out.1]; omega))
          by_cases hte : termAt S.log p = S.term
          · have b1 : (termAt S.log p == S.term) = true := by simp [hte]
            obtain ⟨T, hT⟩ : ∃ T, T = termAt S.log p := ⟨_, rfl⟩
            rw [← hT] at HT b1
            have HTE := Lib.hid hte
            clear hT hte
            go_wp2_with fail
            by_cases hh : k < 2 * S.rhave p k
            · have d5 : decide ((k : Int) / 2 < ((S.rhave p k : Nat) : Int)) = true := decide_eq_true (by omega)
              have HRG : Hid (S.ragr p = p) := by
                rw [HPM.out, Sv.ragr, if_pos ⟨by rw [← HN.out.2.2.1]; omega, by rw [← HPM.out]; exact HTE.out, by rw [← HPM.out, ← HN.out.2.1]; exact hh⟩]
                exact Lib.hid rfl
              generalize S.rhave p k = hv at *
              go_quiet (refine Calls.quiet_of_same (HT.out _))
              go_wp2_with fail
              go_roundw
              case rel => exact ⟨p, by rw [HRG.out], by go_num, by have := HPM.out; omega, hgt, below_drewN HB.out _⟩
              case measure => simp [intOf]; omega
            · have d5 : decide ((k : Int) / 2 < ((S.rhave p k : Nat) : Int)) = false := decide_eq_false (by omega)
              have HRG : Hid (S.ragr p = bst) := by
                rw [HBST.out, HPM.out, Sv.ragr, if_neg (fun e => hh (by rw [HPM.out, HN.out.2.1]; exact e.2.2))]
                exact Lib.hid rfl
              generalize S.rhave p k = hv at *
              go_quiet (refine Calls.quiet_of_same (HT.out _))
              go_wp2_with fail
              go_roundw
              case rel => exact ⟨p, by rw [HRG.out], by go_num, by have := HPM.out; omega, hgt, below_drewN HB.out _⟩
              case measure => simp [intOf]; omega
          · have b1 : (termAt S.log p == S.term) = false := by simp [hte]
            obtain ⟨T, hT⟩ : ∃ T, T = termAt S.log p := ⟨_, rfl⟩
            rw [← hT] at HT b1
            have HTE := Lib.hid hte
            clear hT hte
            go_wp2_with fail
            have HRG : Hid (S.ragr p = bst) := by
              rw [HBST.out, HPM.out, Sv.ragr, if_neg (fun e => HTE.out (by rw [HPM.out]; exact e.2.1))]
              exact Lib.hid rfl
            go_quiet (refine Calls.quiet_of_same (HT.out _))
            go_wp2_with fail
            go_roundw
            case rel => exact ⟨p, by rw [HRG.out], by go_num, by have := HPM.out; omega, hgt, below_drewN HB.out _⟩
            case measure => simp [intOf]; omega
    · have d1 : decide ((p : Int) ≤ (l : Int)) = false := decide_eq_false (by omega)
      have f7 : wr.frozen? ⟨g, 7, none⟩ = false := (HM.out _ HB.out).top.frozen 7
      go_wp2_with fail
      go_end0
      refine ⟨rfl, ?_⟩
      have hml : m = l := by have := HPM.out; omega
      have hb' : bst = S.ragr l := by rw [HBST.out, hml]
      rw [hb']
      have hk := (HM.out _ HB.out).set (S' := { S with commit := S.ragr l }) 7 (.int .i64 (S.ragr l : Nat)) rfl (HM.out _ HB.out).vl (HM.out _ HB.out).pl rfl
      exact ⟨A, c, hk.1, (Chg.of_below HB.out).trans (hk.2.mono (fun b hb => .inl hb)), fun a ha => .inl ⟨a, ha, rfl⟩⟩
end Go.Proofs.Ytjodglepaeomiaa
