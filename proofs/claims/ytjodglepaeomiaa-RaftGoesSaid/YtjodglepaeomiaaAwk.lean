/- One alone leads: awake. -/
import Derived.Test.YtjodglepaeomiaaKep
namespace Go.Proofs.Ytjodglepaeomiaa
open Go.RowKit

def oneS : Sv := Sv.begin_ 0 1 0 (-1) []
theorem oneS_good : oneS.Good := begin_good (id := 0) (n := 1) (by omega) (by rfl)
theorem RdE.nil (w : World) : RdE w none [] := .inl rfl
set_option maxRecDepth 100000 in
set_option maxHeartbeats 4000000 in
theorem awake_any (w : World) : Calls Try.prog 15 #[] w fun e w' => e = .returned (.bool true) ∧ Below w.heap.size w w' := by
  have H0 := Lib.hid (new_any 0 1 0 (-1) [] none 0 w (RdE.nil w) (by decide) (fun _ => rfl))
  have HG0 := Lib.hid oneS_good
  have HG1 := Lib.hid oneS_good.tick
  have e1 : oneS.tick.2 = [] := by rfl
  have e2 : (oneS.tick.1.propose ⟨#[120]⟩).2 = (2, 0) := by rfl
  have e3 : (oneS.tick.1.propose ⟨#[120]⟩).1.commit = 2 := by rfl
  have e4 : (oneS.tick.1.propose ⟨#[120]⟩).1.role = 2 := by rfl
  have e5 : (oneS.tick.1.propose ⟨#[120]⟩).1.n = 1 := by rfl
  have HE := Lib.hid (And.intro e1 (And.intro e2 (And.intro e3 (And.intro e4 e5))))
  clear e1 e2 e3 e4 e5
  go_enter Try.func15, Try.ntmps15
  go_wp2_with fail
  refine H0.out.mono ?_
  intro e w1 hp
  unfold NewPost at hp
  rw [if_neg (by omega), if_neg (by show ¬ (true = false); decide)] at hp
  obtain ⟨⟨g, A, c, rfl, hg, hA, hm⟩, hb⟩ := hp
  have H1 : Hid (SvM w1 g oneS A c ∧ Below w.heap.size w w1 ∧ w.heap.size ≤ g ∧ ∀ a, A = some a → w.heap.size ≤ a.block) := Lib.hid ⟨hm, hb, hg, hA⟩
  clear hg hA hm hb
  go_wp2_with fail
  refine (tick_any oneS g A c w1 H1.out.1 HG0.out.toOk).mono ?_
  rw [HE.out.1]
  rintro e w2 ⟨A2, c2, B, D, d, hm2, hc2, ht2, _, _, rfl, _⟩
  have H2 : Hid (SvM w2 g oneS.tick.1 A2 c2 ∧ Chg (fun b => w.heap.size ≤ b) w w2 ∧ ∀ a, A2 = some a → w.heap.size ≤ a.block) := Lib.hid ⟨hm2, (Chg.of_below H1.out.2.1).trans (hc2.mono (fun b hb => by
    rcases hb with rfl | ⟨a, ha, rfl⟩
    · exact H1.out.2.2.1
    · exact H1.out.2.2.2 a ha)), fun a ha => by
    rcases ht2 a ha with ⟨a0, h0, h1⟩ | h1
    · rw [h1]; exact H1.out.2.2.2 a0 h0
    · exact Nat.le_trans H1.out.2.1.size h1⟩
  clear hm2 hc2 ht2
  go_wp2_with fail
  refine (propose_any oneS.tick.1 ⟨#[120]⟩ g A2 c2 w2 H2.out.1 HG1.out.toOk).mono ?_
  rw [HE.out.2.1]
  rintro e w3 ⟨rfl, A3, c3, hm3, hc3, ht3⟩
  have H3 : Hid (SvM w3 g (oneS.tick.1.propose ⟨#[120]⟩).1 A3 c3 ∧ Chg (fun b => w.heap.size ≤ b) w w3) := Lib.hid ⟨hm3, H2.out.2.1.trans (hc3.mono (fun b hb => by
    rcases hb with rfl | ⟨a, ha, rfl⟩
    · exact H1.out.2.2.1
    · exact H2.out.2.2 a ha))⟩
  clear hm3 hc3 ht3
  have HCM := Lib.hid (Commit_any w3 g 1 2 (by have h := H3.out.1.c1; rw [HE.out.2.2.2.2] at h; exact h) (by decide) (by have h := H3.out.1.c7; rw [HE.out.2.2.1] at h; exact h))
  have HRL := Lib.hid (Role_any w3 g 1 2 (by have h := H3.out.1.c1; rw [HE.out.2.2.2.2] at h; exact h) (by decide) (by have h := H3.out.1.c5; rw [HE.out.2.2.2.1] at h; exact h))
  go_wp2_with (first | ((with_reducible refine HCM.out.mono ?_); rintro e w4 ⟨rfl, hw4⟩; rw [hw4]; clear hw4 w4) | ((with_reducible refine HRL.out.mono ?_); rintro e w4 ⟨rfl, hw4⟩; rw [hw4]; clear hw4 w4) | fail)
  go_ret
  exact ⟨rfl, Chg.below (Below.refl _ _) H3.out.2 (Nat.le_refl _) (fun k hk => hk)⟩
end Go.Proofs.Ytjodglepaeomiaa
