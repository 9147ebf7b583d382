/- The contract of forms: the table is the given one. -/
import Derived.Outline
import Derived.Laws.EntriesVeiled
import Derived.Test.YtpdofcjgpomehaaFrm
namespace Go.Proofs.Ytpdofcjgpomehaa
open Go.RowKit Go.Maps

set_option maxRecDepth 100000 in
set_option maxHeartbeats 8000000 in
theorem forms_any (w : World) : Calls Try.prog 26 #[] w fun e w' => ∃ gm m, e = .returned (.map (some gm)) ∧ MapF w' gm m formOf ∧ Below w.heap.size w w' ∧ w.heap.size ≤ gm := by
  have hmm := @run_makeMap Try.prog
  have H0 : Hid (MapF (w.alloc (.map #[] 0)) w.heap.size 0 (fun _ => none) ∧ Below w.heap.size w (w.alloc (.map #[] 0))) := ⟨MapF.new w, (Below.refl _ _).alloc (Nat.le_refl _) _⟩
  go_enter Try.func26, Try.ntmps26
  go_wp2_with (first | (refine wpList_insert_form _ rfl _ _ _ (.inl rfl) w.heap.size 0 1 (fun _ => none) ⟨33, 1, 2048, 34⟩ rfl rfl rfl (by omega) H0.out.1 (by omega) ?_; intro w1 m1 g1; have H1 := Lib.hid (And.intro m1 (H0.out.2.grown g1 H0.out.2.size (fun r hr => by injection hr with hr; rw [← hr]; exact Nat.le_refl _))); clear m1 g1 H0) | (refine wpList_insert_form _ rfl _ _ _ (.inl rfl) w.heap.size 1 2 (fput (fun _ => none) 1 ⟨33, 1, 2048, 34⟩) ⟨33, 0, 0, 35⟩ rfl rfl rfl (by omega) H1.out.1 (by omega) ?_; intro w2 m2 g2; have H2 := Lib.hid (And.intro m2 (H1.out.2.grown g2 H1.out.2.size (fun r hr => by injection hr with hr; rw [← hr]; exact Nat.le_refl _))); clear m2 g2 H1) | (refine wpList_insert_form _ rfl _ _ _ (.inl rfl) w.heap.size 2 3 (fput (fput (fun _ => none) 1 ⟨33, 1, 2048, 34⟩) 2 ⟨33, 0, 0, 35⟩) ⟨36, 0, 2048, 37⟩ rfl rfl rfl (by omega) H2.out.1 (by omega) ?_; intro w3 m3 g3; have H3 := Lib.hid (And.intro m3 (H2.out.2.grown g3 H2.out.2.size (fun r hr => by injection hr with hr; rw [← hr]; exact Nat.le_refl _))); clear m3 g3 H2) | (refine wpList_insert_form _ rfl _ _ _ (.inl rfl) w.heap.size 3 6 (fput (fput (fput (fun _ => none) 1 ⟨33, 1, 2048, 34⟩) 2 ⟨33, 0, 0, 35⟩) 3 ⟨36, 0, 2048, 37⟩) ⟨36, 2, 3, 38⟩ rfl rfl rfl (by omega) H3.out.1 (by omega) ?_; intro w4 m4 g4; have H4 := Lib.hid (And.intro m4 (H3.out.2.grown g4 H3.out.2.size (fun r hr => by injection hr with hr; rw [← hr]; exact Nat.le_refl _))); clear m4 g4 H3) | (refine wpList_insert_form _ rfl _ _ _ (.inl rfl) w.heap.size 4 7 (fput (fput (fput (fput (fun _ => none) 1 ⟨33, 1, 2048, 34⟩) 2 ⟨33, 0, 0, 35⟩) 3 ⟨36, 0, 2048, 37⟩) 6 ⟨36, 2, 3, 38⟩) ⟨36, 2, 2, 38⟩ rfl rfl rfl (by omega) H4.out.1 (by omega) ?_; intro w5 m5 g5; have H5 := Lib.hid (And.intro m5 (H4.out.2.grown g5 H4.out.2.size (fun r hr => by injection hr with hr; rw [← hr]; exact Nat.le_refl _))); clear m5 g5 H4) | (refine wpList_insert_form _ rfl _ _ _ (.inl rfl) w.heap.size 5 24 (fput (fput (fput (fput (fput (fun _ => none) 1 ⟨33, 1, 2048, 34⟩) 2 ⟨33, 0, 0, 35⟩) 3 ⟨36, 0, 2048, 37⟩) 6 ⟨36, 2, 3, 38⟩) 7 ⟨36, 2, 2, 38⟩) ⟨39, 0, 0, 35⟩ rfl rfl rfl (by omega) H5.out.1 (by omega) ?_; intro w6 m6 g6; have H6 := Lib.hid (And.intro m6 (H5.out.2.grown g6 H5.out.2.size (fun r hr => by injection hr with hr; rw [← hr]; exact Nat.le_refl _))); clear m6 g6 H5) | (refine wpList_insert_form _ rfl _ _ _ (.inl rfl) w.heap.size 6 25 (fput (fput (fput (fput (fput (fput (fun _ => none) 1 ⟨33, 1, 2048, 34⟩) 2 ⟨33, 0, 0, 35⟩) 3 ⟨36, 0, 2048, 37⟩) 6 ⟨36, 2, 3, 38⟩) 7 ⟨36, 2, 2, 38⟩) 24 ⟨39, 0, 0, 35⟩) ⟨36, 0, 2048, 40⟩ rfl rfl rfl (by omega) H6.out.1 (by omega) ?_; intro w7 m7 g7; have H7 := Lib.hid (And.intro m7 (H6.out.2.grown g7 H6.out.2.size (fun r hr => by injection hr with hr; rw [← hr]; exact Nat.le_refl _))); clear m7 g7 H6) | (refine wpList_insert_form _ rfl _ _ _ (.inl rfl) w.heap.size 7 53 (fput (fput (fput (fput (fput (fput (fput (fun _ => none) 1 ⟨33, 1, 2048, 34⟩) 2 ⟨33, 0, 0, 35⟩) 3 ⟨36, 0, 2048, 37⟩) 6 ⟨36, 2, 3, 38⟩) 7 ⟨36, 2, 2, 38⟩) 24 ⟨39, 0, 0, 35⟩) 25 ⟨36, 0, 2048, 40⟩) ⟨36, 1, 1, 41⟩ rfl rfl rfl (by omega) H7.out.1 (by omega) ?_; intro w8 m8 g8; have H8 := Lib.hid (And.intro m8 (H7.out.2.grown g8 H7.out.2.size (fun r hr => by injection hr with hr; rw [← hr]; exact Nat.le_refl _))); clear m8 g8 H7) | (refine wpList_insert_form _ rfl _ _ _ (.inl rfl) w.heap.size 8 23 (fput (fput (fput (fput (fput (fput (fput (fput (fun _ => none) 1 ⟨33, 1, 2048, 34⟩) 2 ⟨33, 0, 0, 35⟩) 3 ⟨36, 0, 2048, 37⟩) 6 ⟨36, 2, 3, 38⟩) 7 ⟨36, 2, 2, 38⟩) 24 ⟨39, 0, 0, 35⟩) 25 ⟨36, 0, 2048, 40⟩) 53 ⟨36, 1, 1, 41⟩) ⟨36, 0, 0, 35⟩ rfl rfl rfl (by omega) H8.out.1 (by omega) ?_; intro w9 m9 g9; have H9 := Lib.hid (And.intro m9 (H8.out.2.grown g9 H8.out.2.size (fun r hr => by injection hr with hr; rw [← hr]; exact Nat.le_refl _))); clear m9 g9 H8))
  rw [ftab_one] at H9
  obtain ⟨gm, hgm⟩ : ∃ g, g = w.heap.size := ⟨_, rfl⟩
  have HGM := Lib.hid hgm
  have H9b := Lib.hid H9.out.2
  have H9a := Lib.hid H9.out.1
  rw [← hgm] at H9a ⊢
  clear hgm hmm H9
  go_loopw [2] (fun s2 wr => ∃ (k m : Nat), s2 = .int .u8 k ∧ 1 ≤ k ∧ k ≤ 58 ∧ m ≤ 9 + k ∧ MapF wr gm m (ftab k) ∧ Below w.heap.size w wr) (fun s2 _ => 58 - (intOf s2).toNat)
  case atStart => exact ⟨1, 9, rfl, by omega, by omega, by omega, H9a.out, H9b.out⟩
  case round =>
    clear H9a H9b
    obtain ⟨k, m, rfl, hk1, hk2, hm, hmap, hb⟩ := hrel
    have HM := Lib.hid (And.intro hmap hb)
    clear hmap hb
    by_cases hlt : k ≤ 57
    · by_cases hli : listed k
      · obtain ⟨fo, hfo⟩ : ∃ fo, formOf k = some fo := by
          unfold listed at hli
          rcases hli with h | h | h | h | h | h | h | h | h <;> subst h <;> exact ⟨_, rfl⟩
        have HF : Hid (ftab k k = some fo) := by unfold ftab; rw [if_pos (.inr hli)]; exact hfo
        have HS : Hid (ftab (k + 1) = ftab k) := ftab_skip (.inl hli)
        clear hli hfo
        obtain ⟨fa, fb, fc, fd'⟩ := fo
        go_wp2_with (refine wpList_lookup_some _ rfl _ _ rfl gm m k (ftab k) ⟨fa, fb, fc, fd'⟩ rfl rfl (by omega) HM.out.1 HF.out ?_)
        go_roundw
        case rel => exact ⟨k + 1, m, by go_num, by omega, by omega, by omega, by rw [HS.out]; exact HM.out.1.below ((Below.refl _ _).alloc (Nat.le_refl _) _), HM.out.2.alloc HM.out.2.size _⟩
        case measure => simp [intOf]; omega
      · have HF : Hid (ftab k k = none) := ftab_none hli
        by_cases e4 : k = 4
        · have t4 : ((k : Int) == 4) = true := by rw [beq_iff_eq]; omega
          have HFP : Hid (formOf k = some ⟨33, 1, 1, 40⟩) := by rw [e4]; exact rfl
          have t5 : ((k : Int) == 5) = false := by rw [beq_eq_false_iff_ne]; omega
          have t20 : ((k : Int) == 20) = false := by rw [beq_eq_false_iff_ne]; omega
          have t21 : ((k : Int) == 21) = false := by rw [beq_eq_false_iff_ne]; omega
          have t22 : ((k : Int) == 22) = false := by rw [beq_eq_false_iff_ne]; omega
          have t57 : ((k : Int) == 57) = false := by rw [beq_eq_false_iff_ne]; omega
          have t26 : ((k : Int) == 26) = false := by rw [beq_eq_false_iff_ne]; omega
          have t56 : ((k : Int) == 56) = false := by rw [beq_eq_false_iff_ne]; omega
          have t50 : ((k : Int) == 50) = false := by rw [beq_eq_false_iff_ne]; omega
          have t51 : ((k : Int) == 51) = false := by rw [beq_eq_false_iff_ne]; omega
          have t8 : ((k : Int) == 8) = false := by rw [beq_eq_false_iff_ne]; omega
          have t9 : ((k : Int) == 9) = false := by rw [beq_eq_false_iff_ne]; omega
          have t10 : ((k : Int) == 10) = false := by rw [beq_eq_false_iff_ne]; omega
          have t11 : ((k : Int) == 11) = false := by rw [beq_eq_false_iff_ne]; omega
          have t43 : ((k : Int) == 43) = false := by rw [beq_eq_false_iff_ne]; omega
          have t44 : ((k : Int) == 44) = false := by rw [beq_eq_false_iff_ne]; omega
          have t45 : ((k : Int) == 45) = false := by rw [beq_eq_false_iff_ne]; omega
          have t46 : ((k : Int) == 46) = false := by rw [beq_eq_false_iff_ne]; omega
          have t47 : ((k : Int) == 47) = false := by rw [beq_eq_false_iff_ne]; omega
          have t48 : ((k : Int) == 48) = false := by rw [beq_eq_false_iff_ne]; omega
          have t52 : ((k : Int) == 52) = false := by rw [beq_eq_false_iff_ne]; omega
          have t54 : ((k : Int) == 54) = false := by rw [beq_eq_false_iff_ne]; omega
          have t55 : ((k : Int) == 55) = false := by rw [beq_eq_false_iff_ne]; omega
          clear hli e4
          go_wp2_with (first | (refine wpList_lookup_none _ rfl _ _ rfl gm m k (ftab k) rfl rfl (by omega) HM.out.1 HF.out ?_) | (refine wpList_insert_form _ rfl _ _ _ (.inr rfl) gm m k (ftab k) ⟨33, 1, 1, 40⟩ rfl rfl rfl (by omega) (HM.out.1.below ((Below.refl _ _).alloc (Nat.le_refl _) _)) (by omega) ?_; intro wz mz gz; have HZ := Lib.hid (And.intro mz ((HM.out.2.alloc HM.out.2.size _).grown gz (by have := HM.out.2.size; simp; omega) (fun r hr => by injection hr with hr; rw [← hr, HGM.out]; exact Nat.le_refl _))); clear mz gz))
          go_roundw
          case rel => exact ⟨k + 1, m + 1, by go_num, by omega, by omega, by omega, by rw [← ftab_put HFP.out]; exact HZ.out.1, HZ.out.2⟩
          case measure => simp [intOf]; omega
        · have t4 : ((k : Int) == 4) = false := by rw [beq_eq_false_iff_ne]; omega
          by_cases e5 : k = 5
          · have t5 : ((k : Int) == 5) = true := by rw [beq_iff_eq]; omega
            have HFP : Hid (formOf k = some ⟨33, 1, 1, 40⟩) := by rw [e5]; exact rfl
            have t20 : ((k : Int) == 20) = false := by rw [beq_eq_false_iff_ne]; omega
            have t21 : ((k : Int) == 21) = false := by rw [beq_eq_false_iff_ne]; omega
            have t22 : ((k : Int) == 22) = false := by rw [beq_eq_false_iff_ne]; omega
            have t57 : ((k : Int) == 57) = false := by rw [beq_eq_false_iff_ne]; omega
            have t26 : ((k : Int) == 26) = false := by rw [beq_eq_false_iff_ne]; omega
            have t56 : ((k : Int) == 56) = false := by rw [beq_eq_false_iff_ne]; omega
            have t50 : ((k : Int) == 50) = false := by rw [beq_eq_false_iff_ne]; omega
            have t51 : ((k : Int) == 51) = false := by rw [beq_eq_false_iff_ne]; omega
            have t8 : ((k : Int) == 8) = false := by rw [beq_eq_false_iff_ne]; omega
            have t9 : ((k : Int) == 9) = false := by rw [beq_eq_false_iff_ne]; omega
            have t10 : ((k : Int) == 10) = false := by rw [beq_eq_false_iff_ne]; omega
            have t11 : ((k : Int) == 11) = false := by rw [beq_eq_false_iff_ne]; omega
            have t43 : ((k : Int) == 43) = false := by rw [beq_eq_false_iff_ne]; omega
            have t44 : ((k : Int) == 44) = false := by rw [beq_eq_false_iff_ne]; omega
            have t45 : ((k : Int) == 45) = false := by rw [beq_eq_false_iff_ne]; omega
            have t46 : ((k : Int) == 46) = false := by rw [beq_eq_false_iff_ne]; omega
            have t47 : ((k : Int) == 47) = false := by rw [beq_eq_false_iff_ne]; omega
            have t48 : ((k : Int) == 48) = false := by rw [beq_eq_false_iff_ne]; omega
            have t52 : ((k : Int) == 52) = false := by rw [beq_eq_false_iff_ne]; omega
            have t54 : ((k : Int) == 54) = false := by rw [beq_eq_false_iff_ne]; omega
            have t55 : ((k : Int) == 55) = false := by rw [beq_eq_false_iff_ne]; omega
            clear hli e4 e5
            go_wp2_with (first | (refine wpList_lookup_none _ rfl _ _ rfl gm m k (ftab k) rfl rfl (by omega) HM.out.1 HF.out ?_) | (refine wpList_insert_form _ rfl _ _ _ (.inr rfl) gm m k (ftab k) ⟨33, 1, 1, 40⟩ rfl rfl rfl (by omega) (HM.out.1.below ((Below.refl _ _).alloc (Nat.le_refl _) _)) (by omega) ?_; intro wz mz gz; have HZ := Lib.hid (And.intro mz ((HM.out.2.alloc HM.out.2.size _).grown gz (by have := HM.out.2.size; simp; omega) (fun r hr => by injection hr with hr; rw [← hr, HGM.out]; exact Nat.le_refl _))); clear mz gz))
            go_roundw
            case rel => exact ⟨k + 1, m + 1, by go_num, by omega, by omega, by omega, by rw [← ftab_put HFP.out]; exact HZ.out.1, HZ.out.2⟩
            case measure => simp [intOf]; omega
          · have t5 : ((k : Int) == 5) = false := by rw [beq_eq_false_iff_ne]; omega
            by_cases e20 : k = 20
            · have t20 : ((k : Int) == 20) = true := by rw [beq_iff_eq]; omega
              have HFP : Hid (formOf k = some ⟨36, 0, 0, 35⟩) := by rw [e20]; exact rfl
              have t21 : ((k : Int) == 21) = false := by rw [beq_eq_false_iff_ne]; omega
              have t22 : ((k : Int) == 22) = false := by rw [beq_eq_false_iff_ne]; omega
              have t57 : ((k : Int) == 57) = false := by rw [beq_eq_false_iff_ne]; omega
              have t26 : ((k : Int) == 26) = false := by rw [beq_eq_false_iff_ne]; omega
              have t56 : ((k : Int) == 56) = false := by rw [beq_eq_false_iff_ne]; omega
              have t50 : ((k : Int) == 50) = false := by rw [beq_eq_false_iff_ne]; omega
              have t51 : ((k : Int) == 51) = false := by rw [beq_eq_false_iff_ne]; omega
              have t8 : ((k : Int) == 8) = false := by rw [beq_eq_false_iff_ne]; omega
              have t9 : ((k : Int) == 9) = false := by rw [beq_eq_false_iff_ne]; omega
              have t10 : ((k : Int) == 10) = false := by rw [beq_eq_false_iff_ne]; omega
              have t11 : ((k : Int) == 11) = false := by rw [beq_eq_false_iff_ne]; omega
              have t43 : ((k : Int) == 43) = false := by rw [beq_eq_false_iff_ne]; omega
              have t44 : ((k : Int) == 44) = false := by rw [beq_eq_false_iff_ne]; omega
              have t45 : ((k : Int) == 45) = false := by rw [beq_eq_false_iff_ne]; omega
              have t46 : ((k : Int) == 46) = false := by rw [beq_eq_false_iff_ne]; omega
              have t47 : ((k : Int) == 47) = false := by rw [beq_eq_false_iff_ne]; omega
              have t48 : ((k : Int) == 48) = false := by rw [beq_eq_false_iff_ne]; omega
              have t52 : ((k : Int) == 52) = false := by rw [beq_eq_false_iff_ne]; omega
              have t54 : ((k : Int) == 54) = false := by rw [beq_eq_false_iff_ne]; omega
              have t55 : ((k : Int) == 55) = false := by rw [beq_eq_false_iff_ne]; omega
              clear hli e4 e5 e20
              go_wp2_with (first | (refine wpList_lookup_none _ rfl _ _ rfl gm m k (ftab k) rfl rfl (by omega) HM.out.1 HF.out ?_) | (refine wpList_insert_form _ rfl _ _ _ (.inr rfl) gm m k (ftab k) ⟨36, 0, 0, 35⟩ rfl rfl rfl (by omega) (HM.out.1.below ((Below.refl _ _).alloc (Nat.le_refl _) _)) (by omega) ?_; intro wz mz gz; have HZ := Lib.hid (And.intro mz ((HM.out.2.alloc HM.out.2.size _).grown gz (by have := HM.out.2.size; simp; omega) (fun r hr => by injection hr with hr; rw [← hr, HGM.out]; exact Nat.le_refl _))); clear mz gz))
              go_roundw
              case rel => exact ⟨k + 1, m + 1, by go_num, by omega, by omega, by omega, by rw [← ftab_put HFP.out]; exact HZ.out.1, HZ.out.2⟩
              case measure => simp [intOf]; omega
            · have t20 : ((k : Int) == 20) = false := by rw [beq_eq_false_iff_ne]; omega
              by_cases e21 : k = 21
              · have t21 : ((k : Int) == 21) = true := by rw [beq_iff_eq]; omega
                have HFP : Hid (formOf k = some ⟨36, 0, 0, 35⟩) := by rw [e21]; exact rfl
                have t22 : ((k : Int) == 22) = false := by rw [beq_eq_false_iff_ne]; omega
                have t57 : ((k : Int) == 57) = false := by rw [beq_eq_false_iff_ne]; omega
                have t26 : ((k : Int) == 26) = false := by rw [beq_eq_false_iff_ne]; omega
                have t56 : ((k : Int) == 56) = false := by rw [beq_eq_false_iff_ne]; omega
                have t50 : ((k : Int) == 50) = false := by rw [beq_eq_false_iff_ne]; omega
                have t51 : ((k : Int) == 51) = false := by rw [beq_eq_false_iff_ne]; omega
                have t8 : ((k : Int) == 8) = false := by rw [beq_eq_false_iff_ne]; omega
                have t9 : ((k : Int) == 9) = false := by rw [beq_eq_false_iff_ne]; omega
                have t10 : ((k : Int) == 10) = false := by rw [beq_eq_false_iff_ne]; omega
                have t11 : ((k : Int) == 11) = false := by rw [beq_eq_false_iff_ne]; omega
                have t43 : ((k : Int) == 43) = false := by rw [beq_eq_false_iff_ne]; omega
                have t44 : ((k : Int) == 44) = false := by rw [beq_eq_false_iff_ne]; omega
                have t45 : ((k : Int) == 45) = false := by rw [beq_eq_false_iff_ne]; omega
                have t46 : ((k : Int) == 46) = false := by rw [beq_eq_false_iff_ne]; omega
                have t47 : ((k : Int) == 47) = false := by rw [beq_eq_false_iff_ne]; omega
                have t48 : ((k : Int) == 48) = false := by rw [beq_eq_false_iff_ne]; omega
                have t52 : ((k : Int) == 52) = false := by rw [beq_eq_false_iff_ne]; omega
                have t54 : ((k : Int) == 54) = false := by rw [beq_eq_false_iff_ne]; omega
                have t55 : ((k : Int) == 55) = false := by rw [beq_eq_false_iff_ne]; omega
                clear hli e4 e5 e20 e21
                go_wp2_with (first | (refine wpList_lookup_none _ rfl _ _ rfl gm m k (ftab k) rfl rfl (by omega) HM.out.1 HF.out ?_) | (refine wpList_insert_form _ rfl _ _ _ (.inr rfl) gm m k (ftab k) ⟨36, 0, 0, 35⟩ rfl rfl rfl (by omega) (HM.out.1.below ((Below.refl _ _).alloc (Nat.le_refl _) _)) (by omega) ?_; intro wz mz gz; have HZ := Lib.hid (And.intro mz ((HM.out.2.alloc HM.out.2.size _).grown gz (by have := HM.out.2.size; simp; omega) (fun r hr => by injection hr with hr; rw [← hr, HGM.out]; exact Nat.le_refl _))); clear mz gz))
                go_roundw
                case rel => exact ⟨k + 1, m + 1, by go_num, by omega, by omega, by omega, by rw [← ftab_put HFP.out]; exact HZ.out.1, HZ.out.2⟩
                case measure => simp [intOf]; omega
              · have t21 : ((k : Int) == 21) = false := by rw [beq_eq_false_iff_ne]; omega
                by_cases e22 : k = 22
                · have t22 : ((k : Int) == 22) = true := by rw [beq_iff_eq]; omega
                  have HFP : Hid (formOf k = some ⟨36, 0, 0, 35⟩) := by rw [e22]; exact rfl
                  have t57 : ((k : Int) == 57) = false := by rw [beq_eq_false_iff_ne]; omega
                  have t26 : ((k : Int) == 26) = false := by rw [beq_eq_false_iff_ne]; omega
                  have t56 : ((k : Int) == 56) = false := by rw [beq_eq_false_iff_ne]; omega
                  have t50 : ((k : Int) == 50) = false := by rw [beq_eq_false_iff_ne]; omega
                  have t51 : ((k : Int) == 51) = false := by rw [beq_eq_false_iff_ne]; omega
                  have t8 : ((k : Int) == 8) = false := by rw [beq_eq_false_iff_ne]; omega
                  have t9 : ((k : Int) == 9) = false := by rw [beq_eq_false_iff_ne]; omega
                  have t10 : ((k : Int) == 10) = false := by rw [beq_eq_false_iff_ne]; omega
                  have t11 : ((k : Int) == 11) = false := by rw [beq_eq_false_iff_ne]; omega
                  have t43 : ((k : Int) == 43) = false := by rw [beq_eq_false_iff_ne]; omega
                  have t44 : ((k : Int) == 44) = false := by rw [beq_eq_false_iff_ne]; omega
                  have t45 : ((k : Int) == 45) = false := by rw [beq_eq_false_iff_ne]; omega
                  have t46 : ((k : Int) == 46) = false := by rw [beq_eq_false_iff_ne]; omega
                  have t47 : ((k : Int) == 47) = false := by rw [beq_eq_false_iff_ne]; omega
                  have t48 : ((k : Int) == 48) = false := by rw [beq_eq_false_iff_ne]; omega
                  have t52 : ((k : Int) == 52) = false := by rw [beq_eq_false_iff_ne]; omega
                  have t54 : ((k : Int) == 54) = false := by rw [beq_eq_false_iff_ne]; omega
                  have t55 : ((k : Int) == 55) = false := by rw [beq_eq_false_iff_ne]; omega
                  clear hli e4 e5 e20 e21 e22
                  go_wp2_with (first | (refine wpList_lookup_none _ rfl _ _ rfl gm m k (ftab k) rfl rfl (by omega) HM.out.1 HF.out ?_) | (refine wpList_insert_form _ rfl _ _ _ (.inr rfl) gm m k (ftab k) ⟨36, 0, 0, 35⟩ rfl rfl rfl (by omega) (HM.out.1.below ((Below.refl _ _).alloc (Nat.le_refl _) _)) (by omega) ?_; intro wz mz gz; have HZ := Lib.hid (And.intro mz ((HM.out.2.alloc HM.out.2.size _).grown gz (by have := HM.out.2.size; simp; omega) (fun r hr => by injection hr with hr; rw [← hr, HGM.out]; exact Nat.le_refl _))); clear mz gz))
                  go_roundw
                  case rel => exact ⟨k + 1, m + 1, by go_num, by omega, by omega, by omega, by rw [← ftab_put HFP.out]; exact HZ.out.1, HZ.out.2⟩
                  case measure => simp [intOf]; omega
                · have t22 : ((k : Int) == 22) = false := by rw [beq_eq_false_iff_ne]; omega
                  by_cases e57 : k = 57
                  · have t57 : ((k : Int) == 57) = true := by rw [beq_iff_eq]; omega
                    have HFP : Hid (formOf k = some ⟨36, 0, 0, 35⟩) := by rw [e57]; exact rfl
                    have t26 : ((k : Int) == 26) = false := by rw [beq_eq_false_iff_ne]; omega
                    have t56 : ((k : Int) == 56) = false := by rw [beq_eq_false_iff_ne]; omega
                    have t50 : ((k : Int) == 50) = false := by rw [beq_eq_false_iff_ne]; omega
                    have t51 : ((k : Int) == 51) = false := by rw [beq_eq_false_iff_ne]; omega
                    have t8 : ((k : Int) == 8) = false := by rw [beq_eq_false_iff_ne]; omega
                    have t9 : ((k : Int) == 9) = false := by rw [beq_eq_false_iff_ne]; omega
                    have t10 : ((k : Int) == 10) = false := by rw [beq_eq_false_iff_ne]; omega
                    have t11 : ((k : Int) == 11) = false := by rw [beq_eq_false_iff_ne]; omega
                    have t43 : ((k : Int) == 43) = false := by rw [beq_eq_false_iff_ne]; omega
                    have t44 : ((k : Int) == 44) = false := by rw [beq_eq_false_iff_ne]; omega
                    have t45 : ((k : Int) == 45) = false := by rw [beq_eq_false_iff_ne]; omega
                    have t46 : ((k : Int) == 46) = false := by rw [beq_eq_false_iff_ne]; omega
                    have t47 : ((k : Int) == 47) = false := by rw [beq_eq_false_iff_ne]; omega
                    have t48 : ((k : Int) == 48) = false := by rw [beq_eq_false_iff_ne]; omega
                    have t52 : ((k : Int) == 52) = false := by rw [beq_eq_false_iff_ne]; omega
                    have t54 : ((k : Int) == 54) = false := by rw [beq_eq_false_iff_ne]; omega
                    have t55 : ((k : Int) == 55) = false := by rw [beq_eq_false_iff_ne]; omega
                    clear hli e4 e5 e20 e21 e22 e57
                    go_wp2_with (first | (refine wpList_lookup_none _ rfl _ _ rfl gm m k (ftab k) rfl rfl (by omega) HM.out.1 HF.out ?_) | (refine wpList_insert_form _ rfl _ _ _ (.inr rfl) gm m k (ftab k) ⟨36, 0, 0, 35⟩ rfl rfl rfl (by omega) (HM.out.1.below ((Below.refl _ _).alloc (Nat.le_refl _) _)) (by omega) ?_; intro wz mz gz; have HZ := Lib.hid (And.intro mz ((HM.out.2.alloc HM.out.2.size _).grown gz (by have := HM.out.2.size; simp; omega) (fun r hr => by injection hr with hr; rw [← hr, HGM.out]; exact Nat.le_refl _))); clear mz gz))
                    go_roundw
                    case rel => exact ⟨k + 1, m + 1, by go_num, by omega, by omega, by omega, by rw [← ftab_put HFP.out]; exact HZ.out.1, HZ.out.2⟩
                    case measure => simp [intOf]; omega
                  · have t57 : ((k : Int) == 57) = false := by rw [beq_eq_false_iff_ne]; omega
                    by_cases e26 : k = 26
                    · have t26 : ((k : Int) == 26) = true := by rw [beq_iff_eq]; omega
                      have HFP : Hid (formOf k = some ⟨33, 0, 0, 35⟩) := by rw [e26]; exact rfl
                      have t56 : ((k : Int) == 56) = false := by rw [beq_eq_false_iff_ne]; omega
                      have t50 : ((k : Int) == 50) = false := by rw [beq_eq_false_iff_ne]; omega
                      have t51 : ((k : Int) == 51) = false := by rw [beq_eq_false_iff_ne]; omega
                      have t8 : ((k : Int) == 8) = false := by rw [beq_eq_false_iff_ne]; omega
                      have t9 : ((k : Int) == 9) = false := by rw [beq_eq_false_iff_ne]; omega
                      have t10 : ((k : Int) == 10) = false := by rw [beq_eq_false_iff_ne]; omega
                      have t11 : ((k : Int) == 11) = false := by rw [beq_eq_false_iff_ne]; omega
                      have t43 : ((k : Int) == 43) = false := by rw [beq_eq_false_iff_ne]; omega
                      have t44 : ((k : Int) == 44) = false := by rw [beq_eq_false_iff_ne]; omega
                      have t45 : ((k : Int) == 45) = false := by rw [beq_eq_false_iff_ne]; omega
                      have t46 : ((k : Int) == 46) = false := by rw [beq_eq_false_iff_ne]; omega
                      have t47 : ((k : Int) == 47) = false := by rw [beq_eq_false_iff_ne]; omega
                      have t48 : ((k : Int) == 48) = false := by rw [beq_eq_false_iff_ne]; omega
                      have t52 : ((k : Int) == 52) = false := by rw [beq_eq_false_iff_ne]; omega
                      have t54 : ((k : Int) == 54) = false := by rw [beq_eq_false_iff_ne]; omega
                      have t55 : ((k : Int) == 55) = false := by rw [beq_eq_false_iff_ne]; omega
                      clear hli e4 e5 e20 e21 e22 e57 e26
                      go_wp2_with (first | (refine wpList_lookup_none _ rfl _ _ rfl gm m k (ftab k) rfl rfl (by omega) HM.out.1 HF.out ?_) | (refine wpList_insert_form _ rfl _ _ _ (.inr rfl) gm m k (ftab k) ⟨33, 0, 0, 35⟩ rfl rfl rfl (by omega) (HM.out.1.below ((Below.refl _ _).alloc (Nat.le_refl _) _)) (by omega) ?_; intro wz mz gz; have HZ := Lib.hid (And.intro mz ((HM.out.2.alloc HM.out.2.size _).grown gz (by have := HM.out.2.size; simp; omega) (fun r hr => by injection hr with hr; rw [← hr, HGM.out]; exact Nat.le_refl _))); clear mz gz))
                      go_roundw
                      case rel => exact ⟨k + 1, m + 1, by go_num, by omega, by omega, by omega, by rw [← ftab_put HFP.out]; exact HZ.out.1, HZ.out.2⟩
                      case measure => simp [intOf]; omega
                    · have t26 : ((k : Int) == 26) = false := by rw [beq_eq_false_iff_ne]; omega
                      by_cases e56 : k = 56
                      · have t56 : ((k : Int) == 56) = true := by rw [beq_iff_eq]; omega
                        have HFP : Hid (formOf k = some ⟨33, 0, 0, 35⟩) := by rw [e56]; exact rfl
                        have t50 : ((k : Int) == 50) = false := by rw [beq_eq_false_iff_ne]; omega
                        have t51 : ((k : Int) == 51) = false := by rw [beq_eq_false_iff_ne]; omega
                        have t8 : ((k : Int) == 8) = false := by rw [beq_eq_false_iff_ne]; omega
                        have t9 : ((k : Int) == 9) = false := by rw [beq_eq_false_iff_ne]; omega
                        have t10 : ((k : Int) == 10) = false := by rw [beq_eq_false_iff_ne]; omega
                        have t11 : ((k : Int) == 11) = false := by rw [beq_eq_false_iff_ne]; omega
                        have t43 : ((k : Int) == 43) = false := by rw [beq_eq_false_iff_ne]; omega
                        have t44 : ((k : Int) == 44) = false := by rw [beq_eq_false_iff_ne]; omega
                        have t45 : ((k : Int) == 45) = false := by rw [beq_eq_false_iff_ne]; omega
                        have t46 : ((k : Int) == 46) = false := by rw [beq_eq_false_iff_ne]; omega
                        have t47 : ((k : Int) == 47) = false := by rw [beq_eq_false_iff_ne]; omega
                        have t48 : ((k : Int) == 48) = false := by rw [beq_eq_false_iff_ne]; omega
                        have t52 : ((k : Int) == 52) = false := by rw [beq_eq_false_iff_ne]; omega
                        have t54 : ((k : Int) == 54) = false := by rw [beq_eq_false_iff_ne]; omega
                        have t55 : ((k : Int) == 55) = false := by rw [beq_eq_false_iff_ne]; omega
                        clear hli e4 e5 e20 e21 e22 e57 e26 e56
                        go_wp2_with (first | (refine wpList_lookup_none _ rfl _ _ rfl gm m k (ftab k) rfl rfl (by omega) HM.out.1 HF.out ?_) | (refine wpList_insert_form _ rfl _ _ _ (.inr rfl) gm m k (ftab k) ⟨33, 0, 0, 35⟩ rfl rfl rfl (by omega) (HM.out.1.below ((Below.refl _ _).alloc (Nat.le_refl _) _)) (by omega) ?_; intro wz mz gz; have HZ := Lib.hid (And.intro mz ((HM.out.2.alloc HM.out.2.size _).grown gz (by have := HM.out.2.size; simp; omega) (fun r hr => by injection hr with hr; rw [← hr, HGM.out]; exact Nat.le_refl _))); clear mz gz))
                        go_roundw
                        case rel => exact ⟨k + 1, m + 1, by go_num, by omega, by omega, by omega, by rw [← ftab_put HFP.out]; exact HZ.out.1, HZ.out.2⟩
                        case measure => simp [intOf]; omega
                      · have t56 : ((k : Int) == 56) = false := by rw [beq_eq_false_iff_ne]; omega
                        by_cases e50 : k = 50
                        · have t50 : ((k : Int) == 50) = true := by rw [beq_iff_eq]; omega
                          have HFP : Hid (formOf k = some ⟨33, 0, 2048, 40⟩) := by rw [e50]; exact rfl
                          have t51 : ((k : Int) == 51) = false := by rw [beq_eq_false_iff_ne]; omega
                          have t8 : ((k : Int) == 8) = false := by rw [beq_eq_false_iff_ne]; omega
                          have t9 : ((k : Int) == 9) = false := by rw [beq_eq_false_iff_ne]; omega
                          have t10 : ((k : Int) == 10) = false := by rw [beq_eq_false_iff_ne]; omega
                          have t11 : ((k : Int) == 11) = false := by rw [beq_eq_false_iff_ne]; omega
                          have t43 : ((k : Int) == 43) = false := by rw [beq_eq_false_iff_ne]; omega
                          have t44 : ((k : Int) == 44) = false := by rw [beq_eq_false_iff_ne]; omega
                          have t45 : ((k : Int) == 45) = false := by rw [beq_eq_false_iff_ne]; omega
                          have t46 : ((k : Int) == 46) = false := by rw [beq_eq_false_iff_ne]; omega
                          have t47 : ((k : Int) == 47) = false := by rw [beq_eq_false_iff_ne]; omega
                          have t48 : ((k : Int) == 48) = false := by rw [beq_eq_false_iff_ne]; omega
                          have t52 : ((k : Int) == 52) = false := by rw [beq_eq_false_iff_ne]; omega
                          have t54 : ((k : Int) == 54) = false := by rw [beq_eq_false_iff_ne]; omega
                          have t55 : ((k : Int) == 55) = false := by rw [beq_eq_false_iff_ne]; omega
                          clear hli e4 e5 e20 e21 e22 e57 e26 e56 e50
                          go_wp2_with (first | (refine wpList_lookup_none _ rfl _ _ rfl gm m k (ftab k) rfl rfl (by omega) HM.out.1 HF.out ?_) | (refine wpList_insert_form _ rfl _ _ _ (.inr rfl) gm m k (ftab k) ⟨33, 0, 2048, 40⟩ rfl rfl rfl (by omega) (HM.out.1.below ((Below.refl _ _).alloc (Nat.le_refl _) _)) (by omega) ?_; intro wz mz gz; have HZ := Lib.hid (And.intro mz ((HM.out.2.alloc HM.out.2.size _).grown gz (by have := HM.out.2.size; simp; omega) (fun r hr => by injection hr with hr; rw [← hr, HGM.out]; exact Nat.le_refl _))); clear mz gz))
                          go_roundw
                          case rel => exact ⟨k + 1, m + 1, by go_num, by omega, by omega, by omega, by rw [← ftab_put HFP.out]; exact HZ.out.1, HZ.out.2⟩
                          case measure => simp [intOf]; omega
                        · have t50 : ((k : Int) == 50) = false := by rw [beq_eq_false_iff_ne]; omega
                          by_cases e51 : k = 51
                          · have t51 : ((k : Int) == 51) = true := by rw [beq_iff_eq]; omega
                            have HFP : Hid (formOf k = some ⟨33, 0, 2048, 40⟩) := by rw [e51]; exact rfl
                            have t8 : ((k : Int) == 8) = false := by rw [beq_eq_false_iff_ne]; omega
                            have t9 : ((k : Int) == 9) = false := by rw [beq_eq_false_iff_ne]; omega
                            have t10 : ((k : Int) == 10) = false := by rw [beq_eq_false_iff_ne]; omega
                            have t11 : ((k : Int) == 11) = false := by rw [beq_eq_false_iff_ne]; omega
                            have t43 : ((k : Int) == 43) = false := by rw [beq_eq_false_iff_ne]; omega
                            have t44 : ((k : Int) == 44) = false := by rw [beq_eq_false_iff_ne]; omega
                            have t45 : ((k : Int) == 45) = false := by rw [beq_eq_false_iff_ne]; omega
                            have t46 : ((k : Int) == 46) = false := by rw [beq_eq_false_iff_ne]; omega
                            have t47 : ((k : Int) == 47) = false := by rw [beq_eq_false_iff_ne]; omega
                            have t48 : ((k : Int) == 48) = false := by rw [beq_eq_false_iff_ne]; omega
                            have t52 : ((k : Int) == 52) = false := by rw [beq_eq_false_iff_ne]; omega
                            have t54 : ((k : Int) == 54) = false := by rw [beq_eq_false_iff_ne]; omega
                            have t55 : ((k : Int) == 55) = false := by rw [beq_eq_false_iff_ne]; omega
                            clear hli e4 e5 e20 e21 e22 e57 e26 e56 e50 e51
                            go_wp2_with (first | (refine wpList_lookup_none _ rfl _ _ rfl gm m k (ftab k) rfl rfl (by omega) HM.out.1 HF.out ?_) | (refine wpList_insert_form _ rfl _ _ _ (.inr rfl) gm m k (ftab k) ⟨33, 0, 2048, 40⟩ rfl rfl rfl (by omega) (HM.out.1.below ((Below.refl _ _).alloc (Nat.le_refl _) _)) (by omega) ?_; intro wz mz gz; have HZ := Lib.hid (And.intro mz ((HM.out.2.alloc HM.out.2.size _).grown gz (by have := HM.out.2.size; simp; omega) (fun r hr => by injection hr with hr; rw [← hr, HGM.out]; exact Nat.le_refl _))); clear mz gz))
                            go_roundw
                            case rel => exact ⟨k + 1, m + 1, by go_num, by omega, by omega, by omega, by rw [← ftab_put HFP.out]; exact HZ.out.1, HZ.out.2⟩
                            case measure => simp [intOf]; omega
                          · have t51 : ((k : Int) == 51) = false := by rw [beq_eq_false_iff_ne]; omega
                            by_cases e8 : k = 8
                            · have t8 : ((k : Int) == 8) = true := by rw [beq_iff_eq]; omega
                              have HFP : Hid (formOf k = some ⟨36, 1, 1, 40⟩) := by rw [e8]; exact rfl
                              have t9 : ((k : Int) == 9) = false := by rw [beq_eq_false_iff_ne]; omega
                              have t10 : ((k : Int) == 10) = false := by rw [beq_eq_false_iff_ne]; omega
                              have t11 : ((k : Int) == 11) = false := by rw [beq_eq_false_iff_ne]; omega
                              have t43 : ((k : Int) == 43) = false := by rw [beq_eq_false_iff_ne]; omega
                              have t44 : ((k : Int) == 44) = false := by rw [beq_eq_false_iff_ne]; omega
                              have t45 : ((k : Int) == 45) = false := by rw [beq_eq_false_iff_ne]; omega
                              have t46 : ((k : Int) == 46) = false := by rw [beq_eq_false_iff_ne]; omega
                              have t47 : ((k : Int) == 47) = false := by rw [beq_eq_false_iff_ne]; omega
                              have t48 : ((k : Int) == 48) = false := by rw [beq_eq_false_iff_ne]; omega
                              have t52 : ((k : Int) == 52) = false := by rw [beq_eq_false_iff_ne]; omega
                              have t54 : ((k : Int) == 54) = false := by rw [beq_eq_false_iff_ne]; omega
                              have t55 : ((k : Int) == 55) = false := by rw [beq_eq_false_iff_ne]; omega
                              clear hli e4 e5 e20 e21 e22 e57 e26 e56 e50 e51 e8
                              go_wp2_with (first | (refine wpList_lookup_none _ rfl _ _ rfl gm m k (ftab k) rfl rfl (by omega) HM.out.1 HF.out ?_) | (refine wpList_insert_form _ rfl _ _ _ (.inr rfl) gm m k (ftab k) ⟨36, 1, 1, 40⟩ rfl rfl rfl (by omega) (HM.out.1.below ((Below.refl _ _).alloc (Nat.le_refl _) _)) (by omega) ?_; intro wz mz gz; have HZ := Lib.hid (And.intro mz ((HM.out.2.alloc HM.out.2.size _).grown gz (by have := HM.out.2.size; simp; omega) (fun r hr => by injection hr with hr; rw [← hr, HGM.out]; exact Nat.le_refl _))); clear mz gz))
                              go_roundw
                              case rel => exact ⟨k + 1, m + 1, by go_num, by omega, by omega, by omega, by rw [← ftab_put HFP.out]; exact HZ.out.1, HZ.out.2⟩
                              case measure => simp [intOf]; omega
                            · have t8 : ((k : Int) == 8) = false := by rw [beq_eq_false_iff_ne]; omega
                              by_cases e9 : k = 9
                              · have t9 : ((k : Int) == 9) = true := by rw [beq_iff_eq]; omega
                                have HFP : Hid (formOf k = some ⟨36, 1, 1, 40⟩) := by rw [e9]; exact rfl
                                have t10 : ((k : Int) == 10) = false := by rw [beq_eq_false_iff_ne]; omega
                                have t11 : ((k : Int) == 11) = false := by rw [beq_eq_false_iff_ne]; omega
                                have t43 : ((k : Int) == 43) = false := by rw [beq_eq_false_iff_ne]; omega
                                have t44 : ((k : Int) == 44) = false := by rw [beq_eq_false_iff_ne]; omega
                                have t45 : ((k : Int) == 45) = false := by rw [beq_eq_false_iff_ne]; omega
                                have t46 : ((k : Int) == 46) = false := by rw [beq_eq_false_iff_ne]; omega
                                have t47 : ((k : Int) == 47) = false := by rw [beq_eq_false_iff_ne]; omega
                                have t48 : ((k : Int) == 48) = false := by rw [beq_eq_false_iff_ne]; omega
                                have t52 : ((k : Int) == 52) = false := by rw [beq_eq_false_iff_ne]; omega
                                have t54 : ((k : Int) == 54) = false := by rw [beq_eq_false_iff_ne]; omega
                                have t55 : ((k : Int) == 55) = false := by rw [beq_eq_false_iff_ne]; omega
                                clear hli e4 e5 e20 e21 e22 e57 e26 e56 e50 e51 e8 e9
                                go_wp2_with (first | (refine wpList_lookup_none _ rfl _ _ rfl gm m k (ftab k) rfl rfl (by omega) HM.out.1 HF.out ?_) | (refine wpList_insert_form _ rfl _ _ _ (.inr rfl) gm m k (ftab k) ⟨36, 1, 1, 40⟩ rfl rfl rfl (by omega) (HM.out.1.below ((Below.refl _ _).alloc (Nat.le_refl _) _)) (by omega) ?_; intro wz mz gz; have HZ := Lib.hid (And.intro mz ((HM.out.2.alloc HM.out.2.size _).grown gz (by have := HM.out.2.size; simp; omega) (fun r hr => by injection hr with hr; rw [← hr, HGM.out]; exact Nat.le_refl _))); clear mz gz))
                                go_roundw
                                case rel => exact ⟨k + 1, m + 1, by go_num, by omega, by omega, by omega, by rw [← ftab_put HFP.out]; exact HZ.out.1, HZ.out.2⟩
                                case measure => simp [intOf]; omega
                              · have t9 : ((k : Int) == 9) = false := by rw [beq_eq_false_iff_ne]; omega
                                by_cases e10 : k = 10
                                · have t10 : ((k : Int) == 10) = true := by rw [beq_iff_eq]; omega
                                  have HFP : Hid (formOf k = some ⟨36, 1, 1, 40⟩) := by rw [e10]; exact rfl
                                  have t11 : ((k : Int) == 11) = false := by rw [beq_eq_false_iff_ne]; omega
                                  have t43 : ((k : Int) == 43) = false := by rw [beq_eq_false_iff_ne]; omega
                                  have t44 : ((k : Int) == 44) = false := by rw [beq_eq_false_iff_ne]; omega
                                  have t45 : ((k : Int) == 45) = false := by rw [beq_eq_false_iff_ne]; omega
                                  have t46 : ((k : Int) == 46) = false := by rw [beq_eq_false_iff_ne]; omega
                                  have t47 : ((k : Int) == 47) = false := by rw [beq_eq_false_iff_ne]; omega
                                  have t48 : ((k : Int) == 48) = false := by rw [beq_eq_false_iff_ne]; omega
                                  have t52 : ((k : Int) == 52) = false := by rw [beq_eq_false_iff_ne]; omega
                                  have t54 : ((k : Int) == 54) = false := by rw [beq_eq_false_iff_ne]; omega
                                  have t55 : ((k : Int) == 55) = false := by rw [beq_eq_false_iff_ne]; omega
                                  clear hli e4 e5 e20 e21 e22 e57 e26 e56 e50 e51 e8 e9 e10
                                  go_wp2_with (first | (refine wpList_lookup_none _ rfl _ _ rfl gm m k (ftab k) rfl rfl (by omega) HM.out.1 HF.out ?_) | (refine wpList_insert_form _ rfl _ _ _ (.inr rfl) gm m k (ftab k) ⟨36, 1, 1, 40⟩ rfl rfl rfl (by omega) (HM.out.1.below ((Below.refl _ _).alloc (Nat.le_refl _) _)) (by omega) ?_; intro wz mz gz; have HZ := Lib.hid (And.intro mz ((HM.out.2.alloc HM.out.2.size _).grown gz (by have := HM.out.2.size; simp; omega) (fun r hr => by injection hr with hr; rw [← hr, HGM.out]; exact Nat.le_refl _))); clear mz gz))
                                  go_roundw
                                  case rel => exact ⟨k + 1, m + 1, by go_num, by omega, by omega, by omega, by rw [← ftab_put HFP.out]; exact HZ.out.1, HZ.out.2⟩
                                  case measure => simp [intOf]; omega
                                · have t10 : ((k : Int) == 10) = false := by rw [beq_eq_false_iff_ne]; omega
                                  by_cases e11 : k = 11
                                  · have t11 : ((k : Int) == 11) = true := by rw [beq_iff_eq]; omega
                                    have HFP : Hid (formOf k = some ⟨36, 1, 1, 40⟩) := by rw [e11]; exact rfl
                                    have t43 : ((k : Int) == 43) = false := by rw [beq_eq_false_iff_ne]; omega
                                    have t44 : ((k : Int) == 44) = false := by rw [beq_eq_false_iff_ne]; omega
                                    have t45 : ((k : Int) == 45) = false := by rw [beq_eq_false_iff_ne]; omega
                                    have t46 : ((k : Int) == 46) = false := by rw [beq_eq_false_iff_ne]; omega
                                    have t47 : ((k : Int) == 47) = false := by rw [beq_eq_false_iff_ne]; omega
                                    have t48 : ((k : Int) == 48) = false := by rw [beq_eq_false_iff_ne]; omega
                                    have t52 : ((k : Int) == 52) = false := by rw [beq_eq_false_iff_ne]; omega
                                    have t54 : ((k : Int) == 54) = false := by rw [beq_eq_false_iff_ne]; omega
                                    have t55 : ((k : Int) == 55) = false := by rw [beq_eq_false_iff_ne]; omega
                                    clear hli e4 e5 e20 e21 e22 e57 e26 e56 e50 e51 e8 e9 e10 e11
                                    go_wp2_with (first | (refine wpList_lookup_none _ rfl _ _ rfl gm m k (ftab k) rfl rfl (by omega) HM.out.1 HF.out ?_) | (refine wpList_insert_form _ rfl _ _ _ (.inr rfl) gm m k (ftab k) ⟨36, 1, 1, 40⟩ rfl rfl rfl (by omega) (HM.out.1.below ((Below.refl _ _).alloc (Nat.le_refl _) _)) (by omega) ?_; intro wz mz gz; have HZ := Lib.hid (And.intro mz ((HM.out.2.alloc HM.out.2.size _).grown gz (by have := HM.out.2.size; simp; omega) (fun r hr => by injection hr with hr; rw [← hr, HGM.out]; exact Nat.le_refl _))); clear mz gz))
                                    go_roundw
                                    case rel => exact ⟨k + 1, m + 1, by go_num, by omega, by omega, by omega, by rw [← ftab_put HFP.out]; exact HZ.out.1, HZ.out.2⟩
                                    case measure => simp [intOf]; omega
                                  · have t11 : ((k : Int) == 11) = false := by rw [beq_eq_false_iff_ne]; omega
                                    by_cases e43 : k = 43
                                    · have t43 : ((k : Int) == 43) = true := by rw [beq_iff_eq]; omega
                                      have HFP : Hid (formOf k = some ⟨36, 1, 1, 40⟩) := by rw [e43]; exact rfl
                                      have t44 : ((k : Int) == 44) = false := by rw [beq_eq_false_iff_ne]; omega
                                      have t45 : ((k : Int) == 45) = false := by rw [beq_eq_false_iff_ne]; omega
                                      have t46 : ((k : Int) == 46) = false := by rw [beq_eq_false_iff_ne]; omega
                                      have t47 : ((k : Int) == 47) = false := by rw [beq_eq_false_iff_ne]; omega
                                      have t48 : ((k : Int) == 48) = false := by rw [beq_eq_false_iff_ne]; omega
                                      have t52 : ((k : Int) == 52) = false := by rw [beq_eq_false_iff_ne]; omega
                                      have t54 : ((k : Int) == 54) = false := by rw [beq_eq_false_iff_ne]; omega
                                      have t55 : ((k : Int) == 55) = false := by rw [beq_eq_false_iff_ne]; omega
                                      clear hli e4 e5 e20 e21 e22 e57 e26 e56 e50 e51 e8 e9 e10 e11 e43
                                      go_wp2_with (first | (refine wpList_lookup_none _ rfl _ _ rfl gm m k (ftab k) rfl rfl (by omega) HM.out.1 HF.out ?_) | (refine wpList_insert_form _ rfl _ _ _ (.inr rfl) gm m k (ftab k) ⟨36, 1, 1, 40⟩ rfl rfl rfl (by omega) (HM.out.1.below ((Below.refl _ _).alloc (Nat.le_refl _) _)) (by omega) ?_; intro wz mz gz; have HZ := Lib.hid (And.intro mz ((HM.out.2.alloc HM.out.2.size _).grown gz (by have := HM.out.2.size; simp; omega) (fun r hr => by injection hr with hr; rw [← hr, HGM.out]; exact Nat.le_refl _))); clear mz gz))
                                      go_roundw
                                      case rel => exact ⟨k + 1, m + 1, by go_num, by omega, by omega, by omega, by rw [← ftab_put HFP.out]; exact HZ.out.1, HZ.out.2⟩
                                      case measure => simp [intOf]; omega
                                    · have t43 : ((k : Int) == 43) = false := by rw [beq_eq_false_iff_ne]; omega
                                      by_cases e44 : k = 44
                                      · have t44 : ((k : Int) == 44) = true := by rw [beq_iff_eq]; omega
                                        have HFP : Hid (formOf k = some ⟨36, 1, 1, 40⟩) := by rw [e44]; exact rfl
                                        have t45 : ((k : Int) == 45) = false := by rw [beq_eq_false_iff_ne]; omega
                                        have t46 : ((k : Int) == 46) = false := by rw [beq_eq_false_iff_ne]; omega
                                        have t47 : ((k : Int) == 47) = false := by rw [beq_eq_false_iff_ne]; omega
                                        have t48 : ((k : Int) == 48) = false := by rw [beq_eq_false_iff_ne]; omega
                                        have t52 : ((k : Int) == 52) = false := by rw [beq_eq_false_iff_ne]; omega
                                        have t54 : ((k : Int) == 54) = false := by rw [beq_eq_false_iff_ne]; omega
                                        have t55 : ((k : Int) == 55) = false := by rw [beq_eq_false_iff_ne]; omega
                                        clear hli e4 e5 e20 e21 e22 e57 e26 e56 e50 e51 e8 e9 e10 e11 e43 e44
                                        go_wp2_with (first | (refine wpList_lookup_none _ rfl _ _ rfl gm m k (ftab k) rfl rfl (by omega) HM.out.1 HF.out ?_) | (refine wpList_insert_form _ rfl _ _ _ (.inr rfl) gm m k (ftab k) ⟨36, 1, 1, 40⟩ rfl rfl rfl (by omega) (HM.out.1.below ((Below.refl _ _).alloc (Nat.le_refl _) _)) (by omega) ?_; intro wz mz gz; have HZ := Lib.hid (And.intro mz ((HM.out.2.alloc HM.out.2.size _).grown gz (by have := HM.out.2.size; simp; omega) (fun r hr => by injection hr with hr; rw [← hr, HGM.out]; exact Nat.le_refl _))); clear mz gz))
                                        go_roundw
                                        case rel => exact ⟨k + 1, m + 1, by go_num, by omega, by omega, by omega, by rw [← ftab_put HFP.out]; exact HZ.out.1, HZ.out.2⟩
                                        case measure => simp [intOf]; omega
                                      · have t44 : ((k : Int) == 44) = false := by rw [beq_eq_false_iff_ne]; omega
                                        by_cases e45 : k = 45
                                        · have t45 : ((k : Int) == 45) = true := by rw [beq_iff_eq]; omega
                                          have HFP : Hid (formOf k = some ⟨36, 1, 1, 40⟩) := by rw [e45]; exact rfl
                                          have t46 : ((k : Int) == 46) = false := by rw [beq_eq_false_iff_ne]; omega
                                          have t47 : ((k : Int) == 47) = false := by rw [beq_eq_false_iff_ne]; omega
                                          have t48 : ((k : Int) == 48) = false := by rw [beq_eq_false_iff_ne]; omega
                                          have t52 : ((k : Int) == 52) = false := by rw [beq_eq_false_iff_ne]; omega
                                          have t54 : ((k : Int) == 54) = false := by rw [beq_eq_false_iff_ne]; omega
                                          have t55 : ((k : Int) == 55) = false := by rw [beq_eq_false_iff_ne]; omega
                                          clear hli e4 e5 e20 e21 e22 e57 e26 e56 e50 e51 e8 e9 e10 e11 e43 e44 e45
                                          go_wp2_with (first | (refine wpList_lookup_none _ rfl _ _ rfl gm m k (ftab k) rfl rfl (by omega) HM.out.1 HF.out ?_) | (refine wpList_insert_form _ rfl _ _ _ (.inr rfl) gm m k (ftab k) ⟨36, 1, 1, 40⟩ rfl rfl rfl (by omega) (HM.out.1.below ((Below.refl _ _).alloc (Nat.le_refl _) _)) (by omega) ?_; intro wz mz gz; have HZ := Lib.hid (And.intro mz ((HM.out.2.alloc HM.out.2.size _).grown gz (by have := HM.out.2.size; simp; omega) (fun r hr => by injection hr with hr; rw [← hr, HGM.out]; exact Nat.le_refl _))); clear mz gz))
                                          go_roundw
                                          case rel => exact ⟨k + 1, m + 1, by go_num, by omega, by omega, by omega, by rw [← ftab_put HFP.out]; exact HZ.out.1, HZ.out.2⟩
                                          case measure => simp [intOf]; omega
                                        · have t45 : ((k : Int) == 45) = false := by rw [beq_eq_false_iff_ne]; omega
                                          by_cases e46 : k = 46
                                          · have t46 : ((k : Int) == 46) = true := by rw [beq_iff_eq]; omega
                                            have HFP : Hid (formOf k = some ⟨36, 1, 1, 40⟩) := by rw [e46]; exact rfl
                                            have t47 : ((k : Int) == 47) = false := by rw [beq_eq_false_iff_ne]; omega
                                            have t48 : ((k : Int) == 48) = false := by rw [beq_eq_false_iff_ne]; omega
                                            have t52 : ((k : Int) == 52) = false := by rw [beq_eq_false_iff_ne]; omega
                                            have t54 : ((k : Int) == 54) = false := by rw [beq_eq_false_iff_ne]; omega
                                            have t55 : ((k : Int) == 55) = false := by rw [beq_eq_false_iff_ne]; omega
                                            clear hli e4 e5 e20 e21 e22 e57 e26 e56 e50 e51 e8 e9 e10 e11 e43 e44 e45 e46
                                            go_wp2_with (first | (refine wpList_lookup_none _ rfl _ _ rfl gm m k (ftab k) rfl rfl (by omega) HM.out.1 HF.out ?_) | (refine wpList_insert_form _ rfl _ _ _ (.inr rfl) gm m k (ftab k) ⟨36, 1, 1, 40⟩ rfl rfl rfl (by omega) (HM.out.1.below ((Below.refl _ _).alloc (Nat.le_refl _) _)) (by omega) ?_; intro wz mz gz; have HZ := Lib.hid (And.intro mz ((HM.out.2.alloc HM.out.2.size _).grown gz (by have := HM.out.2.size; simp; omega) (fun r hr => by injection hr with hr; rw [← hr, HGM.out]; exact Nat.le_refl _))); clear mz gz))
                                            go_roundw
                                            case rel => exact ⟨k + 1, m + 1, by go_num, by omega, by omega, by omega, by rw [← ftab_put HFP.out]; exact HZ.out.1, HZ.out.2⟩
                                            case measure => simp [intOf]; omega
                                          · have t46 : ((k : Int) == 46) = false := by rw [beq_eq_false_iff_ne]; omega
                                            by_cases e47 : k = 47
                                            · have t47 : ((k : Int) == 47) = true := by rw [beq_iff_eq]; omega
                                              have HFP : Hid (formOf k = some ⟨36, 1, 1, 40⟩) := by rw [e47]; exact rfl
                                              have t48 : ((k : Int) == 48) = false := by rw [beq_eq_false_iff_ne]; omega
                                              have t52 : ((k : Int) == 52) = false := by rw [beq_eq_false_iff_ne]; omega
                                              have t54 : ((k : Int) == 54) = false := by rw [beq_eq_false_iff_ne]; omega
                                              have t55 : ((k : Int) == 55) = false := by rw [beq_eq_false_iff_ne]; omega
                                              clear hli e4 e5 e20 e21 e22 e57 e26 e56 e50 e51 e8 e9 e10 e11 e43 e44 e45 e46 e47
                                              go_wp2_with (first | (refine wpList_lookup_none _ rfl _ _ rfl gm m k (ftab k) rfl rfl (by omega) HM.out.1 HF.out ?_) | (refine wpList_insert_form _ rfl _ _ _ (.inr rfl) gm m k (ftab k) ⟨36, 1, 1, 40⟩ rfl rfl rfl (by omega) (HM.out.1.below ((Below.refl _ _).alloc (Nat.le_refl _) _)) (by omega) ?_; intro wz mz gz; have HZ := Lib.hid (And.intro mz ((HM.out.2.alloc HM.out.2.size _).grown gz (by have := HM.out.2.size; simp; omega) (fun r hr => by injection hr with hr; rw [← hr, HGM.out]; exact Nat.le_refl _))); clear mz gz))
                                              go_roundw
                                              case rel => exact ⟨k + 1, m + 1, by go_num, by omega, by omega, by omega, by rw [← ftab_put HFP.out]; exact HZ.out.1, HZ.out.2⟩
                                              case measure => simp [intOf]; omega
                                            · have t47 : ((k : Int) == 47) = false := by rw [beq_eq_false_iff_ne]; omega
                                              by_cases e48 : k = 48
                                              · have t48 : ((k : Int) == 48) = true := by rw [beq_iff_eq]; omega
                                                have HFP : Hid (formOf k = some ⟨36, 1, 1, 40⟩) := by rw [e48]; exact rfl
                                                have t52 : ((k : Int) == 52) = false := by rw [beq_eq_false_iff_ne]; omega
                                                have t54 : ((k : Int) == 54) = false := by rw [beq_eq_false_iff_ne]; omega
                                                have t55 : ((k : Int) == 55) = false := by rw [beq_eq_false_iff_ne]; omega
                                                clear hli e4 e5 e20 e21 e22 e57 e26 e56 e50 e51 e8 e9 e10 e11 e43 e44 e45 e46 e47 e48
                                                go_wp2_with (first | (refine wpList_lookup_none _ rfl _ _ rfl gm m k (ftab k) rfl rfl (by omega) HM.out.1 HF.out ?_) | (refine wpList_insert_form _ rfl _ _ _ (.inr rfl) gm m k (ftab k) ⟨36, 1, 1, 40⟩ rfl rfl rfl (by omega) (HM.out.1.below ((Below.refl _ _).alloc (Nat.le_refl _) _)) (by omega) ?_; intro wz mz gz; have HZ := Lib.hid (And.intro mz ((HM.out.2.alloc HM.out.2.size _).grown gz (by have := HM.out.2.size; simp; omega) (fun r hr => by injection hr with hr; rw [← hr, HGM.out]; exact Nat.le_refl _))); clear mz gz))
                                                go_roundw
                                                case rel => exact ⟨k + 1, m + 1, by go_num, by omega, by omega, by omega, by rw [← ftab_put HFP.out]; exact HZ.out.1, HZ.out.2⟩
                                                case measure => simp [intOf]; omega
                                              · have t48 : ((k : Int) == 48) = false := by rw [beq_eq_false_iff_ne]; omega
                                                by_cases e52 : k = 52
                                                · have t52 : ((k : Int) == 52) = true := by rw [beq_iff_eq]; omega
                                                  have HFP : Hid (formOf k = some ⟨36, 1, 1, 40⟩) := by rw [e52]; exact rfl
                                                  have t54 : ((k : Int) == 54) = false := by rw [beq_eq_false_iff_ne]; omega
                                                  have t55 : ((k : Int) == 55) = false := by rw [beq_eq_false_iff_ne]; omega
                                                  clear hli e4 e5 e20 e21 e22 e57 e26 e56 e50 e51 e8 e9 e10 e11 e43 e44 e45 e46 e47 e48 e52
                                                  go_wp2_with (first | (refine wpList_lookup_none _ rfl _ _ rfl gm m k (ftab k) rfl rfl (by omega) HM.out.1 HF.out ?_) | (refine wpList_insert_form _ rfl _ _ _ (.inr rfl) gm m k (ftab k) ⟨36, 1, 1, 40⟩ rfl rfl rfl (by omega) (HM.out.1.below ((Below.refl _ _).alloc (Nat.le_refl _) _)) (by omega) ?_; intro wz mz gz; have HZ := Lib.hid (And.intro mz ((HM.out.2.alloc HM.out.2.size _).grown gz (by have := HM.out.2.size; simp; omega) (fun r hr => by injection hr with hr; rw [← hr, HGM.out]; exact Nat.le_refl _))); clear mz gz))
                                                  go_roundw
                                                  case rel => exact ⟨k + 1, m + 1, by go_num, by omega, by omega, by omega, by rw [← ftab_put HFP.out]; exact HZ.out.1, HZ.out.2⟩
                                                  case measure => simp [intOf]; omega
                                                · have t52 : ((k : Int) == 52) = false := by rw [beq_eq_false_iff_ne]; omega
                                                  by_cases e54 : k = 54
                                                  · have t54 : ((k : Int) == 54) = true := by rw [beq_iff_eq]; omega
                                                    have HFP : Hid (formOf k = some ⟨36, 1, 1, 40⟩) := by rw [e54]; exact rfl
                                                    have t55 : ((k : Int) == 55) = false := by rw [beq_eq_false_iff_ne]; omega
                                                    clear hli e4 e5 e20 e21 e22 e57 e26 e56 e50 e51 e8 e9 e10 e11 e43 e44 e45 e46 e47 e48 e52 e54
                                                    go_wp2_with (first | (refine wpList_lookup_none _ rfl _ _ rfl gm m k (ftab k) rfl rfl (by omega) HM.out.1 HF.out ?_) | (refine wpList_insert_form _ rfl _ _ _ (.inr rfl) gm m k (ftab k) ⟨36, 1, 1, 40⟩ rfl rfl rfl (by omega) (HM.out.1.below ((Below.refl _ _).alloc (Nat.le_refl _) _)) (by omega) ?_; intro wz mz gz; have HZ := Lib.hid (And.intro mz ((HM.out.2.alloc HM.out.2.size _).grown gz (by have := HM.out.2.size; simp; omega) (fun r hr => by injection hr with hr; rw [← hr, HGM.out]; exact Nat.le_refl _))); clear mz gz))
                                                    go_roundw
                                                    case rel => exact ⟨k + 1, m + 1, by go_num, by omega, by omega, by omega, by rw [← ftab_put HFP.out]; exact HZ.out.1, HZ.out.2⟩
                                                    case measure => simp [intOf]; omega
                                                  · have t54 : ((k : Int) == 54) = false := by rw [beq_eq_false_iff_ne]; omega
                                                    by_cases e55 : k = 55
                                                    · have t55 : ((k : Int) == 55) = true := by rw [beq_iff_eq]; omega
                                                      have HFP : Hid (formOf k = some ⟨36, 1, 1, 40⟩) := by rw [e55]; exact rfl
                                                      clear hli e4 e5 e20 e21 e22 e57 e26 e56 e50 e51 e8 e9 e10 e11 e43 e44 e45 e46 e47 e48 e52 e54 e55
                                                      go_wp2_with (first | (refine wpList_lookup_none _ rfl _ _ rfl gm m k (ftab k) rfl rfl (by omega) HM.out.1 HF.out ?_) | (refine wpList_insert_form _ rfl _ _ _ (.inr rfl) gm m k (ftab k) ⟨36, 1, 1, 40⟩ rfl rfl rfl (by omega) (HM.out.1.below ((Below.refl _ _).alloc (Nat.le_refl _) _)) (by omega) ?_; intro wz mz gz; have HZ := Lib.hid (And.intro mz ((HM.out.2.alloc HM.out.2.size _).grown gz (by have := HM.out.2.size; simp; omega) (fun r hr => by injection hr with hr; rw [← hr, HGM.out]; exact Nat.le_refl _))); clear mz gz))
                                                      go_roundw
                                                      case rel => exact ⟨k + 1, m + 1, by go_num, by omega, by omega, by omega, by rw [← ftab_put HFP.out]; exact HZ.out.1, HZ.out.2⟩
                                                      case measure => simp [intOf]; omega
                                                    · have t55 : ((k : Int) == 55) = false := by rw [beq_eq_false_iff_ne]; omega
                                                      by_cases q1 : 30 ≤ k
                                                      · by_cases q2 : k ≤ 42
                                                        · have HFP : Hid (formOf k = some ⟨36, 2, 2, 40⟩) := formOf_mid q1 q2
                                                          have d1 : decide ((30 : Int) ≤ (k : Int)) = true := decide_eq_true (by omega)
                                                          have d2 : decide ((k : Int) ≤ (42 : Int)) = true := decide_eq_true (by omega)
                                                          clear hli e4 e5 e20 e21 e22 e57 e26 e56 e50 e51 e8 e9 e10 e11 e43 e44 e45 e46 e47 e48 e52 e54 e55
                                                          go_wp2_with (first | (refine wpList_lookup_none _ rfl _ _ rfl gm m k (ftab k) rfl rfl (by omega) HM.out.1 HF.out ?_) | (refine wpList_insert_form _ rfl _ _ _ (.inr rfl) gm m k (ftab k) ⟨36, 2, 2, 40⟩ rfl rfl rfl (by omega) (HM.out.1.below ((Below.refl _ _).alloc (Nat.le_refl _) _)) (by omega) ?_; intro wz mz gz; have HZ := Lib.hid (And.intro mz ((HM.out.2.alloc HM.out.2.size _).grown gz (by have := HM.out.2.size; simp; omega) (fun r hr => by injection hr with hr; rw [← hr, HGM.out]; exact Nat.le_refl _))); clear mz gz))
                                                          go_roundw
                                                          case rel => exact ⟨k + 1, m + 1, by go_num, by omega, by omega, by omega, by rw [← ftab_put HFP.out]; exact HZ.out.1, HZ.out.2⟩
                                                          case measure => simp [intOf]; omega
                                                        · have HFP : Hid (formOf k = none) := formOf_no hli hlt (by omega) (by omega)
                                                          have d1 : decide ((30 : Int) ≤ (k : Int)) = true := decide_eq_true (by omega)
                                                          have d2 : decide ((k : Int) ≤ (42 : Int)) = false := decide_eq_false (by omega)
                                                          clear hli e4 e5 e20 e21 e22 e57 e26 e56 e50 e51 e8 e9 e10 e11 e43 e44 e45 e46 e47 e48 e52 e54 e55
                                                          go_wp2_with (refine wpList_lookup_none _ rfl _ _ rfl gm m k (ftab k) rfl rfl (by omega) HM.out.1 HF.out ?_)
                                                          go_roundw
                                                          case rel => exact ⟨k + 1, m, by go_num, by omega, by omega, by omega, by rw [ftab_skip (.inr HFP.out)]; exact HM.out.1.below ((Below.refl _ _).alloc (Nat.le_refl _) _), HM.out.2.alloc HM.out.2.size _⟩
                                                          case measure => simp [intOf]; omega
                                                      · have HFP : Hid (formOf k = none) := formOf_no hli hlt (by omega) (by omega)
                                                        have d1 : decide ((30 : Int) ≤ (k : Int)) = false := decide_eq_false (by omega)
                                                        clear hli e4 e5 e20 e21 e22 e57 e26 e56 e50 e51 e8 e9 e10 e11 e43 e44 e45 e46 e47 e48 e52 e54 e55
                                                        go_wp2_with (refine wpList_lookup_none _ rfl _ _ rfl gm m k (ftab k) rfl rfl (by omega) HM.out.1 HF.out ?_)
                                                        go_roundw
                                                        case rel => exact ⟨k + 1, m, by go_num, by omega, by omega, by omega, by rw [ftab_skip (.inr HFP.out)]; exact HM.out.1.below ((Below.refl _ _).alloc (Nat.le_refl _) _), HM.out.2.alloc HM.out.2.size _⟩
                                                        case measure => simp [intOf]; omega
    · have hk : k = 58 := by omega
      subst hk
      go_wp2_with fail
      go_ret
      exact ⟨gm, m, rfl, by have h := HM.out.1; rw [show ftab 58 = formOf from funext ftab_all] at h; exact h, HM.out.2, by rw [HGM.out]; exact Nat.le_refl _⟩
end Go.Proofs.Ytpdofcjgpomehaa
