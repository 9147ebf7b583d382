/- Contracts of the document's rising, May. -/
import Derived.Test.YtjodglepaeomiaaRpr
namespace Go.Proofs.Ytjodglepaeomiaa
open Go.RowKit

theorem rises_step {l : List Ent} {a b : Int} {k : Nat} {x : Ent} (hx : l[k]? = some x) (h : rises (l.take k) a b = true) (hp : lastT a (l.take k) ≤ x.term) (h1 : x.term ≤ b) (h2 : x.data.size ≤ 65536) : rises (l.take (k + 1)) a b = true := by
  have hk := (List.getElem?_eq_some_iff.1 hx).1
  have e : l.take (k + 1) = l.take k ++ [x] := by
    rw [List.take_add_one, hx]; rfl
  rw [e, rises_append, h, Bool.true_and]
  simp only [rises, Bool.and_true, Bool.not_eq_true', Bool.or_eq_false_iff, decide_eq_false_iff_not]
  omega
theorem rises_bad {l : List Ent} {a b : Int} {k : Nat} {x : Ent} (hx : l[k]? = some x) (h : x.term < lastT a (l.take k) ∨ b < x.term ∨ 65536 < x.data.size) : rises l a b = false := by
  have hk := (List.getElem?_eq_some_iff.1 hx).1
  have e : l.drop k = x :: l.drop (k + 1) := by
    rw [List.drop_eq_getElem_cons hk]
    congr 1
    rw [List.getElem?_eq_getElem hk] at hx
    injection hx
  rw [← List.take_append_drop k l, rises_append, e]
  simp only [rises]
  have : (!(decide (x.term < lastT a (l.take k)) || decide (b < x.term) || decide (65536 < x.data.size))) = false := by
    rw [Bool.not_eq_false']
    simp only [Bool.or_eq_true, decide_eq_true_eq]
    rcases h with h | h | h
    · exact .inl (.inl h)
    · exact .inl (.inr h)
    · exact .inr h
  rw [this, Bool.false_and, Bool.and_false]
set_option maxRecDepth 100000 in
set_option maxHeartbeats 8000000 in
theorem rising_r (A : Option Addr) (c : Nat) (l : List Ent) (a b : Int) (w : World) (hrd : RdE w A l) (hlen : l.length ≤ 9223372036854775807) :
    Calls Try.prog 70 #[.slice A l.length c, .int .i64 a, .int .i64 b] w fun e w' => e = .returned (.bool (rises l a b)) ∧ Below w.heap.size w w' := by
  obtain ⟨R, hR⟩ : ∃ R, R = rises l a b := ⟨_, rfl⟩
  obtain ⟨n, hn⟩ : ∃ n, n = l.length := ⟨_, rfl⟩
  have HH := Lib.hid (And.intro hrd (And.intro hn hR))
  rw [← hR]
  rw [← hn] at hlen ⊢
  clear hrd hn hR
  go_enter Try.func70, Try.ntmps70
  go_wp2_with fail
  go_loopw [7] (fun s7 wr => ∃ k : Nat, s7 = .int .i64 (k : Nat) ∧ k ≤ n ∧ rises (l.take k) a b = true ∧ Below w.heap.size w wr) (fun s7 _ => n - (intOf s7).toNat)
  case atStart => exact ⟨0, rfl, by omega, rfl, Below.refl _ _⟩
  case round =>
    obtain ⟨k, rfl, hk, hrs, hb⟩ := hrel
    have HB := Lib.hid (And.intro hrs hb)
    clear hrs hb
    by_cases hlt : k < n
    · have hkl : k < l.length := by rw [← HH.out.2.1]; exact hlt
      obtain ⟨x, hx⟩ : ∃ x, l[k]? = some x := ⟨_, List.getElem?_eq_getElem hkl⟩
      obtain ⟨b0, off, hE, hbl, c0, c1⟩ := (HH.out.1.below HB.out.2).ents hx
      subst hE
      have HX := Lib.hid hx
      have d0 : decide ((k : Int) < (n : Int)) = true := decide_eq_true (by omega)
      have k0 : (0 : Int) ≤ (k : Int) := by omega
      have kn : (k : Int) < (n : Int) := by omega
      obtain ⟨t, dt⟩ := x
      dsimp only at c0 c1
      have HPV : Hid (0 < k → ∀ m, k = m + 1 → wr.cell? ⟨b0, off + m * 2, none⟩ = some (.int .i64 (lastT a (l.take k)))) := Lib.hid (fun _ m hm => by
        obtain ⟨y, hy⟩ : ∃ y, l[m]? = some y := ⟨_, List.getElem?_eq_getElem (by omega)⟩
        obtain ⟨b1, o1, hE1, _, c2, _⟩ := (HH.out.1.below HB.out.2).ents hy
        injection hE1 with hE1
        injection hE1 with e1 e2
        subst e1; subst e2
        rw [c2, lastT_take l a k (by omega), if_neg (by omega), hm, termAt, hy]; rfl)
      have HLT : Hid (a ≤ b → a ≤ lastT a (l.take k)) := Lib.hid (fun h => (rises_last HB.out.1 h).2)
      have HL0 : Hid (k = 0 → lastT a (l.take k) = a) := Lib.hid (fun h => by rw [h]; rfl)
      obtain ⟨p, hp⟩ : ∃ p, p = lastT a (l.take k) := ⟨_, rfl⟩
      rw [← hp] at HPV HLT HL0
      have HP := Lib.hid hp
      clear hx hkl hp
      by_cases h1 : t < a
      · have d1 : decide (t < a) = true := decide_eq_true h1
        have HRF : Hid (R = false) := by
          rw [HH.out.2.2]
          by_cases hab : a ≤ b
          · exact Lib.hid (rises_bad HX.out (.inl (by rw [← HP.out]; have := HLT.out hab; dsimp only; omega)))
          · by_cases hz : k = 0
            · exact Lib.hid (rises_bad HX.out (.inl (by rw [← HP.out, HL0.out hz]; exact h1)))
            · obtain ⟨y, hy⟩ : ∃ y, l[0]? = some y := ⟨_, List.getElem?_eq_getElem (by have := HH.out.2.1; omega)⟩
              exact Lib.hid (rises_bad hy (by show y.term < a ∨ _; omega))
        clear h1
        go_wp2_with fail
        go_ret
        exact ⟨ret_bool HRF.out.symm, HB.out.2⟩
      · have d1 : decide (t < a) = false := decide_eq_false h1
        by_cases h2 : b < t
        · have d2 : decide (b < t) = true := decide_eq_true h2
          have HRF : Hid (R = false) := by rw [HH.out.2.2]; exact Lib.hid (rises_bad HX.out (.inr (.inl h2)))
          clear h1 h2
          go_wp2_with fail
          go_ret
          exact ⟨ret_bool HRF.out.symm, HB.out.2⟩
        · have d2 : decide (b < t) = false := decide_eq_false h2
          by_cases h3 : 65536 < dt.size
          · have d3 : decide ((65536 : Int) < (dt.size : Int)) = true := decide_eq_true (by omega)
            have HRF : Hid (R = false) := by rw [HH.out.2.2]; exact Lib.hid (rises_bad HX.out (.inr (.inr h3)))
            clear h1 h2 h3
            go_wp2_with fail
            go_ret
            exact ⟨ret_bool HRF.out.symm, HB.out.2⟩
          · have d3 : decide ((65536 : Int) < (dt.size : Int)) = false := decide_eq_false (by omega)
            by_cases hz : k = 0
            · have d4 : decide ((0 : Int) < (k : Int)) = false := decide_eq_false (by omega)
              have d4' : decide (0 < k) = false := decide_eq_false (by omega)
              have d4'' : ¬ 0 < k := by omega
              have HST : Hid (rises (l.take (k + 1)) a b = true) := Lib.hid (rises_step HX.out HB.out.1 (by rw [← HP.out, HL0.out hz]; dsimp only; omega) (by dsimp only; omega) (by dsimp only; omega))
              clear hz h1 h2 h3
              go_wp2_with fail
              go_quiet (fail)
              go_wp2_with fail
              go_roundw
              case rel => exact ⟨k + 1, by go_num, by omega, HST.out, below_drewN HB.out.2 _⟩
              case measure => simp [intOf]; omega
            · have d4 : decide ((0 : Int) < (k : Int)) = true := decide_eq_true (by omega)
              have d4' : 0 < k := by omega
              obtain ⟨m, hm⟩ : ∃ m, k = m + 1 := ⟨k - 1, by omega⟩
              have pv := HPV.out (by omega) m hm
              have em : (k : Int) - 1 = (m : Int) := by omega
              have m0 : (0 : Int) ≤ (m : Int) := by omega
              have mn : (m : Int) < (n : Int) := by omega
              by_cases h4 : t < p
              · have d5 : decide (t < p) = true := decide_eq_true h4
                have HRF : Hid (R = false) := by rw [HH.out.2.2]; exact Lib.hid (rises_bad HX.out (.inl (by rw [← HP.out]; exact h4)))
                clear hm hz h1 h2 h3 h4
                go_wp2_with fail
                go_quiet (fail)
                go_wp2_with fail
                go_ret
                exact ⟨ret_bool HRF.out.symm, below_drewN HB.out.2 _⟩
              · have d5 : decide (t < p) = false := decide_eq_false h4
                have HST : Hid (rises (l.take (k + 1)) a b = true) := Lib.hid (rises_step HX.out HB.out.1 (by rw [← HP.out]; dsimp only; omega) (by dsimp only; omega) (by dsimp only; omega))
                clear hm hz h1 h2 h3 h4
                go_wp2_with fail
                go_quiet (fail)
                go_wp2_with fail
                go_roundw
                case rel => exact ⟨k + 1, by go_num, by omega, HST.out, below_drewN HB.out.2 _⟩
                case measure => simp [intOf]; omega
    · have d0 : decide ((k : Int) < (n : Int)) = false := decide_eq_false (by omega)
      have HRT : Hid (R = true) := by
        rw [HH.out.2.2]
        have h := HB.out.1
        rw [List.take_of_length_le (by rw [← HH.out.2.1]; omega)] at h
        exact Lib.hid h
      go_wp2_with fail
      go_ret
      exact ⟨ret_bool HRT.out.symm, HB.out.2⟩
end Go.Proofs.Ytjodglepaeomiaa
