/- Writing over lists of bytes; small contracts of readers. -/
import Derived.Test.YtmoplkmfpobhaaaRfd
import Derived.Test.YtmoplkmfpobhaaaSme
import Derived.Test.YtmoplkmfpobhaaaAw
namespace Go.Proofs.Ytmoplkmfpobhaaa
open Go.RowKit

theorem new_any (w : World) : Calls Try.prog 23 #[] w fun e w' => e = .returned (.pointer (some ⟨w.heap.size, 0, none⟩)) ∧ w.alloc (.cells #[.bool true, .slice none 0 0, .int .i64 0, .int .i64 0] 43) = w' := by
  go_enter Try.func23, Try.ntmps23
  go_wp2_with fail
  go_ret
  exact ⟨rfl, rfl⟩
theorem left_any (br : Nat) (A : Option Addr) (n c tk er : Nat) (w : World) (h : Rdr w br (.slice A n c) tk er) : Calls Try.prog 21 #[.pointer (some ⟨br, 0, none⟩)] w fun e w' => e = .returned (.int .i64 (n : Nat)) ∧ w' = w := by
  have c1 : w.cell? ⟨br, 1, none⟩ = some (.slice A n c) := h.cell 1
  clear h
  go_enter Try.func21, Try.ntmps21
  go_wp2_with fail
  go_ret
  exact ⟨rfl, rfl⟩
theorem taken_any (br : Nat) (lv : Value) (tk er : Nat) (w : World) (h : Rdr w br lv tk er) : Calls Try.prog 22 #[.pointer (some ⟨br, 0, none⟩)] w fun e w' => e = .returned (.int .i64 (tk : Nat)) ∧ w' = w := by
  have c2 : w.cell? ⟨br, 2, none⟩ = some (.int .i64 (tk : Nat)) := h.cell 2
  clear h
  go_enter Try.func22, Try.ntmps22
  go_wp2_with fail
  go_ret
  exact ⟨rfl, rfl⟩

/-- A list of bytes' lists between lo and hi, whatever they are. -/
def LA (w : World) (lo hi : Nat) (v : Value) (n : Nat) : Prop :=
  ∃ us : List Value, w.ownsRow lo 22 1 v n us ∧ (∀ g, v.ownBlock = some g → g < hi) ∧ us.length = n ∧ ∀ (i : Nat) (u : Value), us[i]? = some u → ∃ l : List UInt8, Bod w lo u l ∧ ∀ g, u.ownBlock = some g → g < hi
theorem LB.la {w : World} {lo hi : Nat} {v : Value} {ls : List (List UInt8)} (h : LB w lo hi v ls) : LA w lo hi v ls.length := by
  obtain ⟨us, ho, hv, hl, hu⟩ := h
  refine ⟨us, ho, hv, hl, fun i u h1 => ?_⟩
  have hi : i < ls.length := by rw [← hl]; exact (List.getElem?_eq_some_iff.1 h1).1
  exact ⟨ls[i], hu i u _ h1 (List.getElem?_eq_getElem hi)⟩
theorem LA.cell {w : World} {lo hi : Nat} {v : Value} {n : Nat} (h : LA w lo hi v n) {k : Nat} (hk : k < n) :
    ∃ g c A l c', v = .slice (some ⟨g, 0, none⟩) n c ∧ w.cell? ⟨g, k, none⟩ = some (.slice A l c') ∧ l ≤ 9223372036854775807 ∧
      ∀ j, j < l → ∃ b x, A = some ⟨b, 0, none⟩ ∧ g ≠ b ∧ w.cell? ⟨b, j, none⟩ = some (.int .u8 x) ∧ w.frozen? ⟨b, j, none⟩ = false ∧ lo ≤ b ∧ b < hi ∧ ∀ y, LA (w.setCell ⟨b, j, none⟩ (.int .u8 ((y : UInt8).toNat : Int))) lo hi v n := by
  obtain ⟨us, ho, hv, hl, hu⟩ := h
  have h1 : us[k]? = some us[k] := List.getElem?_eq_getElem (by omega)
  obtain ⟨l, ⟨A, c', he, ho'⟩, hb⟩ := hu k _ h1
  obtain ⟨g, cap, hvv, hg1, hg2⟩ := ho.form (by omega)
  have hmx : l.length ≤ 9223372036854775807 := by
    rcases ho'.2 with ⟨_, h0⟩ | ⟨_, cp2, _, _, _, _, q1, q2, _⟩
    · omega
    · unfold maxLen at q2; omega
  refine ⟨g, cap, A, l.length, c', hvv, ?_, hmx, fun j hj => ?_⟩
  · have := ho.cells (g := g) (by rw [hvv]; rfl) k us[k] h1
    rw [addr_add, Nat.zero_add, he] at this
    exact this
  · obtain ⟨b, cap2, hvv2, hb1, hb2⟩ := ho'.form (by omega)
    rw [he] at hvv2
    injection hvv2 with hA _ _
    subst hA
    rw [he] at ho' hb
    have hc := ho'.cells (g := b) rfl j _ (bcells_get l j hj)
    rw [addr_add, Nat.zero_add] at hc
    have hbh := hb b rfl
    have hfr : w.frozen? ⟨b, j, none⟩ = false := by
      rcases ho'.2 with ⟨hn, _⟩ | ⟨g2, c2, cur, hv2, _, hh, _⟩
      · cases hn
      · injection hv2 with h3
        injection h3 with h3
        injection h3 with h3
        subst h3
        simp [World.frozen?, hh]
    have hgb : g ≠ b := by
      have h5 := own_ne (u := v) (v := .slice (some ⟨b, 0, none⟩) l.length c') ho ho' (by decide)
      rw [hvv] at h5
      rcases h5 with h5 | h5
      · simp [Value.ownBlock] at h5
      · intro e; apply h5; simp [Value.ownBlock, e]
    refine ⟨b, _, rfl, hgb, hc, hfr, hb1, hbh, fun y => ?_⟩
    have key : ∀ (u : Value) (l2 : List UInt8), Bod w lo u l2 → ∃ l3, Bod (w.setCell ⟨b, j, none⟩ (.int .u8 (y.toNat : Int))) lo u l3 := by
      rintro u l2 ⟨A2, c2, rfl, ho2⟩
      by_cases hbk : (Value.slice A2 l2.length c2).ownBlock = some b
      · rcases ho2.2 with ⟨hn, _⟩ | ⟨g2, cp2, cur, hv2, hg3, hh, q1, q2, q3, q4⟩
        · rw [hn] at hbk; simp [Value.ownBlock] at hbk
        · rw [hv2] at hbk
          have hgb : g2 = b := by simpa [Value.ownBlock] using hbk
          subst hgb
          refine ⟨l2.set j y, A2, c2, by rw [List.length_set], ?_⟩
          rw [List.length_set]
          refine ⟨by rw [bcells_length, List.length_set, Nat.mul_one], .inr ⟨g2, cp2, cur.setIfInBounds j (.int .u8 (y.toNat : Int)), hv2, hg3, ?_, q1, q2, by rw [Array.size_setIfInBounds]; exact q3, ?_⟩⟩
          · have hB : Blk w g2 5 cur := hh
            exact hB.set_ j _
          · rw [Array.toList_setIfInBounds, List.take_set, q4]
            unfold bcells
            rw [List.map_set]
      · refine ⟨l2, A2, c2, rfl, own_chg ho2 ((Chg.refl (fun k => k = b) w).setCell (p := ⟨b, j, none⟩) rfl _) (fun g hg h => hbk (by rw [hg, h]))⟩
    refine ⟨us, own_chg ho ((Chg.refl (fun k => k = b) w).setCell (p := ⟨b, j, none⟩) rfl _) (fun g' hg' h => by rw [hvv] at hg'; simp [Value.ownBlock] at hg'; omega), hv, hl, fun i u hi => ?_⟩
    obtain ⟨l2, hB2, hb2'⟩ := hu i u hi
    obtain ⟨l3, hB3⟩ := key u l2 hB2
    exact ⟨l3, hB3, hb2'⟩
end Go.Proofs.Ytmoplkmfpobhaaa
