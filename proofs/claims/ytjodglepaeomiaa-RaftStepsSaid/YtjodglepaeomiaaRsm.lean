/- Contract of SameMsgs. -/
import Derived.Test.YtjodglepaeomiaaRsl
namespace Go.Proofs.Ytjodglepaeomiaa
open Go.RowKit

/-- A message of a list. -/
theorem MsR.at_ {w : World} {B n c : Nat} {D : Option Addr} {ms : List Mg} (h : MsR w B D n c ms) {k : Nat} {m : Mg} (hk : ms[k]? = some m) :
    ∃ (b : Nat) (E : Option Addr) (e : Nat), D = some ⟨b, 0, none⟩ ∧ (∀ j v, (mcell E e m)[j]? = some v → w.cell? ⟨b, k * 9 + j, none⟩ = some v) ∧ RdE w E m.ents := by
  obtain ⟨Z, h1, h2, h3, h4⟩ := h
  rw [← h1, List.getElem?_map] at hk
  obtain ⟨x, hx, hxm⟩ := Option.map_eq_some_iff.1 hk
  obtain ⟨m', E, e⟩ := x
  dsimp only at hxm
  subst hxm
  have hkl : k < Z.length := (List.getElem?_eq_some_iff.1 hx).1
  obtain ⟨g, cap, hv, _, hlt⟩ := h3.form (by omega)
  have hD : D = some ⟨g, 0, none⟩ := by injection hv
  subst hD
  have hmem := List.mem_of_getElem? hx
  refine ⟨g, E, e, rfl, fun j v hj => ?_, .of_own ecell_len (h4 _ hmem) rfl⟩
  have h5 := h3.cells (g := g) rfl (k * 9 + j) v (rowOf_get xcell_len Z k _ j v hx hj)
  rw [addr_add, Nat.zero_add] at h5
  exact h5
set_option maxRecDepth 100000 in
set_option maxHeartbeats 8000000 in
theorem sameMsgs_any (D D' : Option Addr) (d d' B B' : Nat) (ms : List Mg) (w : World) (h : MsR w B D ms.length d ms) (h' : MsR w B' D' ms.length d' ms) (hents : ∀ m ∈ ms, m.ents.length ≤ 9223372036854775807) (hml : ms.length ≤ 100000) :
    Calls Try.prog 58 #[.slice D ms.length d, .slice D' ms.length d'] w fun e w' => e = .returned (.bool true) ∧ Below w.heap.size w w' := by
  obtain ⟨n, hn⟩ : ∃ n, n = ms.length := ⟨_, rfl⟩
  rw [← hn] at h h' hml ⊢
  have HH := Lib.hid (And.intro h (And.intro h' (And.intro hents hn)))
  clear h h' hents hn
  go_enter Try.func58, Try.ntmps58
  go_wp2_with fail
  go_loopw [5] (fun s5 wr => ∃ k : Nat, s5 = .int .i64 (k : Nat) ∧ k ≤ n ∧ Below w.heap.size w wr) (fun s5 _ => n - (intOf s5).toNat)
  case atStart => exact ⟨0, rfl, by omega, Below.refl _ _⟩
  case round =>
    obtain ⟨k, rfl, hk, hb⟩ := hrel
    have HB := Lib.hid hb
    clear hb
    by_cases hlt : k < n
    · have hkl : k < ms.length := by rw [← HH.out.2.2.2]; exact hlt
      obtain ⟨m, hm⟩ : ∃ m, ms[k]? = some m := ⟨_, List.getElem?_eq_getElem hkl⟩
      obtain ⟨b0, E0, e0, hD0, hc0, hr0⟩ := (HH.out.1.below HB.out).at_ hm
      obtain ⟨b1, E1, e1, hD1, hc1, hr1⟩ := (HH.out.2.1.below HB.out).at_ hm
      subst hD0
      subst hD1
      have HLN := Lib.hid (HH.out.2.2.1 m (List.mem_of_getElem? hm))
      have HRR := Lib.hid (And.intro hr0 hr1)
      obtain ⟨mk, frm, to, term, index, logTerm, ents, commit, ok⟩ := m
      clear hm hkl hr0 hr1
      have HLT := Lib.hid hlt
      have x0 : wr.cell? ⟨b0, k * 9, none⟩ = some (.int .u8 (mk : Nat)) := hc0 0 _ rfl
      have x1 : wr.cell? ⟨b0, k * 9 + 1, none⟩ = some (.int .i64 frm) := hc0 1 _ rfl
      have x2 : wr.cell? ⟨b0, k * 9 + 2, none⟩ = some (.int .i64 to) := hc0 2 _ rfl
      have x3 : wr.cell? ⟨b0, k * 9 + 3, none⟩ = some (.int .i64 term) := hc0 3 _ rfl
      have x4 : wr.cell? ⟨b0, k * 9 + 4, none⟩ = some (.int .i64 index) := hc0 4 _ rfl
      have x5 : wr.cell? ⟨b0, k * 9 + 5, none⟩ = some (.int .i64 logTerm) := hc0 5 _ rfl
      have x6 : wr.cell? ⟨b0, k * 9 + 6, none⟩ = some (.slice E0 ents.length e0) := hc0 6 _ rfl
      have x7 : wr.cell? ⟨b0, k * 9 + 7, none⟩ = some (.int .i64 commit) := hc0 7 _ rfl
      have x8 : wr.cell? ⟨b0, k * 9 + 8, none⟩ = some (.bool ok) := hc0 8 _ rfl
      have y0 : wr.cell? ⟨b1, k * 9, none⟩ = some (.int .u8 (mk : Nat)) := hc1 0 _ rfl
      have y1 : wr.cell? ⟨b1, k * 9 + 1, none⟩ = some (.int .i64 frm) := hc1 1 _ rfl
      have y2 : wr.cell? ⟨b1, k * 9 + 2, none⟩ = some (.int .i64 to) := hc1 2 _ rfl
      have y3 : wr.cell? ⟨b1, k * 9 + 3, none⟩ = some (.int .i64 term) := hc1 3 _ rfl
      have y4 : wr.cell? ⟨b1, k * 9 + 4, none⟩ = some (.int .i64 index) := hc1 4 _ rfl
      have y5 : wr.cell? ⟨b1, k * 9 + 5, none⟩ = some (.int .i64 logTerm) := hc1 5 _ rfl
      have y6 : wr.cell? ⟨b1, k * 9 + 6, none⟩ = some (.slice E1 ents.length e1) := hc1 6 _ rfl
      have y7 : wr.cell? ⟨b1, k * 9 + 7, none⟩ = some (.int .i64 commit) := hc1 7 _ rfl
      have y8 : wr.cell? ⟨b1, k * 9 + 8, none⟩ = some (.bool ok) := hc1 8 _ rfl
      obtain ⟨el, hel⟩ : ∃ z, z = ents.length := ⟨_, rfl⟩
      have HEL := Lib.hid hel
      rw [← hel] at x6 y6
      clear hel hc0 hc1
      have hb0 : b0 < wr.heap.size := World.block_lt_of_cell? wr _ x0
      have hb1 : b1 < wr.heap.size := World.block_lt_of_cell? wr _ y0
      have d1 : decide ((k : Int) < (n : Int)) = true := decide_eq_true (by omega)
      have k0 : (0 : Int) ≤ (k : Int) := by omega
      have kn : (k : Int) < (n : Int) := by omega
      have HW2 : Hid (Below wr.heap.size wr ((wr.alloc (.cells #[.int .u8 (mk : Nat), .int .i64 frm, .int .i64 to, .int .i64 term, .int .i64 index, .int .i64 logTerm, .slice E0 el e0, .int .i64 commit, .bool ok] 34)).alloc (.cells #[.int .u8 (mk : Nat), .int .i64 frm, .int .i64 to, .int .i64 term, .int .i64 index, .int .i64 logTerm, .slice E1 el e1, .int .i64 commit, .bool ok] 34))) := Lib.hid (((Below.refl _ _).alloc (Nat.le_refl _) _).alloc (by simp) _)
      have HSL : Hid (Calls Try.prog 24 #[.slice E0 el e0, .slice E1 el e1] ((wr.alloc (.cells #[.int .u8 (mk : Nat), .int .i64 frm, .int .i64 to, .int .i64 term, .int .i64 index, .int .i64 logTerm, .slice E0 el e0, .int .i64 commit, .bool ok] 34)).alloc (.cells #[.int .u8 (mk : Nat), .int .i64 frm, .int .i64 to, .int .i64 term, .int .i64 index, .int .i64 logTerm, .slice E1 el e1, .int .i64 commit, .bool ok] 34)) fun e w' => e = .returned (.bool true) ∧ Below ((wr.alloc (.cells #[.int .u8 (mk : Nat), .int .i64 frm, .int .i64 to, .int .i64 term, .int .i64 index, .int .i64 logTerm, .slice E0 el e0, .int .i64 commit, .bool ok] 34)).alloc (.cells #[.int .u8 (mk : Nat), .int .i64 frm, .int .i64 to, .int .i64 term, .int .i64 index, .int .i64 logTerm, .slice E1 el e1, .int .i64 commit, .bool ok] 34)).heap.size ((wr.alloc (.cells #[.int .u8 (mk : Nat), .int .i64 frm, .int .i64 to, .int .i64 term, .int .i64 index, .int .i64 logTerm, .slice E0 el e0, .int .i64 commit, .bool ok] 34)).alloc (.cells #[.int .u8 (mk : Nat), .int .i64 frm, .int .i64 to, .int .i64 term, .int .i64 index, .int .i64 logTerm, .slice E1 el e1, .int .i64 commit, .bool ok] 34)) w') := by
        have hs := sameLog_any E0 E1 e0 e1 ents _ (HRR.out.1.below HW2.out) (HRR.out.2.below HW2.out) HLN.out
        rw [← HEL.out] at hs
        exact Lib.hid hs
      go_wp2_with fail
      refine HSL.out.mono ?_
      rintro e w3 ⟨rfl, hb3⟩
      have H3 : Hid (Below w.heap.size w w3) := Lib.hid (HB.out.trans ((HW2.out.trans (hb3.mono HW2.out.size)).mono HB.out.size))
      clear hb3
      go_wp2_with fail
      go_roundw
      case rel => exact ⟨k + 1, by go_num, by have := HLT.out; omega, H3.out⟩
      case measure => have := HLT.out; simp [intOf]; omega
    · have d1 : decide ((k : Int) < (n : Int)) = false := decide_eq_false (by omega)
      go_wp2_with fail
      go_ret
      exact ⟨rfl, HB.out⟩
end Go.Proofs.Ytjodglepaeomiaa
