/- Contracts of the cache's place, eldest, Room, may, Len, find. -/
import Derived.Deep.Cut
import Derived.WalkSpells
import Derived.Test.YtnipmhidiiondaaOut
namespace Go.Proofs.Ytnipmhidiiondaa
open Go.RowKit Go.Maps

theorem Keeps.of {w w' : World} {g : Nat} {p p' : Pls} {S' : Sta} (h : Rep w' g S' p') (hc : Chg (Own g p) w w') (ho : ∀ b, Own g p' b → Own g p b ∨ w.heap.size ≤ b) : Keeps w g p S' w' := ⟨p', h, hc, ho⟩
theorem Keeps.same {w w' : World} {g : Nat} {p : Pls} {S' : Sta} (h : Rep w' g S' p) (hc : Chg (Own g p) w w') : Keeps w g p S' w' := ⟨p, h, hc, fun _ hb => .inl hb⟩

set_option maxHeartbeats 2000000 in
theorem place_free (g : Nat) (S : Sta) (p : Pls) (l : List Nat) (i : Nat) (w : World) (h : Rep w g S p) (hfl : S.fl = l ++ [i]) (hl : l.length ≤ 100000) :
    Calls Try.prog 39 #[.pointer (some ⟨g, 0, none⟩)] w fun e w' => e = .returned (.int .i64 (i : Nat)) ∧ Keeps w g p { S with fl := l } w' := by
  obtain ⟨gm, gc, cap, fv⟩ := p
  have hf0 : w.ownsRow 0 3 1 fv S.fl.length (icells S.fl) := h.free
  rw [hfl] at hf0
  obtain ⟨k, hk⟩ : ∃ k, k = l.length := ⟨_, rfl⟩
  have hlen : (l ++ [i]).length = k + 1 := by simp [hk]
  rw [hlen] at hf0
  obtain ⟨gf, cf, rfl, _, _⟩ := hf0.form (by omega)
  obtain ⟨hkc, hcm⟩ : k + 1 ≤ cf ∧ cf ≤ 9223372036854775807 := by
    rcases hf0.2 with ⟨h1, _⟩ | ⟨_, _, _, h1, _, _, h4, h5, _⟩
    · cases h1
    · injection h1 with _ _ h1; subst h1; exact ⟨h4, h5⟩
  have hcell : w.cell? ⟨gf, k, none⟩ = some (.int .i64 (i : Nat)) := by
    have := hf0.cells (g := gf) rfl k (.int .i64 (i : Nat)) (by rw [icells_append, List.getElem?_append_right (by simp [icells, hk])]; simp [icells, hk])
    rwa [addr_add, Nat.zero_add] at this
  have hnf : w.ownsRow 0 3 1 (.slice (some ⟨gf, 0, none⟩) k cf) l.length (icells l) := by
    have := own_take (n' := k) hf0 (by omega)
    simp only [reduceCtorEq, if_false] at this
    rw [icells_append, Nat.mul_one, List.take_left' (by simp [icells, hk])] at this
    rw [← hk]; exact this
  have hN := h.newFree (fv' := .slice (some ⟨gf, 0, none⟩) k cf) (fl' := l) (World.grownBy.refl w _) hnf (.inl rfl)
  have k3 : w.cell? ⟨g, 3, none⟩ = some (.slice (some ⟨gf, 0, none⟩) (k + 1) cf) := hN.2.2.2.1
  have f3 : w.frozen? ⟨g, 3, none⟩ = false := hN.2.2.2.2
  have HN := Lib.hid hN
  have hkk : k ≤ 100000 := by omega
  have hk0 : (0 : Int) ≤ (k : Int) := by omega
  clear hN hnf hf0 hfl hlen h hk hl
  go_enter Try.func39, Try.ntmps39
  go_wp2_with fail
  go_ret
  exact ⟨rfl, .of HN.out.1 HN.out.2.1 HN.out.2.2.1⟩
set_option maxHeartbeats 2000000 in
theorem place_new (g : Nat) (S : Sta) (p : Pls) (w : World) (h : Rep w g S p) (hfl : S.fl = []) (hl : S.cs.length ≤ 100000) :
    Calls Try.prog 39 #[.pointer (some ⟨g, 0, none⟩)] w fun e w' => e = .returned (.int .i64 (S.cs.length : Nat)) ∧ Keeps w g p { S with cs := S.cs ++ [Cel.zero] } w' := by
  obtain ⟨gm, gc, cap, fv⟩ := p
  have hf0 : w.ownsRow 0 3 1 fv S.fl.length (icells S.fl) := h.free
  rw [hfl] at hf0
  obtain ⟨Af, cf, rfl, _⟩ := own_form hf0
  have k3 : w.cell? ⟨g, 3, none⟩ = some (.slice Af 0 cf) := h.top.cell 3
  obtain ⟨n, hnn⟩ : ∃ n, n = S.cs.length := ⟨_, rfl⟩
  have k2 : w.cell? ⟨g, 2, none⟩ = some (.slice (some ⟨gc, 0, none⟩) n cap) := by rw [hnn]; exact h.top.cell 2
  have HR := Lib.hid h
  have HN := Lib.hid hnn
  rw [← hnn] at hl ⊢
  have hn0 : (0 : Int) ≤ (n : Int) := by omega
  clear hf0 hfl h hnn
  go_enter Try.func39, Try.ntmps39
  have z2 : True := trivial
  go_wp2_with (at_builtin; refine wpList_app_cell rfl (.tmp 35) (.tmp 37) rfl w.heap.size gc n cap S.cs Cel.zero HN.out rfl (HN.out ▸ HR.out.cells.alloc _) rfl (heap_alloc_new w _) hl ?_; intro A' c' w4 ho4 hg4 hl4; obtain ⟨gc', hA, h1, h2, h3, k4, f4⟩ := (HR.out.alloc (.cells (ccell Cel.zero).toArray 66)).newCells hg4 (HN.out ▸ ho4) (HN.out ▸ hl4); subst hA; have HF := Lib.hid (And.intro h1 (And.intro h2 h3)); have k42 : w4.cell? ⟨g, 2, none⟩ = some (.slice (some ⟨gc, 0, none⟩) n cap) := HN.out ▸ k4; clear ho4 hg4 hl4 z2 h1 h2 h3 k4)
  go_ret
  have hF := HF.out
  rw [show ({ room := S.room, cs := S.cs, fl := S.fl, f := S.f, m := S.m, hits := S.hits, misses := S.misses } : Sta).cs.length = n from HN.out.symm] at hF
  exact ⟨rfl, .of hF.1 (((Chg.refl _ w).alloc _).trans hF.2.1) (fun b hb => (hF.2.2 b hb).imp id (fun h => Nat.le_trans (by simp) h))⟩
end Go.Proofs.Ytnipmhidiiondaa
