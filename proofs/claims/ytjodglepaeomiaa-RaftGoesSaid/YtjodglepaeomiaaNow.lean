/- Contract of the net's out. -/
import Derived.Test.YtjodglepaeomiaaFin
namespace Go.Proofs.Ytjodglepaeomiaa
open Go.RowKit

/-- What out leaves. -/
def NoutPost (w : World) (B gN : Nat) (X : Nat → Prop) (ps : List (Nat × Sv)) (way0 way : List Mx) (Z : Seen) (w' : World) : Prop :=
  ∃ X' v', NetM w' B gN X' ps way Z v' ∧ Chg X w w' ∧ (∀ b, X b → X' b) ∧ ∀ x ∈ way0, w'.ownsRow 0 39 2 (.slice x.2.1 x.1.ents.length x.2.2) x.1.ents.length (rowOf ecell x.1.ents)
theorem Reads.part {w : World} {g off n k q : Nat} {c : Nat} {Z : Nat → Prop} {l m : List Mx} {r : List Mx} (h : RowZ w Z 34 9 (.slice (some ⟨g, off, none⟩) n c) n (rowOf xcell (l ++ m ++ r))) (hk : l.length = k) (hq : m.length = q) :
    Reads w w.heap.size 9 (some ⟨g, off + k * 9, none⟩) q (rowOf xcell m) := by
  obtain ⟨h1, A, cap, h2, h3, h4, h5⟩ := id h
  injection h2 with e1 e2 e3
  have hb : g < w.heap.size := by
    rcases h5 with ⟨h6, _⟩ | ⟨g', off', cur, h6, hz, hb, _⟩
    · rw [← e1] at h6; cases h6
    · rw [← e1] at h6; injection h6 with h6; injection h6 with e4 e5; subst e4; exact hb.lt
  refine ⟨by rw [rowOf_length xcell_len, hq], fun hn => ⟨_, rfl, hb, fun j u hu => ?_⟩⟩
  rw [addr_add, Nat.add_assoc]
  refine h.cell (j := k * 9 + j) ?_
  rw [rowOf_append, rowOf_append, List.append_assoc, List.getElem?_append_right (by rw [rowOf_length xcell_len, hk]; omega), rowOf_length xcell_len, hk, Nat.add_sub_cancel_left, List.getElem?_append_left (List.getElem?_eq_some_iff.1 hu).1]
  exact hu
set_option maxRecDepth 100000 in
set_option maxHeartbeats 4000000 in
theorem nout_any {w : World} {B gN : Nat} {X : Nat → Prop} {ps : List (Nat × Sv)} {way : List Mx} {Z : Seen} {v : Nv} (h : NetM w B gN X ps way Z v) {k : Nat} (hk : k < way.length) (hlen : way.length ≤ 90000) :
    Calls Try.prog 69 #[.pointer (some ⟨gN, 0, none⟩), .int .i64 (k : Nat)] w fun e w' => e = .returned (.tuple #[]) ∧ NoutPost w B gN X ps way (way.take k ++ way.drop (k + 1)) Z w' := by
  obtain ⟨g, off, cw, cur, e1, hXg, hnc, hbl⟩ := h.wy.form (by omega)
  injection e1 with e1 _ e3
  obtain ⟨n, hn⟩ : ∃ n, n = way.length := ⟨_, rfl⟩
  have HN := Lib.hid hn
  have hW := h.wy
  rw [← hn] at hW hnc hk hlen
  rw [e1, e3] at hW
  have HR1 : Hid (Reads w w.heap.size 9 (some ⟨g, off, none⟩) k (rowOf xcell (way.take k))) := Lib.hid (by
    have := Reads.part (l := []) (m := way.take k) (r := way.drop k) (k := 0) (q := k) (by rw [List.nil_append, List.take_append_drop]; exact hW) rfl (by rw [List.length_take]; omega)
    simpa using this)
  have HR2 : Hid (Reads w w.heap.size 9 (some ⟨g, off + (k + 1) * 9, none⟩) (n - (k + 1)) (rowOf xcell (way.drop (k + 1)))) := Lib.hid (
    Reads.part (l := way.take (k + 1)) (m := way.drop (k + 1)) (r := []) (k := k + 1) (q := n - (k + 1)) (by rw [List.append_nil, List.take_append_drop]; exact hW) (by rw [List.length_take]; omega) (by rw [List.length_drop]; omega))
  have HH := Lib.hid h
  have c1 := h.c1
  rw [← hn, e1, e3] at c1
  have hcm : cw ≤ 9223372036854775807 := by
    obtain ⟨_, A, cap, h2, _, h4, _⟩ := h.wy
    injection h2 with _ _ e
    rw [e] at e3
    unfold maxLen at h4
    omega
  clear h hn hW hXg hbl
  have i0 : (0 : Int) ≤ (k : Int) := by omega
  have i1 : (k : Int) ≤ (cw : Int) := by omega
  have i2 : (k : Int) + 1 ≤ (n : Int) := by omega
  have i3 : (0 : Int) ≤ (k : Int) + 1 := by omega
  have i4 : (n : Int) ≤ (cw : Int) := by omega
  have k0 : ¬ cw = 0 := by omega
  go_enter Try.func69, Try.ntmps69
  go_upto_region 2 with (first | (at_builtin; refine wpList_append_way rfl (.tmp 5) (.tmp 11) rfl (fun _ => False) none (some ⟨g, off, none⟩) 0 0 k cw w.heap.size [] (way.take k) rfl (RowZ.nil _ _ _ _) rfl HR1.out (by omega) ?_; intro A1 n1 w1 hr1 hc1; rw [Nat.zero_add] at hr1 ⊢; rw [List.nil_append] at hr1; have H1 := Lib.hid (And.intro hr1 hc1); clear hr1 hc1; have d1 : w1.cell? ⟨gN, 1, none⟩ = some (.slice (some ⟨g, off, none⟩) n cw) := by { have hb := HH.out.top.chg H1.out.2 (fun h => h.1.elim); rw [hb.cell, ← c1, HH.out.top.cell] }) | fail)
  have HK : Hid (∀ A' c' w2, RowZ w2 (fun b => (w.heap.size ≤ b ∧ b < w1.heap.size) ∨ (w1.heap.size ≤ b ∧ b < w2.heap.size)) 34 9 (.slice A' (k + (n - (k + 1))) c') (k + (n - (k + 1))) (rowOf xcell (way.take k ++ way.drop (k + 1))) → Chg (fun b => (w.heap.size ≤ b ∧ b < w1.heap.size) ∧ ∃ cur, Blk w1 b 34 cur) w1 w2 →
      (w2.cell? ⟨gN, 1, none⟩ = some (.slice (some ⟨g, off, none⟩) n cw) ∧ w2.frozen? ⟨gN, 1, none⟩ = false) ∧ NoutPost w B gN X ps way (way.take k ++ way.drop (k + 1)) Z (w2.setCell ⟨gN, 1, none⟩ (.slice A' (k + (n - (k + 1))) c'))) := Lib.hid (fun A' c' w2 hr hc => by
    have hs1 := H1.out.2.size
    have hs2 := hc.size
    have hca : Chg (fun b => X b ∧ ∃ cur, Blk w b 34 cur) w w2 := ((H1.out.2.mono (T' := fun b => w.heap.size ≤ b) (fun b hb => hb.1.elim)).trans (hc.mono (fun b hb => hb.1.1))).old (fun b hb h => by omega)
    have hb := HH.out.top.chg hca (fun ⟨_, cur, hb⟩ => HH.out.top.ne_ hb (by decide) rfl)
    have hl : (way.take k ++ way.drop (k + 1)).length = k + (n - (k + 1)) := by rw [List.length_append, List.length_take, List.length_drop, ← HN.out]; omega
    have key := HH.out.newWay (w1 := w2) (X1 := fun b => X b ∨ (w.heap.size ≤ b ∧ b < w2.heap.size)) (A' := A') (c' := c') (way' := way.take k ++ way.drop (k + 1)) hca (fun b hb => .inl hb) (fun b hb => hb) (by rw [hl]; exact hr.mono (fun b hb => .inr (by omega))) (fun x hx => by
      have hx' : x ∈ way := by rcases List.mem_append.1 hx with hx | hx; exact List.mem_of_mem_take hx; exact List.mem_of_mem_drop hx
      have hy := HH.out.ent x hx'
      exact ⟨own_chg hy.1 hca (fun g hg ⟨_, cur, hb⟩ => own_blk_ne hy.1 hb (by decide) hg), fun g hg => .inl (hy.2 g hg)⟩)
    rw [hl] at key
    exact ⟨⟨by rw [← c1, hb.cell, HH.out.top.cell], hb.frozen 1⟩, _, _, key.1, key.2, fun b hb => .inl hb, fun x hx => by
      have hy := HH.out.ent x hx
      have h1 := own_chg hy.1 hca (fun g hg ⟨_, cur, hb⟩ => own_blk_ne hy.1 hb (by decide) hg)
      have hc2 : Chg (fun b => b = gN) w2 (w2.setCell ⟨gN, 1, none⟩ (.slice A' (k + (n - (k + 1))) c')) := Chg.setCell (T := fun b => b = gN) (Chg.refl _ _) (p := ⟨gN, 1, none⟩) rfl _
      exact own_chg h1 hc2 (fun g hg hg2 => own_blk_ne h1 hb (by decide) (hg.trans (congrArg some hg2)))⟩)
  by_cases hcc : cw = k + 1
  · have hnk : n = k + 1 := by omega
    subst hcc
    subst hnk
    have HR3 : Hid (Reads w1 w1.heap.size 9 (some ⟨g, off, none⟩) 0 (rowOf xcell (way.drop (k + 1)))) := Lib.hid (by
      have h0 : way.drop (k + 1) = [] := List.drop_eq_nil_of_le (by rw [← HN.out]; omega)
      rw [h0]
      exact ⟨rfl, fun h => absurd h (Nat.lt_irrefl _)⟩)
    have e0 : k + 1 - (k + 1) = 0 := by omega
    go_wp2_with (first | (at_builtin; rw [e0] at HK; go_must (refine wpList_append_way rfl (.tmp 14) (.tmp 21) rfl _ A1 (some ⟨g, off, none⟩) k n1 0 0 w1.heap.size (way.take k) (way.drop (k + 1)) (by first | rfl | simp) (H1.out.1.mono (fun b hb => hb.elim (fun h => h.elim) id)) (by first | rfl | simp) HR3.out (by omega) ?_); intro A2 n2 w2 hr2 hc2; have H2 := Lib.hid (HK.out A2 n2 w2 hr2 hc2); clear hr2 hc2 d1; have d1 := H2.out.1.1; have g1 := H2.out.1.2) | fail)
    go_end0
    exact ⟨rfl, H2.out.2⟩
  · have HR3 : Hid (Reads w1 w1.heap.size 9 (some ⟨g, off + (k + 1) * 9, none⟩) (n - (k + 1)) (rowOf xcell (way.drop (k + 1)))) := Lib.hid ((HR2.out.chg H1.out.2 (Nat.le_refl _) (fun ad _ _ h => h.1)).more H1.out.2.size)
    go_wp2_with (first | (at_builtin; go_must (refine wpList_append_way rfl (.tmp 14) (.tmp 21) rfl _ A1 (some ⟨g, off + (k + 1) * 9, none⟩) k n1 (n - (k + 1)) (cw - (k + 1)) w1.heap.size (way.take k) (way.drop (k + 1)) (by first | rfl | simp) (H1.out.1.mono (fun b hb => hb.elim (fun h => h.elim) id)) (by first | rfl | simp) HR3.out (by omega) ?_); intro A2 n2 w2 hr2 hc2; have H2 := Lib.hid (HK.out A2 n2 w2 hr2 hc2); clear hr2 hc2 d1; have d1 := H2.out.1.1; have g1 := H2.out.1.2) | fail)
    go_end0
    exact ⟨rfl, H2.out.2⟩
end Go.Proofs.Ytjodglepaeomiaa
