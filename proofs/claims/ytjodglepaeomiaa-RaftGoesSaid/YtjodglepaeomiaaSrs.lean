/- Several servers in one memory, and messages beside them. Plain. -/
import Derived.Test.YtjodglepaeomiaaOpn
namespace Go.Proofs.Ytjodglepaeomiaa
open Go.RowKit

/-- Servers, each in blocks of its own; none in the blocks X. -/
def Srvs (w : World) (X : Nat → Prop) (l : List (Nat × Sv)) : Prop :=
  ∃ T : Nat → Nat → Prop, (∀ i p, l[i]? = some p → ∃ A c, SvM w p.1 p.2 A c ∧ ∀ b, SvT p.1 A b → T i b) ∧ (∀ i j b, i ≠ j → T i b → ¬ T j b) ∧ (∀ i b, T i b → b < w.heap.size ∧ ¬ X b)
theorem Srvs.nil (w : World) (X : Nat → Prop) : Srvs w X [] := ⟨fun _ _ => False, fun i p h => by simp at h, fun _ _ _ _ h => h.elim, fun _ _ h => h.elim⟩
theorem SvM.ltT {w : World} {g c : Nat} {S : Sv} {A : Option Addr} (h : SvM w g S A c) {b : Nat} (hb : SvT g A b) : b < w.heap.size := by
  rcases hb with rfl | ⟨a, ha, rfl⟩
  · exact h.lt
  · exact h.alt a ha
/-- Other blocks are written, blocks are laid. -/
theorem Srvs.chg {w w' : World} {X X' : Nat → Prop} {l : List (Nat × Sv)} (h : Srvs w X l) (hc : Chg X w w') (hX : ∀ b, X' b → X b ∨ w.heap.size ≤ b) : Srvs w' X' l := by
  obtain ⟨T, h1, h2, h3⟩ := h
  refine ⟨T, fun i p hp => ?_, h2, fun i b hb => ⟨Nat.lt_of_lt_of_le (h3 i b hb).1 hc.size, fun hx => ?_⟩⟩
  · obtain ⟨A, c, hm, ht⟩ := h1 i p hp
    exact ⟨A, c, hm.chg hc (fun b hb => (h3 i b (ht b hb)).2), ht⟩
  · rcases hX b hx with h | h
    · exact (h3 i b hb).2 h
    · exact absurd (h3 i b hb).1 (Nat.not_lt.2 h)
theorem Srvs.below {w w' : World} {X : Nat → Prop} {l : List (Nat × Sv)} (h : Srvs w X l) (hb : Below w.heap.size w w') : Srvs w' X l :=
  h.chg ((Chg.of_below hb : Chg (fun _ => False) w w').mono (fun _ h => h.elim)) (fun _ h => .inl h)
theorem Srvs.less {w : World} {X X' : Nat → Prop} {l : List (Nat × Sv)} (h : Srvs w X l) (hX : ∀ b, X' b → X b ∨ w.heap.size ≤ b) : Srvs w X' l := h.chg (Chg.refl _ _) hX
/-- A server does a step. -/
theorem Srvs.step {w : World} {X : Nat → Prop} {l : List (Nat × Sv)} (h : Srvs w X l) (hXw : ∀ b, X b → b < w.heap.size) {i g : Nat} {S : Sv} (hi : l[i]? = some (g, S)) :
    ∃ A c, SvM w g S A c ∧ ∀ (S' : Sv) (A' : Option Addr) (c' : Nat) (w' : World) (X' : Nat → Prop), SvM w' g S' A' c' → Chg (SvT g A) w w' → (∀ a, A' = some a → (∃ a0, A = some a0 ∧ a.block = a0.block) ∨ w.heap.size ≤ a.block) →
      (∀ b, X' b → X b ∨ (w.heap.size ≤ b ∧ ∀ a, A' = some a → a.block < b)) → Srvs w' X' (l.set i (g, S')) ∧ Chg (fun b => ¬ X b) w w' := by
  obtain ⟨T, h1, h2, h3⟩ := h
  obtain ⟨A, c, hm, ht⟩ := h1 i _ hi
  have hil : i < l.length := (List.getElem?_eq_some_iff.1 hi).1
  refine ⟨A, c, hm, fun S' A' c' w' X' hm' hc htr hX => ⟨⟨fun j b => if j = i then SvT g A' b else T j b, fun j p hp => ?_, fun j k b hjk => ?_, fun j b hb => ?_⟩, hc.mono (fun b hb => (h3 i b (ht b hb)).2)⟩⟩
  · by_cases hji : j = i
    · rw [hji, List.getElem?_set_self hil] at hp
      have hp := Option.some.inj hp
      subst hp
      exact ⟨A', c', hm', fun b hb => by dsimp only; rw [if_pos hji]; exact hb⟩
    · rw [List.getElem?_set_ne (fun e => hji e.symm)] at hp
      obtain ⟨A2, c2, hm2, ht2⟩ := h1 j p hp
      exact ⟨A2, c2, hm2.chg hc (fun b hb hb2 => h2 j i b hji (ht2 b hb) (ht b hb2)), fun b hb => by dsimp only; rw [if_neg hji]; exact ht2 b hb⟩
  · have key : ∀ b j, j ≠ i → SvT g A' b → ¬ T j b := fun b j hj hb hb2 => by
      have hlt := (h3 j b hb2).1
      rcases hb with rfl | ⟨a, ha, rfl⟩
      · exact h2 j i _ hj hb2 (ht _ (.inl rfl))
      · rcases htr a ha with ⟨a0, e1, e2⟩ | e
        · exact h2 j i _ hj hb2 (ht _ (.inr ⟨a0, e1, e2.symm⟩))
        · omega
    dsimp only
    by_cases hj : j = i
    · rw [if_pos hj, if_neg (fun e => hjk (hj.trans e.symm))]
      exact fun hb => key b k (fun e => hjk (hj.trans e.symm)) hb
    · rw [if_neg hj]
      by_cases hk : k = i
      · rw [if_pos hk]; exact fun hb hb2 => key b j hj hb2 hb
      · rw [if_neg hk]; exact h2 j k b hjk
  · dsimp only at hb
    by_cases hj : j = i
    · rw [if_pos hj] at hb
      refine ⟨hm'.ltT hb, fun hx => ?_⟩
      rcases hX b hx with h | ⟨h4, h5⟩
      · rcases hb with rfl | ⟨a, ha, rfl⟩
        · exact (h3 i _ (ht _ (.inl rfl))).2 h
        · rcases htr a ha with ⟨a0, e1, e2⟩ | e
          · exact (h3 i _ (ht _ (.inr ⟨a0, e1, e2.symm⟩))).2 h
          · have := hXw _ h; omega
      · rcases hb with rfl | ⟨a, ha, rfl⟩
        · have := hm.lt; omega
        · have := h5 a ha; omega
    · rw [if_neg hj] at hb
      refine ⟨Nat.lt_of_lt_of_le (h3 j b hb).1 hc.size, fun hx => ?_⟩
      rcases hX b hx with h | ⟨h4, _⟩
      · exact (h3 j b hb).2 h
      · have := (h3 j b hb).1; omega
/-- A server is made. -/
theorem Srvs.push {w w' : World} {X : Nat → Prop} {l : List (Nat × Sv)} (h : Srvs w X l) (hXw : ∀ b, X b → b < w.heap.size) (hb : Below w.heap.size w w') {g c : Nat} {S : Sv} {A : Option Addr} (hm : SvM w' g S A c) (hg : w.heap.size ≤ g) (hA : ∀ a, A = some a → w.heap.size ≤ a.block) :
    Srvs w' X (l ++ [(g, S)]) := by
  obtain ⟨T, h1, h2, h3⟩ := h
  have hT : ∀ b, SvT g A b → w.heap.size ≤ b := fun b hb => by
    rcases hb with rfl | ⟨a, ha, rfl⟩
    · exact hg
    · exact hA a ha
  refine ⟨fun j b => if j < l.length then T j b else j = l.length ∧ SvT g A b, fun j p hp => ?_, fun j k b hjk hbj hbk => ?_, fun j b hbj => ?_⟩
  · rw [List.getElem?_append] at hp
    by_cases hj : j < l.length
    · rw [if_pos hj] at hp
      obtain ⟨A2, c2, hm2, ht2⟩ := h1 j p hp
      exact ⟨A2, c2, hm2.below hb, fun b hb => by dsimp only; rw [if_pos hj]; exact ht2 b hb⟩
    · rw [if_neg hj] at hp
      have hj0 : j - l.length = 0 := by
        rcases Nat.eq_zero_or_pos (j - l.length) with h | h
        · exact h
        · rw [List.getElem?_eq_none (by simp; omega)] at hp; cases hp
      rw [hj0] at hp
      have hp := Option.some.inj hp
      subst hp
      exact ⟨A, c, hm, fun b hb => by dsimp only; rw [if_neg hj]; exact ⟨by omega, hb⟩⟩
  · dsimp only at hbj hbk
    by_cases hj : j < l.length
    · rw [if_pos hj] at hbj
      by_cases hk : k < l.length
      · rw [if_pos hk] at hbk; exact h2 j k b hjk hbj hbk
      · rw [if_neg hk] at hbk
        have := hT b hbk.2; have := (h3 j b hbj).1; omega
    · rw [if_neg hj] at hbj
      by_cases hk : k < l.length
      · rw [if_pos hk] at hbk
        have := hT b hbj.2; have := (h3 k b hbk).1; omega
      · rw [if_neg hk] at hbk; omega
  · dsimp only at hbj
    by_cases hj : j < l.length
    · rw [if_pos hj] at hbj
      exact ⟨Nat.lt_of_lt_of_le (h3 j b hbj).1 hb.size, (h3 j b hbj).2⟩
    · rw [if_neg hj] at hbj
      exact ⟨hm.ltT hbj.2, fun hx => by have := hXw b hx; have := hT b hbj.2; omega⟩
/-- Messages in blocks of X. -/
def MsX (w : World) (X : Nat → Prop) (D : Option Addr) (n c : Nat) (ms : List Mg) : Prop :=
  ∃ Z : List Mx, Z.map (·.1) = ms ∧ n = Z.length ∧ (w.ownsRow 0 34 9 (.slice D n c) n (rowOf xcell Z) ∧ ∀ g, (Value.slice D n c).ownBlock = some g → X g) ∧
    ∀ x ∈ Z, w.ownsRow 0 39 2 (.slice x.2.1 x.1.ents.length x.2.2) x.1.ents.length (rowOf ecell x.1.ents) ∧ ∀ g, (Value.slice x.2.1 x.1.ents.length x.2.2).ownBlock = some g → X g
section
variable {w w' : World} {X X' : Nat → Prop} {D : Option Addr} {n c : Nat} {ms : List Mg}
theorem MsR.toX {B : Nat} (h : MsR w B D n c ms) (hX : ∀ b, B ≤ b → b < w.heap.size → X b) : MsX w X D n c ms := by
  obtain ⟨Z, h1, h2, h3, h4⟩ := h
  exact ⟨Z, h1, h2, ⟨own_at h3 (fun _ _ => Nat.zero_le _), fun g hg => hX g (World.ownsRow.lt h3 g hg).1 (World.ownsRow.lt h3 g hg).2⟩,
    fun x hx => ⟨own_at (h4 x hx) (fun _ _ => Nat.zero_le _), fun g hg => hX g (World.ownsRow.lt (h4 x hx) g hg).1 (World.ownsRow.lt (h4 x hx) g hg).2⟩⟩
theorem MsX.chg (h : MsX w X D n c ms) (hc : Chg (fun b => ¬ X b) w w') : MsX w' X D n c ms := by
  obtain ⟨Z, h1, h2, h3, h4⟩ := h
  exact ⟨Z, h1, h2, ⟨own_chg h3.1 hc (fun g hg hn => hn (h3.2 g hg)), h3.2⟩, fun x hx => ⟨own_chg (h4 x hx).1 hc (fun g hg hn => hn ((h4 x hx).2 g hg)), (h4 x hx).2⟩⟩
theorem MsX.mono (h : MsX w X D n c ms) (hX : ∀ b, X b → X' b) : MsX w X' D n c ms := by
  obtain ⟨Z, h1, h2, h3, h4⟩ := h
  exact ⟨Z, h1, h2, ⟨h3.1, fun g hg => hX g (h3.2 g hg)⟩, fun x hx => ⟨(h4 x hx).1, fun g hg => hX g ((h4 x hx).2 g hg)⟩⟩
theorem MsX.below (h : MsX w X D n c ms) (hb : Below w.heap.size w w') : MsX w' X D n c ms := h.chg ((Chg.of_below hb : Chg (fun _ => False) w w').mono (fun _ h => h.elim))
/-- A message of them. -/
theorem MsX.at_ (h : MsX w X D n c ms) {k : Nat} {m : Mg} (hk : ms[k]? = some m) :
    ∃ (b E e : _), D = some ⟨b, 0, none⟩ ∧ (∀ j v, (mcell E e m)[j]? = some v → w.cell? ⟨b, k * 9 + j, none⟩ = some v) ∧ w.ownsRow 0 39 2 (.slice E m.ents.length e) m.ents.length (rowOf ecell m.ents) ∧ X b ∧ ∀ g, (Value.slice E m.ents.length e).ownBlock = some g → X g := by
  obtain ⟨Z, h1, h2, h3, h4⟩ := h
  rw [← h1, List.getElem?_map] at hk
  obtain ⟨x, hx, hxm⟩ := Option.map_eq_some_iff.1 hk
  obtain ⟨m', E, e⟩ := x
  dsimp only at hxm
  subst hxm
  have hkl : k < Z.length := (List.getElem?_eq_some_iff.1 hx).1
  obtain ⟨g, cap, hv, _, hlt⟩ := h3.1.form (by omega)
  have hD : D = some ⟨g, 0, none⟩ := by injection hv
  subst hD
  have hmem := List.mem_of_getElem? hx
  refine ⟨g, E, e, rfl, fun j v hj => ?_, (h4 _ hmem).1, h3.2 g rfl, (h4 _ hmem).2⟩
  have h5 := h3.1.cells (g := g) rfl (k * 9 + j) v (rowOf_get xcell_len Z k _ j v hx hj)
  rw [addr_add, Nat.zero_add] at h5
  exact h5
end
end Go.Proofs.Ytjodglepaeomiaa
