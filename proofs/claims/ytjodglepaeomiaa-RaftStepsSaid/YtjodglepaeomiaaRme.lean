/- How the document's server lies in memory. No walk. -/
import Derived.Test.YtjodglepaeomiaaOpn
namespace Go.Proofs.Ytjodglepaeomiaa
open Go.RowKit

def pcell (p : Nat × Nat) : List Value := [.int .i64 (p.1 : Nat), .int .i64 (p.2 : Nat)]
theorem pcell_len (p : Nat × Nat) : (pcell p).length = 2 := rfl
/-- The cells of the document's server: whom it has votes of, and its peers, are lists of their own. -/
def rvCells (S : Sv) (A : Option Addr) (c : Nat) (V : List Bool) (P : List (Nat × Nat)) : List Value :=
  [.int .i64 (S.id : Nat), .int .i64 (S.n : Nat), .int .i64 S.term, .int .i64 S.vote, .slice A S.log.length c, .int .u8 (S.role : Nat), .int .i64 S.leader, .int .i64 (S.commit : Nat)] ++ (V.map Value.bool ++ rowOf pcell P)
structure RvM (w : World) (g : Nat) (S : Sv) (A : Option Addr) (c : Nat) (V : List Bool) (P : List (Nat × Nat)) : Prop where
  top : Blk w g 101 (rvCells S A c V P).toArray
  log : w.ownsRow 0 39 2 (.slice A S.log.length c) S.log.length (rowOf ecell S.log)
  vl : V.length = 7
  pl : P.length = 7
/-- What the votes and peers say, where they are looked at. -/
structure Rel (S : Sv) (V : List Bool) (P : List (Nat × Nat)) : Prop where
  v : S.role = 1 → ∀ k, k < 7 → V.getD k false = S.voters.testBit k
  p : S.role = 2 → ∀ k, k < S.n → P.getD k (0, 0) = (S.nx.getD k 0, S.mt.getD k 0)
section
variable {w w' : World} {g c : Nat} {S : Sv} {A : Option Addr} {V : List Bool} {P : List (Nat × Nat)}
theorem RvM.c0 (h : RvM w g S A c V P) : w.cell? ⟨g, 0, none⟩ = some (.int .i64 (S.id : Nat)) := by rw [h.top.cell]; rfl
theorem RvM.c1 (h : RvM w g S A c V P) : w.cell? ⟨g, 1, none⟩ = some (.int .i64 (S.n : Nat)) := by rw [h.top.cell]; rfl
theorem RvM.c2 (h : RvM w g S A c V P) : w.cell? ⟨g, 2, none⟩ = some (.int .i64 S.term) := by rw [h.top.cell]; rfl
theorem RvM.c3 (h : RvM w g S A c V P) : w.cell? ⟨g, 3, none⟩ = some (.int .i64 S.vote) := by rw [h.top.cell]; rfl
theorem RvM.c4 (h : RvM w g S A c V P) : w.cell? ⟨g, 4, none⟩ = some (.slice A S.log.length c) := by rw [h.top.cell]; rfl
theorem RvM.c5 (h : RvM w g S A c V P) : w.cell? ⟨g, 5, none⟩ = some (.int .u8 (S.role : Nat)) := by rw [h.top.cell]; rfl
theorem RvM.c6 (h : RvM w g S A c V P) : w.cell? ⟨g, 6, none⟩ = some (.int .i64 S.leader) := by rw [h.top.cell]; rfl
theorem RvM.c7 (h : RvM w g S A c V P) : w.cell? ⟨g, 7, none⟩ = some (.int .i64 (S.commit : Nat)) := by rw [h.top.cell]; rfl
theorem RvM.cv (h : RvM w g S A c V P) {k : Nat} (hk : k < 7) : w.cell? ⟨g, 8 + k, none⟩ = some (.bool (V.getD k false)) := by
  rw [h.top.cell]
  have h1 := h.vl
  have h2 : V[k]? = some (V.getD k false) := by rw [List.getD_eq_getElem?_getD, List.getElem?_eq_getElem (by omega)]; rfl
  unfold rvCells
  rw [List.getElem?_toArray, List.getElem?_append_right (by simp), List.getElem?_append_left (by simp; omega)]
  simp only [List.length_cons, List.length_nil, Nat.zero_add, Nat.add_sub_cancel_left, List.getElem?_map, h2]
  rfl
theorem RvM.cp (h : RvM w g S A c V P) {k : Nat} (hk : k < 7) : w.cell? ⟨g, 15 + k * 2, none⟩ = some (.int .i64 ((P.getD k (0, 0)).1 : Nat)) ∧ w.cell? ⟨g, 15 + k * 2 + 1, none⟩ = some (.int .i64 ((P.getD k (0, 0)).2 : Nat)) := by
  have h1 := h.vl
  have h0 := h.pl
  have h2 : P[k]? = some (P.getD k (0, 0)) := by rw [List.getD_eq_getElem?_getD, List.getElem?_eq_getElem (by omega)]; rfl
  have key : ∀ j v, (pcell (P.getD k (0, 0)))[j]? = some v → w.cell? ⟨g, 15 + k * 2 + j, none⟩ = some v := fun j v hj => by
    rw [h.top.cell]
    unfold rvCells
    rw [List.getElem?_toArray, List.getElem?_append_right (by simp; omega), List.getElem?_append_right (by simp; omega)]
    simp only [List.length_cons, List.length_nil, Nat.zero_add, List.length_map, h1, show 15 + k * 2 + j - (7 + 1) - 7 = k * 2 + j by omega]
    exact rowOf_get pcell_len P k _ j v h2 hj
  exact ⟨key 0 _ rfl, key 1 _ rfl⟩
theorem RvM.lt (h : RvM w g S A c V P) : g < w.heap.size := h.top.lt
theorem RvM.ne (h : RvM w g S A c V P) : ∀ a, A = some a → a.block ≠ g := by
  intro a ha he
  have h1 := own_blk_ne h.log h.top (by decide)
  exact h1 ((own_block h.log a ha).trans (congrArg some he))
theorem RvM.alt (h : RvM w g S A c V P) : ∀ a, A = some a → a.block < w.heap.size := fun a ha => (World.ownsRow.lt h.log _ (own_block h.log a ha)).2
theorem RvM.ltT (h : RvM w g S A c V P) {b : Nat} (hb : SvT g A b) : b < w.heap.size := by
  rcases hb with rfl | ⟨a, ha, rfl⟩
  · exact h.lt
  · exact h.alt a ha
theorem RvM.chg {T : Nat → Prop} (h : RvM w g S A c V P) (hc : Chg T w w') (hn : ∀ b, SvT g A b → ¬ T b) : RvM w' g S A c V P :=
  ⟨h.top.chg hc (hn g (.inl rfl)), own_chg h.log hc (fun g' hg' => by
    obtain ⟨a, ha, hb⟩ := own_block' h.log hg'
    exact hn g' (.inr ⟨a, ha, hb⟩)), h.vl, h.pl⟩
theorem RvM.below (h : RvM w g S A c V P) (hb : Below w.heap.size w w') : RvM w' g S A c V P := h.chg (T := fun _ => False) (.of_below hb) (fun _ _ h => h)
theorem RvM.drewN (h : RvM w g S A c V P) (n : Nat) : RvM (w.drewN n) g S A c V P := h.below (below_drewN (Below.refl _ _) n)
theorem RvM.drew (h : RvM w g S A c V P) : RvM w.drew g S A c V P := h.below (Below.refl _ _).drew
theorem RvM.rd (h : RvM w g S A c V P) : RdE w A S.log := .of_own ecell_len h.log rfl
theorem RvM.cap (h : RvM w g S A c V P) : S.log.length ≤ c := by
  rcases h.log.2 with ⟨h2, h3⟩ | ⟨g', cap, cur, h2, _, _, hc, _⟩
  · injection h2 with _ h4 h5
    omega
  · injection h2 with _ _ h5
    omega
theorem RvM.nil_ (h : RvM w g S A c V P) : A = none → c = 0 := fun e => by
  rcases h.log.2 with ⟨h2, _⟩ | ⟨g', cap, cur, h2, _⟩
  · injection h2
  · rw [e] at h2; injection h2 with h2; cases h2
/-- One cell is written. -/
theorem RvM.set (h : RvM w g S A c V P) {S' : Sv} {V' : List Bool} {P' : List (Nat × Nat)} (i : Nat) (v : Value) (hlog : S'.log = S.log) (hv : V'.length = 7) (hp : P'.length = 7) (hc : (rvCells S A c V P).set i v = rvCells S' A c V' P') :
    RvM (w.setCell ⟨g, i, none⟩ v) g S' A c V' P' ∧ Chg (fun b => b = g) w (w.setCell ⟨g, i, none⟩ v) := by
  have hch : Chg (fun b => b = g) w (w.setCell ⟨g, i, none⟩ v) := Chg.setCell (T := fun b => b = g) (Chg.refl _ _) (p := ⟨g, i, none⟩) rfl v
  refine ⟨⟨?_, ?_, hv, hp⟩, hch⟩
  · have h1 := h.top.set_ i v
    rw [List.setIfInBounds_toArray, hc] at h1
    exact h1
  · rw [hlog]
    refine own_chg h.log hch (fun g' hg' he => ?_)
    obtain ⟨a, ha, hb⟩ := own_block' h.log hg'
    exact h.ne a ha (hb.trans he)
/-- What a method of the document's server leaves. -/
def KeepsR (w : World) (g : Nat) (A : Option Addr) (S' : Sv) (V' : List Bool) (P' : List (Nat × Nat)) (w' : World) : Prop :=
  ∃ A' c', RvM w' g S' A' c' V' P' ∧ Chg (SvT g A) w w' ∧ ∀ a, A' = some a → (∃ a0, A = some a0 ∧ a.block = a0.block) ∨ w.heap.size ≤ a.block
/-- The log is written anew. -/
theorem RvM.renew {w2 : World} {c' : Nat} {A' : Option Addr} {L : List Ent} (h : RvM w g S A c V P) (hb : Below w.heap.size w w2) (ho : w2.ownsRow w.heap.size 39 2 (.slice A' L.length c') L.length (rowOf ecell L)) :
    KeepsR w g A { S with log := L } V P (w2.setCell ⟨g, 4, none⟩ (.slice A' L.length c')) := by
  refine ⟨A', c', ⟨?_, ?_, h.vl, h.pl⟩, (Chg.of_below hb).setCell (p := ⟨g, 4, none⟩) (.inl rfl) _, fun a ha => .inr (World.ownsRow.lt ho _ (own_block ho a ha)).1⟩
  · have h2 := (h.top.below hb h.lt).set_ 4 (.slice A' L.length c')
    rw [List.setIfInBounds_toArray] at h2
    exact h2
  · refine own_chg (own_at ho (fun _ _ => Nat.zero_le _)) (Chg.setCell (T := fun b => b = g) (Chg.refl _ _) (p := ⟨g, 4, none⟩) rfl _) (fun g' hg' he => ?_)
    have h1 := (World.ownsRow.lt ho g' hg').1
    have h2 := h.lt
    omega
theorem RvM.keeps (h : RvM w g S A c V P) : KeepsR w g A S V P w := ⟨A, c, h, Chg.refl _ _, fun a ha => .inl ⟨a, ha, rfl⟩⟩
theorem KeepsR.of_below (h : RvM w g S A c V P) (hb : Below w.heap.size w w') : KeepsR w g A S V P w' := ⟨A, c, h.below hb, .of_below hb, fun a ha => .inl ⟨a, ha, rfl⟩⟩
theorem KeepsR.trans {A' : Option Addr} {S' : Sv} {V' : List Bool} {P' : List (Nat × Nat)} {w'' : World} (h : Chg (SvT g A) w w') (h0 : ∀ a, A' = some a → (∃ a0, A = some a0 ∧ a.block = a0.block) ∨ w.heap.size ≤ a.block) (k : KeepsR w' g A' S' V' P' w'') : KeepsR w g A S' V' P' w'' := by
  obtain ⟨A2, c2, h1, h2, h3⟩ := k
  refine ⟨A2, c2, h1, ⟨h2.os.trans h.os, h2.tape.trans h.tape, h2.output.trans h.output, Nat.le_trans h.size h2.size, fun i hi hn => ?_⟩, fun a ha => ?_⟩
  · refine (h2.block i (Nat.lt_of_lt_of_le hi h.size) (fun ht => ?_)).trans (h.block i hi hn)
    rcases SvT.sub (a0 := w.heap.size) h0 ht with h4 | h4
    · exact hn h4
    · omega
  · rcases h3 a ha with ⟨a1, e1, e2⟩ | h4
    · rcases h0 a1 e1 with ⟨a2, e3, e4⟩ | h5
      · exact .inl ⟨a2, e3, e2.trans e4⟩
      · exact .inr (by omega)
    · exact .inr (Nat.le_trans h.size h4)
/-- The log is grown. -/
theorem RvM.grow {w1 w2 : World} {m c' : Nat} {A' : Option Addr} {L : List Ent} (h : RvM w g S A c V P) (hb : Below w.heap.size w w1) (hg : w1.grownBy w2 (Value.slice A S.log.length c).ownBlock)
    (ho : w2.ownsRow 0 39 2 (.slice A' m c') m (rowOf ecell L)) (hv : (Value.slice A' m c').ownBlock = (Value.slice A S.log.length c).ownBlock ∨ (Value.slice A' m c').ownBlock = some w1.heap.size) (hm : m = L.length) :
    KeepsR w g A { S with log := L } V P (w2.setCell ⟨g, 4, none⟩ (.slice A' m c')) := by
  subst hm
  have hch : Chg (SvT g A) w w2 := (Chg.of_below hb).trans (.of_grown hg (fun r hr => by
    obtain ⟨a, ha, hb2⟩ := own_block' h.log hr
    exact .inr ⟨a, ha, hb2⟩))
  have hch2 : Chg (SvT g A) w (w2.setCell ⟨g, 4, none⟩ (.slice A' L.length c')) := hch.setCell (p := ⟨g, 4, none⟩) (.inl rfl) _
  have htr : ∀ a, A' = some a → (∃ a0, A = some a0 ∧ a.block = a0.block) ∨ w.heap.size ≤ a.block := fun a ha => by
    have h1 := own_block ho a ha
    rcases hv with h2 | h2
    · obtain ⟨a0, h3, h4⟩ := own_block' h.log (h2.symm.trans h1)
      exact .inl ⟨a0, h3, h4.symm⟩
    · right
      have h3 : some a.block = some w1.heap.size := h1.symm.trans h2
      have h4 := hb.size
      injection h3 with e
      omega
  have hne : ∀ a, A' = some a → a.block ≠ g := fun a ha => by
    rcases htr a ha with ⟨a0, h1, h2⟩ | h1
    · rw [h2]; exact h.ne a0 h1
    · have := h.lt; omega
  refine ⟨A', c', ⟨?_, ?_, h.vl, h.pl⟩, hch2, htr⟩
  · have h1 : Blk w2 g 101 (rvCells S A c V P).toArray := h.top.chg ((Chg.of_below hb).trans (.of_grown hg (T := fun b => ∃ a, A = some a ∧ a.block = b) (fun r hr => own_block' h.log hr))) (fun ⟨a, ha, hb2⟩ => h.ne a ha hb2)
    have h2 := h1.set_ 4 (.slice A' L.length c')
    rw [List.setIfInBounds_toArray] at h2
    exact h2
  · refine own_chg ho (Chg.setCell (T := fun b => b = g) (Chg.refl _ _) (p := ⟨g, 4, none⟩) rfl _) (fun g' hg' he => ?_)
    obtain ⟨a, ha, hb2⟩ := own_block' ho hg'
    exact hne a ha (hb2.trans he)
theorem rvCells_v {k : Nat} (b : Bool) (hk : k < 7) (h : V.length = 7) : (rvCells S A c V P).set (8 + k) (.bool b) = rvCells S A c (V.set k b) P := by
  unfold rvCells
  rw [List.set_append_right _ _ (by simp), List.set_append_left _ _ (by simp; omega)]
  congr 2
  rw [show 8 + k - ([.int .i64 (S.id : Nat), .int .i64 (S.n : Nat), .int .i64 S.term, .int .i64 S.vote, .slice A S.log.length c, .int .u8 (S.role : Nat), .int .i64 S.leader, .int .i64 (S.commit : Nat)] : List Value).length = k by simp, List.map_set]
end
theorem prow_set : ∀ (P : List (Nat × Nat)) (k a b : Nat), k < P.length → ((rowOf pcell P).set (k * 2) (.int .i64 (a : Nat))).set (k * 2 + 1) (.int .i64 (b : Nat)) = rowOf pcell (P.set k (a, b))
  | p :: r, 0, a, b, _ => rfl
  | p :: r, k + 1, a, b, h => by
    have ih := prow_set r k a b (by simpa using h)
    rw [List.set_cons_succ, rowOf_cons, rowOf_cons, List.set_append_right _ _ (by rw [pcell_len]; omega), pcell_len, List.set_append_right _ _ (by rw [pcell_len]; omega), pcell_len, show (k + 1) * 2 - 2 = k * 2 by omega, show (k + 1) * 2 + 1 - 2 = k * 2 + 1 by omega, ih]
/-- What a step of the document's server leaves. -/
def OutR (w : World) (g : Nat) (A : Option Addr) (S' : Sv) (ms : List Mg) (e : Ending) (w' : World) : Prop :=
  ∃ (A' : Option Addr) (c' : Nat) (V' : List Bool) (P' : List (Nat × Nat)) (B : Nat) (D : Option Addr) (d : Nat), RvM w' g S' A' c' V' P' ∧ Rel S' V' P' ∧ Chg (SvT g A) w w' ∧ (∀ a, A' = some a → (∃ a0, A = some a0 ∧ a.block = a0.block) ∨ w.heap.size ≤ a.block) ∧ w.heap.size ≤ B ∧ (∀ a, A' = some a → a.block < B) ∧ e = .returned (.slice D ms.length d) ∧ MsR w' B D ms.length d ms
theorem OutR.of {w w1 w' : World} {g : Nat} {A : Option Addr} {S' : Sv} {V' : List Bool} {P' : List (Nat × Nat)} {ms : List Mg} {e : Ending} (k : KeepsR w g A S' V' P' w1) (hr : Rel S' V' P') (h : OutPost w1 ms e w') : OutR w g A S' ms e w' := by
  obtain ⟨A', c', h1, h2, h3⟩ := k
  obtain ⟨D, d, rfl, hm, hb⟩ := h
  exact ⟨A', c', V', P', w1.heap.size, D, d, h1.below hb, hr, h2.trans (.of_below hb), h3, h2.size, h1.alt, rfl, hm⟩
theorem OutR.nil {w w1 : World} {g : Nat} {A : Option Addr} {S' : Sv} {V' : List Bool} {P' : List (Nat × Nat)} (k : KeepsR w g A S' V' P' w1) (hr : Rel S' V' P') : OutR w g A S' [] (.returned (.slice none 0 0)) w1 :=
  .of k hr ⟨none, 0, rfl, MsR.nil _ _, Below.refl _ _⟩
theorem OutR.ans {w w1 w' : World} {g : Nat} {A : Option Addr} {S' : Sv} {V' : List Bool} {P' : List (Nat × Nat)} {m : Mg} {D : Option Addr} {d : Nat} (k : KeepsR w g A S' V' P' w1) (hr : Rel S' V' P') (hm : MsR w' w1.heap.size D 1 d [m]) (hb : Below w1.heap.size w1 w') : OutR w g A S' [m] (.returned (.slice D 1 d)) w' :=
  .of k hr ⟨D, d, rfl, hm, hb⟩
end Go.Proofs.Ytjodglepaeomiaa
