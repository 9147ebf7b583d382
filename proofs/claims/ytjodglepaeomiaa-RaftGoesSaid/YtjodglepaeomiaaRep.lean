/- How entries, messages and servers lie in memory. No walk. -/
import Derived.OneCell
import Derived.Test.YtjodglepaeomiaaChecked
import Derived.Test.YtjodglepaeomiaaMdl
import Derived.Test.YtjodglepaeomiaaChg
namespace Go.Proofs.Ytjodglepaeomiaa
open Go.RowKit

/-! Rows of things of several cells each. -/
def rowOf {α : Type} (f : α → List Value) (l : List α) : List Value := l.flatMap f
section
variable {α : Type} {f : α → List Value} {k : Nat}
theorem rowOf_nil : rowOf f [] = [] := rfl
theorem rowOf_cons (x : α) (l : List α) : rowOf f (x :: l) = f x ++ rowOf f l := rfl
theorem rowOf_append (l m : List α) : rowOf f (l ++ m) = rowOf f l ++ rowOf f m := by unfold rowOf; rw [List.flatMap_append]
theorem rowOf_length (hk : ∀ x, (f x).length = k) (l : List α) : (rowOf f l).length = l.length * k := by
  induction l with
  | nil => simp [rowOf]
  | cons x l ih => rw [rowOf_cons, List.length_append, ih, hk, List.length_cons, Nat.succ_mul, Nat.add_comm]
theorem rowOf_get (hk : ∀ x, (f x).length = k) : ∀ (l : List α) (i : Nat) (x : α) (j : Nat) (v : Value), l[i]? = some x → (f x)[j]? = some v → (rowOf f l)[i * k + j]? = some v
  | [], i, x, j, v, h, _ => by simp at h
  | y :: l, 0, x, j, v, h, hj => by
    have : y = x := by simpa using h
    subst this
    have hlt := (List.getElem?_eq_some_iff.1 hj).1
    rw [rowOf_cons, Nat.zero_mul, Nat.zero_add, List.getElem?_append_left hlt]
    exact hj
  | y :: l, i + 1, x, j, v, h, hj => by
    rw [rowOf_cons, List.getElem?_append_right (by rw [hk, Nat.succ_mul]; omega), hk, show (i + 1) * k + j - k = i * k + j by rw [Nat.succ_mul]; omega]
    exact rowOf_get hk l i x j v (by simpa using h) hj
theorem rowOf_take (hk : ∀ x, (f x).length = k) (l : List α) (i : Nat) : rowOf f (l.take i) = (rowOf f l).take (i * k) := by
  induction l generalizing i with
  | nil => simp [rowOf]
  | cons x l ih =>
    cases i with
    | zero => simp [rowOf]
    | succ i => rw [List.take_succ_cons, rowOf_cons, rowOf_cons, ih, List.take_append, hk, Nat.succ_mul, List.take_of_length_le (l := f x) (by rw [hk]; omega), show i * k + k - k = i * k by omega]
theorem rowOf_drop (hk : ∀ x, (f x).length = k) (l : List α) (i : Nat) : rowOf f (l.drop i) = (rowOf f l).drop (i * k) := by
  induction l generalizing i with
  | nil => simp [rowOf]
  | cons x l ih =>
    cases i with
    | zero => simp [rowOf]
    | succ i => rw [List.drop_succ_cons, rowOf_cons, ih, List.drop_append, hk, Nat.succ_mul, List.drop_of_length_le (l := f x) (by rw [hk]; omega), show i * k + k - k = i * k by omega, List.nil_append]
theorem rowOf_one (hf : ∀ x, ∀ u ∈ f x, u.oneCell' = true) (l : List α) : ∀ u ∈ rowOf f l, u.oneCell' = true := by
  intro u hu
  unfold rowOf at hu
  rw [List.mem_flatMap] at hu
  obtain ⟨x, _, hx⟩ := hu
  exact hf x u hx
end
/-- A slice reads as a list of things of k cells each. -/
def RdL {α : Type} (f : α → List Value) (k : Nat) (w : World) (A : Option Addr) (l : List α) : Prop :=
  l = [] ∨ ∃ b off, A = some ⟨b, off, none⟩ ∧ b < w.heap.size ∧ ∀ i x, l[i]? = some x → ∀ j v, (f x)[j]? = some v → w.cell? ⟨b, off + i * k + j, none⟩ = some v
section
variable {α : Type} {f : α → List Value} {k : Nat} {w w' : World} {A : Option Addr} {l : List α}
theorem RdL.chg {T : Nat → Prop} (h : RdL f k w A l) (hc : Chg T w w') (hn : ∀ a, A = some a → l ≠ [] → ¬ T a.block) : RdL f k w' A l := by
  rcases h with h | ⟨b, off, rfl, hb, hat⟩
  · exact .inl h
  · by_cases hl : l = []
    · exact .inl hl
    · exact .inr ⟨b, off, rfl, Nat.lt_of_lt_of_le hb hc.size, fun i x hx j v hv => (World.cell?_of_block (hc.block b hb (hn _ rfl hl))).trans (hat i x hx j v hv)⟩
theorem RdL.below (h : RdL f k w A l) (hb : Below w.heap.size w w') : RdL f k w' A l := h.chg (T := fun _ => False) (.of_below hb) (fun _ _ _ h => h)
theorem RdL.of_own {base n c : Nat} {e : TypeId} (hk : ∀ x, (f x).length = k) (h : w.ownsRow base e k (.slice A n c) n (rowOf f l)) (hn : n = l.length) : RdL f k w A l := by
  rcases Nat.eq_zero_or_pos n with h0 | h0
  · exact .inl (List.eq_nil_of_length_eq_zero (by omega))
  · obtain ⟨g, cap, hv, hb, hlt⟩ := h.form h0
    have hA : A = some ⟨g, 0, none⟩ := by injection hv
    subst hA
    refine .inr ⟨g, 0, rfl, hlt, fun i x hx j v hv => ?_⟩
    have := h.cells (g := g) rfl (i * k + j) _ (rowOf_get hk l i x j v hx hv)
    rw [addr_add, ← Nat.add_assoc] at this
    exact this
theorem RdL.cut {b off : Nat} (h : RdL f k w (some ⟨b, off, none⟩) l) (i j : Nat) : RdL f k w (some ⟨b, off + i * k, none⟩) ((l.take j).drop i) := by
  rcases h with h | ⟨b', off', he, hb, hat⟩
  · exact .inl (by rw [h]; simp)
  · injection he with he
    injection he with e1 e2
    subst e1; subst e2
    refine .inr ⟨b, off + i * k, rfl, hb, fun m x hx q v hv => ?_⟩
    have hm : l[i + m]? = some x := by
      rw [List.getElem?_drop, List.getElem?_take] at hx
      split at hx
      · exact hx
      · cases hx
    have := hat (i + m) x hm q v hv
    rw [show off + i * k + m * k + q = off + (i + m) * k + q by rw [Nat.add_mul]; omega]
    exact this
theorem RdL.reads (hk : ∀ x, (f x).length = k) (h : RdL f k w A l) : Reads w w.heap.size k A l.length (rowOf f l) := by
  refine ⟨rowOf_length hk l, fun hn => ?_⟩
  rcases h with h | ⟨b, off, rfl, hb, hat⟩
  · rw [h] at hn; simp at hn
  · refine ⟨_, rfl, hb, fun j u hu => ?_⟩
    have hlt := (List.getElem?_eq_some_iff.1 hu).1
    rw [rowOf_length hk] at hlt
    rcases Nat.eq_zero_or_pos k with h0 | h0
    · rw [h0] at hlt; simp at hlt
    · have hq : j / k < l.length := Nat.div_lt_of_lt_mul (by rw [Nat.mul_comm]; exact hlt)
      have hx : l[j / k]? = some l[j / k] := List.getElem?_eq_getElem hq
      have hr : j % k < (f l[j / k]).length := by rw [hk]; exact Nat.mod_lt _ h0
      have h1 := rowOf_get hk l (j / k) _ (j % k) _ hx (List.getElem?_eq_getElem hr)
      have e : j / k * k + j % k = j := by rw [Nat.mul_comm]; exact Nat.div_add_mod j k
      rw [e, hu] at h1
      have h2 := hat (j / k) _ hx (j % k) _ (List.getElem?_eq_getElem hr)
      rw [Nat.add_assoc, e] at h2
      rw [addr_add, h2, h1]
end

def ecell (x : Ent) : List Value := [.int .i64 x.term, .string x.data]
theorem ecell_len (x : Ent) : (ecell x).length = 2 := rfl
theorem ecell_one (x : Ent) : ∀ u ∈ ecell x, u.oneCell' = true := by
  intro u hu
  simp only [ecell, List.mem_cons, List.not_mem_nil, or_false] at hu
  rcases hu with rfl | rfl <;> rfl
abbrev RdE := RdL ecell 2
def icell (x : Nat) : Value := .int .i64 (x : Int)

/-- The cells of a server. -/
def svCells (S : Sv) (A : Option Addr) (c : Nat) : List Value :=
  [.int .i64 (S.id : Nat), .int .i64 (S.n : Nat), .int .i64 S.term, .int .i64 S.vote, .slice A S.log.length c, .int .u8 (S.role : Nat), .int .i64 S.leader, .int .i64 (S.commit : Nat), .int .u64 (S.voters : Nat)] ++ (S.nx.map icell ++ S.mt.map icell)
structure SvM (w : World) (g : Nat) (S : Sv) (A : Option Addr) (c : Nat) : Prop where
  top : Blk w g 74 (svCells S A c).toArray
  log : w.ownsRow 0 39 2 (.slice A S.log.length c) S.log.length (rowOf ecell S.log)
  nxl : S.nx.length = 7
  mtl : S.mt.length = 7
structure SvR (w : World) (g : Nat) (S : Sv) (A : Option Addr) (c : Nat) : Prop extends SvM w g S A c where
  ok : S.Ok
/-- The blocks that a server lies in. -/
def SvT (g : Nat) (A : Option Addr) (b : Nat) : Prop := b = g ∨ ∃ a, A = some a ∧ a.block = b
/-- What a server's method leaves. -/
def KeepsM (w : World) (g : Nat) (A : Option Addr) (S' : Sv) (w' : World) : Prop :=
  ∃ A' c', SvM w' g S' A' c' ∧ Chg (SvT g A) w w' ∧ ∀ a, A' = some a → (∃ a0, A = some a0 ∧ a.block = a0.block) ∨ w.heap.size ≤ a.block
section
variable {w w' : World} {g c : Nat} {S : Sv} {A : Option Addr}
theorem SvM.c0 (h : SvM w g S A c) : w.cell? ⟨g, 0, none⟩ = some (.int .i64 (S.id : Nat)) := by rw [h.top.cell]; rfl
theorem SvM.c1 (h : SvM w g S A c) : w.cell? ⟨g, 1, none⟩ = some (.int .i64 (S.n : Nat)) := by rw [h.top.cell]; rfl
theorem SvM.c2 (h : SvM w g S A c) : w.cell? ⟨g, 2, none⟩ = some (.int .i64 S.term) := by rw [h.top.cell]; rfl
theorem SvM.c3 (h : SvM w g S A c) : w.cell? ⟨g, 3, none⟩ = some (.int .i64 S.vote) := by rw [h.top.cell]; rfl
theorem SvM.c4 (h : SvM w g S A c) : w.cell? ⟨g, 4, none⟩ = some (.slice A S.log.length c) := by rw [h.top.cell]; rfl
theorem SvM.c5 (h : SvM w g S A c) : w.cell? ⟨g, 5, none⟩ = some (.int .u8 (S.role : Nat)) := by rw [h.top.cell]; rfl
theorem SvM.c6 (h : SvM w g S A c) : w.cell? ⟨g, 6, none⟩ = some (.int .i64 S.leader) := by rw [h.top.cell]; rfl
theorem SvM.c7 (h : SvM w g S A c) : w.cell? ⟨g, 7, none⟩ = some (.int .i64 (S.commit : Nat)) := by rw [h.top.cell]; rfl
theorem SvM.c8 (h : SvM w g S A c) : w.cell? ⟨g, 8, none⟩ = some (.int .u64 (S.voters : Nat)) := by rw [h.top.cell]; rfl
theorem SvM.cn (h : SvM w g S A c) {k : Nat} (hk : k < 7) : w.cell? ⟨g, 9 + k, none⟩ = some (.int .i64 ((S.nx.getD k 0 : Nat) : Int)) := by
  rw [h.top.cell]
  have h1 := h.nxl
  have h2 : S.nx[k]? = some (S.nx.getD k 0) := by rw [List.getD_eq_getElem?_getD, List.getElem?_eq_getElem (by omega)]; rfl
  unfold svCells
  rw [List.getElem?_toArray, List.getElem?_append_right (by simp), List.getElem?_append_left (by simp; omega)]
  simp only [List.length_cons, List.length_nil, Nat.zero_add, Nat.add_sub_cancel_left, List.getElem?_map, h2]
  rfl
theorem SvM.cm (h : SvM w g S A c) {k : Nat} (hk : k < 7) : w.cell? ⟨g, 16 + k, none⟩ = some (.int .i64 ((S.mt.getD k 0 : Nat) : Int)) := by
  rw [h.top.cell]
  have h1 := h.nxl
  have h0 := h.mtl
  have h2 : S.mt[k]? = some (S.mt.getD k 0) := by rw [List.getD_eq_getElem?_getD, List.getElem?_eq_getElem (by omega)]; rfl
  unfold svCells
  rw [List.getElem?_toArray, List.getElem?_append_right (by simp; omega), List.getElem?_append_right (by simp; omega)]
  simp only [List.length_cons, List.length_nil, Nat.zero_add, List.getElem?_map, List.length_map, h1, show 16 + k - (8 + 1) - 7 = k by omega, h2]
  rfl
theorem SvM.lt (h : SvM w g S A c) : g < w.heap.size := h.top.lt
theorem SvM.ne (h : SvM w g S A c) : ∀ a, A = some a → a.block ≠ g := by
  intro a ha he
  have h1 := own_blk_ne h.log h.top (by decide)
  rw [ha] at h1
  obtain ⟨b, o, sp⟩ := a
  rcases h.log.2 with ⟨h2, _⟩ | ⟨g', cap, cur, h2, _⟩
  · rw [ha] at h2; injection h2 with h2; cases h2
  · rw [ha] at h2
    injection h2 with h2
    injection h2 with h2
    injection h2 with h3 h4 h5
    subst h3; subst h4; subst h5
    exact h1 (by simp only [Value.ownBlock]; exact congrArg some he)
theorem SvM.alt (h : SvM w g S A c) : ∀ a, A = some a → a.block < w.heap.size := by
  intro a ha
  rcases h.log.2 with ⟨h2, _⟩ | ⟨g', cap, cur, h2, _, h3, _⟩
  · rw [ha] at h2; injection h2 with h2; cases h2
  · rw [ha] at h2
    injection h2 with h2
    injection h2 with h2
    subst h2
    exact (Array.getElem?_eq_some_iff.1 h3).1
theorem SvM.chg {T : Nat → Prop} (h : SvM w g S A c) (hc : Chg T w w') (hn : ∀ b, SvT g A b → ¬ T b) : SvM w' g S A c :=
  ⟨h.top.chg hc (hn g (.inl rfl)), own_chg h.log hc (fun g' hg' => hn g' (.inr (by
    rcases h.log.2 with ⟨h2, _⟩ | ⟨g2, cap, cur, h2, _⟩
    · rw [h2] at hg'; simp [Value.ownBlock] at hg'
    · rw [h2] at hg'
      have : g2 = g' := by simpa [Value.ownBlock] using hg'
      subst this
      injection h2 with h2
      exact ⟨_, h2, rfl⟩))), h.nxl, h.mtl⟩
theorem SvM.below (h : SvM w g S A c) (hb : Below w.heap.size w w') : SvM w' g S A c := h.chg (T := fun _ => False) (.of_below hb) (fun _ _ h => h)
theorem SvM.drew (h : SvM w g S A c) : SvM w.drew g S A c := h.below (Below.refl _ _).drew
theorem SvM.drewN (h : SvM w g S A c) (n : Nat) : SvM (w.drewN n) g S A c := h.below (below_drewN (Below.refl _ _) n)
theorem SvM.rd (h : SvM w g S A c) : RdE w A S.log := .of_own ecell_len h.log rfl
theorem SvM.cap (h : SvM w g S A c) : S.log.length ≤ c := by
  rcases h.log.2 with ⟨h2, h3⟩ | ⟨g', cap, cur, h2, _, _, hc, _⟩
  · injection h2 with _ h4 h5
    omega
  · injection h2 with _ _ h5
    omega
/-- Nothing but draws and new blocks. -/
theorem KeepsM.of_below (h : SvM w g S A c) (hb : Below w.heap.size w w') : KeepsM w g A S w' :=
  ⟨A, c, h.below hb, .of_below hb, fun a ha => .inl ⟨a, ha, rfl⟩⟩
theorem KeepsM.then_below {S' : Sv} {w'' : World} (h : KeepsM w g A S' w') (hb : Below w'.heap.size w' w'') : KeepsM w g A S' w'' := by
  obtain ⟨A', c', h1, h2, h3⟩ := h
  exact ⟨A', c', h1.below hb, h2.trans (.of_below hb), h3⟩
theorem SvT.sub {A' : Option Addr} {a0 : Nat} (h : ∀ a, A' = some a → (∃ a1, A = some a1 ∧ a.block = a1.block) ∨ a0 ≤ a.block) {b : Nat} (hb : SvT g A' b) : SvT g A b ∨ a0 ≤ b := by
  rcases hb with hb | ⟨a, ha, hb⟩
  · exact .inl (.inl hb)
  · rcases h a ha with ⟨a1, h1, h2⟩ | h1
    · exact .inl (.inr ⟨a1, h1, h2.symm.trans hb⟩)
    · exact .inr (by omega)
theorem KeepsM.trans {A' : Option Addr} {S' : Sv} {w'' : World} (h : Chg (SvT g A) w w') (h0 : ∀ a, A' = some a → (∃ a0, A = some a0 ∧ a.block = a0.block) ∨ w.heap.size ≤ a.block) (k : KeepsM w' g A' S' w'') : KeepsM w g A S' w'' := by
  obtain ⟨A2, c2, h1, h2, h3⟩ := k
  refine ⟨A2, c2, h1, ⟨h2.os.trans h.os, h2.tape.trans h.tape, h2.output.trans h.output, Nat.le_trans h.size h2.size, fun i hi hn => ?_⟩, fun a ha => ?_⟩
  · refine (h2.block i (Nat.lt_of_lt_of_le hi h.size) (fun ht => ?_)).trans (h.block i hi hn)
    rcases SvT.sub (a0 := w.heap.size) h0 ht with h4 | h4
    · exact hn h4
    · omega
  · rcases h3 a ha with ⟨a1, e1, e2⟩ | h4
    · rcases h0 a1 e1 with ⟨a2, e3, e4⟩ | h5
      · exact .inl ⟨a2, e3, e2.trans e4⟩
      · exact .inr (by omega)
    · exact .inr (Nat.le_trans h.size h4)
theorem SvR.chg {T : Nat → Prop} (h : SvR w g S A c) (hc : Chg T w w') (hn : ∀ b, SvT g A b → ¬ T b) : SvR w' g S A c := ⟨h.toSvM.chg hc hn, h.ok⟩
theorem SvR.below (h : SvR w g S A c) (hb : Below w.heap.size w w') : SvR w' g S A c := ⟨h.toSvM.below hb, h.ok⟩
theorem SvR.drew (h : SvR w g S A c) : SvR w.drew g S A c := ⟨h.toSvM.drew, h.ok⟩
theorem SvR.drewN (h : SvR w g S A c) (n : Nat) : SvR (w.drewN n) g S A c := ⟨h.toSvM.drewN n, h.ok⟩
/-- One cell of a server is written. -/
theorem SvM.set (h : SvM w g S A c) {S' : Sv} (i : Nat) (v : Value) (hlog : S'.log = S.log) (hx : S'.nx.length = 7) (hm : S'.mt.length = 7) (hc : (svCells S A c).set i v = svCells S' A c) :
    SvM (w.setCell ⟨g, i, none⟩ v) g S' A c ∧ Chg (fun b => b = g) w (w.setCell ⟨g, i, none⟩ v) := by
  have hch : Chg (fun b => b = g) w (w.setCell ⟨g, i, none⟩ v) := (Chg.refl (fun b => b = g) w).setCell (p := ⟨g, i, none⟩) rfl v
  refine ⟨⟨?_, ?_, hx, hm⟩, hch⟩
  · have h1 := h.top.set_ i v
    rw [List.setIfInBounds_toArray, hc] at h1
    exact h1
  · rw [hlog]
    refine own_chg h.log hch (fun g' hg' he => ?_)
    rcases h.log.2 with ⟨h2, _⟩ | ⟨g2, cap, cur, h2, _⟩
    · rw [h2] at hg'; simp [Value.ownBlock] at hg'
    · have e : g2 = g' := by rw [h2] at hg'; simpa [Value.ownBlock] using hg'
      injection h2 with h2
      exact h.ne _ h2 (by rw [← he]; exact e)
theorem SvM.kset (h : SvM w g S A c) {S' : Sv} (i : Nat) (v : Value) (hlog : S'.log = S.log) (hx : S'.nx.length = 7) (hm : S'.mt.length = 7) (hc : (svCells S A c).set i v = svCells S' A c) :
    KeepsM w g A S' (w.setCell ⟨g, i, none⟩ v) :=
  ⟨A, c, (h.set i v hlog hx hm hc).1, (h.set i v hlog hx hm hc).2.mono (fun _ hk => .inl hk), fun a ha => .inl ⟨a, ha, rfl⟩⟩
end
end Go.Proofs.Ytjodglepaeomiaa
