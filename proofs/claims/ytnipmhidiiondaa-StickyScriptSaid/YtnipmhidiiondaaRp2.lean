/- More on how a cache lies in memory: the list of free cells and the cells grow; a cell is laid anew. No walk. -/
import Derived.Deep.MidRow
import Derived.Maps.AppendAt
import Derived.Test.YtnipmhidiiondaaRep
namespace Go.Proofs.Ytnipmhidiiondaa
open Go.RowKit Go.Maps

section
variable {w w' : World} {g : Nat} {S : Sta} {p : Pls}
theorem icells_append (l m : List Nat) : icells (l ++ m) = icells l ++ icells m := by simp [icells]
theorem icells_one (i : Nat) : icells [i] = [.int .i64 (i : Nat)] := rfl
/-- The list of free cells is another one. -/
theorem Rep.newFree (h : Rep w g S p) {fv' : Value} {fl' : List Nat} (hg : w.grownBy w' p.fv.ownBlock) (ho : w'.ownsRow 0 3 1 fv' fl'.length (icells fl')) (hloc : fv'.ownBlock = p.fv.ownBlock ∨ fv'.ownBlock = some w.heap.size) :
    Rep (w'.setCell ⟨g, 3, none⟩ fv') g { S with fl := fl' } { p with fv := fv' } ∧ Chg (Own g p) w (w'.setCell ⟨g, 3, none⟩ fv') ∧ (∀ b, Own g { p with fv := fv' } b → Own g p b ∨ w.heap.size ≤ b) ∧ w'.cell? ⟨g, 3, none⟩ = some p.fv ∧ w'.frozen? ⟨g, 3, none⟩ = false := by
  have hc1 : Chg (fun b => p.fv.ownBlock = some b) w w' := .of_grown hg (fun r hr => hr)
  have ht : Blk w' g 64 (topCells S p) := h.top.chg hc1 h.fv_g
  have hc2 : Chg (fun b => b = g) w' (w'.setCell ⟨g, 3, none⟩ fv') := (Chg.refl (fun b => b = g) w').setCell (p := ⟨g, 3, none⟩) rfl fv'
  have hfg : fv'.ownBlock ≠ some g := by
    rcases hloc with e | e
    · rw [e]; exact h.fv_g
    · rw [e]; intro he; injection he with he; have := h.top.lt; omega
  refine ⟨⟨?_, ?_, ?_, ?_⟩, ?_, ?_, ht.cell 3, ht.frozen 3⟩
  · exact ht.set_ 3 fv'
  · refine own_chg (own_chg h.cells hc1 (fun b hb e => by rw [gc_of hb] at e; exact h.fv_gc e)) hc2 (fun b hb e => ?_)
    rw [gc_of hb] at e; exact h.gc_ne e
  · exact own_chg ho hc2 (fun b hb e => by subst e; exact hfg hb)
  · exact (h.map.chg hc1 h.fv_gm).chg hc2 h.gm_ne
  · exact (hc1.mono (fun b hb => .inr (.inr (.inr hb)))).trans (hc2.mono (fun b hb => .inl hb))
  · intro b hb
    rcases hb with hb | hb | hb | hb
    · exact .inl (.inl hb)
    · exact .inl (.inr (.inl hb))
    · exact .inl (.inr (.inr (.inl hb)))
    · rcases hloc with e | e
      · exact .inl (.inr (.inr (.inr (e ▸ hb))))
      · right; rw [e] at hb; injection hb with hb; omega
/-- The cells lie in a row that has grown by one. -/
theorem Rep.newCells (h : Rep w g S p) {A : Option Addr} {cap' : Nat} {c : Cel} (hg : w.grownBy w' (some p.gc)) (ho : w'.ownsRow 0 66 4 (.slice A (S.cs.length + 1) cap') (S.cs.length + 1) (ccells (S.cs ++ [c]))) (hloc : (Value.slice A (S.cs.length + 1) cap').ownBlock = some p.gc ∨ (Value.slice A (S.cs.length + 1) cap').ownBlock = some w.heap.size) :
    ∃ gc', A = some ⟨gc', 0, none⟩ ∧ Rep (w'.setCell ⟨g, 2, none⟩ (.slice A (S.cs.length + 1) cap')) g { S with cs := S.cs ++ [c] } { p with gc := gc', cap := cap' } ∧ Chg (Own g p) w (w'.setCell ⟨g, 2, none⟩ (.slice A (S.cs.length + 1) cap')) ∧ (∀ b, Own g { p with gc := gc', cap := cap' } b → Own g p b ∨ w.heap.size ≤ b) ∧
      w'.cell? ⟨g, 2, none⟩ = some (.slice (some ⟨p.gc, 0, none⟩) S.cs.length p.cap) ∧ w'.frozen? ⟨g, 2, none⟩ = false := by
  obtain ⟨gc', cp, hv, _, _⟩ := ho.form (by omega)
  have hA : A = some ⟨gc', 0, none⟩ := by injection hv
  subst hA
  have hl1 : gc' = p.gc ∨ gc' = w.heap.size := by
    rcases hloc with e | e
    · left; injection e
    · right; injection e
  have hc1 : Chg (fun b => b = p.gc) w w' := .of_grown hg (fun r hr => by injection hr with hr; exact hr.symm)
  have ht : Blk w' g 64 (topCells S p) := h.top.chg hc1 (fun e => h.gc_ne e.symm)
  have hc2 : Chg (fun b => b = g) w' (w'.setCell ⟨g, 2, none⟩ (.slice (some ⟨gc', 0, none⟩) (S.cs.length + 1) cap')) := (Chg.refl (fun b => b = g) w').setCell (p := ⟨g, 2, none⟩) rfl _
  have hfg : gc' ≠ g := by
    rcases hl1 with e | e
    · rw [e]; exact h.gc_ne
    · have := h.top.lt; omega
  have hlen : (S.cs ++ [c]).length = S.cs.length + 1 := by simp
  refine ⟨gc', rfl, ⟨?_, ?_, ?_, ?_⟩, ?_, ?_, ht.cell 2, ht.frozen 2⟩
  · have := ht.set_ 2 (.slice (some ⟨gc', 0, none⟩) (S.cs.length + 1) cap')
    unfold topCells at this ⊢
    rw [hlen]; exact this
  · show World.ownsRow _ 0 66 4 (.slice (some ⟨gc', 0, none⟩) (S.cs ++ [c]).length cap') (S.cs ++ [c]).length _
    rw [hlen]
    exact own_chg ho hc2 (fun b hb e => by rw [gc_of hb] at e; exact hfg e)
  · exact own_chg (own_chg h.free hc1 (fun b hb e => by subst e; exact h.fv_gc hb)) hc2 (fun b hb e => by subst e; exact h.fv_g hb)
  · exact (h.map.chg hc1 (fun e => h.gc_gm e.symm)).chg hc2 h.gm_ne
  · exact (hc1.mono (fun b hb => .inr (.inr (.inl hb)))).trans (hc2.mono (fun b hb => .inl hb))
  · intro b hb
    rcases hb with hb | hb | hb | hb
    · exact .inl (.inl hb)
    · exact .inl (.inr (.inl hb))
    · rcases hl1 with e | e
      · exact .inl (.inr (.inr (.inl (hb.trans e))))
      · right; have : b = gc' := hb; omega
    · exact .inl (.inr (.inr (.inr hb)))
/-- A cell is laid anew. -/
theorem Rep.lay (h : Rep w g S p) {i : Nat} (c' : Cel) (hi : i < S.cs.length) :
    Rep (w.setCells p.gc (i * 4) (ccell c')) g { S with cs := S.cs.set i c' } p ∧ Chg (Own g p) w (w.setCells p.gc (i * 4) (ccell c')) := by
  obtain ⟨c, hc⟩ : ∃ c, c = S.cs.getD i Cel.zero := ⟨_, rfl⟩
  have h1 := h.put (i := i) (j := 0) (v := .string c'.name) (c' := ⟨c'.name, c.v, c.ahead, c.next⟩) hi (by omega) (by rw [← hc]; rfl)
  have h2 := h1.1.put (i := i) (j := 1) (v := .int .i64 c'.v) (c' := ⟨c'.name, c'.v, c.ahead, c.next⟩) (by simpa using hi) (by omega) (by rw [show ({ S with cs := S.cs.set i ⟨c'.name, c.v, c.ahead, c.next⟩ } : Sta).cs.getD i Cel.zero = _ from getD_set_eq hi _]; rfl)
  have h3 := h2.1.put (i := i) (j := 2) (v := .int .i64 (c'.ahead : Nat)) (c' := ⟨c'.name, c'.v, c'.ahead, c.next⟩) (by simpa using hi) (by omega) (by rw [show ({ S with cs := (S.cs.set i ⟨c'.name, c.v, c.ahead, c.next⟩).set i ⟨c'.name, c'.v, c.ahead, c.next⟩ } : Sta).cs.getD i Cel.zero = _ from getD_set_eq (by simpa using hi) _]; rfl)
  have h4 := h3.1.put (i := i) (j := 3) (v := .int .i64 (c'.next : Nat)) (c' := c') (by simpa using hi) (by omega) (by rw [show ({ S with cs := ((S.cs.set i ⟨c'.name, c.v, c.ahead, c.next⟩).set i ⟨c'.name, c'.v, c.ahead, c.next⟩).set i ⟨c'.name, c'.v, c'.ahead, c.next⟩ } : Sta).cs.getD i Cel.zero = _ from getD_set_eq (by simpa using hi) _]; rfl)
  have hs : (((S.cs.set i ⟨c'.name, c.v, c.ahead, c.next⟩).set i ⟨c'.name, c'.v, c.ahead, c.next⟩).set i ⟨c'.name, c'.v, c'.ahead, c.next⟩).set i c' = S.cs.set i c' := by simp [List.set_set]
  refine ⟨?_, h1.2.trans (h2.2.trans (h3.2.trans h4.2))⟩
  have h5 := h4.1
  dsimp only at h5
  rw [hs] at h5
  exact h5
theorem Rep.there (h : Rep w g S p) {i : Nat} (hi : i < S.cs.length) : w.there p.gc (i * 4) 4 := fun j hj => by
  refine ⟨?_, h.frz _⟩
  have he : ∃ v, (ccell (S.cs.getD i Cel.zero))[j]? = some v := ⟨_, List.getElem?_eq_getElem (by simp [ccell]; omega)⟩
  obtain ⟨v, hv⟩ := he
  rw [h.cell hi hv]; rfl
/-- The map is another one. -/
theorem Rep.newMap (h : Rep w g S p) {f' : ByteArray → Option Nat} {m' : Nat} (hg : w.grownBy w' (some p.gm)) (hm : MapR w' p.gm f' m') :
    Rep w' g { S with f := f', m := m' } p ∧ Chg (Own g p) w w' := by
  have hc1 : Chg (fun b => b = p.gm) w w' := .of_grown hg (fun r hr => by injection hr with hr; exact hr.symm)
  exact ⟨⟨h.top.chg hc1 (fun e => h.gm_ne e.symm), own_chg h.cells hc1 (fun b hb e => by rw [gc_of hb] at e; exact h.gc_gm e),
    own_chg h.free hc1 (fun b hb e => by subst e; exact h.fv_gm hb), hm⟩, hc1.mono (fun b hb => .inr (.inl hb))⟩
theorem own_take {base : Nat} {e : TypeId} {size n n' c : Nat} {A : Option Addr} {xs : List Value} (h : w.ownsRow base e size (.slice A n c) n xs) (hn : n' ≤ n) : w.ownsRow base e size (if A = none then .slice none 0 0 else .slice A n' c) (if A = none then 0 else n') (xs.take (if A = none then 0 else n' * size)) := by
  rcases h.2 with ⟨h1, h2⟩ | ⟨g, cap, cur, h1, hb, hh, hnc, hcm, hsz, ht⟩
  · injection h1 with h1
    subst h1
    simp only [if_true]
    exact ⟨by simp, .inl ⟨rfl, rfl⟩⟩
  · injection h1 with h1 _ h3
    subst h1; subst h3
    simp only [reduceCtorEq, if_false]
    refine ⟨?_, .inr ⟨g, c, cur, rfl, hb, hh, by omega, hcm, hsz, ?_⟩⟩
    · rw [List.length_take, h.1]; exact Nat.min_eq_left (Nat.mul_le_mul_right _ hn)
    · rw [← ht, List.take_take, Nat.min_eq_left (Nat.mul_le_mul_right _ hn)]
end
theorem Try.info3 : (Try.prog.info? 3).map (fun i => (i.zero, i.size, i.bytes)) = some (some (.int .i64 0), 1, 8) := by kernel_rfl
theorem Try.info66 : (Try.prog.info? 66).map (fun i => (i.zero, i.size, i.bytes)) = some (some (.agg #[.string ⟨#[]⟩, .int .i64 0, .int .i64 0, .int .i64 0]), 4, 40) := by kernel_rfl
theorem news_of_blk {w : World} {g : Nat} {t : TypeId} {xs : List Value} (h : w.heap[g]? = some (.cells xs.toArray t (0, 0))) : ∀ j u, xs[j]? = some u → w.cell? ((⟨g, 0, none⟩ : Addr).add j) = some u := by
  intro j u hu
  rw [addr_add, Nat.zero_add, Blk.cell (show Blk w g t xs.toArray from h)]
  simpa using hu
/-- 'free = append(free, i)'. -/
theorem wpList_app_free {ops : Array Oper} {rest : List Oper} {o : Oper} {a : Act} {W : World} {Q : Exit → Act → World → Prop} (hgd : o.guard = none) (sl x : Operand)
    (ho : o.op = .call { callee := .builtin .append, args := #[sl, x], argTypes := #[53, 53] }) (g : Nat) (fv : Value) (l : List Nat) (i : Nat)
    (hs : a.eval sl = fv) (hown : W.ownsRow 0 3 1 fv l.length (icells l)) (hx : a.eval x = .slice (some ⟨g, 0, none⟩) 1 1)
    (hg : W.heap[g]? = some (.cells #[.int .i64 (i : Nat)] 3 (0, 0))) (hm : l.length ≤ 100000)
    (h : ∀ A' c' W', W'.ownsRow 0 3 1 (.slice A' (l.length + 1) c') (l ++ [i]).length (icells (l ++ [i])) → W.grownBy W' fv.ownBlock → ((Value.slice A' (l.length + 1) c').ownBlock = fv.ownBlock ∨ (Value.slice A' (l.length + 1) c').ownBlock = some W.heap.size) → wpList Try.prog ops Q rest (a.put o.dst (.slice A' (l.length + 1) c')) W') :
    wpList Try.prog ops Q (o :: rest) a W := by
  obtain ⟨i0, hi0, hz0, hz1, hz2⟩ := info_parts Try.info3
  refine wpList_append_own_at _ hgd sl x 53 ho 0 3 i0 (.int .i64 0) 1 8 Try.underlying53 hi0 hz0 hz1 hz2 rfl (by decide) fv l.length (icells l) hs hown ⟨g, 0, none⟩ 1 1 [.int .i64 (i : Nat)] hx rfl (news_of_blk hg) (by intro u hu; rw [List.mem_singleton] at hu; subst hu; rfl) (by unfold maxLen; omega) (by omega) (Nat.zero_le _) ?_
  intro v3 w3 ho3 hg3 _ hloc
  obtain ⟨A3, c3, rfl, _⟩ := own_form ho3
  refine h A3 c3 w3 ?_ hg3 hloc
  rw [List.length_append, icells_append]
  exact ho3
/-- 'cells = append(cells, c)'. -/
theorem wpList_app_cell {ops : Array Oper} {rest : List Oper} {o : Oper} {a : Act} {W : World} {Q : Exit → Act → World → Prop} (hgd : o.guard = none) (sl x : Operand)
    (ho : o.op = .call { callee := .builtin .append, args := #[sl, x], argTypes := #[62, 62] }) (g gc n cap : Nat) (l : List Cel) (c : Cel) (hn : n = l.length)
    (hs : a.eval sl = .slice (some ⟨gc, 0, none⟩) n cap) (hown : W.ownsRow 0 66 4 (.slice (some ⟨gc, 0, none⟩) n cap) n (ccells l)) (hx : a.eval x = .slice (some ⟨g, 0, none⟩) 1 1)
    (hg : W.heap[g]? = some (.cells (ccell c).toArray 66 (0, 0))) (hm : n ≤ 100000)
    (h : ∀ A' c' W', W'.ownsRow 0 66 4 (.slice A' (n + 1) c') (n + 1) (ccells (l ++ [c])) → W.grownBy W' (some gc) → ((Value.slice A' (n + 1) c').ownBlock = some gc ∨ (Value.slice A' (n + 1) c').ownBlock = some W.heap.size) → wpList Try.prog ops Q rest (a.put o.dst (.slice A' (n + 1) c')) W') :
    wpList Try.prog ops Q (o :: rest) a W := by
  obtain ⟨i0, hi0, hz0, hz1, hz2⟩ := info_parts Try.info66
  refine wpList_append_own_at _ hgd sl x 62 ho 0 66 i0 (.agg #[.string ⟨#[]⟩, .int .i64 0, .int .i64 0, .int .i64 0]) 4 40 Try.underlying62 hi0 hz0 hz1 hz2 rfl (by decide) (.slice (some ⟨gc, 0, none⟩) n cap) n (ccells l) hs hown ⟨g, 0, none⟩ 1 1 (ccell c) hx rfl (news_of_blk hg) (by intro u hu; unfold ccell at hu; simp only [List.mem_cons, List.not_mem_nil, or_false] at hu; rcases hu with rfl | rfl | rfl | rfl <;> rfl) (by unfold maxLen; omega) (by omega) (Nat.zero_le _) ?_
  intro v3 w3 ho3 hg3 _ hloc
  obtain ⟨A3, c3, rfl, _⟩ := own_form ho3
  refine h A3 c3 w3 ?_ hg3 hloc
  rw [ccells_append]
  simpa [ccells] using ho3
end Go.Proofs.Ytnipmhidiiondaa
