/- How a cache lies in memory. No walk. -/
import Derived.OneCell
import Derived.Maps.OwnSet
import Derived.Maps.OwnOps
import Derived.Test.YtnipmhidiiondaaChecked
import Derived.Test.YtnipmhidiiondaaRng
import Derived.Test.YtnipmhidiiondaaChg
namespace Go.Proofs.Ytnipmhidiiondaa
open Go.RowKit Go.Maps

def ccell (c : Cel) : List Value := [.string c.name, .int .i64 c.v, .int .i64 (c.ahead : Nat), .int .i64 (c.next : Nat)]
def ccells (l : List Cel) : List Value := l.flatMap ccell
def icells (l : List Nat) : List Value := l.map fun i => .int .i64 (i : Nat)
theorem ccells_cons (c : Cel) (l : List Cel) : ccells (c :: l) = ccell c ++ ccells l := rfl
theorem ccells_append (l m : List Cel) : ccells (l ++ m) = ccells l ++ ccells m := by unfold ccells; rw [List.flatMap_append]
theorem ccells_length (l : List Cel) : (ccells l).length = l.length * 4 := by
  induction l with
  | nil => rfl
  | cons c l ih => rw [ccells_cons, List.length_append, ih, List.length_cons]; simp [ccell]; omega
theorem ccells_get (l : List Cel) : ∀ (k : Nat) (c : Cel) (j : Nat) (v : Value), l[k]? = some c → (ccell c)[j]? = some v → (ccells l)[k * 4 + j]? = some v := by
  induction l with
  | nil => intro k t j v h; simp at h
  | cons a l ih =>
    intro k t j v hk hj
    have hl : (ccell a).length = 4 := rfl
    rw [ccells_cons]
    cases k with
    | zero =>
      have : a = t := by simpa using hk
      subst this
      have hj4 : j < (ccell a).length := (List.getElem?_eq_some_iff.1 hj).1
      rw [List.getElem?_append_left (by omega), Nat.zero_mul, Nat.zero_add]
      exact hj
    | succ k =>
      rw [List.getElem?_append_right (by rw [hl]; omega), hl, show (k + 1) * 4 + j - 4 = k * 4 + j by omega]
      exact ih k t j v (by simpa using hk) hj
theorem ccells_set (l : List Cel) : ∀ (k : Nat) (c c' : Cel) (j : Nat) (v : Value), l[k]? = some c → j < 4 → (ccell c).set j v = ccell c' → (ccells l).set (k * 4 + j) v = ccells (l.set k c') := by
  induction l with
  | nil => intro k c c' j v h; simp at h
  | cons a l ih =>
    intro k c c' j v hk hj hs
    have hl : (ccell a).length = 4 := rfl
    cases k with
    | zero =>
      have : a = c := by simpa using hk
      subst this
      rw [Nat.zero_mul, Nat.zero_add, List.set_cons_zero, ccells_cons, ccells_cons, List.set_append_left _ _ (by omega), hs]
    | succ k =>
      rw [List.set_cons_succ, ccells_cons, ccells_cons, List.set_append_right _ _ (by rw [hl]; omega), hl, show (k + 1) * 4 + j - 4 = k * 4 + j by omega]
      rw [ih k c c' j v (by simpa using hk) hj hs]

/-- What a key reads as. -/
def kd (s : ByteArray) : Lit := .string s.data.toList
theorem kd_inj {s t : ByteArray} (h : kd s = kd t) : s = t := by
  unfold kd at h
  injection h with h
  obtain ⟨⟨x⟩⟩ := s
  obtain ⟨⟨y⟩⟩ := t
  have : x = y := h
  rw [this]
/-- A map in memory, from names to places. -/
def MapR (w : World) (gm : Nat) (f : ByteArray → Option Nat) (m : Nat) : Prop :=
  ∃ D : DataW Unit, w.ownsMap Try.prog 9 (plainElem Try.prog 3) gm m D ∧ Maps.size D = m ∧
    ∀ s, Maps.has D (kd s) = (f s).isSome ∧ D.atKey (kd s) (.lit (.int .i64 0)) = .lit (.int .i64 (((f s).getD 0 : Nat) : Int))
section
variable {w w' : World} {gm m : Nat} {f : ByteArray → Option Nat}
theorem MapR.isMap (h : MapR w gm f m) : ∃ es clock, w.heap[gm]? = some (.map es clock) := by
  obtain ⟨D, ⟨es, clock, hb, _⟩, _⟩ := h
  exact ⟨es, clock, hb⟩
theorem MapR.lt (h : MapR w gm f m) : gm < w.heap.size := by
  obtain ⟨es, clock, hb⟩ := h.isMap
  exact (Array.getElem?_eq_some_iff.1 hb).1
theorem MapR.chg {T : Nat → Prop} (h : MapR w gm f m) (hc : Chg T w w') (hn : ¬ T gm) : MapR w' gm f m := by
  have hlt := h.lt
  obtain ⟨D, ⟨es, clock, hb, r⟩, h2⟩ := h
  exact ⟨D, ⟨es, clock, (hc.block gm hlt hn).trans hb, r⟩, h2⟩
theorem exact_size {D : DataW Unit} {n : Nat} (h : w.ownsMap Try.prog 9 (plainElem Try.prog 3) gm n D) : w.ownsMap Try.prog 9 (plainElem Try.prog 3) gm (Maps.size D) D := by
  obtain ⟨es, clock, hb, F, _, hD⟩ := h
  refine ⟨es, clock, hb, F, ?_, hD⟩
  rw [hD, Maps.size_eq, length_sorted]; simp
theorem law9 : Keyed Try.prog 9 := string_keyed Try.underlying9
theorem zero3 (w : World) : (zeroValue 3).run Try.prog w = .ok (.int .i64 0) w := by kernel_rfl
theorem key9 {s : ByteArray} (h : s.size ≤ maxLen) : keyOf Try.prog 9 (.string s) = some (kd s) := WideMaps.keyOf_string_mk Try.underlying9 h
def fput (f : ByteArray → Option Nat) (s : ByteArray) (i : Nat) : ByteArray → Option Nat := fun t => if t = s then some i else f t
def fdel (f : ByteArray → Option Nat) (s : ByteArray) : ByteArray → Option Nat := fun t => if t = s then none else f t
theorem MapR.put {D : DataW Unit} {s : ByteArray} {i : Nat} (hs : s.size ≤ maxLen) (ho : w'.ownsMap Try.prog 9 (plainElem Try.prog 3) gm (m + 1) (D.put (kd s) (.lit (.int .i64 (i : Nat)))))
    (h : w.ownsMap Try.prog 9 (plainElem Try.prog 3) gm m D) (hsz : Maps.size D = m)
    (hf : ∀ s, Maps.has D (kd s) = (f s).isSome ∧ D.atKey (kd s) (.lit (.int .i64 0)) = .lit (.int .i64 (((f s).getD 0 : Nat) : Int))) : MapR w' gm (fput f s i) (if (f s).isSome then m else m + 1) := by
  have ht := h.tidy law9
  have hk : WideAt.IsKeyLit (kd s) := law9.key (key9 hs)
  have hsp := Maps.size_put (k := kd s) ht (.lit (.int .i64 (i : Nat)))
  rw [(hf s).1, hsz] at hsp
  refine ⟨_, ?_, hsp, fun t => ?_⟩
  · have := exact_size ho; rwa [hsp] at this
  · unfold fput
    by_cases he : t = s
    · subst he
      rw [if_pos rfl]
      exact ⟨Maps.has_put_same ht.isMap hk _, Maps.atKey_put_same ht.isMap hk _ _⟩
    · rw [if_neg he]
      have hne : kd t ≠ kd s := fun h => he (kd_inj h)
      exact ⟨(Maps.has_put_other hne _).trans (hf t).1, (Maps.atKey_put_other hne _ _).trans (hf t).2⟩
theorem MapR.del {D : DataW Unit} {s : ByteArray} (ho : w'.ownsMap Try.prog 9 (plainElem Try.prog 3) gm m (D.del (kd s)))
    (h : w.ownsMap Try.prog 9 (plainElem Try.prog 3) gm m D) (hsz : Maps.size D = m)
    (hf : ∀ s, Maps.has D (kd s) = (f s).isSome ∧ D.atKey (kd s) (.lit (.int .i64 0)) = .lit (.int .i64 (((f s).getD 0 : Nat) : Int))) : MapR w' gm (fdel f s) (if (f s).isSome then m - 1 else m) := by
  have ht := h.tidy law9
  have hsp := Maps.size_del (k := kd s) ht
  rw [(hf s).1, hsz] at hsp
  have hsp2 : Maps.size (D.del (kd s)) = if (f s).isSome then m - 1 else m := by
    cases hc : (f s).isSome
    · rw [hc] at hsp; simpa using hsp
    · rw [hc] at hsp; simp at hsp ⊢; omega
  refine ⟨_, ?_, hsp2, fun t => ?_⟩
  · have := exact_size ho; rwa [hsp2] at this
  · unfold fdel
    by_cases he : t = s
    · subst he
      rw [if_pos rfl]
      exact ⟨Maps.has_del_same, Maps.atKey_del_same _⟩
    · rw [if_neg he]
      have hne : kd t ≠ kd s := fun h => he (kd_inj h)
      exact ⟨(Maps.has_del_other hne).trans (hf t).1, (Maps.atKey_del_other hne _).trans (hf t).2⟩
end

/-- What a cache holds. -/
structure Sta where
  room : Nat
  cs : List Cel
  fl : List Nat
  f : ByteArray → Option Nat
  m : Nat
  hits : Nat
  misses : Nat
/-- Where it lies. -/
structure Pls where
  gm : Nat
  gc : Nat
  cap : Nat
  fv : Value
def topCells (S : Sta) (p : Pls) : Array Value := #[.int .i64 (S.room : Nat), .map (some p.gm), .slice (some ⟨p.gc, 0, none⟩) S.cs.length p.cap, p.fv, .int .i64 (S.hits : Nat), .int .i64 (S.misses : Nat)]
structure Rep (w : World) (g : Nat) (S : Sta) (p : Pls) : Prop where
  top : Blk w g 64 (topCells S p)
  cells : w.ownsRow 0 66 4 (.slice (some ⟨p.gc, 0, none⟩) S.cs.length p.cap) S.cs.length (ccells S.cs)
  free : w.ownsRow 0 3 1 p.fv S.fl.length (icells S.fl)
  map : MapR w p.gm S.f S.m
def Own (g : Nat) (p : Pls) (b : Nat) : Prop := b = g ∨ b = p.gm ∨ b = p.gc ∨ p.fv.ownBlock = some b

theorem own_blk {w : World} {base : Nat} {e : TypeId} {size n c g o : Nat} {xs : List Value} (h : w.ownsRow base e size (.slice (some ⟨g, o, none⟩) n c) n xs) : ∃ cur, Blk w g e cur := by
  rcases h.2 with ⟨h1, _⟩ | ⟨g', cap, cur, h1, _, hh, _⟩
  · injection h1 with h1; cases h1
  · injection h1 with h1; injection h1 with h1; injection h1 with h1 h2
    subst h1
    exact ⟨cur, hh⟩
theorem blk_ne_map {w : World} {g gm : Nat} {t : TypeId} {cs : Array Value} (h : Blk w g t cs) (hm : ∃ es clock, w.heap[gm]? = some (.map es clock)) : g ≠ gm := by
  rintro rfl
  obtain ⟨es, clock, hm⟩ := hm
  unfold Blk at h
  rw [h] at hm
  cases hm
theorem gc_of {gc b n c : Nat} (h : (Value.slice (some ⟨gc, 0, none⟩) n c).ownBlock = some b) : b = gc := by
  have : gc = b := by simpa [Value.ownBlock] using h
  exact this.symm
section
variable {w w' : World} {g : Nat} {S : Sta} {p : Pls}
theorem Rep.gc_ne (h : Rep w g S p) : p.gc ≠ g := by
  obtain ⟨cur, hc⟩ := own_blk h.cells
  exact Blk.ne_ hc h.top (by decide)
theorem Rep.gm_ne (h : Rep w g S p) : p.gm ≠ g := Ne.symm (blk_ne_map h.top h.map.isMap)
theorem Rep.gc_gm (h : Rep w g S p) : p.gc ≠ p.gm := by
  obtain ⟨cur, hc⟩ := own_blk h.cells
  exact blk_ne_map hc h.map.isMap
theorem Rep.fv_g (h : Rep w g S p) : p.fv.ownBlock ≠ some g := own_blk_ne h.free h.top (by decide)
theorem Rep.fv_gc (h : Rep w g S p) : p.fv.ownBlock ≠ some p.gc := by
  obtain ⟨cur, hc⟩ := own_blk h.cells
  exact own_blk_ne h.free hc (by decide)
theorem Rep.fv_gm (h : Rep w g S p) : p.fv.ownBlock ≠ some p.gm := by
  intro he
  rcases h.free.2 with ⟨h1, _⟩ | ⟨g', cap, cur, h1, _, hh, _⟩
  · rw [h1] at he; simp [Value.ownBlock] at he
  · rw [h1] at he
    have : g' = p.gm := by simpa [Value.ownBlock] using he
    subst this
    exact blk_ne_map (show Blk w p.gm 3 cur from hh) h.map.isMap rfl
theorem Rep.lt (h : Rep w g S p) : ∀ b, Own g p b → b < w.heap.size := by
  intro b hb
  rcases hb with rfl | rfl | rfl | hb
  · exact h.top.lt
  · exact h.map.lt
  · obtain ⟨cur, hc⟩ := own_blk h.cells
    exact hc.lt
  · exact (World.ownsRow.lt h.free b hb).2
theorem Rep.chg {T : Nat → Prop} (h : Rep w g S p) (hc : Chg T w w') (hn : ∀ b, Own g p b → ¬ T b) : Rep w' g S p :=
  ⟨h.top.chg hc (hn _ (.inl rfl)), own_chg h.cells hc (fun b hb => hn b (.inr (.inr (.inl (gc_of hb))))),
    own_chg h.free hc (fun b hb => hn b (.inr (.inr (.inr hb)))), h.map.chg hc (hn _ (.inr (.inl rfl)))⟩
theorem Rep.below (h : Rep w g S p) (hb : Below w.heap.size w w') : Rep w' g S p := h.chg (T := fun _ => False) (.of_below hb) (fun _ _ h => h)
theorem Rep.alloc (h : Rep w g S p) (o : Obj) : Rep (w.alloc o) g S p := h.below ((Below.refl _ _).alloc (Nat.le_refl _) o)
theorem Rep.drewN (h : Rep w g S p) (n : Nat) : Rep (w.drewN n) g S p := h.below (below_drewN (Below.refl _ _) n)
theorem Rep.drew (h : Rep w g S p) : Rep w.drew g S p := h.below (Below.refl _ _).drew
/-- A cell of the ring. -/
theorem Rep.cell (h : Rep w g S p) {i j : Nat} {v : Value} (hi : i < S.cs.length) (hv : (ccell (S.cs.getD i Cel.zero))[j]? = some v) : w.cell? ⟨p.gc, i * 4 + j, none⟩ = some v := by
  have hc := h.cells.cells (g := p.gc) rfl
  have he : S.cs[i]? = some (S.cs.getD i Cel.zero) := by simp [List.getD, hi]
  have := hc (i * 4 + j) v (ccells_get _ i _ j v he hv)
  rw [addr_add, Nat.zero_add] at this
  exact this
theorem Rep.frz (h : Rep w g S p) (j : Nat) : w.frozen? ⟨p.gc, j, none⟩ = false := World.ownsRow.frozenAt h.cells j
/-- A cell of the ring is written. -/
theorem Rep.put (h : Rep w g S p) {i j : Nat} {v : Value} {c' : Cel} (hi : i < S.cs.length) (hj : j < 4) (hs : (ccell (S.cs.getD i Cel.zero)).set j v = ccell c') :
    Rep (w.setCell ⟨p.gc, i * 4 + j, none⟩ v) g { S with cs := S.cs.set i c' } p ∧ Chg (Own g p) w (w.setCell ⟨p.gc, i * 4 + j, none⟩ v) := by
  have he : S.cs[i]? = some (S.cs.getD i Cel.zero) := by simp [List.getD, hi]
  have hst := World.ownsRow.stored h.cells (i * 4 + j) v
  rw [ccells_set _ i _ c' j v he hj hs] at hst
  have hl : (S.cs.set i c').length = S.cs.length := by simp
  have hch : Chg (fun b => b = p.gc) w (w.setCell ⟨p.gc, i * 4 + j, none⟩ v) := .of_grown hst.2 (fun r hr => by injection hr with hr; exact hr.symm)
  refine ⟨⟨?_, ?_, ?_, ?_⟩, hch.mono (fun b hb => by subst hb; exact .inr (.inr (.inl rfl)))⟩
  · have := h.top.chg hch (fun e => h.gc_ne e.symm)
    unfold topCells at this ⊢
    rw [hl]; exact this
  · show World.ownsRow _ 0 66 4 (.slice (some ⟨p.gc, 0, none⟩) (S.cs.set i c').length p.cap) (S.cs.set i c').length _
    rw [hl]; exact hst.1
  · exact own_chg h.free hch (fun b hb e => by subst e; exact h.fv_gc hb)
  · exact h.map.chg hch (fun e => h.gc_gm e.symm)
/-- A field of the cache is written. -/
theorem Rep.field (h : Rep w g S p) {j : Nat} {v : Value} {S' : Sta} (hs : (topCells S p).setIfInBounds j v = topCells S' p) (hc : S'.cs = S.cs) (hf : S'.fl = S.fl) (hm : S'.f = S.f) (hm2 : S'.m = S.m) :
    Rep (w.setCell ⟨g, j, none⟩ v) g S' p ∧ Chg (Own g p) w (w.setCell ⟨g, j, none⟩ v) := by
  have hch : Chg (fun b => b = g) w (w.setCell ⟨g, j, none⟩ v) := (Chg.refl (fun b => b = g) w).setCell (p := ⟨g, j, none⟩) rfl v
  refine ⟨⟨?_, ?_, ?_, ?_⟩, hch.mono (fun b hb => .inl hb)⟩
  · rw [← hs]; exact h.top.set_ j v
  · rw [hc]; exact own_chg h.cells hch (fun b hb e => by
      have : p.gc = b := by simpa [Value.ownBlock] using hb
      exact h.gc_ne (this.trans e))
  · rw [hf]; exact own_chg h.free hch (fun b hb e => by subst e; exact h.fv_g hb)
  · rw [hm, hm2]; exact h.map.chg hch h.gm_ne
end
end Go.Proofs.Ytnipmhidiiondaa
