/- How the law's net lies in memory. No walk. -/
import Derived.ArgAppend
import Derived.Deep.MidRow
import Derived.Deep.DeepCutAuto
import Derived.Test.YtjodglepaeomiaaSaf
import Derived.Test.YtjodglepaeomiaaNet
namespace Go.Proofs.Ytjodglepaeomiaa
open Go.RowKit

/-- A slice, anywhere in a block of Z of its type, that reads as these cells. -/
def RowZ (w : World) (Z : Nat → Prop) (e : TypeId) (size : Nat) (v : Value) (n : Nat) (xs : List Value) : Prop :=
  xs.length = n * size ∧ ∃ A cap, v = .slice A n cap ∧ n ≤ cap ∧ cap ≤ maxLen ∧ ((A = none ∧ cap = 0) ∨
    ∃ g off cur, A = some ⟨g, off, none⟩ ∧ Z g ∧ Blk w g e cur ∧ off + cap * size ≤ cur.size ∧ (cur.toList.drop off).take (n * size) = xs)
section
variable {w w' : World} {Z Z' : Nat → Prop} {e : TypeId} {size n : Nat} {v : Value} {xs : List Value}
theorem RowZ.nil (w : World) (Z : Nat → Prop) (e : TypeId) (size : Nat) : RowZ w Z e size (.slice none 0 0) 0 [] :=
  ⟨by simp, none, 0, rfl, Nat.le_refl _, by unfold maxLen; omega, .inl ⟨rfl, rfl⟩⟩
theorem RowZ.mono (h : RowZ w Z e size v n xs) (hZ : ∀ b, Z b → Z' b) : RowZ w Z' e size v n xs := by
  obtain ⟨h1, A, cap, h2, h3, h4, h5⟩ := h
  refine ⟨h1, A, cap, h2, h3, h4, h5.imp id ?_⟩
  rintro ⟨g, off, cur, a, b, c, d⟩
  exact ⟨g, off, cur, a, hZ g b, c, d⟩
theorem RowZ.chg {T : Nat → Prop} (h : RowZ w Z e size v n xs) (hc : Chg T w w') (hT : ∀ b cur, Z b → Blk w b e cur → ¬ T b) : RowZ w' Z e size v n xs := by
  obtain ⟨h1, A, cap, h2, h3, h4, h5⟩ := h
  refine ⟨h1, A, cap, h2, h3, h4, h5.imp id ?_⟩
  rintro ⟨g, off, cur, a, b, c, d⟩
  exact ⟨g, off, cur, a, b, c.chg hc (hT g cur b c), d⟩
theorem RowZ.below (h : RowZ w Z e size v n xs) (hb : Below w.heap.size w w') : RowZ w' Z e size v n xs := h.chg (T := fun _ => False) (.of_below hb) (fun _ _ _ _ h => h)
theorem RowZ.of_own {base c : Nat} {A : Option Addr} (h : w.ownsRow base e size (.slice A n c) n xs) (hZ : ∀ g, base ≤ g → g < w.heap.size → Z g) : RowZ w Z e size (.slice A n c) n xs := by
  refine ⟨h.1, A, c, rfl, ?_⟩
  rcases h.2 with ⟨h1, h2⟩ | ⟨g, cap, cur, h1, h2, h3, h4, h5, h6, h7⟩
  · injection h1 with e1 e2 e3
    subst e1; subst e2; subst e3
    exact ⟨Nat.le_refl _, by unfold maxLen; omega, .inl ⟨rfl, rfl⟩⟩
  · injection h1 with e1 e2 e3
    subst e3
    have hb : Blk w g e cur := h3
    exact ⟨h4, h5, .inr ⟨g, 0, cur, e1, hZ g h2 hb.lt, hb, by omega, by rw [List.drop_zero]; exact h7⟩⟩
/-- A cell of it. -/
theorem RowZ.cell {g off c : Nat} (h : RowZ w Z e size (.slice (some ⟨g, off, none⟩) n c) n xs) {j : Nat} {u : Value} (hj : xs[j]? = some u) : w.cell? ⟨g, off + j, none⟩ = some u := by
  obtain ⟨h1, A, cap, h2, h3, h4, h5⟩ := h
  injection h2 with e1 e2 e3
  subst e1; subst e3
  rcases h5 with ⟨h6, _⟩ | ⟨g', off', cur, h6, hz, hb, hle, htk⟩
  · cases h6
  · injection h6 with h6
    injection h6 with e4 e5
    subst e4; subst e5
    rw [hb.cell, ← hj, ← htk]
    have hjl := (List.getElem?_eq_some_iff.1 hj).1
    rw [List.getElem?_take, if_pos (by omega), List.getElem?_drop]
    exact (Array.getElem?_toList ..).symm
theorem RowZ.form (h : RowZ w Z e size v n xs) (hn : 0 < n) : ∃ g off c cur, v = .slice (some ⟨g, off, none⟩) n c ∧ Z g ∧ n ≤ c ∧ Blk w g e cur := by
  obtain ⟨h1, A, cap, h2, h3, h4, h5⟩ := h
  rcases h5 with ⟨h6, h7⟩ | ⟨g, off, cur, h6, hz, hb, _⟩
  · omega
  · subst h6
    exact ⟨g, off, cap, cur, h2, hz, h3, hb⟩
theorem RowZ.reads {A : Option Addr} {c : Nat} (h : RowZ w Z e size (.slice A n c) n xs) : Reads w w.heap.size size A n xs := by
  refine ⟨h.1, fun hn => ?_⟩
  obtain ⟨g, off, c', cur, h1, _, _, hb⟩ := h.form hn
  injection h1 with e1 e2 e3
  subst e1
  exact ⟨_, rfl, hb.lt, fun j u hu => by rw [addr_add]; exact h.cell hu⟩
end
theorem Chg.setCells {T : Nat → Prop} {w : World} {b : Nat} (hb : T b) : ∀ (vs : List Value) (o : Nat) (w' : World), Chg T w w' → Chg T w (w'.setCells b o vs)
  | [], _, _, h => h
  | v :: r, o, w', h => by rw [World.setCells]; exact Chg.setCells hb r (o + 1) _ (h.setCell (p := ⟨b, o, none⟩) hb v)
theorem Blk.setCells {g : Nat} {e : TypeId} : ∀ (vs : List Value) (o : Nat) (w : World) (cur : Array Value), Blk w g e cur →
    ∃ cur', Blk (w.setCells g o vs) g e cur' ∧ cur'.size = cur.size ∧ (∀ j, j < o ∨ o + vs.length ≤ j → cur'[j]? = cur[j]?) ∧ ∀ i, i < vs.length → o + i < cur.size → cur'[o + i]? = vs[i]?
  | [], o, w, cur, h => ⟨cur, h, rfl, fun _ _ => rfl, fun i hi => absurd hi (Nat.not_lt_zero _)⟩
  | v :: r, o, w, cur, h => by
    obtain ⟨cur', h1, h2, h3, h4⟩ := Blk.setCells r (o + 1) _ _ (h.set_ o v)
    rw [Array.size_setIfInBounds] at h2
    refine ⟨cur', by rw [World.setCells]; exact h1, h2, fun j hj => ?_, fun i hi hs => ?_⟩
    · rw [List.length_cons] at hj
      rw [h3 j (by omega), Array.getElem?_setIfInBounds_ne (by omega)]
    · cases i with
      | zero => rw [Nat.add_zero, h3 o (by omega), Array.getElem?_setIfInBounds_self_of_lt (by omega)]; rfl
      | succ i =>
        have := h4 i (by simpa using hi) (by rw [Array.size_setIfInBounds]; omega)
        rw [show o + (i + 1) = o + 1 + i by omega, this]; rfl
/-- 'append(s, x...)' of such a slice: at its room or anew. -/
theorem run_append_rowZ {P : Program} (w : World) (Z : Nat → Prop) (t ty e : TypeId) (i : TypeInfo) (z : Value) (size bytes : Nat) (ht : P.underlying t = some (.slice e)) (hi : P.info? e = some i) (hz : i.zero = some z)
    (hsize : i.size = size) (hby : i.bytes = bytes) (hzs : z.cells.size = size) (hsz : 0 < size) (A X : Option Addr) (n cap m c B : Nat) (xs ys : List Value)
    (h : RowZ w Z e size (.slice A n cap) n xs) (hr : Reads w B size X m ys) (h1 : ∀ u ∈ ys, u.oneCell' = true) (h63 : n + m ≤ maxLen) (hbytes : (n + m) * bytes ≤ 140737488355328) :
    ∃ A' c' w', (Builtin.append_ #[t, t] ty #[.slice A n cap, .slice X m c]).run P w = .ok (.slice A' (n + m) c') w' ∧
      RowZ w' (fun b => Z b ∨ (w.heap.size ≤ b ∧ b < w'.heap.size)) e size (.slice A' (n + m) c') (n + m) (xs ++ ys) ∧ Chg (fun b => Z b ∧ ∃ cur, Blk w b e cur) w w' := by
  obtain ⟨hxl, A0, cap0, e0, hnc, hcm, hA⟩ := id h
  injection e0 with e1 _ e2
  subst e1; subst e2
  rcases hA with ⟨rfl, rfl⟩ | ⟨g, off, cur, rfl, hZg, hb, hle, htk⟩
  · have hn0 : n = 0 := by omega
    subst hn0
    have hx : xs = [] := List.eq_nil_of_length_eq_zero (by rw [hxl, Nat.zero_mul])
    subst hx
    obtain ⟨v', w', hrun, ho, hg, _⟩ := run_append_any (P := P) w w.heap.size t ty e i z size bytes ht hi hz hsize hby hzs hsz (.slice none 0 0) 0 [] (World.ownsRow_nil _ _ _ _) B X m c ys hr h1 h63 hbytes (Nat.le_refl _)
    obtain ⟨A', c', rfl, _⟩ := own_form ho
    exact ⟨A', c', w', hrun, .of_own ho (fun g h1 h2 => .inr ⟨h1, h2⟩), .of_grown hg (fun r hr => by cases hr)⟩
  · cases X with
    | none =>
      have hm : m = 0 := by
        rcases Nat.eq_zero_or_pos m with h0 | h0
        · exact h0
        · obtain ⟨ad, h, _⟩ := hr.2 h0
          cases h
      subst hm
      have hy : ys = [] := List.eq_nil_of_length_eq_zero (by rw [hr.1, Nat.zero_mul])
      subst hy
      refine ⟨some ⟨g, off, none⟩, cap, w, ?_, ?_, Chg.refl _ _⟩
      · simp [Builtin.append_, run_underlying ht, sizeOf, typeInfo, hi, Builtin.lenOf, Builtin.firstCells, hnc, storeCells]
      · rw [Nat.add_zero, List.append_nil]; exact h.mono (fun b hb => .inl hb)
    | some ad =>
      have hnews : ∀ j u, ys[j]? = some u → w.cell? (ad.add j) = some u := fun j u hu => by
        rcases Nat.eq_zero_or_pos m with h0 | h0
        · have hy : ys = [] := List.eq_nil_of_length_eq_zero (by rw [hr.1, h0, Nat.zero_mul])
          rw [hy] at hu; simp at hu
        · obtain ⟨ad', e, _, hc⟩ := hr.2 h0
          have e := Option.some.inj e
          subst e
          exact hc j u hu
      by_cases hroom : n + m ≤ cap
      · have hin : off + n * size + ys.length ≤ cur.size := by
          have h3 : (n + m) * size ≤ cap * size := Nat.mul_le_mul_right _ hroom
          rw [Nat.add_mul] at h3
          rw [hr.1]; omega
        have hrun := run_append_room_cells (P := P) w t ty e i ht hi g off n cap ad m c ys (by rw [hsize]; exact hr.1) hnews h1 hroom (fun j hj => by rw [hsize, hb.cell, Array.getElem?_eq_getElem (by omega)]; rfl) (fun j hj => hb.frozen _)
        rw [hsize] at hrun
        obtain ⟨cur', k1, k2, k3, k4⟩ := Blk.setCells ys (off + n * size) w cur hb
        refine ⟨_, cap, _, hrun, ⟨by rw [List.length_append, hxl, hr.1, Nat.add_mul], _, _, rfl, hroom, hcm, .inr ⟨g, off, cur', rfl, .inl hZg, k1, by rw [k2]; exact hle, ?_⟩⟩, Chg.setCells ⟨hZg, cur, hb⟩ _ _ _ (Chg.refl _ _)⟩
        apply List.ext_getElem?
        intro j
        rw [List.getElem?_take, List.getElem?_drop, Array.getElem?_toList, Nat.add_mul]
        rcases Nat.lt_or_ge j (n * size) with hj | hj
        · rw [if_pos (by omega), k3 _ (.inl (by omega)), List.getElem?_append_left (by omega), ← htk, List.getElem?_take, if_pos hj, List.getElem?_drop, Array.getElem?_toList]
        · rw [List.getElem?_append_right (by omega), hxl]
          rcases Nat.lt_or_ge j (n * size + m * size) with hj2 | hj2
          · have := k4 (j - n * size) (by rw [hr.1]; omega) (by rw [hr.1] at hin; omega)
            rw [if_pos hj2, ← this]
            congr 1
            omega
          · rw [if_neg (by omega), List.getElem?_eq_none (by rw [hr.1]; omega)]
      · have holds : ∀ j u, xs[j]? = some u → w.cell? ((⟨g, off, none⟩ : Addr).add j) = some u := fun j u hu => by rw [addr_add]; exact h.cell hu
        obtain ⟨v', w', hrun, ho, hg⟩ := run_append_arg_grows (P := P) w t ty e i z size bytes ht hi hz hsize hby hzs hsz ⟨g, off, none⟩ n cap xs hxl holds ad m c ys hr.1 hnews (by omega) h63 hbytes
        obtain ⟨A', c', rfl, _⟩ := own_form ho
        exact ⟨A', c', w', hrun, .of_own ho (fun g h1 h2 => .inr ⟨h1, h2⟩), .of_grown hg (fun r hr => by cases hr)⟩
/-- The same at the operation, for lists of messages. -/
theorem wpList_append_way {ops : Array Oper} {rest : List Oper} {o : Oper} {a : Act} {w : World} {Q : Exit → Act → World → Prop} (hgd : o.guard = none) (s x : Operand)
    (ho : o.op = .call { callee := .builtin .append, args := #[s, x], argTypes := #[30, 30] }) (Z : Nat → Prop) (A X : Option Addr) (n cap m c B : Nat) (l r : List Mx)
    (hs : a.eval s = .slice A n cap) (h : RowZ w Z 34 9 (.slice A n cap) n (rowOf xcell l)) (hx : a.eval x = .slice X m c) (hr : Reads w B 9 X m (rowOf xcell r)) (hb : n + m ≤ 100000)
    (hK : ∀ A' c' w', RowZ w' (fun b => Z b ∨ (w.heap.size ≤ b ∧ b < w'.heap.size)) 34 9 (.slice A' (n + m) c') (n + m) (rowOf xcell (l ++ r)) → Chg (fun b => Z b ∧ ∃ cur, Blk w b 34 cur) w w' → wpList Try.prog ops Q rest (a.put o.dst (.slice A' (n + m) c')) w') :
    wpList Try.prog ops Q (o :: rest) a w := by
  obtain ⟨i0, hi0, hz0, hz1, hz2⟩ := info_parts Try.info34
  obtain ⟨A', c', w', hrun, h1, h2⟩ := run_append_rowZ (P := Try.prog) w Z 30 o.type 34 i0 (.agg #[.int .u8 0, .int .i64 0, .int .i64 0, .int .i64 0, .int .i64 0, .int .i64 0, .slice none 0 0, .int .i64 0, .bool false]) 9 88 Try.underlying30 hi0 hz0 hz1 hz2 rfl (by decide) A X n cap m c B (rowOf xcell l) (rowOf xcell r) h hr (rowOf_one xcell_one r) (by unfold maxLen; omega) (by omega)
  refine wpList_plain hgd fun K hK' => ?_
  unfold Oper.wp
  simp [execOp, ho, resolve, invoke, builtin, hs, hx, hrun, Result.andThen]
  exact hK' _ _ (hK A' c' w' (by rw [rowOf_append]; exact h1) h2)

/-! The net. -/
structure Nv where
  Al : Option Addr
  cl : Nat
  Aw : Option Addr
  cw : Nat
  As : Option Addr
  cs : Nat
  Ad : Option Addr
  cd : Nat
  Ah : Option Addr
  ch : Nat
def netCells (v : Nv) (n m : Nat) (Z : Seen) : List Value :=
  [.slice v.Al n v.cl, .slice v.Aw m v.cw, .slice v.As Z.sure.length v.cs] ++ (Z.told.map icell ++ [.slice v.Ad Z.leads.length v.cd, .slice v.Ah Z.whose.length v.ch, .bool false, .int .i64 (Z.bud : Nat)])
def pcell' (p : Nat × Sv) : List Value := [.pointer (some ⟨p.1, 0, none⟩)]
def scell (y : Ent × Int) : List Value := [.int .i64 y.1.term, .string y.1.data, .int .i64 y.2]
def tcell (t : Int) : List Value := [.int .i64 t]
def hcell (c : Nat) : List Value := [.int .i64 (c : Nat)]
theorem scell_len (y : Ent × Int) : (scell y).length = 3 := rfl
/-- The net in memory: its own block and rows, and the messages on their way, in blocks X; the servers in others. -/
structure NetM (w : World) (B gN : Nat) (X : Nat → Prop) (ps : List (Nat × Sv)) (way : List Mx) (Z : Seen) (v : Nv) : Prop where
  tl : Z.told.length = 7
  Xw : ∀ b, X b → B ≤ b ∧ b < w.heap.size
  top : Blk w gN 54 (netCells v ps.length way.length Z).toArray
  topX : X gN
  l : w.ownsRow 0 22 1 (.slice v.Al ps.length v.cl) ps.length (rowOf pcell' ps)
  lX : ∀ g, (Value.slice v.Al ps.length v.cl).ownBlock = some g → X g
  wy : RowZ w X 34 9 (.slice v.Aw way.length v.cw) way.length (rowOf xcell way)
  ent : ∀ x ∈ way, w.ownsRow 0 39 2 (.slice x.2.1 x.1.ents.length x.2.2) x.1.ents.length (rowOf ecell x.1.ents) ∧ ∀ g, (Value.slice x.2.1 x.1.ents.length x.2.2).ownBlock = some g → X g
  sure : w.ownsRow 0 94 3 (.slice v.As Z.sure.length v.cs) Z.sure.length (rowOf scell Z.sure)
  sureX : ∀ g, (Value.slice v.As Z.sure.length v.cs).ownBlock = some g → X g
  ld : w.ownsRow 0 2 1 (.slice v.Ad Z.leads.length v.cd) Z.leads.length (rowOf tcell Z.leads)
  ldX : ∀ g, (Value.slice v.Ad Z.leads.length v.cd).ownBlock = some g → X g
  wh : w.ownsRow 0 3 1 (.slice v.Ah Z.whose.length v.ch) Z.whose.length (rowOf hcell Z.whose)
  whX : ∀ g, (Value.slice v.Ah Z.whose.length v.ch).ownBlock = some g → X g
  srv : Srvs w (fun b => X b ∨ b < B) ps
section
variable {w w' : World} {B gN : Nat} {X X' : Nat → Prop} {ps : List (Nat × Sv)} {way : List Mx} {Z : Seen} {v : Nv}
theorem NetM.c0 (h : NetM w B gN X ps way Z v) : w.cell? ⟨gN, 0, none⟩ = some (.slice v.Al ps.length v.cl) := by rw [h.top.cell]; rfl
theorem NetM.c1 (h : NetM w B gN X ps way Z v) : w.cell? ⟨gN, 1, none⟩ = some (.slice v.Aw way.length v.cw) := by rw [h.top.cell]; rfl
theorem NetM.c2 (h : NetM w B gN X ps way Z v) : w.cell? ⟨gN, 2, none⟩ = some (.slice v.As Z.sure.length v.cs) := by rw [h.top.cell]; rfl
theorem NetM.c3 (h : NetM w B gN X ps way Z v) {k : Nat} (hk : k < 7) : w.cell? ⟨gN, 3 + k, none⟩ = some (.int .i64 ((Z.told.getD k 0 : Nat) : Int)) := by
  rw [h.top.cell]
  have h1 := h.tl
  have h2 : Z.told[k]? = some (Z.told.getD k 0) := by rw [List.getD_eq_getElem?_getD, List.getElem?_eq_getElem (by omega)]; rfl
  unfold netCells
  rw [List.getElem?_toArray, List.getElem?_append_right (by simp), List.getElem?_append_left (by simp; omega)]
  simp only [List.length_cons, List.length_nil, Nat.zero_add, Nat.add_sub_cancel_left, List.getElem?_map, h2]
  rfl
theorem netCells_hi (v : Nv) (n m : Nat) {Z : Seen} (h : Z.told.length = 7) (j : Nat) : (netCells v n m Z)[10 + j]? = ([.slice v.Ad Z.leads.length v.cd, .slice v.Ah Z.whose.length v.ch, .bool false, .int .i64 (Z.bud : Nat)] : List Value)[j]? := by
  unfold netCells
  rw [List.getElem?_append_right (by simp; omega), List.getElem?_append_right (by simp; omega)]
  simp only [List.length_cons, List.length_nil, Nat.zero_add, List.length_map, h]
  congr 1
  omega
theorem NetM.c10 (h : NetM w B gN X ps way Z v) : w.cell? ⟨gN, 10, none⟩ = some (.slice v.Ad Z.leads.length v.cd) := by rw [h.top.cell, List.getElem?_toArray, netCells_hi v _ _ h.tl 0]; rfl
theorem NetM.c11 (h : NetM w B gN X ps way Z v) : w.cell? ⟨gN, 11, none⟩ = some (.slice v.Ah Z.whose.length v.ch) := by rw [h.top.cell, List.getElem?_toArray, netCells_hi v _ _ h.tl 1]; rfl
theorem NetM.c12 (h : NetM w B gN X ps way Z v) : w.cell? ⟨gN, 12, none⟩ = some (.bool false) := by rw [h.top.cell, List.getElem?_toArray, netCells_hi v _ _ h.tl 2]; rfl
theorem NetM.lt (h : NetM w B gN X ps way Z v) : gN < w.heap.size := h.top.lt
/-- A server's number. -/
theorem NetM.srvAt (h : NetM w B gN X ps way Z v) {i : Nat} {p : Nat × Sv} (hi : ps[i]? = some p) : ∃ g, v.Al = some ⟨g, 0, none⟩ ∧ w.cell? ⟨g, i, none⟩ = some (.pointer (some ⟨p.1, 0, none⟩)) := by
  have hlt := (List.getElem?_eq_some_iff.1 hi).1
  obtain ⟨g, cap, hv, _, _⟩ := h.l.form (by omega)
  have hA : v.Al = some ⟨g, 0, none⟩ := by injection hv
  refine ⟨g, hA, ?_⟩
  have h5 := h.l.cells (g := g) (by rw [hA]; rfl) (i * 1 + 0) (.pointer (some ⟨p.1, 0, none⟩)) (rowOf_get (k := 1) (fun _ => rfl) ps i p 0 _ hi rfl)
  rw [addr_add, Nat.zero_add, Nat.mul_one, Nat.add_zero] at h5
  exact h5
/-- A message on its way. -/
theorem NetM.wayAt (h : NetM w B gN X ps way Z v) {i : Nat} {x : Mx} (hi : way[i]? = some x) : ∃ g off, v.Aw = some ⟨g, off, none⟩ ∧ ∀ j u, (xcell x)[j]? = some u → w.cell? ⟨g, off + i * 9 + j, none⟩ = some u := by
  have hlt := (List.getElem?_eq_some_iff.1 hi).1
  obtain ⟨g, off, c, cur, h1, _⟩ := h.wy.form (by omega)
  injection h1 with e1 e2 e3
  have hw := h.wy
  rw [e1] at hw
  refine ⟨g, off, e1, fun j u hj => ?_⟩
  have h5 := hw.cell (rowOf_get xcell_len way i x j u hi hj)
  rw [← Nat.add_assoc] at h5
  exact h5
theorem NetM.sureAt (h : NetM w B gN X ps way Z v) {i : Nat} {y : Ent × Int} (hi : Z.sure[i]? = some y) : ∃ g, v.As = some ⟨g, 0, none⟩ ∧ ∀ j u, (scell y)[j]? = some u → w.cell? ⟨g, i * 3 + j, none⟩ = some u := by
  have hlt := (List.getElem?_eq_some_iff.1 hi).1
  obtain ⟨g, cap, hv, _, _⟩ := h.sure.form (by omega)
  have hA : v.As = some ⟨g, 0, none⟩ := by injection hv
  refine ⟨g, hA, fun j u hj => ?_⟩
  have h5 := h.sure.cells (g := g) (by rw [hA]; rfl) (i * 3 + j) u (rowOf_get scell_len Z.sure i y j u hi hj)
  rw [addr_add, Nat.zero_add] at h5
  exact h5
theorem NetM.ldAt (h : NetM w B gN X ps way Z v) {i : Nat} {t : Int} (hi : Z.leads[i]? = some t) : ∃ g, v.Ad = some ⟨g, 0, none⟩ ∧ w.cell? ⟨g, i, none⟩ = some (.int .i64 t) := by
  have hlt := (List.getElem?_eq_some_iff.1 hi).1
  obtain ⟨g, cap, hv, _, _⟩ := h.ld.form (by omega)
  have hA : v.Ad = some ⟨g, 0, none⟩ := by injection hv
  refine ⟨g, hA, ?_⟩
  have h5 := h.ld.cells (g := g) (by rw [hA]; rfl) (i * 1 + 0) (.int .i64 t) (rowOf_get (k := 1) (fun _ => rfl) Z.leads i t 0 _ hi rfl)
  rw [addr_add, Nat.zero_add, Nat.mul_one, Nat.add_zero] at h5
  exact h5
theorem NetM.whAt (h : NetM w B gN X ps way Z v) {i : Nat} {c : Nat} (hi : Z.whose[i]? = some c) : ∃ g, v.Ah = some ⟨g, 0, none⟩ ∧ w.cell? ⟨g, i, none⟩ = some (.int .i64 (c : Nat)) := by
  have hlt := (List.getElem?_eq_some_iff.1 hi).1
  obtain ⟨g, cap, hv, _, _⟩ := h.wh.form (by omega)
  have hA : v.Ah = some ⟨g, 0, none⟩ := by injection hv
  refine ⟨g, hA, ?_⟩
  have h5 := h.wh.cells (g := g) (by rw [hA]; rfl) (i * 1 + 0) (.int .i64 (c : Nat)) (rowOf_get (k := 1) (fun _ => rfl) Z.whose i c 0 _ hi rfl)
  rw [addr_add, Nat.zero_add, Nat.mul_one, Nat.add_zero] at h5
  exact h5
theorem NetM.Bw (h : NetM w B gN X ps way Z v) : B ≤ w.heap.size := by have := h.Xw gN h.topX; omega
theorem NetM.Xw' (h : NetM w B gN X ps way Z v) : ∀ b, (X b ∨ b < B) → b < w.heap.size := fun b hb => hb.elim (fun hx => (h.Xw b hx).2) (fun hx => Nat.lt_of_lt_of_le hx h.Bw)
/-- Nothing of the net is touched, nor its servers. -/
theorem NetM.below (h : NetM w B gN X ps way Z v) (hb : Below w.heap.size w w') : NetM w' B gN X ps way Z v :=
  ⟨h.tl, fun b hx => ⟨(h.Xw b hx).1, Nat.lt_of_lt_of_le (h.Xw b hx).2 hb.size⟩, h.top.below hb h.top.lt, h.topX, own_below h.l hb, h.lX, h.wy.below hb, fun x hx => ⟨own_below (h.ent x hx).1 hb, (h.ent x hx).2⟩, own_below h.sure hb, h.sureX, own_below h.ld hb, h.ldX, own_below h.wh hb, h.whX, h.srv.below hb⟩
theorem NetM.drewN (h : NetM w B gN X ps way Z v) (k : Nat) : NetM (w.drewN k) B gN X ps way Z v := h.below (below_drewN (Below.refl _ _) k)
theorem prow_same {ps ps' : List (Nat × Sv)} (hp : ps'.map (·.1) = ps.map (·.1)) : ps'.length = ps.length ∧ rowOf pcell' ps' = rowOf pcell' ps := by
  refine ⟨by have := congrArg List.length hp; simpa using this, ?_⟩
  have key : ∀ (l m : List (Nat × Sv)), l.map (·.1) = m.map (·.1) → rowOf pcell' l = rowOf pcell' m := by
    intro l
    induction l with
    | nil => intro m h; cases m with | nil => rfl | cons y m => simp at h
    | cons x l ih => intro m h; cases m with
      | nil => simp at h
      | cons y m =>
        have h1 : x.1 = y.1 ∧ l.map (·.1) = m.map (·.1) := by simpa using h
        rw [rowOf_cons, rowOf_cons, ih m h1.2]
        unfold pcell'
        rw [h1.1]
  exact key _ _ hp
/-- The servers have done something; blocks are laid. -/
theorem NetM.srvs (h : NetM w B gN X ps way Z v) (hc : Chg (fun b => ¬ (X b ∨ b < B)) w w') {B1 : Nat} (hB1 : w.heap.size ≤ B1) {ps' : List (Nat × Sv)} (hs : Srvs w' (fun b => (X b ∨ b < B) ∨ (B1 ≤ b ∧ b < w'.heap.size)) ps') (hp : ps'.map (·.1) = ps.map (·.1)) :
    NetM w' B gN (fun b => X b ∨ (B1 ≤ b ∧ b < w'.heap.size)) ps' way Z v := by
  obtain ⟨hl, hr⟩ := prow_same hp
  have hX : ∀ {b}, X b → ¬ ¬ (X b ∨ b < B) := fun hx hn => hn (.inl hx)
  have hBw := h.Bw
  refine ⟨h.tl, fun b hb => ?_, ?_, .inl h.topX, ?_, ?_, (h.wy.chg hc (fun b cur hb _ => hX hb)).mono (fun b hb => .inl hb), fun x hx => ⟨own_chg (h.ent x hx).1 hc (fun g hg => hX ((h.ent x hx).2 g hg)), fun g hg => .inl ((h.ent x hx).2 g hg)⟩, own_chg h.sure hc (fun g hg => hX (h.sureX g hg)), fun g hg => .inl (h.sureX g hg), own_chg h.ld hc (fun g hg => hX (h.ldX g hg)), fun g hg => .inl (h.ldX g hg), own_chg h.wh hc (fun g hg => hX (h.whX g hg)), fun g hg => .inl (h.whX g hg), hs.less (fun b hb => .inl ?_)⟩
  · rcases hb with hb | hb
    · exact ⟨(h.Xw b hb).1, Nat.lt_of_lt_of_le (h.Xw b hb).2 hc.size⟩
    · exact ⟨by omega, hb.2⟩
  · rw [hl]; exact h.top.chg hc (hX h.topX)
  · rw [hl, hr]; exact own_chg h.l hc (fun g hg => hX (h.lX g hg))
  · rw [hl]; exact fun g hg => .inl (h.lX g hg)
  · rcases hb with (hb | hb) | hb
    · exact .inl (.inl hb)
    · exact .inr hb
    · exact .inl (.inr hb)
/-- What a server's step leaves. -/
def DidB (w : World) (X : Nat → Prop) (l : List (Nat × Sv)) (i g : Nat) (S' : Sv) (ms : List Mg) (e : Ending) (w' : World) : Prop :=
  ∃ D d B1, e = .returned (.slice D ms.length d) ∧ w.heap.size ≤ B1 ∧ Srvs w' (fun b => X b ∨ (B1 ≤ b ∧ b < w'.heap.size)) (l.set i (g, S')) ∧ MsX w' (fun b => B1 ≤ b ∧ b < w'.heap.size) D ms.length d ms ∧ Chg (fun b => ¬ X b) w w'
theorem Srvs.outsB {w : World} {X : Nat → Prop} {l : List (Nat × Sv)} (h : Srvs w X l) (hXw : ∀ b, X b → b < w.heap.size) {i g : Nat} {S : Sv} (hi : l[i]? = some (g, S)) (f : FuncId) (args : Array Value) (S' : Sv) (ms : List Mg)
    (hc : ∀ A c, SvM w g S A c → Calls Try.prog f args w (OutS w g A S' ms)) : Calls Try.prog f args w (DidB w X l i g S' ms) := by
  obtain ⟨A, c, hm, hst⟩ := h.step hXw hi
  refine (hc A c hm).mono ?_
  rintro e w' ⟨A', c', B, D, d, hm', hch, htr, hB, hAB, rfl, hms⟩
  obtain ⟨h1, h2⟩ := hst S' A' c' w' (fun b => X b ∨ (B ≤ b ∧ b < w'.heap.size)) hm' hch htr (fun b hb => hb.imp id (fun h => ⟨Nat.le_trans hB h.1, fun a ha => Nat.lt_of_lt_of_le (hAB a ha) h.1⟩))
  exact ⟨D, d, B, rfl, hB, h1, hms.toX (fun b h3 h4 => ⟨h3, h4⟩), h2⟩
theorem set_fst {ps : List (Nat × Sv)} {i g : Nat} {S S' : Sv} (hi : ps[i]? = some (g, S)) : (ps.set i (g, S')).map (·.1) = ps.map (·.1) := by
  apply List.ext_getElem?
  intro j
  rw [List.getElem?_map, List.getElem?_map, List.getElem?_set]
  by_cases e : i = j
  · subst e
    rw [if_pos rfl, hi, if_pos (List.getElem?_eq_some_iff.1 hi).1]; rfl
  · rw [if_neg e]
/-- The messages on their way are others. -/
theorem NetM.newWay (h : NetM w B gN X ps way Z v) {w1 : World} {X1 : Nat → Prop} {A' : Option Addr} {c' : Nat} {way' : List Mx} (hc : Chg (fun b => X b ∧ ∃ cur, Blk w b 34 cur) w w1) (hX : ∀ b, X b → X1 b) (hX1 : ∀ b, X1 b → X b ∨ (w.heap.size ≤ b ∧ b < w1.heap.size))
    (hr : RowZ w1 X1 34 9 (.slice A' way'.length c') way'.length (rowOf xcell way')) (he : ∀ x ∈ way', w1.ownsRow 0 39 2 (.slice x.2.1 x.1.ents.length x.2.2) x.1.ents.length (rowOf ecell x.1.ents) ∧ ∀ g, (Value.slice x.2.1 x.1.ents.length x.2.2).ownBlock = some g → X1 g) :
    NetM (w1.setCell ⟨gN, 1, none⟩ (.slice A' way'.length c')) B gN X1 ps way' Z { v with Aw := A', cw := c' } ∧ Chg X w (w1.setCell ⟨gN, 1, none⟩ (.slice A' way'.length c')) := by
  have hc2 : Chg (fun b => b = gN) w1 (w1.setCell ⟨gN, 1, none⟩ (.slice A' way'.length c')) := Chg.setCell (T := fun b => b = gN) (Chg.refl _ _) (p := ⟨gN, 1, none⟩) rfl _
  have hca : Chg X w (w1.setCell ⟨gN, 1, none⟩ (.slice A' way'.length c')) := (hc.mono (fun b hb => hb.1)).trans (hc2.mono (fun b hb => by rw [hb]; exact h.topX))
  have htop : Blk w1 gN 54 (netCells v ps.length way.length Z).toArray := h.top.chg hc (fun ⟨_, cur, hb⟩ => h.top.ne_ hb (by decide) rfl)
  have key : ∀ {e : TypeId} {size n : Nat} {u : Value} {xs : List Value}, w.ownsRow 0 e size u n xs → e ≠ 34 → e ≠ 54 → (w1.setCell ⟨gN, 1, none⟩ (.slice A' way'.length c')).ownsRow 0 e size u n xs := fun {e size n u xs} ho h1 h2 => by
    have ho1 := own_chg ho hc (fun g hg ⟨_, cur, hb⟩ => own_blk_ne ho hb h1 hg)
    exact own_chg ho1 hc2 (fun g hg hg2 => own_blk_ne ho1 htop h2 (hg.trans (congrArg some hg2)))
  have hsz := hca.size
  have hBw := h.Bw
  refine ⟨⟨h.tl, fun b hb => ?_, ?_, hX _ h.topX, key h.l (by decide) (by decide), fun g hg => hX g (h.lX g hg), hr.chg hc2 (fun b cur hb hk => fun hg => htop.ne_ hk (by decide) hg.symm), fun x hx => ⟨?_, (he x hx).2⟩, key h.sure (by decide) (by decide), fun g hg => hX g (h.sureX g hg), key h.ld (by decide) (by decide), fun g hg => hX g (h.ldX g hg), key h.wh (by decide) (by decide), fun g hg => hX g (h.whX g hg), ?_⟩, hca⟩
  · rcases hX1 b hb with h1 | h1
    · exact ⟨(h.Xw b h1).1, Nat.lt_of_lt_of_le (h.Xw b h1).2 hsz⟩
    · refine ⟨by omega, Nat.lt_of_lt_of_le h1.2 hc2.size⟩
  · have h1 := htop.set_ 1 (.slice A' way'.length c')
    rw [List.setIfInBounds_toArray] at h1
    exact h1
  · exact own_chg (he x hx).1 hc2 (fun g hg hg2 => own_blk_ne (he x hx).1 htop (by decide) (hg.trans (congrArg some hg2)))
  · refine h.srv.chg (hca.mono (fun b hb => .inl hb)) (fun b hb => ?_)
    rcases hb with hb | hb
    · rcases hX1 b hb with h1 | h1
      · exact .inl (.inl h1)
      · exact .inr h1.1
    · exact .inl (.inr hb)
end
end Go.Proofs.Ytjodglepaeomiaa
