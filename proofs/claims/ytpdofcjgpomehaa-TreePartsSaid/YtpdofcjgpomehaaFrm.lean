/- The table of forms: what it says, and how it lies in memory. The contract of forms. -/
import Derived.Maps.OwnSet
import Derived.Maps.OwnOps
import Derived.Test.YtpdofcjgpomehaaChecked
import Derived.Test.YtpdofcjgpomehaaKit
namespace Go.Proofs.Ytpdofcjgpomehaa
open Go.RowKit Go.Maps

/-- What a twig may be: the numbers of the functions for its text and its parts, and how many parts. -/
structure Form where
  txt : Nat
  least : Nat
  most : Nat
  prt : Nat
deriving DecidableEq
def formOf (op : Nat) : Option Form :=
  if op = 1 then some ⟨33, 1, 2048, 34⟩
  else if op = 2 then some ⟨33, 0, 0, 35⟩
  else if op = 3 then some ⟨36, 0, 2048, 37⟩
  else if op = 6 then some ⟨36, 2, 3, 38⟩
  else if op = 7 then some ⟨36, 2, 2, 38⟩
  else if op = 24 then some ⟨39, 0, 0, 35⟩
  else if op = 25 then some ⟨36, 0, 2048, 40⟩
  else if op = 53 then some ⟨36, 1, 1, 41⟩
  else if op = 23 then some ⟨36, 0, 0, 35⟩
  else if op = 4 ∨ op = 5 then some ⟨33, 1, 1, 40⟩
  else if op = 20 ∨ op = 21 ∨ op = 22 ∨ op = 57 then some ⟨36, 0, 0, 35⟩
  else if op = 26 ∨ op = 56 then some ⟨33, 0, 0, 35⟩
  else if op = 50 ∨ op = 51 then some ⟨33, 0, 2048, 40⟩
  else if op = 8 ∨ op = 9 ∨ op = 10 ∨ op = 11 ∨ op = 43 ∨ op = 44 ∨ op = 45 ∨ op = 46 ∨ op = 47 ∨ op = 48 ∨ op = 52 ∨ op = 54 ∨ op = 55 then some ⟨36, 1, 1, 40⟩
  else if 30 ≤ op ∧ op ≤ 42 then some ⟨36, 2, 2, 40⟩
  else none
abbrev fv (n : Nat) : Value := .func (.func n) #[] #[]
abbrev formV (f : Form) : Value := .agg #[fv f.txt, .int .i64 (f.least : Nat), .int .i64 (f.most : Nat), fv f.prt]
def formC (f : Form) : Int := ((f.txt * 10000 + f.least) * 10000 + f.most) * 10000 + f.prt
def formD (f : Form) : DataW Unit := .agg [.lit (.int .i64 (f.txt : Nat)), .lit (.int .i64 (f.least : Nat)), .lit (.int .i64 (f.most : Nat)), .lit (.int .i64 (f.prt : Nat))]
theorem formD_inj {f g : Form} (h : formD f = formD g) : f = g := by
  obtain ⟨a, b, c, d⟩ := f
  obtain ⟨a', b', c', d'⟩ := g
  simp [formD] at h
  obtain ⟨h1, h2, h3, h4⟩ := h
  have e1 : a = a' := by omega
  have e2 : b = b' := by omega
  have e3 : c = c' := by omega
  have e4 : d = d' := by omega
  rw [e1, e2, e3, e4]
open Classical in
noncomputable def formElem (v : Value) : Option (DataW Unit × List MemPlace) :=
  if h : ∃ f, v = formV f then some (formD (Classical.choose h), []) else if v = .agg #[.nilFunc, .int .i64 0, .int .i64 0, .nilFunc] then some (.nil, []) else none
theorem formV_inj {f g : Form} (h : formV f = formV g) : f = g := by
  obtain ⟨a, b, c, d⟩ := f
  obtain ⟨a', b', c', d'⟩ := g
  simp [formV, fv] at h
  obtain ⟨h1, h2, h3, h4⟩ := h
  have e1 : a = a' := by omega
  have e2 : b = b' := by omega
  have e3 : c = c' := by omega
  have e4 : d = d' := by omega
  rw [e1, e2, e3, e4]
theorem formElem_mk (f : Form) : formElem (formV f) = some (formD f, []) := by
  have h : ∃ g, formV f = formV g := ⟨f, rfl⟩
  unfold formElem
  rw [dif_pos h, ← formV_inj (Classical.choose_spec h)]
theorem zeroF_ne (f : Form) : Value.agg #[.nilFunc, .int .i64 0, .int .i64 0, .nilFunc] ≠ formV f := by
  intro h
  simp [formV, fv] at h
theorem formElem_zero : formElem (.agg #[.nilFunc, .int .i64 0, .int .i64 0, .nilFunc]) = some (.nil, []) := by
  unfold formElem
  rw [dif_neg (fun ⟨f, h⟩ => zeroF_ne f h), if_pos rfl]
theorem formElem_inv {v : Value} {f : Form} {ps : List MemPlace} (h : formElem v = some (formD f, ps)) : v = formV f := by
  unfold formElem at h
  split at h
  · rename_i hx
    have h2 : formD (Classical.choose hx) = formD f := by injection h with h; exact (Prod.mk.inj h).1
    have h3 := Classical.choose_spec hx
    rw [formD_inj h2] at h3
    exact h3
  · split at h
    · injection h with h
      have := (Prod.mk.inj h).1
      cases this
    · cases h
theorem zero51 (w : World) : (zeroValue 51).run Try.prog w = .ok (.agg #[.nilFunc, .int .i64 0, .int .i64 0, .nilFunc]) w := by kernel_rfl
theorem law5 : Keyed Try.prog 5 := int_keyed Try.underlying5
def kd (op : Nat) : Lit := .int .u8 (op : Nat)
theorem kd_inj {a b : Nat} (h : kd a = kd b) : a = b := by
  unfold kd at h
  injection h with _ h
  omega
theorem key5 {op : Nat} (h : op < 256) : keyOf Try.prog 5 (.int .u8 (op : Nat)) = some (kd op) := Maps.keyOf_int_mk Try.underlying5 (WalkArith.wf_u8 (by omega))
def fd : Option Form → DataW Unit
  | some f => formD f
  | none => .nil
/-- A map in memory, from Ops to forms. -/
def MapF (w : World) (gm m : Nat) (f : Nat → Option Form) : Prop :=
  ∃ D : DataW Unit, w.ownsMap Try.prog 5 formElem gm m D ∧ ∀ op, op < 256 → Maps.has D (kd op) = (f op).isSome ∧ D.atKey (kd op) .nil = fd (f op)
def fput (f : Nat → Option Form) (op : Nat) (x : Form) : Nat → Option Form := fun o => if o = op then some x else f o
section
variable {w w' : World} {gm m : Nat} {f : Nat → Option Form}
theorem MapF.lt (h : MapF w gm m f) : gm < w.heap.size := by
  obtain ⟨D, h, _⟩ := h
  exact h.lt
theorem MapF.below (h : MapF w gm m f) (hb : Below w.heap.size w w') : MapF w' gm m f := by
  have hlt := h.lt
  obtain ⟨D, ⟨es, clock, hb2, r⟩, h2⟩ := h
  exact ⟨D, ⟨es, clock, (hb.block gm hlt).trans hb2, r⟩, h2⟩
theorem MapF.new (w : World) : MapF (w.alloc (.map #[] 0)) w.heap.size 0 (fun _ => none) := ⟨.map [], World.ownsMap_made w _ _ _, fun op _ => ⟨by simp [Maps.has], by simp [DataW.atKey, fd]⟩⟩
theorem MapF.put {D : DataW Unit} {op : Nat} {x : Form} (hop : op < 256) (ho : w'.ownsMap Try.prog 5 formElem gm (m + 1) (D.put (kd op) (formD x)))
    (h : w.ownsMap Try.prog 5 formElem gm m D) (hf : ∀ op, op < 256 → Maps.has D (kd op) = (f op).isSome ∧ D.atKey (kd op) .nil = fd (f op)) : MapF w' gm (m + 1) (fput f op x) := by
  have ht := h.tidy law5
  have hk : WideAt.IsKeyLit (kd op) := law5.key (key5 hop)
  refine ⟨_, ho, fun t ht2 => ?_⟩
  unfold fput
  by_cases he : t = op
  · subst he
    rw [if_pos rfl]
    exact ⟨Maps.has_put_same ht.isMap hk _, Maps.atKey_put_same ht.isMap hk _ _⟩
  · rw [if_neg he]
    have hne : kd t ≠ kd op := fun h => he (kd_inj h)
    exact ⟨(Maps.has_put_other hne _).trans (hf t ht2).1, (Maps.atKey_put_other hne _ _).trans (hf t ht2).2⟩
end
theorem wpList_insert_form {ops : Array Oper} {rest : List Oper} {o : Oper} {a : Act} {Q : Exit → Act → World → Prop} (w : World)
    (hg : o.guard = none) (mm x v : Operand) (hop : o.op = Op.insert 45 mm x v ∨ o.op = Op.mapUpdate 45 mm x v) (gm m op : Nat) (f : Nat → Option Form) (fo : Form)
    (hm : a.eval mm = .map (some gm)) (hx : a.eval x = .int .u8 (op : Nat)) (hv : a.eval v = formV fo) (hlt : op < 256) (hmap : MapF w gm m f) (hn : m < 1000)
    (hK : ∀ w', MapF w' gm (m + 1) (fput f op fo) → w.grownBy w' (some gm) → wpList Try.prog ops Q rest (a.put o.dst undef) w') :
    wpList Try.prog ops Q (o :: rest) a w := by
  refine wpList_plain hg fun K' hK' => ?_
  obtain ⟨D, hown, hf⟩ := hmap
  obtain ⟨w', hrun, r1, r2⟩ := hown.update law5 Try.underlying45 (by unfold maxLen; omega) (key5 hlt) (formElem_mk fo)
  have r3 := MapF.put hlt r1 hown hf
  unfold Oper.wp
  rcases hop with hop | hop
  · simp [execOp, hop, hm, hx, hv, hrun, Result.andThen]
    exact hK' _ _ (hK w' r3 r2)
  · simp [execOp, hop, hm, hx, hv, hrun, Result.andThen]
    exact hK' _ _ (hK w' r3 r2)
theorem wpList_lookup_form {ops : Array Oper} {rest : List Oper} {o : Oper} {a : Act} {Q : Exit → Act → World → Prop} (w : World)
    (hg : o.guard = none) (mm x : Operand) (hop : o.op = Op.lookup 45 mm x true) (gm m op : Nat) (f : Nat → Option Form)
    (hm : a.eval mm = .map (some gm)) (hx : a.eval x = .int .u8 (op : Nat)) (hlt : op < 256) (hmap : MapF w gm m f)
    (hK : ∀ v, (∀ fo, f op = some fo → v = formV fo) → (f op = none → v = .agg #[.nilFunc, .int .i64 0, .int .i64 0, .nilFunc]) → wpList Try.prog ops Q rest (a.put o.dst (.tuple #[v, .bool (f op).isSome])) w) :
    wpList Try.prog ops Q (o :: rest) a w := by
  obtain ⟨D, hown, hf⟩ := hmap
  refine wpList_lookup_own_ok w hg mm x 45 hop 5 51 law5 Try.underlying45 formElem (zero51 w) .nil [] formElem_zero gm m D hm hown _ (kd op) hx (key5 hlt) ?_
  intro v ps hv
  rw [(hf op hlt).1]
  refine hK v (fun fo hfo => ?_) (fun hno => ?_)
  · rw [(hf op hlt).2, hfo] at hv
    exact formElem_inv hv
  · rw [(hf op hlt).2, hno] at hv
    unfold formElem at hv
    split at hv
    · injection hv with hv
      have := (Prod.mk.inj hv).1
      cases this
    · split at hv
      · assumption
      · cases hv
theorem wpList_lookup_some {ops : Array Oper} {rest : List Oper} {o : Oper} {a : Act} {Q : Exit → Act → World → Prop} (w : World)
    (hg : o.guard = none) (mm x : Operand) (hop : o.op = Op.lookup 45 mm x true) (gm m op : Nat) (f : Nat → Option Form) (fo : Form)
    (hm : a.eval mm = .map (some gm)) (hx : a.eval x = .int .u8 (op : Nat)) (hlt : op < 256) (hmap : MapF w gm m f) (hfo : f op = some fo)
    (hK : wpList Try.prog ops Q rest (a.put o.dst (.tuple #[formV fo, .bool true])) w) : wpList Try.prog ops Q (o :: rest) a w := by
  refine wpList_lookup_form w hg mm x hop gm m op f hm hx hlt hmap ?_
  intro v h1 h2
  rw [h1 fo hfo, hfo]
  exact hK
theorem wpList_lookup_none {ops : Array Oper} {rest : List Oper} {o : Oper} {a : Act} {Q : Exit → Act → World → Prop} (w : World)
    (hg : o.guard = none) (mm x : Operand) (hop : o.op = Op.lookup 45 mm x true) (gm m op : Nat) (f : Nat → Option Form)
    (hm : a.eval mm = .map (some gm)) (hx : a.eval x = .int .u8 (op : Nat)) (hlt : op < 256) (hmap : MapF w gm m f) (hfo : f op = none)
    (hK : wpList Try.prog ops Q rest (a.put o.dst (.tuple #[.agg #[.nilFunc, .int .i64 0, .int .i64 0, .nilFunc], .bool false])) w) : wpList Try.prog ops Q (o :: rest) a w := by
  refine wpList_lookup_form w hg mm x hop gm m op f hm hx hlt hmap ?_
  intro v h1 h2
  rw [h2 hfo, hfo]
  exact hK
def listed (op : Nat) : Prop := op = 1 ∨ op = 2 ∨ op = 3 ∨ op = 6 ∨ op = 7 ∨ op = 24 ∨ op = 25 ∨ op = 53 ∨ op = 23
instance (op : Nat) : Decidable (listed op) := by unfold listed; infer_instance
def ftab (k op : Nat) : Option Form := if op < k ∨ listed op then formOf op else none
theorem ftab_put {k : Nat} {x : Form} (h : formOf k = some x) : fput (ftab k) k x = ftab (k + 1) := by
  funext op
  unfold fput ftab
  by_cases he : op = k
  · subst he
    rw [if_pos rfl, if_pos (.inl (by omega)), h]
  · rw [if_neg he]
    by_cases h1 : op < k ∨ listed op
    · rw [if_pos h1, if_pos (h1.imp (fun h => by omega) id)]
    · rw [if_neg h1, if_neg (fun h2 => h1 (h2.imp (fun h => by omega) id))]
theorem ftab_skip {k : Nat} (h : listed k ∨ formOf k = none) : ftab (k + 1) = ftab k := by
  funext op
  unfold ftab
  by_cases he : op = k
  · subst he
    rw [if_pos (.inl (by omega))]
    rcases h with h | h
    · rw [if_pos (.inr h)]
    · rw [h]; split <;> rfl
  · by_cases h1 : op < k ∨ listed op
    · rw [if_pos h1, if_pos (h1.imp (fun h => by omega) id)]
    · rw [if_neg h1, if_neg (fun h2 => h1 (h2.imp (fun h => by omega) id))]
theorem ftab_all (op : Nat) : ftab 58 op = formOf op := by
  unfold ftab
  by_cases h : op < 58 ∨ listed op
  · rw [if_pos h]
  · rw [if_neg h]
    have h1 : ¬ op < 58 := fun e => h (.inl e)
    unfold formOf
    simp (disch := omega) only [if_neg]
theorem ftab_one : fput (fput (fput (fput (fput (fput (fput (fput (fput (fun _ => none) 1 ⟨33, 1, 2048, 34⟩) 2 ⟨33, 0, 0, 35⟩) 3 ⟨36, 0, 2048, 37⟩) 6 ⟨36, 2, 3, 38⟩) 7 ⟨36, 2, 2, 38⟩) 24 ⟨39, 0, 0, 35⟩) 25 ⟨36, 0, 2048, 40⟩) 53 ⟨36, 1, 1, 41⟩) 23 ⟨36, 0, 0, 35⟩ = ftab 1 := by
  funext op
  by_cases h0 : op = 0
  · subst h0; rfl
  by_cases h1 : op = 1
  · subst h1; rfl
  by_cases h2 : op = 2
  · subst h2; rfl
  by_cases h3 : op = 3
  · subst h3; rfl
  by_cases h4 : op = 6
  · subst h4; rfl
  by_cases h5 : op = 7
  · subst h5; rfl
  by_cases h6 : op = 24
  · subst h6; rfl
  by_cases h7 : op = 25
  · subst h7; rfl
  by_cases h8 : op = 53
  · subst h8; rfl
  by_cases h9 : op = 23
  · subst h9; rfl
  unfold ftab
  rw [if_neg (by unfold listed; omega)]
  simp only [fput, if_neg h1, if_neg h2, if_neg h3, if_neg h4, if_neg h5, if_neg h6, if_neg h7, if_neg h8, if_neg h9]
theorem ftab_none {k : Nat} (h : ¬ listed k) : ftab k k = none := by
  unfold ftab
  rw [if_neg (fun h2 => h2.elim (fun h => by omega) h)]
theorem formOf_mid {k : Nat} (h1 : 30 ≤ k) (h2 : k ≤ 42) : formOf k = some ⟨36, 2, 2, 40⟩ := by
  have : ∀ k, k < 43 → 30 ≤ k → formOf k = some ⟨36, 2, 2, 40⟩ := by decide
  exact this k (by omega) h1
theorem formOf_no {k : Nat} (hli : ¬ listed k) (hk : k ≤ 57) (h2 : k < 30 ∨ 42 < k) (h3 : ¬ (k = 4 ∨ k = 5 ∨ k = 20 ∨ k = 21 ∨ k = 22 ∨ k = 57 ∨ k = 26 ∨ k = 56 ∨ k = 50 ∨ k = 51 ∨ k = 8 ∨ k = 9 ∨ k = 10 ∨ k = 11 ∨ k = 43 ∨ k = 44 ∨ k = 45 ∨ k = 46 ∨ k = 47 ∨ k = 48 ∨ k = 52 ∨ k = 54 ∨ k = 55)) : formOf k = none := by
  have h : ∀ k, k < 58 → ((formOf k = none ∨ k ∈ [1, 2, 3, 6, 7, 24, 25, 53, 23]) ∨ k ∈ [4, 5, 20, 21, 22, 57, 26, 56, 50, 51, 8, 9, 10, 11, 43, 44, 45, 46, 47, 48, 52, 54, 55]) ∨ (30 ≤ k ∧ k ≤ 42) := by decide
  unfold listed at hli
  rcases h k (by omega) with ((h | h) | h) | h
  · exact h
  · simp only [List.mem_cons, List.not_mem_nil, or_false] at h
    exact absurd h hli
  · simp only [List.mem_cons, List.not_mem_nil, or_false] at h
    exact absurd h h3
  · omega
theorem formOf_big {op : Nat} (h : 58 ≤ op) : formOf op = none := by
  unfold formOf
  simp (disch := omega) only [if_neg]
theorem forms_ok {op : Nat} {f : Form} (h : formOf op = some f) : op ≤ 57 ∧ (f.txt = 33 ∨ f.txt = 36 ∨ f.txt = 39) ∧ (f.prt = 34 ∨ f.prt = 35 ∨ f.prt = 37 ∨ f.prt = 38 ∨ f.prt = 40 ∨ f.prt = 41) ∧ f.most ≤ 2048 := by
  have key : ∀ op, op < 58 → (formOf op).all (fun f => (decide (f.txt = 33) || decide (f.txt = 36) || decide (f.txt = 39)) && (decide (f.prt = 34) || decide (f.prt = 35) || decide (f.prt = 37) || decide (f.prt = 38) || decide (f.prt = 40) || decide (f.prt = 41)) && decide (f.most ≤ 2048)) = true := by decide
  by_cases hop : op < 58
  · have h2 := key op hop
    rw [h] at h2
    simp [Option.all] at h2
    omega
  · rw [formOf_big (by omega)] at h; cases h
end Go.Proofs.Ytpdofcjgpomehaa
