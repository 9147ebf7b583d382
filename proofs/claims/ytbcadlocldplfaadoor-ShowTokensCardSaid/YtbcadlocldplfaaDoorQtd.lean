/- The table of forms: what it says, and how it lies in memory. The contract of forms. And what follows from it. -/
import Derived.Maps.OwnSet
import Derived.Maps.OwnOps
import Derived.Test.YtbcadlocldplfaaDoorChecked
import Derived.Outline
import Derived.Laws.EntriesVeiled
import Derived.Test.YtbcadlocldplfaaDoorQta
import Derived.Test.YtbcadlocldplfaaDoorQt0
set_option maxHeartbeats 16000000
set_option linter.unusedSimpArgs false
set_option linter.unusedVariables false
namespace Go.Proofs.YtbcadlocldplfaaDoor.T8
open Go.Proofs.Tryd
set_option maxRecDepth 100000
open Go.RowKit Go.Maps
structure Form where
 txt : Nat
 least : Nat
 most : Nat
 prt : Nat
deriving DecidableEq
def formOf (op : Nat) : Option Form :=
 if op = 1 then some ⟨78, 1, 2048, 79⟩
 else if op = 2 then some ⟨78, 0, 0, 80⟩
 else if op = 3 then some ⟨81, 0, 2048, 82⟩
 else if op = 6 then some ⟨81, 2, 3, 83⟩
 else if op = 7 then some ⟨81, 2, 2, 83⟩
 else if op = 24 then some ⟨84, 0, 0, 80⟩
 else if op = 25 then some ⟨81, 0, 2048, 85⟩
 else if op = 53 then some ⟨81, 1, 1, 86⟩
 else if op = 23 then some ⟨81, 0, 0, 80⟩
 else if op = 4 ∨ op = 5 then some ⟨78, 1, 1, 85⟩
 else if op = 20 ∨ op = 21 ∨ op = 22 ∨ op = 57 then some ⟨81, 0, 0, 80⟩
 else if op = 26 ∨ op = 56 then some ⟨78, 0, 0, 80⟩
 else if op = 50 ∨ op = 51 then some ⟨78, 0, 2048, 85⟩
 else if op = 8 ∨ op = 9 ∨ op = 10 ∨ op = 11 ∨ op = 43 ∨ op = 44 ∨ op = 45 ∨ op = 46 ∨ op = 47 ∨ op = 48 ∨ op = 52 ∨ op = 54 ∨ op = 55 then some ⟨81, 1, 1, 85⟩
 else if 30 <= op ∧ op <= 42 then some ⟨81, 2, 2, 85⟩
 else none
abbrev fv (n : Nat) : Value := .func (.func n) #[] #[]
abbrev formV (f : Form) : Value := .agg #[fv f.txt, .int .i64 (f.least : Nat), .int .i64 (f.most : Nat), fv f.prt]
def formD (f : Form) : DataW Unit := .agg [.lit (.int .i64 (f.txt : Nat)), .lit (.int .i64 (f.least : Nat)), .lit (.int .i64 (f.most : Nat)), .lit (.int .i64 (f.prt : Nat))]
theorem formD_inj {f g : Form} (h : formD f = formD g) : f = g := by
 obtain ⟨a, b, c, d⟩ := f
 obtain ⟨a', b', c', d'⟩ := g
 simp [formD] at h
 obtain ⟨h1, h2, h3, h4⟩ := h
 have e1 : a = a' := by omega
 have e2 : b = b' := by omega
 have e3 : c = c' := by omega
 have e4 : d = d' := by omega
 rw [e1, e2, e3, e4]
open Classical in
noncomputable def formElem (v : Value) : Option (DataW Unit × List MemPlace) :=
 if h : ∃ f, v = formV f then some (formD (Classical.choose h), []) else if v = .agg #[.nilFunc, .int .i64 0, .int .i64 0, .nilFunc] then some (.nil, []) else none
theorem formV_inj {f g : Form} (h : formV f = formV g) : f = g := by
 obtain ⟨a, b, c, d⟩ := f
 obtain ⟨a', b', c', d'⟩ := g
 simp [formV, fv] at h
 obtain ⟨h1, h2, h3, h4⟩ := h
 have e1 : a = a' := by omega
 have e2 : b = b' := by omega
 have e3 : c = c' := by omega
 have e4 : d = d' := by omega
 rw [e1, e2, e3, e4]
theorem formElem_mk (f : Form) : formElem (formV f) = some (formD f, []) := by
 have h : ∃ g, formV f = formV g := ⟨f, rfl⟩
 unfold formElem
 rw [dif_pos h, <- formV_inj (Classical.choose_spec h)]
theorem zeroF_ne (f : Form) : Value.agg #[.nilFunc, .int .i64 0, .int .i64 0, .nilFunc] ≠ formV f := by
 intro h
 simp [formV, fv] at h
theorem formElem_zero : formElem (.agg #[.nilFunc, .int .i64 0, .int .i64 0, .nilFunc]) = some (.nil, []) := by
 unfold formElem
 rw [dif_neg (fun ⟨f, h⟩ => zeroF_ne f h), if_pos rfl]
theorem formElem_inv {v : Value} {f : Form} {ps : List MemPlace} (h : formElem v = some (formD f, ps)) : v = formV f := by
 unfold formElem at h
 split at h
 . rename_i hx
   have h2 : formD (Classical.choose hx) = formD f := by injection h with h; exact (Prod.mk.inj h).1
   have h3 := Classical.choose_spec hx
   rw [formD_inj h2] at h3
   exact h3
 . split at h
   . injection h with h
     have := (Prod.mk.inj h).1
     cases this
   . cases h
theorem zero51 (w : World) : (zeroValue 65).run prog w = .ok (.agg #[.nilFunc, .int .i64 0, .int .i64 0, .nilFunc]) w := by kernel_rfl
theorem law5 : Keyed prog 5 := int_keyed underlying5
def kd (op : Nat) : Lit := .int .u8 (op : Nat)
theorem kd_inj {a b : Nat} (h : kd a = kd b) : a = b := by
 unfold kd at h
 injection h with _ h
 omega
theorem key5 {op : Nat} (h : op < 256) : keyOf prog 5 (.int .u8 (op : Nat)) = some (kd op) := Maps.keyOf_int_mk underlying5 (WalkArith.wf_u8 (by omega))
def fd : Option Form -> DataW Unit
 | some f => formD f
 | none => .nil
def MapF (w : World) (gm m : Nat) (f : Nat -> Option Form) : Prop :=
 ∃ D : DataW Unit, w.ownsMap prog 5 formElem gm m D ∧ ∀ op, op < 256 -> Maps.has D (kd op) = (f op).isSome ∧ D.atKey (kd op) .nil = fd (f op)
def fput (f : Nat -> Option Form) (op : Nat) (x : Form) : Nat -> Option Form := fun o => if o = op then some x else f o
section
variable {w w' : World} {gm m : Nat} {f : Nat -> Option Form}
theorem MapF.lt (h : MapF w gm m f) : gm < w.heap.size := by
 obtain ⟨D, h, _⟩ := h
 exact h.lt
theorem MapF.below (h : MapF w gm m f) (hb : Below w.heap.size w w') : MapF w' gm m f := by
 have hlt := h.lt
 obtain ⟨D, ⟨es, clock, hb2, r⟩, h2⟩ := h
 exact ⟨D, ⟨es, clock, (hb.block gm hlt).trans hb2, r⟩, h2⟩
theorem MapF.new (w : World) : MapF (w.alloc (.map #[] 0)) w.heap.size 0 (fun _ => none) := ⟨.map [], World.ownsMap_made w _ _ _, fun op _ => ⟨by simp [Maps.has], by simp [DataW.atKey, fd]⟩⟩
theorem MapF.put {D : DataW Unit} {op : Nat} {x : Form} (hop : op < 256) (ho : w'.ownsMap prog 5 formElem gm (m + 1) (D.put (kd op) (formD x)))
 (h : w.ownsMap prog 5 formElem gm m D) (hf : ∀ op, op < 256 -> Maps.has D (kd op) = (f op).isSome ∧ D.atKey (kd op) .nil = fd (f op)) : MapF w' gm (m + 1) (fput f op x) := by
 have ht := h.tidy law5
 have hk : WideAt.IsKeyLit (kd op) := law5.key (key5 hop)
 refine ⟨_, ho, fun t ht2 => ?_⟩
 unfold fput
 by_cases he : t = op
 . subst he
   rw [if_pos rfl]
   exact ⟨Maps.has_put_same ht.isMap hk _, Maps.atKey_put_same ht.isMap hk _ _⟩
 . rw [if_neg he]
   have hne : kd t ≠ kd op := fun h => he (kd_inj h)
   exact ⟨(Maps.has_put_other hne _).trans (hf t ht2).1, (Maps.atKey_put_other hne _ _).trans (hf t ht2).2⟩
end
theorem wpList_insert_form {ops : Array Oper} {rest : List Oper} {o : Oper} {a : Act} {Q : Exit -> Act -> World -> Prop} (w : World)
 (hg : o.guard = none) (mm x v : Operand) (hop : o.op = Op.insert 60 mm x v ∨ o.op = Op.mapUpdate 60 mm x v) (gm m op : Nat) (f : Nat -> Option Form) (fo : Form)
 (hm : a.eval mm = .map (some gm)) (hx : a.eval x = .int .u8 (op : Nat)) (hv : a.eval v = formV fo) (hlt : op < 256) (hmap : MapF w gm m f) (hn : m < 1000)
 (hK : ∀ w', MapF w' gm (m + 1) (fput f op fo) -> w.grownBy w' (some gm) -> wpList prog ops Q rest (a.put o.dst undef) w') :
 wpList prog ops Q (o :: rest) a w := by
 refine wpList_plain hg fun K' hK' => ?_
 obtain ⟨D, hown, hf⟩ := hmap
 obtain ⟨w', hrun, r1, r2⟩ := hown.update law5 underlying60 (by unfold maxLen; omega) (key5 hlt) (formElem_mk fo)
 have r3 := MapF.put hlt r1 hown hf
 unfold Oper.wp
 rcases hop with hop | hop
 . simp [execOp, hop, hm, hx, hv, hrun, Result.andThen]
   exact hK' _ _ (hK w' r3 r2)
 . simp [execOp, hop, hm, hx, hv, hrun, Result.andThen]
   exact hK' _ _ (hK w' r3 r2)
theorem wpList_lookup_form {ops : Array Oper} {rest : List Oper} {o : Oper} {a : Act} {Q : Exit -> Act -> World -> Prop} (w : World)
 (hg : o.guard = none) (mm x : Operand) (hop : o.op = Op.lookup 60 mm x true) (gm m op : Nat) (f : Nat -> Option Form)
 (hm : a.eval mm = .map (some gm)) (hx : a.eval x = .int .u8 (op : Nat)) (hlt : op < 256) (hmap : MapF w gm m f)
 (hK : ∀ v, (∀ fo, f op = some fo -> v = formV fo) -> (f op = none -> v = .agg #[.nilFunc, .int .i64 0, .int .i64 0, .nilFunc]) -> wpList prog ops Q rest (a.put o.dst (.tuple #[v, .bool (f op).isSome])) w) :
 wpList prog ops Q (o :: rest) a w := by
 obtain ⟨D, hown, hf⟩ := hmap
 refine wpList_lookup_own_ok w hg mm x 60 hop 5 65 law5 underlying60 formElem (zero51 w) .nil [] formElem_zero gm m D hm hown _ (kd op) hx (key5 hlt) ?_
 intro v ps hv
 rw [(hf op hlt).1]
 refine hK v (fun fo hfo => ?_) (fun hno => ?_)
 . rw [(hf op hlt).2, hfo] at hv
   exact formElem_inv hv
 . rw [(hf op hlt).2, hno] at hv
   unfold formElem at hv
   split at hv
   . injection hv with hv
     have := (Prod.mk.inj hv).1
     cases this
   . split at hv
     . assumption
     . cases hv
theorem wpList_lookup_some {ops : Array Oper} {rest : List Oper} {o : Oper} {a : Act} {Q : Exit -> Act -> World -> Prop} (w : World)
 (hg : o.guard = none) (mm x : Operand) (hop : o.op = Op.lookup 60 mm x true) (gm m op : Nat) (f : Nat -> Option Form) (fo : Form)
 (hm : a.eval mm = .map (some gm)) (hx : a.eval x = .int .u8 (op : Nat)) (hlt : op < 256) (hmap : MapF w gm m f) (hfo : f op = some fo)
 (hK : wpList prog ops Q rest (a.put o.dst (.tuple #[formV fo, .bool true])) w) : wpList prog ops Q (o :: rest) a w := by
 refine wpList_lookup_form w hg mm x hop gm m op f hm hx hlt hmap ?_
 intro v h1 h2
 rw [h1 fo hfo, hfo]
 exact hK
theorem wpList_lookup_none {ops : Array Oper} {rest : List Oper} {o : Oper} {a : Act} {Q : Exit -> Act -> World -> Prop} (w : World)
 (hg : o.guard = none) (mm x : Operand) (hop : o.op = Op.lookup 60 mm x true) (gm m op : Nat) (f : Nat -> Option Form)
 (hm : a.eval mm = .map (some gm)) (hx : a.eval x = .int .u8 (op : Nat)) (hlt : op < 256) (hmap : MapF w gm m f) (hfo : f op = none)
 (hK : wpList prog ops Q rest (a.put o.dst (.tuple #[.agg #[.nilFunc, .int .i64 0, .int .i64 0, .nilFunc], .bool false])) w) : wpList prog ops Q (o :: rest) a w := by
 refine wpList_lookup_form w hg mm x hop gm m op f hm hx hlt hmap ?_
 intro v h1 h2
 rw [h2 hfo, hfo]
 exact hK
def listed (op : Nat) : Prop := op = 1 ∨ op = 2 ∨ op = 3 ∨ op = 6 ∨ op = 7 ∨ op = 24 ∨ op = 25 ∨ op = 53 ∨ op = 23
instance (op : Nat) : Decidable (listed op) := by unfold listed; infer_instance
def ftab (k op : Nat) : Option Form := if op < k ∨ listed op then formOf op else none
theorem ftab_put {k : Nat} {x : Form} (h : formOf k = some x) : fput (ftab k) k x = ftab (k + 1) := by
 funext op
 unfold fput ftab
 by_cases he : op = k
 . subst he
   rw [if_pos rfl, if_pos (.inl (by omega)), h]
 . rw [if_neg he]
   by_cases h1 : op < k ∨ listed op
   . rw [if_pos h1, if_pos (h1.imp (fun h => by omega) id)]
   . rw [if_neg h1, if_neg (fun h2 => h1 (h2.imp (fun h => by omega) id))]
theorem ftab_skip {k : Nat} (h : listed k ∨ formOf k = none) : ftab (k + 1) = ftab k := by
 funext op
 unfold ftab
 by_cases he : op = k
 . subst he
   rw [if_pos (.inl (by omega))]
   rcases h with h | h
   . rw [if_pos (.inr h)]
   . rw [h]; split <;> rfl
 . by_cases h1 : op < k ∨ listed op
   . rw [if_pos h1, if_pos (h1.imp (fun h => by omega) id)]
   . rw [if_neg h1, if_neg (fun h2 => h1 (h2.imp (fun h => by omega) id))]
theorem ftab_all (op : Nat) : ftab 58 op = formOf op := by
 unfold ftab
 by_cases h : op < 58 ∨ listed op
 . rw [if_pos h]
 . rw [if_neg h]
   have h1 : ¬ op < 58 := fun e => h (.inl e)
   unfold formOf
   simp (disch := omega) only [if_neg]
theorem ftab_one : fput (fput (fput (fput (fput (fput (fput (fput (fput (fun _ => none) 1 ⟨78, 1, 2048, 79⟩) 2 ⟨78, 0, 0, 80⟩) 3 ⟨81, 0, 2048, 82⟩) 6 ⟨81, 2, 3, 83⟩) 7 ⟨81, 2, 2, 83⟩) 24 ⟨84, 0, 0, 80⟩) 25 ⟨81, 0, 2048, 85⟩) 53 ⟨81, 1, 1, 86⟩) 23 ⟨81, 0, 0, 80⟩ = ftab 1 := by
 funext op
 by_cases h0 : op = 0
 . subst h0; rfl
 by_cases h1 : op = 1
 . subst h1; rfl
 by_cases h2 : op = 2
 . subst h2; rfl
 by_cases h3 : op = 3
 . subst h3; rfl
 by_cases h4 : op = 6
 . subst h4; rfl
 by_cases h5 : op = 7
 . subst h5; rfl
 by_cases h6 : op = 24
 . subst h6; rfl
 by_cases h7 : op = 25
 . subst h7; rfl
 by_cases h8 : op = 53
 . subst h8; rfl
 by_cases h9 : op = 23
 . subst h9; rfl
 unfold ftab
 rw [if_neg (by unfold listed; omega)]
 simp only [fput, if_neg h1, if_neg h2, if_neg h3, if_neg h4, if_neg h5, if_neg h6, if_neg h7, if_neg h8, if_neg h9]
theorem ftab_none {k : Nat} (h : ¬ listed k) : ftab k k = none := by
 unfold ftab
 rw [if_neg (fun h2 => h2.elim (fun h => by omega) h)]
theorem formOf_mid {k : Nat} (h1 : 30 <= k) (h2 : k <= 42) : formOf k = some ⟨81, 2, 2, 85⟩ := by
 have : ∀ k, k < 43 -> 30 <= k -> formOf k = some ⟨81, 2, 2, 85⟩ := by decide
 exact this k (by omega) h1
theorem formOf_no {k : Nat} (hli : ¬ listed k) (hk : k <= 57) (h2 : k < 30 ∨ 42 < k) (h3 : ¬ (k = 4 ∨ k = 5 ∨ k = 20 ∨ k = 21 ∨ k = 22 ∨ k = 57 ∨ k = 26 ∨ k = 56 ∨ k = 50 ∨ k = 51 ∨ k = 8 ∨ k = 9 ∨ k = 10 ∨ k = 11 ∨ k = 43 ∨ k = 44 ∨ k = 45 ∨ k = 46 ∨ k = 47 ∨ k = 48 ∨ k = 52 ∨ k = 54 ∨ k = 55)) : formOf k = none := by
 have h : ∀ k, k < 58 -> ((formOf k = none ∨ k ∈ [1, 2, 3, 6, 7, 24, 25, 53, 23]) ∨ k ∈ [4, 5, 20, 21, 22, 57, 26, 56, 50, 51, 8, 9, 10, 11, 43, 44, 45, 46, 47, 48, 52, 54, 55]) ∨ (30 <= k ∧ k <= 42) := by decide
 unfold listed at hli
 rcases h k (by omega) with ((h | h) | h) | h
 . exact h
 . simp only [List.mem_cons, List.not_mem_nil, or_false] at h
   exact absurd h hli
 . simp only [List.mem_cons, List.not_mem_nil, or_false] at h
   exact absurd h h3
 . omega
theorem formOf_big {op : Nat} (h : 58 <= op) : formOf op = none := by
 unfold formOf
 simp (disch := omega) only [if_neg]
theorem forms_ok {op : Nat} {f : Form} (h : formOf op = some f) : op <= 57 ∧ (f.txt = 78 ∨ f.txt = 81 ∨ f.txt = 84) ∧ (f.prt = 79 ∨ f.prt = 80 ∨ f.prt = 82 ∨ f.prt = 83 ∨ f.prt = 85 ∨ f.prt = 86) ∧ f.most <= 2048 := by
 have key : ∀ op, op < 58 -> (formOf op).all (fun f => (decide (f.txt = 78) || decide (f.txt = 81) || decide (f.txt = 84)) && (decide (f.prt = 79) || decide (f.prt = 80) || decide (f.prt = 82) || decide (f.prt = 83) || decide (f.prt = 85) || decide (f.prt = 86)) && decide (f.most <= 2048)) = true := by decide
 by_cases hop : op < 58
 . have h2 := key op hop
   rw [h] at h2
   simp [Option.all] at h2
   omega
 . rw [formOf_big (by omega)] at h; cases h
end Go.Proofs.YtbcadlocldplfaaDoor.T8
namespace Go.Proofs.YtbcadlocldplfaaDoor.T8
open Go.Proofs.Tryd
set_option maxRecDepth 100000
open Go.RowKit
def exprB (op : Nat) : Bool := decide (20 <= op ∧ op <= 26 ∨ 30 <= op ∧ op <= 48 ∨ 50 <= op ∧ op <= 57)
def stmtB (op : Nat) : Bool := decide (4 <= op ∧ op <= 11)
theorem expression_any (op : Nat) (w : World) (h : op < 256) : Calls prog 19 #[.int .u8 (op : Nat)] w fun e w' => e = .returned (.bool (exprB op)) ∧ w' = w := by
 have HC : Hid (exprB op = decide (20 <= op ∧ op <= 26 ∨ 30 <= op ∧ op <= 48 ∨ 50 <= op ∧ op <= 57)) := rfl
 rcases (by omega : op < 20 ∨ (20 <= op ∧ op <= 26) ∨ (27 <= op ∧ op <= 29) ∨ (30 <= op ∧ op <= 48) ∨ op = 49 ∨ (50 <= op ∧ op <= 57) ∨ 58 <= op) with h1 | h1 | h1 | h1 | h1 | h1 | h1
 case inr.inr.inr.inr.inl =>
  subst h1
  go_in
  go_wp2_with fail
  go_ret
  exact ⟨rfl, rfl⟩
 all_goals
  go_in
  go_wp2_with fail
  go_ret
  exact ⟨ret_bool (by rw [HC.out]; first | (rw [dqt (by omega)]; done) | (rw [dqf (by omega)]; done)), rfl⟩
theorem statement_any (op : Nat) (w : World) (h : op < 256) : Calls prog 110 #[.int .u8 (op : Nat)] w fun e w' => e = .returned (.bool (stmtB op)) ∧ w' = w := by
 have HC : Hid (stmtB op = decide (4 <= op ∧ op <= 11)) := rfl
 rcases (by omega : op < 4 ∨ (4 <= op ∧ op <= 11) ∨ 12 <= op) with h1 | h1 | h1
 all_goals
  go_in
  go_wp2_with fail
  go_ret
  refine ⟨ret_bool ?_, rfl⟩
  rw [HC.out]
  first | (rw [decide_eq_decide]; omega) | (symm; rw [decide_eq_false_iff_not]; omega)
theorem empty_any (s : ByteArray) (w : World) : Calls prog 81 #[.string s] w fun e w' => e = .returned (.bool s.toList.isEmpty) ∧ w' = w := by
 go_in
 go_wp2_with fail
 go_ret
 exact ⟨by first | rfl | simp, rfl⟩
theorem short_any (s : ByteArray) (w : World) : Calls prog 84 #[.string s] w fun e w' => e = .returned (.bool (decide (s.size <= 4095))) ∧ w' = w := by
 have HC := zh (show decide ((s.size : Int) <= 4095) = decide (s.size <= 4095) from by rw [decide_eq_decide]; omega)
 go_in
 go_wp2_with fail
 go_ret
 exact ⟨ret_bool HC.out, rfl⟩
def prtB (p i n op : Nat) : Bool :=
 if p = 79 then decide ((i + 1 < n ∧ op = 2) ∨ (i + 1 = n ∧ op = 3)) else if p = 82 then stmtB op else if p = 83 then (decide (i = 0) && exprB op || decide (0 < i ∧ op = 3)) else if p = 85 then exprB op else if p = 86 then decide (op = 3) else false
theorem params_any (i n op : Nat) (w : World) (h : op < 256) (hi : i < n) (hn : n <= 9223372036854775807) : Calls prog 79 #[.int .i64 (i : Nat), .int .i64 (n : Nat), .int .u8 (op : Nat)] w fun e w' => e = .returned (.bool (prtB 79 i n op)) ∧ w' = w := by
 have HC : Hid (prtB 79 i n op = decide ((i + 1 < n ∧ op = 2) ∨ (i + 1 = n ∧ op = 3))) := rfl
 by_cases h1 : i + 1 < n
 . have d1 : decide ((i : Int) < (n : Int) - 1) = true := dqt (by omega)
   have d2 : ((i : Int) == (n : Int) - 1) = false := by rw [bfn]; omega
   have HR := zh (show decide ((i + 1 < n ∧ op = 2) ∨ (i + 1 = n ∧ op = 3)) = decide (op = 2) from by rw [decide_eq_decide]; omega)
   by_cases h2 : op = 2
   . have d3 : ((op : Int) == 2) = true := by rw [h2]; rfl
     go_in
     go_wp2_with fail
     go_ret
     exact ⟨ret_bool (by rw [HC.out, HR.out]; simp; omega), rfl⟩
   . have d3 : ((op : Int) == 2) = false := by rw [bfn]; omega
     go_in
     go_wp2_with fail
     go_ret
     exact ⟨ret_bool (by rw [HC.out, HR.out]; simp; omega), rfl⟩
 . have d1 : decide ((i : Int) < (n : Int) - 1) = false := dqf (by omega)
   have d2 : ((i : Int) == (n : Int) - 1) = true := by rw [beq_iff_eq]; omega
   have HR := zh (show decide ((i + 1 < n ∧ op = 2) ∨ (i + 1 = n ∧ op = 3)) = ((op : Int) == 3) from by
    rw [Bool.eq_iff_iff, decide_eq_true_iff, beq_iff_eq]; omega)
   go_in
   go_wp2_with fail
   go_ret
   exact ⟨ret_bool (by rw [HC.out, HR.out]), rfl⟩
theorem nothing_any (i n op : Nat) (w : World) : Calls prog 80 #[.int .i64 (i : Nat), .int .i64 (n : Nat), .int .u8 (op : Nat)] w fun e w' => e = .returned (.bool (prtB 80 i n op)) ∧ w' = w := by
 have HC : Hid (prtB 80 i n op = false) := rfl
 go_in
 go_wp2_with fail
 go_ret
 exact ⟨ret_bool HC.out.symm, rfl⟩
theorem stmt_any (i n op : Nat) (w : World) (h : op < 256) : Calls prog 82 #[.int .i64 (i : Nat), .int .i64 (n : Nat), .int .u8 (op : Nat)] w fun e w' => e = .returned (.bool (prtB 82 i n op)) ∧ w' = w := by
 have HC : Hid (prtB 82 i n op = stmtB op) := rfl
 have HS := zh (statement_any op w h)
 go_in
 go_wp2_with fail
 refine HS.out.mono ?_
 rintro e w2 ⟨rfl, rfl⟩
 go_wp2_with fail
 go_ret
 exact ⟨ret_bool HC.out.symm, rfl⟩
theorem expr_any (i n op : Nat) (w : World) (h : op < 256) : Calls prog 85 #[.int .i64 (i : Nat), .int .i64 (n : Nat), .int .u8 (op : Nat)] w fun e w' => e = .returned (.bool (prtB 85 i n op)) ∧ w' = w := by
 have HC : Hid (prtB 85 i n op = exprB op) := rfl
 have HS := zh (expression_any op w h)
 go_in
 go_wp2_with fail
 refine HS.out.mono ?_
 rintro e w2 ⟨rfl, rfl⟩
 go_wp2_with fail
 go_ret
 exact ⟨ret_bool HC.out.symm, rfl⟩
theorem block_any (i n op : Nat) (w : World) : Calls prog 86 #[.int .i64 (i : Nat), .int .i64 (n : Nat), .int .u8 (op : Nat)] w fun e w' => e = .returned (.bool (prtB 86 i n op)) ∧ w' = w := by
 have HC := zh (show prtB 86 i n op = ((op : Int) == 3) from by
  show decide (op = 3) = _
  rw [Bool.eq_iff_iff, decide_eq_true_iff, beq_iff_eq]; omega)
 go_in
 go_wp2_with fail
 go_ret
 exact ⟨ret_bool HC.out.symm, rfl⟩
theorem headed_any (i n op : Nat) (w : World) (h : op < 256) (hi : i <= 9223372036854775807) : Calls prog 83 #[.int .i64 (i : Nat), .int .i64 (n : Nat), .int .u8 (op : Nat)] w fun e w' => e = .returned (.bool (prtB 83 i n op)) ∧ w' = w := by
 have HC : Hid (prtB 83 i n op = (decide (i = 0) && exprB op || decide (0 < i ∧ op = 3))) := rfl
 have HS := zh (expression_any op w h)
 by_cases h0 : i = 0
 . subst h0
   have HR := zh (show prtB 83 0 n op = exprB op from by rw [HC.out]; simp)
   generalize exprB op = q at *
   have d1 : (((0 : Nat) : Int) == 0) = true := rfl
   have d2 : decide ((0 : Int) < ((0 : Nat) : Int)) = false := rfl
   go_in
   go_wp2_with fail
   refine HS.out.mono ?_
   rintro e w2 ⟨rfl, rfl⟩
   cases q
   . go_wp2_with fail
     go_ret
     exact ⟨ret_bool HR.out.symm, rfl⟩
   . go_wp2_with fail
     go_ret
     exact ⟨ret_bool HR.out.symm, rfl⟩
 . have d1 : ((i : Int) == 0) = false := by rw [bfn]; omega
   have d2 : decide ((0 : Int) < (i : Int)) = true := dqt (by omega)
   have HR := zh (show prtB 83 i n op = ((op : Int) == 3) from by
    rw [HC.out, dqf h0, Bool.false_and, Bool.false_or, Bool.eq_iff_iff, decide_eq_true_iff, beq_iff_eq]; omega)
   have hz : 0 < i := by omega
   clear h0
   go_in
   go_wp2_with fail
   go_ret
   exact ⟨ret_bool HR.out.symm, rfl⟩
def inC (c : UInt8) : Bool := decide ((97 <= c.toNat ∧ c.toNat <= 122) ∨ (48 <= c.toNat ∧ c.toNat <= 57) ∨ c.toNat = 95)
def fstC : List UInt8 -> Bool
 | [] => false
 | c :: _ => decide (97 <= c.toNat ∧ c.toNat <= 122)
def nameB (s : List UInt8) : Bool := decide (s.length <= 24) && fstC s && s.all inC
theorem st_get {st : ByteArray} {s : List UInt8} (hst : st = ⟨s.toArray⟩) {k : Nat} (h : k < st.size) (h2 : k < s.length) : st[k] = s[k] := by
 subst hst; rfl
theorem st_empty {st : ByteArray} {s : List UInt8} (hst : st = ⟨s.toArray⟩) : st.toList.isEmpty = s.isEmpty := by
 subst hst; rw [ByteArray.toList_eq]
theorem name_list (s : List UInt8) (w : World) (hs : s.length <= 9223372036854775807) : Calls prog 108 #[.string ⟨s.toArray⟩] w fun e w' => e = .returned (.bool (nameB s)) ∧ w' = w := by
 obtain ⟨st, hst⟩ : ∃ st : ByteArray, st = ⟨s.toArray⟩ := ⟨_, rfl⟩
 have hsz : st.size = s.length := by rw [hst]; rfl
 obtain ⟨n, hn⟩ := ex s.length
 rw [<- hst]
 rw [<- hn] at hsz hs
 have he := st_empty hst
 have HST := zh hst
 have HN := zh hn
 have HB : Hid (nameB s = (decide (s.length <= 24) && fstC s && s.all inC)) := rfl
 cases hl : s with
 | nil =>
  have he2 : st.toList.isEmpty = true := by rw [he, hl]; rfl
  have HR := zh (show nameB [] = false from rfl)
  clear hn hst he
  go_in
  go_wp2_with fail
  go_ret
  exact ⟨ret_bool HR.out.symm, rfl⟩
 | cons c0 tl =>
  have he2 : st.toList.isEmpty = false := by rw [he, hl]; rfl
  have h0n : 0 < n := by rw [hn, hl]; simp
  have h0 : 0 < st.size := by omega
  have hg0 : st[0] = c0 := by
   have h0s : 0 < s.length := by rw [<- hn]; exact h0n
   have h1 : s[0]'h0s = c0 := by
    have h2 : s[0]? = some c0 := by rw [hl]; rfl
    exact (List.getElem?_eq_some_iff.1 h2).2
   rw [st_get hst h0 h0s, h1]
  have HF := zh (show fstC s = decide (97 <= c0.toNat ∧ c0.toNat <= 122) from by rw [hl]; rfl)
  rw [<- hl]
  clear he hl
  obtain ⟨cv, hcv⟩ : ∃ v, v = c0.toNat := ⟨_, rfl⟩
  rw [<- hcv] at HF
  have hc2 : st[0].toNat = cv := by rw [hg0, hcv]
  clear hst hn hcv hg0
  by_cases h24 : 24 < n
  . have HR := zh (show nameB s = false from by rw [HB.out, dqf (by rw [<- HN.out]; omega)]; rfl)
    go_in
    go_wp2_with fail
    go_ret
    exact ⟨ret_bool HR.out.symm, rfl⟩
  . by_cases ha : 97 <= cv ∧ cv <= 122
    . have HR := zh (show nameB s = s.all inC from by rw [HB.out, HF.out, dqt ha, dqt (by rw [<- HN.out]; omega)]; rfl)
      obtain ⟨ha1, ha2⟩ := ha
      go_in
      go_wp2_with fail
      go_loopw [3, 4, 24] (fun s3 s4 s24 wr => wr = w ∧ ∃ k : Nat, s24 = .int .i64 k ∧ k <= n ∧ (s.take k).all inC = true) (fun _ _ s24 _ => n - (intOf s24).toNat)
      case atStart => exact ⟨rfl, 0, rfl, by omega, rfl⟩
      case round =>
       obtain ⟨rfl, k, rfl, hkn, hall⟩ := hrel
       have HA := zh hall
       clear hall
       by_cases hlt : k < n
       . have hks : k < s.length := by rw [<- HN.out]; exact hlt
         obtain ⟨ch, hch⟩ : ∃ c, c = s[k] := ⟨_, rfl⟩
         have hkst : k < st.size := by omega
         have hg : st[k] = ch := by rw [hch]; exact st_get HST.out hkst hks
         have HCH := zh (show s.take (k + 1) = s.take k ++ [ch] from by rw [List.take_succ_eq_append_getElem hks, hch])
         have HBAD := zh (show inC ch = false -> s.all inC = false from fun h => by
          rw [List.all_eq_false]
          exact ⟨ch, by rw [hch]; exact List.getElem_mem hks, by rw [h]; simp⟩)
         clear hch hks hc2
         obtain ⟨x, hx⟩ : ∃ v, v = ch.toNat := ⟨_, rfl⟩
         have HI := zh (show inC ch = decide ((97 <= x ∧ x <= 122) ∨ (48 <= x ∧ x <= 57) ∨ x = 95) from by rw [hx]; rfl)
         have hx2 : st[k].toNat = x := by rw [hg, hx]
         clear hx hg
         have hk0 : (0 : Int) <= (k : Int) := by omega
         have hkn2 : (k : Int) < (n : Int) := by omega
         rcases (by omega : x < 48 ∨ (48 <= x ∧ x <= 57) ∨ (58 <= x ∧ x <= 94) ∨ x = 95 ∨ x = 96 ∨ (97 <= x ∧ x <= 122) ∨ 123 <= x) with q | q | q | q | q | q | q
         . have hne : ((x : Int) != 95) = true := by rw [bne_iff_ne]; omega
           have HRT := zh (show nameB s = false from by rw [HR.out]; exact HBAD.out (by rw [HI.out, dqf (by omega)]))
           go_wp2_with fail
           go_ret
           exact ⟨ret_bool HRT.out.symm, rfl⟩
         . have hne : ((x : Int) != 95) = true := by rw [bne_iff_ne]; omega
           have HIN := zh (show inC ch = true from by rw [HI.out, dqt (by omega)])
           go_wp2_with fail
           go_roundw
           case rel => exact ⟨trivial, k + 1, by go_num, by omega, by rw [HCH.out, List.all_append, HA.out, List.all_cons, HIN.out]; rfl⟩
           case measure => simp [intOf]; omega
         . have hne : ((x : Int) != 95) = true := by rw [bne_iff_ne]; omega
           have HRT := zh (show nameB s = false from by rw [HR.out]; exact HBAD.out (by rw [HI.out, dqf (by omega)]))
           go_wp2_with fail
           go_ret
           exact ⟨ret_bool HRT.out.symm, rfl⟩
         . have hne : ((x : Int) != 95) = false := by rw [q]; rfl
           have HIN := zh (show inC ch = true from by rw [HI.out, dqt (by omega)])
           go_wp2_with fail
           go_roundw
           case rel => exact ⟨trivial, k + 1, by go_num, by omega, by rw [HCH.out, List.all_append, HA.out, List.all_cons, HIN.out]; rfl⟩
           case measure => simp [intOf]; omega
         . have hne : ((x : Int) != 95) = true := by rw [bne_iff_ne]; omega
           have HRT := zh (show nameB s = false from by rw [HR.out]; exact HBAD.out (by rw [HI.out, dqf (by omega)]))
           go_wp2_with fail
           go_ret
           exact ⟨ret_bool HRT.out.symm, rfl⟩
         . have hne : ((x : Int) != 95) = true := by rw [bne_iff_ne]; omega
           have HIN := zh (show inC ch = true from by rw [HI.out, dqt (by omega)])
           go_wp2_with fail
           go_roundw
           case rel => exact ⟨trivial, k + 1, by go_num, by omega, by rw [HCH.out, List.all_append, HA.out, List.all_cons, HIN.out]; rfl⟩
           case measure => simp [intOf]; omega
         . have hne : ((x : Int) != 95) = true := by rw [bne_iff_ne]; omega
           have HRT := zh (show nameB s = false from by rw [HR.out]; exact HBAD.out (by rw [HI.out, dqf (by omega)]))
           go_wp2_with fail
           go_ret
           exact ⟨ret_bool HRT.out.symm, rfl⟩
       . have hke : k = n := by omega
         subst hke
         have HRT := zh (show nameB s = true from by rw [HR.out]; have h := HA.out; rw [List.take_of_length_le (by rw [<- HN.out]; omega)] at h; exact h)
         go_wp2_with fail
         go_ret
         exact ⟨ret_bool HRT.out.symm, rfl⟩
    . have HR := zh (show nameB s = false from by rw [HB.out, HF.out, dqf ha]; simp)
      by_cases hb : cv < 97
      . go_in
        go_wp2_with fail
        go_ret
        exact ⟨ret_bool HR.out.symm, rfl⟩
      . have hb2 : 122 < cv := by omega
        clear ha
        go_in
        go_wp2_with fail
        go_ret
        exact ⟨ret_bool HR.out.symm, rfl⟩
theorem name_any (s : ByteArray) (w : World) (hs : s.size <= 9223372036854775807) : Calls prog 108 #[.string s] w fun e w' => e = .returned (.bool (nameB s.toList)) ∧ w' = w := by
 have h := name_list s.toList w (by rw [ByteArray.toList_eq]; exact hs)
 rw [show (⟨s.toList.toArray⟩ : ByteArray) = s by rw [ByteArray.toList_eq]] at h
 exact h
def txtB (t : Nat) (s : ByteArray) : Bool := if t = 78 then nameB s.toList && !kw s.toList else if t = 81 then s.toList.isEmpty else decide (s.size <= 4095)
theorem own_any (s : ByteArray) (w : World) (hs : s.size <= 9223372036854775807) : Calls prog 78 #[.string s] w fun e w' => e = .returned (.bool (txtB 78 s)) ∧ w' = w := by
 have HN := zh (name_any s w hs)
 have HK := zh (keyword_any s w)
 have HC : Hid (txtB 78 s = (nameB s.toList && !kw s.toList)) := rfl
 generalize nameB s.toList = a at *
 generalize kw s.toList = b at *
 go_in
 go_wp2_with fail
 refine HN.out.mono ?_
 rintro e w2 ⟨rfl, hw2⟩
 rw [hw2]
 clear hw2 w2
 cases a
 . go_wp2_with fail
   go_ret
   exact ⟨ret_bool HC.out.symm, rfl⟩
 . go_wp2_with fail
   refine HK.out.mono ?_
   rintro e w2 ⟨rfl, hw2⟩
   rw [<- hw2]
   clear hw2 w2
   go_wp2_with fail
   go_ret
   exact ⟨ret_bool (by rw [HC.out]; simp), rfl⟩
theorem text_any {op : Nat} {f : Form} (hf : formOf op = some f) (s : ByteArray) (w : World) (hs : s.size <= 9223372036854775807) : Calls prog f.txt #[.string s] w fun e w' => e = .returned (.bool (txtB f.txt s)) ∧ w' = w := by
 have h := (forms_ok hf).2.1
 rcases h with h | h | h <;> rw [h]
 . exact own_any s w hs
 . exact empty_any s w
 . exact short_any s w
theorem part_any {o : Nat} {f : Form} (hf : formOf o = some f) (i n op : Nat) (w : World) (h : op < 256) (hi : i < n) (hn : n <= 9223372036854775807) : Calls prog f.prt #[.int .i64 (i : Nat), .int .i64 (n : Nat), .int .u8 (op : Nat)] w fun e w' => e = .returned (.bool (prtB f.prt i n op)) ∧ w' = w := by
 have h2 := (forms_ok hf).2.2.1
 rcases h2 with h2 | h2 | h2 | h2 | h2 | h2 <;> rw [h2]
 . exact params_any i n op w h hi hn
 . exact nothing_any i n op w
 . exact stmt_any i n op w h
 . exact headed_any i n op w h (by omega)
 . exact expr_any i n op w h
 . exact block_any i n op w
def fineB (x : Tw) (may : Nat -> Bool) : Bool :=
 match formOf x.op with
 | none => false
 | some f => may x.op && (txtB f.txt x.text && (decide ((f.least : Int) <= x.kids) && (decide (x.kids <= (f.most : Int)) && (decide (x.op = 23 ∨ x.int = 0) && decide (0 <= x.int)))))
def partOf (x : Tw) (i op : Nat) : Bool :=
 match formOf x.op with
 | none => false
 | some f => prtB f.prt i x.kids.toNat op
def wkL (g : Nat -> Nat -> (Nat -> Bool) -> Int -> Nat × Int × Int) (x : Tw) (lv : Nat) : Nat -> Nat -> Nat -> Int -> Nat × Int × Int
 | 0, _, nx, dp => (nx, -1, dp)
 | k + 1, i, nx, dp => if 0 <= (g nx lv (partOf x i) dp).2.1 then g nx lv (partOf x i) dp else wkL g x lv k (i + 1) (g nx lv (partOf x i) dp).1 (g nx lv (partOf x i) dp).2.2
def wk : Nat -> List Tw -> Nat -> Nat -> (Nat -> Bool) -> Int -> Nat × Int × Int
 | 0, l, at_, _, _, dp => (at_, (l.length : Int), dp)
 | f + 1, l, at_, lv, may, dp =>
  match l[at_]? with
  | none => (at_, (l.length : Int), dp)
  | some x => if fineB x may then wkL (wk f l) x (lv + 1) x.kids.toNat 0 (at_ + 1) (if 40 < lv ∧ dp < 0 then (at_ : Int) else dp) else (at_, (at_ : Int), dp)
theorem wkL_le {g : Nat -> Nat -> (Nat -> Bool) -> Int -> Nat × Int × Int} {x : Tw} {lv n : Nat} (hg : ∀ nx may dp, nx <= n -> nx <= (g nx lv may dp).1 ∧ (g nx lv may dp).1 <= n) : ∀ k i nx dp, nx <= n -> nx <= (wkL g x lv k i nx dp).1 ∧ (wkL g x lv k i nx dp).1 <= n
 | 0, _, nx, _, h => ⟨nlr _, h⟩
 | k + 1, i, nx, dp, h => by
  have h1 := hg nx (partOf x i) dp h
  unfold wkL
  split
  . exact h1
  . have h2 := wkL_le (x := x) hg k (i + 1) (g nx lv (partOf x i) dp).1 (g nx lv (partOf x i) dp).2.2 h1.2
    omega
theorem wk_le : ∀ f (l : List Tw) at_ lv may dp, at_ <= l.length -> at_ <= (wk f l at_ lv may dp).1 ∧ (wk f l at_ lv may dp).1 <= l.length
 | 0, l, at_, _, _, _, h => ⟨nlr _, h⟩
 | f + 1, l, at_, lv, may, dp, h => by
  unfold wk
  split
  . exact ⟨nlr _, h⟩
  . rename_i x hx
    have hlt := (List.getElem?_eq_some_iff.1 hx).1
    split
    . have := wkL_le (g := wk f l) (x := x) (lv := lv + 1) (n := l.length) (fun nx may dp h => wk_le f l nx (lv + 1) may dp h) x.kids.toNat 0 (at_ + 1) (if 40 < lv ∧ dp < 0 then (at_ : Int) else dp) (by omega)
      omega
    . exact ⟨nlr _, h⟩
/-! ### Memory -/
def TwAt (w : World) (b o : Nat) (x : Tw) : Prop := w.cell? ⟨b, o, none⟩ = some (.int .u8 (x.op : Nat)) ∧ w.cell? ⟨b, o + 1, none⟩ = some (.int .i64 x.kids) ∧ w.cell? ⟨b, o + 2, none⟩ = some (.int .i64 x.int) ∧ w.cell? ⟨b, o + 3, none⟩ = some (.string x.text)
def TwOk (x : Tw) : Prop := x.op < 256 ∧ -9223372036854775808 <= x.kids ∧ x.kids <= 9223372036854775807 ∧ -9223372036854775808 <= x.int ∧ x.int <= 9223372036854775807 ∧ x.text.size <= maxLen
def RdW (w : World) (A : Option Addr) (l : List Tw) : Prop := l = [] ∨ ∃ b off, A = some ⟨b, off, none⟩ ∧ b < w.heap.size ∧ ∀ k x, l[k]? = some x -> TwAt w b (off + k * 4) x
section
variable {w w' : World} {A : Option Addr} {l : List Tw} {T : Nat -> Prop}
theorem TwAt.of_block {b o : Nat} {x : Tw} (h : TwAt w b o x) (hb : w'.heap[b]? = w.heap[b]?) : TwAt w' b o x :=
 ⟨(World.cell?_of_block hb).trans h.1, (World.cell?_of_block hb).trans h.2.1, (World.cell?_of_block hb).trans h.2.2.1, (World.cell?_of_block hb).trans h.2.2.2⟩
theorem RdW.chg (h : RdW w A l) (hc : Chg T w w') (hn : ∀ a, A = some a -> l ≠ [] -> ¬ T a.block) : RdW w' A l := by
 rcases h with h | ⟨b, off, hA, hb, hat⟩
 . exact .inl h
 . by_cases hl : l = []
   . exact .inl hl
   . exact .inr ⟨b, off, hA, Nat.lt_of_lt_of_le hb hc.size, fun k x hx => (hat k x hx).of_block (hc.block b hb (hn _ hA hl))⟩
theorem MapF.chg {gm m : Nat} {f : Nat -> Option Form} (h : MapF w gm m f) (hc : Chg T w w') (hn : ¬ T gm) : MapF w' gm m f := by
 have hlt := h.lt
 obtain ⟨D, ⟨es, clock, hb2, r⟩, h2⟩ := h
 exact ⟨D, ⟨es, clock, (hc.block gm hlt hn).trans hb2, r⟩, h2⟩
end
structure Spot where
 bt : Nat
 bw : Nat
 bb : Nat
 bd : Nat
 bk : Nat
 gm : Nat
 m : Nat
abbrev Spot.walk (s : Spot) : Value := .func (.func 35) #[] #[.pointer (some ⟨s.bt, 0, none⟩), .pointer (some ⟨s.bw, 0, none⟩), .pointer (some ⟨s.bb, 0, none⟩), .pointer (some ⟨s.bd, 0, none⟩), .pointer (some ⟨s.bk, 0, none⟩)]
structure Env (w : World) (s : Spot) (A : Option Addr) (c : Nat) (l : List Tw) (wr dp : Int) : Prop where
 t : Blk w s.bt 23 #[.slice A l.length c]
 wr : Blk w s.bw 3 #[.int .i64 wr]
 tab : Blk w s.bb 60 #[.map (some s.gm)]
 dp : Blk w s.bd 3 #[.int .i64 dp]
 wk : Blk w s.bk 62 #[s.walk]
 map : MapF w s.gm s.m formOf
 rd : RdW w A l
 ne1 : s.bw ≠ s.bd
 ne2 : s.gm ≠ s.bw ∧ s.gm ≠ s.bd
 ne3 : ∀ a, A = some a -> l ≠ [] -> a.block ≠ s.bw ∧ a.block ≠ s.bd
def Spot.own (s : Spot) (b : Nat) : Prop := b = s.bw ∨ b = s.bd
section
variable {w w' : World} {s : Spot} {A : Option Addr} {c : Nat} {l : List Tw} {wr dp : Int}
theorem Env.keep {T : Nat -> Prop} (h : Env w s A c l wr dp) (hc : Chg T w w') (hT : ∀ b, T b -> b < w.heap.size -> s.own b) (h1 : Blk w' s.bw 3 #[.int .i64 wr]) (h2 : Blk w' s.bd 3 #[.int .i64 dp]) : Env w' s A c l wr dp := by
 have n1 : ∀ {b t : Nat} {cs : Array Value}, Blk w b t cs -> t ≠ 3 -> ¬ T b := fun {b t cs} hb ht hTb => by
  rcases hT b hTb hb.lt with e | e
  . exact Blk.ne_ hb h.wr ht e
  . exact Blk.ne_ hb h.dp ht e
 refine ⟨h.t.chg hc (n1 h.t (by decide)), h1, h.tab.chg hc (n1 h.tab (by decide)), h2, h.wk.chg hc (n1 h.wk (by decide)), h.map.chg hc (fun hTb => ?_), ?_, h.ne1, h.ne2, h.ne3⟩
 . rcases hT _ hTb h.map.lt with e | e
   . exact h.ne2.1 e
   . exact h.ne2.2 e
 . rcases h.rd with h3 | ⟨b, off, hA, hb, hat⟩
   . exact .inl h3
   . by_cases hl : l = []
     . exact .inl hl
     . refine .inr ⟨b, off, hA, Nat.lt_of_lt_of_le hb hc.size, fun k x hx => (hat k x hx).of_block (hc.block b hb (fun hTb => ?_))⟩
       rcases hT b hTb hb with e | e
       . exact (h.ne3 _ hA hl).1 e
       . exact (h.ne3 _ hA hl).2 e
theorem Env.below (h : Env w s A c l wr dp) (hb : Below w.heap.size w w') : Env w' s A c l wr dp :=
 h.keep (T := fun _ => False) (.of_below hb) (fun _ h _ => h.elim) (h.wr.below hb h.wr.lt) (h.dp.below hb h.dp.lt)
theorem Env.setW (h : Env w s A c l wr dp) (v : Int) : Env (w.setCell ⟨s.bw, 0, none⟩ (.int .i64 v)) s A c l v dp := by
 have hc : Chg (fun b => b = s.bw) w (w.setCell ⟨s.bw, 0, none⟩ (.int .i64 v)) := (Chg.refl (fun b => b = s.bw) w).setCell (p := ⟨s.bw, 0, none⟩) rfl _
 have h0 : Env w s A c l wr dp := h
 have key : ∀ {b t : Nat} {cs : Array Value}, Blk w b t cs -> t ≠ 3 -> b ≠ s.bw := fun hb ht => Blk.ne_ hb h.wr ht
 refine ⟨h.t.chg hc (key h.t (by decide)), ?_, h.tab.chg hc (key h.tab (by decide)), h.dp.chg hc (fun e => h.ne1 e.symm), h.wk.chg hc (key h.wk (by decide)), h.map.chg hc h.ne2.1, h.rd.chg hc (fun a ha hl => (h.ne3 a ha hl).1), h.ne1, h.ne2, h.ne3⟩
 exact h.wr.set_ 0 (.int .i64 v)
theorem Env.setD (h : Env w s A c l wr dp) (v : Int) : Env (w.setCell ⟨s.bd, 0, none⟩ (.int .i64 v)) s A c l wr v := by
 have hc : Chg (fun b => b = s.bd) w (w.setCell ⟨s.bd, 0, none⟩ (.int .i64 v)) := (Chg.refl (fun b => b = s.bd) w).setCell (p := ⟨s.bd, 0, none⟩) rfl _
 have key : ∀ {b t : Nat} {cs : Array Value}, Blk w b t cs -> t ≠ 3 -> b ≠ s.bd := fun hb ht => Blk.ne_ hb h.dp ht
 refine ⟨h.t.chg hc (key h.t (by decide)), h.wr.chg hc h.ne1, h.tab.chg hc (key h.tab (by decide)), ?_, h.wk.chg hc (key h.wk (by decide)), h.map.chg hc h.ne2.2, h.rd.chg hc (fun a ha hl => (h.ne3 a ha hl).2), h.ne1, h.ne2, h.ne3⟩
 exact h.dp.set_ 0 (.int .i64 v)
end
structure MayOk (w : World) (m : Nat) (caps : Array Value) (P : Nat -> Bool) : Prop where
 cf : ∀ args W, (callFunc m args).run prog W = .ok (.enter m args) W
 ok : ∀ op W, op < 256 -> Below w.heap.size w W -> Calls prog m (#[.int .u8 (op : Nat)] ++ caps) W fun e W' => e = .returned (.bool (P op)) ∧ W' = W
theorem MayOk.below {w w' : World} {m : Nat} {caps : Array Value} {P : Nat -> Bool} (h : MayOk w m caps P) (hb : Below w.heap.size w w') : MayOk w' m caps P :=
 ⟨h.cf, fun op W hop hW => h.ok op W hop (hb.trans (hW.mono hb.size))⟩
theorem enter_form {op : Nat} {f : Form} (hf : formOf op = some f) : (∀ args W, (callFunc f.txt args).run prog W = .ok (.enter f.txt args) W) ∧ ∀ args W, (callFunc f.prt args).run prog W = .ok (.enter f.prt args) W := by
 obtain ⟨_, h1, h2, _⟩ := forms_ok hf
 constructor
 . rcases h1 with h | h | h <;> rw [h] <;> exact fun _ _ => by kernel_rfl
 . rcases h2 with h | h | h | h | h | h <;> rw [h] <;> exact fun _ _ => by kernel_rfl
theorem may_true (w : World) : MayOk w 37 #[] (fun _ => true) := by
 refine ⟨fun _ _ => by kernel_rfl, fun op W hop hW => ?_⟩
 show Calls prog 37 #[.int .u8 (op : Nat)] W _
 go_in
 go_wp2_with fail
 go_ret
 exact ⟨rfl, rfl⟩
abbrev formCells (f : Form) : Array Value := #[fv f.txt, .int .i64 (f.least : Nat), .int .i64 (f.most : Nat), fv f.prt]
abbrev twCells (x : Tw) : Array Value := #[.int .u8 (x.op : Nat), .int .i64 x.kids, .int .i64 x.int, .string x.text]
theorem may_part (w : World) (bf bi bx : Nat) (f : Form) (i n : Nat) (x : Tw) (hf : formOf x.op = some f) (h1 : Blk w bf 65 (formCells f)) (h2 : Blk w bi 3 #[.int .i64 (i : Nat)]) (h3 : Blk w bx 42 (twCells x)) (hk : x.kids = (n : Nat)) (hi : i < n) (hn : n <= 9223372036854775807) :
 MayOk w 36 #[.pointer (some ⟨bf, 0, none⟩), .pointer (some ⟨bi, 0, none⟩), .pointer (some ⟨bx, 0, none⟩)] (partOf x i) := by
 refine ⟨fun _ _ => by kernel_rfl, fun op W hop hW => ?_⟩
 show Calls prog 36 #[.int .u8 (op : Nat), .pointer (some ⟨bf, 0, none⟩), .pointer (some ⟨bi, 0, none⟩), .pointer (some ⟨bx, 0, none⟩)] W _
 have c1 : W.cell? ⟨bf, 3, none⟩ = some (fv f.prt) := (h1.below hW h1.lt).cell 3
 have c2 : W.cell? ⟨bi, 0, none⟩ = some (.int .i64 (i : Nat)) := (h2.below hW h2.lt).cell 0
 have c3 : W.cell? ⟨bx, 1, none⟩ = some (.int .i64 (n : Nat)) := by rw [<- hk]; exact (h3.below hW h3.lt).cell 1
 have hcf := (enter_form hf).2
 have HP := zh (part_any hf i n op W hop hi hn)
 have HR := zh (show partOf x i op = prtB f.prt i n op from by
  unfold partOf
  rw [hf, hk]
  rfl)
 clear h1 h2 h3 hf
 obtain ⟨ft, fl, fm, fp⟩ := f
 dsimp only at c1 hcf HP HR
 go_in
 go_wp2_with fail
 refine HP.out.mono ?_
 rintro e w2 ⟨rfl, hw2⟩
 rw [hw2]
 clear hw2 w2
 go_wp2_with fail
 go_ret
 exact ⟨ret_bool HR.out.symm, rfl⟩
end Go.Proofs.YtbcadlocldplfaaDoor.T8
namespace Go.Proofs.YtbcadlocldplfaaDoor.T8
open Go.Proofs.Tryd
set_option maxRecDepth 100000
open Go.RowKit Go.Maps
set_option maxRecDepth 100000 in
theorem forms_any (w : World) : Calls prog 34 #[] w fun e w' => ∃ gm m, e = .returned (.map (some gm)) ∧ MapF w' gm m formOf ∧ Below w.heap.size w w' ∧ w.heap.size <= gm := by
 have hmm := @run_makeMap prog
 have H0 : Hid (MapF (w.alloc (.map #[] 0)) w.heap.size 0 (fun _ => none) ∧ Below w.heap.size w (w.alloc (.map #[] 0))) := ⟨MapF.new w, (Below.refl _ _).alloc (nlr _) _⟩
 go_in
 go_wp2_with (first | (refine wpList_insert_form _ rfl _ _ _ (.inl rfl) w.heap.size 0 1 (fun _ => none) ⟨78, 1, 2048, 79⟩ rfl rfl rfl (by omega) H0.out.1 (by omega) ?_; intro w1 m1 g1; have H1 := zh (ai m1 (H0.out.2.grown g1 H0.out.2.size (fun r hr => by injection hr with hr; rw [<- hr]; exact nlr _))); clear m1 g1 H0) | (refine wpList_insert_form _ rfl _ _ _ (.inl rfl) w.heap.size 1 2 (fput (fun _ => none) 1 ⟨78, 1, 2048, 79⟩) ⟨78, 0, 0, 80⟩ rfl rfl rfl (by omega) H1.out.1 (by omega) ?_; intro w2 m2 g2; have H2 := zh (ai m2 (H1.out.2.grown g2 H1.out.2.size (fun r hr => by injection hr with hr; rw [<- hr]; exact nlr _))); clear m2 g2 H1) | (refine wpList_insert_form _ rfl _ _ _ (.inl rfl) w.heap.size 2 3 (fput (fput (fun _ => none) 1 ⟨78, 1, 2048, 79⟩) 2 ⟨78, 0, 0, 80⟩) ⟨81, 0, 2048, 82⟩ rfl rfl rfl (by omega) H2.out.1 (by omega) ?_; intro w3 m3 g3; have H3 := zh (ai m3 (H2.out.2.grown g3 H2.out.2.size (fun r hr => by injection hr with hr; rw [<- hr]; exact nlr _))); clear m3 g3 H2) | (refine wpList_insert_form _ rfl _ _ _ (.inl rfl) w.heap.size 3 6 (fput (fput (fput (fun _ => none) 1 ⟨78, 1, 2048, 79⟩) 2 ⟨78, 0, 0, 80⟩) 3 ⟨81, 0, 2048, 82⟩) ⟨81, 2, 3, 83⟩ rfl rfl rfl (by omega) H3.out.1 (by omega) ?_; intro w4 m4 g4; have H4 := zh (ai m4 (H3.out.2.grown g4 H3.out.2.size (fun r hr => by injection hr with hr; rw [<- hr]; exact nlr _))); clear m4 g4 H3) | (refine wpList_insert_form _ rfl _ _ _ (.inl rfl) w.heap.size 4 7 (fput (fput (fput (fput (fun _ => none) 1 ⟨78, 1, 2048, 79⟩) 2 ⟨78, 0, 0, 80⟩) 3 ⟨81, 0, 2048, 82⟩) 6 ⟨81, 2, 3, 83⟩) ⟨81, 2, 2, 83⟩ rfl rfl rfl (by omega) H4.out.1 (by omega) ?_; intro w5 m5 g5; have H5 := zh (ai m5 (H4.out.2.grown g5 H4.out.2.size (fun r hr => by injection hr with hr; rw [<- hr]; exact nlr _))); clear m5 g5 H4) | (refine wpList_insert_form _ rfl _ _ _ (.inl rfl) w.heap.size 5 24 (fput (fput (fput (fput (fput (fun _ => none) 1 ⟨78, 1, 2048, 79⟩) 2 ⟨78, 0, 0, 80⟩) 3 ⟨81, 0, 2048, 82⟩) 6 ⟨81, 2, 3, 83⟩) 7 ⟨81, 2, 2, 83⟩) ⟨84, 0, 0, 80⟩ rfl rfl rfl (by omega) H5.out.1 (by omega) ?_; intro w6 m6 g6; have H6 := zh (ai m6 (H5.out.2.grown g6 H5.out.2.size (fun r hr => by injection hr with hr; rw [<- hr]; exact nlr _))); clear m6 g6 H5) | (refine wpList_insert_form _ rfl _ _ _ (.inl rfl) w.heap.size 6 25 (fput (fput (fput (fput (fput (fput (fun _ => none) 1 ⟨78, 1, 2048, 79⟩) 2 ⟨78, 0, 0, 80⟩) 3 ⟨81, 0, 2048, 82⟩) 6 ⟨81, 2, 3, 83⟩) 7 ⟨81, 2, 2, 83⟩) 24 ⟨84, 0, 0, 80⟩) ⟨81, 0, 2048, 85⟩ rfl rfl rfl (by omega) H6.out.1 (by omega) ?_; intro w7 m7 g7; have H7 := zh (ai m7 (H6.out.2.grown g7 H6.out.2.size (fun r hr => by injection hr with hr; rw [<- hr]; exact nlr _))); clear m7 g7 H6) | (refine wpList_insert_form _ rfl _ _ _ (.inl rfl) w.heap.size 7 53 (fput (fput (fput (fput (fput (fput (fput (fun _ => none) 1 ⟨78, 1, 2048, 79⟩) 2 ⟨78, 0, 0, 80⟩) 3 ⟨81, 0, 2048, 82⟩) 6 ⟨81, 2, 3, 83⟩) 7 ⟨81, 2, 2, 83⟩) 24 ⟨84, 0, 0, 80⟩) 25 ⟨81, 0, 2048, 85⟩) ⟨81, 1, 1, 86⟩ rfl rfl rfl (by omega) H7.out.1 (by omega) ?_; intro w8 m8 g8; have H8 := zh (ai m8 (H7.out.2.grown g8 H7.out.2.size (fun r hr => by injection hr with hr; rw [<- hr]; exact nlr _))); clear m8 g8 H7) | (refine wpList_insert_form _ rfl _ _ _ (.inl rfl) w.heap.size 8 23 (fput (fput (fput (fput (fput (fput (fput (fput (fun _ => none) 1 ⟨78, 1, 2048, 79⟩) 2 ⟨78, 0, 0, 80⟩) 3 ⟨81, 0, 2048, 82⟩) 6 ⟨81, 2, 3, 83⟩) 7 ⟨81, 2, 2, 83⟩) 24 ⟨84, 0, 0, 80⟩) 25 ⟨81, 0, 2048, 85⟩) 53 ⟨81, 1, 1, 86⟩) ⟨81, 0, 0, 80⟩ rfl rfl rfl (by omega) H8.out.1 (by omega) ?_; intro w9 m9 g9; have H9 := zh (ai m9 (H8.out.2.grown g9 H8.out.2.size (fun r hr => by injection hr with hr; rw [<- hr]; exact nlr _))); clear m9 g9 H8))
 rw [ftab_one] at H9
 obtain ⟨gm, hgm⟩ : ∃ g, g = w.heap.size := ⟨_, rfl⟩
 have HGM := zh hgm
 have H9b := zh H9.out.2
 have H9a := zh H9.out.1
 rw [<- hgm] at H9a |-
 clear hgm hmm H9
 go_loopw [2] (fun s2 wr => ∃ (k m : Nat), s2 = .int .u8 k ∧ 1 <= k ∧ k <= 58 ∧ m <= 9 + k ∧ MapF wr gm m (ftab k) ∧ Below w.heap.size w wr) (fun s2 _ => 58 - (intOf s2).toNat)
 case atStart => exact ⟨1, 9, rfl, by omega, by omega, by omega, H9a.out, H9b.out⟩
 case round =>
  clear H9a H9b
  obtain ⟨k, m, rfl, hk1, hk2, hm, hmap, hb⟩ := hrel
  have HM := zh (ai hmap hb)
  clear hmap hb
  by_cases hlt : k <= 57
  . by_cases hli : listed k
    . obtain ⟨fo, hfo⟩ : ∃ fo, formOf k = some fo := by
       unfold listed at hli
       rcases hli with h | h | h | h | h | h | h | h | h <;> subst h <;> exact ⟨_, rfl⟩
      have HF : Hid (ftab k k = some fo) := by unfold ftab; rw [if_pos (.inr hli)]; exact hfo
      have HS : Hid (ftab (k + 1) = ftab k) := ftab_skip (.inl hli)
      clear hli hfo
      obtain ⟨fa, fb, fc, fd'⟩ := fo
      go_wp2_with (refine wpList_lookup_some _ rfl _ _ rfl gm m k (ftab k) ⟨fa, fb, fc, fd'⟩ rfl rfl (by omega) HM.out.1 HF.out ?_)
      go_roundw
      case rel => exact ⟨k + 1, m, by go_num, by omega, by omega, by omega, by rw [HS.out]; exact HM.out.1.below ((Below.refl _ _).alloc (nlr _) _), HM.out.2.alloc HM.out.2.size _⟩
      case measure => simp [intOf]; omega
    . have HF : Hid (ftab k k = none) := ftab_none hli
      by_cases e4 : k = 4
      . have t4 : ((k : Int) == 4) = true := by rw [beq_iff_eq]; omega
        have HFP : Hid (formOf k = some ⟨78, 1, 1, 85⟩) := by rw [e4]; exact rfl
        have t5 : ((k : Int) == 5) = false := by rw [bfn]; omega
        have t20 : ((k : Int) == 20) = false := by rw [bfn]; omega
        have t21 : ((k : Int) == 21) = false := by rw [bfn]; omega
        have t22 : ((k : Int) == 22) = false := by rw [bfn]; omega
        have t57 : ((k : Int) == 57) = false := by rw [bfn]; omega
        have t26 : ((k : Int) == 26) = false := by rw [bfn]; omega
        have t56 : ((k : Int) == 56) = false := by rw [bfn]; omega
        have t50 : ((k : Int) == 50) = false := by rw [bfn]; omega
        have t51 : ((k : Int) == 51) = false := by rw [bfn]; omega
        have t8 : ((k : Int) == 8) = false := by rw [bfn]; omega
        have t9 : ((k : Int) == 9) = false := by rw [bfn]; omega
        have t10 : ((k : Int) == 10) = false := by rw [bfn]; omega
        have t11 : ((k : Int) == 11) = false := by rw [bfn]; omega
        have t43 : ((k : Int) == 43) = false := by rw [bfn]; omega
        have t44 : ((k : Int) == 44) = false := by rw [bfn]; omega
        have t45 : ((k : Int) == 45) = false := by rw [bfn]; omega
        have t46 : ((k : Int) == 46) = false := by rw [bfn]; omega
        have t47 : ((k : Int) == 47) = false := by rw [bfn]; omega
        have t48 : ((k : Int) == 48) = false := by rw [bfn]; omega
        have t52 : ((k : Int) == 52) = false := by rw [bfn]; omega
        have t54 : ((k : Int) == 54) = false := by rw [bfn]; omega
        have t55 : ((k : Int) == 55) = false := by rw [bfn]; omega
        clear hli e4
        go_wp2_with (first | (refine wpList_lookup_none _ rfl _ _ rfl gm m k (ftab k) rfl rfl (by omega) HM.out.1 HF.out ?_) | (refine wpList_insert_form _ rfl _ _ _ (.inr rfl) gm m k (ftab k) ⟨78, 1, 1, 85⟩ rfl rfl rfl (by omega) (HM.out.1.below ((Below.refl _ _).alloc (nlr _) _)) (by omega) ?_; intro wz mz gz; have HZ := zh (ai mz ((HM.out.2.alloc HM.out.2.size _).grown gz (by have := HM.out.2.size; simp; omega) (fun r hr => by injection hr with hr; rw [<- hr, HGM.out]; exact nlr _))); clear mz gz))
        go_roundw
        case rel => exact ⟨k + 1, m + 1, by go_num, by omega, by omega, by omega, by rw [<- ftab_put HFP.out]; exact HZ.out.1, HZ.out.2⟩
        case measure => simp [intOf]; omega
      . have t4 : ((k : Int) == 4) = false := by rw [bfn]; omega
        by_cases e5 : k = 5
        . have t5 : ((k : Int) == 5) = true := by rw [beq_iff_eq]; omega
          have HFP : Hid (formOf k = some ⟨78, 1, 1, 85⟩) := by rw [e5]; exact rfl
          have t20 : ((k : Int) == 20) = false := by rw [bfn]; omega
          have t21 : ((k : Int) == 21) = false := by rw [bfn]; omega
          have t22 : ((k : Int) == 22) = false := by rw [bfn]; omega
          have t57 : ((k : Int) == 57) = false := by rw [bfn]; omega
          have t26 : ((k : Int) == 26) = false := by rw [bfn]; omega
          have t56 : ((k : Int) == 56) = false := by rw [bfn]; omega
          have t50 : ((k : Int) == 50) = false := by rw [bfn]; omega
          have t51 : ((k : Int) == 51) = false := by rw [bfn]; omega
          have t8 : ((k : Int) == 8) = false := by rw [bfn]; omega
          have t9 : ((k : Int) == 9) = false := by rw [bfn]; omega
          have t10 : ((k : Int) == 10) = false := by rw [bfn]; omega
          have t11 : ((k : Int) == 11) = false := by rw [bfn]; omega
          have t43 : ((k : Int) == 43) = false := by rw [bfn]; omega
          have t44 : ((k : Int) == 44) = false := by rw [bfn]; omega
          have t45 : ((k : Int) == 45) = false := by rw [bfn]; omega
          have t46 : ((k : Int) == 46) = false := by rw [bfn]; omega
          have t47 : ((k : Int) == 47) = false := by rw [bfn]; omega
          have t48 : ((k : Int) == 48) = false := by rw [bfn]; omega
          have t52 : ((k : Int) == 52) = false := by rw [bfn]; omega
          have t54 : ((k : Int) == 54) = false := by rw [bfn]; omega
          have t55 : ((k : Int) == 55) = false := by rw [bfn]; omega
          clear hli e4 e5
          go_wp2_with (first | (refine wpList_lookup_none _ rfl _ _ rfl gm m k (ftab k) rfl rfl (by omega) HM.out.1 HF.out ?_) | (refine wpList_insert_form _ rfl _ _ _ (.inr rfl) gm m k (ftab k) ⟨78, 1, 1, 85⟩ rfl rfl rfl (by omega) (HM.out.1.below ((Below.refl _ _).alloc (nlr _) _)) (by omega) ?_; intro wz mz gz; have HZ := zh (ai mz ((HM.out.2.alloc HM.out.2.size _).grown gz (by have := HM.out.2.size; simp; omega) (fun r hr => by injection hr with hr; rw [<- hr, HGM.out]; exact nlr _))); clear mz gz))
          go_roundw
          case rel => exact ⟨k + 1, m + 1, by go_num, by omega, by omega, by omega, by rw [<- ftab_put HFP.out]; exact HZ.out.1, HZ.out.2⟩
          case measure => simp [intOf]; omega
        . have t5 : ((k : Int) == 5) = false := by rw [bfn]; omega
          by_cases e20 : k = 20
          . have t20 : ((k : Int) == 20) = true := by rw [beq_iff_eq]; omega
            have HFP : Hid (formOf k = some ⟨81, 0, 0, 80⟩) := by rw [e20]; exact rfl
            have t21 : ((k : Int) == 21) = false := by rw [bfn]; omega
            have t22 : ((k : Int) == 22) = false := by rw [bfn]; omega
            have t57 : ((k : Int) == 57) = false := by rw [bfn]; omega
            have t26 : ((k : Int) == 26) = false := by rw [bfn]; omega
            have t56 : ((k : Int) == 56) = false := by rw [bfn]; omega
            have t50 : ((k : Int) == 50) = false := by rw [bfn]; omega
            have t51 : ((k : Int) == 51) = false := by rw [bfn]; omega
            have t8 : ((k : Int) == 8) = false := by rw [bfn]; omega
            have t9 : ((k : Int) == 9) = false := by rw [bfn]; omega
            have t10 : ((k : Int) == 10) = false := by rw [bfn]; omega
            have t11 : ((k : Int) == 11) = false := by rw [bfn]; omega
            have t43 : ((k : Int) == 43) = false := by rw [bfn]; omega
            have t44 : ((k : Int) == 44) = false := by rw [bfn]; omega
            have t45 : ((k : Int) == 45) = false := by rw [bfn]; omega
            have t46 : ((k : Int) == 46) = false := by rw [bfn]; omega
            have t47 : ((k : Int) == 47) = false := by rw [bfn]; omega
            have t48 : ((k : Int) == 48) = false := by rw [bfn]; omega
            have t52 : ((k : Int) == 52) = false := by rw [bfn]; omega
            have t54 : ((k : Int) == 54) = false := by rw [bfn]; omega
            have t55 : ((k : Int) == 55) = false := by rw [bfn]; omega
            clear hli e4 e5 e20
            go_wp2_with (first | (refine wpList_lookup_none _ rfl _ _ rfl gm m k (ftab k) rfl rfl (by omega) HM.out.1 HF.out ?_) | (refine wpList_insert_form _ rfl _ _ _ (.inr rfl) gm m k (ftab k) ⟨81, 0, 0, 80⟩ rfl rfl rfl (by omega) (HM.out.1.below ((Below.refl _ _).alloc (nlr _) _)) (by omega) ?_; intro wz mz gz; have HZ := zh (ai mz ((HM.out.2.alloc HM.out.2.size _).grown gz (by have := HM.out.2.size; simp; omega) (fun r hr => by injection hr with hr; rw [<- hr, HGM.out]; exact nlr _))); clear mz gz))
            go_roundw
            case rel => exact ⟨k + 1, m + 1, by go_num, by omega, by omega, by omega, by rw [<- ftab_put HFP.out]; exact HZ.out.1, HZ.out.2⟩
            case measure => simp [intOf]; omega
          . have t20 : ((k : Int) == 20) = false := by rw [bfn]; omega
            by_cases e21 : k = 21
            . have t21 : ((k : Int) == 21) = true := by rw [beq_iff_eq]; omega
              have HFP : Hid (formOf k = some ⟨81, 0, 0, 80⟩) := by rw [e21]; exact rfl
              have t22 : ((k : Int) == 22) = false := by rw [bfn]; omega
              have t57 : ((k : Int) == 57) = false := by rw [bfn]; omega
              have t26 : ((k : Int) == 26) = false := by rw [bfn]; omega
              have t56 : ((k : Int) == 56) = false := by rw [bfn]; omega
              have t50 : ((k : Int) == 50) = false := by rw [bfn]; omega
              have t51 : ((k : Int) == 51) = false := by rw [bfn]; omega
              have t8 : ((k : Int) == 8) = false := by rw [bfn]; omega
              have t9 : ((k : Int) == 9) = false := by rw [bfn]; omega
              have t10 : ((k : Int) == 10) = false := by rw [bfn]; omega
              have t11 : ((k : Int) == 11) = false := by rw [bfn]; omega
              have t43 : ((k : Int) == 43) = false := by rw [bfn]; omega
              have t44 : ((k : Int) == 44) = false := by rw [bfn]; omega
              have t45 : ((k : Int) == 45) = false := by rw [bfn]; omega
              have t46 : ((k : Int) == 46) = false := by rw [bfn]; omega
              have t47 : ((k : Int) == 47) = false := by rw [bfn]; omega
              have t48 : ((k : Int) == 48) = false := by rw [bfn]; omega
              have t52 : ((k : Int) == 52) = false := by rw [bfn]; omega
              have t54 : ((k : Int) == 54) = false := by rw [bfn]; omega
              have t55 : ((k : Int) == 55) = false := by rw [bfn]; omega
              clear hli e4 e5 e20 e21
              go_wp2_with (first | (refine wpList_lookup_none _ rfl _ _ rfl gm m k (ftab k) rfl rfl (by omega) HM.out.1 HF.out ?_) | (refine wpList_insert_form _ rfl _ _ _ (.inr rfl) gm m k (ftab k) ⟨81, 0, 0, 80⟩ rfl rfl rfl (by omega) (HM.out.1.below ((Below.refl _ _).alloc (nlr _) _)) (by omega) ?_; intro wz mz gz; have HZ := zh (ai mz ((HM.out.2.alloc HM.out.2.size _).grown gz (by have := HM.out.2.size; simp; omega) (fun r hr => by injection hr with hr; rw [<- hr, HGM.out]; exact nlr _))); clear mz gz))
              go_roundw
              case rel => exact ⟨k + 1, m + 1, by go_num, by omega, by omega, by omega, by rw [<- ftab_put HFP.out]; exact HZ.out.1, HZ.out.2⟩
              case measure => simp [intOf]; omega
            . have t21 : ((k : Int) == 21) = false := by rw [bfn]; omega
              by_cases e22 : k = 22
              . have t22 : ((k : Int) == 22) = true := by rw [beq_iff_eq]; omega
                have HFP : Hid (formOf k = some ⟨81, 0, 0, 80⟩) := by rw [e22]; exact rfl
                have t57 : ((k : Int) == 57) = false := by rw [bfn]; omega
                have t26 : ((k : Int) == 26) = false := by rw [bfn]; omega
                have t56 : ((k : Int) == 56) = false := by rw [bfn]; omega
                have t50 : ((k : Int) == 50) = false := by rw [bfn]; omega
                have t51 : ((k : Int) == 51) = false := by rw [bfn]; omega
                have t8 : ((k : Int) == 8) = false := by rw [bfn]; omega
                have t9 : ((k : Int) == 9) = false := by rw [bfn]; omega
                have t10 : ((k : Int) == 10) = false := by rw [bfn]; omega
                have t11 : ((k : Int) == 11) = false := by rw [bfn]; omega
                have t43 : ((k : Int) == 43) = false := by rw [bfn]; omega
                have t44 : ((k : Int) == 44) = false := by rw [bfn]; omega
                have t45 : ((k : Int) == 45) = false := by rw [bfn]; omega
                have t46 : ((k : Int) == 46) = false := by rw [bfn]; omega
                have t47 : ((k : Int) == 47) = false := by rw [bfn]; omega
                have t48 : ((k : Int) == 48) = false := by rw [bfn]; omega
                have t52 : ((k : Int) == 52) = false := by rw [bfn]; omega
                have t54 : ((k : Int) == 54) = false := by rw [bfn]; omega
                have t55 : ((k : Int) == 55) = false := by rw [bfn]; omega
                clear hli e4 e5 e20 e21 e22
                go_wp2_with (first | (refine wpList_lookup_none _ rfl _ _ rfl gm m k (ftab k) rfl rfl (by omega) HM.out.1 HF.out ?_) | (refine wpList_insert_form _ rfl _ _ _ (.inr rfl) gm m k (ftab k) ⟨81, 0, 0, 80⟩ rfl rfl rfl (by omega) (HM.out.1.below ((Below.refl _ _).alloc (nlr _) _)) (by omega) ?_; intro wz mz gz; have HZ := zh (ai mz ((HM.out.2.alloc HM.out.2.size _).grown gz (by have := HM.out.2.size; simp; omega) (fun r hr => by injection hr with hr; rw [<- hr, HGM.out]; exact nlr _))); clear mz gz))
                go_roundw
                case rel => exact ⟨k + 1, m + 1, by go_num, by omega, by omega, by omega, by rw [<- ftab_put HFP.out]; exact HZ.out.1, HZ.out.2⟩
                case measure => simp [intOf]; omega
              . have t22 : ((k : Int) == 22) = false := by rw [bfn]; omega
                by_cases e57 : k = 57
                . have t57 : ((k : Int) == 57) = true := by rw [beq_iff_eq]; omega
                  have HFP : Hid (formOf k = some ⟨81, 0, 0, 80⟩) := by rw [e57]; exact rfl
                  have t26 : ((k : Int) == 26) = false := by rw [bfn]; omega
                  have t56 : ((k : Int) == 56) = false := by rw [bfn]; omega
                  have t50 : ((k : Int) == 50) = false := by rw [bfn]; omega
                  have t51 : ((k : Int) == 51) = false := by rw [bfn]; omega
                  have t8 : ((k : Int) == 8) = false := by rw [bfn]; omega
                  have t9 : ((k : Int) == 9) = false := by rw [bfn]; omega
                  have t10 : ((k : Int) == 10) = false := by rw [bfn]; omega
                  have t11 : ((k : Int) == 11) = false := by rw [bfn]; omega
                  have t43 : ((k : Int) == 43) = false := by rw [bfn]; omega
                  have t44 : ((k : Int) == 44) = false := by rw [bfn]; omega
                  have t45 : ((k : Int) == 45) = false := by rw [bfn]; omega
                  have t46 : ((k : Int) == 46) = false := by rw [bfn]; omega
                  have t47 : ((k : Int) == 47) = false := by rw [bfn]; omega
                  have t48 : ((k : Int) == 48) = false := by rw [bfn]; omega
                  have t52 : ((k : Int) == 52) = false := by rw [bfn]; omega
                  have t54 : ((k : Int) == 54) = false := by rw [bfn]; omega
                  have t55 : ((k : Int) == 55) = false := by rw [bfn]; omega
                  clear hli e4 e5 e20 e21 e22 e57
                  go_wp2_with (first | (refine wpList_lookup_none _ rfl _ _ rfl gm m k (ftab k) rfl rfl (by omega) HM.out.1 HF.out ?_) | (refine wpList_insert_form _ rfl _ _ _ (.inr rfl) gm m k (ftab k) ⟨81, 0, 0, 80⟩ rfl rfl rfl (by omega) (HM.out.1.below ((Below.refl _ _).alloc (nlr _) _)) (by omega) ?_; intro wz mz gz; have HZ := zh (ai mz ((HM.out.2.alloc HM.out.2.size _).grown gz (by have := HM.out.2.size; simp; omega) (fun r hr => by injection hr with hr; rw [<- hr, HGM.out]; exact nlr _))); clear mz gz))
                  go_roundw
                  case rel => exact ⟨k + 1, m + 1, by go_num, by omega, by omega, by omega, by rw [<- ftab_put HFP.out]; exact HZ.out.1, HZ.out.2⟩
                  case measure => simp [intOf]; omega
                . have t57 : ((k : Int) == 57) = false := by rw [bfn]; omega
                  by_cases e26 : k = 26
                  . have t26 : ((k : Int) == 26) = true := by rw [beq_iff_eq]; omega
                    have HFP : Hid (formOf k = some ⟨78, 0, 0, 80⟩) := by rw [e26]; exact rfl
                    have t56 : ((k : Int) == 56) = false := by rw [bfn]; omega
                    have t50 : ((k : Int) == 50) = false := by rw [bfn]; omega
                    have t51 : ((k : Int) == 51) = false := by rw [bfn]; omega
                    have t8 : ((k : Int) == 8) = false := by rw [bfn]; omega
                    have t9 : ((k : Int) == 9) = false := by rw [bfn]; omega
                    have t10 : ((k : Int) == 10) = false := by rw [bfn]; omega
                    have t11 : ((k : Int) == 11) = false := by rw [bfn]; omega
                    have t43 : ((k : Int) == 43) = false := by rw [bfn]; omega
                    have t44 : ((k : Int) == 44) = false := by rw [bfn]; omega
                    have t45 : ((k : Int) == 45) = false := by rw [bfn]; omega
                    have t46 : ((k : Int) == 46) = false := by rw [bfn]; omega
                    have t47 : ((k : Int) == 47) = false := by rw [bfn]; omega
                    have t48 : ((k : Int) == 48) = false := by rw [bfn]; omega
                    have t52 : ((k : Int) == 52) = false := by rw [bfn]; omega
                    have t54 : ((k : Int) == 54) = false := by rw [bfn]; omega
                    have t55 : ((k : Int) == 55) = false := by rw [bfn]; omega
                    clear hli e4 e5 e20 e21 e22 e57 e26
                    go_wp2_with (first | (refine wpList_lookup_none _ rfl _ _ rfl gm m k (ftab k) rfl rfl (by omega) HM.out.1 HF.out ?_) | (refine wpList_insert_form _ rfl _ _ _ (.inr rfl) gm m k (ftab k) ⟨78, 0, 0, 80⟩ rfl rfl rfl (by omega) (HM.out.1.below ((Below.refl _ _).alloc (nlr _) _)) (by omega) ?_; intro wz mz gz; have HZ := zh (ai mz ((HM.out.2.alloc HM.out.2.size _).grown gz (by have := HM.out.2.size; simp; omega) (fun r hr => by injection hr with hr; rw [<- hr, HGM.out]; exact nlr _))); clear mz gz))
                    go_roundw
                    case rel => exact ⟨k + 1, m + 1, by go_num, by omega, by omega, by omega, by rw [<- ftab_put HFP.out]; exact HZ.out.1, HZ.out.2⟩
                    case measure => simp [intOf]; omega
                  . have t26 : ((k : Int) == 26) = false := by rw [bfn]; omega
                    by_cases e56 : k = 56
                    . have t56 : ((k : Int) == 56) = true := by rw [beq_iff_eq]; omega
                      have HFP : Hid (formOf k = some ⟨78, 0, 0, 80⟩) := by rw [e56]; exact rfl
                      have t50 : ((k : Int) == 50) = false := by rw [bfn]; omega
                      have t51 : ((k : Int) == 51) = false := by rw [bfn]; omega
                      have t8 : ((k : Int) == 8) = false := by rw [bfn]; omega
                      have t9 : ((k : Int) == 9) = false := by rw [bfn]; omega
                      have t10 : ((k : Int) == 10) = false := by rw [bfn]; omega
                      have t11 : ((k : Int) == 11) = false := by rw [bfn]; omega
                      have t43 : ((k : Int) == 43) = false := by rw [bfn]; omega
                      have t44 : ((k : Int) == 44) = false := by rw [bfn]; omega
                      have t45 : ((k : Int) == 45) = false := by rw [bfn]; omega
                      have t46 : ((k : Int) == 46) = false := by rw [bfn]; omega
                      have t47 : ((k : Int) == 47) = false := by rw [bfn]; omega
                      have t48 : ((k : Int) == 48) = false := by rw [bfn]; omega
                      have t52 : ((k : Int) == 52) = false := by rw [bfn]; omega
                      have t54 : ((k : Int) == 54) = false := by rw [bfn]; omega
                      have t55 : ((k : Int) == 55) = false := by rw [bfn]; omega
                      clear hli e4 e5 e20 e21 e22 e57 e26 e56
                      go_wp2_with (first | (refine wpList_lookup_none _ rfl _ _ rfl gm m k (ftab k) rfl rfl (by omega) HM.out.1 HF.out ?_) | (refine wpList_insert_form _ rfl _ _ _ (.inr rfl) gm m k (ftab k) ⟨78, 0, 0, 80⟩ rfl rfl rfl (by omega) (HM.out.1.below ((Below.refl _ _).alloc (nlr _) _)) (by omega) ?_; intro wz mz gz; have HZ := zh (ai mz ((HM.out.2.alloc HM.out.2.size _).grown gz (by have := HM.out.2.size; simp; omega) (fun r hr => by injection hr with hr; rw [<- hr, HGM.out]; exact nlr _))); clear mz gz))
                      go_roundw
                      case rel => exact ⟨k + 1, m + 1, by go_num, by omega, by omega, by omega, by rw [<- ftab_put HFP.out]; exact HZ.out.1, HZ.out.2⟩
                      case measure => simp [intOf]; omega
                    . have t56 : ((k : Int) == 56) = false := by rw [bfn]; omega
                      by_cases e50 : k = 50
                      . have t50 : ((k : Int) == 50) = true := by rw [beq_iff_eq]; omega
                        have HFP : Hid (formOf k = some ⟨78, 0, 2048, 85⟩) := by rw [e50]; exact rfl
                        have t51 : ((k : Int) == 51) = false := by rw [bfn]; omega
                        have t8 : ((k : Int) == 8) = false := by rw [bfn]; omega
                        have t9 : ((k : Int) == 9) = false := by rw [bfn]; omega
                        have t10 : ((k : Int) == 10) = false := by rw [bfn]; omega
                        have t11 : ((k : Int) == 11) = false := by rw [bfn]; omega
                        have t43 : ((k : Int) == 43) = false := by rw [bfn]; omega
                        have t44 : ((k : Int) == 44) = false := by rw [bfn]; omega
                        have t45 : ((k : Int) == 45) = false := by rw [bfn]; omega
                        have t46 : ((k : Int) == 46) = false := by rw [bfn]; omega
                        have t47 : ((k : Int) == 47) = false := by rw [bfn]; omega
                        have t48 : ((k : Int) == 48) = false := by rw [bfn]; omega
                        have t52 : ((k : Int) == 52) = false := by rw [bfn]; omega
                        have t54 : ((k : Int) == 54) = false := by rw [bfn]; omega
                        have t55 : ((k : Int) == 55) = false := by rw [bfn]; omega
                        clear hli e4 e5 e20 e21 e22 e57 e26 e56 e50
                        go_wp2_with (first | (refine wpList_lookup_none _ rfl _ _ rfl gm m k (ftab k) rfl rfl (by omega) HM.out.1 HF.out ?_) | (refine wpList_insert_form _ rfl _ _ _ (.inr rfl) gm m k (ftab k) ⟨78, 0, 2048, 85⟩ rfl rfl rfl (by omega) (HM.out.1.below ((Below.refl _ _).alloc (nlr _) _)) (by omega) ?_; intro wz mz gz; have HZ := zh (ai mz ((HM.out.2.alloc HM.out.2.size _).grown gz (by have := HM.out.2.size; simp; omega) (fun r hr => by injection hr with hr; rw [<- hr, HGM.out]; exact nlr _))); clear mz gz))
                        go_roundw
                        case rel => exact ⟨k + 1, m + 1, by go_num, by omega, by omega, by omega, by rw [<- ftab_put HFP.out]; exact HZ.out.1, HZ.out.2⟩
                        case measure => simp [intOf]; omega
                      . have t50 : ((k : Int) == 50) = false := by rw [bfn]; omega
                        by_cases e51 : k = 51
                        . have t51 : ((k : Int) == 51) = true := by rw [beq_iff_eq]; omega
                          have HFP : Hid (formOf k = some ⟨78, 0, 2048, 85⟩) := by rw [e51]; exact rfl
                          have t8 : ((k : Int) == 8) = false := by rw [bfn]; omega
                          have t9 : ((k : Int) == 9) = false := by rw [bfn]; omega
                          have t10 : ((k : Int) == 10) = false := by rw [bfn]; omega
                          have t11 : ((k : Int) == 11) = false := by rw [bfn]; omega
                          have t43 : ((k : Int) == 43) = false := by rw [bfn]; omega
                          have t44 : ((k : Int) == 44) = false := by rw [bfn]; omega
                          have t45 : ((k : Int) == 45) = false := by rw [bfn]; omega
                          have t46 : ((k : Int) == 46) = false := by rw [bfn]; omega
                          have t47 : ((k : Int) == 47) = false := by rw [bfn]; omega
                          have t48 : ((k : Int) == 48) = false := by rw [bfn]; omega
                          have t52 : ((k : Int) == 52) = false := by rw [bfn]; omega
                          have t54 : ((k : Int) == 54) = false := by rw [bfn]; omega
                          have t55 : ((k : Int) == 55) = false := by rw [bfn]; omega
                          clear hli e4 e5 e20 e21 e22 e57 e26 e56 e50 e51
                          go_wp2_with (first | (refine wpList_lookup_none _ rfl _ _ rfl gm m k (ftab k) rfl rfl (by omega) HM.out.1 HF.out ?_) | (refine wpList_insert_form _ rfl _ _ _ (.inr rfl) gm m k (ftab k) ⟨78, 0, 2048, 85⟩ rfl rfl rfl (by omega) (HM.out.1.below ((Below.refl _ _).alloc (nlr _) _)) (by omega) ?_; intro wz mz gz; have HZ := zh (ai mz ((HM.out.2.alloc HM.out.2.size _).grown gz (by have := HM.out.2.size; simp; omega) (fun r hr => by injection hr with hr; rw [<- hr, HGM.out]; exact nlr _))); clear mz gz))
                          go_roundw
                          case rel => exact ⟨k + 1, m + 1, by go_num, by omega, by omega, by omega, by rw [<- ftab_put HFP.out]; exact HZ.out.1, HZ.out.2⟩
                          case measure => simp [intOf]; omega
                        . have t51 : ((k : Int) == 51) = false := by rw [bfn]; omega
                          by_cases e8 : k = 8
                          . have t8 : ((k : Int) == 8) = true := by rw [beq_iff_eq]; omega
                            have HFP : Hid (formOf k = some ⟨81, 1, 1, 85⟩) := by rw [e8]; exact rfl
                            have t9 : ((k : Int) == 9) = false := by rw [bfn]; omega
                            have t10 : ((k : Int) == 10) = false := by rw [bfn]; omega
                            have t11 : ((k : Int) == 11) = false := by rw [bfn]; omega
                            have t43 : ((k : Int) == 43) = false := by rw [bfn]; omega
                            have t44 : ((k : Int) == 44) = false := by rw [bfn]; omega
                            have t45 : ((k : Int) == 45) = false := by rw [bfn]; omega
                            have t46 : ((k : Int) == 46) = false := by rw [bfn]; omega
                            have t47 : ((k : Int) == 47) = false := by rw [bfn]; omega
                            have t48 : ((k : Int) == 48) = false := by rw [bfn]; omega
                            have t52 : ((k : Int) == 52) = false := by rw [bfn]; omega
                            have t54 : ((k : Int) == 54) = false := by rw [bfn]; omega
                            have t55 : ((k : Int) == 55) = false := by rw [bfn]; omega
                            clear hli e4 e5 e20 e21 e22 e57 e26 e56 e50 e51 e8
                            go_wp2_with (first | (refine wpList_lookup_none _ rfl _ _ rfl gm m k (ftab k) rfl rfl (by omega) HM.out.1 HF.out ?_) | (refine wpList_insert_form _ rfl _ _ _ (.inr rfl) gm m k (ftab k) ⟨81, 1, 1, 85⟩ rfl rfl rfl (by omega) (HM.out.1.below ((Below.refl _ _).alloc (nlr _) _)) (by omega) ?_; intro wz mz gz; have HZ := zh (ai mz ((HM.out.2.alloc HM.out.2.size _).grown gz (by have := HM.out.2.size; simp; omega) (fun r hr => by injection hr with hr; rw [<- hr, HGM.out]; exact nlr _))); clear mz gz))
                            go_roundw
                            case rel => exact ⟨k + 1, m + 1, by go_num, by omega, by omega, by omega, by rw [<- ftab_put HFP.out]; exact HZ.out.1, HZ.out.2⟩
                            case measure => simp [intOf]; omega
                          . have t8 : ((k : Int) == 8) = false := by rw [bfn]; omega
                            by_cases e9 : k = 9
                            . have t9 : ((k : Int) == 9) = true := by rw [beq_iff_eq]; omega
                              have HFP : Hid (formOf k = some ⟨81, 1, 1, 85⟩) := by rw [e9]; exact rfl
                              have t10 : ((k : Int) == 10) = false := by rw [bfn]; omega
                              have t11 : ((k : Int) == 11) = false := by rw [bfn]; omega
                              have t43 : ((k : Int) == 43) = false := by rw [bfn]; omega
                              have t44 : ((k : Int) == 44) = false := by rw [bfn]; omega
                              have t45 : ((k : Int) == 45) = false := by rw [bfn]; omega
                              have t46 : ((k : Int) == 46) = false := by rw [bfn]; omega
                              have t47 : ((k : Int) == 47) = false := by rw [bfn]; omega
                              have t48 : ((k : Int) == 48) = false := by rw [bfn]; omega
                              have t52 : ((k : Int) == 52) = false := by rw [bfn]; omega
                              have t54 : ((k : Int) == 54) = false := by rw [bfn]; omega
                              have t55 : ((k : Int) == 55) = false := by rw [bfn]; omega
                              clear hli e4 e5 e20 e21 e22 e57 e26 e56 e50 e51 e8 e9
                              go_wp2_with (first | (refine wpList_lookup_none _ rfl _ _ rfl gm m k (ftab k) rfl rfl (by omega) HM.out.1 HF.out ?_) | (refine wpList_insert_form _ rfl _ _ _ (.inr rfl) gm m k (ftab k) ⟨81, 1, 1, 85⟩ rfl rfl rfl (by omega) (HM.out.1.below ((Below.refl _ _).alloc (nlr _) _)) (by omega) ?_; intro wz mz gz; have HZ := zh (ai mz ((HM.out.2.alloc HM.out.2.size _).grown gz (by have := HM.out.2.size; simp; omega) (fun r hr => by injection hr with hr; rw [<- hr, HGM.out]; exact nlr _))); clear mz gz))
                              go_roundw
                              case rel => exact ⟨k + 1, m + 1, by go_num, by omega, by omega, by omega, by rw [<- ftab_put HFP.out]; exact HZ.out.1, HZ.out.2⟩
                              case measure => simp [intOf]; omega
                            . have t9 : ((k : Int) == 9) = false := by rw [bfn]; omega
                              by_cases e10 : k = 10
                              . have t10 : ((k : Int) == 10) = true := by rw [beq_iff_eq]; omega
                                have HFP : Hid (formOf k = some ⟨81, 1, 1, 85⟩) := by rw [e10]; exact rfl
                                have t11 : ((k : Int) == 11) = false := by rw [bfn]; omega
                                have t43 : ((k : Int) == 43) = false := by rw [bfn]; omega
                                have t44 : ((k : Int) == 44) = false := by rw [bfn]; omega
                                have t45 : ((k : Int) == 45) = false := by rw [bfn]; omega
                                have t46 : ((k : Int) == 46) = false := by rw [bfn]; omega
                                have t47 : ((k : Int) == 47) = false := by rw [bfn]; omega
                                have t48 : ((k : Int) == 48) = false := by rw [bfn]; omega
                                have t52 : ((k : Int) == 52) = false := by rw [bfn]; omega
                                have t54 : ((k : Int) == 54) = false := by rw [bfn]; omega
                                have t55 : ((k : Int) == 55) = false := by rw [bfn]; omega
                                clear hli e4 e5 e20 e21 e22 e57 e26 e56 e50 e51 e8 e9 e10
                                go_wp2_with (first | (refine wpList_lookup_none _ rfl _ _ rfl gm m k (ftab k) rfl rfl (by omega) HM.out.1 HF.out ?_) | (refine wpList_insert_form _ rfl _ _ _ (.inr rfl) gm m k (ftab k) ⟨81, 1, 1, 85⟩ rfl rfl rfl (by omega) (HM.out.1.below ((Below.refl _ _).alloc (nlr _) _)) (by omega) ?_; intro wz mz gz; have HZ := zh (ai mz ((HM.out.2.alloc HM.out.2.size _).grown gz (by have := HM.out.2.size; simp; omega) (fun r hr => by injection hr with hr; rw [<- hr, HGM.out]; exact nlr _))); clear mz gz))
                                go_roundw
                                case rel => exact ⟨k + 1, m + 1, by go_num, by omega, by omega, by omega, by rw [<- ftab_put HFP.out]; exact HZ.out.1, HZ.out.2⟩
                                case measure => simp [intOf]; omega
                              . have t10 : ((k : Int) == 10) = false := by rw [bfn]; omega
                                by_cases e11 : k = 11
                                . have t11 : ((k : Int) == 11) = true := by rw [beq_iff_eq]; omega
                                  have HFP : Hid (formOf k = some ⟨81, 1, 1, 85⟩) := by rw [e11]; exact rfl
                                  have t43 : ((k : Int) == 43) = false := by rw [bfn]; omega
                                  have t44 : ((k : Int) == 44) = false := by rw [bfn]; omega
                                  have t45 : ((k : Int) == 45) = false := by rw [bfn]; omega
                                  have t46 : ((k : Int) == 46) = false := by rw [bfn]; omega
                                  have t47 : ((k : Int) == 47) = false := by rw [bfn]; omega
                                  have t48 : ((k : Int) == 48) = false := by rw [bfn]; omega
                                  have t52 : ((k : Int) == 52) = false := by rw [bfn]; omega
                                  have t54 : ((k : Int) == 54) = false := by rw [bfn]; omega
                                  have t55 : ((k : Int) == 55) = false := by rw [bfn]; omega
                                  clear hli e4 e5 e20 e21 e22 e57 e26 e56 e50 e51 e8 e9 e10 e11
                                  go_wp2_with (first | (refine wpList_lookup_none _ rfl _ _ rfl gm m k (ftab k) rfl rfl (by omega) HM.out.1 HF.out ?_) | (refine wpList_insert_form _ rfl _ _ _ (.inr rfl) gm m k (ftab k) ⟨81, 1, 1, 85⟩ rfl rfl rfl (by omega) (HM.out.1.below ((Below.refl _ _).alloc (nlr _) _)) (by omega) ?_; intro wz mz gz; have HZ := zh (ai mz ((HM.out.2.alloc HM.out.2.size _).grown gz (by have := HM.out.2.size; simp; omega) (fun r hr => by injection hr with hr; rw [<- hr, HGM.out]; exact nlr _))); clear mz gz))
                                  go_roundw
                                  case rel => exact ⟨k + 1, m + 1, by go_num, by omega, by omega, by omega, by rw [<- ftab_put HFP.out]; exact HZ.out.1, HZ.out.2⟩
                                  case measure => simp [intOf]; omega
                                . have t11 : ((k : Int) == 11) = false := by rw [bfn]; omega
                                  by_cases e43 : k = 43
                                  . have t43 : ((k : Int) == 43) = true := by rw [beq_iff_eq]; omega
                                    have HFP : Hid (formOf k = some ⟨81, 1, 1, 85⟩) := by rw [e43]; exact rfl
                                    have t44 : ((k : Int) == 44) = false := by rw [bfn]; omega
                                    have t45 : ((k : Int) == 45) = false := by rw [bfn]; omega
                                    have t46 : ((k : Int) == 46) = false := by rw [bfn]; omega
                                    have t47 : ((k : Int) == 47) = false := by rw [bfn]; omega
                                    have t48 : ((k : Int) == 48) = false := by rw [bfn]; omega
                                    have t52 : ((k : Int) == 52) = false := by rw [bfn]; omega
                                    have t54 : ((k : Int) == 54) = false := by rw [bfn]; omega
                                    have t55 : ((k : Int) == 55) = false := by rw [bfn]; omega
                                    clear hli e4 e5 e20 e21 e22 e57 e26 e56 e50 e51 e8 e9 e10 e11 e43
                                    go_wp2_with (first | (refine wpList_lookup_none _ rfl _ _ rfl gm m k (ftab k) rfl rfl (by omega) HM.out.1 HF.out ?_) | (refine wpList_insert_form _ rfl _ _ _ (.inr rfl) gm m k (ftab k) ⟨81, 1, 1, 85⟩ rfl rfl rfl (by omega) (HM.out.1.below ((Below.refl _ _).alloc (nlr _) _)) (by omega) ?_; intro wz mz gz; have HZ := zh (ai mz ((HM.out.2.alloc HM.out.2.size _).grown gz (by have := HM.out.2.size; simp; omega) (fun r hr => by injection hr with hr; rw [<- hr, HGM.out]; exact nlr _))); clear mz gz))
                                    go_roundw
                                    case rel => exact ⟨k + 1, m + 1, by go_num, by omega, by omega, by omega, by rw [<- ftab_put HFP.out]; exact HZ.out.1, HZ.out.2⟩
                                    case measure => simp [intOf]; omega
                                  . have t43 : ((k : Int) == 43) = false := by rw [bfn]; omega
                                    by_cases e44 : k = 44
                                    . have t44 : ((k : Int) == 44) = true := by rw [beq_iff_eq]; omega
                                      have HFP : Hid (formOf k = some ⟨81, 1, 1, 85⟩) := by rw [e44]; exact rfl
                                      have t45 : ((k : Int) == 45) = false := by rw [bfn]; omega
                                      have t46 : ((k : Int) == 46) = false := by rw [bfn]; omega
                                      have t47 : ((k : Int) == 47) = false := by rw [bfn]; omega
                                      have t48 : ((k : Int) == 48) = false := by rw [bfn]; omega
                                      have t52 : ((k : Int) == 52) = false := by rw [bfn]; omega
                                      have t54 : ((k : Int) == 54) = false := by rw [bfn]; omega
                                      have t55 : ((k : Int) == 55) = false := by rw [bfn]; omega
                                      clear hli e4 e5 e20 e21 e22 e57 e26 e56 e50 e51 e8 e9 e10 e11 e43 e44
                                      go_wp2_with (first | (refine wpList_lookup_none _ rfl _ _ rfl gm m k (ftab k) rfl rfl (by omega) HM.out.1 HF.out ?_) | (refine wpList_insert_form _ rfl _ _ _ (.inr rfl) gm m k (ftab k) ⟨81, 1, 1, 85⟩ rfl rfl rfl (by omega) (HM.out.1.below ((Below.refl _ _).alloc (nlr _) _)) (by omega) ?_; intro wz mz gz; have HZ := zh (ai mz ((HM.out.2.alloc HM.out.2.size _).grown gz (by have := HM.out.2.size; simp; omega) (fun r hr => by injection hr with hr; rw [<- hr, HGM.out]; exact nlr _))); clear mz gz))
                                      go_roundw
                                      case rel => exact ⟨k + 1, m + 1, by go_num, by omega, by omega, by omega, by rw [<- ftab_put HFP.out]; exact HZ.out.1, HZ.out.2⟩
                                      case measure => simp [intOf]; omega
                                    . have t44 : ((k : Int) == 44) = false := by rw [bfn]; omega
                                      by_cases e45 : k = 45
                                      . have t45 : ((k : Int) == 45) = true := by rw [beq_iff_eq]; omega
                                        have HFP : Hid (formOf k = some ⟨81, 1, 1, 85⟩) := by rw [e45]; exact rfl
                                        have t46 : ((k : Int) == 46) = false := by rw [bfn]; omega
                                        have t47 : ((k : Int) == 47) = false := by rw [bfn]; omega
                                        have t48 : ((k : Int) == 48) = false := by rw [bfn]; omega
                                        have t52 : ((k : Int) == 52) = false := by rw [bfn]; omega
                                        have t54 : ((k : Int) == 54) = false := by rw [bfn]; omega
                                        have t55 : ((k : Int) == 55) = false := by rw [bfn]; omega
                                        clear hli e4 e5 e20 e21 e22 e57 e26 e56 e50 e51 e8 e9 e10 e11 e43 e44 e45
                                        go_wp2_with (first | (refine wpList_lookup_none _ rfl _ _ rfl gm m k (ftab k) rfl rfl (by omega) HM.out.1 HF.out ?_) | (refine wpList_insert_form _ rfl _ _ _ (.inr rfl) gm m k (ftab k) ⟨81, 1, 1, 85⟩ rfl rfl rfl (by omega) (HM.out.1.below ((Below.refl _ _).alloc (nlr _) _)) (by omega) ?_; intro wz mz gz; have HZ := zh (ai mz ((HM.out.2.alloc HM.out.2.size _).grown gz (by have := HM.out.2.size; simp; omega) (fun r hr => by injection hr with hr; rw [<- hr, HGM.out]; exact nlr _))); clear mz gz))
                                        go_roundw
                                        case rel => exact ⟨k + 1, m + 1, by go_num, by omega, by omega, by omega, by rw [<- ftab_put HFP.out]; exact HZ.out.1, HZ.out.2⟩
                                        case measure => simp [intOf]; omega
                                      . have t45 : ((k : Int) == 45) = false := by rw [bfn]; omega
                                        by_cases e46 : k = 46
                                        . have t46 : ((k : Int) == 46) = true := by rw [beq_iff_eq]; omega
                                          have HFP : Hid (formOf k = some ⟨81, 1, 1, 85⟩) := by rw [e46]; exact rfl
                                          have t47 : ((k : Int) == 47) = false := by rw [bfn]; omega
                                          have t48 : ((k : Int) == 48) = false := by rw [bfn]; omega
                                          have t52 : ((k : Int) == 52) = false := by rw [bfn]; omega
                                          have t54 : ((k : Int) == 54) = false := by rw [bfn]; omega
                                          have t55 : ((k : Int) == 55) = false := by rw [bfn]; omega
                                          clear hli e4 e5 e20 e21 e22 e57 e26 e56 e50 e51 e8 e9 e10 e11 e43 e44 e45 e46
                                          go_wp2_with (first | (refine wpList_lookup_none _ rfl _ _ rfl gm m k (ftab k) rfl rfl (by omega) HM.out.1 HF.out ?_) | (refine wpList_insert_form _ rfl _ _ _ (.inr rfl) gm m k (ftab k) ⟨81, 1, 1, 85⟩ rfl rfl rfl (by omega) (HM.out.1.below ((Below.refl _ _).alloc (nlr _) _)) (by omega) ?_; intro wz mz gz; have HZ := zh (ai mz ((HM.out.2.alloc HM.out.2.size _).grown gz (by have := HM.out.2.size; simp; omega) (fun r hr => by injection hr with hr; rw [<- hr, HGM.out]; exact nlr _))); clear mz gz))
                                          go_roundw
                                          case rel => exact ⟨k + 1, m + 1, by go_num, by omega, by omega, by omega, by rw [<- ftab_put HFP.out]; exact HZ.out.1, HZ.out.2⟩
                                          case measure => simp [intOf]; omega
                                        . have t46 : ((k : Int) == 46) = false := by rw [bfn]; omega
                                          by_cases e47 : k = 47
                                          . have t47 : ((k : Int) == 47) = true := by rw [beq_iff_eq]; omega
                                            have HFP : Hid (formOf k = some ⟨81, 1, 1, 85⟩) := by rw [e47]; exact rfl
                                            have t48 : ((k : Int) == 48) = false := by rw [bfn]; omega
                                            have t52 : ((k : Int) == 52) = false := by rw [bfn]; omega
                                            have t54 : ((k : Int) == 54) = false := by rw [bfn]; omega
                                            have t55 : ((k : Int) == 55) = false := by rw [bfn]; omega
                                            clear hli e4 e5 e20 e21 e22 e57 e26 e56 e50 e51 e8 e9 e10 e11 e43 e44 e45 e46 e47
                                            go_wp2_with (first | (refine wpList_lookup_none _ rfl _ _ rfl gm m k (ftab k) rfl rfl (by omega) HM.out.1 HF.out ?_) | (refine wpList_insert_form _ rfl _ _ _ (.inr rfl) gm m k (ftab k) ⟨81, 1, 1, 85⟩ rfl rfl rfl (by omega) (HM.out.1.below ((Below.refl _ _).alloc (nlr _) _)) (by omega) ?_; intro wz mz gz; have HZ := zh (ai mz ((HM.out.2.alloc HM.out.2.size _).grown gz (by have := HM.out.2.size; simp; omega) (fun r hr => by injection hr with hr; rw [<- hr, HGM.out]; exact nlr _))); clear mz gz))
                                            go_roundw
                                            case rel => exact ⟨k + 1, m + 1, by go_num, by omega, by omega, by omega, by rw [<- ftab_put HFP.out]; exact HZ.out.1, HZ.out.2⟩
                                            case measure => simp [intOf]; omega
                                          . have t47 : ((k : Int) == 47) = false := by rw [bfn]; omega
                                            by_cases e48 : k = 48
                                            . have t48 : ((k : Int) == 48) = true := by rw [beq_iff_eq]; omega
                                              have HFP : Hid (formOf k = some ⟨81, 1, 1, 85⟩) := by rw [e48]; exact rfl
                                              have t52 : ((k : Int) == 52) = false := by rw [bfn]; omega
                                              have t54 : ((k : Int) == 54) = false := by rw [bfn]; omega
                                              have t55 : ((k : Int) == 55) = false := by rw [bfn]; omega
                                              clear hli e4 e5 e20 e21 e22 e57 e26 e56 e50 e51 e8 e9 e10 e11 e43 e44 e45 e46 e47 e48
                                              go_wp2_with (first | (refine wpList_lookup_none _ rfl _ _ rfl gm m k (ftab k) rfl rfl (by omega) HM.out.1 HF.out ?_) | (refine wpList_insert_form _ rfl _ _ _ (.inr rfl) gm m k (ftab k) ⟨81, 1, 1, 85⟩ rfl rfl rfl (by omega) (HM.out.1.below ((Below.refl _ _).alloc (nlr _) _)) (by omega) ?_; intro wz mz gz; have HZ := zh (ai mz ((HM.out.2.alloc HM.out.2.size _).grown gz (by have := HM.out.2.size; simp; omega) (fun r hr => by injection hr with hr; rw [<- hr, HGM.out]; exact nlr _))); clear mz gz))
                                              go_roundw
                                              case rel => exact ⟨k + 1, m + 1, by go_num, by omega, by omega, by omega, by rw [<- ftab_put HFP.out]; exact HZ.out.1, HZ.out.2⟩
                                              case measure => simp [intOf]; omega
                                            . have t48 : ((k : Int) == 48) = false := by rw [bfn]; omega
                                              by_cases e52 : k = 52
                                              . have t52 : ((k : Int) == 52) = true := by rw [beq_iff_eq]; omega
                                                have HFP : Hid (formOf k = some ⟨81, 1, 1, 85⟩) := by rw [e52]; exact rfl
                                                have t54 : ((k : Int) == 54) = false := by rw [bfn]; omega
                                                have t55 : ((k : Int) == 55) = false := by rw [bfn]; omega
                                                clear hli e4 e5 e20 e21 e22 e57 e26 e56 e50 e51 e8 e9 e10 e11 e43 e44 e45 e46 e47 e48 e52
                                                go_wp2_with (first | (refine wpList_lookup_none _ rfl _ _ rfl gm m k (ftab k) rfl rfl (by omega) HM.out.1 HF.out ?_) | (refine wpList_insert_form _ rfl _ _ _ (.inr rfl) gm m k (ftab k) ⟨81, 1, 1, 85⟩ rfl rfl rfl (by omega) (HM.out.1.below ((Below.refl _ _).alloc (nlr _) _)) (by omega) ?_; intro wz mz gz; have HZ := zh (ai mz ((HM.out.2.alloc HM.out.2.size _).grown gz (by have := HM.out.2.size; simp; omega) (fun r hr => by injection hr with hr; rw [<- hr, HGM.out]; exact nlr _))); clear mz gz))
                                                go_roundw
                                                case rel => exact ⟨k + 1, m + 1, by go_num, by omega, by omega, by omega, by rw [<- ftab_put HFP.out]; exact HZ.out.1, HZ.out.2⟩
                                                case measure => simp [intOf]; omega
                                              . have t52 : ((k : Int) == 52) = false := by rw [bfn]; omega
                                                by_cases e54 : k = 54
                                                . have t54 : ((k : Int) == 54) = true := by rw [beq_iff_eq]; omega
                                                  have HFP : Hid (formOf k = some ⟨81, 1, 1, 85⟩) := by rw [e54]; exact rfl
                                                  have t55 : ((k : Int) == 55) = false := by rw [bfn]; omega
                                                  clear hli e4 e5 e20 e21 e22 e57 e26 e56 e50 e51 e8 e9 e10 e11 e43 e44 e45 e46 e47 e48 e52 e54
                                                  go_wp2_with (first | (refine wpList_lookup_none _ rfl _ _ rfl gm m k (ftab k) rfl rfl (by omega) HM.out.1 HF.out ?_) | (refine wpList_insert_form _ rfl _ _ _ (.inr rfl) gm m k (ftab k) ⟨81, 1, 1, 85⟩ rfl rfl rfl (by omega) (HM.out.1.below ((Below.refl _ _).alloc (nlr _) _)) (by omega) ?_; intro wz mz gz; have HZ := zh (ai mz ((HM.out.2.alloc HM.out.2.size _).grown gz (by have := HM.out.2.size; simp; omega) (fun r hr => by injection hr with hr; rw [<- hr, HGM.out]; exact nlr _))); clear mz gz))
                                                  go_roundw
                                                  case rel => exact ⟨k + 1, m + 1, by go_num, by omega, by omega, by omega, by rw [<- ftab_put HFP.out]; exact HZ.out.1, HZ.out.2⟩
                                                  case measure => simp [intOf]; omega
                                                . have t54 : ((k : Int) == 54) = false := by rw [bfn]; omega
                                                  by_cases e55 : k = 55
                                                  . have t55 : ((k : Int) == 55) = true := by rw [beq_iff_eq]; omega
                                                    have HFP : Hid (formOf k = some ⟨81, 1, 1, 85⟩) := by rw [e55]; exact rfl
                                                    clear hli e4 e5 e20 e21 e22 e57 e26 e56 e50 e51 e8 e9 e10 e11 e43 e44 e45 e46 e47 e48 e52 e54 e55
                                                    go_wp2_with (first | (refine wpList_lookup_none _ rfl _ _ rfl gm m k (ftab k) rfl rfl (by omega) HM.out.1 HF.out ?_) | (refine wpList_insert_form _ rfl _ _ _ (.inr rfl) gm m k (ftab k) ⟨81, 1, 1, 85⟩ rfl rfl rfl (by omega) (HM.out.1.below ((Below.refl _ _).alloc (nlr _) _)) (by omega) ?_; intro wz mz gz; have HZ := zh (ai mz ((HM.out.2.alloc HM.out.2.size _).grown gz (by have := HM.out.2.size; simp; omega) (fun r hr => by injection hr with hr; rw [<- hr, HGM.out]; exact nlr _))); clear mz gz))
                                                    go_roundw
                                                    case rel => exact ⟨k + 1, m + 1, by go_num, by omega, by omega, by omega, by rw [<- ftab_put HFP.out]; exact HZ.out.1, HZ.out.2⟩
                                                    case measure => simp [intOf]; omega
                                                  . have t55 : ((k : Int) == 55) = false := by rw [bfn]; omega
                                                    by_cases q1 : 30 <= k
                                                    . by_cases q2 : k <= 42
                                                      . have HFP : Hid (formOf k = some ⟨81, 2, 2, 85⟩) := formOf_mid q1 q2
                                                        have d1 : decide ((30 : Int) <= (k : Int)) = true := dqt (by omega)
                                                        have d2 : decide ((k : Int) <= (42 : Int)) = true := dqt (by omega)
                                                        clear hli e4 e5 e20 e21 e22 e57 e26 e56 e50 e51 e8 e9 e10 e11 e43 e44 e45 e46 e47 e48 e52 e54 e55
                                                        go_wp2_with (first | (refine wpList_lookup_none _ rfl _ _ rfl gm m k (ftab k) rfl rfl (by omega) HM.out.1 HF.out ?_) | (refine wpList_insert_form _ rfl _ _ _ (.inr rfl) gm m k (ftab k) ⟨81, 2, 2, 85⟩ rfl rfl rfl (by omega) (HM.out.1.below ((Below.refl _ _).alloc (nlr _) _)) (by omega) ?_; intro wz mz gz; have HZ := zh (ai mz ((HM.out.2.alloc HM.out.2.size _).grown gz (by have := HM.out.2.size; simp; omega) (fun r hr => by injection hr with hr; rw [<- hr, HGM.out]; exact nlr _))); clear mz gz))
                                                        go_roundw
                                                        case rel => exact ⟨k + 1, m + 1, by go_num, by omega, by omega, by omega, by rw [<- ftab_put HFP.out]; exact HZ.out.1, HZ.out.2⟩
                                                        case measure => simp [intOf]; omega
                                                      . have HFP : Hid (formOf k = none) := formOf_no hli hlt (by omega) (by omega)
                                                        have d1 : decide ((30 : Int) <= (k : Int)) = true := dqt (by omega)
                                                        have d2 : decide ((k : Int) <= (42 : Int)) = false := dqf (by omega)
                                                        clear hli e4 e5 e20 e21 e22 e57 e26 e56 e50 e51 e8 e9 e10 e11 e43 e44 e45 e46 e47 e48 e52 e54 e55
                                                        go_wp2_with (refine wpList_lookup_none _ rfl _ _ rfl gm m k (ftab k) rfl rfl (by omega) HM.out.1 HF.out ?_)
                                                        go_roundw
                                                        case rel => exact ⟨k + 1, m, by go_num, by omega, by omega, by omega, by rw [ftab_skip (.inr HFP.out)]; exact HM.out.1.below ((Below.refl _ _).alloc (nlr _) _), HM.out.2.alloc HM.out.2.size _⟩
                                                        case measure => simp [intOf]; omega
                                                    . have HFP : Hid (formOf k = none) := formOf_no hli hlt (by omega) (by omega)
                                                      have d1 : decide ((30 : Int) <= (k : Int)) = false := dqf (by omega)
                                                      clear hli e4 e5 e20 e21 e22 e57 e26 e56 e50 e51 e8 e9 e10 e11 e43 e44 e45 e46 e47 e48 e52 e54 e55
                                                      go_wp2_with (refine wpList_lookup_none _ rfl _ _ rfl gm m k (ftab k) rfl rfl (by omega) HM.out.1 HF.out ?_)
                                                      go_roundw
                                                      case rel => exact ⟨k + 1, m, by go_num, by omega, by omega, by omega, by rw [ftab_skip (.inr HFP.out)]; exact HM.out.1.below ((Below.refl _ _).alloc (nlr _) _), HM.out.2.alloc HM.out.2.size _⟩
                                                      case measure => simp [intOf]; omega
  . have hk : k = 58 := by omega
    subst hk
    go_wp2_with fail
    go_ret
    exact ⟨gm, m, rfl, by have h := HM.out.1; rw [show ftab 58 = formOf from funext ftab_all] at h; exact h, HM.out.2, by rw [HGM.out]; exact nlr _⟩
end Go.Proofs.YtbcadlocldplfaaDoor.T8
