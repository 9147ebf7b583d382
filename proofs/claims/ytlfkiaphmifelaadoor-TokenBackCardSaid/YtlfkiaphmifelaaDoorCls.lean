/- A region that draws its order, over a class of worlds: whatever has only new memory from a base on. -/
import Derived.Test.YtlfkiaphmifelaaDoorKitb
import Derived.Deep.QuietTactic
import Derived.BigQuiet
namespace Go.Proofs.YtlfkiaphmifelaaDoor
open Go.RowKit

/-- The worlds that lie above w from B on. -/
def Over (B : Nat) (w : World) : Type := { W : World // Below B w W }
instance {B : Nat} {w : World} : Nonempty (Over B w) := ⟨⟨w, Below.refl B w⟩⟩
def Over.at {B : Nat} {w : World} (n : Over B w) : World := n.val
theorem Over.bel {B : Nat} {w : World} (n : Over B w) : Below B w n.at := n.property
theorem Over.size {B : Nat} {w : World} (n : Over B w) : w.heap.size ≤ n.at.heap.size := n.bel.size
theorem Over.cell {B : Nat} {w : World} (n : Over B w) {p : Addr} (hp : p.block < B) : n.at.cell? p = w.cell? p := n.bel.cell hp

theorem wp_region_class_lit {P : Program} {T : Type} (g : T → World) {id : Nat} {Q : Exit → Act → World → Prop} {a : Act} {w : World} {l : List Oper} (hm : P.follows .mixedOrders = true) (hB : Region.lexB .any l.toArray = true)
    (hC : ∃ n, { w with drawn := w.drawn + 1 } = g n)
    (h : wpQuiet P l.toArray (fun w' => ∃ n, w' = g n) (fun a' => ∀ w', (∃ n, w' = g n) → Q .normal a' w') l a) : (Code.region id l.toArray true).wp P Q a w :=
  wp_region_quiet (C := fun w' => ∃ n, w' = g n) hm hB hC (by simpa using h)

theorem wp_region_over {P : Program} {B : Nat} {id : Nat} {Q : Exit → Act → World → Prop} {a : Act} {w : World} {l : List Oper} (hm : P.follows .mixedOrders = true) (hB : Region.lexB .any l.toArray = true)
    (h : wpQuiet P l.toArray (fun w' => ∃ n : Over B w, w' = n.at) (fun a' => ∀ w', (∃ n : Over B w, w' = n.at) → Q .normal a' w') l a) : (Code.region id l.toArray true).wp P Q a w :=
  wp_region_class_lit (fun n : Over B w => n.at) hm hB ⟨⟨w.drew, (Below.refl B w).drew⟩, rfl⟩ h

theorem Calls.over {P : Program} {f : FuncId} {args : Array Value} {B : Nat} {w : World} {n : Over B w} {v : Value} {B' : Nat} (hB : B ≤ B')
    (h : Calls P f args n.at fun e w' => e = .returned v ∧ Below B' n.at w') : Calls P f args n.at fun e w'' => e = .returned v ∧ ∃ m : Over B w, w'' = m.at :=
  h.mono fun _ w' ⟨he, hm⟩ => ⟨he, ⟨w', n.bel.trans (hm.mono hB)⟩, rfl⟩

/-- A whole row, loaded, in every world of a class. -/
theorem quiet_load_row {P : Program} {C : World → Prop} {o : Oper} {a : Act} {K : Act → Prop} (ty : TypeId) (x : Operand) (ho : o.op = .load ty x)
    (g : Nat) (hx : a.eval x = .pointer (some ⟨g, 0, none⟩)) (t : TypeId) (cs : Array Value) (fr : Nat × Nat) (d : TypeDesc) (hg : ∀ w, C w → w.heap[g]? = some (.cells cs t fr))
    (hu : P.underlying ty = some d) (hd : (match d with | .struct _ | .array _ _ => true | _ => false) = true) (hi : (P.info? ty).map (·.size) = some cs.size)
    (h : K (a.put o.dst (.agg cs))) : o.quiet P a C K := by
  refine ⟨.agg cs, fun w hw => ?_, h⟩
  unfold Oper.quietAt execOp
  simp only [ho, hx, Instr.loadAt, Instr.sureAddr, Sem.run_bind, Sem.run_pure, Result.andThen_ok, run_loadVar_row w g t ty cs fr d (hg w hw) hu hd hi]
  exact ⟨rfl, rfl⟩
theorem wpQuiet_load_row {P : Program} {ops : Array Oper} {C : World → Prop} {Q : Act → Prop} {o : Oper} {rest : List Oper} {a : Act} (hw : Region.wanted o (yielded ops a.tmps) = true) (ty : TypeId) (x : Operand) (ho : o.op = .load ty x)
    (g : Nat) (hx : a.eval x = .pointer (some ⟨g, 0, none⟩)) (t : TypeId) (cs : Array Value) (fr : Nat × Nat) (d : TypeDesc) (hg : ∀ w, C w → w.heap[g]? = some (.cells cs t fr))
    (hu : P.underlying ty = some d) (hd : (match d with | .struct _ | .array _ _ => true | _ => false) = true) (hi : (P.info? ty).map (·.size) = some cs.size)
    (h : wpQuiet P ops C Q rest (a.put o.dst (.agg cs))) : wpQuiet P ops C Q (o :: rest) a :=
  BigFrame.wpQuiet_want hw fun _ hK => quiet_load_row ty x ho g hx t cs fr d hg hu hd hi (hK _ h)
end Go.Proofs.YtlfkiaphmifelaaDoor
