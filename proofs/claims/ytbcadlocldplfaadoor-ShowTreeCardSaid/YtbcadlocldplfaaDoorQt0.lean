/- Short names for laws of Lean's own. -/
import Derived.Lib.Hide
namespace Go.Proofs.YtbcadlocldplfaaDoor
theorem zh {p : Prop} (h : p) : RowKit.Hid p := h
theorem lna {α : Type _} {as bs : List α} : (as ++ bs).length = as.length + bs.length := List.length_append
theorem lnc {α : Type _} {a : α} {as : List α} : (a :: as).length = as.length + 1 := List.length_cons
theorem lnn {α : Type _} : ([] : List α).length = 0 := List.length_nil
theorem bfn {α : Type _} [BEq α] [LawfulBEq α] (a b : α) : (a == b) = false ↔ a ≠ b := beq_eq_false_iff_ne
theorem dqf {p : Prop} [Decidable p] : ¬ p → decide p = false := decide_eq_false
theorem dqt {p : Prop} [Decidable p] : p → decide p = true := decide_eq_true
theorem nlr (n : Nat) : n ≤ n := Nat.le_refl n
theorem ai {a b : Prop} (h : a) (k : b) : a ∧ b := ⟨h, k⟩
theorem bse {α : Type _} [BEq α] [ReflBEq α] (a : α) : (a == a) = true := beq_self_eq_true a
theorem ex {α : Sort _} (a : α) : ∃ z, z = a := ⟨_, rfl⟩
end Go.Proofs.YtbcadlocldplfaaDoor
