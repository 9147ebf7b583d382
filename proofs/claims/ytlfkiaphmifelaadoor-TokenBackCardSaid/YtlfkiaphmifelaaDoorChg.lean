/- Worlds that differ from one another at some blocks alone, and in new blocks. -/
import Derived.Test.YtlfkiaphmifelaaDoorKitb
namespace Go.Proofs.YtlfkiaphmifelaaDoor
open Go.RowKit

structure Chg (T : Nat → Prop) (w w' : World) : Prop where
  os : w'.os = w.os
  tape : w'.tape = w.tape
  output : w'.output = w.output
  size : w.heap.size ≤ w'.heap.size
  block : ∀ k, k < w.heap.size → ¬ T k → w'.heap[k]? = w.heap[k]?

section
variable {T T' : Nat → Prop} {w w' w'' : World}
theorem Chg.refl (T : Nat → Prop) (w : World) : Chg T w w := ⟨rfl, rfl, rfl, Nat.le_refl _, fun _ _ _ => rfl⟩
theorem Chg.trans (h : Chg T w w') (k : Chg T w' w'') : Chg T w w'' :=
  ⟨k.os.trans h.os, k.tape.trans h.tape, k.output.trans h.output, Nat.le_trans h.size k.size, fun i hi hn => (k.block i (Nat.lt_of_lt_of_le hi h.size) hn).trans (h.block i hi hn)⟩
theorem Chg.mono (h : Chg T w w') (hT : ∀ k, T k → T' k) : Chg T' w w' := ⟨h.os, h.tape, h.output, h.size, fun i hi hn => h.block i hi (fun e => hn (hT i e))⟩
/-- What is new need not be named. -/
theorem Chg.old (h : Chg T w w') (hT : ∀ k, k < w.heap.size → T k → T' k) : Chg T' w w' := ⟨h.os, h.tape, h.output, h.size, fun i hi hn => h.block i hi (fun e => hn (hT i hi e))⟩
theorem Chg.of_grown {row : Option Nat} (h : w.grownBy w' row) (hr : ∀ r, row = some r → T r) : Chg T w w' :=
  ⟨h.os, h.tape, h.output, h.size, fun k hk hn => h.block k hk (fun e => hn (hr k e.symm))⟩
theorem Chg.of_below (h : Below w.heap.size w w') : Chg T w w' := ⟨h.os, h.tape, h.output, h.size, fun k hk _ => h.block k hk⟩
theorem Chg.alloc (h : Chg T w w') (o : Obj) : Chg T w (w'.alloc o) := h.trans (.of_grown (World.grownBy_alloc w' o none) (fun r e => by cases e))
theorem Chg.setCell (h : Chg T w w') {p : Addr} (hp : T p.block) (u : Value) : Chg T w (w'.setCell p u) :=
  h.trans (.of_grown (only_setCell (World.grownBy.refl w' (some p.block)) (Or.inl rfl) u) (fun r e => by cases e; exact hp))
theorem Chg.drewN (h : Chg T w w') (n : Nat) : Chg T w (w'.drewN n) := ⟨h.os, h.tape, h.output, h.size, h.block⟩
theorem Chg.drew (h : Chg T w w') : Chg T w w'.drew := ⟨h.os, h.tape, h.output, h.size, h.block⟩
theorem Chg.below {B : Nat} {a : World} (hb : Below B a w) (h : Chg T w w') (hB : B ≤ w.heap.size) (hT : ∀ k, T k → B ≤ k) : Below B a w' :=
  ⟨h.os.trans hb.os, h.tape.trans hb.tape, h.output.trans hb.output, Nat.le_trans hb.size h.size, fun k hk => (h.block k (Nat.lt_of_lt_of_le hk hB) (fun e => by have := hT k e; omega)).trans (hb.block k hk)⟩
theorem Blk.chg {g : Nat} {t : TypeId} {cs : Array Value} (hb : Blk w g t cs) (h : Chg T w w') (hn : ¬ T g) : Blk w' g t cs := (h.block g hb.lt hn).trans hb
theorem Reads.chg {B size n : Nat} {A : Option Addr} {xs : List Value} (hr : Reads w B size A n xs) (h : Chg T w w') (hB : B ≤ w.heap.size) (hn : ∀ ad, 0 < n → A = some ad → ¬ T ad.block) : Reads w' B size A n xs :=
  ⟨hr.1, fun h0 => by
    obtain ⟨ad, e, hb, hc⟩ := hr.2 h0
    refine ⟨ad, e, hb, fun j u hu => ?_⟩
    have hbl : (ad.add j).block = ad.block := block_of_add ad j
    exact (World.cell?_of_block (h.block _ (by rw [hbl]; omega) (by rw [hbl]; exact hn ad h0 e))).trans (hc j u hu)⟩
theorem own_chg {base : Nat} {e : TypeId} {size n : Nat} {v : Value} {xs : List Value} (ho : w.ownsRow base e size v n xs) (h : Chg T w w') (hn : ∀ g, v.ownBlock = some g → ¬ T g) : w'.ownsRow base e size v n xs := by
  refine ⟨ho.1, ?_⟩
  rcases ho.2 with hnil | ⟨g, cap, cur, rfl, hb, hgg, rest⟩
  · exact .inl hnil
  · exact .inr ⟨g, cap, cur, rfl, hb, (h.block g (Array.getElem?_eq_some_iff.1 hgg).1 (hn g rfl)).trans hgg, rest⟩
theorem own_at {base : Nat} {e : TypeId} {size n : Nat} {v : Value} {xs : List Value} (ho : w.ownsRow base e size v n xs) {base' : Nat} (h : ∀ g, v.ownBlock = some g → base' ≤ g) : w.ownsRow base' e size v n xs := by
  refine ⟨ho.1, ?_⟩
  rcases ho.2 with hnil | ⟨g, cap, cur, rfl, hb, rest⟩
  · exact .inl hnil
  · exact .inr ⟨g, cap, cur, rfl, h g rfl, rest⟩
end
end Go.Proofs.YtlfkiaphmifelaaDoor
