/- The cache as a list; contracts of Get, Peek, Drop. -/
import Derived.Test.YtnipmhidiiondaaFnd
import Derived.Test.YtnipmhidiiondaaAdd
namespace Go.Proofs.Ytnipmhidiiondaa
open Go.RowKit Go.Maps

/-- A cache as a list: the thing touched last first. -/
structure Abs where
  room : Nat
  L : List Ent
  hits : Nat
  misses : Nat
structure Has (w : World) (g : Nat) (A : Abs) (p : Pls) (S : Sta) (q : List Nat) : Prop where
  rep : Rep w g S p
  inv : InvP S A.L q
  room : S.room = A.room
  hits : S.hits = A.hits
  misses : S.misses = A.misses
def CRep (w : World) (g : Nat) (A : Abs) (p : Pls) : Prop := ∃ S q, Has w g A p S q
def KeepsA (w : World) (g : Nat) (p : Pls) (A' : Abs) (w' : World) : Prop := ∃ p', CRep w' g A' p' ∧ Chg (Own g p) w w' ∧ ∀ b, Own g p' b → Own g p b ∨ w.heap.size ≤ b
section
variable {w w' w'' : World} {g : Nat} {A A' : Abs} {p : Pls} {S : Sta} {q : List Nat}
theorem CRep.chg {T : Nat → Prop} (h : CRep w g A p) (hc : Chg T w w') (hn : ∀ b, Own g p b → ¬ T b) : CRep w' g A p := by
  obtain ⟨S, q, h⟩ := h
  exact ⟨S, q, h.rep.chg hc hn, h.inv, h.room, h.hits, h.misses⟩
theorem CRep.lt (h : CRep w g A p) : ∀ b, Own g p b → b < w.heap.size := by
  obtain ⟨S, q, h⟩ := h
  exact h.rep.lt
theorem CRep.below (h : CRep w g A p) (hb : Below w.heap.size w w') : CRep w' g A p := h.chg (T := fun _ => False) (.of_below hb) (fun _ _ h => h)
theorem CRep.drewN (h : CRep w g A p) (n : Nat) : CRep (w.drewN n) g A p := h.below (below_drewN (Below.refl _ _) n)
theorem KeepsA.refl (h : CRep w g A p) : KeepsA w g p A w := ⟨p, h, Chg.refl _ w, fun _ hb => .inl hb⟩
theorem KeepsA.of (hk : Keeps w g p S w') (hi : InvP S A.L q) (hr : S.room = A.room) (hh : S.hits = A.hits) (hm : S.misses = A.misses) : KeepsA w g p A w' := by
  obtain ⟨p', h1, h2, h3⟩ := hk
  exact ⟨p', ⟨S, q, h1, hi, hr, hh, hm⟩, h2, h3⟩
theorem Chg.step {T T' : Nat → Prop} (h : Chg T w w') (k : Chg T' w' w'') (hT : ∀ b, T' b → T b ∨ w.heap.size ≤ b) : Chg T w w'' :=
  ⟨k.os.trans h.os, k.tape.trans h.tape, k.output.trans h.output, Nat.le_trans h.size k.size, fun i hi hn => (k.block i (Nat.lt_of_lt_of_le hi h.size) (fun e => (hT i e).elim hn (fun h2 => by omega))).trans (h.block i hi hn)⟩
theorem KeepsA.trans (h : KeepsA w g p A w') (k : ∀ p', CRep w' g A p' → KeepsA w' g p' A' w'') : KeepsA w g p A' w'' := by
  obtain ⟨p', h1, h2, h3⟩ := h
  obtain ⟨p2, k1, k2, k3⟩ := k p' h1
  exact ⟨p2, k1, h2.step k2 h3, fun b hb => (k3 b hb).elim (h3 b) (fun h => .inr (Nat.le_trans h2.size h))⟩
end

set_option maxHeartbeats 4000000 in
theorem get_none (g : Nat) (A : Abs) (p : Pls) (s : ByteArray) (w : World) (h : CRep w g A p) (hs : s.size ≤ maxLen) (hmi : A.misses ≤ 1000000) (hn : lk A.L s = none) :
    Calls Try.prog 10 #[.pointer (some ⟨g, 0, none⟩), .string s] w fun e w' => e = .returned (.tuple #[.int .i64 0, .bool false]) ∧ KeepsA w g p { A with misses := A.misses + 1 } w' := by
  obtain ⟨S, q, hh⟩ := h
  have hl := hh.inv.lookup s
  rw [hn] at hl
  have hf : S.f s = none := by cases hf : S.f s with | none => rfl | some i => rw [hf] at hl; cases hl
  have HRM := Lib.hid (room_any g S p w hh.rep)
  have HFI := Lib.hid (find_any g S p s w hh.rep hs)
  rw [hf] at HFI
  have hr0 : ((S.room : Int) == 0) = false := by rw [beq_eq_false_iff_ne]; have := hh.inv.room1; omega
  have k5 : w.cell? ⟨g, 5, none⟩ = some (.int .i64 (S.misses : Nat)) := hh.rep.top.cell 5
  have f5 : w.frozen? ⟨g, 5, none⟩ = false := hh.rep.top.frozen 5
  have hm0 : S.misses ≤ 1000000 := by rw [hh.misses]; exact hmi
  have HF := Lib.hid (hh.rep.field (j := 5) (v := .int .i64 ((S.misses : Int) + 1)) (S' := { S with misses := S.misses + 1 }) rfl rfl rfl rfl rfl)
  have HH := Lib.hid hh
  clear hh hl hn hf hs hmi
  go_enter Try.func10, Try.ntmps10
  go_wp2_with fail
  refine HRM.out.mono ?_
  rintro e w1 ⟨rfl, hw1⟩
  rw [hw1]
  clear hw1 w1
  go_wp2_with fail
  refine HFI.out.mono ?_
  rintro e w1 ⟨rfl, hw1⟩
  rw [hw1]
  simp only [Option.getD_none, Option.isSome_none]
  clear hw1 w1
  go_wp2_with fail
  go_ret2
  exact ⟨rfl, p, ⟨{ S with misses := S.misses + 1 }, q, HF.out.1, ⟨HH.out.inv.ring, HH.out.inv.nd, HH.out.inv.lt, HH.out.inv.all, HH.out.inv.lst, HH.out.inv.fnd, HH.out.inv.nms, HH.out.inv.sz, HH.out.inv.m, HH.out.inv.fit, HH.out.inv.room1, HH.out.inv.room2, HH.out.inv.few⟩, HH.out.room, HH.out.hits, congrArg (· + 1) HH.out.misses⟩, HF.out.2, fun b hb => .inl hb⟩

set_option maxHeartbeats 4000000 in
theorem get_some (g : Nat) (A : Abs) (p : Pls) (s : ByteArray) (v : Int) (w : World) (h : CRep w g A p) (hs : s.size ≤ maxLen) (hhi : A.hits ≤ 1000000) (hn : lk A.L s = some v) :
    Calls Try.prog 10 #[.pointer (some ⟨g, 0, none⟩), .string s] w fun e w' => e = .returned (.tuple #[.int .i64 v, .bool true]) ∧ KeepsA w g p { A with L := (s, v) :: rm A.L s, hits := A.hits + 1 } w' := by
  obtain ⟨gm, gc, cap, fv⟩ := p
  obtain ⟨S, q, hh⟩ := h
  have hl := hh.inv.lookup s
  rw [hn] at hl
  obtain ⟨i, hf⟩ : ∃ i, S.f s = some i := by cases hf : S.f s with | none => rw [hf] at hl; cases hl | some i => exact ⟨i, rfl⟩
  rw [hf] at hl
  have hv : v = vl S.cs i := by simpa using hl
  obtain ⟨hi, hnm⟩ := (hh.inv.fnd s i).1 hf
  obtain ⟨q1, q2, q3, q4, q5, q6⟩ := hh.inv.places hi
  have HRM := Lib.hid (room_any g S ⟨gm, gc, cap, fv⟩ w hh.rep)
  have HFI := Lib.hid (find_any g S ⟨gm, gc, cap, fv⟩ s w hh.rep hs)
  rw [hf] at HFI
  have hr0 : ((S.room : Int) == 0) = false := by rw [beq_eq_false_iff_ne]; have := hh.inv.room1; omega
  have k4 : w.cell? ⟨g, 4, none⟩ = some (.int .i64 (S.hits : Nat)) := hh.rep.top.cell 4
  have f4 : w.frozen? ⟨g, 4, none⟩ = false := hh.rep.top.frozen 4
  have hm0 : S.hits ≤ 1000000 := by rw [hh.hits]; exact hhi
  have hF := hh.rep.field (j := 4) (v := .int .i64 ((S.hits : Int) + 1)) (S' := { S with hits := S.hits + 1 }) rfl rfl rfl rfl rfl
  have HF := Lib.hid hF
  have HT := Lib.hid (touch_any g { S with hits := S.hits + 1 } ⟨gm, gc, cap, fv⟩ i (w.setCell ⟨g, 4, none⟩ (.int .i64 ((S.hits : Int) + 1))) hF.1 q1 q2 q3 q4 (Nat.le_trans hh.inv.few (by omega)))
  obtain ⟨n, hnn⟩ : ∃ n, n = S.cs.length := ⟨_, rfl⟩
  have hin : (i : Int) < (n : Int) := by omega
  have hi0 : (0 : Int) ≤ (i : Int) := by omega
  have hn1 : n ≤ 4097 := by rw [hnn]; exact hh.inv.few
  have hlen2 : (firstC (cutC S.cs i) i).length = n := by rw [len_firstC, len_cutC]; exact hnn.symm
  have hil2 : i < (firstC (cutC S.cs i) i).length := by rw [len_firstC, len_cutC]; exact q1
  obtain ⟨q', hi2⟩ := hh.inv.touch hf
  have hvl : vl (firstC (cutC S.cs i) i) i = vl S.cs i := by
    have h1 := hi2.lookup s
    have h2 : ({ S with cs := firstC (cutC S.cs i) i } : Sta).f s = some i := hf
    rw [h2] at h1
    have h3 : lk ((s, vl S.cs i) :: rm A.L s) s = some (vl S.cs i) := by unfold lk; simp
    rw [h3] at h1
    have := Option.some.inj h1
    exact this.symm
  have HH := Lib.hid hh
  have HI2 := Lib.hid hi2
  have HV := Lib.hid hv
  have HVL := Lib.hid hvl
  have HL2 := Lib.hid hlen2
  have HIL := Lib.hid hil2
  clear hh hl hn hf hs hhi q1 q2 q3 q4 q5 q6 hnm hi hF hi2 hv hvl hlen2 hil2 hnn
  go_enter Try.func10, Try.ntmps10
  go_wp2_with fail
  refine HRM.out.mono ?_
  rintro e w1 ⟨rfl, hw1⟩
  rw [hw1]
  clear hw1 w1
  go_wp2_with fail
  refine HFI.out.mono ?_
  rintro e w1 ⟨rfl, hw1⟩
  rw [hw1]
  simp only [Option.getD_some, Option.isSome_some]
  clear hw1 w1
  go_wp2_with fail
  refine HT.out.mono ?_
  rintro e w1 ⟨rfl, hr1, hc1⟩
  have k2 : w1.cell? ⟨g, 2, none⟩ = some (.slice (some ⟨gc, 0, none⟩) n cap) := by rw [← HL2.out]; exact hr1.top.cell 2
  have d1 : w1.cell? ⟨gc, i * 4 + 1, none⟩ = some (.int .i64 v) := by rw [HV.out, ← HVL.out]; exact hr1.cell (i := i) (j := 1) HIL.out rfl
  have HR1 := Lib.hid hr1
  have HC1 := Lib.hid (HF.out.2.trans hc1)
  clear hr1 hc1 k4 f4
  go_wp2_with fail
  go_ret2
  have hi2 := HI2.out
  rw [← HV.out] at hi2
  exact ⟨rfl, ⟨gm, gc, cap, fv⟩, ⟨{ S with cs := firstC (cutC S.cs i) i, hits := S.hits + 1 }, q', HR1.out, ⟨hi2.ring, hi2.nd, hi2.lt, hi2.all, hi2.lst, hi2.fnd, hi2.nms, hi2.sz, hi2.m, hi2.fit, hi2.room1, hi2.room2, hi2.few⟩, HH.out.room, congrArg (· + 1) HH.out.hits, HH.out.misses⟩, HC1.out, fun b hb => .inl hb⟩
end Go.Proofs.Ytnipmhidiiondaa
