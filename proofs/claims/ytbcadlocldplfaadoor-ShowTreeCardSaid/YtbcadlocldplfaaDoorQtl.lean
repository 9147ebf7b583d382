/- A writer of tokens in memory; contracts of next, word, sign. And what follows from it. -/
import Derived.Outline
import Derived.Deep.DeepCutAuto
import Derived.Deep.MidRow
import Derived.Deep.WholeRow
import Derived.Test.YtbcadlocldplfaaDoorQtb
import Derived.Test.YtbcadlocldplfaaDoorQtk
import Derived.Test.YtbcadlocldplfaaDoorQt0
set_option maxHeartbeats 16000000
set_option linter.unusedSimpArgs false
set_option linter.unusedVariables false
namespace Go.Proofs.YtbcadlocldplfaaDoor
open Go.Proofs.Tryd
set_option maxRecDepth 100000
open Go.RowKit
structure Kp (g : Nat) (w w' : World) : Prop where
 os : w'.os = w.os
 tape : w'.tape = w.tape
 output : w'.output = w.output
 size : w.heap.size <= w'.heap.size
 block : ∀ k, k < w.heap.size -> k ≠ g -> (k < g ∨ ∀ cs fr, w.heap[k]? ≠ some (.cells cs 35 fr)) -> w'.heap[k]? = w.heap[k]?
section
variable {g : Nat} {w w' w'' : World}
theorem Kp.refl (g : Nat) (w : World) : Kp g w w := ⟨rfl, rfl, rfl, nlr _, fun _ _ _ _ => rfl⟩
theorem Kp.trans (h : Kp g w w') (k : Kp g w' w'') : Kp g w w'' :=
 ⟨k.os.trans h.os, k.tape.trans h.tape, k.output.trans h.output, Nat.le_trans h.size k.size, fun i hi hn hc => by
  have h1 := h.block i hi hn hc
  refine (k.block i (Nat.lt_of_lt_of_le hi h.size) hn ?_).trans h1
  rw [h1]; exact hc⟩
theorem Kp.of_below (h : Below w.heap.size w w') : Kp g w w' := ⟨h.os, h.tape, h.output, h.size, fun k hk _ _ => h.block k hk⟩
theorem Kp.below (h : Kp g w w') (hg : g <= w.heap.size) : Below g w w' := ⟨h.os, h.tape, h.output, h.size, fun k hk => h.block k (by omega) (by omega) (.inl hk)⟩
theorem Kp.alloc (h : Kp g w w') (o : Obj) : Kp g w (w'.alloc o) := h.trans (.of_below ((Below.refl _ _).alloc (nlr _) _))
theorem Kp.set_ (w : World) (g i : Nat) (u : Value) : Kp g w (w.setCell ⟨g, i, none⟩ u) := by
 have hc : Chg (fun k => k = g) w (w.setCell ⟨g, i, none⟩ u) := Chg.setCell (T := fun k => k = g) (Chg.refl _ _) (p := ⟨g, i, none⟩) rfl u
 exact ⟨hc.os, hc.tape, hc.output, hc.size, fun k hk hn _ => hc.block k hk hn⟩
theorem Kp.grown {n c : Nat} {A : Option Addr} {xs : List Value} (ho : w.ownsRow (g + 1) 35 4 (.slice A n c) n xs) (h : w.grownBy w' (Value.slice A n c).ownBlock) : Kp g w w' := by
 have hc : Chg (fun k => (Value.slice A n c).ownBlock = some k) w w' := .of_grown h (fun r hr => hr)
 refine ⟨hc.os, hc.tape, hc.output, hc.size, fun k hk hn ht => hc.block k hk fun he => ?_⟩
 have h1 := (World.ownsRow.lt ho k he).1
 rcases ht with ht | ht
 . omega
 . rcases ho.2 with ⟨h2, _⟩ | ⟨b, cap, cur, h2, _, h3, _⟩
   . injection h2 with h2
     subst h2
     cases he
   . injection h2 with h2
     subst h2
     injection he with he
     subst he
     exact ht _ _ h3
theorem Kp.drewN (h : Kp g w w') (n : Nat) : Kp g w (w'.drewN n) := ⟨h.os, h.tape, h.output, h.size, h.block⟩
theorem Blk.kp {k : Nat} {t : TypeId} {cs : Array Value} (h : Blk w k t cs) (hk : Kp g w w') (hn : k ≠ g) (ht : t ≠ 35) : Blk w' k t cs :=
 (hk.block k h.lt hn (.inr fun cs' fr he => by
  have h1 : w.heap[k]? = some (.cells cs t (0, 0)) := h
  rw [h1] at he
  injection he with he
  injection he with _ he _
  exact ht he)).trans h
end
def WrM (w : World) (g : Nat) (l : List Tw) (o : List Tz) : Prop :=
 ∃ A c Ao co, Blk w g 53 #[.slice A l.length c, .slice Ao o.length co] ∧ RdL twcell 4 w A l ∧ l.length <= c ∧ (∀ a, A = some a -> a.block < g) ∧ w.ownsRow (g + 1) 35 4 (.slice Ao o.length co) o.length (rowOf zcell o)
section
variable {g : Nat} {w w' : World} {l : List Tw} {o : List Tz}
theorem WrM.lt (h : WrM w g l o) : g < w.heap.size := by
 obtain ⟨A, c, Ao, co, h, _⟩ := h
 exact h.lt
theorem WrM.chg {T : Nat -> Prop} (h : WrM w g l o) (hc : Chg T w w') (hn : ∀ k, k < w.heap.size -> T k -> g < k ∧ ∀ cs fr, w.heap[k]? ≠ some (.cells cs 35 fr)) : WrM w' g l o := by
 obtain ⟨A, c, Ao, co, h1, h2, h3, h4, h5⟩ := h
 refine ⟨A, c, Ao, co, h1.chg (T := fun k => k < w.heap.size ∧ T k) (hc.old (fun k a b => ⟨a, b⟩)) (fun hg => by have := (hn g hg.1 hg.2).1; omega), h2.chg (T := fun k => k < w.heap.size ∧ T k) (hc.old (fun k a b => ⟨a, b⟩)) (fun a ha _ hk => by have := (hn _ hk.1 hk.2).1; have := h4 a ha; omega), h3, h4, ?_⟩
 refine own_chg (T := fun k => k < w.heap.size ∧ T k) h5 (hc.old (fun k a b => ⟨a, b⟩)) (fun b hb hk => ?_)
 rcases h5.2 with ⟨h2, _⟩ | ⟨b2, cap, cur, h2, _, h3, _⟩
 . injection h2 with h2
   subst h2
   cases hb
 . injection h2 with h2
   subst h2
   injection hb with hb
   subst hb
   exact (hn _ hk.1 hk.2).2 _ _ h3
theorem WrM.frozen (h : WrM w g l o) (i : Nat) : w.frozen? ⟨g, i, none⟩ = false := by
 obtain ⟨A, c, Ao, co, h, _⟩ := h
 exact h.frozen i
theorem WrM.below (h : WrM w g l o) (hb : Below w.heap.size w w') : WrM w' g l o :=
 h.chg (T := fun _ => False) (.of_below hb) (fun _ _ h => h.elim)
theorem WrM.alloc (h : WrM w g l o) (ob : Obj) : WrM (w.alloc ob) g l o := h.below ((Below.refl _ _).alloc (nlr _) _)
theorem WrM.head {x : Tw} {r : List Tw} (h : WrM w g (x :: r) o) :
 ∃ b off c, w.cell? ⟨g, 0, none⟩ = some (.slice (some ⟨b, off, none⟩) (r.length + 1) c) ∧ r.length + 1 <= c ∧ b < w.heap.size ∧ w.cell? ⟨b, off, none⟩ = some (.int .u8 (x.op : Nat)) ∧ w.cell? ⟨b, off + 1, none⟩ = some (.int .i64 x.kids) ∧ w.cell? ⟨b, off + 2, none⟩ = some (.int .i64 x.int) ∧ w.cell? ⟨b, off + 3, none⟩ = some (.string x.text) ∧ b < g ∧ WrM (w.setCell ⟨g, 0, none⟩ (.slice (if c = 1 then (some ⟨b, off, none⟩) else some ⟨b, off + 4, none⟩) r.length (c - 1))) g r o := by
 obtain ⟨A, c, Ao, co, h1, h2, h3, h4, h5⟩ := h
 rw [lnc] at h1 h3
 rcases h2 with h2 | ⟨b, off, rfl, hb, hat⟩
 . cases h2
 . have key := fun j v hv => hat 0 x rfl j v hv
   simp only [Nat.zero_mul, Nat.add_zero] at key
   have hbg := h4 _ rfl
   have hch : Chg (fun k => k = g) w (w.setCell ⟨g, 0, none⟩ (.slice (if c = 1 then (some ⟨b, off, none⟩) else some ⟨b, off + 4, none⟩) r.length (c - 1))) := Chg.setCell (T := fun k => k = g) (Chg.refl _ _) (p := ⟨g, 0, none⟩) rfl _
   refine ⟨b, off, c, h1.cell 0, h3, hb, key 0 _ rfl, key 1 _ rfl, key 2 _ rfl, key 3 _ rfl, hbg, _, c - 1, Ao, co, by have := h1.set_ 0 (.slice (if c = 1 then (some ⟨b, off, none⟩) else some ⟨b, off + 4, none⟩) r.length (c - 1)); simpa using this, ?_, by omega, ?_, ?_⟩
   . by_cases hr : r = []
     . exact .inl hr
     . have hc1 : c ≠ 1 := by
        have : r.length ≠ 0 := fun e => hr (List.eq_nil_of_length_eq_zero e)
        omega
       refine RdL.chg (T := fun k => k = g) (.inr ⟨b, off + 4, by rw [if_neg hc1], hb, fun i y hy j v hv => ?_⟩) hch ?_
       . have := hat (i + 1) y (by simpa using hy) j v hv
         rw [show off + 4 + i * 4 + j = off + (i + 1) * 4 + j by omega]
         exact this
       . intro a ha _ hk
         rw [if_neg hc1] at ha
         obtain rfl := Option.some.inj ha
         have : b = g := hk
         have hbg2 : b < g := hbg
         omega
   . intro a ha
     split at ha <;> (obtain rfl := Option.some.inj ha; exact hbg)
   . exact own_chg h5 hch (fun k hk he => by have := (World.ownsRow.lt h5 k hk).1; have he2 : k = g := he; omega)
end
theorem twig_tail0 (A : Option Addr) (n c : Nat) (hc : n + 1 <= c) (w : World) : (Instr.sliceAt 23 (.slice A (n + 1) c) (some (.int .i64 1)) none none).run prog w = .ok (.slice (if c = 1 then A else A.map (·.add (1 * 4))) n (c - 1)) w := by
 have hu : prog.underlying 23 = some (.slice (prog.elem 23)) := by kernel_rfl
 have hz : (sizeOf (prog.elem 23)).run prog w = .ok 4 w := by kernel_rfl
 rw [run_sliceAt_slice w 23 _ _ _ _ hu, run_slice_l w 23 A (n + 1) c hu .i64 1 (by omega) (by omega), hz]
 rfl
theorem twig_tail (b off n c : Nat) (hc : n + 1 <= c) (w : World) : (Instr.sliceAt 23 (.slice (some ⟨b, off, none⟩) (n + 1) c) (some (.int .i64 1)) none none).run prog w = .ok (.slice (if c = 1 then (some ⟨b, off, none⟩) else some ⟨b, off + 4, none⟩) n (c - 1)) w := by
 rw [twig_tail0 _ n c hc w, Option.map_some, addr_add]
abbrev twV (x : Tw) : Value := .agg #[.int .u8 (x.op : Nat), .int .i64 x.kids, .int .i64 x.int, .string x.text]
def NextPost (w : World) (g : Nat) (x : Tw) (r : List Tw) (o : List Tz) (e : Ending) (w' : World) : Prop :=
 e = .returned (twV x) ∧ Kp g w w' ∧ WrM w' g r o
theorem set_size (w : World) (p : Addr) (v : Value) : (w.setCell p v).heap.size = w.heap.size := by simp
theorem next_any (g : Nat) (x : Tw) (r : List Tw) (o : List Tz) (w : World) (h : WrM w g (x :: r) o) : Calls prog 54 #[gp g] w (NextPost w g x r o) := by
 obtain ⟨b, off, c, k0, hc, hb, k1, k2, k3, k4, hbg, hm⟩ := h.head
 have hg := h.lt
 obtain ⟨op, kids, iv, tx⟩ := x
 dsimp only at k1 k2 k3 k4
 have HM := zh hm
 have HH := zh h
 obtain ⟨n, hn⟩ := ex r.length
 have HN := zh hn
 rw [<- hn] at k0 hc
 have HS := fun W => twig_tail b off n c hc W
 clear hm h hn
 have hz : w.frozen? ⟨g, 0, none⟩ = false := HH.out.frozen 0
 by_cases hc1 : c = 1
 . subst hc1
   have hn0 : n = 0 := by omega
   have HM2 : Hid (WrM (w.setCell ⟨g, 0, none⟩ (.slice (some ⟨b, off, none⟩) n 0)) g r o) := zh (by have := HM.out; rw [<- HN.out] at this; simpa using this)
   have HS2 := fun W => HS W
   simp only [if_pos] at HS2
   clear HS HM
   clear HN
   subst hn0
   go_in
   go_wp2_with fail
   refine bodyPost_ret (results_cell_row rfl _ _ w.heap.size 42 #[.int .u8 (op : Nat), .int .i64 kids, .int .i64 iv, .string tx] (0, 0) _ rfl ?_ underlying42 rfl (by kernel_rfl)) rfl ⟨rfl, ((Kp.set_ _ _ _ _).alloc _).alloc _, (HM2.out.alloc _).alloc _⟩
   have := (Blk.new (w.setCell ⟨g, 0, none⟩ (.slice (some ⟨b, off, none⟩) 0 0)) 42 #[.int .u8 (op : Nat), .int .i64 kids, .int .i64 iv, .string tx]).alloc (.cells #[.int .u8 (op : Nat), .int .i64 kids, .int .i64 iv, .string tx] 42)
   rw [set_size] at this
   exact this
 . have HM2 : Hid (WrM (w.setCell ⟨g, 0, none⟩ (.slice (some ⟨b, off + 4, none⟩) n (c - 1))) g r o) := zh (by have := HM.out; rw [<- HN.out, if_neg hc1] at this; exact this)
   have HS2 := fun W => HS W
   simp only [if_neg hc1] at HS2
   clear HS HM
   go_in
   go_wp2_with fail
   refine bodyPost_ret (results_cell_row rfl _ _ w.heap.size 42 #[.int .u8 (op : Nat), .int .i64 kids, .int .i64 iv, .string tx] (0, 0) _ rfl ?_ underlying42 rfl (by kernel_rfl)) rfl ⟨rfl, ((Kp.set_ _ _ _ _).alloc _).alloc _, (HM2.out.alloc _).alloc _⟩
   have := (Blk.new (w.setCell ⟨g, 0, none⟩ (.slice (some ⟨b, off + 4, none⟩) n (c - 1))) 42 #[.int .u8 (op : Nat), .int .i64 kids, .int .i64 iv, .string tx]).alloc (.cells #[.int .u8 (op : Nat), .int .i64 kids, .int .i64 iv, .string tx] 42)
   rw [set_size] at this
   exact this
/-! Tokens go behind a row of tokens of one's own. -/
theorem Tryd.info35z : (prog.info? 35).map (fun i => (i.zero, i.size, i.bytes)) = some (some (.agg #[.int .u8 0, .string ⟨#[]⟩, .int .i64 0, .int .i64 0]), 4, 40) := by kernel_rfl
theorem wp_app_z {o : Oper} {a : Act} {W : World} {K : Act -> World -> Prop} {Q : Exit -> Act -> World -> Prop} (sl x : Operand)
 (ho : o.op = .call { callee := .builtin .append, args := #[sl, x], argTypes := #[30, 30] }) (base n c m d : Nat) (A B : Option Addr) (t u : List Tz)
 (hs : a.eval sl = .slice A n c) (hown : W.ownsRow base 35 4 (.slice A n c) n (rowOf zcell t)) (hx : a.eval x = .slice B m d) (hm : m = u.length) (hr : RdZ W B u) (hn : n + m <= 2000000) (hb : base <= W.heap.size)
 (h : ∀ A' c' W', W'.ownsRow base 35 4 (.slice A' (n + m) c') (n + m) (rowOf zcell (t ++ u)) -> W.grownBy W' (Value.slice A n c).ownBlock -> K (a.put o.dst (.slice A' (n + m) c')) W') :
 o.wp prog a W K Q := by
 obtain ⟨i0, hi0, hz0, hz1, hz2⟩ := info_parts Tryd.info35z
 refine wp_append_any _ sl x 30 ho base 35 i0 (.agg #[.int .u8 0, .string ⟨#[]⟩, .int .i64 0, .int .i64 0]) 4 40 underlying30 hi0 hz0 hz1 hz2 rfl (by decide) (.slice A n c) n (rowOf zcell t) hs hown W.heap.size B m d (rowOf zcell u) hx (by rw [hm]; exact hr.reads zcell_len) (rowOf_one zcell_one u) (by unfold maxLen; omega) (by omega) hb ?_
 intro v3 w3 ho3 hg3 hown3
 obtain ⟨A3, c3, rfl, _⟩ := own_form ho3
 exact h A3 c3 w3 (by rw [rowOf_append]; exact ho3) hg3
theorem wpList_app_z {ops : Array Oper} {rest : List Oper} {o : Oper} {a : Act} {W : World} {Q : Exit -> Act -> World -> Prop} (hgd : o.guard = none) (sl x : Operand)
 (ho : o.op = .call { callee := .builtin .append, args := #[sl, x], argTypes := #[30, 30] }) (base n c m d : Nat) (A B : Option Addr) (t u : List Tz)
 (hs : a.eval sl = .slice A n c) (hown : W.ownsRow base 35 4 (.slice A n c) n (rowOf zcell t)) (hx : a.eval x = .slice B m d) (hm : m = u.length) (hr : RdZ W B u) (hn : n + m <= 2000000) (hb : base <= W.heap.size)
 (h : ∀ A' c' W', W'.ownsRow base 35 4 (.slice A' (n + m) c') (n + m) (rowOf zcell (t ++ u)) -> W.grownBy W' (Value.slice A n c).ownBlock -> wpList prog ops Q rest (a.put o.dst (.slice A' (n + m) c')) W') :
 wpList prog ops Q (o :: rest) a W :=
 wpList_plain hgd fun _ hK => wp_app_z sl x ho base n c m d A B t u hs hown hx hm hr hn hb fun A' c' W' h1 h2 => hK _ _ (h A' c' W' h1 h2)
theorem rdz_one {W : World} {g : Nat} {x : Tz} (h : Blk W g 35 (zcell x).toArray) : RdZ W (some ⟨g, 0, none⟩) [x] := by
 refine .inr ⟨g, 0, rfl, h.lt, fun i y hy j v hv => ?_⟩
 cases i with
 | zero =>
  obtain rfl : x = y := by simpa using hy
  rw [Nat.zero_mul, Nat.add_zero, Nat.zero_add, h.cell j]
  simpa using hv
 | succ i => simp at hy
theorem WrM.out_ {w : World} {g : Nat} {l : List Tw} {o : List Tz} (h : WrM w g l o) : ∃ Ao co, w.cell? ⟨g, 1, none⟩ = some (.slice Ao o.length co) ∧ w.ownsRow (g + 1) 35 4 (.slice Ao o.length co) o.length (rowOf zcell o) ∧
 ∀ (w' : World) (A' : Option Addr) (m' c' : Nat) (o' : List Tz), w.grownBy w' (Value.slice Ao o.length co).ownBlock -> w'.ownsRow (g + 1) 35 4 (.slice A' m' c') m' (rowOf zcell o') -> m' = o'.length -> WrM (w'.setCell ⟨g, 1, none⟩ (.slice A' m' c')) g l o' ∧ Kp g w (w'.setCell ⟨g, 1, none⟩ (.slice A' m' c')) ∧ w'.cell? ⟨g, 1, none⟩ = some (.slice Ao o.length co) := by
 obtain ⟨A, c, Ao, co, h1, h2, h3, h4, h5⟩ := h
 refine ⟨Ao, co, h1.cell 1, h5, fun w' A' m' c' o' hg ho hm => ?_⟩
 have hk : Kp g w w' := Kp.grown h5 hg
 have hc : Chg (fun k => (Value.slice Ao o.length co).ownBlock = some k) w w' := .of_grown hg (fun r hr => hr)
 have hlow : ∀ k, (Value.slice Ao o.length co).ownBlock = some k -> g + 1 <= k := fun k he => (World.ownsRow.lt h5 k he).1
 have b1 : Blk w' g 53 #[.slice A l.length c, .slice Ao o.length co] := h1.chg hc (fun he => by have := hlow _ he; omega)
 have hch : Chg (fun k => k = g) w' (w'.setCell ⟨g, 1, none⟩ (.slice A' m' c')) := Chg.setCell (T := fun k => k = g) (Chg.refl _ _) (p := ⟨g, 1, none⟩) rfl _
 refine ⟨⟨A, c, A', c', by have := b1.set_ 1 (.slice A' m' c'); rw [<- hm]; simpa using this, ?_, h3, h4, ?_⟩, hk.trans (Kp.set_ _ _ _ _), b1.cell 1⟩
 . have r1 : RdL twcell 4 w' A l := h2.chg hc (fun a ha _ he => by have := hlow _ he; have := h4 a ha; omega)
   exact r1.chg hch (fun a ha _ he => by have := h4 a ha; have he2 : a.block = g := he; omega)
 . rw [<- hm]
   exact own_chg ho hch (fun k hk he => by have := (World.ownsRow.lt ho k hk).1; have he2 : k = g := he; omega)
def SPost (w : World) (g : Nat) (l : List Tw) (o : List Tz) (e : Ending) (w' : World) : Prop :=
 e = .returned (.tuple #[]) ∧ Kp g w w' ∧ WrM w' g l o
theorem frozen_of_set {w : World} {g i : Nat} {v : Value} {l : List Tw} {o : List Tz} (h : WrM (w.setCell ⟨g, i, none⟩ v) g l o) : w.frozen? ⟨g, i, none⟩ = false := by
 have := h.frozen i
 simpa using this
def sgB (s : ByteArray) : Tz := ⟨4, s, 0, 0⟩
def wdB (s : ByteArray) : Tz := ⟨1, s, 0, 0⟩
theorem word_any (g b n c0 : Nat) (ss : List ByteArray) (l : List Tw) (o : List Tz) (w : World) (h : WrM w g l o) (hb : Blk w b 9 (ss.map Value.string).toArray) (hbg : b ≠ g) (hn : n = ss.length) (ho : o.length + ss.length <= 1000000) :
 Calls prog 55 #[gp g, .slice (some ⟨b, 0, none⟩) n c0] w (SPost w g l (o ++ ss.map wdB)) := by
 have HH := zh (ai h (ai hb (ai hbg hn)))
 have hn9 : n <= 1000000 := by omega
 have hon : o.length + n <= 1000000 := by omega
 clear hb hbg hn ho h
 go_in
 go_wp2_with fail
 go_loopw [8] (fun s8 wr => ∃ j : Nat, s8 = .int .i64 (j : Nat) ∧ j <= n ∧ WrM wr g l (o ++ (ss.take j).map wdB) ∧ Kp g w wr) (fun s8 _ => n - (intOf s8).toNat)
 case atStart => exact ⟨0, rfl, by omega, by rw [List.take_zero, List.map_nil, List.append_nil]; exact HH.out.1, Kp.refl _ _⟩
 case round =>
  obtain ⟨j, rfl, hj, hm, hk⟩ := hrel
  have HW := zh (ai hm hk)
  clear hm hk
  by_cases hlt : j < n
  . have hd : decide ((j : Int) < (n : Int)) = true := dqt (by omega)
    obtain ⟨s, hs⟩ : ∃ s, ss[j]? = some s := by
     have : j < ss.length := by rw [<- HH.out.2.2.2]; exact hlt
     exact ⟨_, List.getElem?_eq_getElem this⟩
    have HS := zh hs
    have hbk : Blk wr b 9 (ss.map Value.string).toArray := HH.out.2.1.kp HW.out.2 HH.out.2.2.1 (by decide)
    have k9 : wr.cell? ⟨b, j, none⟩ = some (.string s) := by rw [hbk.cell j]; simp [hs]
    have hbl : b < wr.heap.size := hbk.lt
    have hg := HW.out.1.lt
    have hm1 : Hid (WrM (wr.alloc (.cells #[.int .u8 1, .string s, .int .i64 0, .int .i64 0] 35)) g l (o ++ (ss.take j).map wdB)) := zh (HW.out.1.alloc _)
    obtain ⟨Ao, co, k1, hown, hput⟩ := hm1.out.out_
    have ho3 : (o ++ (ss.take j).map wdB).length = o.length + j := by rw [lna, List.length_map, List.length_take, <- HH.out.2.2.2, Nat.min_eq_left hj]
    rw [ho3] at k1 hown hput
    have HP := zh (ai hown hput)
    have k1' : wr.cell? ⟨g, 1, none⟩ = some (.slice Ao (o.length + j) co) := (World.cell?_alloc_lt wr _ ⟨g, 1, none⟩ hg).symm.trans k1
    have hz : wr.frozen? ⟨g, 1, none⟩ = false := HW.out.1.frozen 1
    have HR : Hid (RdZ (wr.alloc (.cells #[.int .u8 1, .string s, .int .i64 0, .int .i64 0] 35)) (some ⟨wr.heap.size, 0, none⟩) [⟨1, s, 0, 0⟩]) := zh (rdz_one (x := ⟨1, s, 0, 0⟩) (Blk.new wr 35 _))
    clear hs hbk k1 hown hput hm1
    obtain ⟨q, hq⟩ := ex (o.length + j)
    rw [<- hq] at k1' HP
    have hq2 : q <= 1000000 := by omega
    have HQ := zh (ai hq ho3)
    clear hq ho3 hon
    go_wp2_with (at_builtin; refine wpList_app_z rfl (.tmp 16) (.tmp 19) rfl (g + 1) q co 1 1 Ao (some ⟨wr.heap.size, 0, none⟩) (o ++ (ss.take j).map wdB) [⟨1, s, 0, 0⟩] rfl HP.out.1 rfl rfl HR.out (by omega) (by simp; omega) ?_; intro A6 c6 w6 ho6 hg6; have H6 := zh (HP.out.2 w6 A6 (q + 1) c6 _ hg6 ho6 (by rw [lna, HQ.out.2, <- HQ.out.1]; rfl)); have hz6 : w6.frozen? ⟨g, 1, none⟩ = false := frozen_of_set H6.out.1; have hc6 := H6.out.2.2; clear ho6 hg6)
    go_roundw
    case rel =>
     refine ⟨j + 1, by go_num, by omega, ?_, (HW.out.2.alloc _).trans H6.out.2.1⟩
     rw [List.take_add_one, HS.out, List.map_append, <- List.append_assoc]
     exact H6.out.1
    case measure => simp [intOf]; omega
  . have hd : decide ((j : Int) < (n : Int)) = false := dqf (by omega)
    have HE : Hid (WrM wr g l (o ++ ss.map wdB)) := zh (by
     have := HW.out.1
     rwa [List.take_of_length_le (by rw [<- HH.out.2.2.2]; omega)] at this)
    go_wp2_with fail
    refine bodyPost_ret (results_none rfl _ _ _) rfl ?_
    exact ⟨rfl, HW.out.2, HE.out⟩
theorem sign_any (g b n c0 : Nat) (ss : List ByteArray) (l : List Tw) (o : List Tz) (w : World) (h : WrM w g l o) (hb : Blk w b 9 (ss.map Value.string).toArray) (hbg : b ≠ g) (hn : n = ss.length) (ho : o.length + ss.length <= 1000000) :
 Calls prog 56 #[gp g, .slice (some ⟨b, 0, none⟩) n c0] w (SPost w g l (o ++ ss.map sgB)) := by
 have HH := zh (ai h (ai hb (ai hbg hn)))
 have hn9 : n <= 1000000 := by omega
 have hon : o.length + n <= 1000000 := by omega
 clear hb hbg hn ho h
 go_in
 go_wp2_with fail
 go_loopw [8] (fun s8 wr => ∃ j : Nat, s8 = .int .i64 (j : Nat) ∧ j <= n ∧ WrM wr g l (o ++ (ss.take j).map sgB) ∧ Kp g w wr) (fun s8 _ => n - (intOf s8).toNat)
 case atStart => exact ⟨0, rfl, by omega, by rw [List.take_zero, List.map_nil, List.append_nil]; exact HH.out.1, Kp.refl _ _⟩
 case round =>
  obtain ⟨j, rfl, hj, hm, hk⟩ := hrel
  have HW := zh (ai hm hk)
  clear hm hk
  by_cases hlt : j < n
  . have hd : decide ((j : Int) < (n : Int)) = true := dqt (by omega)
    obtain ⟨s, hs⟩ : ∃ s, ss[j]? = some s := by
     have : j < ss.length := by rw [<- HH.out.2.2.2]; exact hlt
     exact ⟨_, List.getElem?_eq_getElem this⟩
    have HS := zh hs
    have hbk : Blk wr b 9 (ss.map Value.string).toArray := HH.out.2.1.kp HW.out.2 HH.out.2.2.1 (by decide)
    have k9 : wr.cell? ⟨b, j, none⟩ = some (.string s) := by rw [hbk.cell j]; simp [hs]
    have hbl : b < wr.heap.size := hbk.lt
    have hg := HW.out.1.lt
    have hm1 : Hid (WrM (wr.alloc (.cells #[.int .u8 4, .string s, .int .i64 0, .int .i64 0] 35)) g l (o ++ (ss.take j).map sgB)) := zh (HW.out.1.alloc _)
    obtain ⟨Ao, co, k1, hown, hput⟩ := hm1.out.out_
    have ho3 : (o ++ (ss.take j).map sgB).length = o.length + j := by rw [lna, List.length_map, List.length_take, <- HH.out.2.2.2, Nat.min_eq_left hj]
    rw [ho3] at k1 hown hput
    have HP := zh (ai hown hput)
    have k1' : wr.cell? ⟨g, 1, none⟩ = some (.slice Ao (o.length + j) co) := (World.cell?_alloc_lt wr _ ⟨g, 1, none⟩ hg).symm.trans k1
    have hz : wr.frozen? ⟨g, 1, none⟩ = false := HW.out.1.frozen 1
    have HR : Hid (RdZ (wr.alloc (.cells #[.int .u8 4, .string s, .int .i64 0, .int .i64 0] 35)) (some ⟨wr.heap.size, 0, none⟩) [⟨4, s, 0, 0⟩]) := zh (rdz_one (x := ⟨4, s, 0, 0⟩) (Blk.new wr 35 _))
    clear hs hbk k1 hown hput hm1
    obtain ⟨q, hq⟩ := ex (o.length + j)
    rw [<- hq] at k1' HP
    have hq2 : q <= 1000000 := by omega
    have HQ := zh (ai hq ho3)
    clear hq ho3 hon
    go_wp2_with (at_builtin; refine wpList_app_z rfl (.tmp 16) (.tmp 19) rfl (g + 1) q co 1 1 Ao (some ⟨wr.heap.size, 0, none⟩) (o ++ (ss.take j).map sgB) [⟨4, s, 0, 0⟩] rfl HP.out.1 rfl rfl HR.out (by omega) (by simp; omega) ?_; intro A6 c6 w6 ho6 hg6; have H6 := zh (HP.out.2 w6 A6 (q + 1) c6 _ hg6 ho6 (by rw [lna, HQ.out.2, <- HQ.out.1]; rfl)); have hz6 : w6.frozen? ⟨g, 1, none⟩ = false := frozen_of_set H6.out.1; have hc6 := H6.out.2.2; clear ho6 hg6)
    go_roundw
    case rel =>
     refine ⟨j + 1, by go_num, by omega, ?_, (HW.out.2.alloc _).trans H6.out.2.1⟩
     rw [List.take_add_one, HS.out, List.map_append, <- List.append_assoc]
     exact H6.out.1
    case measure => simp [intOf]; omega
  . have hd : decide ((j : Int) < (n : Int)) = false := dqf (by omega)
    have HE : Hid (WrM wr g l (o ++ ss.map sgB)) := zh (by
     have := HW.out.1
     rwa [List.take_of_length_le (by rw [<- HH.out.2.2.2]; omega)] at this)
    go_wp2_with fail
    refine bodyPost_ret (results_none rfl _ _ _) rfl ?_
    exact ⟨rfl, HW.out.2, HE.out⟩
theorem sign_d (g b n c0 : Nat) (ss : List ByteArray) (u : FrameMode) (l : List Tw) (o : List Tz) (w : World) (h : WrM w g l o) (hb : Blk w b 9 (ss.map Value.string).toArray) (hbg : b ≠ g) (hn : n = ss.length) (ho : o.length + ss.length <= 1000000) :
 CallsD prog 56 #[gp g, .slice (some ⟨b, 0, none⟩) n c0] u w fun e u' w' => u' = u ∧ SPost w g l (o ++ ss.map sgB) e w' := by
 have HH := zh (ai h (ai hb (ai hbg hn)))
 have hn9 : n <= 1000000 := by omega
 have hon : o.length + n <= 1000000 := by omega
 clear hb hbg hn ho h
 go_enter_d func56, ntmps56
 go_wp2_with fail
 go_loopw [8] (fun s8 wr => ∃ j : Nat, s8 = .int .i64 (j : Nat) ∧ j <= n ∧ WrM wr g l (o ++ (ss.take j).map sgB) ∧ Kp g w wr) (fun s8 _ => n - (intOf s8).toNat)
 case atStart => exact ⟨0, rfl, by omega, by rw [List.take_zero, List.map_nil, List.append_nil]; exact HH.out.1, Kp.refl _ _⟩
 case round =>
  obtain ⟨j, rfl, hj, hm, hk⟩ := hrel
  have HW := zh (ai hm hk)
  clear hm hk
  by_cases hlt : j < n
  . have hd : decide ((j : Int) < (n : Int)) = true := dqt (by omega)
    obtain ⟨s, hs⟩ : ∃ s, ss[j]? = some s := by
     have : j < ss.length := by rw [<- HH.out.2.2.2]; exact hlt
     exact ⟨_, List.getElem?_eq_getElem this⟩
    have HS := zh hs
    have hbk : Blk wr b 9 (ss.map Value.string).toArray := HH.out.2.1.kp HW.out.2 HH.out.2.2.1 (by decide)
    have k9 : wr.cell? ⟨b, j, none⟩ = some (.string s) := by rw [hbk.cell j]; simp [hs]
    have hbl : b < wr.heap.size := hbk.lt
    have hg := HW.out.1.lt
    have hm1 : Hid (WrM (wr.alloc (.cells #[.int .u8 4, .string s, .int .i64 0, .int .i64 0] 35)) g l (o ++ (ss.take j).map sgB)) := zh (HW.out.1.alloc _)
    obtain ⟨Ao, co, k1, hown, hput⟩ := hm1.out.out_
    have ho3 : (o ++ (ss.take j).map sgB).length = o.length + j := by rw [lna, List.length_map, List.length_take, <- HH.out.2.2.2, Nat.min_eq_left hj]
    rw [ho3] at k1 hown hput
    have HP := zh (ai hown hput)
    have k1' : wr.cell? ⟨g, 1, none⟩ = some (.slice Ao (o.length + j) co) := (World.cell?_alloc_lt wr _ ⟨g, 1, none⟩ hg).symm.trans k1
    have hz : wr.frozen? ⟨g, 1, none⟩ = false := HW.out.1.frozen 1
    have HR : Hid (RdZ (wr.alloc (.cells #[.int .u8 4, .string s, .int .i64 0, .int .i64 0] 35)) (some ⟨wr.heap.size, 0, none⟩) [⟨4, s, 0, 0⟩]) := zh (rdz_one (x := ⟨4, s, 0, 0⟩) (Blk.new wr 35 _))
    clear hs hbk k1 hown hput hm1
    obtain ⟨q, hq⟩ := ex (o.length + j)
    rw [<- hq] at k1' HP
    have hq2 : q <= 1000000 := by omega
    have HQ := zh (ai hq ho3)
    clear hq ho3 hon
    go_wp2_with (at_builtin; refine wpList_app_z rfl (.tmp 16) (.tmp 19) rfl (g + 1) q co 1 1 Ao (some ⟨wr.heap.size, 0, none⟩) (o ++ (ss.take j).map sgB) [⟨4, s, 0, 0⟩] rfl HP.out.1 rfl rfl HR.out (by omega) (by simp; omega) ?_; intro A6 c6 w6 ho6 hg6; have H6 := zh (HP.out.2 w6 A6 (q + 1) c6 _ hg6 ho6 (by rw [lna, HQ.out.2, <- HQ.out.1]; rfl)); have hz6 : w6.frozen? ⟨g, 1, none⟩ = false := frozen_of_set H6.out.1; have hc6 := H6.out.2.2; clear ho6 hg6)
    go_roundw
    case rel =>
     refine ⟨j + 1, by go_num, by omega, ?_, (HW.out.2.alloc _).trans H6.out.2.1⟩
     rw [List.take_add_one, HS.out, List.map_append, <- List.append_assoc]
     exact H6.out.1
    case measure => simp [intOf]; omega
  . have hd : decide ((j : Int) < (n : Int)) = false := dqf (by omega)
    have HE : Hid (WrM wr g l (o ++ ss.map sgB)) := zh (by
     have := HW.out.1
     rwa [List.take_of_length_le (by rw [<- HH.out.2.2.2]; omega)] at this)
    go_wp2_with fail
    refine bodyPost_ret (results_none rfl _ _ _) rfl ?_
    exact ⟨rfl, HW.out.2, HE.out⟩
section
variable {g : Nat} {w : World} {l : List Tw} {o : List Tz}
theorem word1 (s : ByteArray) (h : WrM w g l o) (ho : o.length < 1000000) : Calls prog 55 #[gp g, .slice (some ⟨w.heap.size, 0, none⟩) 1 1] (w.alloc (.cells #[.string s] 9)) (SPost w g l (o ++ [wt s])) := by
 refine (word_any g w.heap.size 1 1 [s] l o _ (h.alloc _) (Blk.new w 9 _) (by have := h.lt; omega) rfl (by simp; omega)).mono ?_
 rintro e w' ⟨h1, h2, h3⟩
 exact ⟨h1, ((Kp.refl _ _).alloc _).trans h2, h3⟩
theorem word2 (s s2 : ByteArray) (h : WrM w g l o) (ho : o.length + 1 < 1000000) : Calls prog 55 #[gp g, .slice (some ⟨w.heap.size, 0, none⟩) 2 2] (w.alloc (.cells #[.string s, .string s2] 9)) (SPost w g l (o ++ [wt s, wt s2])) := by
 refine (word_any g w.heap.size 2 2 [s, s2] l o _ (h.alloc _) (Blk.new w 9 _) (by have := h.lt; omega) rfl (by simp; omega)).mono ?_
 rintro e w' ⟨h1, h2, h3⟩
 exact ⟨h1, ((Kp.refl _ _).alloc _).trans h2, h3⟩
theorem sign1 (s : ByteArray) (h : WrM w g l o) (ho : o.length < 1000000) : Calls prog 56 #[gp g, .slice (some ⟨w.heap.size, 0, none⟩) 1 1] (w.alloc (.cells #[.string s] 9)) (SPost w g l (o ++ [sgB s])) := by
 refine (sign_any g w.heap.size 1 1 [s] l o _ (h.alloc _) (Blk.new w 9 _) (by have := h.lt; omega) rfl (by simp; omega)).mono ?_
 rintro e w' ⟨h1, h2, h3⟩
 exact ⟨h1, ((Kp.refl _ _).alloc _).trans h2, h3⟩
theorem sign1_d (b : Nat) (s : ByteArray) (u : FrameMode) (h : WrM w g l o) (hb : Blk w b 9 #[.string s]) (hbg : b ≠ g) (ho : o.length < 1000000) : CallsD prog 56 #[gp g, .slice (some ⟨b, 0, none⟩) 1 1] u w fun e u' w' => u' = u ∧ SPost w g l (o ++ [sgB s]) e w' :=
 sign_d g b 1 1 [s] u l o w h hb hbg rfl (by simp; omega)
end
theorem width_any (op : Nat) (w : World) : Calls prog 58 #[.int .u8 (op : Nat)] w fun e w' => e = .returned (.int .i64 (width op : Nat)) ∧ w' = w := by
 by_cases h30 : op = 30
 . subst h30
   go_in
   go_wp2_with fail
   go_ret
   exact ⟨rfl, rfl⟩
 by_cases h31 : op = 31
 . subst h31
   go_in
   go_wp2_with fail
   go_ret
   exact ⟨rfl, rfl⟩
 by_cases h43 : op = 43
 . subst h43
   go_in
   go_wp2_with fail
   go_ret
   exact ⟨rfl, rfl⟩
 by_cases h32 : op = 32
 . subst h32
   go_in
   go_wp2_with fail
   go_ret
   exact ⟨rfl, rfl⟩
 by_cases h33 : op = 33
 . subst h33
   go_in
   go_wp2_with fail
   go_ret
   exact ⟨rfl, rfl⟩
 by_cases h34 : op = 34
 . subst h34
   go_in
   go_wp2_with fail
   go_ret
   exact ⟨rfl, rfl⟩
 by_cases h35 : op = 35
 . subst h35
   go_in
   go_wp2_with fail
   go_ret
   exact ⟨rfl, rfl⟩
 by_cases h36 : op = 36
 . subst h36
   go_in
   go_wp2_with fail
   go_ret
   exact ⟨rfl, rfl⟩
 by_cases h37 : op = 37
 . subst h37
   go_in
   go_wp2_with fail
   go_ret
   exact ⟨rfl, rfl⟩
 by_cases h38 : op = 38
 . subst h38
   go_in
   go_wp2_with fail
   go_ret
   exact ⟨rfl, rfl⟩
 by_cases h39 : op = 39
 . subst h39
   go_in
   go_wp2_with fail
   go_ret
   exact ⟨rfl, rfl⟩
 by_cases h40 : op = 40
 . subst h40
   go_in
   go_wp2_with fail
   go_ret
   exact ⟨rfl, rfl⟩
 by_cases h44 : op = 44
 . subst h44
   go_in
   go_wp2_with fail
   go_ret
   exact ⟨rfl, rfl⟩
 by_cases h54 : op = 54
 . subst h54
   go_in
   go_wp2_with fail
   go_ret
   exact ⟨rfl, rfl⟩
 by_cases h55 : op = 55
 . subst h55
   go_in
   go_wp2_with fail
   go_ret
   exact ⟨rfl, rfl⟩
 by_cases h42 : op = 42
 . subst h42
   go_in
   go_wp2_with fail
   go_ret
   exact ⟨rfl, rfl⟩
 have m30 : ((op : Int) == 30) = false := by rw [bfn]; omega
 have m31 : ((op : Int) == 31) = false := by rw [bfn]; omega
 have m43 : ((op : Int) == 43) = false := by rw [bfn]; omega
 have m32 : ((op : Int) == 32) = false := by rw [bfn]; omega
 have m33 : ((op : Int) == 33) = false := by rw [bfn]; omega
 have m34 : ((op : Int) == 34) = false := by rw [bfn]; omega
 have m35 : ((op : Int) == 35) = false := by rw [bfn]; omega
 have m36 : ((op : Int) == 36) = false := by rw [bfn]; omega
 have m37 : ((op : Int) == 37) = false := by rw [bfn]; omega
 have m38 : ((op : Int) == 38) = false := by rw [bfn]; omega
 have m39 : ((op : Int) == 39) = false := by rw [bfn]; omega
 have m40 : ((op : Int) == 40) = false := by rw [bfn]; omega
 have m44 : ((op : Int) == 44) = false := by rw [bfn]; omega
 have m54 : ((op : Int) == 54) = false := by rw [bfn]; omega
 have m55 : ((op : Int) == 55) = false := by rw [bfn]; omega
 have m42 : ((op : Int) == 42) = false := by rw [bfn]; omega
 have hw : Hid (width op = 9) := zh (by unfold width; rw [if_neg h30, if_neg h31, if_neg h43, if_neg (by omega), if_neg (by omega), if_neg (by omega), if_neg (by omega), if_neg h42])
 clear h30 h31 h43 h32 h33 h34 h35 h36 h37 h38 h39 h40 h44 h54 h55 h42
 go_in
 go_wp2_with fail
 go_ret
 exact ⟨by rw [hw.out]; rfl, rfl⟩
theorem between_any (op g : Nat) (l : List Tw) (o : List Tz) (w : World) (h : WrM w g l o) (ho : o.length < 1000000) (hop : 30 <= op ∧ op <= 40) : Calls prog 60 #[gp g, .int .u8 (op : Nat)] w (SPost w g l (o ++ [midT op])) := by
 have HW := zh (fun s => word1 s h ho)
 have HS := zh (fun s => sign1 s h ho)
 have hc : op = 30 ∨ op = 31 ∨ op = 32 ∨ op = 33 ∨ op = 34 ∨ op = 35 ∨ op = 36 ∨ op = 37 ∨ op = 38 ∨ op = 39 ∨ op = 40 := by omega
 clear h ho hop
 rcases hc with rfl | rfl | rfl | rfl | rfl | rfl | rfl | rfl | rfl | rfl | rfl
 . go_in
   go_wp2_with fail
   refine (HW.out (bs [111, 114])).mono ?_
   rintro e w1 ⟨rfl, hk, hm⟩
   have H1 := zh (ai hk hm)
   clear hk hm
   go_wp2_with fail
   refine bodyPost_ret (results_none rfl _ _ _) rfl ?_
   exact ⟨rfl, H1.out.1, H1.out.2⟩
 . go_in
   go_wp2_with fail
   refine (HW.out (bs [97, 110, 100])).mono ?_
   rintro e w1 ⟨rfl, hk, hm⟩
   have H1 := zh (ai hk hm)
   clear hk hm
   go_wp2_with fail
   refine bodyPost_ret (results_none rfl _ _ _) rfl ?_
   exact ⟨rfl, H1.out.1, H1.out.2⟩
 . go_in
   go_wp2_with fail
   refine (HS.out (bs [61, 61])).mono ?_
   rintro e w1 ⟨rfl, hk, hm⟩
   have H1 := zh (ai hk hm)
   clear hk hm
   go_wp2_with fail
   refine bodyPost_ret (results_none rfl _ _ _) rfl ?_
   exact ⟨rfl, H1.out.1, H1.out.2⟩
 . go_in
   go_wp2_with fail
   refine (HS.out (bs [33, 61])).mono ?_
   rintro e w1 ⟨rfl, hk, hm⟩
   have H1 := zh (ai hk hm)
   clear hk hm
   go_wp2_with fail
   refine bodyPost_ret (results_none rfl _ _ _) rfl ?_
   exact ⟨rfl, H1.out.1, H1.out.2⟩
 . go_in
   go_wp2_with fail
   refine (HS.out (bs [60])).mono ?_
   rintro e w1 ⟨rfl, hk, hm⟩
   have H1 := zh (ai hk hm)
   clear hk hm
   go_wp2_with fail
   refine bodyPost_ret (results_none rfl _ _ _) rfl ?_
   exact ⟨rfl, H1.out.1, H1.out.2⟩
 . go_in
   go_wp2_with fail
   refine (HS.out (bs [60, 61])).mono ?_
   rintro e w1 ⟨rfl, hk, hm⟩
   have H1 := zh (ai hk hm)
   clear hk hm
   go_wp2_with fail
   refine bodyPost_ret (results_none rfl _ _ _) rfl ?_
   exact ⟨rfl, H1.out.1, H1.out.2⟩
 . go_in
   go_wp2_with fail
   refine (HS.out (bs [43])).mono ?_
   rintro e w1 ⟨rfl, hk, hm⟩
   have H1 := zh (ai hk hm)
   clear hk hm
   go_wp2_with fail
   refine bodyPost_ret (results_none rfl _ _ _) rfl ?_
   exact ⟨rfl, H1.out.1, H1.out.2⟩
 . go_in
   go_wp2_with fail
   refine (HS.out (bs [45])).mono ?_
   rintro e w1 ⟨rfl, hk, hm⟩
   have H1 := zh (ai hk hm)
   clear hk hm
   go_wp2_with fail
   refine bodyPost_ret (results_none rfl _ _ _) rfl ?_
   exact ⟨rfl, H1.out.1, H1.out.2⟩
 . go_in
   go_wp2_with fail
   refine (HS.out (bs [42])).mono ?_
   rintro e w1 ⟨rfl, hk, hm⟩
   have H1 := zh (ai hk hm)
   clear hk hm
   go_wp2_with fail
   refine bodyPost_ret (results_none rfl _ _ _) rfl ?_
   exact ⟨rfl, H1.out.1, H1.out.2⟩
 . go_in
   go_wp2_with fail
   refine (HS.out (bs [47])).mono ?_
   rintro e w1 ⟨rfl, hk, hm⟩
   have H1 := zh (ai hk hm)
   clear hk hm
   go_wp2_with fail
   refine bodyPost_ret (results_none rfl _ _ _) rfl ?_
   exact ⟨rfl, H1.out.1, H1.out.2⟩
 . go_in
   go_wp2_with fail
   refine (HS.out (bs [37])).mono ?_
   rintro e w1 ⟨rfl, hk, hm⟩
   have H1 := zh (ai hk hm)
   clear hk hm
   go_wp2_with fail
   refine bodyPost_ret (results_none rfl _ _ _) rfl ?_
   exact ⟨rfl, H1.out.1, H1.out.2⟩
end Go.Proofs.YtbcadlocldplfaaDoor
namespace Go.Proofs.YtbcadlocldplfaaDoor
open Go.Proofs.Tryd
set_option maxRecDepth 100000
open Go.RowKit T8
def ExprOk (N : Nat) : Prop := ∀ (T : Tr), Rt 0 T -> T.flat.length <= N -> ∀ (g a : Nat) (l : List Tw) (o : List Tz) (w : World), a <= 9 -> WrM w g (T.flat ++ l) o -> o.length + (sh T a).length <= 1000000 -> Calls prog 27 #[gp g, .int .i64 (a : Nat)] w (SPost w g l (o ++ sh T a))
def BlockOk (N : Nat) : Prop := ∀ (T : Tr), Rt 1 T -> T.flat.length <= N -> ∀ (g : Nat) (l : List Tw) (o : List Tz) (w : World), WrM w g (T.flat ++ l) o -> o.length + (sh T 10).length <= 1000000 -> Calls prog 57 #[gp g] w (SPost w g l (o ++ sh T 10))
def StmtOk (N : Nat) : Prop := ∀ (T : Tr), Rt 2 T -> T.flat.length <= N -> ∀ (g : Nat) (l : List Tw) (o : List Tz) (w : World), WrM w g (T.flat ++ l) o -> o.length + (sh T 11).length <= 1000000 -> Calls prog 94 #[gp g] w (SPost w g l (o ++ sh T 11))
theorem commas_snoc (m : Nat) : ∀ (fs : List Sh) (f : Sh), commas m (fs ++ [f]) = if fs = [] then f m else commas m fs ++ sg [44] :: f m
 | [], f => by simp [commas]
 | [h], f => by simp [commas]
 | h :: h2 :: fs, f => by
  have ih := commas_snoc m (h2 :: fs) f
  rw [if_neg (by simp)] at ih
  rw [if_neg (by simp), List.cons_append, List.cons_append, commas, <- List.cons_append, ih, commas, List.append_assoc, List.cons_append]
theorem sh_snoc (ts : List Tr) (t : Tr) : shs (ts ++ [t]) = shs ts ++ [sh t] := by rw [shs_map, shs_map, List.map_append]; rfl
theorem commas_pre (m : Nat) : ∀ (gs fs : List Sh), (commas m fs).length <= (commas m (fs ++ gs)).length
 | [], fs => by rw [List.append_nil]; exact nlr _
 | f :: gs, fs => by
  have h1 := commas_pre m gs (fs ++ [f])
  rw [List.append_assoc, List.singleton_append] at h1
  refine Nat.le_trans ?_ h1
  rw [commas_snoc]
  split
  . rename_i h
    rw [h]
    exact Nat.zero_le _
  . rw [lna]
    omega
theorem take_shs (ks : List Tr) {j : Nat} {k : Tr} (hk : ks[j]? = some k) : shs (ks.take (j + 1)) = shs (ks.take j) ++ [sh k] := by
 rw [List.take_add_one, hk]
 exact sh_snoc _ _
theorem drop_flats (ks : List Tr) {j : Nat} {k : Tr} (hk : ks[j]? = some k) : flats (ks.drop j) = k.flat ++ flats (ks.drop (j + 1)) := by
 obtain ⟨hlt, rfl⟩ := List.getElem?_eq_some_iff.1 hk
 rw [List.drop_eq_getElem_cons hlt, flats]
theorem take_len (m : Nat) (ks : List Tr) (j : Nat) : (commas m (shs (ks.take j))).length <= (commas m (shs ks)).length := by
 have h := commas_pre m (shs (ks.drop j)) (shs (ks.take j))
 have e : shs (ks.take j) ++ shs (ks.drop j) = shs ks := by rw [shs_map, shs_map, <- List.map_append, List.take_append_drop, shs_map]
 rwa [e] at h
def ListPost (w : World) (g : Nat) (l : List Tw) (o : List Tz) (s : List UInt8) (ks : List Tr) (c : List UInt8) : Ending -> World -> Prop := SPost w g l (o ++ lisS s (shs ks) c)
theorem lis_len (s : List UInt8) (fs : List Sh) (c : List UInt8) : (lisS s fs c).length = (commas 1 fs).length + 2 := by unfold lisS; simp
theorem nwH {g : Nat} {w w1 : World} {l : List Tw} {o : List Tz} (h : Kp g w w1) (k : WrM w1 g l o) (t : TypeId) (cs : Array Value) : Kp g w (w1.alloc (.cells cs t)) ∧ WrM (w1.alloc (.cells cs t)) g l o ∧ Blk (w1.alloc (.cells cs t)) w1.heap.size t cs ∧ w1.heap.size ≠ g := ⟨h.alloc _, k.alloc _, Blk.new w1 t cs, by have := k.lt; omega⟩
theorem nwG {g : Nat} {w w1 : World} {l : List Tw} {o : List Tz} (h : Kp g w w1) (k : WrM w1 g l o) (t : TypeId) (cs : Array Value) : Kp g w (w1.alloc (.cells cs t)) ∧ WrM (w1.alloc (.cells cs t)) g l o ∧ Blk (w1.alloc (.cells cs t)) w1.heap.size t cs := ⟨h.alloc _, k.alloc _, Blk.new w1 t cs⟩
theorem nwI {g b : Nat} {w wa w3 : World} {l l0 : List Tw} {o o0 : List Tz} {t : TypeId} {cs : Array Value} (h : Kp g w wa ∧ WrM wa g l0 o0 ∧ Blk wa b t cs ∧ b ≠ g) (hk : Kp g wa w3) (k : WrM w3 g l o) (ht : t ≠ 35) (c9 c2 : Array Value) (he : c2 = c9) : Kp g w (w3.alloc (.cells c9 9)) ∧ WrM (w3.alloc (.cells c9 9)) g l o ∧ Blk (w3.alloc (.cells c9 9)) b t cs ∧ Blk (w3.alloc (.cells c9 9)) w3.heap.size 9 c2 ∧ w3.heap.size ≠ g := ⟨(h.1.trans hk).alloc _, k.alloc _, (h.2.2.1.kp hk h.2.2.2 ht).alloc _, by rw [he]; exact Blk.new w3 9 c9, by have := k.lt; omega⟩
theorem kpH {g b : Nat} {w wa w3 : World} {l l0 : List Tw} {o o0 : List Tz} {t : TypeId} {cs : Array Value} (h : Kp g w wa ∧ WrM wa g l0 o0 ∧ Blk wa b t cs ∧ b ≠ g) (hk : Kp g wa w3) (k : WrM w3 g l o) (ht : t ≠ 35) : Kp g w w3 ∧ WrM w3 g l o ∧ Blk w3 b t cs := ⟨h.1.trans hk, k, h.2.2.1.kp hk h.2.2.2 ht⟩
theorem wlist_any (N : Nat) (hE : ExprOk N) (ks : List Tr) (hks : ∀ k ∈ ks, Rt 0 k ∧ k.flat.length <= N) (s c : List UInt8) (g n : Nat) (l : List Tw) (o : List Tz) (w : World) (hm : WrM w g (flats ks ++ l) o) (hn : n = ks.length) (hn9 : n <= 100000) (ho : o.length + (lisS s (shs ks) c).length <= 1000000) :
 Calls prog 59 #[gp g, .string (bs s), .int .i64 (n : Nat), .string (bs c)] w (ListPost w g l o s ks c) := by
 rw [lis_len] at ho
 have HH := zh (ai hE (ai hks (ai hm (ai hn ho))))
 have HS := zh (sign1 (bs s) hm (by omega))
 obtain ⟨sb, hsb⟩ : ∃ z, z = bs s := ⟨_, rfl⟩
 obtain ⟨cb, hcb⟩ : ∃ z, z = bs c := ⟨_, rfl⟩
 rw [<- hsb] at HS
 rw [<- hsb, <- hcb]
 have HB := zh (ai hsb hcb)
 clear hE hks hm hn ho hsb hcb
 go_enter_defers func59, ntmps59
 go_wp2_with fail
 refine HS.out.mono ?_
 rintro e w1 ⟨rfl, hk1, hm1⟩
 have H1 := zh (nwH (l := flats ks ++ l) (o := o ++ [sgB sb]) hk1 hm1 9 #[.string cb])
 clear hk1 hm1 HS
 go_wp2_with fail
 go_loopw [17] (fun s17 wr => ∃ j : Nat, s17 = .int .i64 (j : Nat) ∧ j <= n ∧ Kp g w wr ∧ WrM wr g (flats (ks.drop j) ++ l) (o ++ sgB sb :: commas 1 (shs (ks.take j))) ∧ Blk wr w1.heap.size 9 #[.string cb]) (fun s17 _ => n - (intOf s17).toNat)
 case atStart => exact ⟨0, rfl, by omega, H1.out.1, by rw [List.drop_zero, List.take_zero, shs, commas]; exact H1.out.2.1, H1.out.2.2.1⟩
 case round =>
  obtain ⟨j, rfl, hj, hk, hm, hb⟩ := hrel
  have HW := zh (ai hk (ai hm hb))
  clear hk hm hb
  by_cases hlt : j < n
  . have hd : decide ((j : Int) < (n : Int)) = true := dqt (by omega)
    obtain ⟨k, hk⟩ : ∃ k, ks[j]? = some k := by
     have : j < ks.length := by rw [<- HH.out.2.2.2.1]; exact hlt
     exact ⟨_, List.getElem?_eq_getElem this⟩
    have HK := zh (ai hk (HH.out.2.1 k (List.mem_of_getElem? hk)))
    clear hk
    have HL : Hid (o.length + 1 + (commas 1 (shs (ks.take (j + 1)))).length + 1 <= 1000000) := zh (by have := take_len 1 ks (j + 1); have := HH.out.2.2.2.2; omega)
    have HD : Hid (flats (ks.drop j) ++ l = k.flat ++ (flats (ks.drop (j + 1)) ++ l)) := zh (by rw [drop_flats ks HK.out.1, List.append_assoc])
    by_cases h0 : j = 0
    . subst h0
      have HC : Hid (commas 1 (shs (ks.take (0 + 1))) = sh k 1) := zh (by rw [take_shs ks HK.out.1, List.take_zero, shs]; rfl)
      have HX := zh (HH.out.1 k HK.out.2.1 HK.out.2.2 g 1 (flats (ks.drop (0 + 1)) ++ l) _ wr (by omega) (by rw [<- HD.out]; exact HW.out.2.1) (by have := HL.out; rw [HC.out] at this; rw [List.take_zero, shs, commas, lna, lnc, lnn]; omega))
      clear HL HD
      go_wp2_with fail
      refine HX.out.mono ?_
      rintro e w3 ⟨rfl, hk3, hm3⟩
      have H3 := zh (ai hk3 hm3)
      clear hk3 hm3 HX
      go_wp2_with fail
      go_roundw
      case rel =>
       refine ⟨1, by go_num, by omega, HW.out.1.trans H3.out.1, ?_, HW.out.2.2.kp H3.out.1 H1.out.2.2.2 (by decide)⟩
       have := H3.out.2
       rw [List.take_zero, shs, commas, List.append_assoc] at this
       rw [HC.out]
       exact this
      case measure => simp [intOf]; omega
    . have h0' : decide ((0 : Int) < (j : Int)) = true := dqt (by omega)
      have HC : Hid (commas 1 (shs (ks.take (j + 1))) = commas 1 (shs (ks.take j)) ++ sg [44] :: sh k 1) := zh (by
       rw [take_shs ks HK.out.1, commas_snoc, if_neg]
       intro he
       have := congrArg List.length he
       rw [shs_len, List.length_take, <- HH.out.2.2.2.1, lnn] at this
       omega)
      have HS := zh (sign1 (bs [44]) HW.out.2.1 (by have := HL.out; rw [HC.out, lna, lnc] at this; rw [lna, lnc]; omega))
      go_wp2_with fail
      refine HS.out.mono ?_
      rintro e w2 ⟨rfl, hk2, hm2⟩
      have H2 := zh (ai hk2 hm2)
      clear hk2 hm2 HS
      have HX := zh (HH.out.1 k HK.out.2.1 HK.out.2.2 g 1 (flats (ks.drop (j + 1)) ++ l) _ w2 (by omega) (by rw [<- HD.out]; exact H2.out.2) (by have := HL.out; rw [HC.out, lna, lnc] at this; rw [lna, lna, lnc, List.length_singleton]; omega))
      clear HL HD
      go_wp2_with fail
      refine HX.out.mono ?_
      rintro e w3 ⟨rfl, hk3, hm3⟩
      have H3 := zh (ai hk3 hm3)
      clear hk3 hm3 HX
      go_wp2_with fail
      go_roundw
      case rel =>
       refine ⟨j + 1, by go_num, by omega, (HW.out.1.trans H2.out.1).trans H3.out.1, ?_, (HW.out.2.2.kp H2.out.1 H1.out.2.2.2 (by decide)).kp H3.out.1 H1.out.2.2.2 (by decide)⟩
       have := H3.out.2
       rw [HC.out]
       rw [List.append_assoc, List.append_assoc, List.cons_append] at this
       exact this
      case measure => simp [intOf]; omega
  . have hd : decide ((j : Int) < (n : Int)) = false := dqf (by omega)
    have HE : Hid (WrM wr g l (o ++ sgB sb :: commas 1 (shs ks))) := zh (by
     have := HW.out.2.1
     rwa [List.take_of_length_le (by rw [<- HH.out.2.2.2.1]; omega), List.drop_of_length_le (by rw [<- HH.out.2.2.2.1]; omega), flats, List.nil_append] at this)
    go_wp2_with fail
    refine leaves_cons (f := 56) (args := #[gp g, .slice (some ⟨w1.heap.size, 0, none⟩) 1 1]) (by simp) (by simp [go_sem]) ?_
    refine (sign1_d w1.heap.size cb .returning HE.out HW.out.2.2 H1.out.2.2.2 (by have := HH.out.2.2.2.2; rw [lna, lnc]; omega)).mono ?_
    rintro e u' w9 ⟨rfl, rfl, hk9, hm9⟩
    refine ⟨_, results_none rfl _ _ _, rfl, HW.out.1.trans hk9, ?_⟩
    rw [HB.out.1, HB.out.2, List.append_assoc] at hm9
    exact hm9
theorem sgB_sg (s : List UInt8) : sgB (bs s) = sg s := rfl
theorem width_is (op v : Nat) (h : width op = v) (w : World) : Calls prog 58 #[.int .u8 (op : Nat)] w fun e w' => e = .returned (.int .i64 (v : Nat)) ∧ w' = w := by
 rw [<- h]
 exact width_any op w
theorem mem1 {N : Nat} {k : Tr} (h : Rt 0 k ∧ k.flat.length <= N) : ∀ x ∈ [k], Rt 0 x ∧ x.flat.length <= N := by
 intro x hx
 rw [List.mem_singleton.1 hx]
 exact h
theorem mem2 {N : Nat} {k j : Tr} (h : Rt 0 k ∧ k.flat.length <= N) (h2 : Rt 0 j ∧ j.flat.length <= N) : ∀ x ∈ [k, j], Rt 0 x ∧ x.flat.length <= N := by
 intro x hx
 simp only [List.mem_cons, List.not_mem_nil, or_false] at hx
 rcases hx with rfl | rfl
 . exact h
 . exact h2
theorem flat1 (k : Tr) (l : List Tw) : flats [k] ++ l = k.flat ++ l := by simp [flats]
theorem flat2 (k j : Tr) (l : List Tw) : flats [k, j] ++ l = k.flat ++ (j.flat ++ l) := by simp [flats]
theorem ex20 (N : Nat) (hE : ExprOk N) (hB : BlockOk N) (g a : Nat) (ha : a <= 9) (l : List Tw) (o : List Tz) (w : World) (hm : WrM w g ((Tr.flat (.node ⟨20, 0, 0, bs []⟩ [])) ++ l) o) (ho : o.length + (sh (.node ⟨20, 0, 0, bs []⟩ []) a).length <= 1000000) :
 Calls prog 27 #[gp g, .int .i64 (a : Nat)] w (SPost w g l (o ++ sh (.node ⟨20, 0, 0, bs []⟩ []) a)) := by
 have HSH : Hid (sh (.node ⟨20, 0, 0, bs []⟩ []) a = [wd [110, 111, 110, 101]]) := zh (by
  rw [sh_expr _ _ (by omega), if_neg (by show ¬ width 20 < a; have : width 20 = 9 := rfl; omega)]
  rfl)
 have HL : Hid (o.length + ([wd [110, 111, 110, 101]]).length <= 1000000) := zh (by rw [<- HSH.out]; exact ho)
 have HM : Hid (WrM w g (⟨20, 0, 0, bs []⟩ :: (l)) o) := zh (by simpa [Tr.flat, flats] using hm)
 have HE := zh hE
 have HB := zh hB
 clear hm ho hE hB
 have d : decide ((9 : Int) < (a : Int)) = false := dqf (by omega)
 go_enter_defers func27, ntmps27
 go_wp2_with fail
 refine (next_any g ⟨20, 0, 0, bs []⟩ (l) o w HM.out).mono ?_
 rintro e w1 ⟨rfl, hk1, hm1⟩
 have H0 := zh (nwH (l := l) (o := o) hk1 hm1 42 #[.int .u8 20, .int .i64 0, .int .i64 0, .string (bs [])])
 clear hk1 hm1 HM
 go_wp2_with fail
 refine (width_is 20 9 rfl _).mono ?_
 rintro e w2 ⟨rfl, rfl⟩
 generalize w1.alloc _ = wa at *
 have c0 := H0.out.2.2.1.cell 0
 have c1 := H0.out.2.2.1.cell 1
 have c3 := H0.out.2.2.1.cell 3
 simp at c0 c1 c3
 go_wp2_with fail
 refine (word1 (bs [110, 111, 110, 101]) H0.out.2.1 (by have := HL.out; (try simp only [lna, lnc, lnn] at this |-); omega)).mono ?_
 rintro e w3 ⟨rfl, hk, hm⟩
 have H3 := zh (kpH (l := l) (o := o ++ [wd [110, 111, 110, 101]]) H0.out hk hm (by decide))
 clear hk hm
 go_wp2_with fail
 refine ⟨_, results_none rfl _ _ _, rfl, H3.out.1, ?_⟩
 rw [HSH.out]
 have := H3.out.2.1
 simpa only [List.append_assoc] using this
theorem ex21 (N : Nat) (hE : ExprOk N) (hB : BlockOk N) (g a : Nat) (ha : a <= 9) (l : List Tw) (o : List Tz) (w : World) (hm : WrM w g ((Tr.flat (.node ⟨21, 0, 0, bs []⟩ [])) ++ l) o) (ho : o.length + (sh (.node ⟨21, 0, 0, bs []⟩ []) a).length <= 1000000) :
 Calls prog 27 #[gp g, .int .i64 (a : Nat)] w (SPost w g l (o ++ sh (.node ⟨21, 0, 0, bs []⟩ []) a)) := by
 have HSH : Hid (sh (.node ⟨21, 0, 0, bs []⟩ []) a = [wd [116, 114, 117, 101]]) := zh (by
  rw [sh_expr _ _ (by omega), if_neg (by show ¬ width 21 < a; have : width 21 = 9 := rfl; omega)]
  rfl)
 have HL : Hid (o.length + ([wd [116, 114, 117, 101]]).length <= 1000000) := zh (by rw [<- HSH.out]; exact ho)
 have HM : Hid (WrM w g (⟨21, 0, 0, bs []⟩ :: (l)) o) := zh (by simpa [Tr.flat, flats] using hm)
 have HE := zh hE
 have HB := zh hB
 clear hm ho hE hB
 have d : decide ((9 : Int) < (a : Int)) = false := dqf (by omega)
 go_enter_defers func27, ntmps27
 go_wp2_with fail
 refine (next_any g ⟨21, 0, 0, bs []⟩ (l) o w HM.out).mono ?_
 rintro e w1 ⟨rfl, hk1, hm1⟩
 have H0 := zh (nwH (l := l) (o := o) hk1 hm1 42 #[.int .u8 21, .int .i64 0, .int .i64 0, .string (bs [])])
 clear hk1 hm1 HM
 go_wp2_with fail
 refine (width_is 21 9 rfl _).mono ?_
 rintro e w2 ⟨rfl, rfl⟩
 generalize w1.alloc _ = wa at *
 have c0 := H0.out.2.2.1.cell 0
 have c1 := H0.out.2.2.1.cell 1
 have c3 := H0.out.2.2.1.cell 3
 simp at c0 c1 c3
 go_wp2_with fail
 refine (word1 (bs [116, 114, 117, 101]) H0.out.2.1 (by have := HL.out; (try simp only [lna, lnc, lnn] at this |-); omega)).mono ?_
 rintro e w3 ⟨rfl, hk, hm⟩
 have H3 := zh (kpH (l := l) (o := o ++ [wd [116, 114, 117, 101]]) H0.out hk hm (by decide))
 clear hk hm
 go_wp2_with fail
 refine ⟨_, results_none rfl _ _ _, rfl, H3.out.1, ?_⟩
 rw [HSH.out]
 have := H3.out.2.1
 simpa only [List.append_assoc] using this
theorem ex22 (N : Nat) (hE : ExprOk N) (hB : BlockOk N) (g a : Nat) (ha : a <= 9) (l : List Tw) (o : List Tz) (w : World) (hm : WrM w g ((Tr.flat (.node ⟨22, 0, 0, bs []⟩ [])) ++ l) o) (ho : o.length + (sh (.node ⟨22, 0, 0, bs []⟩ []) a).length <= 1000000) :
 Calls prog 27 #[gp g, .int .i64 (a : Nat)] w (SPost w g l (o ++ sh (.node ⟨22, 0, 0, bs []⟩ []) a)) := by
 have HSH : Hid (sh (.node ⟨22, 0, 0, bs []⟩ []) a = [wd [102, 97, 108, 115, 101]]) := zh (by
  rw [sh_expr _ _ (by omega), if_neg (by show ¬ width 22 < a; have : width 22 = 9 := rfl; omega)]
  rfl)
 have HL : Hid (o.length + ([wd [102, 97, 108, 115, 101]]).length <= 1000000) := zh (by rw [<- HSH.out]; exact ho)
 have HM : Hid (WrM w g (⟨22, 0, 0, bs []⟩ :: (l)) o) := zh (by simpa [Tr.flat, flats] using hm)
 have HE := zh hE
 have HB := zh hB
 clear hm ho hE hB
 have d : decide ((9 : Int) < (a : Int)) = false := dqf (by omega)
 go_enter_defers func27, ntmps27
 go_wp2_with fail
 refine (next_any g ⟨22, 0, 0, bs []⟩ (l) o w HM.out).mono ?_
 rintro e w1 ⟨rfl, hk1, hm1⟩
 have H0 := zh (nwH (l := l) (o := o) hk1 hm1 42 #[.int .u8 22, .int .i64 0, .int .i64 0, .string (bs [])])
 clear hk1 hm1 HM
 go_wp2_with fail
 refine (width_is 22 9 rfl _).mono ?_
 rintro e w2 ⟨rfl, rfl⟩
 generalize w1.alloc _ = wa at *
 have c0 := H0.out.2.2.1.cell 0
 have c1 := H0.out.2.2.1.cell 1
 have c3 := H0.out.2.2.1.cell 3
 simp at c0 c1 c3
 go_wp2_with fail
 refine (word1 (bs [102, 97, 108, 115, 101]) H0.out.2.1 (by have := HL.out; (try simp only [lna, lnc, lnn] at this |-); omega)).mono ?_
 rintro e w3 ⟨rfl, hk, hm⟩
 have H3 := zh (kpH (l := l) (o := o ++ [wd [102, 97, 108, 115, 101]]) H0.out hk hm (by decide))
 clear hk hm
 go_wp2_with fail
 refine ⟨_, results_none rfl _ _ _, rfl, H3.out.1, ?_⟩
 rw [HSH.out]
 have := H3.out.2.1
 simpa only [List.append_assoc] using this
theorem ex57 (N : Nat) (hE : ExprOk N) (hB : BlockOk N) (g a : Nat) (ha : a <= 9) (l : List Tw) (o : List Tz) (w : World) (hm : WrM w g ((Tr.flat (.node ⟨57, 0, 0, bs []⟩ [])) ++ l) o) (ho : o.length + (sh (.node ⟨57, 0, 0, bs []⟩ []) a).length <= 1000000) :
 Calls prog 27 #[gp g, .int .i64 (a : Nat)] w (SPost w g l (o ++ sh (.node ⟨57, 0, 0, bs []⟩ []) a)) := by
 have HSH : Hid (sh (.node ⟨57, 0, 0, bs []⟩ []) a = [wd [118, 101, 114, 115, 105, 111, 110]]) := zh (by
  rw [sh_expr _ _ (by omega), if_neg (by show ¬ width 57 < a; have : width 57 = 9 := rfl; omega)]
  rfl)
 have HL : Hid (o.length + ([wd [118, 101, 114, 115, 105, 111, 110]]).length <= 1000000) := zh (by rw [<- HSH.out]; exact ho)
 have HM : Hid (WrM w g (⟨57, 0, 0, bs []⟩ :: (l)) o) := zh (by simpa [Tr.flat, flats] using hm)
 have HE := zh hE
 have HB := zh hB
 clear hm ho hE hB
 have d : decide ((9 : Int) < (a : Int)) = false := dqf (by omega)
 go_enter_defers func27, ntmps27
 go_wp2_with fail
 refine (next_any g ⟨57, 0, 0, bs []⟩ (l) o w HM.out).mono ?_
 rintro e w1 ⟨rfl, hk1, hm1⟩
 have H0 := zh (nwH (l := l) (o := o) hk1 hm1 42 #[.int .u8 57, .int .i64 0, .int .i64 0, .string (bs [])])
 clear hk1 hm1 HM
 go_wp2_with fail
 refine (width_is 57 9 rfl _).mono ?_
 rintro e w2 ⟨rfl, rfl⟩
 generalize w1.alloc _ = wa at *
 have c0 := H0.out.2.2.1.cell 0
 have c1 := H0.out.2.2.1.cell 1
 have c3 := H0.out.2.2.1.cell 3
 simp at c0 c1 c3
 go_wp2_with fail
 refine (word1 (bs [118, 101, 114, 115, 105, 111, 110]) H0.out.2.1 (by have := HL.out; (try simp only [lna, lnc, lnn] at this |-); omega)).mono ?_
 rintro e w3 ⟨rfl, hk, hm⟩
 have H3 := zh (kpH (l := l) (o := o ++ [wd [118, 101, 114, 115, 105, 111, 110]]) H0.out hk hm (by decide))
 clear hk hm
 go_wp2_with fail
 refine ⟨_, results_none rfl _ _ _, rfl, H3.out.1, ?_⟩
 rw [HSH.out]
 have := H3.out.2.1
 simpa only [List.append_assoc] using this
theorem ex26 (N : Nat) (hE : ExprOk N) (hB : BlockOk N) (s : ByteArray) (g a : Nat) (ha : a <= 9) (l : List Tw) (o : List Tz) (w : World) (hm : WrM w g ((Tr.flat (.node ⟨26, 0, 0, s⟩ [])) ++ l) o) (ho : o.length + (sh (.node ⟨26, 0, 0, s⟩ []) a).length <= 1000000) :
 Calls prog 27 #[gp g, .int .i64 (a : Nat)] w (SPost w g l (o ++ sh (.node ⟨26, 0, 0, s⟩ []) a)) := by
 have HSH : Hid (sh (.node ⟨26, 0, 0, s⟩ []) a = [wt s]) := zh (by
  rw [sh_expr _ _ (by omega), if_neg (by show ¬ width 26 < a; have : width 26 = 9 := rfl; omega)]
  rfl)
 have HL : Hid (o.length + ([wt s]).length <= 1000000) := zh (by rw [<- HSH.out]; exact ho)
 have HM : Hid (WrM w g (⟨26, 0, 0, s⟩ :: (l)) o) := zh (by simpa [Tr.flat, flats] using hm)
 have HE := zh hE
 have HB := zh hB
 clear hm ho hE hB
 have d : decide ((9 : Int) < (a : Int)) = false := dqf (by omega)
 go_enter_defers func27, ntmps27
 go_wp2_with fail
 refine (next_any g ⟨26, 0, 0, s⟩ (l) o w HM.out).mono ?_
 rintro e w1 ⟨rfl, hk1, hm1⟩
 have H0 := zh (nwH (l := l) (o := o) hk1 hm1 42 #[.int .u8 26, .int .i64 0, .int .i64 0, .string (s)])
 clear hk1 hm1 HM
 go_wp2_with fail
 refine (width_is 26 9 rfl _).mono ?_
 rintro e w2 ⟨rfl, rfl⟩
 generalize w1.alloc _ = wa at *
 have c0 := H0.out.2.2.1.cell 0
 have c1 := H0.out.2.2.1.cell 1
 have c3 := H0.out.2.2.1.cell 3
 simp at c0 c1 c3
 go_wp2_with fail
 refine (word1 s H0.out.2.1 (by have := HL.out; (try simp only [lna, lnc, lnn] at this |-); omega)).mono ?_
 rintro e w3 ⟨rfl, hk, hm⟩
 have H3 := zh (kpH (l := l) (o := o ++ [wt s]) H0.out hk hm (by decide))
 clear hk hm
 go_wp2_with fail
 refine ⟨_, results_none rfl _ _ _, rfl, H3.out.1, ?_⟩
 rw [HSH.out]
 have := H3.out.2.1
 simpa only [List.append_assoc] using this
theorem ex56 (N : Nat) (hE : ExprOk N) (hB : BlockOk N) (s : ByteArray) (g a : Nat) (ha : a <= 9) (l : List Tw) (o : List Tz) (w : World) (hm : WrM w g ((Tr.flat (.node ⟨56, 0, 0, s⟩ [])) ++ l) o) (ho : o.length + (sh (.node ⟨56, 0, 0, s⟩ []) a).length <= 1000000) :
 Calls prog 27 #[gp g, .int .i64 (a : Nat)] w (SPost w g l (o ++ sh (.node ⟨56, 0, 0, s⟩ []) a)) := by
 have HSH : Hid (sh (.node ⟨56, 0, 0, s⟩ []) a = [wd [116, 97, 107, 101], wt s]) := zh (by
  rw [sh_expr _ _ (by omega), if_neg (by show ¬ width 56 < a; have : width 56 = 9 := rfl; omega)]
  rfl)
 have HL : Hid (o.length + ([wd [116, 97, 107, 101], wt s]).length <= 1000000) := zh (by rw [<- HSH.out]; exact ho)
 have HM : Hid (WrM w g (⟨56, 0, 0, s⟩ :: (l)) o) := zh (by simpa [Tr.flat, flats] using hm)
 have HE := zh hE
 have HB := zh hB
 clear hm ho hE hB
 have d : decide ((9 : Int) < (a : Int)) = false := dqf (by omega)
 go_enter_defers func27, ntmps27
 go_wp2_with fail
 refine (next_any g ⟨56, 0, 0, s⟩ (l) o w HM.out).mono ?_
 rintro e w1 ⟨rfl, hk1, hm1⟩
 have H0 := zh (nwH (l := l) (o := o) hk1 hm1 42 #[.int .u8 56, .int .i64 0, .int .i64 0, .string (s)])
 clear hk1 hm1 HM
 go_wp2_with fail
 refine (width_is 56 9 rfl _).mono ?_
 rintro e w2 ⟨rfl, rfl⟩
 generalize w1.alloc _ = wa at *
 have c0 := H0.out.2.2.1.cell 0
 have c1 := H0.out.2.2.1.cell 1
 have c3 := H0.out.2.2.1.cell 3
 simp at c0 c1 c3
 go_wp2_with fail
 refine (word2 (bs [116, 97, 107, 101]) s H0.out.2.1 (by have := HL.out; (try simp only [lna, lnc, lnn] at this |-); omega)).mono ?_
 rintro e w3 ⟨rfl, hk, hm⟩
 have H3 := zh (kpH (l := l) (o := o ++ [wd [116, 97, 107, 101], wt s]) H0.out hk hm (by decide))
 clear hk hm
 go_wp2_with fail
 refine ⟨_, results_none rfl _ _ _, rfl, H3.out.1, ?_⟩
 rw [HSH.out]
 have := H3.out.2.1
 simpa only [List.append_assoc] using this
theorem ex25 (N : Nat) (hE : ExprOk N) (hB : BlockOk N) (ks : List Tr) (hks : ∀ k ∈ ks, Rt 0 k ∧ k.flat.length <= N) (hn9 : ks.length <= 100000) (g a : Nat) (ha : a <= 9) (l : List Tw) (o : List Tz) (w : World) (hm : WrM w g ((Tr.flat (.node ⟨25, (ks.length : Nat), 0, bs []⟩ ks)) ++ l) o) (ho : o.length + (sh (.node ⟨25, (ks.length : Nat), 0, bs []⟩ ks) a).length <= 1000000) :
 Calls prog 27 #[gp g, .int .i64 (a : Nat)] w (SPost w g l (o ++ sh (.node ⟨25, (ks.length : Nat), 0, bs []⟩ ks) a)) := by
 have HSH : Hid (sh (.node ⟨25, (ks.length : Nat), 0, bs []⟩ ks) a = lisS [91] (shs ks) [93]) := zh (by
  rw [sh_expr _ _ (by omega), if_neg (by show ¬ width 25 < a; have : width 25 = 9 := rfl; omega)]
  rfl)
 have HL : Hid (o.length + (lisS [91] (shs ks) [93]).length <= 1000000) := zh (by rw [<- HSH.out]; exact ho)
 have HM : Hid (WrM w g (⟨25, (ks.length : Nat), 0, bs []⟩ :: (flats ks ++ l)) o) := zh (by simpa [Tr.flat, flats] using hm)
 have HE := zh hE
 have HB := zh hB
 have HKS := zh (ai hks hn9)
 clear hks hn9
 obtain ⟨nk, hnk⟩ : ∃ z, z = ks.length := ⟨_, rfl⟩
 have HNK := zh hnk
 rw [<- hnk] at HM
 clear hnk
 clear hm ho hE hB
 have d : decide ((9 : Int) < (a : Int)) = false := dqf (by omega)
 go_enter_defers func27, ntmps27
 go_wp2_with fail
 refine (next_any g ⟨25, (nk : Nat), 0, bs []⟩ (flats ks ++ l) o w HM.out).mono ?_
 rintro e w1 ⟨rfl, hk1, hm1⟩
 have H0 := zh (nwH (l := flats ks ++ l) (o := o) hk1 hm1 42 #[.int .u8 25, .int .i64 (nk : Nat), .int .i64 0, .string (bs [])])
 clear hk1 hm1 HM
 go_wp2_with fail
 refine (width_is 25 9 rfl _).mono ?_
 rintro e w2 ⟨rfl, rfl⟩
 generalize w1.alloc _ = wa at *
 have c0 := H0.out.2.2.1.cell 0
 have c1 := H0.out.2.2.1.cell 1
 have c3 := H0.out.2.2.1.cell 3
 simp at c0 c1 c3
 go_wp2_with fail
 refine (wlist_any N HE.out ks HKS.out.1 [91] [93] g nk _ _ _ H0.out.2.1 HNK.out (by rw [HNK.out]; exact HKS.out.2) (by have := HL.out; (try simp only [lna, lnc, lnn] at this |-); omega)).mono ?_
 rintro e w3 ⟨rfl, hk, hm⟩
 have H3 := zh (kpH (l := l) (o := o ++ lisS [91] (shs ks) [93]) H0.out hk hm (by decide))
 clear hk hm
 go_wp2_with fail
 refine ⟨_, results_none rfl _ _ _, rfl, H3.out.1, ?_⟩
 rw [HSH.out]
 have := H3.out.2.1
 simpa only [List.append_assoc] using this
theorem ex50 (N : Nat) (hE : ExprOk N) (hB : BlockOk N) (ks : List Tr) (hks : ∀ k ∈ ks, Rt 0 k ∧ k.flat.length <= N) (hn9 : ks.length <= 100000) (s : ByteArray) (g a : Nat) (ha : a <= 9) (l : List Tw) (o : List Tz) (w : World) (hm : WrM w g ((Tr.flat (.node ⟨50, (ks.length : Nat), 0, s⟩ ks)) ++ l) o) (ho : o.length + (sh (.node ⟨50, (ks.length : Nat), 0, s⟩ ks) a).length <= 1000000) :
 Calls prog 27 #[gp g, .int .i64 (a : Nat)] w (SPost w g l (o ++ sh (.node ⟨50, (ks.length : Nat), 0, s⟩ ks) a)) := by
 have HSH : Hid (sh (.node ⟨50, (ks.length : Nat), 0, s⟩ ks) a = [wd [99, 97, 108, 108], wt s] ++ (lisS [40] (shs ks) [41])) := zh (by
  rw [sh_expr _ _ (by omega), if_neg (by show ¬ width 50 < a; have : width 50 = 9 := rfl; omega)]
  rfl)
 have HL : Hid (o.length + ([wd [99, 97, 108, 108], wt s] ++ (lisS [40] (shs ks) [41])).length <= 1000000) := zh (by rw [<- HSH.out]; exact ho)
 have HM : Hid (WrM w g (⟨50, (ks.length : Nat), 0, s⟩ :: (flats ks ++ l)) o) := zh (by simpa [Tr.flat, flats] using hm)
 have HE := zh hE
 have HB := zh hB
 have HKS := zh (ai hks hn9)
 clear hks hn9
 obtain ⟨nk, hnk⟩ : ∃ z, z = ks.length := ⟨_, rfl⟩
 have HNK := zh hnk
 rw [<- hnk] at HM
 clear hnk
 clear hm ho hE hB
 have d : decide ((9 : Int) < (a : Int)) = false := dqf (by omega)
 go_enter_defers func27, ntmps27
 go_wp2_with fail
 refine (next_any g ⟨50, (nk : Nat), 0, s⟩ (flats ks ++ l) o w HM.out).mono ?_
 rintro e w1 ⟨rfl, hk1, hm1⟩
 have H0 := zh (nwH (l := flats ks ++ l) (o := o) hk1 hm1 42 #[.int .u8 50, .int .i64 (nk : Nat), .int .i64 0, .string (s)])
 clear hk1 hm1 HM
 go_wp2_with fail
 refine (width_is 50 9 rfl _).mono ?_
 rintro e w2 ⟨rfl, rfl⟩
 generalize w1.alloc _ = wa at *
 have c0 := H0.out.2.2.1.cell 0
 have c1 := H0.out.2.2.1.cell 1
 have c3 := H0.out.2.2.1.cell 3
 simp at c0 c1 c3
 go_wp2_with fail
 refine (word2 (bs [99, 97, 108, 108]) s H0.out.2.1 (by have := HL.out; (try simp only [lna, lnc, lnn] at this |-); omega)).mono ?_
 rintro e w3 ⟨rfl, hk, hm⟩
 have H3 := zh (kpH (l := flats ks ++ l) (o := o ++ [wd [99, 97, 108, 108], wt s]) H0.out hk hm (by decide))
 clear hk hm
 clear c0 c1 c3
 have c0 := H3.out.2.2.cell 0
 have c1 := H3.out.2.2.cell 1
 have c3 := H3.out.2.2.cell 3
 simp at c0 c1 c3
 go_wp2_with fail
 refine (wlist_any N HE.out ks HKS.out.1 [40] [41] g nk _ _ _ H3.out.2.1 HNK.out (by rw [HNK.out]; exact HKS.out.2) (by have := HL.out; (try simp only [lna, lnc, lnn] at this |-); omega)).mono ?_
 rintro e w4 ⟨rfl, hk, hm⟩
 have H4 : Hid (Kp g w w4 ∧ WrM w4 g (l) ((o ++ [wd [99, 97, 108, 108], wt s]) ++ lisS [40] (shs ks) [41]) ∧ Blk w4 w1.heap.size 42 #[.int .u8 50, .int .i64 (nk : Nat), .int .i64 0, .string (s)]) := zh ⟨H3.out.1.trans hk, hm, H3.out.2.2.kp hk H0.out.2.2.2 (by decide)⟩
 clear hk hm
 go_wp2_with fail
 refine ⟨_, results_none rfl _ _ _, rfl, H4.out.1, ?_⟩
 rw [HSH.out]
 have := H4.out.2.1
 simpa only [List.append_assoc] using this
theorem ex51 (N : Nat) (hE : ExprOk N) (hB : BlockOk N) (ks : List Tr) (hks : ∀ k ∈ ks, Rt 0 k ∧ k.flat.length <= N) (hn9 : ks.length <= 100000) (s : ByteArray) (g a : Nat) (ha : a <= 9) (l : List Tw) (o : List Tz) (w : World) (hm : WrM w g ((Tr.flat (.node ⟨51, (ks.length : Nat), 0, s⟩ ks)) ++ l) o) (ho : o.length + (sh (.node ⟨51, (ks.length : Nat), 0, s⟩ ks) a).length <= 1000000) :
 Calls prog 27 #[gp g, .int .i64 (a : Nat)] w (SPost w g l (o ++ sh (.node ⟨51, (ks.length : Nat), 0, s⟩ ks) a)) := by
 have HSH : Hid (sh (.node ⟨51, (ks.length : Nat), 0, s⟩ ks) a = [wd [99, 104, 105, 108, 100], wt s] ++ (lisS [40] (shs ks) [41])) := zh (by
  rw [sh_expr _ _ (by omega), if_neg (by show ¬ width 51 < a; have : width 51 = 9 := rfl; omega)]
  rfl)
 have HL : Hid (o.length + ([wd [99, 104, 105, 108, 100], wt s] ++ (lisS [40] (shs ks) [41])).length <= 1000000) := zh (by rw [<- HSH.out]; exact ho)
 have HM : Hid (WrM w g (⟨51, (ks.length : Nat), 0, s⟩ :: (flats ks ++ l)) o) := zh (by simpa [Tr.flat, flats] using hm)
 have HE := zh hE
 have HB := zh hB
 have HKS := zh (ai hks hn9)
 clear hks hn9
 obtain ⟨nk, hnk⟩ : ∃ z, z = ks.length := ⟨_, rfl⟩
 have HNK := zh hnk
 rw [<- hnk] at HM
 clear hnk
 clear hm ho hE hB
 have d : decide ((9 : Int) < (a : Int)) = false := dqf (by omega)
 go_enter_defers func27, ntmps27
 go_wp2_with fail
 refine (next_any g ⟨51, (nk : Nat), 0, s⟩ (flats ks ++ l) o w HM.out).mono ?_
 rintro e w1 ⟨rfl, hk1, hm1⟩
 have H0 := zh (nwH (l := flats ks ++ l) (o := o) hk1 hm1 42 #[.int .u8 51, .int .i64 (nk : Nat), .int .i64 0, .string (s)])
 clear hk1 hm1 HM
 go_wp2_with fail
 refine (width_is 51 9 rfl _).mono ?_
 rintro e w2 ⟨rfl, rfl⟩
 generalize w1.alloc _ = wa at *
 have c0 := H0.out.2.2.1.cell 0
 have c1 := H0.out.2.2.1.cell 1
 have c3 := H0.out.2.2.1.cell 3
 simp at c0 c1 c3
 go_wp2_with fail
 refine (word2 (bs [99, 104, 105, 108, 100]) s H0.out.2.1 (by have := HL.out; (try simp only [lna, lnc, lnn] at this |-); omega)).mono ?_
 rintro e w3 ⟨rfl, hk, hm⟩
 have H3 := zh (kpH (l := flats ks ++ l) (o := o ++ [wd [99, 104, 105, 108, 100], wt s]) H0.out hk hm (by decide))
 clear hk hm
 clear c0 c1 c3
 have c0 := H3.out.2.2.cell 0
 have c1 := H3.out.2.2.cell 1
 have c3 := H3.out.2.2.cell 3
 simp at c0 c1 c3
 go_wp2_with fail
 refine (wlist_any N HE.out ks HKS.out.1 [40] [41] g nk _ _ _ H3.out.2.1 HNK.out (by rw [HNK.out]; exact HKS.out.2) (by have := HL.out; (try simp only [lna, lnc, lnn] at this |-); omega)).mono ?_
 rintro e w4 ⟨rfl, hk, hm⟩
 have H4 : Hid (Kp g w w4 ∧ WrM w4 g (l) ((o ++ [wd [99, 104, 105, 108, 100], wt s]) ++ lisS [40] (shs ks) [41]) ∧ Blk w4 w1.heap.size 42 #[.int .u8 51, .int .i64 (nk : Nat), .int .i64 0, .string (s)]) := zh ⟨H3.out.1.trans hk, hm, H3.out.2.2.kp hk H0.out.2.2.2 (by decide)⟩
 clear hk hm
 go_wp2_with fail
 refine ⟨_, results_none rfl _ _ _, rfl, H4.out.1, ?_⟩
 rw [HSH.out]
 have := H4.out.2.1
 simpa only [List.append_assoc] using this
theorem ex45 (N : Nat) (hE : ExprOk N) (hB : BlockOk N) (k : Tr) (hk : Rt 0 k ∧ k.flat.length <= N) (g a : Nat) (ha : a <= 9) (l : List Tw) (o : List Tz) (w : World) (hm : WrM w g ((Tr.flat (.node ⟨45, 1, 0, bs []⟩ [k])) ++ l) o) (ho : o.length + (sh (.node ⟨45, 1, 0, bs []⟩ [k]) a).length <= 1000000) :
 Calls prog 27 #[gp g, .int .i64 (a : Nat)] w (SPost w g l (o ++ sh (.node ⟨45, 1, 0, bs []⟩ [k]) a)) := by
 have HSH : Hid (sh (.node ⟨45, 1, 0, bs []⟩ [k]) a = [wd [108, 101, 110]] ++ (lisS [40] (shs [k]) [41])) := zh (by
  rw [sh_expr _ _ (by omega), if_neg (by show ¬ width 45 < a; have : width 45 = 9 := rfl; omega)]
  rw [shs_map]; rfl)
 have HL : Hid (o.length + ([wd [108, 101, 110]] ++ (lisS [40] (shs [k]) [41])).length <= 1000000) := zh (by rw [<- HSH.out]; exact ho)
 have HM : Hid (WrM w g (⟨45, 1, 0, bs []⟩ :: (k.flat ++ l)) o) := zh (by simpa [Tr.flat, flats] using hm)
 have HE := zh hE
 have HB := zh hB
 have HK := zh hk
 clear hk
 clear hm ho hE hB
 have d : decide ((9 : Int) < (a : Int)) = false := dqf (by omega)
 go_enter_defers func27, ntmps27
 go_wp2_with fail
 refine (next_any g ⟨45, 1, 0, bs []⟩ (k.flat ++ l) o w HM.out).mono ?_
 rintro e w1 ⟨rfl, hk1, hm1⟩
 have H0 := zh (nwH (l := k.flat ++ l) (o := o) hk1 hm1 42 #[.int .u8 45, .int .i64 1, .int .i64 0, .string (bs [])])
 clear hk1 hm1 HM
 go_wp2_with fail
 refine (width_is 45 9 rfl _).mono ?_
 rintro e w2 ⟨rfl, rfl⟩
 generalize w1.alloc _ = wa at *
 have c0 := H0.out.2.2.1.cell 0
 have c1 := H0.out.2.2.1.cell 1
 have c3 := H0.out.2.2.1.cell 3
 simp at c0 c1 c3
 go_wp2_with fail
 refine (word1 (bs [108, 101, 110]) H0.out.2.1 (by have := HL.out; (try simp only [lna, lnc, lnn] at this |-); omega)).mono ?_
 rintro e w3 ⟨rfl, hk, hm⟩
 have H3 := zh (kpH (l := k.flat ++ l) (o := o ++ [wd [108, 101, 110]]) H0.out hk hm (by decide))
 clear hk hm
 clear c0 c1 c3
 have c0 := H3.out.2.2.cell 0
 have c1 := H3.out.2.2.cell 1
 have c3 := H3.out.2.2.cell 3
 simp at c0 c1 c3
 go_wp2_with fail
 refine (wlist_any N HE.out [k] (mem1 HK.out) [40] [41] g 1 _ _ _ (by rw [flat1]; exact H3.out.2.1) rfl (by omega) (by have := HL.out; (try simp only [lna, lnc, lnn] at this |-); omega)).mono ?_
 rintro e w4 ⟨rfl, hk, hm⟩
 have H4 : Hid (Kp g w w4 ∧ WrM w4 g (l) ((o ++ [wd [108, 101, 110]]) ++ lisS [40] (shs [k]) [41]) ∧ Blk w4 w1.heap.size 42 #[.int .u8 45, .int .i64 1, .int .i64 0, .string (bs [])]) := zh ⟨H3.out.1.trans hk, hm, H3.out.2.2.kp hk H0.out.2.2.2 (by decide)⟩
 clear hk hm
 go_wp2_with fail
 refine ⟨_, results_none rfl _ _ _, rfl, H4.out.1, ?_⟩
 rw [HSH.out]
 have := H4.out.2.1
 simpa only [List.append_assoc] using this
theorem ex46 (N : Nat) (hE : ExprOk N) (hB : BlockOk N) (k : Tr) (hk : Rt 0 k ∧ k.flat.length <= N) (g a : Nat) (ha : a <= 9) (l : List Tw) (o : List Tz) (w : World) (hm : WrM w g ((Tr.flat (.node ⟨46, 1, 0, bs []⟩ [k])) ++ l) o) (ho : o.length + (sh (.node ⟨46, 1, 0, bs []⟩ [k]) a).length <= 1000000) :
 Calls prog 27 #[gp g, .int .i64 (a : Nat)] w (SPost w g l (o ++ sh (.node ⟨46, 1, 0, bs []⟩ [k]) a)) := by
 have HSH : Hid (sh (.node ⟨46, 1, 0, bs []⟩ [k]) a = [wd [114, 101]] ++ (lisS [40] (shs [k]) [41])) := zh (by
  rw [sh_expr _ _ (by omega), if_neg (by show ¬ width 46 < a; have : width 46 = 9 := rfl; omega)]
  rw [shs_map]; rfl)
 have HL : Hid (o.length + ([wd [114, 101]] ++ (lisS [40] (shs [k]) [41])).length <= 1000000) := zh (by rw [<- HSH.out]; exact ho)
 have HM : Hid (WrM w g (⟨46, 1, 0, bs []⟩ :: (k.flat ++ l)) o) := zh (by simpa [Tr.flat, flats] using hm)
 have HE := zh hE
 have HB := zh hB
 have HK := zh hk
 clear hk
 clear hm ho hE hB
 have d : decide ((9 : Int) < (a : Int)) = false := dqf (by omega)
 go_enter_defers func27, ntmps27
 go_wp2_with fail
 refine (next_any g ⟨46, 1, 0, bs []⟩ (k.flat ++ l) o w HM.out).mono ?_
 rintro e w1 ⟨rfl, hk1, hm1⟩
 have H0 := zh (nwH (l := k.flat ++ l) (o := o) hk1 hm1 42 #[.int .u8 46, .int .i64 1, .int .i64 0, .string (bs [])])
 clear hk1 hm1 HM
 go_wp2_with fail
 refine (width_is 46 9 rfl _).mono ?_
 rintro e w2 ⟨rfl, rfl⟩
 generalize w1.alloc _ = wa at *
 have c0 := H0.out.2.2.1.cell 0
 have c1 := H0.out.2.2.1.cell 1
 have c3 := H0.out.2.2.1.cell 3
 simp at c0 c1 c3
 go_wp2_with fail
 refine (word1 (bs [114, 101]) H0.out.2.1 (by have := HL.out; (try simp only [lna, lnc, lnn] at this |-); omega)).mono ?_
 rintro e w3 ⟨rfl, hk, hm⟩
 have H3 := zh (kpH (l := k.flat ++ l) (o := o ++ [wd [114, 101]]) H0.out hk hm (by decide))
 clear hk hm
 clear c0 c1 c3
 have c0 := H3.out.2.2.cell 0
 have c1 := H3.out.2.2.cell 1
 have c3 := H3.out.2.2.cell 3
 simp at c0 c1 c3
 go_wp2_with fail
 refine (wlist_any N HE.out [k] (mem1 HK.out) [40] [41] g 1 _ _ _ (by rw [flat1]; exact H3.out.2.1) rfl (by omega) (by have := HL.out; (try simp only [lna, lnc, lnn] at this |-); omega)).mono ?_
 rintro e w4 ⟨rfl, hk, hm⟩
 have H4 : Hid (Kp g w w4 ∧ WrM w4 g (l) ((o ++ [wd [114, 101]]) ++ lisS [40] (shs [k]) [41]) ∧ Blk w4 w1.heap.size 42 #[.int .u8 46, .int .i64 1, .int .i64 0, .string (bs [])]) := zh ⟨H3.out.1.trans hk, hm, H3.out.2.2.kp hk H0.out.2.2.2 (by decide)⟩
 clear hk hm
 go_wp2_with fail
 refine ⟨_, results_none rfl _ _ _, rfl, H4.out.1, ?_⟩
 rw [HSH.out]
 have := H4.out.2.1
 simpa only [List.append_assoc] using this
theorem ex47 (N : Nat) (hE : ExprOk N) (hB : BlockOk N) (k : Tr) (hk : Rt 0 k ∧ k.flat.length <= N) (g a : Nat) (ha : a <= 9) (l : List Tw) (o : List Tz) (w : World) (hm : WrM w g ((Tr.flat (.node ⟨47, 1, 0, bs []⟩ [k])) ++ l) o) (ho : o.length + (sh (.node ⟨47, 1, 0, bs []⟩ [k]) a).length <= 1000000) :
 Calls prog 27 #[gp g, .int .i64 (a : Nat)] w (SPost w g l (o ++ sh (.node ⟨47, 1, 0, bs []⟩ [k]) a)) := by
 have HSH : Hid (sh (.node ⟨47, 1, 0, bs []⟩ [k]) a = [wd [105, 109]] ++ (lisS [40] (shs [k]) [41])) := zh (by
  rw [sh_expr _ _ (by omega), if_neg (by show ¬ width 47 < a; have : width 47 = 9 := rfl; omega)]
  rw [shs_map]; rfl)
 have HL : Hid (o.length + ([wd [105, 109]] ++ (lisS [40] (shs [k]) [41])).length <= 1000000) := zh (by rw [<- HSH.out]; exact ho)
 have HM : Hid (WrM w g (⟨47, 1, 0, bs []⟩ :: (k.flat ++ l)) o) := zh (by simpa [Tr.flat, flats] using hm)
 have HE := zh hE
 have HB := zh hB
 have HK := zh hk
 clear hk
 clear hm ho hE hB
 have d : decide ((9 : Int) < (a : Int)) = false := dqf (by omega)
 go_enter_defers func27, ntmps27
 go_wp2_with fail
 refine (next_any g ⟨47, 1, 0, bs []⟩ (k.flat ++ l) o w HM.out).mono ?_
 rintro e w1 ⟨rfl, hk1, hm1⟩
 have H0 := zh (nwH (l := k.flat ++ l) (o := o) hk1 hm1 42 #[.int .u8 47, .int .i64 1, .int .i64 0, .string (bs [])])
 clear hk1 hm1 HM
 go_wp2_with fail
 refine (width_is 47 9 rfl _).mono ?_
 rintro e w2 ⟨rfl, rfl⟩
 generalize w1.alloc _ = wa at *
 have c0 := H0.out.2.2.1.cell 0
 have c1 := H0.out.2.2.1.cell 1
 have c3 := H0.out.2.2.1.cell 3
 simp at c0 c1 c3
 go_wp2_with fail
 refine (word1 (bs [105, 109]) H0.out.2.1 (by have := HL.out; (try simp only [lna, lnc, lnn] at this |-); omega)).mono ?_
 rintro e w3 ⟨rfl, hk, hm⟩
 have H3 := zh (kpH (l := k.flat ++ l) (o := o ++ [wd [105, 109]]) H0.out hk hm (by decide))
 clear hk hm
 clear c0 c1 c3
 have c0 := H3.out.2.2.cell 0
 have c1 := H3.out.2.2.cell 1
 have c3 := H3.out.2.2.cell 3
 simp at c0 c1 c3
 go_wp2_with fail
 refine (wlist_any N HE.out [k] (mem1 HK.out) [40] [41] g 1 _ _ _ (by rw [flat1]; exact H3.out.2.1) rfl (by omega) (by have := HL.out; (try simp only [lna, lnc, lnn] at this |-); omega)).mono ?_
 rintro e w4 ⟨rfl, hk, hm⟩
 have H4 : Hid (Kp g w w4 ∧ WrM w4 g (l) ((o ++ [wd [105, 109]]) ++ lisS [40] (shs [k]) [41]) ∧ Blk w4 w1.heap.size 42 #[.int .u8 47, .int .i64 1, .int .i64 0, .string (bs [])]) := zh ⟨H3.out.1.trans hk, hm, H3.out.2.2.kp hk H0.out.2.2.2 (by decide)⟩
 clear hk hm
 go_wp2_with fail
 refine ⟨_, results_none rfl _ _ _, rfl, H4.out.1, ?_⟩
 rw [HSH.out]
 have := H4.out.2.1
 simpa only [List.append_assoc] using this
theorem ex48 (N : Nat) (hE : ExprOk N) (hB : BlockOk N) (k : Tr) (hk : Rt 0 k ∧ k.flat.length <= N) (g a : Nat) (ha : a <= 9) (l : List Tw) (o : List Tz) (w : World) (hm : WrM w g ((Tr.flat (.node ⟨48, 1, 0, bs []⟩ [k])) ++ l) o) (ho : o.length + (sh (.node ⟨48, 1, 0, bs []⟩ [k]) a).length <= 1000000) :
 Calls prog 27 #[gp g, .int .i64 (a : Nat)] w (SPost w g l (o ++ sh (.node ⟨48, 1, 0, bs []⟩ [k]) a)) := by
 have HSH : Hid (sh (.node ⟨48, 1, 0, bs []⟩ [k]) a = [wd [99, 111, 110, 106]] ++ (lisS [40] (shs [k]) [41])) := zh (by
  rw [sh_expr _ _ (by omega), if_neg (by show ¬ width 48 < a; have : width 48 = 9 := rfl; omega)]
  rw [shs_map]; rfl)
 have HL : Hid (o.length + ([wd [99, 111, 110, 106]] ++ (lisS [40] (shs [k]) [41])).length <= 1000000) := zh (by rw [<- HSH.out]; exact ho)
 have HM : Hid (WrM w g (⟨48, 1, 0, bs []⟩ :: (k.flat ++ l)) o) := zh (by simpa [Tr.flat, flats] using hm)
 have HE := zh hE
 have HB := zh hB
 have HK := zh hk
 clear hk
 clear hm ho hE hB
 have d : decide ((9 : Int) < (a : Int)) = false := dqf (by omega)
 go_enter_defers func27, ntmps27
 go_wp2_with fail
 refine (next_any g ⟨48, 1, 0, bs []⟩ (k.flat ++ l) o w HM.out).mono ?_
 rintro e w1 ⟨rfl, hk1, hm1⟩
 have H0 := zh (nwH (l := k.flat ++ l) (o := o) hk1 hm1 42 #[.int .u8 48, .int .i64 1, .int .i64 0, .string (bs [])])
 clear hk1 hm1 HM
 go_wp2_with fail
 refine (width_is 48 9 rfl _).mono ?_
 rintro e w2 ⟨rfl, rfl⟩
 generalize w1.alloc _ = wa at *
 have c0 := H0.out.2.2.1.cell 0
 have c1 := H0.out.2.2.1.cell 1
 have c3 := H0.out.2.2.1.cell 3
 simp at c0 c1 c3
 go_wp2_with fail
 refine (word1 (bs [99, 111, 110, 106]) H0.out.2.1 (by have := HL.out; (try simp only [lna, lnc, lnn] at this |-); omega)).mono ?_
 rintro e w3 ⟨rfl, hk, hm⟩
 have H3 := zh (kpH (l := k.flat ++ l) (o := o ++ [wd [99, 111, 110, 106]]) H0.out hk hm (by decide))
 clear hk hm
 clear c0 c1 c3
 have c0 := H3.out.2.2.cell 0
 have c1 := H3.out.2.2.cell 1
 have c3 := H3.out.2.2.cell 3
 simp at c0 c1 c3
 go_wp2_with fail
 refine (wlist_any N HE.out [k] (mem1 HK.out) [40] [41] g 1 _ _ _ (by rw [flat1]; exact H3.out.2.1) rfl (by omega) (by have := HL.out; (try simp only [lna, lnc, lnn] at this |-); omega)).mono ?_
 rintro e w4 ⟨rfl, hk, hm⟩
 have H4 : Hid (Kp g w w4 ∧ WrM w4 g (l) ((o ++ [wd [99, 111, 110, 106]]) ++ lisS [40] (shs [k]) [41]) ∧ Blk w4 w1.heap.size 42 #[.int .u8 48, .int .i64 1, .int .i64 0, .string (bs [])]) := zh ⟨H3.out.1.trans hk, hm, H3.out.2.2.kp hk H0.out.2.2.2 (by decide)⟩
 clear hk hm
 go_wp2_with fail
 refine ⟨_, results_none rfl _ _ _, rfl, H4.out.1, ?_⟩
 rw [HSH.out]
 have := H4.out.2.1
 simpa only [List.append_assoc] using this
theorem ex52 (N : Nat) (hE : ExprOk N) (hB : BlockOk N) (k : Tr) (hk : Rt 0 k ∧ k.flat.length <= N) (g a : Nat) (ha : a <= 9) (l : List Tw) (o : List Tz) (w : World) (hm : WrM w g ((Tr.flat (.node ⟨52, 1, 0, bs []⟩ [k])) ++ l) o) (ho : o.length + (sh (.node ⟨52, 1, 0, bs []⟩ [k]) a).length <= 1000000) :
 Calls prog 27 #[gp g, .int .i64 (a : Nat)] w (SPost w g l (o ++ sh (.node ⟨52, 1, 0, bs []⟩ [k]) a)) := by
 have HSH : Hid (sh (.node ⟨52, 1, 0, bs []⟩ [k]) a = [wd [116, 105, 109, 101, 114]] ++ (lisS [40] (shs [k]) [41])) := zh (by
  rw [sh_expr _ _ (by omega), if_neg (by show ¬ width 52 < a; have : width 52 = 9 := rfl; omega)]
  rw [shs_map]; rfl)
 have HL : Hid (o.length + ([wd [116, 105, 109, 101, 114]] ++ (lisS [40] (shs [k]) [41])).length <= 1000000) := zh (by rw [<- HSH.out]; exact ho)
 have HM : Hid (WrM w g (⟨52, 1, 0, bs []⟩ :: (k.flat ++ l)) o) := zh (by simpa [Tr.flat, flats] using hm)
 have HE := zh hE
 have HB := zh hB
 have HK := zh hk
 clear hk
 clear hm ho hE hB
 have d : decide ((9 : Int) < (a : Int)) = false := dqf (by omega)
 go_enter_defers func27, ntmps27
 go_wp2_with fail
 refine (next_any g ⟨52, 1, 0, bs []⟩ (k.flat ++ l) o w HM.out).mono ?_
 rintro e w1 ⟨rfl, hk1, hm1⟩
 have H0 := zh (nwH (l := k.flat ++ l) (o := o) hk1 hm1 42 #[.int .u8 52, .int .i64 1, .int .i64 0, .string (bs [])])
 clear hk1 hm1 HM
 go_wp2_with fail
 refine (width_is 52 9 rfl _).mono ?_
 rintro e w2 ⟨rfl, rfl⟩
 generalize w1.alloc _ = wa at *
 have c0 := H0.out.2.2.1.cell 0
 have c1 := H0.out.2.2.1.cell 1
 have c3 := H0.out.2.2.1.cell 3
 simp at c0 c1 c3
 go_wp2_with fail
 refine (word1 (bs [116, 105, 109, 101, 114]) H0.out.2.1 (by have := HL.out; (try simp only [lna, lnc, lnn] at this |-); omega)).mono ?_
 rintro e w3 ⟨rfl, hk, hm⟩
 have H3 := zh (kpH (l := k.flat ++ l) (o := o ++ [wd [116, 105, 109, 101, 114]]) H0.out hk hm (by decide))
 clear hk hm
 clear c0 c1 c3
 have c0 := H3.out.2.2.cell 0
 have c1 := H3.out.2.2.cell 1
 have c3 := H3.out.2.2.cell 3
 simp at c0 c1 c3
 go_wp2_with fail
 refine (wlist_any N HE.out [k] (mem1 HK.out) [40] [41] g 1 _ _ _ (by rw [flat1]; exact H3.out.2.1) rfl (by omega) (by have := HL.out; (try simp only [lna, lnc, lnn] at this |-); omega)).mono ?_
 rintro e w4 ⟨rfl, hk, hm⟩
 have H4 : Hid (Kp g w w4 ∧ WrM w4 g (l) ((o ++ [wd [116, 105, 109, 101, 114]]) ++ lisS [40] (shs [k]) [41]) ∧ Blk w4 w1.heap.size 42 #[.int .u8 52, .int .i64 1, .int .i64 0, .string (bs [])]) := zh ⟨H3.out.1.trans hk, hm, H3.out.2.2.kp hk H0.out.2.2.2 (by decide)⟩
 clear hk hm
 go_wp2_with fail
 refine ⟨_, results_none rfl _ _ _, rfl, H4.out.1, ?_⟩
 rw [HSH.out]
 have := H4.out.2.1
 simpa only [List.append_assoc] using this
theorem ex41 (N : Nat) (hE : ExprOk N) (hB : BlockOk N) (k j : Tr) (hk : Rt 0 k ∧ k.flat.length <= N) (hj : Rt 0 j ∧ j.flat.length <= N) (g a : Nat) (ha : a <= 9) (l : List Tw) (o : List Tz) (w : World) (hm : WrM w g ((Tr.flat (.node ⟨41, 2, 0, bs []⟩ [k, j])) ++ l) o) (ho : o.length + (sh (.node ⟨41, 2, 0, bs []⟩ [k, j]) a).length <= 1000000) :
 Calls prog 27 #[gp g, .int .i64 (a : Nat)] w (SPost w g l (o ++ sh (.node ⟨41, 2, 0, bs []⟩ [k, j]) a)) := by
 have HSH : Hid (sh (.node ⟨41, 2, 0, bs []⟩ [k, j]) a = [wd [110, 117, 109]] ++ (lisS [40] (shs [k, j]) [41])) := zh (by
  rw [sh_expr _ _ (by omega), if_neg (by show ¬ width 41 < a; have : width 41 = 9 := rfl; omega)]
  rw [shs_map]; rfl)
 have HL : Hid (o.length + ([wd [110, 117, 109]] ++ (lisS [40] (shs [k, j]) [41])).length <= 1000000) := zh (by rw [<- HSH.out]; exact ho)
 have HM : Hid (WrM w g (⟨41, 2, 0, bs []⟩ :: (k.flat ++ (j.flat ++ l))) o) := zh (by simpa [Tr.flat, flats] using hm)
 have HE := zh hE
 have HB := zh hB
 have HK := zh (ai hk hj)
 clear hk hj
 clear hm ho hE hB
 have d : decide ((9 : Int) < (a : Int)) = false := dqf (by omega)
 go_enter_defers func27, ntmps27
 go_wp2_with fail
 refine (next_any g ⟨41, 2, 0, bs []⟩ (k.flat ++ (j.flat ++ l)) o w HM.out).mono ?_
 rintro e w1 ⟨rfl, hk1, hm1⟩
 have H0 := zh (nwH (l := k.flat ++ (j.flat ++ l)) (o := o) hk1 hm1 42 #[.int .u8 41, .int .i64 2, .int .i64 0, .string (bs [])])
 clear hk1 hm1 HM
 go_wp2_with fail
 refine (width_is 41 9 rfl _).mono ?_
 rintro e w2 ⟨rfl, rfl⟩
 generalize w1.alloc _ = wa at *
 have c0 := H0.out.2.2.1.cell 0
 have c1 := H0.out.2.2.1.cell 1
 have c3 := H0.out.2.2.1.cell 3
 simp at c0 c1 c3
 go_wp2_with fail
 refine (word1 (bs [110, 117, 109]) H0.out.2.1 (by have := HL.out; (try simp only [lna, lnc, lnn] at this |-); omega)).mono ?_
 rintro e w3 ⟨rfl, hk, hm⟩
 have H3 := zh (kpH (l := k.flat ++ (j.flat ++ l)) (o := o ++ [wd [110, 117, 109]]) H0.out hk hm (by decide))
 clear hk hm
 clear c0 c1 c3
 have c0 := H3.out.2.2.cell 0
 have c1 := H3.out.2.2.cell 1
 have c3 := H3.out.2.2.cell 3
 simp at c0 c1 c3
 go_wp2_with fail
 refine (wlist_any N HE.out [k, j] (mem2 HK.out.1 HK.out.2) [40] [41] g 2 _ _ _ (by rw [flat2]; exact H3.out.2.1) rfl (by omega) (by have := HL.out; (try simp only [lna, lnc, lnn] at this |-); omega)).mono ?_
 rintro e w4 ⟨rfl, hk, hm⟩
 have H4 : Hid (Kp g w w4 ∧ WrM w4 g (l) ((o ++ [wd [110, 117, 109]]) ++ lisS [40] (shs [k, j]) [41]) ∧ Blk w4 w1.heap.size 42 #[.int .u8 41, .int .i64 2, .int .i64 0, .string (bs [])]) := zh ⟨H3.out.1.trans hk, hm, H3.out.2.2.kp hk H0.out.2.2.2 (by decide)⟩
 clear hk hm
 go_wp2_with fail
 refine ⟨_, results_none rfl _ _ _, rfl, H4.out.1, ?_⟩
 rw [HSH.out]
 have := H4.out.2.1
 simpa only [List.append_assoc] using this
theorem ex53 (N : Nat) (hE : ExprOk N) (hB : BlockOk N) (k : Tr) (hk : Rt 1 k ∧ k.flat.length <= N) (g a : Nat) (ha : a <= 9) (l : List Tw) (o : List Tz) (w : World) (hm : WrM w g ((Tr.flat (.node ⟨53, 1, 0, bs []⟩ [k])) ++ l) o) (ho : o.length + (sh (.node ⟨53, 1, 0, bs []⟩ [k]) a).length <= 1000000) :
 Calls prog 27 #[gp g, .int .i64 (a : Nat)] w (SPost w g l (o ++ sh (.node ⟨53, 1, 0, bs []⟩ [k]) a)) := by
 have HSH : Hid (sh (.node ⟨53, 1, 0, bs []⟩ [k]) a = [wd [102, 111, 114, 107]] ++ (sh k 10)) := zh (by
  rw [sh_expr _ _ (by omega), if_neg (by show ¬ width 53 < a; have : width 53 = 9 := rfl; omega)]
  rw [shs_map]; rfl)
 have HL : Hid (o.length + ([wd [102, 111, 114, 107]] ++ (sh k 10)).length <= 1000000) := zh (by rw [<- HSH.out]; exact ho)
 have HM : Hid (WrM w g (⟨53, 1, 0, bs []⟩ :: (k.flat ++ l)) o) := zh (by simpa [Tr.flat, flats] using hm)
 have HE := zh hE
 have HB := zh hB
 have HK := zh hk
 clear hk
 clear hm ho hE hB
 have d : decide ((9 : Int) < (a : Int)) = false := dqf (by omega)
 go_enter_defers func27, ntmps27
 go_wp2_with fail
 refine (next_any g ⟨53, 1, 0, bs []⟩ (k.flat ++ l) o w HM.out).mono ?_
 rintro e w1 ⟨rfl, hk1, hm1⟩
 have H0 := zh (nwH (l := k.flat ++ l) (o := o) hk1 hm1 42 #[.int .u8 53, .int .i64 1, .int .i64 0, .string (bs [])])
 clear hk1 hm1 HM
 go_wp2_with fail
 refine (width_is 53 9 rfl _).mono ?_
 rintro e w2 ⟨rfl, rfl⟩
 generalize w1.alloc _ = wa at *
 have c0 := H0.out.2.2.1.cell 0
 have c1 := H0.out.2.2.1.cell 1
 have c3 := H0.out.2.2.1.cell 3
 simp at c0 c1 c3
 go_wp2_with fail
 refine (word1 (bs [102, 111, 114, 107]) H0.out.2.1 (by have := HL.out; (try simp only [lna, lnc, lnn] at this |-); omega)).mono ?_
 rintro e w3 ⟨rfl, hk, hm⟩
 have H3 := zh (kpH (l := k.flat ++ l) (o := o ++ [wd [102, 111, 114, 107]]) H0.out hk hm (by decide))
 clear hk hm
 clear c0 c1 c3
 have c0 := H3.out.2.2.cell 0
 have c1 := H3.out.2.2.cell 1
 have c3 := H3.out.2.2.cell 3
 simp at c0 c1 c3
 go_wp2_with fail
 refine (HB.out k HK.out.1 HK.out.2 g _ _ _ H3.out.2.1 (by have := HL.out; (try simp only [lna, lnc, lnn] at this |-); omega)).mono ?_
 rintro e w4 ⟨rfl, hk, hm⟩
 have H4 : Hid (Kp g w w4 ∧ WrM w4 g (l) ((o ++ [wd [102, 111, 114, 107]]) ++ sh k 10) ∧ Blk w4 w1.heap.size 42 #[.int .u8 53, .int .i64 1, .int .i64 0, .string (bs [])]) := zh ⟨H3.out.1.trans hk, hm, H3.out.2.2.kp hk H0.out.2.2.2 (by decide)⟩
 clear hk hm
 go_wp2_with fail
 refine ⟨_, results_none rfl _ _ _, rfl, H4.out.1, ?_⟩
 rw [HSH.out]
 have := H4.out.2.1
 simpa only [List.append_assoc] using this
theorem ex43 (N : Nat) (hE : ExprOk N) (hB : BlockOk N) (k : Tr) (hk : Rt 0 k ∧ k.flat.length <= N) (g a : Nat) (ha : a <= 3) (l : List Tw) (o : List Tz) (w : World) (hm : WrM w g ((Tr.flat (.node ⟨43, 1, 0, bs []⟩ [k])) ++ l) o) (ho : o.length + (sh (.node ⟨43, 1, 0, bs []⟩ [k]) a).length <= 1000000) :
 Calls prog 27 #[gp g, .int .i64 (a : Nat)] w (SPost w g l (o ++ sh (.node ⟨43, 1, 0, bs []⟩ [k]) a)) := by
 have HSH : Hid (sh (.node ⟨43, 1, 0, bs []⟩ [k]) a = [wd [110, 111, 116]] ++ (sh k 3)) := zh (by
  rw [sh_expr _ _ (by omega), if_neg (by show ¬ width 43 < a; have : width 43 = 3 := rfl; omega)]
  rw [shs_map]; rfl)
 have HL : Hid (o.length + ([wd [110, 111, 116]] ++ (sh k 3)).length <= 1000000) := zh (by rw [<- HSH.out]; exact ho)
 have HM : Hid (WrM w g (⟨43, 1, 0, bs []⟩ :: (k.flat ++ l)) o) := zh (by simpa [Tr.flat, flats] using hm)
 have HE := zh hE
 have HB := zh hB
 have HK := zh hk
 clear hk
 clear hm ho hE hB
 have d : decide ((3 : Int) < (a : Int)) = false := dqf (by omega)
 go_enter_defers func27, ntmps27
 go_wp2_with fail
 refine (next_any g ⟨43, 1, 0, bs []⟩ (k.flat ++ l) o w HM.out).mono ?_
 rintro e w1 ⟨rfl, hk1, hm1⟩
 have H0 := zh (nwH (l := k.flat ++ l) (o := o) hk1 hm1 42 #[.int .u8 43, .int .i64 1, .int .i64 0, .string (bs [])])
 clear hk1 hm1 HM
 go_wp2_with fail
 refine (width_is 43 3 rfl _).mono ?_
 rintro e w2 ⟨rfl, rfl⟩
 generalize w1.alloc _ = wa at *
 have c0 := H0.out.2.2.1.cell 0
 have c1 := H0.out.2.2.1.cell 1
 have c3 := H0.out.2.2.1.cell 3
 simp at c0 c1 c3
 go_wp2_with fail
 refine (word1 (bs [110, 111, 116]) H0.out.2.1 (by have := HL.out; (try simp only [lna, lnc, lnn] at this |-); omega)).mono ?_
 rintro e w3 ⟨rfl, hk, hm⟩
 have H3 := zh (kpH (l := k.flat ++ l) (o := o ++ [wd [110, 111, 116]]) H0.out hk hm (by decide))
 clear hk hm
 clear c0 c1 c3
 have c0 := H3.out.2.2.cell 0
 have c1 := H3.out.2.2.cell 1
 have c3 := H3.out.2.2.cell 3
 simp at c0 c1 c3
 go_wp2_with fail
 refine (HE.out k HK.out.1 HK.out.2 g 3 _ _ _ (by omega) H3.out.2.1 (by have := HL.out; (try simp only [lna, lnc, lnn] at this |-); omega)).mono ?_
 rintro e w4 ⟨rfl, hk, hm⟩
 have H4 : Hid (Kp g w w4 ∧ WrM w4 g (l) ((o ++ [wd [110, 111, 116]]) ++ sh k 3) ∧ Blk w4 w1.heap.size 42 #[.int .u8 43, .int .i64 1, .int .i64 0, .string (bs [])]) := zh ⟨H3.out.1.trans hk, hm, H3.out.2.2.kp hk H0.out.2.2.2 (by decide)⟩
 clear hk hm
 go_wp2_with fail
 refine ⟨_, results_none rfl _ _ _, rfl, H4.out.1, ?_⟩
 rw [HSH.out]
 have := H4.out.2.1
 simpa only [List.append_assoc] using this
theorem ex44 (N : Nat) (hE : ExprOk N) (hB : BlockOk N) (k : Tr) (hk : Rt 0 k ∧ k.flat.length <= N) (g a : Nat) (ha : a <= 7) (l : List Tw) (o : List Tz) (w : World) (hm : WrM w g ((Tr.flat (.node ⟨44, 1, 0, bs []⟩ [k])) ++ l) o) (ho : o.length + (sh (.node ⟨44, 1, 0, bs []⟩ [k]) a).length <= 1000000) :
 Calls prog 27 #[gp g, .int .i64 (a : Nat)] w (SPost w g l (o ++ sh (.node ⟨44, 1, 0, bs []⟩ [k]) a)) := by
 have HSH : Hid (sh (.node ⟨44, 1, 0, bs []⟩ [k]) a = [sg [45]] ++ (sh k 7)) := zh (by
  rw [sh_expr _ _ (by omega), if_neg (by show ¬ width 44 < a; have : width 44 = 7 := rfl; omega)]
  rw [shs_map]; rfl)
 have HL : Hid (o.length + ([sg [45]] ++ (sh k 7)).length <= 1000000) := zh (by rw [<- HSH.out]; exact ho)
 have HM : Hid (WrM w g (⟨44, 1, 0, bs []⟩ :: (k.flat ++ l)) o) := zh (by simpa [Tr.flat, flats] using hm)
 have HE := zh hE
 have HB := zh hB
 have HK := zh hk
 clear hk
 clear hm ho hE hB
 have d : decide ((7 : Int) < (a : Int)) = false := dqf (by omega)
 go_enter_defers func27, ntmps27
 go_wp2_with fail
 refine (next_any g ⟨44, 1, 0, bs []⟩ (k.flat ++ l) o w HM.out).mono ?_
 rintro e w1 ⟨rfl, hk1, hm1⟩
 have H0 := zh (nwH (l := k.flat ++ l) (o := o) hk1 hm1 42 #[.int .u8 44, .int .i64 1, .int .i64 0, .string (bs [])])
 clear hk1 hm1 HM
 go_wp2_with fail
 refine (width_is 44 7 rfl _).mono ?_
 rintro e w2 ⟨rfl, rfl⟩
 generalize w1.alloc _ = wa at *
 have c0 := H0.out.2.2.1.cell 0
 have c1 := H0.out.2.2.1.cell 1
 have c3 := H0.out.2.2.1.cell 3
 simp at c0 c1 c3
 go_wp2_with fail
 refine (sign1 (bs [45]) H0.out.2.1 (by have := HL.out; (try simp only [lna, lnc, lnn] at this |-); omega)).mono ?_
 rintro e w3 ⟨rfl, hk, hm⟩
 have H3 := zh (kpH (l := k.flat ++ l) (o := o ++ [sg [45]]) H0.out hk hm (by decide))
 clear hk hm
 clear c0 c1 c3
 have c0 := H3.out.2.2.cell 0
 have c1 := H3.out.2.2.cell 1
 have c3 := H3.out.2.2.cell 3
 simp at c0 c1 c3
 go_wp2_with fail
 refine (HE.out k HK.out.1 HK.out.2 g 7 _ _ _ (by omega) H3.out.2.1 (by have := HL.out; (try simp only [lna, lnc, lnn] at this |-); omega)).mono ?_
 rintro e w4 ⟨rfl, hk, hm⟩
 have H4 : Hid (Kp g w w4 ∧ WrM w4 g (l) ((o ++ [sg [45]]) ++ sh k 7) ∧ Blk w4 w1.heap.size 42 #[.int .u8 44, .int .i64 1, .int .i64 0, .string (bs [])]) := zh ⟨H3.out.1.trans hk, hm, H3.out.2.2.kp hk H0.out.2.2.2 (by decide)⟩
 clear hk hm
 go_wp2_with fail
 refine ⟨_, results_none rfl _ _ _, rfl, H4.out.1, ?_⟩
 rw [HSH.out]
 have := H4.out.2.1
 simpa only [List.append_assoc] using this
theorem ex54 (N : Nat) (hE : ExprOk N) (hB : BlockOk N) (k : Tr) (hk : Rt 0 k ∧ k.flat.length <= N) (g a : Nat) (ha : a <= 7) (l : List Tw) (o : List Tz) (w : World) (hm : WrM w g ((Tr.flat (.node ⟨54, 1, 0, bs []⟩ [k])) ++ l) o) (ho : o.length + (sh (.node ⟨54, 1, 0, bs []⟩ [k]) a).length <= 1000000) :
 Calls prog 27 #[gp g, .int .i64 (a : Nat)] w (SPost w g l (o ++ sh (.node ⟨54, 1, 0, bs []⟩ [k]) a)) := by
 have HSH : Hid (sh (.node ⟨54, 1, 0, bs []⟩ [k]) a = [wd [97, 119, 97, 105, 116]] ++ (sh k 7)) := zh (by
  rw [sh_expr _ _ (by omega), if_neg (by show ¬ width 54 < a; have : width 54 = 7 := rfl; omega)]
  rw [shs_map]; rfl)
 have HL : Hid (o.length + ([wd [97, 119, 97, 105, 116]] ++ (sh k 7)).length <= 1000000) := zh (by rw [<- HSH.out]; exact ho)
 have HM : Hid (WrM w g (⟨54, 1, 0, bs []⟩ :: (k.flat ++ l)) o) := zh (by simpa [Tr.flat, flats] using hm)
 have HE := zh hE
 have HB := zh hB
 have HK := zh hk
 clear hk
 clear hm ho hE hB
 have d : decide ((7 : Int) < (a : Int)) = false := dqf (by omega)
 go_enter_defers func27, ntmps27
 go_wp2_with fail
 refine (next_any g ⟨54, 1, 0, bs []⟩ (k.flat ++ l) o w HM.out).mono ?_
 rintro e w1 ⟨rfl, hk1, hm1⟩
 have H0 := zh (nwH (l := k.flat ++ l) (o := o) hk1 hm1 42 #[.int .u8 54, .int .i64 1, .int .i64 0, .string (bs [])])
 clear hk1 hm1 HM
 go_wp2_with fail
 refine (width_is 54 7 rfl _).mono ?_
 rintro e w2 ⟨rfl, rfl⟩
 generalize w1.alloc _ = wa at *
 have c0 := H0.out.2.2.1.cell 0
 have c1 := H0.out.2.2.1.cell 1
 have c3 := H0.out.2.2.1.cell 3
 simp at c0 c1 c3
 go_wp2_with fail
 refine (word1 (bs [97, 119, 97, 105, 116]) H0.out.2.1 (by have := HL.out; (try simp only [lna, lnc, lnn] at this |-); omega)).mono ?_
 rintro e w3 ⟨rfl, hk, hm⟩
 have H3 := zh (kpH (l := k.flat ++ l) (o := o ++ [wd [97, 119, 97, 105, 116]]) H0.out hk hm (by decide))
 clear hk hm
 clear c0 c1 c3
 have c0 := H3.out.2.2.cell 0
 have c1 := H3.out.2.2.cell 1
 have c3 := H3.out.2.2.cell 3
 simp at c0 c1 c3
 go_wp2_with fail
 refine (HE.out k HK.out.1 HK.out.2 g 7 _ _ _ (by omega) H3.out.2.1 (by have := HL.out; (try simp only [lna, lnc, lnn] at this |-); omega)).mono ?_
 rintro e w4 ⟨rfl, hk, hm⟩
 have H4 : Hid (Kp g w w4 ∧ WrM w4 g (l) ((o ++ [wd [97, 119, 97, 105, 116]]) ++ sh k 7) ∧ Blk w4 w1.heap.size 42 #[.int .u8 54, .int .i64 1, .int .i64 0, .string (bs [])]) := zh ⟨H3.out.1.trans hk, hm, H3.out.2.2.kp hk H0.out.2.2.2 (by decide)⟩
 clear hk hm
 go_wp2_with fail
 refine ⟨_, results_none rfl _ _ _, rfl, H4.out.1, ?_⟩
 rw [HSH.out]
 have := H4.out.2.1
 simpa only [List.append_assoc] using this
theorem ex55 (N : Nat) (hE : ExprOk N) (hB : BlockOk N) (k : Tr) (hk : Rt 0 k ∧ k.flat.length <= N) (g a : Nat) (ha : a <= 7) (l : List Tw) (o : List Tz) (w : World) (hm : WrM w g ((Tr.flat (.node ⟨55, 1, 0, bs []⟩ [k])) ++ l) o) (ho : o.length + (sh (.node ⟨55, 1, 0, bs []⟩ [k]) a).length <= 1000000) :
 Calls prog 27 #[gp g, .int .i64 (a : Nat)] w (SPost w g l (o ++ sh (.node ⟨55, 1, 0, bs []⟩ [k]) a)) := by
 have HSH : Hid (sh (.node ⟨55, 1, 0, bs []⟩ [k]) a = [wd [115, 101, 116, 116, 108, 101]] ++ (sh k 7)) := zh (by
  rw [sh_expr _ _ (by omega), if_neg (by show ¬ width 55 < a; have : width 55 = 7 := rfl; omega)]
  rw [shs_map]; rfl)
 have HL : Hid (o.length + ([wd [115, 101, 116, 116, 108, 101]] ++ (sh k 7)).length <= 1000000) := zh (by rw [<- HSH.out]; exact ho)
 have HM : Hid (WrM w g (⟨55, 1, 0, bs []⟩ :: (k.flat ++ l)) o) := zh (by simpa [Tr.flat, flats] using hm)
 have HE := zh hE
 have HB := zh hB
 have HK := zh hk
 clear hk
 clear hm ho hE hB
 have d : decide ((7 : Int) < (a : Int)) = false := dqf (by omega)
 go_enter_defers func27, ntmps27
 go_wp2_with fail
 refine (next_any g ⟨55, 1, 0, bs []⟩ (k.flat ++ l) o w HM.out).mono ?_
 rintro e w1 ⟨rfl, hk1, hm1⟩
 have H0 := zh (nwH (l := k.flat ++ l) (o := o) hk1 hm1 42 #[.int .u8 55, .int .i64 1, .int .i64 0, .string (bs [])])
 clear hk1 hm1 HM
 go_wp2_with fail
 refine (width_is 55 7 rfl _).mono ?_
 rintro e w2 ⟨rfl, rfl⟩
 generalize w1.alloc _ = wa at *
 have c0 := H0.out.2.2.1.cell 0
 have c1 := H0.out.2.2.1.cell 1
 have c3 := H0.out.2.2.1.cell 3
 simp at c0 c1 c3
 go_wp2_with fail
 refine (word1 (bs [115, 101, 116, 116, 108, 101]) H0.out.2.1 (by have := HL.out; (try simp only [lna, lnc, lnn] at this |-); omega)).mono ?_
 rintro e w3 ⟨rfl, hk, hm⟩
 have H3 := zh (kpH (l := k.flat ++ l) (o := o ++ [wd [115, 101, 116, 116, 108, 101]]) H0.out hk hm (by decide))
 clear hk hm
 clear c0 c1 c3
 have c0 := H3.out.2.2.cell 0
 have c1 := H3.out.2.2.cell 1
 have c3 := H3.out.2.2.cell 3
 simp at c0 c1 c3
 go_wp2_with fail
 refine (HE.out k HK.out.1 HK.out.2 g 7 _ _ _ (by omega) H3.out.2.1 (by have := HL.out; (try simp only [lna, lnc, lnn] at this |-); omega)).mono ?_
 rintro e w4 ⟨rfl, hk, hm⟩
 have H4 : Hid (Kp g w w4 ∧ WrM w4 g (l) ((o ++ [wd [115, 101, 116, 116, 108, 101]]) ++ sh k 7) ∧ Blk w4 w1.heap.size 42 #[.int .u8 55, .int .i64 1, .int .i64 0, .string (bs [])]) := zh ⟨H3.out.1.trans hk, hm, H3.out.2.2.kp hk H0.out.2.2.2 (by decide)⟩
 clear hk hm
 go_wp2_with fail
 refine ⟨_, results_none rfl _ _ _, rfl, H4.out.1, ?_⟩
 rw [HSH.out]
 have := H4.out.2.1
 simpa only [List.append_assoc] using this
end Go.Proofs.YtbcadlocldplfaaDoor
