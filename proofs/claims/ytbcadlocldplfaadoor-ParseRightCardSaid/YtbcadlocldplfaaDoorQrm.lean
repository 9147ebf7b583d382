/- A writer of tokens in memory; contracts of next, word, sign. And what follows from it. -/
import Derived.Outline
import Derived.Deep.DeepCutAuto
import Derived.Deep.MidRow
import Derived.Deep.WholeRow
import Derived.Deep.QuietTactic
import Derived.BigQuiet
import Derived.Test.YtbcadlocldplfaaDoorQra
import Derived.Test.YtbcadlocldplfaaDoorQrd
import Derived.Test.YtbcadlocldplfaaDoorQri
import Derived.Test.YtbcadlocldplfaaDoorQrj
import Derived.Test.YtbcadlocldplfaaDoorQrk
import Derived.Test.YtbcadlocldplfaaDoorQrl
set_option linter.unusedSimpArgs false
set_option linter.unusedVariables false
namespace Go.Proofs.YtbcadlocldplfaaDoor
set_option maxRecDepth 100000
open Go.RowKit
structure Kp (g : Nat) (w w' : World) : Prop where
  os : w'.os = w.os
  tape : w'.tape = w.tape
  output : w'.output = w.output
  size : w.heap.size ≤ w'.heap.size
  block : ∀ k, k < w.heap.size → k ≠ g → (k < g ∨ ∀ cs fr, w.heap[k]? ≠ some (.cells cs 35 fr)) → w'.heap[k]? = w.heap[k]?
section
variable {g : Nat} {w w' w'' : World}
theorem Kp.refl (g : Nat) (w : World) : Kp g w w := ⟨rfl, rfl, rfl, Nat.le_refl _, fun _ _ _ _ => rfl⟩
theorem Kp.trans (h : Kp g w w') (k : Kp g w' w'') : Kp g w w'' :=
  ⟨k.os.trans h.os, k.tape.trans h.tape, k.output.trans h.output, Nat.le_trans h.size k.size, fun i hi hn hc => by
    have h1 := h.block i hi hn hc
    refine (k.block i (Nat.lt_of_lt_of_le hi h.size) hn ?_).trans h1
    rw [h1]; exact hc⟩
theorem Kp.of_below (h : Below w.heap.size w w') : Kp g w w' := ⟨h.os, h.tape, h.output, h.size, fun k hk _ _ => h.block k hk⟩
theorem Kp.below (h : Kp g w w') (hg : g ≤ w.heap.size) : Below g w w' := ⟨h.os, h.tape, h.output, h.size, fun k hk => h.block k (by omega) (by omega) (.inl hk)⟩
theorem Kp.alloc (h : Kp g w w') (o : Obj) : Kp g w (w'.alloc o) := h.trans (.of_below ((Below.refl _ _).alloc (Nat.le_refl _) _))
theorem Kp.set_ (w : World) (g i : Nat) (u : Value) : Kp g w (w.setCell ⟨g, i, none⟩ u) := by
  have hc : Chg (fun k => k = g) w (w.setCell ⟨g, i, none⟩ u) := Chg.setCell (T := fun k => k = g) (Chg.refl _ _) (p := ⟨g, i, none⟩) rfl u
  exact ⟨hc.os, hc.tape, hc.output, hc.size, fun k hk hn _ => hc.block k hk hn⟩
theorem Kp.grown {n c : Nat} {A : Option Addr} {xs : List Value} (ho : w.ownsRow (g + 1) 35 4 (.slice A n c) n xs) (h : w.grownBy w' (Value.slice A n c).ownBlock) : Kp g w w' := by
  have hc : Chg (fun k => (Value.slice A n c).ownBlock = some k) w w' := .of_grown h (fun r hr => hr)
  refine ⟨hc.os, hc.tape, hc.output, hc.size, fun k hk hn ht => hc.block k hk fun he => ?_⟩
  have h1 := (World.ownsRow.lt ho k he).1
  rcases ht with ht | ht
  · omega
  · rcases ho.2 with ⟨h2, _⟩ | ⟨b, cap, cur, h2, _, h3, _⟩
    · injection h2 with h2
      subst h2
      cases he
    · injection h2 with h2
      subst h2
      injection he with he
      subst he
      exact ht _ _ h3
theorem Kp.drewN (h : Kp g w w') (n : Nat) : Kp g w (w'.drewN n) := ⟨h.os, h.tape, h.output, h.size, h.block⟩
end
def WrM (w : World) (g : Nat) (l : List Tw) (o : List Tz) : Prop :=
  ∃ A c Ao co, Blk w g 53 #[.slice A l.length c, .slice Ao o.length co] ∧ RdL twcell 4 w A l ∧ l.length ≤ c ∧ (∀ a, A = some a → a.block < g) ∧ w.ownsRow (g + 1) 35 4 (.slice Ao o.length co) o.length (rowOf zcell o)
section
variable {g : Nat} {w w' : World} {l : List Tw} {o : List Tz}
theorem WrM.lt (h : WrM w g l o) : g < w.heap.size := by
  obtain ⟨A, c, Ao, co, h, _⟩ := h
  exact h.lt
theorem WrM.chg {T : Nat → Prop} (h : WrM w g l o) (hc : Chg T w w') (hn : ∀ k, k < w.heap.size → T k → g < k ∧ ∀ cs fr, w.heap[k]? ≠ some (.cells cs 35 fr)) : WrM w' g l o := by
  obtain ⟨A, c, Ao, co, h1, h2, h3, h4, h5⟩ := h
  refine ⟨A, c, Ao, co, h1.chg (T := fun k => k < w.heap.size ∧ T k) (hc.old (fun k a b => ⟨a, b⟩)) (fun hg => by have := (hn g hg.1 hg.2).1; omega), h2.chg (T := fun k => k < w.heap.size ∧ T k) (hc.old (fun k a b => ⟨a, b⟩)) (fun a ha _ hk => by have := (hn _ hk.1 hk.2).1; have := h4 a ha; omega), h3, h4, ?_⟩
  refine own_chg (T := fun k => k < w.heap.size ∧ T k) h5 (hc.old (fun k a b => ⟨a, b⟩)) (fun b hb hk => ?_)
  rcases h5.2 with ⟨h2, _⟩ | ⟨b2, cap, cur, h2, _, h3, _⟩
  · injection h2 with h2
    subst h2
    cases hb
  · injection h2 with h2
    subst h2
    injection hb with hb
    subst hb
    exact (hn _ hk.1 hk.2).2 _ _ h3
theorem WrM.frozen (h : WrM w g l o) (i : Nat) : w.frozen? ⟨g, i, none⟩ = false := by
  obtain ⟨A, c, Ao, co, h, _⟩ := h
  exact h.frozen i
theorem WrM.below (h : WrM w g l o) (hb : Below w.heap.size w w') : WrM w' g l o :=
  h.chg (T := fun _ => False) (.of_below hb) (fun _ _ h => h.elim)
theorem WrM.alloc (h : WrM w g l o) (ob : Obj) : WrM (w.alloc ob) g l o := h.below ((Below.refl _ _).alloc (Nat.le_refl _) _)
theorem WrM.head {x : Tw} {r : List Tw} (h : WrM w g (x :: r) o) :
    ∃ b off c, w.cell? ⟨g, 0, none⟩ = some (.slice (some ⟨b, off, none⟩) (r.length + 1) c) ∧ r.length + 1 ≤ c ∧ b < w.heap.size ∧ w.cell? ⟨b, off, none⟩ = some (.int .u8 (x.op : Nat)) ∧ w.cell? ⟨b, off + 1, none⟩ = some (.int .i64 x.kids) ∧ w.cell? ⟨b, off + 2, none⟩ = some (.int .i64 x.int) ∧ w.cell? ⟨b, off + 3, none⟩ = some (.string x.text) ∧ b < g ∧ WrM (w.setCell ⟨g, 0, none⟩ (.slice (if c = 1 then (some ⟨b, off, none⟩) else some ⟨b, off + 4, none⟩) r.length (c - 1))) g r o := by
  obtain ⟨A, c, Ao, co, h1, h2, h3, h4, h5⟩ := h
  rw [List.length_cons] at h1 h3
  rcases h2 with h2 | ⟨b, off, rfl, hb, hat⟩
  · cases h2
  · have key := fun j v hv => hat 0 x rfl j v hv
    simp only [Nat.zero_mul, Nat.add_zero] at key
    have hbg := h4 _ rfl
    have hch : Chg (fun k => k = g) w (w.setCell ⟨g, 0, none⟩ (.slice (if c = 1 then (some ⟨b, off, none⟩) else some ⟨b, off + 4, none⟩) r.length (c - 1))) := Chg.setCell (T := fun k => k = g) (Chg.refl _ _) (p := ⟨g, 0, none⟩) rfl _
    refine ⟨b, off, c, h1.cell 0, h3, hb, key 0 _ rfl, key 1 _ rfl, key 2 _ rfl, key 3 _ rfl, hbg, _, c - 1, Ao, co, by have := h1.set_ 0 (.slice (if c = 1 then (some ⟨b, off, none⟩) else some ⟨b, off + 4, none⟩) r.length (c - 1)); simpa using this, ?_, by omega, ?_, ?_⟩
    · by_cases hr : r = []
      · exact .inl hr
      · have hc1 : c ≠ 1 := by
          have : r.length ≠ 0 := fun e => hr (List.eq_nil_of_length_eq_zero e)
          omega
        refine RdL.chg (T := fun k => k = g) (.inr ⟨b, off + 4, by rw [if_neg hc1], hb, fun i y hy j v hv => ?_⟩) hch ?_
        · have := hat (i + 1) y (by simpa using hy) j v hv
          rw [show off + 4 + i * 4 + j = off + (i + 1) * 4 + j by omega]
          exact this
        · intro a ha _ hk
          rw [if_neg hc1] at ha
          obtain rfl := Option.some.inj ha
          have : b = g := hk
          have hbg2 : b < g := hbg
          omega
    · intro a ha
      split at ha <;> (obtain rfl := Option.some.inj ha; exact hbg)
    · exact own_chg h5 hch (fun k hk he => by have := (World.ownsRow.lt h5 k hk).1; have he2 : k = g := he; omega)
end
/-! Tokens go behind a row of tokens of one's own. -/
section
variable {g : Nat} {w : World} {l : List Tw} {o : List Tz}
end
end Go.Proofs.YtbcadlocldplfaaDoor
namespace Go.Proofs.YtbcadlocldplfaaDoor
set_option maxRecDepth 100000
open Go.RowKit T8
end Go.Proofs.YtbcadlocldplfaaDoor
namespace Go.Proofs.YtbcadlocldplfaaDoor
open T8
def Kind (T : Tr) : Prop := opOf T = 1 ∨ exprB (opOf T) = true
end Go.Proofs.YtbcadlocldplfaaDoor
namespace Go.Proofs.YtbcadlocldplfaaDoor
set_option maxRecDepth 100000
open Go.RowKit T8
def ShowR (l : List Tw) (o : List Tz) (er : Int) : Prop :=
  ((chk l).2 ≠ 0 ∧ er = (chk l).2 ∧ o = []) ∨ ∃ T, Right l T ∧ (chk l).2 = 0 ∧ ((Kind T ∧ er = 0 ∧ o = shown T) ∨ (¬ Kind T ∧ er = 3 ∧ o = []))
theorem right_one {l : List Tw} {T U : Tr} (h : Right l T) (h2 : Right l U) : T = U :=
  (wf_same T U [] [] (wf_ok T _ h.1) (wf_ok U _ h2.1) (by rw [List.append_nil, List.append_nil, h.2, h2.2])).1
theorem ShowR.one {l : List Tw} {o o2 : List Tz} {er er2 : Int} (h : ShowR l o er) (h2 : ShowR l o2 er2) : o = o2 ∧ er = er2 := by
  rcases h with ⟨a1, a2, a3⟩ | ⟨T, a1, a2, a3⟩
  · rcases h2 with ⟨b1, b2, b3⟩ | ⟨U, b1, b2, b3⟩
    · exact ⟨a3.trans b3.symm, a2.trans b2.symm⟩
    · exact absurd b2 a1
  · rcases h2 with ⟨b1, b2, b3⟩ | ⟨U, b1, b2, b3⟩
    · exact absurd a2 b1
    · obtain rfl := right_one a1 b1
      rcases a3 with ⟨c1, c2, c3⟩ | ⟨c1, c2, c3⟩ <;> rcases b3 with ⟨d1, d2, d3⟩ | ⟨d1, d2, d3⟩
      · exact ⟨c3.trans d3.symm, c2.trans d2.symm⟩
      · exact absurd c1 d1
      · exact absurd d1 c1
      · exact ⟨c3.trans d3.symm, c2.trans d2.symm⟩
end Go.Proofs.YtbcadlocldplfaaDoor
namespace Go.Proofs.YtbcadlocldplfaaDoor
open T8
def cv (x : Tz) : T7.Tz := ⟨x.kind, x.text, x.int, (x.at_ : Int)⟩
def Gd1 (x : Tz) : Prop := T7.rightB (cv x) = true ∧ x.int ≤ 9223372036854775807
def GL (l : List Tz) : Prop := ∀ x ∈ l, Gd1 x
theorem GL.nil : GL [] := fun x hx => by cases hx
theorem GL.cons {x : Tz} {l : List Tz} (h : Gd1 x) (hl : GL l) : GL (x :: l) := fun y hy => by
  rcases List.mem_cons.1 hy with rfl | hy
  · exact h
  · exact hl y hy
theorem GL.app {a b : List Tz} (h : GL a) (h2 : GL b) : GL (a ++ b) := fun y hy => (List.mem_append.1 hy).elim (h y) (h2 y)
/-! What is shown of good twigs. -/
end Go.Proofs.YtbcadlocldplfaaDoor
namespace Go.Proofs.YtbcadlocldplfaaDoor
set_option maxRecDepth 100000
open Go.RowKit T8
abbrev Tab (w : World) : Prop := Lib.TabIs Tryd.prog w "internal/strconv.uint64pow10" .u64 Lib.pow10Tab
theorem ite_or {α : Type} {c : Prop} [Decidable c] {a b x : α} (h : (if c then a else b) = x) : (c ∧ a = x) ∨ (¬ c ∧ b = x) := by
  by_cases hc : c
  · rw [if_pos hc] at h
    exact .inl ⟨hc, h⟩
  · rw [if_neg hc] at h
    exact .inr ⟨hc, h⟩
theorem gd_ok {x : Tz} (h : Gd1 x) : T7.TzOk (cv x) := by
  obtain ⟨k, tx, iv, p⟩ := x
  obtain ⟨h1, h2⟩ := h
  have h2' : iv ≤ 9223372036854775807 := h2
  unfold T7.rightB at h1
  have hs : tx.size = tx.data.toList.length := rfl
  have hb : k < 256 ∧ tx.size ≤ 9223372036854775807 ∧ 0 ≤ iv := by
    change (if k = 1 then T7.wordOk tx.data.toList && decide (iv = 0) else if k = 2 then decide (tx.data.toList = []) && decide (0 ≤ iv) else if k = 3 then decide (tx.data.toList.length ≤ 4095) && decide (iv = 0) else if k = 4 then decide (tx.data.toList ∈ T7.sgn17) && decide (iv = 0) else false) = true at h1
    rw [hs]
    generalize tx.data.toList = l at *
    rcases ite_or h1 with ⟨hk, h1⟩ | ⟨_, h1⟩
    · rw [Bool.and_eq_true, decide_eq_true_eq] at h1
      have h3 := h1.1
      unfold T7.wordOk at h3
      cases l with
      | nil => cases h3
      | cons c r =>
        simp only [Bool.and_eq_true, decide_eq_true_eq] at h3
        omega
    rcases ite_or h1 with ⟨hk, h1⟩ | ⟨_, h1⟩
    · simp only [Bool.and_eq_true, decide_eq_true_eq] at h1
      rw [h1.1]
      exact ⟨by omega, by simp, h1.2⟩
    rcases ite_or h1 with ⟨hk, h1⟩ | ⟨_, h1⟩
    · simp only [Bool.and_eq_true, decide_eq_true_eq] at h1
      omega
    rcases ite_or h1 with ⟨hk, h1⟩ | ⟨_, h1⟩
    · simp only [Bool.and_eq_true, decide_eq_true_eq] at h1
      have key : ∀ s ∈ T7.sgn17, s.length ≤ 2 := by decide
      have := key l h1.1
      omega
    · cases h1
  exact ⟨hb.1, hb.2.1, by show -9223372036854775808 ≤ iv; omega, h2'⟩
theorem gl_tz {o : List Tz} (h : GL o) : ∀ x ∈ o.map cv, T7.TzOk x := fun x hx => by
  obtain ⟨y, hy, rfl⟩ := List.mem_map.1 hx
  exact gd_ok (h y hy)
theorem rowOf_cv (o : List Tz) : rowOf T7.zcell (o.map cv) = rowOf zcell o := by
  unfold rowOf
  rw [List.flatMap_map]
  rfl
theorem rd_cv {w : World} {base n c : Nat} {A : Option Addr} {o : List Tz} (h : w.ownsRow base 35 4 (.slice A n c) n (rowOf zcell o)) (hn : n = o.length) : T7.RdZ w A (o.map cv) := by
  rw [← rowOf_cv] at h
  exact RdL.of_own T7.zcell_len h (by rw [List.length_map]; exact hn)
theorem rd_at {w : World} {A : Option Addr} {l : List Tw} (h : RdL twcell 4 w A l) (hl : l ≠ []) : ∃ b off, A = some ⟨b, off, none⟩ ∧ ∀ k x, l[k]? = some x → TwAt w b (off + k * 4) x := by
  rcases rdw_of h with h | ⟨b, off, h1, _, h2⟩
  · exact absurd h hl
  · exact ⟨b, off, h1, h2⟩
set_option maxHeartbeats 4000000 in
theorem alike_any (A B : Option Addr) (ca cb n m : Nat) (la lb : List Tw) (w : World) (ha : RdL twcell 4 w A la) (hb : RdL twcell 4 w B lb) (hl : n = la.length) (hl2 : m = lb.length) (hn : n ≤ 1000000) :
    Calls Tryd.prog 11 #[.slice A n ca, .slice B m cb] w fun e w' => e = .returned (.bool (decide (la = lb))) ∧ ∃ q, w' = w.drewN q := by
  by_cases hnm : n = m
  · subst hnm
    have HA := Lib.hid ha
    have HB := Lib.hid hb
    have HL := Lib.hid hl
    have HL2 := Lib.hid hl2
    clear ha hb hl hl2
    go_enter Tryd.func11, Tryd.ntmps11
    go_wp2_with fail
    go_loopw [5] (fun s5 wr => ∃ k : Nat, s5 = .int .i64 k ∧ k ≤ n ∧ la.take k = lb.take k ∧ ∃ q, wr = w.drewN q) (fun s5 _ => n - (intOf s5).toNat)
    case atStart => exact ⟨0, rfl, by omega, rfl, 0, rfl⟩
    case round =>
      obtain ⟨k, rfl, hk, hpre, hw⟩ := hrel
      have HP := Lib.hid (And.intro hpre hw)
      clear hpre hw
      by_cases hlt : k < n
      · have hka : k < la.length := by rw [← HL.out]; exact hlt
        have hkb : k < lb.length := by rw [← HL2.out]; exact hlt
        obtain ⟨ga, hga⟩ : ∃ g, la[k]? = some g := ⟨_, List.getElem?_eq_getElem hka⟩
        obtain ⟨gb, hgb⟩ : ∃ g, lb[k]? = some g := ⟨_, List.getElem?_eq_getElem hkb⟩
        obtain ⟨b1, o1, rfl, hc1⟩ := rd_at HA.out (fun h => by rw [h] at hka; exact absurd hka (by simp))
        obtain ⟨b2, o2, rfl, hc2⟩ := rd_at HB.out (fun h => by rw [h] at hkb; exact absurd hkb (by simp))
        obtain ⟨q, hq⟩ := HP.out.2
        have hat1 : TwAt wr b1 (o1 + k * 4) ga := by rw [hq]; exact hc1 k ga hga
        have hat2 : TwAt wr b2 (o2 + k * 4) gb := by rw [hq]; exact hc2 k gb hgb
        have HG := Lib.hid (And.intro hga (And.intro hgb hq))
        have hkn : (k : Int) < (n : Int) := by omega
        have hk0 : (0 : Int) ≤ (k : Int) := by omega
        clear hga hgb hq hc1 hc2 hka hkb
        obtain ⟨ka, ia, pa, ta⟩ := ga
        obtain ⟨kb, ib, pb, tb⟩ := gb
        obtain ⟨c0, c1, c2, c3⟩ := hat1
        obtain ⟨d0, d1, d2, d3⟩ := hat2
        dsimp only at c0 c1 c2 c3 d0 d1 d2 d3
        have HDIFF : Hid ((⟨ka, ia, pa, ta⟩ : Tw) ≠ ⟨kb, ib, pb, tb⟩ → decide (la = lb) = false) := Lib.hid fun h => decide_eq_false (fun he => h (by have h1 := HG.out.1; rw [he, HG.out.2.1] at h1; injection h1 with h1; exact h1.symm))
        have HSAME : Hid ((⟨ka, ia, pa, ta⟩ : Tw) = ⟨kb, ib, pb, tb⟩ → la.take (k + 1) = lb.take (k + 1)) := Lib.hid fun h => by
          rw [List.take_add_one, List.take_add_one, HG.out.1, HG.out.2.1, HP.out.1, h]
        cases e1 : (ka == kb)
        · have HNE : Hid (decide (la = lb) = false) := Lib.hid (HDIFF.out (fun h => by injection h with h1 h2 h3 h4; rw [h1] at e1; simp at e1))
          have i1 : ((ka : Int) == (kb : Int)) = false := by rw [beq_eq_false_iff_ne]; intro h; have : ka = kb := by omega
                                                             rw [this] at e1; simp at e1
          clear e1
          go_wp2_with fail
          go_quiet (fail)
          go_wp2_with fail
          go_ret
          obtain ⟨q, hq⟩ := HP.out.2
          exact ⟨by rw [HNE.out]; rfl, q + nq, by rw [hq]; exact World.drewN_drewN w q nq⟩
        · cases e2 : (ia == ib)
          · have HNE : Hid (decide (la = lb) = false) := Lib.hid (HDIFF.out (fun h => by injection h with h1 h2 h3 h4; rw [h2] at e2; simp at e2))
            go_wp2_with fail
            go_quiet (fail)
            go_wp2_with fail
            go_ret
            obtain ⟨q, hq⟩ := HP.out.2
            exact ⟨by rw [HNE.out]; rfl, q + nq, by rw [hq]; exact World.drewN_drewN w q nq⟩
          · cases e3 : (pa == pb)
            · have HNE : Hid (decide (la = lb) = false) := Lib.hid (HDIFF.out (fun h => by injection h with h1 h2 h3 h4; rw [h3] at e3; simp at e3))
              go_wp2_with fail
              go_quiet (fail)
              go_wp2_with fail
              go_ret
              obtain ⟨q, hq⟩ := HP.out.2
              exact ⟨by rw [HNE.out]; rfl, q + nq, by rw [hq]; exact World.drewN_drewN w q nq⟩
            · cases e4 : (ta.toList == tb.toList)
              · have HNE : Hid (decide (la = lb) = false) := Lib.hid (HDIFF.out (fun h => by injection h with h1 h2 h3 h4; rw [h4] at e4; simp at e4))
                go_wp2_with fail
                go_quiet (fail)
                go_wp2_with fail
                go_ret
                obtain ⟨q, hq⟩ := HP.out.2
                exact ⟨by rw [HNE.out]; rfl, q + nq, by rw [hq]; exact World.drewN_drewN w q nq⟩
              · have HEQ : Hid (la.take (k + 1) = lb.take (k + 1)) := Lib.hid (HSAME.out (by rw [show ka = kb by simpa using e1, show ia = ib by simpa using e2, show pa = pb by simpa using e3, show ta = tb from T7.bytes_of_list (by simpa using e4)]))
                have q1 : ka = kb := by simpa using e1
                have q2 : ia = ib := by simpa using e2
                have q3 : pa = pb := by simpa using e3
                have q4 : ta = tb := T7.bytes_of_list (by simpa using e4)
                clear e1 e2 e3 e4 HDIFF HSAME
                subst q1; subst q2; subst q3; subst q4
                have e1 : (ta.toList == ta.toList) = true := beq_self_eq_true _
                go_wp2_with fail
                go_quiet (fail)
                go_wp2_with fail
                go_roundw
                case rel =>
                  obtain ⟨q, hq⟩ := HP.out.2
                  exact ⟨k + 1, by go_num, by omega, HEQ.out, q + nq, by rw [hq]; exact World.drewN_drewN w q nq⟩
                case measure => simp [intOf]; omega
      · have HR : Hid (decide (la = lb) = true) := Lib.hid (decide_eq_true (by have h := HP.out.1; rw [List.take_of_length_le (by rw [← HL.out]; omega), List.take_of_length_le (by rw [← HL2.out]; omega)] at h; exact h))
        go_wp2_with fail
        go_ret
        exact ⟨by rw [HR.out]; rfl, HP.out.2⟩
  · have HR : Hid (decide (la = lb) = false) := Lib.hid (decide_eq_false fun h => hnm (by rw [hl, hl2, h]))
    have hne : ((n : Int) != (m : Int)) = true := by
      rw [bne_iff_ne]; omega
    clear hl hl2 hnm ha hb
    go_enter Tryd.func11, Tryd.ntmps11
    go_wp2_with fail
    go_ret
    exact ⟨by rw [HR.out]; rfl, 0, rfl⟩
end Go.Proofs.YtbcadlocldplfaaDoor
namespace Go.Proofs.YtbcadlocldplfaaDoor
open T8
/-! Reading tokens that are the same but for their places. -/
theorem key_same {t : Tok} {x : Tz} (h : T7.tk t = T7.tz (cv x)) : zkey (zOf t) = zkey x := by
  unfold T7.tk T7.tz cv T7.Tz.tx at h
  simp only [Prod.mk.injEq] at h
  unfold zkey zOf
  rw [h.1, h.2.1, h.2.2]
  obtain ⟨k, ⟨⟨tx⟩⟩, iv, p⟩ := x
  rfl
theorem same_keys : ∀ (ks : List Tok) (o : List Tz), ks.map T7.tk = (o.map cv).map T7.tz → SameZ (ks.map zOf) o
  | [], [], _ => rfl
  | [], _ :: _, h => by cases h
  | _ :: _, [], h => by cases h
  | t :: ks, x :: o, h => by
    simp only [List.map_cons, List.cons.injEq] at h
    have ih := same_keys ks o h.2
    unfold SameZ at ih ⊢
    rw [List.map_cons, List.map_cons, List.map_cons, key_same h.1, ih]
theorem same_nil {l : List Tz} (h : SameZ [] l) : l = [] := by
  unfold SameZ at h
  exact List.map_eq_nil_iff.1 h.symm
theorem read_same {fl : Bool} {n : Nat} {a b : List Tz} {t : List Tw} (h : SameZ a b) (hr : readF n fl a = .ok t [] false) : readF n fl b = .ok t [] false := by
  have hg : Gd SameZ (fun _ => False) (fun _ => False) (readF n fl) := by
    cases fl with
    | true => exact Gd.flow SameZ.like n
    | false => exact Gd.all SameZ.like n .expr
  rcases hg.b a b h with ⟨t2, l, l2, m, h1, h2, h3⟩ | ⟨l, l2, h1, h2, h3⟩ | ⟨h1, h2⟩
  · rw [hr] at h1
    injection h1 with e1 e2 e3
    subst e1; subst e2; subst e3
    rw [same_nil h3] at h2
    exact h2
  · rw [hr] at h1; cases h1
  · rw [hr] at h1
    exact h1.elim
theorem read_fuel {fl : Bool} {i : Nat} (hi : N0 ≤ i) {L : List Tz} {X : Pr (List Tw)} (hne : readF N0 fl L ≠ .out) (h : readF i fl L = X) : readF N0 fl L = X := by
  have hle : Le (readF N0 fl L) (readF i fl L) := by
    cases fl with
    | true => exact flowP_le hi L
    | false => exact P_le N0 i hi .expr L
  rw [← h]
  exact (hle.eq hne).symm
theorem spelled_len {l : List T7.Tz} (h : (T7.spellL l).2 = 0) : (T7.spellL l).1.length ≤ 16384 := by
  unfold T7.spellL at h ⊢
  split
  · rename_i h1
    rw [if_pos h1] at h
    split at h
    · cases h
    · rename_i h2; rw [if_neg h2]; show (T7.spF false l).length ≤ _; omega
  · simp
theorem gl_ints {o : List Tz} (h : GL o) : ∀ x ∈ o.map cv, x.int ≤ 9223372036854775807 := fun x hx => by
  obtain ⟨y, hy, rfl⟩ := List.mem_map.1 hx
  exact (h y hy).2
theorem spell_err2 {o : List Tz} (h : GL o) : (T7.spellL (o.map cv)).2 = 0 ∨ ((T7.spellL (o.map cv)).2 = 2 ∧ (T7.spellL (o.map cv)).1 = []) := by
  unfold T7.spellL
  have hr : (o.map cv).all T7.rightB = true := by
    rw [List.all_eq_true]
    intro x hx
    obtain ⟨y, hy, rfl⟩ := List.mem_map.1 hx
    exact (h y hy).1
  rw [if_pos hr]
  split
  · exact .inr ⟨rfl, rfl⟩
  · exact .inl rfl
theorem srcT_ok {fl : Bool} {s : List UInt8} (hs : s.length ≤ 100000) {t : List Tw} {q : Nat} (h : srcT N0 fl s = (t, q, 0)) : (srcL s).2.2 = 0 ∧ readF N0 fl ((srcL s).1.map zOf) = .ok t [] false ∧ q = 0 ∧ (chk t).2 = 0 := by
  unfold srcT at h
  split at h
  · rename_i h0
    refine ⟨h0, ?_⟩
    cases hr : readF N0 fl ((srcL s).1.map zOf) with
    | out =>
      exact absurd hr (readF_ne fl hs)
    | bad l =>
      rw [hr] at h
      unfold endT faultAt at h
      cases l <;> simp at h
    | ok u l m =>
      rw [hr] at h
      unfold endT at h
      cases l with
      | nil =>
        simp only [List.isEmpty_nil, if_true] at h
        split at h
        · simp at h
        · rename_i hm
          simp only [Bool.or_eq_true, decide_eq_true_eq, not_or, Bool.not_eq_true, Decidable.not_not] at hm
          simp only [Prod.mk.injEq] at h
          obtain ⟨h1, h2, _⟩ := h
          subst h1
          rw [hm.1]
          exact ⟨rfl, h2.symm, hm.2⟩
      | cons x l =>
        simp only [List.isEmpty_cons] at h
        unfold faultAt at h
        simp at h
  · rename_i h0
    simp only [Prod.mk.injEq] at h
    omega
theorem srcT_read {fl : Bool} {s : List UInt8} {t : List Tw} (h0 : (srcL s).2.2 = 0) (hr : readF N0 fl ((srcL s).1.map zOf) = .ok t [] false) (hc : (chk t).2 = 0) : srcT N0 fl s = (t, 0, 0) := by
  unfold srcT
  rw [if_pos h0, hr]
  unfold endT
  simp [hc]
theorem srcT_bad {fl : Bool} {s : List UInt8} {t : List Tw} {q : Nat} {e : Int} (h : srcT N0 fl s = (t, q, e)) (he : e ≠ 0) : t = [] := by
  unfold srcT at h
  split at h
  · cases hr : readF N0 fl ((srcL s).1.map zOf) with
    | out => rw [hr] at h; unfold endT at h; simp only [Prod.mk.injEq] at h; exact h.1.symm
    | bad l => rw [hr] at h; unfold endT at h; simp only [Prod.mk.injEq] at h; exact h.1.symm
    | ok u l m =>
      rw [hr] at h
      change (if l.isEmpty = true then (if (m || decide ((chk u).2 ≠ 0)) = true then ([], 0, 2) else (u, 0, 0)) else ([], (faultAt s.length l).1, (((faultAt s.length l).2 : Nat) : Int))) = (t, q, e) at h
      rcases ite_ok h with ⟨_, h⟩ | ⟨_, h⟩
      · rcases ite_ok h with ⟨_, h⟩ | ⟨_, h⟩
        · simp only [Prod.mk.injEq] at h; exact h.1.symm
        · simp only [Prod.mk.injEq] at h; exact absurd h.2.2.symm he
      · simp only [Prod.mk.injEq] at h; exact h.1.symm
  · simp only [Prod.mk.injEq] at h; exact h.1.symm
theorem spelled_read {fl : Bool} {o : List Tz} {t : List Tw} (hg : GL o) (hs : (T7.spellL (o.map cv)).2 = 0) {m : Nat} (hr : ∀ i, m ≤ i → readF i fl o = .ok t [] false) (hc : (chk t).2 = 0) : srcT N0 fl (T7.spellL (o.map cv)).1 = (t, 0, 0) := by
  obtain ⟨ks, h1, h2, h3⟩ := T7.back (o.map cv) (gl_ints hg) hs
  have hsame := same_keys ks o h2
  refine srcT_read (by rw [h1]) ?_ hc
  have hne := readF_ne fl (s := (T7.spellL (o.map cv)).1) (by omega)
  rw [h1] at hne ⊢
  refine read_fuel (i := max m N0) (by omega) hne ?_
  exact read_same (by unfold SameZ at hsame ⊢; exact hsame.symm) (hr _ (by omega))
/-! What a source's tokens are. -/
theorem cut_scan (p : UInt8 → Bool) (s : List UInt8) (i : Nat) : cutL s i (scan p s i) = (s.drop i).takeWhile p := by
  unfold cutL scan
  rw [List.drop_take, Nat.add_sub_cancel_left]
  generalize s.drop i = l
  induction l with
  | nil => rfl
  | cons c l ih =>
    rw [List.takeWhile_cons]
    cases p c with
    | true => simp only [if_true]; rw [List.length_cons, List.take_succ_cons, ih]
    | false => rfl
theorem takeWhile_all (p : UInt8 → Bool) : ∀ (l : List UInt8), ∀ d ∈ l.takeWhile p, p d = true
  | [], d, h => by simp at h
  | c :: l, d, h => by
    rw [List.takeWhile_cons] at h
    cases hc : p c with
    | true =>
      rw [hc] at h
      rcases List.mem_cons.1 h with rfl | h
      · exact hc
      · exact takeWhile_all p l d h
    | false => rw [hc] at h; cases h
theorem one_right {s : List UInt8} {i : Nat} {c : UInt8} (hc : s[i]? = some c) {t : Tok} {e : Nat} (h : oneL s i c = .inr (t, e)) : T7.rightB (cv (zOf t)) = true := by
  have hi := (List.getElem?_eq_some_iff.1 hc).1
  have hci : s[i] = c := by rw [List.getElem?_eq_getElem hi] at hc; injection hc
  unfold oneL at h
  split at h
  · rename_i hlow
    unfold wordL at h
    split at h
    · cases h
    · rename_i h24
      injection h with h; injection h with h1 h2
      rw [← h1]
      show (T7.wordOk (cutL s i (scan innB s i)) && decide ((((0 : Nat) : Int)) = 0)) = true
      have hl : (cutL s i (scan innB s i)).length ≤ 24 := by
        rw [cut_scan]
        unfold scan at h24
        omega
      have e1 : cutL s i (scan innB s i) = c :: ((s.drop (i + 1)).takeWhile innB) := by
        rw [cut_scan, List.drop_eq_getElem_cons hi, List.takeWhile_cons, hci]
        have : innB c = true := by unfold innB; rw [hlow]; rfl
        rw [this]; rfl
      rw [e1] at hl ⊢
      have h3 : (c :: ((s.drop (i + 1)).takeWhile innB)).all innB = true := by
        rw [List.all_cons]
        have : innB c = true := by unfold innB; rw [hlow]; rfl
        rw [this, Bool.true_and, List.all_eq_true]
        intro d hd
        exact takeWhile_all _ _ d hd
      show (decide ((c :: ((s.drop (i + 1)).takeWhile innB)).length ≤ 24) && lowB c && (c :: ((s.drop (i + 1)).takeWhile innB)).all innB && decide ((((0 : Nat) : Int)) = 0)) = true
      rw [decide_eq_true hl, hlow, h3]
      rfl
  · split at h
    · unfold numT at h
      split at h
      · injection h with h; injection h with h1 h2
        rw [← h1]
        show (decide (([] : List UInt8) = []) && decide ((0 : Int) ≤ (((numL s i).1 : Nat) : Int))) = true
        rw [decide_eq_true rfl, decide_eq_true (Int.natCast_nonneg _)]; rfl
      · cases h
    · split at h
      · unfold textT at h
        split at h
        · injection h with h; injection h with h1 h2
          rw [← h1]
          show (decide ((textL s i (i + 1) []).1.length ≤ 4095) && decide ((((0 : Nat) : Int)) = 0)) = true
          have h3 := textN_len s i s.length (i + 1) [] (by simp)
          rw [decide_eq_true (show (textL s i (i + 1) []).1.length ≤ 4095 from h3)]; rfl
        · cases h
      · unfold signL at h
        split at h
        · cases h
        · rename_i g1
          split at h
          · cases h
          · rename_i g2
            split at h
            · rename_i hsg
              have e1 : cutL s i (i + 1) = [c] := by rw [cut_next s (Nat.le_refl _) hi, cut_self, hci]; rfl
              split at h
              · rename_i h61
                obtain ⟨h2, h62⟩ := List.getElem?_eq_some_iff.1 h61.2
                injection h with h; injection h with h1 _
                rw [← h1]
                have e2 : cutL s i (i + 2) = [c, 61] := by rw [cut_next s (by omega : i ≤ i + 1) h2, e1, h62]; rfl
                show (decide (cutL s i (i + 2) ∈ T7.sgn17) && decide ((((0 : Nat) : Int)) = 0)) = true
                rw [e2]
                rcases h61.1 with rfl | rfl | rfl <;> decide
              · rename_i h61
                injection h with h; injection h with h1 _
                rw [← h1]
                show (decide (cutL s i (i + 1) ∈ T7.sgn17) && decide ((((0 : Nat) : Int)) = 0)) = true
                rw [e1]
                have hn : c ≠ 33 := by
                  intro h33
                  refine h61 ⟨.inr (.inr h33), ?_⟩
                  exact Decidable.not_not.1 fun hh => g2 ⟨h33, hh⟩
                have key : ∀ c ∈ signs, c ≠ 33 → [c] ∈ T7.sgn17 := by decide
                rw [decide_eq_true (key c hsg hn)]; rfl
            · cases h
theorem all_right {s : List UInt8} : ∀ (n i : Nat) (acc : List Tok), (∀ t ∈ acc, T7.rightB (cv (zOf t)) = true) → ∀ t ∈ (allN n s i acc).1, T7.rightB (cv (zOf t)) = true
  | 0, i, acc, h => h
  | n + 1, i, acc, h => by
    unfold allN
    split
    · exact h
    · rename_i c hc
      split
      · exact all_right n _ acc h
      · split
        · exact all_right n _ acc h
        · split
          · simp
          · rename_i t e ho
            exact all_right n e _ (fun u hu => by
              rcases List.mem_append.1 hu with hu | hu
              · exact h u hu
              · rw [List.mem_singleton] at hu; rw [hu]; exact one_right hc ho)
theorem src_gl {s : List UInt8} (hs : s.length ≤ 100000) : GL ((srcL s).1.map zOf) := by
  intro x hx
  obtain ⟨t, ht, rfl⟩ := List.mem_map.1 hx
  refine ⟨?_, (show ((t.int : Nat) : Int) ≤ 9223372036854775807 by have := ((src_b hs).1 t ht).1; omega)⟩
  unfold srcL at ht
  split at ht
  · simp at ht
  · exact all_right s.length 0 [] (by simp) t ht
theorem read_again {fl : Bool} {s : List UInt8} (hs : s.length ≤ 100000) {t : List Tw} {q : Nat} (h : srcT N0 fl s = (t, q, 0)) (hsp : (T7.spellL (((srcL s).1.map zOf).map cv)).2 = 0) : srcT N0 fl (T7.spellL (((srcL s).1.map zOf).map cv)).1 = (t, 0, 0) := by
  obtain ⟨h0, h1, h2, h3⟩ := srcT_ok hs h
  refine spelled_read (src_gl hs) hsp (m := N0) (fun i hi => ?_) h3
  have hne := readF_ne fl hs
  have hle : Le (readF N0 fl ((srcL s).1.map zOf)) (readF i fl ((srcL s).1.map zOf)) := by
    cases fl with
    | true => exact flowP_le hi _
    | false => exact P_le N0 i hi .expr _
  rw [hle.eq hne, h1]
/-! What a reading begins with. -/
def Hx (p : Nat → Prop) (f : List Tz → Pr (List Tw)) : Prop := ∀ l t l1, f l = .ok t l1 false → ∃ x r, t = x :: r ∧ p x.op
def HxT (p : Nat → Prop) (t : List Tw) : Prop := ∃ x r, t = x :: r ∧ p x.op
theorem hx_of {p : Nat → Prop} {x : Tw} {ts : List (List Tw)} {l l1 : List Tz} {t : List Tw} (h : ofP x ts l = .ok t l1 false) (hp : p x.op) : HxT p t := by
  obtain ⟨_, rfl⟩ := of_ok h
  exact ⟨_, _, rfl, hp⟩
abbrev Ex (n : Nat) : Prop := exprB n = true
theorem hx_left {f : List Tz → Pr (List Tw)} (v : List (List UInt8 × Nat)) (once : Bool) (hv : ∀ p ∈ v, Ex p.2) : ∀ (n : Nat) (t : List Tw) (l : List Tz), HxT Ex t → ∀ t1 l1, leftP f v once n t l = .ok t1 l1 false → HxT Ex t1
  | 0, t, l, _, t1, l1, h => by cases h
  | n + 1, t, l, ht, t1, l1, h => by
    unfold leftP at h
    split at h
    · injection h with h1 h2
      rw [← h1]; exact ht
    · rename_i p hp
      have hpv := List.mem_of_find?_eq_some hp
      obtain ⟨u, l2, h1, h2⟩ := bind_ok h
      obtain ⟨t2, l3, h3, h4⟩ := bind_ok h2
      have h5 : HxT Ex t2 := hx_of h3 (hv p hpv)
      cases once
      · exact hx_left v false hv n t2 l3 h5 t1 l1 h4
      · injection h4 with h6 h7
        rw [← h6]; exact h5
theorem hx_post {f : List Tz → Pr (List Tw)} : ∀ (n : Nat) (t : List Tw) (l : List Tz), HxT Ex t → ∀ t1 l1, postP f n t l = .ok t1 l1 false → HxT Ex t1
  | 0, t, l, _, t1, l1, h => by cases h
  | n + 1, t, l, ht, t1, l1, h => by
    unfold postP at h
    split at h
    · obtain ⟨u, l2, h1, h2⟩ := bind_ok h
      obtain ⟨t2, l3, h3, h4⟩ := bind_ok h2
      obtain ⟨_, l4, h5, h6⟩ := bind_ok h4
      exact hx_post n t2 _ (hx_of h3 (by decide)) t1 l1 h6
    · injection h with h1 h2
      rw [← h1]; exact ht
def isE : Nt → Bool
  | .block => false
  | .stmt => false
  | _ => true
theorem hx_word {expr block : List Tz → Pr (List Tw)} (he : Hx Ex expr) (n : Nat) : Hx Ex (wordP expr block n) := by
  intro l t l1 h
  have leaf : ∀ op : Nat, Ex op → Pr.ok [tw op] l.tail false = .ok t l1 false → HxT Ex t := by
    intro op h9 h
    injection h with h1 h2
    rw [← h1]; exact ⟨_, _, rfl, h9⟩
  have lone : ∀ op : Nat, Ex op → oneP expr op l.tail = .ok t l1 false → HxT Ex t := by
    intro op ho h
    unfold oneP at h
    obtain ⟨_, l2, h1, h2⟩ := bind_ok h
    obtain ⟨u, l3, h3, h4⟩ := bind_ok h2
    obtain ⟨_, l4, h5, h6⟩ := bind_ok h4
    exact hx_of h6 ho
  have lask : ∀ op : Nat, Ex op → askP expr n op l.tail = .ok t l1 false → HxT Ex t := by
    intro op ho h
    unfold askP at h
    obtain ⟨s, l2, h1, h2⟩ := bind_ok h
    obtain ⟨_, l3, h3, h4⟩ := bind_ok h2
    obtain ⟨ts, l4, h5, h6⟩ := bind_ok h4
    exact hx_of h6 ho
  unfold wordP at h
  rcases ite_ok h with ⟨_, h⟩ | ⟨_, h⟩
  · exact leaf 20 (by decide) h
  rcases ite_ok h with ⟨_, h⟩ | ⟨_, h⟩
  · exact leaf 21 (by decide) h
  rcases ite_ok h with ⟨_, h⟩ | ⟨_, h⟩
  · exact leaf 22 (by decide) h
  rcases ite_ok h with ⟨_, h⟩ | ⟨_, h⟩
  · exact leaf 57 (by decide) h
  rcases ite_ok h with ⟨_, h⟩ | ⟨_, h⟩
  · obtain ⟨ts, l4, h5, h6⟩ := bind_ok h
    exact hx_of h6 (by decide)
  rcases ite_ok h with ⟨_, h⟩ | ⟨_, h⟩
  · obtain ⟨u, l4, h5, h6⟩ := bind_ok h
    obtain ⟨_, l5, h7, h8⟩ := bind_ok h6
    injection h8 with h9 h10
    rw [← h9]
    exact he _ _ _ h5
  rcases ite_ok h with ⟨_, h⟩ | ⟨_, h⟩
  · exact lone 45 (by decide) h
  rcases ite_ok h with ⟨_, h⟩ | ⟨_, h⟩
  · exact lone 46 (by decide) h
  rcases ite_ok h with ⟨_, h⟩ | ⟨_, h⟩
  · exact lone 47 (by decide) h
  rcases ite_ok h with ⟨_, h⟩ | ⟨_, h⟩
  · exact lone 48 (by decide) h
  rcases ite_ok h with ⟨_, h⟩ | ⟨_, h⟩
  · exact lone 52 (by decide) h
  rcases ite_ok h with ⟨_, h⟩ | ⟨_, h⟩
  · obtain ⟨_, l2, h1, h2⟩ := bind_ok h
    obtain ⟨u, l3, h3, h4⟩ := bind_ok h2
    obtain ⟨_, l4, h5, h6⟩ := bind_ok h4
    obtain ⟨v, l5, h7, h8⟩ := bind_ok h6
    obtain ⟨_, l6, h9, h10⟩ := bind_ok h8
    exact hx_of h10 (by decide)
  rcases ite_ok h with ⟨_, h⟩ | ⟨_, h⟩
  · obtain ⟨u, l4, h5, h6⟩ := bind_ok h
    exact hx_of h6 (by decide)
  rcases ite_ok h with ⟨_, h⟩ | ⟨_, h⟩
  · obtain ⟨s, l2, h1, h2⟩ := bind_ok h
    injection h2 with h3 h4
    rw [← h3]; exact ⟨_, _, rfl, (by decide : Ex 56)⟩
  rcases ite_ok h with ⟨_, h⟩ | ⟨_, h⟩
  · exact lask 50 (by decide) h
  rcases ite_ok h with ⟨_, h⟩ | ⟨_, h⟩
  · exact lask 51 (by decide) h
  cases h
theorem hx_all : ∀ (n : Nat) (nt : Nt), isE nt = true → Hx Ex (P n nt)
  | 0, nt, _ => by
    intro l t l1 h
    rw [P] at h
    cases h
  | n + 1, nt, hnt => by
    have ih := hx_all n
    have lvl : ∀ (nt2 : Nt) (v : List (List UInt8 × Nat)) (once : Bool), isE nt2 = true → (∀ p ∈ v, Ex p.2) → Hx Ex (fun l => (P n nt2 l).bind (leftP (P n nt2) v once n)) := by
      intro nt2 v once h2 hv l t l1 h
      obtain ⟨u, l2, h3, h4⟩ := bind_ok h
      exact hx_left v once hv n u l2 (ih nt2 h2 _ _ _ h3) t l1 h4
    cases nt with
    | expr => exact lvl .and_ sOr false rfl (by decide)
    | and_ => exact lvl .not_ sAnd false rfl (by decide)
    | not_ =>
      intro l t l1 h
      rw [P] at h
      rcases ite_ok h with ⟨_, h⟩ | ⟨_, h⟩
      · obtain ⟨u, l4, h5, h6⟩ := bind_ok h
        exact hx_of h6 (by decide)
      · exact lvl .sum sCmp true rfl (by decide) l t l1 h
    | sum => exact lvl .term sSum false rfl (by decide)
    | term => exact lvl .pre sTerm false rfl (by decide)
    | pre =>
      intro l t l1 h
      rw [P] at h
      unfold preP at h
      rcases ite_ok h with ⟨_, h⟩ | ⟨_, h⟩
      · obtain ⟨u, l4, h5, h6⟩ := bind_ok h
        exact hx_of h6 (by decide)
      rcases ite_ok h with ⟨_, h⟩ | ⟨_, h⟩
      · obtain ⟨u, l4, h5, h6⟩ := bind_ok h
        exact hx_of h6 (by decide)
      rcases ite_ok h with ⟨_, h⟩ | ⟨_, h⟩
      · obtain ⟨u, l4, h5, h6⟩ := bind_ok h
        exact hx_of h6 (by decide)
      · obtain ⟨u, l4, h5, h6⟩ := bind_ok h
        exact hx_post n u l4 (ih .prim rfl _ _ _ h5) t l1 h6
    | prim =>
      intro l t l1 h
      rw [P] at h
      unfold primP at h
      split at h
      · cases h
      · rcases ite_ok h with ⟨_, h⟩ | ⟨_, h⟩
        · injection h with h1 h2
          rw [← h1]; exact ⟨_, _, rfl, (by decide : Ex 23)⟩
        rcases ite_ok h with ⟨_, h⟩ | ⟨_, h⟩
        · injection h with h1 h2
          rw [← h1]; exact ⟨_, _, rfl, (by decide : Ex 24)⟩
        rcases ite_ok h with ⟨_, h⟩ | ⟨_, h⟩
        · injection h with h1 h2
          rw [← h1]; exact ⟨_, _, rfl, (by decide : Ex 26)⟩
        · exact hx_word (ih .expr rfl) n _ _ _ h
    | block => cases hnt
    | stmt => cases hnt
theorem head_expr {s : List UInt8} (hs : s.length ≤ 100000) {t : List Tw} {q : Nat} (h : srcT N0 false s = (t, q, 0)) : HxT Ex t := hx_all N0 .expr rfl _ _ _ (srcT_ok hs h).2.1
theorem head_flow {s : List UInt8} (hs : s.length ≤ 100000) {t : List Tw} {q : Nat} (h : srcT N0 true s = (t, q, 0)) : HxT (· = 1) t := by
  have h1 : flowP N0 ((srcL s).1.map zOf) = .ok t [] false := (srcT_ok hs h).2.1
  unfold flowP at h1
  obtain ⟨_, l2, h2, h3⟩ := bind_ok h1
  obtain ⟨s2, l3, h4, h5⟩ := bind_ok h3
  obtain ⟨_, l4, h6, h7⟩ := bind_ok h5
  obtain ⟨ps, l5, h8, h9⟩ := bind_ok h7
  obtain ⟨b, l6, h10, h11⟩ := bind_ok h9
  exact hx_of h11 rfl
end Go.Proofs.YtbcadlocldplfaaDoor
namespace Go.Proofs.YtbcadlocldplfaaDoor
set_option maxRecDepth 100000
open Go.RowKit T8
theorem src_twok {fl : Bool} {s : List UInt8} (hs : s.length ≤ 100000) {t : List Tw} {q : Nat} (h : srcT N0 fl s = (t, q, 0)) : ∀ x ∈ t, TwOk x := by
  obtain ⟨_, h1, _, _⟩ := srcT_ok hs h
  have h2 := src_z hs
  exact twok_of (readF_bd N0 fl _ _ _ _ h2.1 (by omega) h1).1
set_option maxHeartbeats 3000000 in
theorem parseRight_walk (st : ByteArray) (w0 : st.size ≤ maxLen) (w : World) (htab : Tab w) :
    Calls Tryd.prog 5 #[.string st] w fun e w' => e = .returned (.bool true) ∧ Below w.heap.size w w' := by
  have HTB := Lib.hid htab
  clear htab
  obtain ⟨s, hs⟩ : ∃ s : List UInt8, st = ⟨s.toArray⟩ := ⟨st.data.toList, by cases st; rfl⟩
  obtain ⟨n, hn⟩ : ∃ n, n = st.size := ⟨_, rfl⟩
  have hsz : st.size = n := hn.symm
  have hsn : s.length = n := by rw [hn, hs]; rfl
  have hn9 : n ≤ 9223372036854775807 := by unfold maxLen at w0; omega
  by_cases hlong : 20000 < n
  · obtain ⟨s1, hs1e⟩ : ∃ z, z = s.take 20000 := ⟨_, rfl⟩
    have hs1 : s1.length ≤ 100000 := by rw [hs1e, List.length_take]; omega
    have hex : st.extract 0 20000 = ⟨s1.toArray⟩ := by rw [hs, hs1e]; exact take_ext s 20000
    have hd : decide ((20000 : Int) < (n : Int)) = true := decide_eq_true (by omega)
    have hd2 : (20000 : Nat) ≤ n := by omega
    have hd3 : ((20000 : Nat) : Int) ≤ (n : Int) := by omega
    clear hs1e hs hn w0 hsn
    have HF := Lib.hid (flow9_any N0 s1 hs1 (readF_ne true hs1) w)
    have HE := Lib.hid (fun W => expr5_any N0 s1 hs1 (readF_ne false hs1) W)
    have HAL := Lib.hid (fun W => all_any s1 hs1 W)
    have HS1 := Lib.hid hs1
    obtain ⟨R, hR⟩ : ∃ R, R = srcT N0 true s1 := ⟨_, rfl⟩
    have HR := Lib.hid hR
    rw [← hR] at HF
    obtain ⟨t, q, er⟩ := R
    obtain ⟨R2, hR2⟩ : ∃ R, R = srcT N0 false s1 := ⟨_, rfl⟩
    have HR2 := Lib.hid hR2
    rw [← hR2] at HE
    obtain ⟨u, q2, f⟩ := R2
    obtain ⟨st1, hst1⟩ : ∃ z : ByteArray, z = ⟨s1.toArray⟩ := ⟨_, rfl⟩
    rw [← hst1] at HF HE HAL hex
    have HW := Lib.hid (fun W => wakes8_any W)
    clear hR hR2 hst1 hs1
    go_enter Tryd.func5, Tryd.ntmps5
    go_wp2_with fail
    refine HF.out.mono ?_
    rintro e w1 ⟨A, n1, c1, rfl, ho1, hl1, hb1⟩
    have H1 := Lib.hid (And.intro ho1 (And.intro hl1 hb1))
    have hn1 : n1 ≤ 2048 := by have := ho1.len; have := hl1; dsimp only at *; omega
    clear ho1 hl1 hb1 HF
    dsimp only at H1
    dsimp only
    by_cases he : er = 0
    · subst he
      have HOK := Lib.hid (srcT_ok HS1.out HR.out.symm)
      have HTW : Hid (∀ x ∈ t, TwOk x) := Lib.hid (src_twok HS1.out HR.out.symm)
      obtain ⟨x, r, hx, hop⟩ := head_flow HS1.out HR.out.symm
      have hq : q = 0 := HOK.out.2.2.1
      subst hq
      have hnz : n1 ≠ 0 := by rw [H1.out.1.len, hx]; simp
      have hnb : ((n1 : Int) == 0) = false := by rw [beq_eq_false_iff_ne]; omega
      have hnp : 0 < n1 := by omega
      obtain ⟨bA, oA, rfl, hbA, hat⟩ : ∃ b off, A = some ⟨b, off, none⟩ ∧ b < w1.heap.size ∧ ∀ i x, t[i]? = some x → ∀ j v, (twcell x)[j]? = some v → w1.cell? ⟨b, off + i * 4 + j, none⟩ = some v := H1.out.1.rd.resolve_left (by rw [hx]; simp)
      have HK0 : Hid (∀ W, Below w1.heap.size w1 W → W.cell? ⟨bA, oA, none⟩ = some (.int .u8 1)) := Lib.hid fun W hW => (hW.cell (p := ⟨bA, oA, none⟩) hbA).trans (by
        have := hat 0 x (by rw [hx]; rfl) 0 _ rfl
        rw [hop] at this
        simpa using this)
      have HCK : Hid (Calls Tryd.prog 18 #[.slice (some ⟨bA, oA, none⟩) n1 c1] w1 fun e w' => e = .returned (.tuple #[.int .i64 (chk t).1, .int .i64 0]) ∧ Below w1.heap.size w1 w') := Lib.hid (by
        have h1 := check_any (some ⟨bA, oA, none⟩) c1 t w1 HTW.out (rdw_of H1.out.1.rd) (by rw [← H1.out.1.len]; omega) (fun a ha _ => by obtain rfl := Option.some.inj ha; exact hbA)
        rw [← H1.out.1.len, HOK.out.2.2.2] at h1
        exact h1)
      generalize (chk t).1 = cq at HCK
      have HX := Lib.hid (And.intro hx hop)
      clear hx hop hat hnz
      go_wp2_with fail
      refine HCK.out.mono ?_
      rintro e w2 ⟨rfl, hb2⟩
      have H2 := Lib.hid hb2
      have k0 := HK0.out w2 hb2
      have hbA2 : bA < w2.heap.size := Nat.lt_of_lt_of_le hbA hb2.size
      clear hb2 HCK
      go_wp2_with fail
      refine (HAL.out w2).mono ?_
      rintro e w3 ⟨A3, c3, rfl, ho3, hb3⟩
      have hg0 : (srcL s1).2.2 = 0 := HOK.out.1
      rw [hg0]
      obtain ⟨m, hm⟩ : ∃ m, m = (srcL s1).1.length := ⟨_, rfl⟩
      rw [← hm] at ho3 ⊢
      have H3 := Lib.hid (And.intro ho3 (And.intro hm (H2.out.trans (hb3.mono H2.out.size))))
      obtain ⟨o, hoo⟩ : ∃ o, o = (srcL s1).1.map zOf := ⟨_, rfl⟩
      have HO := Lib.hid hoo
      have HGL : Hid (GL o) := Lib.hid (by rw [hoo]; exact src_gl HS1.out)
      have hm9 : m ≤ 16384 := by rw [hm]; exact (src_b HS1.out).2
      have HSP : Hid (Calls Tryd.prog 21 #[.slice A3 m c3] w3 (T7.SpellPost w3 (o.map cv))) := Lib.hid (by
        have hol : m = o.length := by rw [hoo, List.length_map]; exact hm
        have h1 := T7.spell_any A3 c3 (o.map cv) w3 (rd_cv (by rw [hoo, ← tcells_z]; exact ho3) hol) (by rw [List.length_map]; omega) (gl_tz HGL.out) (T7.tab_below HTB.out (H1.out.2.2.trans (H3.out.2.2.mono H1.out.2.2.size)))
        rwa [List.length_map, ← hol] at h1)
      generalize (srcL s1).2.1 = g1
      clear hg0 hm ho3 hb3 hoo k0 HAL
      go_wp2_with fail
      refine HSP.out.mono ?_
      rintro e w4 ⟨rfl, hb4⟩
      have H4 := Lib.hid (H3.out.2.2.trans (hb4.mono H3.out.2.2.size))
      clear hb4 HSP
      obtain ⟨S, hS⟩ : ∃ S, S = T7.spellL (o.map cv) := ⟨_, rfl⟩
      have HS := Lib.hid hS
      have hse := spell_err2 HGL.out
      rw [← hS] at hse ⊢
      clear hS
      obtain ⟨ss, h⟩ := S
      dsimp only at hse ⊢
      obtain ⟨st, hst⟩ : ∃ z : ByteArray, z = ⟨ss.toArray⟩ := ⟨_, rfl⟩
      rw [← hst]
      have HST := Lib.hid hst
      clear hst
      rcases hse with hz | ⟨hz, _⟩
      · subst hz
        have HAG : Hid (srcT N0 true ss = (t, 0, 0)) := Lib.hid (by
          have h1 := read_again HS1.out HR.out.symm (by rw [← HO.out, ← HS.out])
          rw [← HO.out, ← HS.out] at h1
          exact h1)
        have HFL : Hid (Calls Tryd.prog 15 #[.string st] w4 (TrePost w4 (t, 0, 0))) := Lib.hid (by
          have hl : ss.length ≤ 100000 := by
            have h2 := spelled_len (l := o.map cv) (by rw [← HS.out])
            rw [← HS.out] at h2
            dsimp only at h2
            omega
          have h1 := flow9_any N0 ss hl (readF_ne true hl) w4
          rw [HAG.out, ← HST.out] at h1
          exact h1)
        go_wp2_with fail
        refine HFL.out.mono ?_
        rintro e w5 ⟨A5, n5, c5, rfl, ho5, hl5, hb5⟩
        have H5 := Lib.hid (And.intro ho5 (H4.out.trans (hb5.mono H4.out.size)))
        have HAK : Hid (Calls Tryd.prog 11 #[.slice (some ⟨bA, oA, none⟩) n1 c1, .slice A5 n5 c5] w5 fun e w' => e = .returned (.bool true) ∧ ∃ q, w' = w5.drewN q) := Lib.hid (by
          have h1 := alike_any (some ⟨bA, oA, none⟩) A5 c1 c5 n1 n5 t t w5 (H1.out.1.rd.below H5.out.2) ho5.rd H1.out.1.len ho5.len (by omega)
          rwa [decide_eq_true rfl] at h1)
        clear ho5 hl5 hb5 HFL
        go_wp2_with fail
        refine HAK.out.mono ?_
        rintro e w6 ⟨rfl, nq, rfl⟩
        have H6 : Hid (Below w.heap.size w (w5.drewN nq)) := Lib.hid (below_drewN (H1.out.2.2.trans (H5.out.2.mono H1.out.2.2.size)) nq)
        generalize w5.drewN nq = w6 at *
        go_wp2_with fail
        refine (HW.out w6).mono ?_
        rintro e w7 ⟨rfl, hb7⟩
        have H7 := Lib.hid (H6.out.trans (hb7.mono H6.out.size))
        clear hb7
        go_wp2_with fail
        go_ret
        exact ⟨rfl, H7.out⟩
      · subst hz
        have H6 : Hid (Below w.heap.size w w4) := Lib.hid (H1.out.2.2.trans (H4.out.mono H1.out.2.2.size))
        go_wp2_with fail
        refine (HW.out w4).mono ?_
        rintro e w7 ⟨rfl, hb7⟩
        have H7 := Lib.hid (H6.out.trans (hb7.mono H6.out.size))
        clear hb7
        go_wp2_with fail
        go_ret
        exact ⟨rfl, H7.out⟩
    · have ht0 : t = [] := srcT_bad HR.out.symm he
      have hn0 : n1 = 0 := by rw [H1.out.1.len, ht0]; rfl
      have HB1 : Hid (Below w.heap.size w w1) := Lib.hid H1.out.2.2
      have hne : (er != 0) = true := by simpa using he
      clear H1 hn1 he ht0
      subst hn0
      go_wp2_with fail
      refine (HE.out w1).mono ?_
      rintro e w2 ⟨A2, n2, c2, rfl, ho2, hl2, hb2⟩
      have H2 := Lib.hid (And.intro ho2 (And.intro hl2 (And.intro (HB1.out.trans (hb2.mono HB1.out.size)) hb2)))
      have hn2 : n2 ≤ 2048 := by have := ho2.len; have := hl2; dsimp only at *; omega
      clear ho2 hl2 hb2 HE
      dsimp only at H2
      dsimp only
      by_cases hf : f = 0
      · subst hf
        have HOK := Lib.hid (srcT_ok HS1.out HR2.out.symm)
        have HTW : Hid (∀ x ∈ u, TwOk x) := Lib.hid (src_twok HS1.out HR2.out.symm)
        obtain ⟨x, r, hx, hop⟩ := head_expr HS1.out HR2.out.symm
        have hop9 : x.op < 256 := (HTW.out x (by rw [hx]; simp)).1
        have hnp : 0 < n2 := by rw [H2.out.1.len, hx]; simp
        have hdp : decide ((0 : Int) < (n2 : Int)) = true := decide_eq_true (by omega)
        obtain ⟨bA, oA, rfl, hbA, hat⟩ : ∃ b off, A2 = some ⟨b, off, none⟩ ∧ b < w2.heap.size ∧ ∀ i x, u[i]? = some x → ∀ j v, (twcell x)[j]? = some v → w2.cell? ⟨b, off + i * 4 + j, none⟩ = some v := H2.out.1.rd.resolve_left (by rw [hx]; simp)
        have HK0 : Hid (∀ W, Below w2.heap.size w2 W → W.cell? ⟨bA, oA, none⟩ = some (.int .u8 (x.op : Nat))) := Lib.hid fun W hW => (hW.cell (p := ⟨bA, oA, none⟩) hbA).trans (by
          have := hat 0 x (by rw [hx]; rfl) 0 _ rfl
          simpa using this)
        have HCK : Hid (Calls Tryd.prog 18 #[.slice (some ⟨bA, oA, none⟩) n2 c2] w2 fun e w' => e = .returned (.tuple #[.int .i64 (chk u).1, .int .i64 0]) ∧ Below w2.heap.size w2 w') := Lib.hid (by
          have h1 := check_any (some ⟨bA, oA, none⟩) c2 u w2 HTW.out (rdw_of H2.out.1.rd) (by rw [← H2.out.1.len]; omega) (fun a ha _ => by obtain rfl := Option.some.inj ha; exact hbA)
          rw [← H2.out.1.len, HOK.out.2.2.2] at h1
          exact h1)
        have HEX : Hid (∀ W, Calls Tryd.prog 19 #[.int .u8 (x.op : Nat)] W fun e w' => e = .returned (.bool true) ∧ w' = W) := Lib.hid (fun W => by
          have h1 := expression_any x.op W hop9
          have h2 : exprB x.op = true := hop
          rwa [h2] at h1)
        generalize (chk u).1 = cq at HCK
        obtain ⟨op, kids, iv, tx⟩ := x
        dsimp only at hop9 HK0 HEX
        clear hx hop hat
        go_wp2_with fail
        refine HCK.out.mono ?_
        rintro e w3 ⟨rfl, hb3⟩
        have H3 := Lib.hid hb3
        have k0 := HK0.out w3 hb3
        have hbA2 : bA < w3.heap.size := Nat.lt_of_lt_of_le hbA hb3.size
        clear hb3 HCK
        go_wp2_with fail
        refine (HEX.out w3).mono ?_
        rintro e w3' ⟨rfl, hw⟩
        rw [hw]
        clear hw w3'
        have H6 : Hid (Below w.heap.size w w3) := Lib.hid (H2.out.2.2.1.trans (H3.out.mono H2.out.2.2.1.size))
        go_wp2_with fail
        refine (HW.out w3).mono ?_
        rintro e w7 ⟨rfl, hb7⟩
        have H7 := Lib.hid (H6.out.trans (hb7.mono H6.out.size))
        clear hb7
        go_wp2_with fail
        go_ret
        exact ⟨rfl, H7.out⟩
      · have hu0 : u = [] := srcT_bad HR2.out.symm hf
        have hn0 : n2 = 0 := by rw [H2.out.1.len, hu0]; rfl
        have HB2 : Hid (Below w.heap.size w w2) := Lib.hid H2.out.2.2.1
        have hne2 : (f != 0) = true := by simpa using hf
        clear H2 hn2 hf hu0
        subst hn0
        go_wp2_with fail
        refine (HW.out w2).mono ?_
        rintro e w7 ⟨rfl, hb7⟩
        have H7 := Lib.hid (HB2.out.trans (hb7.mono HB2.out.size))
        clear hb7
        go_wp2_with fail
        go_ret
        exact ⟨rfl, H7.out⟩
  · have hs1 : s.length ≤ 100000 := by omega
    have hd : decide ((20000 : Int) < (n : Int)) = false := decide_eq_false (by omega)
    obtain ⟨s1, hs1e⟩ : ∃ z, z = s := ⟨_, rfl⟩
    rw [← hs1e] at hs1
    have hex : st = ⟨s1.toArray⟩ := by rw [hs, hs1e]
    clear hs1e hs hn w0 hsn
    have HF := Lib.hid (flow9_any N0 s1 hs1 (readF_ne true hs1) w)
    have HE := Lib.hid (fun W => expr5_any N0 s1 hs1 (readF_ne false hs1) W)
    have HAL := Lib.hid (fun W => all_any s1 hs1 W)
    have HS1 := Lib.hid hs1
    obtain ⟨R, hR⟩ : ∃ R, R = srcT N0 true s1 := ⟨_, rfl⟩
    have HR := Lib.hid hR
    rw [← hR] at HF
    obtain ⟨t, q, er⟩ := R
    obtain ⟨R2, hR2⟩ : ∃ R, R = srcT N0 false s1 := ⟨_, rfl⟩
    have HR2 := Lib.hid hR2
    rw [← hR2] at HE
    obtain ⟨u, q2, f⟩ := R2
    obtain ⟨st1, hst1⟩ : ∃ z : ByteArray, z = ⟨s1.toArray⟩ := ⟨_, rfl⟩
    rw [← hst1] at HF HE HAL hex
    subst hex
    have HW := Lib.hid (fun W => wakes8_any W)
    clear hR hR2 hst1 hs1
    go_enter Tryd.func5, Tryd.ntmps5
    go_wp2_with fail
    refine HF.out.mono ?_
    rintro e w1 ⟨A, n1, c1, rfl, ho1, hl1, hb1⟩
    have H1 := Lib.hid (And.intro ho1 (And.intro hl1 hb1))
    have hn1 : n1 ≤ 2048 := by have := ho1.len; have := hl1; dsimp only at *; omega
    clear ho1 hl1 hb1 HF
    dsimp only at H1
    dsimp only
    by_cases he : er = 0
    · subst he
      have HOK := Lib.hid (srcT_ok HS1.out HR.out.symm)
      have HTW : Hid (∀ x ∈ t, TwOk x) := Lib.hid (src_twok HS1.out HR.out.symm)
      obtain ⟨x, r, hx, hop⟩ := head_flow HS1.out HR.out.symm
      have hq : q = 0 := HOK.out.2.2.1
      subst hq
      have hnz : n1 ≠ 0 := by rw [H1.out.1.len, hx]; simp
      have hnb : ((n1 : Int) == 0) = false := by rw [beq_eq_false_iff_ne]; omega
      have hnp : 0 < n1 := by omega
      obtain ⟨bA, oA, rfl, hbA, hat⟩ : ∃ b off, A = some ⟨b, off, none⟩ ∧ b < w1.heap.size ∧ ∀ i x, t[i]? = some x → ∀ j v, (twcell x)[j]? = some v → w1.cell? ⟨b, off + i * 4 + j, none⟩ = some v := H1.out.1.rd.resolve_left (by rw [hx]; simp)
      have HK0 : Hid (∀ W, Below w1.heap.size w1 W → W.cell? ⟨bA, oA, none⟩ = some (.int .u8 1)) := Lib.hid fun W hW => (hW.cell (p := ⟨bA, oA, none⟩) hbA).trans (by
        have := hat 0 x (by rw [hx]; rfl) 0 _ rfl
        rw [hop] at this
        simpa using this)
      have HCK : Hid (Calls Tryd.prog 18 #[.slice (some ⟨bA, oA, none⟩) n1 c1] w1 fun e w' => e = .returned (.tuple #[.int .i64 (chk t).1, .int .i64 0]) ∧ Below w1.heap.size w1 w') := Lib.hid (by
        have h1 := check_any (some ⟨bA, oA, none⟩) c1 t w1 HTW.out (rdw_of H1.out.1.rd) (by rw [← H1.out.1.len]; omega) (fun a ha _ => by obtain rfl := Option.some.inj ha; exact hbA)
        rw [← H1.out.1.len, HOK.out.2.2.2] at h1
        exact h1)
      generalize (chk t).1 = cq at HCK
      have HX := Lib.hid (And.intro hx hop)
      clear hx hop hat hnz
      go_wp2_with fail
      refine HCK.out.mono ?_
      rintro e w2 ⟨rfl, hb2⟩
      have H2 := Lib.hid hb2
      have k0 := HK0.out w2 hb2
      have hbA2 : bA < w2.heap.size := Nat.lt_of_lt_of_le hbA hb2.size
      clear hb2 HCK
      go_wp2_with fail
      refine (HAL.out w2).mono ?_
      rintro e w3 ⟨A3, c3, rfl, ho3, hb3⟩
      have hg0 : (srcL s1).2.2 = 0 := HOK.out.1
      rw [hg0]
      obtain ⟨m, hm⟩ : ∃ m, m = (srcL s1).1.length := ⟨_, rfl⟩
      rw [← hm] at ho3 ⊢
      have H3 := Lib.hid (And.intro ho3 (And.intro hm (H2.out.trans (hb3.mono H2.out.size))))
      obtain ⟨o, hoo⟩ : ∃ o, o = (srcL s1).1.map zOf := ⟨_, rfl⟩
      have HO := Lib.hid hoo
      have HGL : Hid (GL o) := Lib.hid (by rw [hoo]; exact src_gl HS1.out)
      have hm9 : m ≤ 16384 := by rw [hm]; exact (src_b HS1.out).2
      have HSP : Hid (Calls Tryd.prog 21 #[.slice A3 m c3] w3 (T7.SpellPost w3 (o.map cv))) := Lib.hid (by
        have hol : m = o.length := by rw [hoo, List.length_map]; exact hm
        have h1 := T7.spell_any A3 c3 (o.map cv) w3 (rd_cv (by rw [hoo, ← tcells_z]; exact ho3) hol) (by rw [List.length_map]; omega) (gl_tz HGL.out) (T7.tab_below HTB.out (H1.out.2.2.trans (H3.out.2.2.mono H1.out.2.2.size)))
        rwa [List.length_map, ← hol] at h1)
      generalize (srcL s1).2.1 = g1
      clear hg0 hm ho3 hb3 hoo k0 HAL
      go_wp2_with fail
      refine HSP.out.mono ?_
      rintro e w4 ⟨rfl, hb4⟩
      have H4 := Lib.hid (H3.out.2.2.trans (hb4.mono H3.out.2.2.size))
      clear hb4 HSP
      obtain ⟨S, hS⟩ : ∃ S, S = T7.spellL (o.map cv) := ⟨_, rfl⟩
      have HS := Lib.hid hS
      have hse := spell_err2 HGL.out
      rw [← hS] at hse ⊢
      clear hS
      obtain ⟨ss, h⟩ := S
      dsimp only at hse ⊢
      obtain ⟨st, hst⟩ : ∃ z : ByteArray, z = ⟨ss.toArray⟩ := ⟨_, rfl⟩
      rw [← hst]
      have HST := Lib.hid hst
      clear hst
      rcases hse with hz | ⟨hz, _⟩
      · subst hz
        have HAG : Hid (srcT N0 true ss = (t, 0, 0)) := Lib.hid (by
          have h1 := read_again HS1.out HR.out.symm (by rw [← HO.out, ← HS.out])
          rw [← HO.out, ← HS.out] at h1
          exact h1)
        have HFL : Hid (Calls Tryd.prog 15 #[.string st] w4 (TrePost w4 (t, 0, 0))) := Lib.hid (by
          have hl : ss.length ≤ 100000 := by
            have h2 := spelled_len (l := o.map cv) (by rw [← HS.out])
            rw [← HS.out] at h2
            dsimp only at h2
            omega
          have h1 := flow9_any N0 ss hl (readF_ne true hl) w4
          rw [HAG.out, ← HST.out] at h1
          exact h1)
        go_wp2_with fail
        refine HFL.out.mono ?_
        rintro e w5 ⟨A5, n5, c5, rfl, ho5, hl5, hb5⟩
        have H5 := Lib.hid (And.intro ho5 (H4.out.trans (hb5.mono H4.out.size)))
        have HAK : Hid (Calls Tryd.prog 11 #[.slice (some ⟨bA, oA, none⟩) n1 c1, .slice A5 n5 c5] w5 fun e w' => e = .returned (.bool true) ∧ ∃ q, w' = w5.drewN q) := Lib.hid (by
          have h1 := alike_any (some ⟨bA, oA, none⟩) A5 c1 c5 n1 n5 t t w5 (H1.out.1.rd.below H5.out.2) ho5.rd H1.out.1.len ho5.len (by omega)
          rwa [decide_eq_true rfl] at h1)
        clear ho5 hl5 hb5 HFL
        go_wp2_with fail
        refine HAK.out.mono ?_
        rintro e w6 ⟨rfl, nq, rfl⟩
        have H6 : Hid (Below w.heap.size w (w5.drewN nq)) := Lib.hid (below_drewN (H1.out.2.2.trans (H5.out.2.mono H1.out.2.2.size)) nq)
        generalize w5.drewN nq = w6 at *
        go_wp2_with fail
        refine (HW.out w6).mono ?_
        rintro e w7 ⟨rfl, hb7⟩
        have H7 := Lib.hid (H6.out.trans (hb7.mono H6.out.size))
        clear hb7
        go_wp2_with fail
        go_ret
        exact ⟨rfl, H7.out⟩
      · subst hz
        have H6 : Hid (Below w.heap.size w w4) := Lib.hid (H1.out.2.2.trans (H4.out.mono H1.out.2.2.size))
        go_wp2_with fail
        refine (HW.out w4).mono ?_
        rintro e w7 ⟨rfl, hb7⟩
        have H7 := Lib.hid (H6.out.trans (hb7.mono H6.out.size))
        clear hb7
        go_wp2_with fail
        go_ret
        exact ⟨rfl, H7.out⟩
    · have ht0 : t = [] := srcT_bad HR.out.symm he
      have hn0 : n1 = 0 := by rw [H1.out.1.len, ht0]; rfl
      have HB1 : Hid (Below w.heap.size w w1) := Lib.hid H1.out.2.2
      have hne : (er != 0) = true := by simpa using he
      clear H1 hn1 he ht0
      subst hn0
      go_wp2_with fail
      refine (HE.out w1).mono ?_
      rintro e w2 ⟨A2, n2, c2, rfl, ho2, hl2, hb2⟩
      have H2 := Lib.hid (And.intro ho2 (And.intro hl2 (And.intro (HB1.out.trans (hb2.mono HB1.out.size)) hb2)))
      have hn2 : n2 ≤ 2048 := by have := ho2.len; have := hl2; dsimp only at *; omega
      clear ho2 hl2 hb2 HE
      dsimp only at H2
      dsimp only
      by_cases hf : f = 0
      · subst hf
        have HOK := Lib.hid (srcT_ok HS1.out HR2.out.symm)
        have HTW : Hid (∀ x ∈ u, TwOk x) := Lib.hid (src_twok HS1.out HR2.out.symm)
        obtain ⟨x, r, hx, hop⟩ := head_expr HS1.out HR2.out.symm
        have hop9 : x.op < 256 := (HTW.out x (by rw [hx]; simp)).1
        have hnp : 0 < n2 := by rw [H2.out.1.len, hx]; simp
        have hdp : decide ((0 : Int) < (n2 : Int)) = true := decide_eq_true (by omega)
        obtain ⟨bA, oA, rfl, hbA, hat⟩ : ∃ b off, A2 = some ⟨b, off, none⟩ ∧ b < w2.heap.size ∧ ∀ i x, u[i]? = some x → ∀ j v, (twcell x)[j]? = some v → w2.cell? ⟨b, off + i * 4 + j, none⟩ = some v := H2.out.1.rd.resolve_left (by rw [hx]; simp)
        have HK0 : Hid (∀ W, Below w2.heap.size w2 W → W.cell? ⟨bA, oA, none⟩ = some (.int .u8 (x.op : Nat))) := Lib.hid fun W hW => (hW.cell (p := ⟨bA, oA, none⟩) hbA).trans (by
          have := hat 0 x (by rw [hx]; rfl) 0 _ rfl
          simpa using this)
        have HCK : Hid (Calls Tryd.prog 18 #[.slice (some ⟨bA, oA, none⟩) n2 c2] w2 fun e w' => e = .returned (.tuple #[.int .i64 (chk u).1, .int .i64 0]) ∧ Below w2.heap.size w2 w') := Lib.hid (by
          have h1 := check_any (some ⟨bA, oA, none⟩) c2 u w2 HTW.out (rdw_of H2.out.1.rd) (by rw [← H2.out.1.len]; omega) (fun a ha _ => by obtain rfl := Option.some.inj ha; exact hbA)
          rw [← H2.out.1.len, HOK.out.2.2.2] at h1
          exact h1)
        have HEX : Hid (∀ W, Calls Tryd.prog 19 #[.int .u8 (x.op : Nat)] W fun e w' => e = .returned (.bool true) ∧ w' = W) := Lib.hid (fun W => by
          have h1 := expression_any x.op W hop9
          have h2 : exprB x.op = true := hop
          rwa [h2] at h1)
        generalize (chk u).1 = cq at HCK
        obtain ⟨op, kids, iv, tx⟩ := x
        dsimp only at hop9 HK0 HEX
        clear hx hop hat
        go_wp2_with fail
        refine HCK.out.mono ?_
        rintro e w3 ⟨rfl, hb3⟩
        have H3 := Lib.hid hb3
        have k0 := HK0.out w3 hb3
        have hbA2 : bA < w3.heap.size := Nat.lt_of_lt_of_le hbA hb3.size
        clear hb3 HCK
        go_wp2_with fail
        refine (HEX.out w3).mono ?_
        rintro e w3' ⟨rfl, hw⟩
        rw [hw]
        clear hw w3'
        have H6 : Hid (Below w.heap.size w w3) := Lib.hid (H2.out.2.2.1.trans (H3.out.mono H2.out.2.2.1.size))
        go_wp2_with fail
        refine (HW.out w3).mono ?_
        rintro e w7 ⟨rfl, hb7⟩
        have H7 := Lib.hid (H6.out.trans (hb7.mono H6.out.size))
        clear hb7
        go_wp2_with fail
        go_ret
        exact ⟨rfl, H7.out⟩
      · have hu0 : u = [] := srcT_bad HR2.out.symm hf
        have hn0 : n2 = 0 := by rw [H2.out.1.len, hu0]; rfl
        have HB2 : Hid (Below w.heap.size w w2) := Lib.hid H2.out.2.2.1
        have hne2 : (f != 0) = true := by simpa using hf
        clear H2 hn2 hf hu0
        subst hn0
        go_wp2_with fail
        refine (HW.out w2).mono ?_
        rintro e w7 ⟨rfl, hb7⟩
        have H7 := Lib.hid (HB2.out.trans (hb7.mono HB2.out.size))
        clear hb7
        go_wp2_with fail
        go_ret
        exact ⟨rfl, H7.out⟩
end Go.Proofs.YtbcadlocldplfaaDoor
