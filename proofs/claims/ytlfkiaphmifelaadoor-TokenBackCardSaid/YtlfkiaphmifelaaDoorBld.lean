/- A strings.Builder that the call made itself: a byte, or a text, is written behind the others; a number's digits. -/
import Derived.Test.YtlfkiaphmifelaaDoorShelf
import Derived.Test.YtlfkiaphmifelaaDoorChecked
import Derived.Test.YtlfkiaphmifelaaDoorChg
import Derived.Lib.AppendStr
import Derived.Lib.UnsafeStr
import Derived.WalkKit
import Derived.Laws.Externs
namespace Go.Proofs.YtlfkiaphmifelaaDoor
open Go.RowKit

theorem info37 : (Tryd.prog.info? 37).map (·.size) = some 2 := by kernel_rfl
theorem infoB : (Tryd.prog.info? 5).map (fun i => (i.zero, i.size, i.bytes)) = some (some (.int .u8 0), 1, 1) := by kernel_rfl
theorem lies37 : liesAt Tryd.prog Tryd.prog.depth 37 (2 / Tryd.prog.cellsOf 37) 0 37 1 = true := by kernel_rfl
/-- The builder bears its own address, and the bytes. -/
abbrev Bd (B b : Nat) (bs : List Value) (w : World) : Prop := Lib.BuilderAt 37 5 B b (.pointer (some ⟨b, 0, none⟩)) bs w
abbrev Bl (B b : Nat) (bs : List Value) (w : World) : Prop := Lib.IsBuilder 37 5 B b bs w
/-- Blocks that are neither builders nor bytes stay. -/
def Kp (w w' : World) : Prop := ∀ k t cs, Blk w k t cs → t ≠ 37 → t ≠ 5 → Blk w' k t cs
theorem Kp.refl (w : World) : Kp w w := fun _ _ _ h _ _ => h
theorem Kp.trans {a b c : World} (h : Kp a b) (k : Kp b c) : Kp a c := fun i t cs hi h1 h2 => k i t cs (h i t cs hi h1 h2) h1 h2
theorem Kp.of_chg {T : Nat → Prop} {w w' : World} (h : Chg T w w') (hT : ∀ k, T k → ∃ cs t, w.heap[k]? = some (.cells cs t (0, 0)) ∧ (t = 37 ∨ t = 5)) : Kp w w' := fun k t cs hk h1 h2 =>
  Blk.chg hk h (fun hTk => by
    obtain ⟨cs2, t2, e1, e2⟩ := hT k hTk
    have e3 : w.heap[k]? = some (.cells cs t (0, 0)) := hk
    rw [e1] at e3
    injection e3 with e3
    injection e3 with _ e3
    subst e3
    exact e2.elim h1 h2)
theorem Kp.of_below {w w' : World} (h : Below w.heap.size w w') : Kp w w' := fun _ _ _ hk _ _ => hk.below h hk.lt
theorem Kp.of_grown {w w' : World} {B n : Nat} {v : Value} {xs : List Value} (ho : w.ownsRow B 5 1 v n xs) (hg : w.grownBy w' v.ownBlock) : Kp w w' :=
  .of_chg (.of_grown hg (T := fun k => v.ownBlock = some k) (fun r hr => hr)) (fun k hk => by
    rcases ho.2 with ⟨rfl, _⟩ | ⟨g, cap, cur, rfl, _, hh, _⟩
    · cases hk
    · have e : g = k := by simpa [Value.ownBlock] using hk
      subst e
      exact ⟨cur, 5, hh, .inr rfl⟩)
theorem Kp.set_ {w : World} {b j : Nat} {cs : Array Value} (h : w.heap[b]? = some (.cells cs 37 (0, 0))) (u : Value) : Kp w (w.setCell ⟨b, j, none⟩ u) :=
  .of_chg (Chg.setCell (T := fun k => k = b) (Chg.refl _ _) (p := ⟨b, j, none⟩) rfl _) (fun k hk => by rw [hk]; exact ⟨cs, 37, h, .inl rfl⟩)
set_option maxRecDepth 100000 in
set_option maxHeartbeats 2000000 in
theorem check_any (B b : Nat) (bs : List Value) (w : World) (h : Bl B b bs w) :
    Calls Tryd.prog 27 #[.pointer (some ⟨b, 0, none⟩)] w fun e w' => e = .returned (.tuple #[]) ∧ Bd B b bs w' ∧ Below B w w' ∧ Kp w w' := by
  obtain ⟨j, hj, hjs⟩ := Option.map_eq_some_iff.1 info37
  rcases h with h | h
  · have c0 := h.cell0
    have hsh := h.shape
    have hfz := h.frozen0
    have HB := Lib.hid h
    clear h
    go_enter Tryd.func27, Tryd.ntmps27
    go_wp2_with fail
    rw [Lib.run_to_unsafe w ⟨b, 0, none⟩ Tryd.underlying34 Tryd.underlying64 hj (by rw [hjs]; decide) hsh (Nat.zero_lt_succ 1)]
    simp only [Result.andThen]
    rw [Oper.upon_value]
    go_wp2_with fail
    rw [run_callFunc_extern Tryd.func34 (by kernel_rfl) (by kernel_rfl) (by kernel_rfl) (e := Extern.AbiNoEscape.same) (by kernel_rfl), Lib.run_noEscape]
    simp only [Result.andThen]
    rw [Oper.upon_value]
    go_wp2_with fail
    rw [Lib.run_from_unsafe w ⟨b, 0, none⟩ Tryd.underlying64 Tryd.underlying34 hj hsh lies37]
    simp only [Result.andThen]
    rw [Oper.upon_value]
    go_wp2_with fail
    go_end0
    exact ⟨rfl, HB.out.used _, (Below.refl B w).setCell (p := ⟨b, 0, none⟩) HB.out.1 _, by obtain ⟨_, v, hh, _⟩ := HB.out; exact Kp.set_ hh _⟩
  · have c0 := h.cell0
    have HB := Lib.hid h
    clear h
    go_enter Tryd.func27, Tryd.ntmps27
    go_wp2_with fail
    rw [Lib.run_neq_ptr_same w _ Tryd.underlying34 hj]
    go_wp2_with fail
    go_end0
    exact ⟨rfl, HB.out, Below.refl B _, Kp.refl _⟩
/-- What a written builder's cells are, and what stays of them when its row has grown. -/
theorem bd_grown {b : Nat} {v : Value} {w1 w2 : World} (hbk : w1.heap[b]? = some (.cells #[.pointer (some ⟨b, 0, none⟩), v] 37 (0, 0))) (hne : v.ownBlock ≠ some b) (hg : w1.grownBy w2 v.ownBlock) (hlt : b < w1.heap.size) :
    w2.heap[b]? = some (.cells #[.pointer (some ⟨b, 0, none⟩), v] 37 (0, 0)) := by
  rw [hg.block b hlt (fun e => hne e.symm)]
  exact hbk
theorem heap_lt {w : World} {b : Nat} {o : Obj} (h : w.heap[b]? = some o) : b < w.heap.size := by
  rcases Nat.lt_or_ge b w.heap.size with h' | h'
  · exact h'
  · rw [Array.getElem?_eq_none h'] at h; cases h
set_option maxRecDepth 100000 in
set_option maxHeartbeats 4000000 in
theorem wbyte_any (B b : Nat) (bs : List Value) (c : Int) (w : World) (h : Bl B b bs w) (hlen : bs.length + 1 ≤ 140737488355328) (hBw : B ≤ w.heap.size) :
    Calls Tryd.prog 13 #[.pointer (some ⟨b, 0, none⟩), .int .u8 c] w fun e w' => e = .returned .nilIface ∧ Bd B b (bs ++ [.int .u8 c]) w' ∧ Below B w w' ∧ Kp w w' := by
  obtain ⟨i0, hi, hz0, hz1, hz2⟩ := info_parts infoB
  have HC := Lib.hid (check_any B b bs w h)
  clear h
  go_enter Tryd.func13, Tryd.ntmps13
  go_wp2_with fail
  refine HC.out.mono ?_
  rintro e w1 ⟨rfl, ⟨hB, v, hbk, hown, hne⟩, hb1, hkp⟩
  have HKP := Lib.hid hkp
  clear hkp
  have c1 : w1.cell? ⟨b, 1, none⟩ = some v := by rw [Lib.cell_of_heap hbk]; rfl
  have HN := Lib.hid (And.intro hbk (And.intro hne (And.intro hb1 hB)))
  clear hbk hne hb1 HC
  go_wp2_with (at_builtin; refine wpList_append_own _ rfl _ _ 35 rfl B 5 i0 (.int .u8 0) 1 1 Tryd.underlying35 hi hz0 hz1 hz2 rfl (by decide) _ _ _ rfl (hown.alloc _) ⟨w1.heap.size, 0, none⟩ 1 1 [.int .u8 c] rfl rfl ?c1 ?c2 ?c3 ?c4 ?c5 ?_)
  case c1 =>
    intro j u hj
    match j, hj with
    | 0, hj => simp at hj; subst hj; simp [Addr.add]
  case c2 => intro u hu; simp at hu; subst hu; rfl
  case c3 => unfold maxLen; omega
  case c4 => omega
  case c5 => have := HN.out.2.2.1.size; simp; omega
  intro v' w2 hown' hgrow _
  have hlt := heap_lt HN.out.1
  have hb2 := bd_grown (b := b) (v := v) (w1 := w1.alloc (.cells #[.int .u8 c] 5)) (w2 := w2) (by rw [Lib.alloc_old w1 _ b hlt]; exact HN.out.1) HN.out.2.1 hgrow (by simp; omega)
  have d1 : w2.cell? ⟨b, 1, none⟩ = some v := by rw [Lib.cell_of_heap hb2]; rfl
  have f1 : w2.frozen? ⟨b, 1, none⟩ = false := Lib.frozen_of_heap hb2 1
  obtain ⟨g, cap, rfl⟩ : ∃ g cap, v' = .slice (some ⟨g, 0, none⟩) (bs.length + 1) cap := by
    rcases hown'.2 with ⟨_, h0⟩ | ⟨g, cap, cur, hv, _⟩
    · omega
    · exact ⟨g, cap, hv⟩
  have H2 := Lib.hid (And.intro hb2 (And.intro hown' hgrow))
  have HO := Lib.hid hown
  clear hb2 hown' hgrow c1 hown
  go_wp2_with fail
  go_ret
  refine ⟨rfl, Lib.BuilderAt.put (T := 37) (e := 5) HN.out.2.2.2 H2.out.1 (bs' := bs ++ [.int .u8 c]) (by simpa using H2.out.2.1) (by decide), ?_, (HKP.out.trans (Kp.of_below ((Below.refl _ _).alloc (Nat.le_refl _) _))).trans ((Kp.of_grown (HO.out.alloc _) H2.out.2.2).trans (Kp.set_ H2.out.1 _))⟩
  exact ((HN.out.2.2.1.alloc (by have := HN.out.2.2.1.size; omega) _).grown H2.out.2.2 (by have := HN.out.2.2.1.size; simp; omega) (fun k hk => (HO.out.lt k hk).1)).setCell (p := ⟨b, 1, none⟩) HN.out.2.2.2 _
set_option maxRecDepth 100000 in
set_option maxHeartbeats 4000000 in
theorem wstr_any (B b : Nat) (bs : List Value) (s : ByteArray) (w : World) (h : Bl B b bs w) (hlen : bs.length + s.size ≤ 140737488355328) (hBw : B ≤ w.heap.size) :
    Calls Tryd.prog 14 #[.pointer (some ⟨b, 0, none⟩), .string s] w fun e w' => e = .returned (.tuple #[.int .i64 s.size, .nilIface]) ∧ Bd B b (bs ++ Lib.strCells s) w' ∧ Below B w w' ∧ Kp w w' := by
  obtain ⟨i0, hi, hz0, hz1, hz2⟩ := info_parts infoB
  have HC := Lib.hid (check_any B b bs w h)
  clear h
  go_enter Tryd.func14, Tryd.ntmps14
  go_wp2_with fail
  refine HC.out.mono ?_
  rintro e w1 ⟨rfl, ⟨hB, v, hbk, hown, hne⟩, hb1, hkp⟩
  have HKP := Lib.hid hkp
  clear hkp
  have c1 : w1.cell? ⟨b, 1, none⟩ = some v := by rw [Lib.cell_of_heap hbk]; rfl
  have HN := Lib.hid (And.intro hbk (And.intro hne (And.intro hb1 hB)))
  clear hbk hne hb1 HC
  go_wp2_with (at_builtin; refine Lib.wpList_append_own_string _ rfl _ _ 35 9 rfl B 5 i0 Tryd.underlying35 Tryd.underlying9 hi hz0 hz1 hz2 _ _ _ rfl hown s rfl ?c3 ?c4 ?c5 ?_)
  case c3 => unfold maxLen; omega
  case c4 => omega
  case c5 => have := HN.out.2.2.1.size; omega
  intro v' w2 hown' hgrow _
  have hb2 := bd_grown HN.out.1 HN.out.2.1 hgrow (heap_lt HN.out.1)
  have d1 : w2.cell? ⟨b, 1, none⟩ = some v := by rw [Lib.cell_of_heap hb2]; rfl
  have f1 : w2.frozen? ⟨b, 1, none⟩ = false := Lib.frozen_of_heap hb2 1
  obtain ⟨ao, n', cap, rfl⟩ : ∃ ao n' cap, v' = .slice ao n' cap := by
    rcases hown'.2 with ⟨hv, _⟩ | ⟨g, cap, cur, hv, _⟩
    · exact ⟨_, _, _, hv⟩
    · exact ⟨_, _, _, hv⟩
  have H2 := Lib.hid (And.intro hb2 (And.intro hown' hgrow))
  have HO := Lib.hid hown
  clear hb2 hown' hgrow c1 hown
  go_wp2_with fail
  go_ret2
  refine ⟨rfl, Lib.BuilderAt.put (T := 37) (e := 5) HN.out.2.2.2 H2.out.1 (bs' := bs ++ Lib.strCells s) (by simpa [Lib.strCells_length] using H2.out.2.1) (by decide), ?_, HKP.out.trans ((Kp.of_grown HO.out H2.out.2.2).trans (Kp.set_ H2.out.1 _))⟩
  exact (HN.out.2.2.1.grown H2.out.2.2 (by have := HN.out.2.2.1.size; omega) (fun k hk => (HO.out.lt k hk).1)).setCell (p := ⟨b, 1, none⟩) HN.out.2.2.2 _
set_option maxRecDepth 100000 in
set_option maxHeartbeats 1000000 in
/-- A number's digits. -/
theorem fmt_any (n : Int) (h0 : -9223372036854775808 ≤ n) (h1 : n ≤ 9223372036854775807) (w : World) (htab : Lib.TabIs Tryd.prog w "internal/strconv.uint64pow10" .u64 Lib.pow10Tab) :
    Calls Tryd.prog 15 #[.int .i64 n, .int .i64 10] w fun e w' => e = .returned (.string ⟨(Lib.itoa n).toArray⟩) ∧ ∃ k os, w' = Sort.grow (w.drewN k) os := by
  have HF := Lib.hid (Tryd.internal_strconv_FormatInt_10 n h0 h1 w htab)
  clear htab
  go_enter Tryd.func15, Tryd.ntmps15
  go_wp2_with fail
  refine HF.out.mono ?_
  rintro e w' ⟨rfl, hw⟩
  have HW := Lib.hid hw
  clear hw
  go_wp2_with fail
  go_ret
  exact ⟨rfl, HW.out⟩
end Go.Proofs.YtlfkiaphmifelaaDoor
