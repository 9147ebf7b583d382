/- Contract of Put. -/
import Derived.RegionTactic
import Derived.BigRegion
import Derived.WalkArith
import Derived.Deep.QuietTactic
import Derived.BigQuiet
import Derived.Test.YtnipmhidiiondaaDrp
namespace Go.Proofs.Ytnipmhidiiondaa
open Go.RowKit Go.Maps

set_option maxHeartbeats 4000000 in
theorem put_same (g : Nat) (A : Abs) (p : Pls) (s : ByteArray) (v u : Int) (w : World) (h : CRep w g A p) (hs : s.size ≤ maxLen) (hn : lk A.L s = some u) :
    Calls Try.prog 9 #[.pointer (some ⟨g, 0, none⟩), .string s, .int .i64 v] w fun e w' => e = .returned (.tuple #[.string ⟨#[]⟩, .bool false]) ∧ KeepsA w g p { A with L := (s, v) :: rm A.L s } w' := by
  obtain ⟨gm, gc, cap, fv⟩ := p
  obtain ⟨S, q, hh⟩ := h
  have hl := hh.inv.lookup s
  rw [hn] at hl
  obtain ⟨i, hf⟩ : ∃ i, S.f s = some i := by cases hf : S.f s with | none => rw [hf] at hl; cases hl | some i => exact ⟨i, rfl⟩
  obtain ⟨hi, hnm⟩ := (hh.inv.fnd s i).1 hf
  obtain ⟨q1, _, _, _, _, _⟩ := hh.inv.places hi
  obtain ⟨D, hD, hsz, hdf⟩ := hh.rep.map
  have hat0 := (hdf s).2
  have hhas := (hdf s).1
  rw [hf] at hat0 hhas
  simp only [Option.getD_some, Option.isSome_some] at hat0 hhas
  have HD := Lib.hid (And.intro hD (And.intro hat0 hhas))
  have hlen : ∀ n ty, (Builtin.len_ #[51] ty #[.map (some gm)]).run Try.prog (w.drewN n) = .ok (.int .i64 (S.m : Nat)) (w.drewN n) := fun n ty => by
    have hx : (w.drewN n).ownsMap Try.prog 9 (plainElem Try.prog 3) gm S.m D := hD.kept (only_drewN (World.grownBy.refl w none) n) (by simp)
    have := hx.len Try.underlying51 ty
    rw [hsz] at this; exact this
  have HLEN := Lib.hid hlen
  clear hat0 hhas hdf hsz hD hlen
  have HRM := Lib.hid (room_any g S ⟨gm, gc, cap, fv⟩ w hh.rep)
  have hr0 : ((S.room : Int) == 0) = false := by rw [beq_eq_false_iff_ne]; have := hh.inv.room1; omega
  have k1 : w.cell? ⟨g, 1, none⟩ = some (.map (some gm)) := hh.rep.top.cell 1
  have k0 : w.cell? ⟨g, 0, none⟩ = some (.int .i64 (S.room : Nat)) := hh.rep.top.cell 0
  obtain ⟨n, hnn⟩ : ∃ n, n = S.cs.length := ⟨_, rfl⟩
  have hin : (i : Int) < (n : Int) := by omega
  have hi0 : (0 : Int) ≤ (i : Int) := by omega
  have hn1 : n ≤ 4097 := by rw [hnn]; exact hh.inv.few
  have k2 : w.cell? ⟨g, 2, none⟩ = some (.slice (some ⟨gc, 0, none⟩) n cap) := by rw [hnn]; exact hh.rep.top.cell 2
  have d1 : w.cell? ⟨gc, i * 4 + 1, none⟩ = some (.int .i64 (vl S.cs i)) := hh.rep.cell (i := i) (j := 1) q1 rfl
  have f1 : w.frozen? ⟨gc, i * 4 + 1, none⟩ = false := hh.rep.frz _
  have hiv := hh.inv.value hf v
  obtain ⟨t1, t2, t3, t4, _, _⟩ := hiv.places hi
  obtain ⟨hR1, hC1⟩ : Rep (w.setCell ⟨gc, i * 4 + 1, none⟩ (.int .i64 v)) g { S with cs := setV S.cs i v } ⟨gm, gc, cap, fv⟩ ∧ Chg (Own g ⟨gm, gc, cap, fv⟩) w (w.setCell ⟨gc, i * 4 + 1, none⟩ (.int .i64 v)) := hh.rep.put (i := i) (j := 1) q1 (by omega) rfl
  have HT := Lib.hid (touch_any g { S with cs := setV S.cs i v } ⟨gm, gc, cap, fv⟩ i _ hR1 t1 t2 t3 t4 (Nat.le_trans hiv.few (by omega)))
  obtain ⟨q', hi2⟩ := hiv.touch (S := { S with cs := setV S.cs i v }) (s := s) (i := i) hf
  rw [rm_value, show vl ({ S with cs := setV S.cs i v } : Sta).cs i = v from by show vl (setV S.cs i v) i = v; rw [vl_setV q1, if_pos rfl]] at hi2
  have HI2 := Lib.hid hi2
  have HC1 := Lib.hid hC1
  have HH := Lib.hid hh
  have HS := Lib.hid hs
  clear hh hl hn hf hs hi hnm q1 hnn hiv t1 t2 t3 t4 hR1 hC1 hi2
  go_enter Try.func9, Try.ntmps9
  go_wp2_with fail
  refine HRM.out.mono ?_
  rintro e w1 ⟨rfl, hw1⟩
  rw [hw1]
  clear hw1 w1
  go_wp2_with (at_lookup; refine wpList_lookup_own_ok_int _ rfl (.tmp 18) (.tmp 19) 51 rfl 9 3 .i64 law9 Try.underlying51 Try.underlying3 (zero3 _) gm S.m D rfl HD.out.1 (.string s) (kd s) rfl (key9 HS.out) ?_; intro c hat _; have hcj : c = ((i : Nat) : Int) := lit_int (hat.symm.trans HD.out.2.1); subst hcj; rw [HD.out.2.2]; clear hat)
  refine HT.out.mono ?_
  rintro e w2 ⟨rfl, hr2, hc2⟩
  have HR2 := Lib.hid hr2
  have HC2 := Lib.hid (HC1.out.trans hc2)
  clear hr2 hc2
  go_wp2_with fail
  go_ret2
  exact ⟨rfl, ⟨gm, gc, cap, fv⟩, ⟨_, q', HR2.out, HI2.out, HH.out.room, HH.out.hits, HH.out.misses⟩, HC2.out, fun b hb => .inl hb⟩

set_option maxHeartbeats 4000000 in
theorem put_less (g : Nat) (A : Abs) (p : Pls) (s : ByteArray) (v : Int) (w : World) (h : CRep w g A p) (hs : s.size ≤ maxLen) (hn : lk A.L s = none) (hlt : A.L.length < A.room) :
    Calls Try.prog 9 #[.pointer (some ⟨g, 0, none⟩), .string s, .int .i64 v] w fun e w' => e = .returned (.tuple #[.string ⟨#[]⟩, .bool false]) ∧ KeepsA w g p { A with L := (s, v) :: A.L } w' := by
  obtain ⟨gm, gc, cap, fv⟩ := p
  obtain ⟨S, q, hh⟩ := h
  have hl := hh.inv.lookup s
  rw [hn] at hl
  have hf : S.f s = none := by cases hf : S.f s with | none => rfl | some i => rw [hf] at hl; cases hl
  obtain ⟨D, hD, hsz, hdf⟩ := hh.rep.map
  have hat0 := (hdf s).2
  have hhas := (hdf s).1
  rw [hf] at hat0 hhas
  simp only [Option.getD_none, Option.isSome_none] at hat0 hhas
  have HD := Lib.hid (And.intro hD (And.intro hat0 hhas))
  have hlen : ∀ n ty, (Builtin.len_ #[51] ty #[.map (some gm)]).run Try.prog (w.drewN n) = .ok (.int .i64 (S.m : Nat)) (w.drewN n) := fun n ty => by
    have hx : (w.drewN n).ownsMap Try.prog 9 (plainElem Try.prog 3) gm S.m D := hD.kept (only_drewN (World.grownBy.refl w none) n) (by simp)
    have := hx.len Try.underlying51 ty
    rw [hsz] at this; exact this
  have HLEN := Lib.hid hlen
  clear hat0 hhas hdf hsz hD hlen
  have HRM := Lib.hid (room_any g S ⟨gm, gc, cap, fv⟩ w hh.rep)
  have hr0 : ((S.room : Int) == 0) = false := by rw [beq_eq_false_iff_ne]; have := hh.inv.room1; omega
  have k1 : w.cell? ⟨g, 1, none⟩ = some (.map (some gm)) := hh.rep.top.cell 1
  have k0 : w.cell? ⟨g, 0, none⟩ = some (.int .i64 (S.room : Nat)) := hh.rep.top.cell 0
  have hfit : S.m + 1 ≤ S.room := by have := hh.inv.m; have := hh.room; omega
  have hmr : ((S.m : Int) == (S.room : Int)) = false := by rw [beq_eq_false_iff_ne]; omega
  have hm4 : S.m ≤ 4096 := by have := hh.inv.room2; omega
  have HS := Lib.hid hs
  have hfew := hh.inv.few
  have HF1 : Hid ((if (S.f s).isSome then S.m else S.m + 1) = S.m + 1) := by rw [hf]; exact rfl
  have HH := Lib.hid hh
  rcases hflc : S.fl.reverse with _ | ⟨i, lr⟩
  · have hfl : S.fl = [] := by simpa using hflc
    obtain ⟨hnx, hinv⟩ := hh.inv.add_new hfl v hs hf hfit
    have HPL := Lib.hid (fun n => place_new g S ⟨gm, gc, cap, fv⟩ (w.drewN n) (hh.rep.drewN n) hfl (by omega))
    have HINV := Lib.hid hinv
    have HNX0 := Lib.hid hnx
    obtain ⟨i, hi⟩ : ∃ i, i = S.cs.length := ⟨_, rfl⟩
    rw [← hi] at HPL HINV HNX0
    have HI := Lib.hid hi
    have hi4 : i ≤ 4097 := by omega
    clear hfl hnx hinv hh hl hn hf hs hlt hfit hflc hi hfew
    go_enter Try.func9, Try.ntmps9
    go_wp2_with fail
    refine HRM.out.mono ?_
    rintro e w1 ⟨rfl, hw1⟩
    rw [hw1]
    clear hw1 w1
    go_wp2_with (at_lookup; refine wpList_lookup_own_ok_int _ rfl (.tmp 18) (.tmp 19) 51 rfl 9 3 .i64 law9 Try.underlying51 Try.underlying3 (zero3 _) gm S.m D rfl HD.out.1 (.string s) (kd s) rfl (key9 HS.out) ?_; intro c hat _; have hcj : c = ((0 : Nat) : Int) := lit_int (hat.symm.trans HD.out.2.1); subst hcj; rw [HD.out.2.2]; clear hat)
    have hlen := HLEN.out
    go_quiet (fail)
    clear hlen
    go_wp2_with fail
    refine (HPL.out nq).mono ?_
    rintro e w1 ⟨rfl, ⟨gm1, gc1, cap1, fv1⟩, hr1, hc1, ho1⟩
    have HR1 := Lib.hid hr1
    have HCH := Lib.hid (((Chg.refl (Own g ⟨gm, gc, cap, fv⟩) w).drewN nq).trans hc1)
    have HOW : Hid (∀ b, Own g ⟨gm1, gc1, cap1, fv1⟩ b → Own g ⟨gm, gc, cap, fv⟩ b ∨ w.heap.size ≤ b) := ho1
    obtain ⟨n1, hn1⟩ : ∃ n, n = i + 1 := ⟨_, rfl⟩
    have HN1 : Hid (n1 = (S.cs ++ [Cel.zero]).length) := by rw [hn1, List.length_append, ← HI.out]; rfl
    have HNX : Hid (nx (setV (setM (S.cs ++ [Cel.zero]) i s) i v) 0 < (S.cs ++ [Cel.zero]).length) := by rw [List.length_append, ← HI.out]; exact HNX0.out
    have hin1 : (i : Int) < (n1 : Int) := by omega
    have hi0 : (0 : Int) ≤ (i : Int) := by omega
    have hn14 : n1 ≤ 5000 := by omega
    clear hr1 hc1 ho1 hn1 k0 k1
    go_wp2_with fail
    have hm41 : ({ S with cs := S.cs ++ [Cel.zero] } : Sta).m ≤ 4096 := by first | exact hm4 | exact hmo
    have k2 : w1.cell? ⟨g, 2, none⟩ = some (.slice (some ⟨gc1, 0, none⟩) n1 cap1) := by rw [HN1.out]; exact HR1.out.top.cell 2
    have k1 : w1.cell? ⟨g, 1, none⟩ = some (.map (some gm1)) := HR1.out.top.cell 1
    have d0 : w1.cell? ⟨gc1, i * 4, none⟩ = some (.string (nm ({ S with cs := S.cs ++ [Cel.zero] } : Sta).cs i)) := HR1.out.cell (i := i) (j := 0) (by rw [← HN1.out]; omega) rfl
    have d1 : w1.cell? ⟨gc1, i * 4 + 1, none⟩ = some (.int .i64 (vl ({ S with cs := S.cs ++ [Cel.zero] } : Sta).cs i)) := HR1.out.cell (i := i) (j := 1) (by rw [← HN1.out]; omega) rfl
    have f0 : w1.frozen? ⟨gc1, i * 4, none⟩ = false := HR1.out.frz _
    have f1 : w1.frozen? ⟨gc1, i * 4 + 1, none⟩ = false := HR1.out.frz _
    have hgc : ¬ gc1 = g := HR1.out.gc_ne
    obtain ⟨HP1, HK1⟩ : Rep (w1.setCell ⟨gc1, i * 4, none⟩ (.string s)) g { ({ S with cs := S.cs ++ [Cel.zero] } : Sta) with cs := setM ({ S with cs := S.cs ++ [Cel.zero] } : Sta).cs i s } ⟨gm1, gc1, cap1, fv1⟩ ∧ Chg (Own g ⟨gm1, gc1, cap1, fv1⟩) w1 (w1.setCell ⟨gc1, i * 4, none⟩ (.string s)) := HR1.out.put (i := i) (j := 0) (by rw [← HN1.out]; omega) (by omega) rfl
    obtain ⟨HP2, HK2⟩ : Rep ((w1.setCell ⟨gc1, i * 4, none⟩ (.string s)).setCell ⟨gc1, i * 4 + 1, none⟩ (.int .i64 v)) g { ({ S with cs := S.cs ++ [Cel.zero] } : Sta) with cs := setV (setM ({ S with cs := S.cs ++ [Cel.zero] } : Sta).cs i s) i v } ⟨gm1, gc1, cap1, fv1⟩ ∧ Chg (Own g ⟨gm1, gc1, cap1, fv1⟩) (w1.setCell ⟨gc1, i * 4, none⟩ (.string s)) ((w1.setCell ⟨gc1, i * 4, none⟩ (.string s)).setCell ⟨gc1, i * 4 + 1, none⟩ (.int .i64 v)) := HP1.put (i := i) (j := 1) (by show i < (setM ({ S with cs := S.cs ++ [Cel.zero] } : Sta).cs i s).length; rw [len_setM, ← HN1.out]; omega) (by omega) rfl
    have HR2 := Lib.hid HP2.drew
    have HC2 := Lib.hid (HCH.out.step (HK1.trans HK2).drew HOW.out)
    clear HP1 HK1 HP2 HK2
    go_region
    clear k1 k2 d0 d1 f0 f1
    generalize ((w1.setCell ⟨gc1, i * 4, none⟩ (.string s)).setCell ⟨gc1, i * 4 + 1, none⟩ (.int .i64 v)).drew = w2 at *
    have k1 : w2.cell? ⟨g, 1, none⟩ = some (.map (some gm1)) := HR2.out.top.cell 1
    obtain ⟨D1, hD1, hsz1, hdf1⟩ := HR2.out.map
    have HD1 := Lib.hid (And.intro hD1 (And.intro hsz1 hdf1))
    clear hD1 hsz1 hdf1
    go_wp2_with (at_mapUpdate; refine wpList_mapUpdate_in _ rfl (.tmp 68) (.tmp 69) (.tmp 70) 51 rfl 9 3 law9 Try.underlying51 (plainElem Try.prog 3) gm1 ({ S with cs := S.cs ++ [Cel.zero] } : Sta).m D1 rfl HD1.out.1 (Nat.lt_of_le_of_lt hm41 (by decide)) (.string s) (.int .i64 (i : Nat)) (kd s) rfl rfl (key9 HS.out) (.lit (.int .i64 (i : Nat))) [] (plainElem_int Try.underlying3 (WalkArith.wf_i64 (by omega))) ?_; intro w3 ho3 ht3; obtain ⟨hr3, hc3⟩ := HR2.out.newMap ht3.grown (MapR.put HS.out ho3 HD1.out.1 HD1.out.2.1 HD1.out.2.2); have HR3 := Lib.hid hr3; have HC3 := Lib.hid (HC2.out.step hc3 HOW.out); clear ho3 ht3 hr3 hc3)
    have HFS := Lib.hid (first_any g { ({ S with cs := S.cs ++ [Cel.zero] } : Sta) with cs := setV (setM ({ S with cs := S.cs ++ [Cel.zero] } : Sta).cs i s) i v, f := fput ({ S with cs := S.cs ++ [Cel.zero] } : Sta).f s i, m := ({ S with cs := S.cs ++ [Cel.zero] } : Sta).m + 1 } ⟨gm1, gc1, cap1, fv1⟩ i w3 (by have h := HR3.out; rw [HF1.out] at h; exact h) (by show i < (setV (setM ({ S with cs := S.cs ++ [Cel.zero] } : Sta).cs i s) i v).length; rw [len_setV, len_setM, ← HN1.out]; omega) (by show nx (setV (setM ({ S with cs := S.cs ++ [Cel.zero] } : Sta).cs i s) i v) 0 < (setV (setM ({ S with cs := S.cs ++ [Cel.zero] } : Sta).cs i s) i v).length; rw [len_setV, len_setM]; exact HNX.out) (by show (setV (setM ({ S with cs := S.cs ++ [Cel.zero] } : Sta).cs i s) i v).length ≤ 100000; rw [len_setV, len_setM, ← HN1.out]; omega))
    refine HFS.out.mono ?_
    rintro e w4 ⟨rfl, hr4, hc4⟩
    have HR4 := Lib.hid hr4
    have HC4 := Lib.hid (HC3.out.step hc4 HOW.out)
    clear hr4 hc4
    go_wp2_with fail
    go_ret2
    exact ⟨rfl, ⟨gm1, gc1, cap1, fv1⟩, ⟨_, _, HR4.out, HINV.out, HH.out.room, HH.out.hits, HH.out.misses⟩, HC4.out, HOW.out⟩
  · have hfl : S.fl = lr.reverse ++ [i] := by have := congrArg List.reverse hflc; simpa using this
    obtain ⟨hil, hnx, hinv⟩ := hh.inv.add_free hfl v hs hf hfit
    have hl4 : lr.reverse.length ≤ 100000 := by have h1 := hh.inv.all; have h2 := congrArg List.length hfl; simp at h2 ⊢; omega
    have HPL := Lib.hid (fun n => place_free g S ⟨gm, gc, cap, fv⟩ lr.reverse i (w.drewN n) (hh.rep.drewN n) hfl hl4)
    have HINV := Lib.hid hinv
    have HNX := Lib.hid hnx
    obtain ⟨n1, hn1⟩ : ∃ n, n = S.cs.length := ⟨_, rfl⟩
    have HN1 := Lib.hid hn1
    have hin1 : (i : Int) < (n1 : Int) := by omega
    have hi0 : (0 : Int) ≤ (i : Int) := by omega
    have hn14 : n1 ≤ 5000 := by omega
    clear hfl hil hnx hinv hh hl hn hf hs hlt hfit hflc hn1 hl4 hfew
    go_enter Try.func9, Try.ntmps9
    go_wp2_with fail
    refine HRM.out.mono ?_
    rintro e w1 ⟨rfl, hw1⟩
    rw [hw1]
    clear hw1 w1
    go_wp2_with (at_lookup; refine wpList_lookup_own_ok_int _ rfl (.tmp 18) (.tmp 19) 51 rfl 9 3 .i64 law9 Try.underlying51 Try.underlying3 (zero3 _) gm S.m D rfl HD.out.1 (.string s) (kd s) rfl (key9 HS.out) ?_; intro c hat _; have hcj : c = ((0 : Nat) : Int) := lit_int (hat.symm.trans HD.out.2.1); subst hcj; rw [HD.out.2.2]; clear hat)
    have hlen := HLEN.out
    go_quiet (fail)
    clear hlen
    go_wp2_with fail
    refine (HPL.out nq).mono ?_
    rintro e w1 ⟨rfl, ⟨gm1, gc1, cap1, fv1⟩, hr1, hc1, ho1⟩
    have HR1 := Lib.hid hr1
    have HCH := Lib.hid (((Chg.refl (Own g ⟨gm, gc, cap, fv⟩) w).drewN nq).trans hc1)
    have HOW : Hid (∀ b, Own g ⟨gm1, gc1, cap1, fv1⟩ b → Own g ⟨gm, gc, cap, fv⟩ b ∨ w.heap.size ≤ b) := ho1
    clear hr1 hc1 ho1 k0 k1
    go_wp2_with fail
    have hm41 : ({ S with fl := lr.reverse } : Sta).m ≤ 4096 := by first | exact hm4 | exact hmo
    have k2 : w1.cell? ⟨g, 2, none⟩ = some (.slice (some ⟨gc1, 0, none⟩) n1 cap1) := by rw [HN1.out]; exact HR1.out.top.cell 2
    have k1 : w1.cell? ⟨g, 1, none⟩ = some (.map (some gm1)) := HR1.out.top.cell 1
    have d0 : w1.cell? ⟨gc1, i * 4, none⟩ = some (.string (nm ({ S with fl := lr.reverse } : Sta).cs i)) := HR1.out.cell (i := i) (j := 0) (by rw [← HN1.out]; omega) rfl
    have d1 : w1.cell? ⟨gc1, i * 4 + 1, none⟩ = some (.int .i64 (vl ({ S with fl := lr.reverse } : Sta).cs i)) := HR1.out.cell (i := i) (j := 1) (by rw [← HN1.out]; omega) rfl
    have f0 : w1.frozen? ⟨gc1, i * 4, none⟩ = false := HR1.out.frz _
    have f1 : w1.frozen? ⟨gc1, i * 4 + 1, none⟩ = false := HR1.out.frz _
    have hgc : ¬ gc1 = g := HR1.out.gc_ne
    obtain ⟨HP1, HK1⟩ : Rep (w1.setCell ⟨gc1, i * 4, none⟩ (.string s)) g { ({ S with fl := lr.reverse } : Sta) with cs := setM ({ S with fl := lr.reverse } : Sta).cs i s } ⟨gm1, gc1, cap1, fv1⟩ ∧ Chg (Own g ⟨gm1, gc1, cap1, fv1⟩) w1 (w1.setCell ⟨gc1, i * 4, none⟩ (.string s)) := HR1.out.put (i := i) (j := 0) (by rw [← HN1.out]; omega) (by omega) rfl
    obtain ⟨HP2, HK2⟩ : Rep ((w1.setCell ⟨gc1, i * 4, none⟩ (.string s)).setCell ⟨gc1, i * 4 + 1, none⟩ (.int .i64 v)) g { ({ S with fl := lr.reverse } : Sta) with cs := setV (setM ({ S with fl := lr.reverse } : Sta).cs i s) i v } ⟨gm1, gc1, cap1, fv1⟩ ∧ Chg (Own g ⟨gm1, gc1, cap1, fv1⟩) (w1.setCell ⟨gc1, i * 4, none⟩ (.string s)) ((w1.setCell ⟨gc1, i * 4, none⟩ (.string s)).setCell ⟨gc1, i * 4 + 1, none⟩ (.int .i64 v)) := HP1.put (i := i) (j := 1) (by show i < (setM ({ S with fl := lr.reverse } : Sta).cs i s).length; rw [len_setM, ← HN1.out]; omega) (by omega) rfl
    have HR2 := Lib.hid HP2.drew
    have HC2 := Lib.hid (HCH.out.step (HK1.trans HK2).drew HOW.out)
    clear HP1 HK1 HP2 HK2
    go_region
    clear k1 k2 d0 d1 f0 f1
    generalize ((w1.setCell ⟨gc1, i * 4, none⟩ (.string s)).setCell ⟨gc1, i * 4 + 1, none⟩ (.int .i64 v)).drew = w2 at *
    have k1 : w2.cell? ⟨g, 1, none⟩ = some (.map (some gm1)) := HR2.out.top.cell 1
    obtain ⟨D1, hD1, hsz1, hdf1⟩ := HR2.out.map
    have HD1 := Lib.hid (And.intro hD1 (And.intro hsz1 hdf1))
    clear hD1 hsz1 hdf1
    go_wp2_with (at_mapUpdate; refine wpList_mapUpdate_in _ rfl (.tmp 68) (.tmp 69) (.tmp 70) 51 rfl 9 3 law9 Try.underlying51 (plainElem Try.prog 3) gm1 ({ S with fl := lr.reverse } : Sta).m D1 rfl HD1.out.1 (Nat.lt_of_le_of_lt hm41 (by decide)) (.string s) (.int .i64 (i : Nat)) (kd s) rfl rfl (key9 HS.out) (.lit (.int .i64 (i : Nat))) [] (plainElem_int Try.underlying3 (WalkArith.wf_i64 (by omega))) ?_; intro w3 ho3 ht3; obtain ⟨hr3, hc3⟩ := HR2.out.newMap ht3.grown (MapR.put HS.out ho3 HD1.out.1 HD1.out.2.1 HD1.out.2.2); have HR3 := Lib.hid hr3; have HC3 := Lib.hid (HC2.out.step hc3 HOW.out); clear ho3 ht3 hr3 hc3)
    have HFS := Lib.hid (first_any g { ({ S with fl := lr.reverse } : Sta) with cs := setV (setM ({ S with fl := lr.reverse } : Sta).cs i s) i v, f := fput ({ S with fl := lr.reverse } : Sta).f s i, m := ({ S with fl := lr.reverse } : Sta).m + 1 } ⟨gm1, gc1, cap1, fv1⟩ i w3 (by have h := HR3.out; rw [HF1.out] at h; exact h) (by show i < (setV (setM ({ S with fl := lr.reverse } : Sta).cs i s) i v).length; rw [len_setV, len_setM, ← HN1.out]; omega) (by show nx (setV (setM ({ S with fl := lr.reverse } : Sta).cs i s) i v) 0 < (setV (setM ({ S with fl := lr.reverse } : Sta).cs i s) i v).length; rw [len_setV, len_setM]; exact HNX.out) (by show (setV (setM ({ S with fl := lr.reverse } : Sta).cs i s) i v).length ≤ 100000; rw [len_setV, len_setM, ← HN1.out]; omega))
    refine HFS.out.mono ?_
    rintro e w4 ⟨rfl, hr4, hc4⟩
    have HR4 := Lib.hid hr4
    have HC4 := Lib.hid (HC3.out.step hc4 HOW.out)
    clear hr4 hc4
    go_wp2_with fail
    go_ret2
    exact ⟨rfl, ⟨gm1, gc1, cap1, fv1⟩, ⟨_, _, HR4.out, HINV.out, HH.out.room, HH.out.hits, HH.out.misses⟩, HC4.out, HOW.out⟩

set_option maxHeartbeats 4000000 in
theorem put_full (g : Nat) (A : Abs) (p : Pls) (s : ByteArray) (v : Int) (x : Ent) (w : World) (h : CRep w g A p) (hs : s.size ≤ maxLen) (hn : lk A.L s = none) (hlt : A.L.length = A.room) (hx : A.L.getLast? = some x) :
    Calls Try.prog 9 #[.pointer (some ⟨g, 0, none⟩), .string s, .int .i64 v] w fun e w' => e = .returned (.tuple #[.string x.1, .bool true]) ∧ KeepsA w g p { A with L := (s, v) :: A.L.dropLast } w' := by
  obtain ⟨gm, gc, cap, fv⟩ := p
  obtain ⟨S, q, hh⟩ := h
  have hl := hh.inv.lookup s
  rw [hn] at hl
  have hf : S.f s = none := by cases hf : S.f s with | none => rfl | some i => rw [hf] at hl; cases hl
  obtain ⟨D, hD, hsz, hdf⟩ := hh.rep.map
  have hat0 := (hdf s).2
  have hhas := (hdf s).1
  rw [hf] at hat0 hhas
  simp only [Option.getD_none, Option.isSome_none] at hat0 hhas
  have HD := Lib.hid (And.intro hD (And.intro hat0 hhas))
  have hlen : ∀ n ty, (Builtin.len_ #[51] ty #[.map (some gm)]).run Try.prog (w.drewN n) = .ok (.int .i64 (S.m : Nat)) (w.drewN n) := fun n ty => by
    have hx : (w.drewN n).ownsMap Try.prog 9 (plainElem Try.prog 3) gm S.m D := hD.kept (only_drewN (World.grownBy.refl w none) n) (by simp)
    have := hx.len Try.underlying51 ty
    rw [hsz] at this; exact this
  have HLEN := Lib.hid hlen
  clear hat0 hhas hdf hsz hD hlen
  have HRM := Lib.hid (room_any g S ⟨gm, gc, cap, fv⟩ w hh.rep)
  have hr0 : ((S.room : Int) == 0) = false := by rw [beq_eq_false_iff_ne]; have := hh.inv.room1; omega
  have k1 : w.cell? ⟨g, 1, none⟩ = some (.map (some gm)) := hh.rep.top.cell 1
  have k0 : w.cell? ⟨g, 0, none⟩ = some (.int .i64 (S.room : Nat)) := hh.rep.top.cell 0
  have hmr : ((S.m : Int) == (S.room : Int)) = true := by rw [beq_iff_eq]; have := hh.inv.m; have := hh.room; omega
  have hm4 : S.m ≤ 4096 := by have := hh.inv.room2; have := hh.inv.fit; omega
  have HS := Lib.hid hs
  have hfew := hh.inv.few
  have HH := Lib.hid hh
  have hL0 : A.L ≠ [] := by intro h0; rw [h0] at hlt; have := hh.inv.room1; have := hh.room; simp at hlt; omega
  obtain ⟨i, hip, hi0a, hrm, hlast⟩ := hh.inv.last hL0
  rw [hx] at hlast
  obtain rfl : x = ent S.cs i := Option.some.inj hlast
  obtain ⟨q1, q2, q3, q4, q5, q6⟩ := hh.inv.places hip
  have hfl4 : S.fl.length ≤ 100000 := by have := hh.inv.all; omega
  have HEL := Lib.hid (fun n => eldest_any g S ⟨gm, gc, cap, fv⟩ i (w.drewN n) (hh.rep.drewN n) hi0a q1 q2 q3 q5 (by omega) hfl4)
  obtain ⟨q', hi2⟩ := hh.inv.out hip
  rw [hrm] at hi2
  have hm2 : (outS S i).m = A.L.length - 1 := by rw [hi2.m]; simp
  have hfit2 : (outS S i).m + 1 ≤ (outS S i).room := by show (outS S i).m + 1 ≤ S.room; have := hh.room; have := hh.inv.room1; omega
  have hf2 : (outS S i).f s = none := by show fdel S.f (nm S.cs i) s = none; unfold fdel; split; rfl; exact hf
  obtain ⟨hil, hnx, hinv⟩ := hi2.add_free (l := S.fl) (i := i) rfl v hs hf2 hfit2
  have HINV := Lib.hid hinv
  have HNX := Lib.hid hnx
  have HF1 : Hid ((if ((outS S i).f s).isSome then (outS S i).m else (outS S i).m + 1) = (outS S i).m + 1) := by rw [hf2]; exact rfl
  have hn1 : (outS S i).cs.length = S.cs.length := by show ((cutC S.cs i).set i Cel.zero).length = _; rw [List.length_set, len_cutC]
  obtain ⟨n1, hn1b⟩ : ∃ n, n = (outS S i).cs.length := ⟨_, rfl⟩
  have HN1 := Lib.hid hn1b
  have hin1 : (i : Int) < (n1 : Int) := by omega
  have hi0 : (0 : Int) ≤ (i : Int) := by omega
  have hn14 : n1 ≤ 5000 := by omega
  have hmo : (outS S i).m ≤ 4096 := by have := hi2.fit; have := hi2.room2; omega
  have HPL := Lib.hid (fun W p' (hr : Rep W g (outS S i) p') => place_free g (outS S i) p' S.fl i W hr rfl hfl4)
  obtain ⟨xn, hxn⟩ : ∃ z, z = nm S.cs i := ⟨_, rfl⟩
  rw [← hxn] at HEL
  show Calls _ _ _ _ (fun e w' => e = .returned (.tuple #[.string (nm S.cs i), .bool true]) ∧ _)
  rw [← hxn]
  clear hh hl hn hf hs hlt hL0 hip hi0a hrm hlast hx q1 q2 q3 q4 q5 q6 hi2 hm2 hfit2 hf2 hil hnx hinv hn1 hn1b hfew hfl4 hxn
  go_enter Try.func9, Try.ntmps9
  go_wp2_with fail
  refine HRM.out.mono ?_
  rintro e w1 ⟨rfl, hw1⟩
  rw [hw1]
  clear hw1 w1
  go_wp2_with (at_lookup; refine wpList_lookup_own_ok_int _ rfl (.tmp 18) (.tmp 19) 51 rfl 9 3 .i64 law9 Try.underlying51 Try.underlying3 (zero3 _) gm S.m D rfl HD.out.1 (.string s) (kd s) rfl (key9 HS.out) ?_; intro c hat _; have hcj : c = ((0 : Nat) : Int) := lit_int (hat.symm.trans HD.out.2.1); subst hcj; rw [HD.out.2.2]; clear hat)
  have hlen := HLEN.out
  go_quiet (fail)
  clear hlen
  go_wp2_with fail
  refine (HEL.out nq).mono ?_
  rintro e w0 ⟨rfl, p0, hr0, hc0, ho0⟩
  have HR0 := Lib.hid hr0
  have HC0 := Lib.hid (((Chg.refl (Own g ⟨gm, gc, cap, fv⟩) w).drewN nq).trans hc0)
  have HO0 : Hid (∀ b, Own g p0 b → Own g ⟨gm, gc, cap, fv⟩ b ∨ w.heap.size ≤ b) := ho0
  clear hr0 hc0 ho0
  go_wp2_with fail
  refine (HPL.out w0 p0 HR0.out).mono ?_
  rintro e w1 ⟨rfl, ⟨gm1, gc1, cap1, fv1⟩, hr1, hc1, ho1⟩
  have HR1 := Lib.hid hr1
  have HCH := Lib.hid (HC0.out.step hc1 HO0.out)
  have HOW : Hid (∀ b, Own g ⟨gm1, gc1, cap1, fv1⟩ b → Own g ⟨gm, gc, cap, fv⟩ b ∨ w.heap.size ≤ b) := fun b hb => (ho1 b hb).elim (HO0.out b) (fun h => .inr (Nat.le_trans HC0.out.size h))
  clear hr1 hc1 ho1 k0 k1
  go_wp2_with fail
  have hm41 : ({ outS S i with fl := S.fl } : Sta).m ≤ 4096 := by first | exact hm4 | exact hmo
  have k2 : w1.cell? ⟨g, 2, none⟩ = some (.slice (some ⟨gc1, 0, none⟩) n1 cap1) := by rw [HN1.out]; exact HR1.out.top.cell 2
  have k1 : w1.cell? ⟨g, 1, none⟩ = some (.map (some gm1)) := HR1.out.top.cell 1
  have d0 : w1.cell? ⟨gc1, i * 4, none⟩ = some (.string (nm ({ outS S i with fl := S.fl } : Sta).cs i)) := HR1.out.cell (i := i) (j := 0) (by rw [← HN1.out]; omega) rfl
  have d1 : w1.cell? ⟨gc1, i * 4 + 1, none⟩ = some (.int .i64 (vl ({ outS S i with fl := S.fl } : Sta).cs i)) := HR1.out.cell (i := i) (j := 1) (by rw [← HN1.out]; omega) rfl
  have f0 : w1.frozen? ⟨gc1, i * 4, none⟩ = false := HR1.out.frz _
  have f1 : w1.frozen? ⟨gc1, i * 4 + 1, none⟩ = false := HR1.out.frz _
  have hgc : ¬ gc1 = g := HR1.out.gc_ne
  obtain ⟨HP1, HK1⟩ : Rep (w1.setCell ⟨gc1, i * 4, none⟩ (.string s)) g { ({ outS S i with fl := S.fl } : Sta) with cs := setM ({ outS S i with fl := S.fl } : Sta).cs i s } ⟨gm1, gc1, cap1, fv1⟩ ∧ Chg (Own g ⟨gm1, gc1, cap1, fv1⟩) w1 (w1.setCell ⟨gc1, i * 4, none⟩ (.string s)) := HR1.out.put (i := i) (j := 0) (by rw [← HN1.out]; omega) (by omega) rfl
  obtain ⟨HP2, HK2⟩ : Rep ((w1.setCell ⟨gc1, i * 4, none⟩ (.string s)).setCell ⟨gc1, i * 4 + 1, none⟩ (.int .i64 v)) g { ({ outS S i with fl := S.fl } : Sta) with cs := setV (setM ({ outS S i with fl := S.fl } : Sta).cs i s) i v } ⟨gm1, gc1, cap1, fv1⟩ ∧ Chg (Own g ⟨gm1, gc1, cap1, fv1⟩) (w1.setCell ⟨gc1, i * 4, none⟩ (.string s)) ((w1.setCell ⟨gc1, i * 4, none⟩ (.string s)).setCell ⟨gc1, i * 4 + 1, none⟩ (.int .i64 v)) := HP1.put (i := i) (j := 1) (by show i < (setM ({ outS S i with fl := S.fl } : Sta).cs i s).length; rw [len_setM, ← HN1.out]; omega) (by omega) rfl
  have HR2 := Lib.hid HP2.drew
  have HC2 := Lib.hid (HCH.out.step (HK1.trans HK2).drew HOW.out)
  clear HP1 HK1 HP2 HK2
  go_region
  clear k1 k2 d0 d1 f0 f1
  generalize ((w1.setCell ⟨gc1, i * 4, none⟩ (.string s)).setCell ⟨gc1, i * 4 + 1, none⟩ (.int .i64 v)).drew = w2 at *
  have k1 : w2.cell? ⟨g, 1, none⟩ = some (.map (some gm1)) := HR2.out.top.cell 1
  obtain ⟨D1, hD1, hsz1, hdf1⟩ := HR2.out.map
  have HD1 := Lib.hid (And.intro hD1 (And.intro hsz1 hdf1))
  clear hD1 hsz1 hdf1
  go_wp2_with (at_mapUpdate; refine wpList_mapUpdate_in _ rfl (.tmp 68) (.tmp 69) (.tmp 70) 51 rfl 9 3 law9 Try.underlying51 (plainElem Try.prog 3) gm1 ({ outS S i with fl := S.fl } : Sta).m D1 rfl HD1.out.1 (Nat.lt_of_le_of_lt hm41 (by decide)) (.string s) (.int .i64 (i : Nat)) (kd s) rfl rfl (key9 HS.out) (.lit (.int .i64 (i : Nat))) [] (plainElem_int Try.underlying3 (WalkArith.wf_i64 (by omega))) ?_; intro w3 ho3 ht3; obtain ⟨hr3, hc3⟩ := HR2.out.newMap ht3.grown (MapR.put HS.out ho3 HD1.out.1 HD1.out.2.1 HD1.out.2.2); have HR3 := Lib.hid hr3; have HC3 := Lib.hid (HC2.out.step hc3 HOW.out); clear ho3 ht3 hr3 hc3)
  have HFS := Lib.hid (first_any g { ({ outS S i with fl := S.fl } : Sta) with cs := setV (setM ({ outS S i with fl := S.fl } : Sta).cs i s) i v, f := fput ({ outS S i with fl := S.fl } : Sta).f s i, m := ({ outS S i with fl := S.fl } : Sta).m + 1 } ⟨gm1, gc1, cap1, fv1⟩ i w3 (by have h := HR3.out; rw [HF1.out] at h; exact h) (by show i < (setV (setM ({ outS S i with fl := S.fl } : Sta).cs i s) i v).length; rw [len_setV, len_setM, ← HN1.out]; omega) (by show nx (setV (setM ({ outS S i with fl := S.fl } : Sta).cs i s) i v) 0 < (setV (setM ({ outS S i with fl := S.fl } : Sta).cs i s) i v).length; rw [len_setV, len_setM]; exact HNX.out) (by show (setV (setM ({ outS S i with fl := S.fl } : Sta).cs i s) i v).length ≤ 100000; rw [len_setV, len_setM, ← HN1.out]; omega))
  refine HFS.out.mono ?_
  rintro e w4 ⟨rfl, hr4, hc4⟩
  have HR4 := Lib.hid hr4
  have HC4 := Lib.hid (HC3.out.step hc4 HOW.out)
  clear hr4 hc4
  go_wp2_with fail
  go_ret2
  exact ⟨rfl, ⟨gm1, gc1, cap1, fv1⟩, ⟨_, _, HR4.out, HINV.out, HH.out.room, HH.out.hits, HH.out.misses⟩, HC4.out, HOW.out⟩
end Go.Proofs.Ytnipmhidiiondaa
