/- Contracts of the document's functions where something went wrong already: nothing more is read. And what follows from it. -/
import Derived.Deep.WholeRow
import Derived.Test.YtbcadlocldplfaaGreatMad
import Derived.Test.YtbcadlocldplfaaGreatMae
set_option linter.unusedSimpArgs false
set_option linter.unusedVariables false
namespace Go.Proofs.YtbcadlocldplfaaGreat
open Go.RowKit
theorem Sd.mono0 {w : World} {h : Nat} {L l : List Tz} {lg b M : Bool} {wk : World} (q : Nat) (hs : Sd (w.drewN q) h L lg wk l b M) : Sd w h L lg wk l b M := ⟨((Chg.refl (fun k => k = h) w).drewN q).trans hs.chg, hs.rd, hs.lt⟩
set_option maxRecDepth 100000 in
set_option maxHeartbeats 16000000 in
theorem dbad_prim {L : List Tz} (h : Nat) (l : List Tz) (lg : Bool) (w : World) (hr : StD w h L l true lg) :
    Calls Tryz.prog 91 #[gp h] w (DPost w h L lg (.bad l)) := by
  have HD : Hid (∀ q, DPost w h L lg (.bad l) (.returned (.slice none 0 0)) ((w.drewN q).setCell ⟨h, 2, none⟩ (.bool true))) := Lib.hid fun q =>
    Sd.wrong (M := false) (((Sd.start (hr.drewN q)).step (chg_self _ _ _ _) (by rw [Bool.or_false]; exact (hr.drewN q).spoil.1)).mono0 q) rfl
  have HFZ := Lib.hid (fun q => And.intro (hr.drewN q).spoil.2 (hr.drewN q).bad_cell)
  have k2 := hr.bad_cell
  clear hr
  go_enter Tryz.func91, Tryz.ntmps91
  go_wp2_with fail
  go_quiet (fail)
  have HD1 := Lib.hid (HD.out nq)
  obtain ⟨f2, k2⟩ := HFZ.out nq
  generalize w.drewN nq = wq at *
  go_wp2_with fail
  go_ret
  exact HD1.out
set_option maxRecDepth 100000 in
set_option maxHeartbeats 16000000 in
theorem dbad_pre {L : List Tz} (h : Nat) (l : List Tz) (lg : Bool) (w : World) (hr : StD w h L l true lg) :
    Calls Tryz.prog 73 #[gp h] w (DPost w h L lg (.bad l)) := by
  have HS0 : Hid (Sd w h L lg w l true false) := Lib.hid (Sd.start hr)
  obtain ⟨R, hR⟩ : ∃ R : Pr (List Tw), R = .bad l := ⟨_, rfl⟩
  have HE : Hid (R = (onB true l (.bad l)).add false) := Lib.hid (by rw [hR]; rfl)
  rw [← hR]
  clear hR hr
  go_enter Tryz.func73, Tryz.ntmps73
  have HC := Lib.hid (HS0.out.has [45])
  go_wp2_with fail
  refine HC.out.mono ?_
  rintro e w1 ⟨rfl, hs, hc⟩
  clear HC
  have HS1 : Hid (Sd w h L lg w1 l true false) := Lib.hid hs
  clear hs hc HS0
  have HC := Lib.hid (HS1.out.has [97, 119, 97, 105, 116])
  go_wp2_with fail
  refine HC.out.mono ?_
  rintro e w2 ⟨rfl, hs, hc⟩
  clear HC
  have HS2 : Hid (Sd w h L lg w2 l true false) := Lib.hid hs
  clear hs hc HS1
  have HC := Lib.hid (HS2.out.has [115, 101, 116, 116, 108, 101])
  go_wp2_with fail
  refine HC.out.mono ?_
  rintro e w3 ⟨rfl, hs, hc⟩
  clear HC
  have HS3 : Hid (Sd w h L lg w3 l true false) := Lib.hid hs
  clear hs hc HS2
  have HC := Lib.hid (HS3.out.tree (dbad_prim h l _ w3 HS3.out.rd))
  go_wp2_with fail
  refine HC.out.mono ?_
  rintro e w4 ⟨t4, l4, b4, m4, A4, n4, c4, rfl, htl, ho, hs, hc, hsy⟩
  clear HC
  obtain ⟨rfl, rfl⟩ : b4 = true ∧ l4 = l := by
    rcases hsy with ⟨e1, e2⟩ | ⟨e1, e2⟩
    · injection e2 with e2; exact ⟨e1, e2.symm⟩
    · cases e2
  obtain ⟨M4, hM⟩ : ∃ z, z = (false || m4) := ⟨_, rfl⟩
  rw [← hM] at hs
  have HT4 := Lib.hid htl
  have HO4 := Lib.hid ho
  clear hsy hM htl ho
  have HS4 : Hid (Sd w h L lg w4 l4 true M4) := Lib.hid hs
  clear hs hc HS3
  go_wp2_with fail
  go_loopw [5] (fun s5 wr => ∃ (A : Option Addr) (nn c : Nat) (t : List Tw) (M : Bool), s5 = .slice A nn c ∧ t.length ≤ 2048 ∧ Od w wr A nn c t ∧ Sd w h L lg wr l4 true M) (fun _ wr => dbud wr h)
  case atStart => exact ⟨A4, n4, c4, t4, M4, rfl, HT4.out, HO4.out, HS4.out⟩
  case round =>
    clear HS4 HO4 HT4
    obtain ⟨A, nn, c, t, M, rfl, htl, ho, hs⟩ := hrel
    have HT0 := Lib.hid htl
    have HO0 := Lib.hid ho
    have HS0 := Lib.hid hs
    clear htl ho hs
    have HC := Lib.hid (HS0.out.has [91])
    go_wp2_with fail
    refine HC.out.mono ?_
    rintro e w1 ⟨rfl, hs, hc⟩
    have HD : Hid (DPost w h L lg R (.returned (.slice A nn c)) w1) := Lib.hid ⟨t, l4, true, M, A, nn, c, rfl, HT0.out, HO0.out.chg hc HS0.out.lt, hs, .inl ⟨rfl, HE.out⟩⟩
    clear hs hc HC
    go_wp2_with fail
    go_ret
    exact HD.out
set_option maxRecDepth 100000 in
set_option maxHeartbeats 16000000 in
theorem dbad_lev7 {L : List Tz} (h : Nat) (l : List Tz) (lg : Bool) (w : World) (hr : StD w h L l true lg) :
    Calls Tryz.prog 47 #[gp h, .int .i64 7] w (DPost w h L lg (.bad l)) := by
  have HF := Lib.hid (dbad_pre h l lg w hr)
  clear hr
  go_enter Tryz.func47, Tryz.ntmps47
  go_wp2_with fail
  refine HF.out.mono ?_
  intro e w99 hp
  obtain ⟨A99, n99, c99, rfl⟩ := hp.ret
  have HP := Lib.hid hp
  clear hp HF
  go_wp2_with fail
  go_ret
  exact HP.out
set_option maxRecDepth 100000 in
set_option maxHeartbeats 16000000 in
theorem dbad_lev6 {L : List Tz} (h : Nat) (l : List Tz) (lg : Bool) (w : World) (hr : StD w h L l true lg) :
    Calls Tryz.prog 47 #[gp h, .int .i64 6] w (DPost w h L lg (.bad l)) := by
  have HS0 : Hid (Sd w h L lg w l true false) := Lib.hid (Sd.start hr)
  obtain ⟨R, hR⟩ : ∃ R : Pr (List Tw), R = .bad l := ⟨_, rfl⟩
  have HE : Hid (R = (onB true l (.bad l)).add false) := Lib.hid (by rw [hR]; rfl)
  rw [← hR]
  clear hR hr
  go_enter Tryz.func47, Tryz.ntmps47
  have HC := Lib.hid (HS0.out.tree (dbad_lev7 h l _ w HS0.out.rd))
  go_wp2_with fail
  refine HC.out.mono ?_
  rintro e w1 ⟨t1, l1, b1, m1, A1, n1, c1, rfl, htl, ho, hs, hc, hsy⟩
  clear HC
  obtain ⟨rfl, rfl⟩ : b1 = true ∧ l1 = l := by
    rcases hsy with ⟨e1, e2⟩ | ⟨e1, e2⟩
    · injection e2 with e2; exact ⟨e1, e2.symm⟩
    · cases e2
  obtain ⟨M1, hM⟩ : ∃ z, z = (false || m1) := ⟨_, rfl⟩
  rw [← hM] at hs
  have HT1 := Lib.hid htl
  have HO1 := Lib.hid ho
  clear hsy hM htl ho
  have HS1 : Hid (Sd w h L lg w1 l1 true M1) := Lib.hid hs
  clear hs hc HS0
  go_wp2_with fail
  go_loopw [6] (fun s6 wr => ∃ (A : Option Addr) (nn c : Nat) (t : List Tw) (M : Bool), s6 = .slice A nn c ∧ t.length ≤ 2048 ∧ Od w wr A nn c t ∧ Sd w h L lg wr l1 true M) (fun _ wr => dbud wr h)
  case atStart => exact ⟨A1, n1, c1, t1, M1, rfl, HT1.out, HO1.out, HS1.out⟩
  case round =>
    clear HS1 HO1 HT1
    obtain ⟨A, nn, c, t, M, rfl, htl, ho, hs⟩ := hrel
    have k2 := hs.rd.bad_cell
    have HD : Hid (∀ q, DPost w h L lg R (.returned (.slice A nn c)) (wr.drewN q)) := Lib.hid fun q => ⟨t, l1, true, M, A, nn, c, rfl, htl, ⟨ho.len, ho.own⟩, ⟨hs.chg.drewN q, hs.rd.drewN q, hs.lt⟩, .inl ⟨rfl, HE.out⟩⟩
    clear htl ho hs
    go_wp2_with fail
    go_quiet (fail)
    go_wp2_with fail
    go_ret
    exact HD.out nq
set_option maxRecDepth 100000 in
set_option maxHeartbeats 16000000 in
theorem dbad_lev5 {L : List Tz} (h : Nat) (l : List Tz) (lg : Bool) (w : World) (hr : StD w h L l true lg) :
    Calls Tryz.prog 47 #[gp h, .int .i64 5] w (DPost w h L lg (.bad l)) := by
  have HS0 : Hid (Sd w h L lg w l true false) := Lib.hid (Sd.start hr)
  obtain ⟨R, hR⟩ : ∃ R : Pr (List Tw), R = .bad l := ⟨_, rfl⟩
  have HE : Hid (R = (onB true l (.bad l)).add false) := Lib.hid (by rw [hR]; rfl)
  rw [← hR]
  clear hR hr
  go_enter Tryz.func47, Tryz.ntmps47
  have HC := Lib.hid (HS0.out.tree (dbad_lev6 h l _ w HS0.out.rd))
  go_wp2_with fail
  refine HC.out.mono ?_
  rintro e w1 ⟨t1, l1, b1, m1, A1, n1, c1, rfl, htl, ho, hs, hc, hsy⟩
  clear HC
  obtain ⟨rfl, rfl⟩ : b1 = true ∧ l1 = l := by
    rcases hsy with ⟨e1, e2⟩ | ⟨e1, e2⟩
    · injection e2 with e2; exact ⟨e1, e2.symm⟩
    · cases e2
  obtain ⟨M1, hM⟩ : ∃ z, z = (false || m1) := ⟨_, rfl⟩
  rw [← hM] at hs
  have HT1 := Lib.hid htl
  have HO1 := Lib.hid ho
  clear hsy hM htl ho
  have HS1 : Hid (Sd w h L lg w1 l1 true M1) := Lib.hid hs
  clear hs hc HS0
  go_wp2_with fail
  go_loopw [6] (fun s6 wr => ∃ (A : Option Addr) (nn c : Nat) (t : List Tw) (M : Bool), s6 = .slice A nn c ∧ t.length ≤ 2048 ∧ Od w wr A nn c t ∧ Sd w h L lg wr l1 true M) (fun _ wr => dbud wr h)
  case atStart => exact ⟨A1, n1, c1, t1, M1, rfl, HT1.out, HO1.out, HS1.out⟩
  case round =>
    clear HS1 HO1 HT1
    obtain ⟨A, nn, c, t, M, rfl, htl, ho, hs⟩ := hrel
    have k2 := hs.rd.bad_cell
    have HD : Hid (∀ q, DPost w h L lg R (.returned (.slice A nn c)) (wr.drewN q)) := Lib.hid fun q => ⟨t, l1, true, M, A, nn, c, rfl, htl, ⟨ho.len, ho.own⟩, ⟨hs.chg.drewN q, hs.rd.drewN q, hs.lt⟩, .inl ⟨rfl, HE.out⟩⟩
    clear htl ho hs
    go_wp2_with fail
    go_quiet (fail)
    go_wp2_with fail
    go_ret
    exact HD.out nq
set_option maxRecDepth 100000 in
set_option maxHeartbeats 16000000 in
theorem dbad_lev4 {L : List Tz} (h : Nat) (l : List Tz) (lg : Bool) (w : World) (hr : StD w h L l true lg) :
    Calls Tryz.prog 47 #[gp h, .int .i64 4] w (DPost w h L lg (.bad l)) := by
  have HS0 : Hid (Sd w h L lg w l true false) := Lib.hid (Sd.start hr)
  obtain ⟨R, hR⟩ : ∃ R : Pr (List Tw), R = .bad l := ⟨_, rfl⟩
  have HE : Hid (R = (onB true l (.bad l)).add false) := Lib.hid (by rw [hR]; rfl)
  rw [← hR]
  clear hR hr
  go_enter Tryz.func47, Tryz.ntmps47
  have HC := Lib.hid (HS0.out.tree (dbad_lev5 h l _ w HS0.out.rd))
  go_wp2_with fail
  refine HC.out.mono ?_
  rintro e w1 ⟨t1, l1, b1, m1, A1, n1, c1, rfl, htl, ho, hs, hc, hsy⟩
  clear HC
  obtain ⟨rfl, rfl⟩ : b1 = true ∧ l1 = l := by
    rcases hsy with ⟨e1, e2⟩ | ⟨e1, e2⟩
    · injection e2 with e2; exact ⟨e1, e2.symm⟩
    · cases e2
  obtain ⟨M1, hM⟩ : ∃ z, z = (false || m1) := ⟨_, rfl⟩
  rw [← hM] at hs
  have HT1 := Lib.hid htl
  have HO1 := Lib.hid ho
  clear hsy hM htl ho
  have HS1 : Hid (Sd w h L lg w1 l1 true M1) := Lib.hid hs
  clear hs hc HS0
  go_wp2_with fail
  go_loopw [6] (fun s6 wr => ∃ (A : Option Addr) (nn c : Nat) (t : List Tw) (M : Bool), s6 = .slice A nn c ∧ t.length ≤ 2048 ∧ Od w wr A nn c t ∧ Sd w h L lg wr l1 true M) (fun _ wr => dbud wr h)
  case atStart => exact ⟨A1, n1, c1, t1, M1, rfl, HT1.out, HO1.out, HS1.out⟩
  case round =>
    clear HS1 HO1 HT1
    obtain ⟨A, nn, c, t, M, rfl, htl, ho, hs⟩ := hrel
    have k2 := hs.rd.bad_cell
    have HD : Hid (∀ q, DPost w h L lg R (.returned (.slice A nn c)) (wr.drewN q)) := Lib.hid fun q => ⟨t, l1, true, M, A, nn, c, rfl, htl, ⟨ho.len, ho.own⟩, ⟨hs.chg.drewN q, hs.rd.drewN q, hs.lt⟩, .inl ⟨rfl, HE.out⟩⟩
    clear htl ho hs
    go_wp2_with fail
    go_quiet (fail)
    go_wp2_with fail
    go_ret
    exact HD.out nq
set_option maxRecDepth 100000 in
set_option maxHeartbeats 16000000 in
theorem dbad_lev3 {L : List Tz} (h : Nat) (l : List Tz) (lg : Bool) (w : World) (hr : StD w h L l true lg) :
    Calls Tryz.prog 47 #[gp h, .int .i64 3] w (DPost w h L lg (.bad l)) := by
  have HS0 : Hid (Sd w h L lg w l true false) := Lib.hid (Sd.start hr)
  obtain ⟨R, hR⟩ : ∃ R : Pr (List Tw), R = .bad l := ⟨_, rfl⟩
  have HE : Hid (R = (onB true l (.bad l)).add false) := Lib.hid (by rw [hR]; rfl)
  rw [← hR]
  clear hR hr
  go_enter Tryz.func47, Tryz.ntmps47
  have HC := Lib.hid (HS0.out.has [110, 111, 116])
  go_wp2_with fail
  refine HC.out.mono ?_
  rintro e w1 ⟨rfl, hs, hc⟩
  clear HC
  have HS1 : Hid (Sd w h L lg w1 l true false) := Lib.hid hs
  clear hs hc HS0
  have HF := Lib.hid (HS1.out.hand HE.out (dbad_lev4 h l _ w1 HS1.out.rd))
  go_wp2_with fail
  refine HF.out.mono ?_
  intro e w99 hp
  obtain ⟨A99, n99, c99, rfl⟩ := hp.ret
  have HP := Lib.hid hp
  clear hp HF
  go_wp2_with fail
  go_ret
  exact HP.out
set_option maxRecDepth 100000 in
set_option maxHeartbeats 16000000 in
theorem dbad_lev2 {L : List Tz} (h : Nat) (l : List Tz) (lg : Bool) (w : World) (hr : StD w h L l true lg) :
    Calls Tryz.prog 47 #[gp h, .int .i64 2] w (DPost w h L lg (.bad l)) := by
  have HS0 : Hid (Sd w h L lg w l true false) := Lib.hid (Sd.start hr)
  obtain ⟨R, hR⟩ : ∃ R : Pr (List Tw), R = .bad l := ⟨_, rfl⟩
  have HE : Hid (R = (onB true l (.bad l)).add false) := Lib.hid (by rw [hR]; rfl)
  rw [← hR]
  clear hR hr
  go_enter Tryz.func47, Tryz.ntmps47
  have HC := Lib.hid (HS0.out.tree (dbad_lev3 h l _ w HS0.out.rd))
  go_wp2_with fail
  refine HC.out.mono ?_
  rintro e w1 ⟨t1, l1, b1, m1, A1, n1, c1, rfl, htl, ho, hs, hc, hsy⟩
  clear HC
  obtain ⟨rfl, rfl⟩ : b1 = true ∧ l1 = l := by
    rcases hsy with ⟨e1, e2⟩ | ⟨e1, e2⟩
    · injection e2 with e2; exact ⟨e1, e2.symm⟩
    · cases e2
  obtain ⟨M1, hM⟩ : ∃ z, z = (false || m1) := ⟨_, rfl⟩
  rw [← hM] at hs
  have HT1 := Lib.hid htl
  have HO1 := Lib.hid ho
  clear hsy hM htl ho
  have HS1 : Hid (Sd w h L lg w1 l1 true M1) := Lib.hid hs
  clear hs hc HS0
  go_wp2_with fail
  go_loopw [6] (fun s6 wr => ∃ (A : Option Addr) (nn c : Nat) (t : List Tw) (M : Bool), s6 = .slice A nn c ∧ t.length ≤ 2048 ∧ Od w wr A nn c t ∧ Sd w h L lg wr l1 true M) (fun _ wr => dbud wr h)
  case atStart => exact ⟨A1, n1, c1, t1, M1, rfl, HT1.out, HO1.out, HS1.out⟩
  case round =>
    clear HS1 HO1 HT1
    obtain ⟨A, nn, c, t, M, rfl, htl, ho, hs⟩ := hrel
    have k2 := hs.rd.bad_cell
    have HD : Hid (∀ q, DPost w h L lg R (.returned (.slice A nn c)) (wr.drewN q)) := Lib.hid fun q => ⟨t, l1, true, M, A, nn, c, rfl, htl, ⟨ho.len, ho.own⟩, ⟨hs.chg.drewN q, hs.rd.drewN q, hs.lt⟩, .inl ⟨rfl, HE.out⟩⟩
    clear htl ho hs
    go_wp2_with fail
    go_quiet (fail)
    go_wp2_with fail
    go_ret
    exact HD.out nq
set_option maxRecDepth 100000 in
set_option maxHeartbeats 16000000 in
theorem dbad_lev1 {L : List Tz} (h : Nat) (l : List Tz) (lg : Bool) (w : World) (hr : StD w h L l true lg) :
    Calls Tryz.prog 47 #[gp h, .int .i64 1] w (DPost w h L lg (.bad l)) := by
  have HS0 : Hid (Sd w h L lg w l true false) := Lib.hid (Sd.start hr)
  obtain ⟨R, hR⟩ : ∃ R : Pr (List Tw), R = .bad l := ⟨_, rfl⟩
  have HE : Hid (R = (onB true l (.bad l)).add false) := Lib.hid (by rw [hR]; rfl)
  rw [← hR]
  clear hR hr
  go_enter Tryz.func47, Tryz.ntmps47
  have HC := Lib.hid (HS0.out.tree (dbad_lev2 h l _ w HS0.out.rd))
  go_wp2_with fail
  refine HC.out.mono ?_
  rintro e w1 ⟨t1, l1, b1, m1, A1, n1, c1, rfl, htl, ho, hs, hc, hsy⟩
  clear HC
  obtain ⟨rfl, rfl⟩ : b1 = true ∧ l1 = l := by
    rcases hsy with ⟨e1, e2⟩ | ⟨e1, e2⟩
    · injection e2 with e2; exact ⟨e1, e2.symm⟩
    · cases e2
  obtain ⟨M1, hM⟩ : ∃ z, z = (false || m1) := ⟨_, rfl⟩
  rw [← hM] at hs
  have HT1 := Lib.hid htl
  have HO1 := Lib.hid ho
  clear hsy hM htl ho
  have HS1 : Hid (Sd w h L lg w1 l1 true M1) := Lib.hid hs
  clear hs hc HS0
  go_wp2_with fail
  go_loopw [6] (fun s6 wr => ∃ (A : Option Addr) (nn c : Nat) (t : List Tw) (M : Bool), s6 = .slice A nn c ∧ t.length ≤ 2048 ∧ Od w wr A nn c t ∧ Sd w h L lg wr l1 true M) (fun _ wr => dbud wr h)
  case atStart => exact ⟨A1, n1, c1, t1, M1, rfl, HT1.out, HO1.out, HS1.out⟩
  case round =>
    clear HS1 HO1 HT1
    obtain ⟨A, nn, c, t, M, rfl, htl, ho, hs⟩ := hrel
    have k2 := hs.rd.bad_cell
    have HD : Hid (∀ q, DPost w h L lg R (.returned (.slice A nn c)) (wr.drewN q)) := Lib.hid fun q => ⟨t, l1, true, M, A, nn, c, rfl, htl, ⟨ho.len, ho.own⟩, ⟨hs.chg.drewN q, hs.rd.drewN q, hs.lt⟩, .inl ⟨rfl, HE.out⟩⟩
    clear htl ho hs
    go_wp2_with fail
    go_quiet (fail)
    go_wp2_with fail
    go_ret
    exact HD.out nq
set_option maxRecDepth 100000 in
set_option maxHeartbeats 16000000 in
theorem dbad_block {L : List Tz} (h : Nat) (l : List Tz) (lg : Bool) (w : World) (hr : StD w h L l true lg) :
    Calls Tryz.prog 45 #[gp h] w (DPost w h L lg (.bad l)) := by
  have HS0 : Hid (Sd w h L lg w l true false) := Lib.hid (Sd.start hr)
  obtain ⟨R, hR⟩ : ∃ R : Pr (List Tw), R = .bad l := ⟨_, rfl⟩
  have HE : Hid (R = (onB true l (.bad l)).add false) := Lib.hid (by rw [hR]; rfl)
  rw [← hR]
  clear hR hr
  go_enter Tryz.func45, Tryz.ntmps45
  have HC := Lib.hid (HS0.out.must [123])
  go_wp2_with fail
  refine HC.out.mono ?_
  rintro e w1 ⟨rfl, l1, b1, hs, hc, hsy⟩
  clear HC
  obtain ⟨rfl, rfl⟩ : b1 = true ∧ l1 = l := by
    rcases hsy with ⟨e1, e2⟩ | ⟨e1, e2⟩
    · injection e2 with e2; exact ⟨e1, e2.symm⟩
    · cases e2
  clear hsy
  have HS1 : Hid (Sd w h L lg w1 l1 true false) := Lib.hid hs
  clear hs hc HS0
  go_wp2_with fail
  go_loopw [3, 4] (fun s3 s4 wr => s3 = .slice none 0 0 ∧ s4 = .int .i64 0 ∧ wr = w1) (fun _ _ _ => 0)
  case atStart => exact ⟨rfl, rfl, rfl⟩
  case round =>
    obtain ⟨rfl, rfl, rfl⟩ := hrel
    have k2 := HS1.out.rd.bad_cell
    have HF := Lib.hid (HS1.out.top (tw 3) [] (0 : Nat) (R := R) (by rw [HE.out]; rfl) (Od.nil w wr) (by omega) (fun hh => by cases hh))
    go_wp2_with fail
    refine HF.out.mono ?_
    intro e w99 hp
    obtain ⟨A99, n99, c99, rfl⟩ := hp.ret
    have HP := Lib.hid hp
    clear hp HF
    go_wp2_with fail
    go_ret
    exact HP.out
set_option maxRecDepth 100000 in
set_option maxHeartbeats 16000000 in
theorem dbad_stmt {L : List Tz} (h : Nat) (l : List Tz) (lg : Bool) (w : World) (hr : StD w h L l true lg) :
    Calls Tryz.prog 72 #[gp h] w (DPost w h L lg (.bad l)) := by
  have HS0 : Hid (Sd w h L lg w l true false) := Lib.hid (Sd.start hr)
  obtain ⟨R, hR⟩ : ∃ R : Pr (List Tw), R = .bad l := ⟨_, rfl⟩
  have HE : Hid (R = (onB true l (.bad l)).add false) := Lib.hid (by rw [hR]; rfl)
  rw [← hR]
  clear hR hr
  go_enter Tryz.func72, Tryz.ntmps72
  have HC := Lib.hid (HS0.out.mine)
  go_wp2_with fail
  refine HC.out.mono ?_
  rintro e w1 ⟨rfl, hs, hc⟩
  clear HC
  have HS1 : Hid (Sd w h L lg w1 l true false) := Lib.hid hs
  clear hs hc HS0
  have HC := Lib.hid (HS1.out.has [108, 101, 116])
  go_wp2_with fail
  refine HC.out.mono ?_
  rintro e w2 ⟨rfl, hs, hc⟩
  clear HC
  have HS2 : Hid (Sd w h L lg w2 l true false) := Lib.hid hs
  clear hs hc HS1
  have HC := Lib.hid (HS2.out.has [114, 101, 116, 117, 114, 110])
  go_wp2_with fail
  refine HC.out.mono ?_
  rintro e w3 ⟨rfl, hs, hc⟩
  clear HC
  have HS3 : Hid (Sd w h L lg w3 l true false) := Lib.hid hs
  clear hs hc HS2
  have HC := Lib.hid (HS3.out.has [102, 97, 105, 108])
  go_wp2_with fail
  refine HC.out.mono ?_
  rintro e w4 ⟨rfl, hs, hc⟩
  clear HC
  have HS4 : Hid (Sd w h L lg w4 l true false) := Lib.hid hs
  clear hs hc HS3
  have HC := Lib.hid (HS4.out.has [115, 108, 101, 101, 112])
  go_wp2_with fail
  refine HC.out.mono ?_
  rintro e w5 ⟨rfl, hs, hc⟩
  clear HC
  have HS5 : Hid (Sd w h L lg w5 l true false) := Lib.hid hs
  clear hs hc HS4
  have HC := Lib.hid (HS5.out.has [100, 111])
  go_wp2_with fail
  refine HC.out.mono ?_
  rintro e w6 ⟨rfl, hs, hc⟩
  clear HC
  have HS6 : Hid (Sd w h L lg w6 l true false) := Lib.hid hs
  clear hs hc HS5
  have HC := Lib.hid (HS6.out.has [119, 104, 105, 108, 101])
  go_wp2_with fail
  refine HC.out.mono ?_
  rintro e w7 ⟨rfl, hs, hc⟩
  clear HC
  have HS7 : Hid (Sd w h L lg w7 l true false) := Lib.hid hs
  clear hs hc HS6
  have HC := Lib.hid (HS7.out.has [105, 102])
  go_wp2_with fail
  refine HC.out.mono ?_
  rintro e w8 ⟨rfl, hs, hc⟩
  clear HC
  have HS8 : Hid (Sd w h L lg w8 l true false) := Lib.hid hs
  clear hs hc HS7
  obtain ⟨hsp, f2⟩ := StD.spoil HS8.out.rd
  have k2 := HS8.out.rd.bad_cell
  have HP : Hid (DPost w h L lg R (.returned (.slice none 0 0)) (w8.setCell ⟨h, 2, none⟩ (.bool true))) := Lib.hid (Sd.wrong (HS8.out.step (chg_self w8 h 2 (.bool true)) hsp) (by rw [HE.out]; unfold onB; split <;> rfl))
  clear hsp
  go_wp2_with fail
  go_ret
  exact HP.out
theorem dbad_any {L : List Tz} (nt : Nt) (h : Nat) (l : List Tz) (lg : Bool) (w : World) (hr : StD w h L l true lg) : Calls Tryz.prog (didOf nt) (dargs h nt) w (DPost w h L lg (.bad l)) := by
  cases nt with
  | expr => exact dbad_lev1 h l lg w hr
  | and_ => exact dbad_lev2 h l lg w hr
  | not_ => exact dbad_lev3 h l lg w hr
  | sum => exact dbad_lev5 h l lg w hr
  | term => exact dbad_lev6 h l lg w hr
  | pre => exact dbad_pre h l lg w hr
  | prim => exact dbad_prim h l lg w hr
  | block => exact dbad_block h l lg w hr
  | stmt => exact dbad_stmt h l lg w hr
set_option maxRecDepth 100000 in
set_option maxHeartbeats 16000000 in
theorem dstmt_step {n : Nat} {L : List Tz} (ih : NtD L n) (h : Nat) (l : List Tz) (lg b : Bool) (w : World) (hr : StD w h L l b lg) (hne : b = false → P (n + 1) .stmt l ≠ .out) :
    Calls Tryz.prog 72 #[gp h] w (DPost w h L lg (onB b l (P (n + 1) .stmt l))) := by
  rw [P, stmtP_doc] at hne ⊢
  have HS0 : Hid (Sd w h L lg w l b false) := Lib.hid (Sd.start hr)
  obtain ⟨R, hR⟩ : ∃ R, R = onB b l (stmtD (P n .expr) (P n .block) l) := ⟨_, rfl⟩
  have HNE : Hid (R ≠ .out) := Lib.hid (by rw [hR]; exact onB_out hne)
  rw [← hR]
  have he : R = (onB b l (stmtD (P n .expr) (P n .block) l)).add false := by rw [hR, Pr.add_false]
  clear hR hr hne
  unfold stmtD at he
  have HE := Lib.hid he
  clear he
  go_enter Tryz.func72, Tryz.ntmps72
  have HC := Lib.hid (HS0.out.mine)
  obtain ⟨v, hv⟩ : ∃ v, v = (!b && mineT l) := ⟨_, rfl⟩
  have HV0 := Lib.hid hv
  rw [← hv] at HC
  clear hv
  go_wp2_with fail
  refine HC.out.mono ?_
  rintro e w1 ⟨rfl, hs, hc⟩
  clear HC
  cases v
  rotate_left
  · have he := HE.out
    rw [onB_yes (l' := l) HV0.out] at he
    have HE := Lib.hid he
    clear he
    have HS1 : Hid (Sd w h L lg w1 l b false) := Lib.hid hs
    clear hs hc HS0
    have HC := Lib.hid HS1.out.own
    go_wp2_with fail
    refine HC.out.mono ?_
    rintro e w2 ⟨s2, l2, b2, rfl, hs, hc, hsy⟩
    clear HC
    have he := onB_bind HE.out hsy
    try dsimp only at he
    rw [Bool.or_false] at he
    have HE := Lib.hid he
    clear he hsy
    have HS2 : Hid (Sd w h L lg w2 l2 b2 false) := Lib.hid hs
    clear hs hc HS1
    have HC := Lib.hid (HS2.out.must [61])
    go_wp2_with fail
    refine HC.out.mono ?_
    rintro e w3 ⟨rfl, l3, b3, hs, hc, hsy⟩
    clear HC
    have he := onB_bind HE.out hsy
    try dsimp only at he
    rw [Bool.or_false] at he
    have HE := Lib.hid he
    clear he hsy
    have HS3 : Hid (Sd w h L lg w3 l3 b3 false) := Lib.hid hs
    clear hs hc HS2
    have HF := Lib.hid (HS3.out.hand HE.out (done_any ih ⟨5, 0, 0, s2⟩ h l3 _ b3 w3 HS3.out.rd (fun hb => onB_ne HE.out HNE.out hb)))
    go_wp2_with fail
    refine HF.out.mono ?_
    intro e w99 hp
    obtain ⟨A99, n99, c99, rfl⟩ := hp.ret
    have HP := Lib.hid hp
    clear hp HF
    go_wp2_with fail
    go_ret
    exact HP.out
  have he := HE.out
  rw [onB_no HV0.out] at he
  have HE := Lib.hid he
  clear he
  have HS1 : Hid (Sd w h L lg w1 l b false) := Lib.hid hs
  clear hs hc HS0
  have HC := Lib.hid (HS1.out.has [108, 101, 116])
  obtain ⟨v, hv⟩ : ∃ v, v = (!b && isT [108, 101, 116] l) := ⟨_, rfl⟩
  have HV1 := Lib.hid hv
  rw [← hv] at HC
  clear hv
  go_wp2_with fail
  refine HC.out.mono ?_
  rintro e w2 ⟨rfl, hs, hc⟩
  clear HC
  cases v
  rotate_left
  · have he := HE.out
    rw [onB_yes (l' := l.tail) HV1.out] at he
    have HE := Lib.hid he
    clear he
    have HS2 : Hid (Sd w h L lg w2 l.tail b false) := Lib.hid hs
    clear hs hc HS1
    have HC := Lib.hid HS2.out.own
    go_wp2_with fail
    refine HC.out.mono ?_
    rintro e w3 ⟨s3, l3, b3, rfl, hs, hc, hsy⟩
    clear HC
    have he := onB_bind HE.out hsy
    try dsimp only at he
    rw [Bool.or_false] at he
    have HE := Lib.hid he
    clear he hsy
    have HS3 : Hid (Sd w h L lg w3 l3 b3 false) := Lib.hid hs
    clear hs hc HS2
    have HC := Lib.hid (HS3.out.must [61])
    go_wp2_with fail
    refine HC.out.mono ?_
    rintro e w4 ⟨rfl, l4, b4, hs, hc, hsy⟩
    clear HC
    have he := onB_bind HE.out hsy
    try dsimp only at he
    rw [Bool.or_false] at he
    have HE := Lib.hid he
    clear he hsy
    have HS4 : Hid (Sd w h L lg w4 l4 b4 false) := Lib.hid hs
    clear hs hc HS3
    have HF := Lib.hid (HS4.out.hand HE.out (done_any ih ⟨4, 0, 0, s3⟩ h l4 _ b4 w4 HS4.out.rd (fun hb => onB_ne HE.out HNE.out hb)))
    go_wp2_with fail
    refine HF.out.mono ?_
    intro e w99 hp
    obtain ⟨A99, n99, c99, rfl⟩ := hp.ret
    have HP := Lib.hid hp
    clear hp HF
    go_wp2_with fail
    go_ret
    exact HP.out
  have he := HE.out
  rw [onB_no HV1.out] at he
  have HE := Lib.hid he
  clear he
  have HS2 : Hid (Sd w h L lg w2 l b false) := Lib.hid hs
  clear hs hc HS1
  have HC := Lib.hid (HS2.out.has [114, 101, 116, 117, 114, 110])
  obtain ⟨v, hv⟩ : ∃ v, v = (!b && isT [114, 101, 116, 117, 114, 110] l) := ⟨_, rfl⟩
  have HV2 := Lib.hid hv
  rw [← hv] at HC
  clear hv
  go_wp2_with fail
  refine HC.out.mono ?_
  rintro e w3 ⟨rfl, hs, hc⟩
  clear HC
  cases v
  rotate_left
  · have he := HE.out
    rw [onB_yes (l' := l.tail) HV2.out] at he
    have HE := Lib.hid he
    clear he
    have HS3 : Hid (Sd w h L lg w3 l.tail b false) := Lib.hid hs
    clear hs hc HS2
    have HF := Lib.hid (HS3.out.hand HE.out (done_any ih (tw 8) h l.tail _ b w3 HS3.out.rd (fun hb => onB_ne HE.out HNE.out hb)))
    go_wp2_with fail
    refine HF.out.mono ?_
    intro e w99 hp
    obtain ⟨A99, n99, c99, rfl⟩ := hp.ret
    have HP := Lib.hid hp
    clear hp HF
    go_wp2_with fail
    go_ret
    exact HP.out
  have he := HE.out
  rw [onB_no HV2.out] at he
  have HE := Lib.hid he
  clear he
  have HS3 : Hid (Sd w h L lg w3 l b false) := Lib.hid hs
  clear hs hc HS2
  have HC := Lib.hid (HS3.out.has [102, 97, 105, 108])
  obtain ⟨v, hv⟩ : ∃ v, v = (!b && isT [102, 97, 105, 108] l) := ⟨_, rfl⟩
  have HV3 := Lib.hid hv
  rw [← hv] at HC
  clear hv
  go_wp2_with fail
  refine HC.out.mono ?_
  rintro e w4 ⟨rfl, hs, hc⟩
  clear HC
  cases v
  rotate_left
  · have he := HE.out
    rw [onB_yes (l' := l.tail) HV3.out] at he
    have HE := Lib.hid he
    clear he
    have HS4 : Hid (Sd w h L lg w4 l.tail b false) := Lib.hid hs
    clear hs hc HS3
    have HF := Lib.hid (HS4.out.hand HE.out (done_any ih (tw 9) h l.tail _ b w4 HS4.out.rd (fun hb => onB_ne HE.out HNE.out hb)))
    go_wp2_with fail
    refine HF.out.mono ?_
    intro e w99 hp
    obtain ⟨A99, n99, c99, rfl⟩ := hp.ret
    have HP := Lib.hid hp
    clear hp HF
    go_wp2_with fail
    go_ret
    exact HP.out
  have he := HE.out
  rw [onB_no HV3.out] at he
  have HE := Lib.hid he
  clear he
  have HS4 : Hid (Sd w h L lg w4 l b false) := Lib.hid hs
  clear hs hc HS3
  have HC := Lib.hid (HS4.out.has [115, 108, 101, 101, 112])
  obtain ⟨v, hv⟩ : ∃ v, v = (!b && isT [115, 108, 101, 101, 112] l) := ⟨_, rfl⟩
  have HV4 := Lib.hid hv
  rw [← hv] at HC
  clear hv
  go_wp2_with fail
  refine HC.out.mono ?_
  rintro e w5 ⟨rfl, hs, hc⟩
  clear HC
  cases v
  rotate_left
  · have he := HE.out
    rw [onB_yes (l' := l.tail) HV4.out] at he
    have HE := Lib.hid he
    clear he
    have HS5 : Hid (Sd w h L lg w5 l.tail b false) := Lib.hid hs
    clear hs hc HS4
    have HF := Lib.hid (HS5.out.hand HE.out (done_any ih (tw 10) h l.tail _ b w5 HS5.out.rd (fun hb => onB_ne HE.out HNE.out hb)))
    go_wp2_with fail
    refine HF.out.mono ?_
    intro e w99 hp
    obtain ⟨A99, n99, c99, rfl⟩ := hp.ret
    have HP := Lib.hid hp
    clear hp HF
    go_wp2_with fail
    go_ret
    exact HP.out
  have he := HE.out
  rw [onB_no HV4.out] at he
  have HE := Lib.hid he
  clear he
  have HS5 : Hid (Sd w h L lg w5 l b false) := Lib.hid hs
  clear hs hc HS4
  have HC := Lib.hid (HS5.out.has [100, 111])
  obtain ⟨v, hv⟩ : ∃ v, v = (!b && isT [100, 111] l) := ⟨_, rfl⟩
  have HV5 := Lib.hid hv
  rw [← hv] at HC
  clear hv
  go_wp2_with fail
  refine HC.out.mono ?_
  rintro e w6 ⟨rfl, hs, hc⟩
  clear HC
  cases v
  rotate_left
  · have he := HE.out
    rw [onB_yes (l' := l.tail) HV5.out] at he
    have HE := Lib.hid he
    clear he
    have HS6 : Hid (Sd w h L lg w6 l.tail b false) := Lib.hid hs
    clear hs hc HS5
    have HF := Lib.hid (HS6.out.hand HE.out (done_any ih (tw 11) h l.tail _ b w6 HS6.out.rd (fun hb => onB_ne HE.out HNE.out hb)))
    go_wp2_with fail
    refine HF.out.mono ?_
    intro e w99 hp
    obtain ⟨A99, n99, c99, rfl⟩ := hp.ret
    have HP := Lib.hid hp
    clear hp HF
    go_wp2_with fail
    go_ret
    exact HP.out
  have he := HE.out
  rw [onB_no HV5.out] at he
  have HE := Lib.hid he
  clear he
  have HS6 : Hid (Sd w h L lg w6 l b false) := Lib.hid hs
  clear hs hc HS5
  have HC := Lib.hid (HS6.out.has [119, 104, 105, 108, 101])
  obtain ⟨v, hv⟩ : ∃ v, v = (!b && isT [119, 104, 105, 108, 101] l) := ⟨_, rfl⟩
  have HV6 := Lib.hid hv
  rw [← hv] at HC
  clear hv
  go_wp2_with fail
  refine HC.out.mono ?_
  rintro e w7 ⟨rfl, hs, hc⟩
  clear HC
  cases v
  rotate_left
  · have he := HE.out
    rw [onB_yes (l' := l.tail) HV6.out] at he
    have HE := Lib.hid he
    clear he
    have HS7 : Hid (Sd w h L lg w7 l.tail b false) := Lib.hid hs
    clear hs hc HS6
    have HC := Lib.hid (HS7.out.tree (dexpr_any ih h l.tail _ b w7 HS7.out.rd (fun hb => bind_ne1 (onB_ne HE.out HNE.out hb))))
    go_wp2_with fail
    refine HC.out.mono ?_
    rintro e w8 ⟨t8, l8, b8, m8, A8, n8, c8, rfl, htl, ho, hs, hc, hsy⟩
    clear HC
    have he := onB_bind HE.out hsy
    try dsimp only at he
    obtain ⟨M8, hM⟩ : ∃ z, z = (false || m8) := ⟨_, rfl⟩
    rw [← hM] at he hs
    have HE := Lib.hid he
    have HT8 := Lib.hid htl
    have HO8 := Lib.hid ho
    clear he hsy hM htl ho
    have HS8 : Hid (Sd w h L lg w8 l8 b8 M8) := Lib.hid hs
    clear hs hc HS7
    have HC := Lib.hid (HS8.out.tree (ih .block h l8 _ b8 w8 HS8.out.rd (fun hb => bind_ne1 (onB_ne HE.out HNE.out hb))))
    go_wp2_with fail
    refine HC.out.mono ?_
    rintro e w9 ⟨t9, l9, b9, m9, A9, n9, c9, rfl, htl, ho, hs, hc, hsy⟩
    clear HC
    have he := onB_bind HE.out hsy
    try dsimp only at he
    obtain ⟨M9, hM⟩ : ∃ z, z = (M8 || m9) := ⟨_, rfl⟩
    rw [← hM] at he hs
    have HE := Lib.hid he
    have HT9 := Lib.hid htl
    have HO9 := Lib.hid ho
    clear he hsy hM htl ho
    have HS9 : Hid (Sd w h L lg w9 l9 b9 M9) := Lib.hid hs
    have HO8 : Hid (Od w w9 A8 n8 c8 t8) := Lib.hid (HO8.out.chg hc HS8.out.lt)
    clear hs hc HS8
    have HSZ : Hid (w.heap.size ≤ w9.heap.size ∧ n8 + n9 ≤ 1000000) := Lib.hid ⟨HS9.out.chg.size, by have := HT8.out; have := HT9.out; have := HO8.out.len; have := HO9.out.len; omega⟩
    go_wp2_with (at_builtin; refine wpList_app_tw rfl (.tmp 64) (.tmp 65) rfl w.heap.size n8 c8 n9 c9 A8 A9 t8 t9 rfl HO8.out.own rfl HO9.out.len HO9.out.rd HSZ.out.2 HSZ.out.1 ?_; intro A10 c10 w10 ho9 hg9; have HOZ := Lib.hid (And.intro ho9 hg9); clear ho9 hg9)
    have HO10 : Hid (Od w w10 A10 (n8 + n9) c10 (t8 ++ t9)) := Lib.hid ⟨by rw [List.length_append, HO8.out.len, HO9.out.len], HOZ.out.1⟩
    have HS10 : Hid (Sd w h L lg w10 l9 b9 M9) := Lib.hid (HS9.out.grown HO8.out HOZ.out.2)
    have HT10 : Hid ((t8 ++ t9).length ≤ 200000) := Lib.hid (by rw [List.length_append]; have := HT8.out; have := HT9.out; omega)
    clear HS9 HSZ HOZ
    have HF := Lib.hid (HS10.out.top (tw 7) [t8, t9] 2 HE.out HO10.out (by have := HT10.out; have := HO10.out.len; omega) (fun _ => ⟨rfl, .inl (by simp)⟩))
    refine HF.out.mono ?_
    intro e w99 hp
    obtain ⟨A99, n99, c99, rfl⟩ := hp.ret
    have HP := Lib.hid hp
    clear hp HF
    go_wp2_with fail
    go_ret
    exact HP.out
  have he := HE.out
  rw [onB_no HV6.out] at he
  have HE := Lib.hid he
  clear he
  have HS7 : Hid (Sd w h L lg w7 l b false) := Lib.hid hs
  clear hs hc HS6
  have HC := Lib.hid (HS7.out.has [105, 102])
  obtain ⟨v, hv⟩ : ∃ v, v = (!b && isT [105, 102] l) := ⟨_, rfl⟩
  have HV7 := Lib.hid hv
  rw [← hv] at HC
  clear hv
  go_wp2_with fail
  refine HC.out.mono ?_
  rintro e w8 ⟨rfl, hs, hc⟩
  clear HC
  cases v
  rotate_left
  · have he := HE.out
    rw [onB_yes (l' := l.tail) HV7.out] at he
    have HE := Lib.hid he
    clear he
    have HS8 : Hid (Sd w h L lg w8 l.tail b false) := Lib.hid hs
    clear hs hc HS7
    have HC := Lib.hid (HS8.out.tree (dexpr_any ih h l.tail _ b w8 HS8.out.rd (fun hb => bind_ne1 (onB_ne HE.out HNE.out hb))))
    go_wp2_with fail
    refine HC.out.mono ?_
    rintro e w9 ⟨t9, l9, b9, m9, A9, n9, c9, rfl, htl, ho, hs, hc, hsy⟩
    clear HC
    have he := onB_bind HE.out hsy
    try dsimp only at he
    obtain ⟨M9, hM⟩ : ∃ z, z = (false || m9) := ⟨_, rfl⟩
    rw [← hM] at he hs
    have HE := Lib.hid he
    have HT9 := Lib.hid htl
    have HO9 := Lib.hid ho
    clear he hsy hM htl ho
    have HS9 : Hid (Sd w h L lg w9 l9 b9 M9) := Lib.hid hs
    clear hs hc HS8
    have HC := Lib.hid (HS9.out.tree (ih .block h l9 _ b9 w9 HS9.out.rd (fun hb => bind_ne1 (onB_ne HE.out HNE.out hb))))
    go_wp2_with fail
    refine HC.out.mono ?_
    rintro e w10 ⟨t10, l10, b10, m10, A10, n10, c10, rfl, htl, ho, hs, hc, hsy⟩
    clear HC
    have he := onB_bind HE.out hsy
    try dsimp only at he
    obtain ⟨M10, hM⟩ : ∃ z, z = (M9 || m10) := ⟨_, rfl⟩
    rw [← hM] at he hs
    have HE := Lib.hid he
    have HT10 := Lib.hid htl
    have HO10 := Lib.hid ho
    clear he hsy hM htl ho
    have HS10 : Hid (Sd w h L lg w10 l10 b10 M10) := Lib.hid hs
    have HO9 : Hid (Od w w10 A9 n9 c9 t9) := Lib.hid (HO9.out.chg hc HS9.out.lt)
    clear hs hc HS9
    have HSZ : Hid (w.heap.size ≤ w10.heap.size ∧ n9 + n10 ≤ 1000000) := Lib.hid ⟨HS10.out.chg.size, by have := HT9.out; have := HT10.out; have := HO9.out.len; have := HO10.out.len; omega⟩
    go_upto_region 25 with (at_builtin; refine wpList_app_tw rfl (.tmp 75) (.tmp 76) rfl w.heap.size n9 c9 n10 c10 A9 A10 t9 t10 rfl HO9.out.own rfl HO10.out.len HO10.out.rd HSZ.out.2 HSZ.out.1 ?_; intro A11 c11 w11 ho9 hg9; have HOZ := Lib.hid (And.intro ho9 hg9); clear ho9 hg9)
    have HO11 : Hid (Od w w11 A11 (n9 + n10) c11 (t9 ++ t10)) := Lib.hid ⟨by rw [List.length_append, HO9.out.len, HO10.out.len], HOZ.out.1⟩
    have HS11 : Hid (Sd w h L lg w11 l10 b10 M10) := Lib.hid (HS10.out.grown HO9.out HOZ.out.2)
    have HT11 : Hid ((t9 ++ t10).length ≤ 200000) := Lib.hid (by rw [List.length_append]; have := HT9.out; have := HT10.out; omega)
    clear HS10 HSZ HOZ
    have HC := Lib.hid (HS11.out.has [101, 108, 115, 101])
    obtain ⟨v, hv⟩ : ∃ v, v = (!b10 && isT [101, 108, 115, 101] l10) := ⟨_, rfl⟩
    have HV11 := Lib.hid hv
    rw [← hv] at HC
    clear hv
    go_wp2_with fail
    refine HC.out.mono ?_
    rintro e w12 ⟨rfl, hs, hc⟩
    clear HC
    cases v
    rotate_left
    · have he := HE.out
      rw [onB_yes (l' := l10.tail) HV11.out] at he
      have HE := Lib.hid he
      clear he
      have HS12 : Hid (Sd w h L lg w12 l10.tail b10 M10) := Lib.hid hs
      have HO11 : Hid (Od w w12 A11 (n9 + n10) c11 (t9 ++ t10)) := Lib.hid (HO11.out.chg hc HS11.out.lt)
      clear hs hc HS11
      have HC := Lib.hid (HS12.out.tree (ih .block h l10.tail _ b10 w12 HS12.out.rd (fun hb => bind_ne1 (onB_ne HE.out HNE.out hb))))
      go_wp2_with fail
      refine HC.out.mono ?_
      rintro e w13 ⟨t13, l13, b13, m13, A13, n13, c13, rfl, htl, ho, hs, hc, hsy⟩
      clear HC
      have he := onB_bind HE.out hsy
      try dsimp only at he
      obtain ⟨M13, hM⟩ : ∃ z, z = (M10 || m13) := ⟨_, rfl⟩
      rw [← hM] at he hs
      have HE := Lib.hid he
      have HT13 := Lib.hid htl
      have HO13 := Lib.hid ho
      clear he hsy hM htl ho
      have HS13 : Hid (Sd w h L lg w13 l13 b13 M13) := Lib.hid hs
      have HO11 : Hid (Od w w13 A11 (n9 + n10) c11 (t9 ++ t10)) := Lib.hid (HO11.out.chg hc HS12.out.lt)
      clear hs hc HS12
      have HSZ : Hid (w.heap.size ≤ w13.heap.size ∧ (n9 + n10) + n13 ≤ 1000000) := Lib.hid ⟨HS13.out.chg.size, by have := HT11.out; have := HT13.out; have := HO11.out.len; have := HO13.out.len; omega⟩
      go_wp2_with (at_builtin; refine wpList_app_tw rfl (.tmp 84) (.tmp 85) rfl w.heap.size (n9 + n10) c11 n13 c13 A11 A13 (t9 ++ t10) t13 rfl HO11.out.own rfl HO13.out.len HO13.out.rd HSZ.out.2 HSZ.out.1 ?_; intro A14 c14 w14 ho9 hg9; have HOZ := Lib.hid (And.intro ho9 hg9); clear ho9 hg9)
      have HO14 : Hid (Od w w14 A14 ((n9 + n10) + n13) c14 ((t9 ++ t10) ++ t13)) := Lib.hid ⟨by rw [List.length_append, HO11.out.len, HO13.out.len], HOZ.out.1⟩
      have HS14 : Hid (Sd w h L lg w14 l13 b13 M13) := Lib.hid (HS13.out.grown HO11.out HOZ.out.2)
      have HT14 : Hid (((t9 ++ t10) ++ t13).length ≤ 400000) := Lib.hid (by rw [List.length_append]; have := HT11.out; have := HT13.out; omega)
      clear HS13 HSZ HOZ
      have HF := Lib.hid (HS14.out.top (tw 6) [t9, t10, t13] 3 HE.out HO14.out (by have := HT14.out; have := HO14.out.len; omega) (fun _ => ⟨rfl, .inl (by simp)⟩))
      refine HF.out.mono ?_
      intro e w99 hp
      obtain ⟨A99, n99, c99, rfl⟩ := hp.ret
      have HP := Lib.hid hp
      clear hp HF
      go_wp2_with fail
      go_ret
      exact HP.out
    have he := HE.out
    rw [onB_no HV11.out] at he
    have HE := Lib.hid he
    clear he
    have HS12 : Hid (Sd w h L lg w12 l10 b10 M10) := Lib.hid hs
    have HO11 : Hid (Od w w12 A11 (n9 + n10) c11 (t9 ++ t10)) := Lib.hid (HO11.out.chg hc HS11.out.lt)
    clear hs hc HS11
    go_wp2_with fail
    have HF := Lib.hid (HS12.out.top (tw 6) [t9, t10] 2 HE.out HO11.out (by have := HT11.out; have := HO11.out.len; omega) (fun _ => ⟨rfl, .inl (by simp)⟩))
    refine HF.out.mono ?_
    intro e w99 hp
    obtain ⟨A99, n99, c99, rfl⟩ := hp.ret
    have HP := Lib.hid hp
    clear hp HF
    go_wp2_with fail
    go_ret
    exact HP.out
  have he := HE.out
  rw [onB_no HV7.out] at he
  have HE := Lib.hid he
  clear he
  have HS8 : Hid (Sd w h L lg w8 l b false) := Lib.hid hs
  clear hs hc HS7
  obtain ⟨hsp, f2⟩ := StD.spoil HS8.out.rd
  have k2 := HS8.out.rd.bad_cell
  have HP : Hid (DPost w h L lg R (.returned (.slice none 0 0)) (w8.setCell ⟨h, 2, none⟩ (.bool true))) := Lib.hid (Sd.wrong (HS8.out.step (chg_self w8 h 2 (.bool true)) hsp) (by rw [HE.out]; unfold onB; split <;> rfl))
  clear hsp
  go_wp2_with fail
  go_ret
  exact HP.out
set_option maxHeartbeats 2000000 in
theorem plain_any (tx : ByteArray) (w : World) : Calls Tryz.prog 97 #[.string tx] w fun e w' => e = .returned (.int .u8 (plainL tx.data.toList : Nat)) ∧ w' = w := by
  have HX : Hid (tx.data.toList = tx.toList) := Lib.hid (by rw [ByteArray.toList_eq])
  have HB : Hid (∀ s : List UInt8, (tx.toList == s) = false → tx.toList ≠ s) := Lib.hid (fun s h => by simpa using h)
  rw [HX.out]
  go_enter Tryz.func97, Tryz.ntmps97
  go_wp2
  all_goals first | (exfalso; simp_all; done) | skip
  all_goals go_ret
  all_goals first
    | (rw [show plainL tx.toList = 0 from by unfold plainL; rw [if_neg (HB.out [110, 111, 110, 101] (by assumption)), if_neg (HB.out [116, 114, 117, 101] (by assumption)), if_neg (HB.out [102, 97, 108, 115, 101] (by assumption)), if_neg (HB.out [118, 101, 114, 115, 105, 111, 110] (by assumption))]]; exact ⟨rfl, rfl⟩)
    | (have he : ∃ s, (tx.toList == s) = true ∧ s ∈ [[110, 111, 110, 101], [116, 114, 117, 101], [102, 97, 108, 115, 101], [118, 101, 114, 115, 105, 111, 110]] := ⟨_, by assumption, by decide⟩
       rename_i hh
       rw [show tx.toList = _ from by simpa using hh]
       exact ⟨rfl, rfl⟩)
    | skip
set_option maxHeartbeats 2000000 in
theorem around_any (tx : ByteArray) (w : World) : Calls Tryz.prog 98 #[.string tx] w fun e w' => e = .returned (.int .u8 (aroundL tx.data.toList : Nat)) ∧ w' = w := by
  have HX : Hid (tx.data.toList = tx.toList) := Lib.hid (by rw [ByteArray.toList_eq])
  have HB : Hid (∀ s : List UInt8, (tx.toList == s) = false → tx.toList ≠ s) := Lib.hid (fun s h => by simpa using h)
  rw [HX.out]
  go_enter Tryz.func98, Tryz.ntmps98
  go_wp2
  all_goals first | (exfalso; simp_all; done) | skip
  all_goals go_ret
  all_goals first
    | (rw [show aroundL tx.toList = 0 from by unfold aroundL; rw [if_neg (HB.out [108, 101, 110] (by assumption)), if_neg (HB.out [114, 101] (by assumption)), if_neg (HB.out [105, 109] (by assumption)), if_neg (HB.out [99, 111, 110, 106] (by assumption)), if_neg (HB.out [116, 105, 109, 101, 114] (by assumption))]]; exact ⟨rfl, rfl⟩)
    | (have he : ∃ s, (tx.toList == s) = true ∧ s ∈ [[108, 101, 110], [114, 101], [105, 109], [99, 111, 110, 106], [116, 105, 109, 101, 114]] := ⟨_, by assumption, by decide⟩
       rename_i hh
       rw [show tx.toList = _ from by simpa using hh]
       exact ⟨rfl, rfl⟩)
    | skip
set_option maxRecDepth 100000 in
set_option maxHeartbeats 16000000 in
theorem dprim_step {n : Nat} {L : List Tz} (hG : GoodT L) (ih : NtD L n) (h : Nat) (l : List Tz) (lg b : Bool) (w : World) (hr : StD w h L l b lg) (hne : b = false → P (n + 1) .prim l ≠ .out) :
    Calls Tryz.prog 91 #[gp h] w (DPost w h L lg (onB b l (P (n + 1) .prim l))) := by
  rw [P] at hne ⊢
  cases b with
  | true =>
    exact dbad_prim h l lg w hr
  | false =>
    cases l with
    | nil =>
      have HD : Hid (∀ q, DPost w h L lg (onB false [] (primP (P n .expr) (P n .block) n [])) (.returned (.slice none 0 0)) ((w.drewN q).setCell ⟨h, 2, none⟩ (.bool true))) := Lib.hid fun q =>
        Sd.wrong (M := false) ((Sd.start (hr.drewN q)).step (chg_self _ _ _ _) (by rw [Bool.or_false]; exact (hr.drewN q).spoil.1) |>.mono0 q) rfl
      have HFZ := Lib.hid (fun q => And.intro (hr.drewN q).spoil.2 (hr.drewN q).bad_cell)
      have k2 := hr.bad_cell
      obtain ⟨A0, c0, m0, k0, k1, hm0⟩ := hr.none_
      have d0 : decide ((m0 : Int) ≥ (m0 : Int)) = true := by simp
      clear hr hne
      go_enter Tryz.func91, Tryz.ntmps91
      go_wp2_with fail
      go_quiet (fail)
      have HD1 := Lib.hid (HD.out nq)
      obtain ⟨f2, k2⟩ := HFZ.out nq
      generalize w.drewN nq = wq at *
      go_wp2_with fail
      go_ret
      exact HD1.out
    | cons x r =>
      have hgx : x.kind = 4 → kwB x.text = false := by
        obtain ⟨A, c, i, h1, h2, h3, h4, h5, h6⟩ := hr
        exact hG x (by
          have h7 : x ∈ L.drop i := by rw [← h3]; exact List.mem_cons_self
          exact List.mem_of_mem_drop h7)
      obtain ⟨R, hR⟩ : ∃ R, R = onB false (x :: r) (primP (P n .expr) (P n .block) n (x :: r)) := ⟨_, rfl⟩
      have HNE : Hid (R ≠ .out) := Lib.hid (by rw [hR]; exact onB_out hne)
      rw [← hR]
      have he : R = (onB false (x :: r) (if x.kind = 2 then Pr.ok [⟨23, 0, x.int, bs []⟩] r false else if x.kind = 3 then .ok [⟨24, 0, 0, x.text⟩] r false else if mineT (x :: r) then .ok [⟨26, 0, 0, x.text⟩] r false else wordD (P n .expr) (P n .block) n x r)).add false := by
        rw [hR, Pr.add_false, ← wordP_doc _ _ _ _ _ hgx]
        rfl
      have HE := Lib.hid he
      have HRQ := Lib.hid (fun q => And.intro (hr.drewN q) ((Chg.refl (fun k => k = h) w).drewN q))
      obtain ⟨bk, off, cc, m0, i, k0, k1, hi, hm0, c0, c1, c2, c3⟩ := hr.head
      have hlt := hr.lt
      have k2 := hr.bad_cell
      have d0 : decide ((i : Int) ≥ (m0 : Int)) = false := decide_eq_false (by omega)
      have i0 : (0 : Int) ≤ (i : Int) := by omega
      have i1 : (i : Int) < (m0 : Int) := by omega
      obtain ⟨y, hy⟩ : ∃ y, y = x := ⟨_, rfl⟩
      obtain ⟨kd, tx, iv, pl⟩ := y
      have HXY : Hid (x = ⟨kd, tx, iv, pl⟩) := Lib.hid hy.symm
      rw [← hy] at c0 c1 c2 c3
      dsimp only at c0 c1 c2 c3
      have HHL := Lib.hid hlt
      have HBK : Hid (bk < w.heap.size) := Lib.hid (by
        rcases Nat.lt_or_ge bk w.heap.size with hh | hh
        · exact hh
        · unfold World.cell? at c0
          rw [Array.getElem?_eq_none hh] at c0
          cases c0)
      have HQC := Lib.hid (And.intro c0 (And.intro c1 (And.intro c2 c3)))
      have HGX := Lib.hid hgx
      clear hR hr hne he hgx hy c0 c1 c2 c3 hlt
      go_enter Tryz.func91, Tryz.ntmps91
      go_wp2_with fail
      go_quiet (fail)
      go_wp2_with fail
      have HRW := Lib.hid (HRQ.out nq)
      have k0 : (w.drewN nq).cell? ⟨h, 0, none⟩ = some (.slice (some ⟨bk, off, none⟩) m0 cc) := k0
      have k1 : (w.drewN nq).cell? ⟨h, 1, none⟩ = some (.int .i64 (i : Nat)) := k1
      have HQC : Hid ((w.drewN nq).rangeAt bk (off + i * 4) [.int .u8 (kd : Nat), .string tx, .int .i64 iv, .int .i64 (pl : Nat)]) := Lib.hid (by
        intro j v hj
        match j with
        | 0 => have := Option.some.inj hj; subst this; exact HQC.out.1
        | 1 => have := Option.some.inj hj; subst this; exact HQC.out.2.1
        | 2 => have := Option.some.inj hj; subst this; exact HQC.out.2.2.1
        | 3 => have := Option.some.inj hj; subst this; exact HQC.out.2.2.2
        | j + 4 => cases hj)
      have HHL : Hid (h < (w.drewN nq).heap.size ∧ w.heap.size ≤ (w.drewN nq).heap.size ∧ h < w.heap.size) := Lib.hid ⟨HHL.out, Nat.le_refl _, HHL.out⟩
      have HBK : Hid (bk < (w.drewN nq).heap.size) := HBK
      clear k2 HRQ
      generalize w.drewN nq = wq at *
      refine wp_region_plan (.q 0 (.q 1 (.q 2 (.q 3 (.q 4 (.q 5 (.q 6 (.q 7 (.q 8 (.q 9 (.a1 10 (.a1 11 .fin)))))))))))) 12 (fun W => Below wq.heap.size wq W) (by kernel_rfl) rfl (by kernel_rfl) ((Below.refl _ _).drew) ?_
      refine wpPlan_q rfl rfl rfl ?_; intro K hK
      go_big_quiet_op
      first | go_big_quiet_on | (refine ⟨_, fun _ _ => rfl, ?_⟩; go_big_quiet_on)
      refine wpPlan_q rfl rfl rfl ?_; intro K hK
      go_big_quiet_op
      first | go_big_quiet_on | (refine ⟨_, fun _ _ => rfl, ?_⟩; go_big_quiet_on)
      refine wpPlan_q rfl rfl rfl ?_; intro K hK
      go_big_quiet_op
      first | go_big_quiet_on | (refine ⟨_, fun _ _ => rfl, ?_⟩; go_big_quiet_on)
      refine wpPlan_q rfl rfl rfl ?_; intro K hK
      refine ⟨.slice (some ⟨bk, off, none⟩) m0 cc, fun W hW => ?_, ?_⟩
      · have q0 := (hW.cell (p := ⟨h, 0, none⟩) HHL.out.1).trans k0
        unfold Oper.quietAt Oper.quietUpon
        simp [go_sem, q0]
      refine hK _ ?_
      clear hK K
      try simp only [Act.put, List.setIfInBounds_toArray, List.set_cons_succ, List.set_cons_zero]
      refine wpPlan_q rfl rfl rfl ?_; intro K hK
      go_big_quiet_op
      first | go_big_quiet_on | (refine ⟨_, fun _ _ => rfl, ?_⟩; go_big_quiet_on)
      refine wpPlan_q rfl rfl rfl ?_; intro K hK
      go_big_quiet_op
      first | go_big_quiet_on | (refine ⟨_, fun _ _ => rfl, ?_⟩; go_big_quiet_on)
      refine wpPlan_q rfl rfl rfl ?_; intro K hK
      go_big_quiet_op
      first | go_big_quiet_on | (refine ⟨_, fun _ _ => rfl, ?_⟩; go_big_quiet_on)
      refine wpPlan_q rfl rfl rfl ?_; intro K hK
      refine ⟨.int .i64 (i : Nat), fun W hW => ?_, ?_⟩
      · have q0 := (hW.cell (p := ⟨h, 1, none⟩) HHL.out.1).trans k1
        unfold Oper.quietAt Oper.quietUpon
        simp [go_sem, q0]
      refine hK _ ?_
      clear hK K
      try simp only [Act.put, List.setIfInBounds_toArray, List.set_cons_succ, List.set_cons_zero]
      refine wpPlan_q rfl rfl rfl ?_; intro K hK
      go_big_quiet_op
      first | go_big_quiet_on | (refine ⟨_, fun _ _ => rfl, ?_⟩; go_big_quiet_on)
      refine wpPlan_q rfl rfl rfl ?_; intro K hK
      refine quiet_load_mid 56 (.tmp 39) rfl bk (off + i * 4) rfl [.int .u8 (kd : Nat), .string tx, .int .i64 iv, .int .i64 (pl : Nat)] (.struct _) (fun W hW j v hj => (hW.cell (p := ⟨bk, off + i * 4 + j, none⟩) HBK.out).trans (HQC.out j v hj)) Tryz.underlying56 rfl (by kernel_rfl) ?_
      refine hK _ ?_
      clear hK K
      try simp only [Act.put, List.setIfInBounds_toArray, List.set_cons_succ, List.set_cons_zero]
      refine wpPlan_act true rfl rfl rfl ?_; intro K hK
      go_simp
      refine hK _ _ (fun _ => (((Below.refl wq.heap.size wq).alloc (Nat.le_refl _) _)).drew) ?_
      clear hK K
      try simp only [Act.put, List.setIfInBounds_toArray, List.set_cons_succ, List.set_cons_zero]
      refine wpPlan_act true rfl rfl rfl ?_; intro K hK
      refine wp_store_row 56 (.tmp 3) (.tmp 40) rfl wq.heap.size #[.int .u8 (kd : Nat), .string tx, .int .i64 iv, .int .i64 (pl : Nat)] rfl rfl 56 #[.int .u8 0, .string ⟨#[]⟩, .int .i64 0, .int .i64 0] (Blk.new wq _ _).drew (by kernel_rfl) rfl (by kernel_rfl) ?_
      have e9 : ((wq.alloc (.cells #[.int .u8 0, .string ⟨#[]⟩, .int .i64 0, .int .i64 0] 56)).drew).setRow wq.heap.size #[.int .u8 (kd : Nat), .string tx, .int .i64 iv, .int .i64 (pl : Nat)] = (wq.alloc (.cells #[.int .u8 (kd : Nat), .string tx, .int .i64 iv, .int .i64 (pl : Nat)] 56)).drew := congrArg World.drew (World.setRow_alloc_new wq _ _ _)
      rw [e9]
      clear e9
      refine hK _ _ (fun _ => (((Below.refl wq.heap.size wq).alloc (Nat.le_refl _) _)).drew) ?_
      clear hK K
      try simp only [Act.put, List.setIfInBounds_toArray, List.set_cons_succ, List.set_cons_zero]
      refine wpPlan_end ?_
      have HS1 : Hid (Sd w h L lg ((wq.alloc (.cells #[.int .u8 (kd : Nat), .string tx, .int .i64 iv, .int .i64 (pl : Nat)] 56)).drew) (x :: r) false false) := Lib.hid ((show Sd w h L lg wq (x :: r) false false from ⟨HRW.out.2, by rw [Bool.or_false]; exact HRW.out.1, HHL.out.2.2⟩).below (((Below.refl wq.heap.size wq).alloc (Nat.le_refl _) _).drew))
      obtain ⟨b3, hb3⟩ : ∃ b, b = wq.heap.size := ⟨_, rfl⟩
      have HB3 : Hid (Blk ((wq.alloc (.cells #[.int .u8 (kd : Nat), .string tx, .int .i64 iv, .int .i64 (pl : Nat)] 56)).drew) b3 56 #[.int .u8 (kd : Nat), .string tx, .int .i64 iv, .int .i64 (pl : Nat)] ∧ b3 ≠ h) := Lib.hid ⟨by rw [hb3]; exact (Blk.new wq _ _).drew, by rw [hb3]; have := HHL.out.1; exact Nat.ne_of_gt this⟩
      go_upto_region 5 with fail
      try rw [← hb3]
      clear hb3 HQC HBK HRW k0 k1
      generalize (wq.alloc (.cells #[.int .u8 (kd : Nat), .string tx, .int .i64 iv, .int .i64 (pl : Nat)] 56)).drew = w1 at *
      have HKD : Hid (x.kind = kd ∧ x.text = tx ∧ x.int = iv) := Lib.hid (by rw [HXY.out]; exact ⟨rfl, rfl, rfl⟩)
      have he := HE.out
      rw [HKD.out.1, HKD.out.2.1, HKD.out.2.2] at he
      have HE := Lib.hid he
      clear he
      have qb30_1 : w1.cell? ⟨b3, 0, none⟩ = some (.int .u8 (kd : Nat)) := HB3.out.1.cell 0
      have qb31_1 : w1.cell? ⟨b3, 1, none⟩ = some (.string tx) := HB3.out.1.cell 1
      have qb32_1 : w1.cell? ⟨b3, 2, none⟩ = some (.int .i64 iv) := HB3.out.1.cell 2
      have qb33_1 : w1.cell? ⟨b3, 3, none⟩ = some (.int .i64 (pl : Nat)) := HB3.out.1.cell 3
      by_cases h2 : kd = 2
      · have m2 : ((kd : Int) == 2) = true := by simp [h2]
        have he := HE.out
        rw [if_pos h2] at he
        rw [onB_mv rfl _ r] at he
        have HE := Lib.hid he
        clear he h2
        obtain ⟨i9, k19, hi9, f19, hp⟩ := HS1.out.rd.pass
        have HPS := Lib.hid (And.intro (HS1.out.step (chg_self w1 h 1 (.int .i64 ((i9 : Int) + 1))) hp) (HB3.out.1.chg (chg_self w1 h 1 (.int .i64 ((i9 : Int) + 1))) HB3.out.2))
        clear hp
        go_upto_region 7 with fail
        generalize w1.setCell ⟨h, 1, none⟩ (.int .i64 ((i9 : Int) + 1)) = w2 at *
        have HS2 : Hid (Sd w h L lg w2 r false false) := Lib.hid HPS.out.1
        have HB3 : Hid (Blk w2 b3 56 #[.int .u8 (kd : Nat), .string tx, .int .i64 iv, .int .i64 (pl : Nat)] ∧ b3 ≠ h) := Lib.hid ⟨HPS.out.2, HB3.out.2⟩
        clear HPS k19 f19 HS1
        have qb30_2 : w2.cell? ⟨b3, 0, none⟩ = some (.int .u8 (kd : Nat)) := HB3.out.1.cell 0
        have qb31_2 : w2.cell? ⟨b3, 1, none⟩ = some (.string tx) := HB3.out.1.cell 1
        have qb32_2 : w2.cell? ⟨b3, 2, none⟩ = some (.int .i64 iv) := HB3.out.1.cell 2
        have qb33_2 : w2.cell? ⟨b3, 3, none⟩ = some (.int .i64 (pl : Nat)) := HB3.out.1.cell 3
        have HP : Hid (DPost w h L lg R _ _) := Lib.hid (HS2.out.lit ⟨23, 0, iv, bs []⟩ HE.out)
        go_wp2_with fail
        go_ret
        exact HP.out
      have m2 : ((kd : Int) == 2) = false := by simp; omega
      have he := HE.out
      rw [if_neg h2] at he
      have HE := Lib.hid he
      clear he
      by_cases h3 : kd = 3
      · have m3 : ((kd : Int) == 3) = true := by simp [h3]
        have he := HE.out
        rw [if_pos h3] at he
        rw [onB_mv rfl _ r] at he
        have HE := Lib.hid he
        clear he h3
        obtain ⟨i9, k19, hi9, f19, hp⟩ := HS1.out.rd.pass
        have HPS := Lib.hid (And.intro (HS1.out.step (chg_self w1 h 1 (.int .i64 ((i9 : Int) + 1))) hp) (HB3.out.1.chg (chg_self w1 h 1 (.int .i64 ((i9 : Int) + 1))) HB3.out.2))
        clear hp
        go_upto_region 10 with fail
        generalize w1.setCell ⟨h, 1, none⟩ (.int .i64 ((i9 : Int) + 1)) = w2 at *
        have HS2 : Hid (Sd w h L lg w2 r false false) := Lib.hid HPS.out.1
        have HB3 : Hid (Blk w2 b3 56 #[.int .u8 (kd : Nat), .string tx, .int .i64 iv, .int .i64 (pl : Nat)] ∧ b3 ≠ h) := Lib.hid ⟨HPS.out.2, HB3.out.2⟩
        clear HPS k19 f19 HS1
        have qb30_2 : w2.cell? ⟨b3, 0, none⟩ = some (.int .u8 (kd : Nat)) := HB3.out.1.cell 0
        have qb31_2 : w2.cell? ⟨b3, 1, none⟩ = some (.string tx) := HB3.out.1.cell 1
        have qb32_2 : w2.cell? ⟨b3, 2, none⟩ = some (.int .i64 iv) := HB3.out.1.cell 2
        have qb33_2 : w2.cell? ⟨b3, 3, none⟩ = some (.int .i64 (pl : Nat)) := HB3.out.1.cell 3
        have HP : Hid (DPost w h L lg R _ _) := Lib.hid (HS2.out.lit ⟨24, 0, 0, tx⟩ HE.out)
        go_wp2_with fail
        go_ret
        exact HP.out
      have m3 : ((kd : Int) == 3) = false := by simp; omega
      have he := HE.out
      rw [if_neg h3] at he
      have HE := Lib.hid he
      clear he
      have HC := Lib.hid (HS1.out.mine)
      obtain ⟨v, hv⟩ : ∃ v, v = (!false && mineT (x :: r)) := ⟨_, rfl⟩
      have HV1 := Lib.hid hv
      rw [← hv] at HC
      clear hv
      go_wp2_with fail
      refine HC.out.mono ?_
      rintro e w2 ⟨rfl, hs, hc⟩
      clear HC
      cases v
      rotate_left
      · have he := HE.out
        rw [onB_yes (l' := (x :: r)) HV1.out] at he
        have HE := Lib.hid he
        clear he
        have HS2 : Hid (Sd w h L lg w2 (x :: r) false false) := Lib.hid hs
        have HB3 : Hid (Blk w2 b3 56 #[.int .u8 (kd : Nat), .string tx, .int .i64 iv, .int .i64 (pl : Nat)] ∧ b3 ≠ h) := Lib.hid ⟨HB3.out.1.chg hc HB3.out.2, HB3.out.2⟩
        clear hs hc HS1
        have qb30_2 : w2.cell? ⟨b3, 0, none⟩ = some (.int .u8 (kd : Nat)) := HB3.out.1.cell 0
        have qb31_2 : w2.cell? ⟨b3, 1, none⟩ = some (.string tx) := HB3.out.1.cell 1
        have qb32_2 : w2.cell? ⟨b3, 2, none⟩ = some (.int .i64 iv) := HB3.out.1.cell 2
        have qb33_2 : w2.cell? ⟨b3, 3, none⟩ = some (.int .i64 (pl : Nat)) := HB3.out.1.cell 3
        have he := HE.out
        rw [onB_mv rfl _ r] at he
        have HE := Lib.hid he
        clear he
        obtain ⟨i9, k19, hi9, f19, hp⟩ := HS2.out.rd.pass
        have HPS := Lib.hid (And.intro (HS2.out.step (chg_self w2 h 1 (.int .i64 ((i9 : Int) + 1))) hp) (HB3.out.1.chg (chg_self w2 h 1 (.int .i64 ((i9 : Int) + 1))) HB3.out.2))
        clear hp
        go_upto_region 13 with fail
        generalize w2.setCell ⟨h, 1, none⟩ (.int .i64 ((i9 : Int) + 1)) = w3 at *
        have HS3 : Hid (Sd w h L lg w3 r false false) := Lib.hid HPS.out.1
        have HB3 : Hid (Blk w3 b3 56 #[.int .u8 (kd : Nat), .string tx, .int .i64 iv, .int .i64 (pl : Nat)] ∧ b3 ≠ h) := Lib.hid ⟨HPS.out.2, HB3.out.2⟩
        clear HPS k19 f19 HS2
        have qb30_3 : w3.cell? ⟨b3, 0, none⟩ = some (.int .u8 (kd : Nat)) := HB3.out.1.cell 0
        have qb31_3 : w3.cell? ⟨b3, 1, none⟩ = some (.string tx) := HB3.out.1.cell 1
        have qb32_3 : w3.cell? ⟨b3, 2, none⟩ = some (.int .i64 iv) := HB3.out.1.cell 2
        have qb33_3 : w3.cell? ⟨b3, 3, none⟩ = some (.int .i64 (pl : Nat)) := HB3.out.1.cell 3
        have HP : Hid (DPost w h L lg R _ _) := Lib.hid (HS3.out.lit ⟨26, 0, 0, tx⟩ HE.out)
        go_wp2_with fail
        go_ret
        exact HP.out
      have he := HE.out
      rw [onB_no HV1.out] at he
      have HE := Lib.hid he
      clear he
      have HS2 : Hid (Sd w h L lg w2 (x :: r) false false) := Lib.hid hs
      have HB3 : Hid (Blk w2 b3 56 #[.int .u8 (kd : Nat), .string tx, .int .i64 iv, .int .i64 (pl : Nat)] ∧ b3 ≠ h) := Lib.hid ⟨HB3.out.1.chg hc HB3.out.2, HB3.out.2⟩
      clear hs hc HS1
      have qb30_2 : w2.cell? ⟨b3, 0, none⟩ = some (.int .u8 (kd : Nat)) := HB3.out.1.cell 0
      have qb31_2 : w2.cell? ⟨b3, 1, none⟩ = some (.string tx) := HB3.out.1.cell 1
      have qb32_2 : w2.cell? ⟨b3, 2, none⟩ = some (.int .i64 iv) := HB3.out.1.cell 2
      have qb33_2 : w2.cell? ⟨b3, 3, none⟩ = some (.int .i64 (pl : Nat)) := HB3.out.1.cell 3
      have he := HE.out
      unfold wordD at he
      rw [HKD.out.1, HKD.out.2.1] at he
      have HE := Lib.hid he
      clear he
      have HPL := Lib.hid (fun W => plain_any tx W)
      have HAR := Lib.hid (fun W => around_any tx W)
      obtain ⟨pv, hpv⟩ : ∃ z, z = plainL tx.data.toList := ⟨_, rfl⟩
      obtain ⟨av, hav⟩ : ∃ z, z = aroundL tx.data.toList := ⟨_, rfl⟩
      have he := HE.out
      rw [← hpv, ← hav] at he
      rw [← hpv] at HPL
      rw [← hav] at HAR
      have HE := Lib.hid he
      clear he hpv hav
      by_cases h1 : kd = 1
      · have m1 : ((kd : Int) == 1) = true := by simp [h1]
        by_cases hp0 : pv = 0
        · have n0 : ((pv : Int) != 0) = false := by simp [hp0]
          have he := HE.out
          rw [if_neg (fun hh => hh.2 hp0)] at he
          have HE := Lib.hid he
          clear he
          go_wp2_with fail
          refine (HPL.out _).mono ?_
          rintro e w9 ⟨rfl, hw9⟩
          rw [hw9]
          clear hw9 w9
          by_cases ha0 : av = 0
          · have n1 : ((av : Int) != 0) = false := by simp [ha0]
            have he := HE.out
            rw [if_neg (fun hh => hh.2 ha0)] at he
            have HE := Lib.hid he
            clear he
            go_wp2_with fail
            refine (HAR.out _).mono ?_
            rintro e w9 ⟨rfl, hw9⟩
            rw [hw9]
            clear hw9 w9
            clear hp0 ha0 h1
            have HC := Lib.hid (HS2.out.has [91])
            obtain ⟨v, hv⟩ : ∃ v, v = (!false && isT [91] (x :: r)) := ⟨_, rfl⟩
            have HV2 := Lib.hid hv
            rw [← hv] at HC
            clear hv
            go_wp2_with fail
            refine HC.out.mono ?_
            rintro e w3 ⟨rfl, hs, hc⟩
            clear HC
            cases v
            rotate_left
            · have he := HE.out
              rw [onB_yes (l' := r) HV2.out] at he
              have HE := Lib.hid he
              clear he
              have HS3 : Hid (Sd w h L lg w3 r false false) := Lib.hid hs
              have HB3 : Hid (Blk w3 b3 56 #[.int .u8 (kd : Nat), .string tx, .int .i64 iv, .int .i64 (pl : Nat)] ∧ b3 ≠ h) := Lib.hid ⟨HB3.out.1.chg hc HB3.out.2, HB3.out.2⟩
              clear hs hc HS2
              have qb30_3 : w3.cell? ⟨b3, 0, none⟩ = some (.int .u8 (kd : Nat)) := HB3.out.1.cell 0
              have qb31_3 : w3.cell? ⟨b3, 1, none⟩ = some (.string tx) := HB3.out.1.cell 1
              have qb32_3 : w3.cell? ⟨b3, 2, none⟩ = some (.int .i64 iv) := HB3.out.1.cell 2
              have qb33_3 : w3.cell? ⟨b3, 3, none⟩ = some (.int .i64 (pl : Nat)) := HB3.out.1.cell 3
              have HC := Lib.hid (HS3.out.lis (dexprs_any ih [93] h r _ false w3 HS3.out.rd (fun hb => bind_ne1 (onB_ne HE.out HNE.out hb))))
              go_wp2_with fail
              refine HC.out.mono ?_
              rintro e w4 ⟨ts4, t4, l4, b4, m4, A4, n4, c4, k4, rfl, htl, ho, hs, hc, hsy, hpp⟩
              clear HC
              have he := onB_bind HE.out hsy
              try dsimp only at he
              obtain ⟨M4, hM⟩ : ∃ z, z = (false || m4) := ⟨_, rfl⟩
              rw [← hM] at he hs
              have HE := Lib.hid he
              have HT4 := Lib.hid htl
              have HO4 := Lib.hid ho
              have HPP := Lib.hid hpp
              clear he hsy hM htl ho hpp
              have HS4 : Hid (Sd w h L lg w4 l4 b4 M4) := Lib.hid hs
              have HB3 : Hid (Blk w4 b3 56 #[.int .u8 (kd : Nat), .string tx, .int .i64 iv, .int .i64 (pl : Nat)] ∧ b3 ≠ h) := Lib.hid ⟨HB3.out.1.chg hc HB3.out.2, HB3.out.2⟩
              clear hs hc HS3
              have qb30_4 : w4.cell? ⟨b3, 0, none⟩ = some (.int .u8 (kd : Nat)) := HB3.out.1.cell 0
              have qb31_4 : w4.cell? ⟨b3, 1, none⟩ = some (.string tx) := HB3.out.1.cell 1
              have qb32_4 : w4.cell? ⟨b3, 2, none⟩ = some (.int .i64 iv) := HB3.out.1.cell 2
              have qb33_4 : w4.cell? ⟨b3, 3, none⟩ = some (.int .i64 (pl : Nat)) := HB3.out.1.cell 3
              have HF := Lib.hid (HS4.out.top (tw 25) ts4 (k4 : Nat) HE.out HO4.out (by have := HT4.out; have := HO4.out.len; omega) (fun hb => ⟨by rw [(HPP.out hb).1], (HPP.out hb).2⟩))
              go_wp2_with fail
              refine HF.out.mono ?_
              intro e w99 hp
              obtain ⟨A99, n99, c99, rfl⟩ := hp.ret
              have HP := Lib.hid hp
              clear hp HF
              go_wp2_with fail
              go_ret
              exact HP.out
            have he := HE.out
            rw [onB_no HV2.out] at he
            have HE := Lib.hid he
            clear he
            have HS3 : Hid (Sd w h L lg w3 (x :: r) false false) := Lib.hid hs
            have HB3 : Hid (Blk w3 b3 56 #[.int .u8 (kd : Nat), .string tx, .int .i64 iv, .int .i64 (pl : Nat)] ∧ b3 ≠ h) := Lib.hid ⟨HB3.out.1.chg hc HB3.out.2, HB3.out.2⟩
            clear hs hc HS2
            have qb30_3 : w3.cell? ⟨b3, 0, none⟩ = some (.int .u8 (kd : Nat)) := HB3.out.1.cell 0
            have qb31_3 : w3.cell? ⟨b3, 1, none⟩ = some (.string tx) := HB3.out.1.cell 1
            have qb32_3 : w3.cell? ⟨b3, 2, none⟩ = some (.int .i64 iv) := HB3.out.1.cell 2
            have qb33_3 : w3.cell? ⟨b3, 3, none⟩ = some (.int .i64 (pl : Nat)) := HB3.out.1.cell 3
            have HC := Lib.hid (HS3.out.has [40])
            obtain ⟨v, hv⟩ : ∃ v, v = (!false && isT [40] (x :: r)) := ⟨_, rfl⟩
            have HV3 := Lib.hid hv
            rw [← hv] at HC
            clear hv
            go_wp2_with fail
            refine HC.out.mono ?_
            rintro e w4 ⟨rfl, hs, hc⟩
            clear HC
            cases v
            rotate_left
            · have he := HE.out
              rw [onB_yes (l' := r) HV3.out] at he
              have HE := Lib.hid he
              clear he
              have HS4 : Hid (Sd w h L lg w4 r false false) := Lib.hid hs
              have HB3 : Hid (Blk w4 b3 56 #[.int .u8 (kd : Nat), .string tx, .int .i64 iv, .int .i64 (pl : Nat)] ∧ b3 ≠ h) := Lib.hid ⟨HB3.out.1.chg hc HB3.out.2, HB3.out.2⟩
              clear hs hc HS3
              have qb30_4 : w4.cell? ⟨b3, 0, none⟩ = some (.int .u8 (kd : Nat)) := HB3.out.1.cell 0
              have qb31_4 : w4.cell? ⟨b3, 1, none⟩ = some (.string tx) := HB3.out.1.cell 1
              have qb32_4 : w4.cell? ⟨b3, 2, none⟩ = some (.int .i64 iv) := HB3.out.1.cell 2
              have qb33_4 : w4.cell? ⟨b3, 3, none⟩ = some (.int .i64 (pl : Nat)) := HB3.out.1.cell 3
              have HC := Lib.hid (HS4.out.tree (dexpr_any ih h r _ false w4 HS4.out.rd (fun hb => bind_ne1 (onB_ne HE.out HNE.out hb))))
              go_wp2_with fail
              refine HC.out.mono ?_
              rintro e w5 ⟨t5, l5, b5, m5, A5, n5, c5, rfl, htl, ho, hs, hc, hsy⟩
              clear HC
              have he := onB_bind HE.out hsy
              try dsimp only at he
              obtain ⟨M5, hM⟩ : ∃ z, z = (false || m5) := ⟨_, rfl⟩
              rw [← hM] at he hs
              have HE := Lib.hid he
              have HT5 := Lib.hid htl
              have HO5 := Lib.hid ho
              clear he hsy hM htl ho
              have HS5 : Hid (Sd w h L lg w5 l5 b5 M5) := Lib.hid hs
              have HB3 : Hid (Blk w5 b3 56 #[.int .u8 (kd : Nat), .string tx, .int .i64 iv, .int .i64 (pl : Nat)] ∧ b3 ≠ h) := Lib.hid ⟨HB3.out.1.chg hc HB3.out.2, HB3.out.2⟩
              clear hs hc HS4
              have qb30_5 : w5.cell? ⟨b3, 0, none⟩ = some (.int .u8 (kd : Nat)) := HB3.out.1.cell 0
              have qb31_5 : w5.cell? ⟨b3, 1, none⟩ = some (.string tx) := HB3.out.1.cell 1
              have qb32_5 : w5.cell? ⟨b3, 2, none⟩ = some (.int .i64 iv) := HB3.out.1.cell 2
              have qb33_5 : w5.cell? ⟨b3, 3, none⟩ = some (.int .i64 (pl : Nat)) := HB3.out.1.cell 3
              have HC := Lib.hid (HS5.out.must [41])
              go_wp2_with fail
              refine HC.out.mono ?_
              rintro e w6 ⟨rfl, l6, b6, hs, hc, hsy⟩
              clear HC
              have he := onB_bind HE.out hsy
              try dsimp only at he
              rw [Bool.or_false] at he
              have HE := Lib.hid he
              clear he hsy
              have HS6 : Hid (Sd w h L lg w6 l6 b6 M5) := Lib.hid hs
              have HO5 : Hid (Od w w6 A5 n5 c5 t5) := Lib.hid (HO5.out.chg hc HS5.out.lt)
              have HB3 : Hid (Blk w6 b3 56 #[.int .u8 (kd : Nat), .string tx, .int .i64 iv, .int .i64 (pl : Nat)] ∧ b3 ≠ h) := Lib.hid ⟨HB3.out.1.chg hc HB3.out.2, HB3.out.2⟩
              clear hs hc HS5
              have qb30_6 : w6.cell? ⟨b3, 0, none⟩ = some (.int .u8 (kd : Nat)) := HB3.out.1.cell 0
              have qb31_6 : w6.cell? ⟨b3, 1, none⟩ = some (.string tx) := HB3.out.1.cell 1
              have qb32_6 : w6.cell? ⟨b3, 2, none⟩ = some (.int .i64 iv) := HB3.out.1.cell 2
              have qb33_6 : w6.cell? ⟨b3, 3, none⟩ = some (.int .i64 (pl : Nat)) := HB3.out.1.cell 3
              have HP : Hid (DPost w h L lg R _ _) := Lib.hid (HS6.out.same HO5.out HT5.out HE.out)
              go_wp2_with fail
              go_ret
              exact HP.out
            have he := HE.out
            rw [onB_no HV3.out] at he
            have HE := Lib.hid he
            clear he
            have HS4 : Hid (Sd w h L lg w4 (x :: r) false false) := Lib.hid hs
            have HB3 : Hid (Blk w4 b3 56 #[.int .u8 (kd : Nat), .string tx, .int .i64 iv, .int .i64 (pl : Nat)] ∧ b3 ≠ h) := Lib.hid ⟨HB3.out.1.chg hc HB3.out.2, HB3.out.2⟩
            clear hs hc HS3
            have qb30_4 : w4.cell? ⟨b3, 0, none⟩ = some (.int .u8 (kd : Nat)) := HB3.out.1.cell 0
            have qb31_4 : w4.cell? ⟨b3, 1, none⟩ = some (.string tx) := HB3.out.1.cell 1
            have qb32_4 : w4.cell? ⟨b3, 2, none⟩ = some (.int .i64 iv) := HB3.out.1.cell 2
            have qb33_4 : w4.cell? ⟨b3, 3, none⟩ = some (.int .i64 (pl : Nat)) := HB3.out.1.cell 3
            have HC := Lib.hid (HS4.out.has [110, 117, 109])
            obtain ⟨v, hv⟩ : ∃ v, v = (!false && isT [110, 117, 109] (x :: r)) := ⟨_, rfl⟩
            have HV4 := Lib.hid hv
            rw [← hv] at HC
            clear hv
            go_wp2_with fail
            refine HC.out.mono ?_
            rintro e w5 ⟨rfl, hs, hc⟩
            clear HC
            cases v
            rotate_left
            · have he := HE.out
              rw [onB_yes (l' := r) HV4.out] at he
              have HE := Lib.hid he
              clear he
              have HS5 : Hid (Sd w h L lg w5 r false false) := Lib.hid hs
              have HB3 : Hid (Blk w5 b3 56 #[.int .u8 (kd : Nat), .string tx, .int .i64 iv, .int .i64 (pl : Nat)] ∧ b3 ≠ h) := Lib.hid ⟨HB3.out.1.chg hc HB3.out.2, HB3.out.2⟩
              clear hs hc HS4
              have qb30_5 : w5.cell? ⟨b3, 0, none⟩ = some (.int .u8 (kd : Nat)) := HB3.out.1.cell 0
              have qb31_5 : w5.cell? ⟨b3, 1, none⟩ = some (.string tx) := HB3.out.1.cell 1
              have qb32_5 : w5.cell? ⟨b3, 2, none⟩ = some (.int .i64 iv) := HB3.out.1.cell 2
              have qb33_5 : w5.cell? ⟨b3, 3, none⟩ = some (.int .i64 (pl : Nat)) := HB3.out.1.cell 3
              have HC := Lib.hid (HS5.out.must [40])
              go_wp2_with fail
              refine HC.out.mono ?_
              rintro e w6 ⟨rfl, l6, b6, hs, hc, hsy⟩
              clear HC
              have he := onB_bind HE.out hsy
              try dsimp only at he
              rw [Bool.or_false] at he
              have HE := Lib.hid he
              clear he hsy
              have HS6 : Hid (Sd w h L lg w6 l6 b6 false) := Lib.hid hs
              have HB3 : Hid (Blk w6 b3 56 #[.int .u8 (kd : Nat), .string tx, .int .i64 iv, .int .i64 (pl : Nat)] ∧ b3 ≠ h) := Lib.hid ⟨HB3.out.1.chg hc HB3.out.2, HB3.out.2⟩
              clear hs hc HS5
              have qb30_6 : w6.cell? ⟨b3, 0, none⟩ = some (.int .u8 (kd : Nat)) := HB3.out.1.cell 0
              have qb31_6 : w6.cell? ⟨b3, 1, none⟩ = some (.string tx) := HB3.out.1.cell 1
              have qb32_6 : w6.cell? ⟨b3, 2, none⟩ = some (.int .i64 iv) := HB3.out.1.cell 2
              have qb33_6 : w6.cell? ⟨b3, 3, none⟩ = some (.int .i64 (pl : Nat)) := HB3.out.1.cell 3
              have HC := Lib.hid (HS6.out.tree (dexpr_any ih h l6 _ b6 w6 HS6.out.rd (fun hb => bind_ne1 (onB_ne HE.out HNE.out hb))))
              go_wp2_with fail
              refine HC.out.mono ?_
              rintro e w7 ⟨t7, l7, b7, m7, A7, n7, c7, rfl, htl, ho, hs, hc, hsy⟩
              clear HC
              have he := onB_bind HE.out hsy
              try dsimp only at he
              obtain ⟨M7, hM⟩ : ∃ z, z = (false || m7) := ⟨_, rfl⟩
              rw [← hM] at he hs
              have HE := Lib.hid he
              have HT7 := Lib.hid htl
              have HO7 := Lib.hid ho
              clear he hsy hM htl ho
              have HS7 : Hid (Sd w h L lg w7 l7 b7 M7) := Lib.hid hs
              have HB3 : Hid (Blk w7 b3 56 #[.int .u8 (kd : Nat), .string tx, .int .i64 iv, .int .i64 (pl : Nat)] ∧ b3 ≠ h) := Lib.hid ⟨HB3.out.1.chg hc HB3.out.2, HB3.out.2⟩
              clear hs hc HS6
              have qb30_7 : w7.cell? ⟨b3, 0, none⟩ = some (.int .u8 (kd : Nat)) := HB3.out.1.cell 0
              have qb31_7 : w7.cell? ⟨b3, 1, none⟩ = some (.string tx) := HB3.out.1.cell 1
              have qb32_7 : w7.cell? ⟨b3, 2, none⟩ = some (.int .i64 iv) := HB3.out.1.cell 2
              have qb33_7 : w7.cell? ⟨b3, 3, none⟩ = some (.int .i64 (pl : Nat)) := HB3.out.1.cell 3
              have HC := Lib.hid (HS7.out.must [44])
              go_wp2_with fail
              refine HC.out.mono ?_
              rintro e w8 ⟨rfl, l8, b8, hs, hc, hsy⟩
              clear HC
              have he := onB_bind HE.out hsy
              try dsimp only at he
              rw [Bool.or_false] at he
              have HE := Lib.hid he
              clear he hsy
              have HS8 : Hid (Sd w h L lg w8 l8 b8 M7) := Lib.hid hs
              have HO7 : Hid (Od w w8 A7 n7 c7 t7) := Lib.hid (HO7.out.chg hc HS7.out.lt)
              have HB3 : Hid (Blk w8 b3 56 #[.int .u8 (kd : Nat), .string tx, .int .i64 iv, .int .i64 (pl : Nat)] ∧ b3 ≠ h) := Lib.hid ⟨HB3.out.1.chg hc HB3.out.2, HB3.out.2⟩
              clear hs hc HS7
              have qb30_8 : w8.cell? ⟨b3, 0, none⟩ = some (.int .u8 (kd : Nat)) := HB3.out.1.cell 0
              have qb31_8 : w8.cell? ⟨b3, 1, none⟩ = some (.string tx) := HB3.out.1.cell 1
              have qb32_8 : w8.cell? ⟨b3, 2, none⟩ = some (.int .i64 iv) := HB3.out.1.cell 2
              have qb33_8 : w8.cell? ⟨b3, 3, none⟩ = some (.int .i64 (pl : Nat)) := HB3.out.1.cell 3
              have HC := Lib.hid (HS8.out.tree (dexpr_any ih h l8 _ b8 w8 HS8.out.rd (fun hb => bind_ne1 (onB_ne HE.out HNE.out hb))))
              go_wp2_with fail
              refine HC.out.mono ?_
              rintro e w9 ⟨t9, l9, b9, m9, A9, n9, c9, rfl, htl, ho, hs, hc, hsy⟩
              clear HC
              have he := onB_bind HE.out hsy
              try dsimp only at he
              obtain ⟨M9, hM⟩ : ∃ z, z = (M7 || m9) := ⟨_, rfl⟩
              rw [← hM] at he hs
              have HE := Lib.hid he
              have HT9 := Lib.hid htl
              have HO9 := Lib.hid ho
              clear he hsy hM htl ho
              have HS9 : Hid (Sd w h L lg w9 l9 b9 M9) := Lib.hid hs
              have HO7 : Hid (Od w w9 A7 n7 c7 t7) := Lib.hid (HO7.out.chg hc HS8.out.lt)
              have HB3 : Hid (Blk w9 b3 56 #[.int .u8 (kd : Nat), .string tx, .int .i64 iv, .int .i64 (pl : Nat)] ∧ b3 ≠ h) := Lib.hid ⟨HB3.out.1.chg hc HB3.out.2, HB3.out.2⟩
              clear hs hc HS8
              have qb30_9 : w9.cell? ⟨b3, 0, none⟩ = some (.int .u8 (kd : Nat)) := HB3.out.1.cell 0
              have qb31_9 : w9.cell? ⟨b3, 1, none⟩ = some (.string tx) := HB3.out.1.cell 1
              have qb32_9 : w9.cell? ⟨b3, 2, none⟩ = some (.int .i64 iv) := HB3.out.1.cell 2
              have qb33_9 : w9.cell? ⟨b3, 3, none⟩ = some (.int .i64 (pl : Nat)) := HB3.out.1.cell 3
              have HC := Lib.hid (HS9.out.must [41])
              go_wp2_with fail
              refine HC.out.mono ?_
              rintro e w10 ⟨rfl, l10, b10, hs, hc, hsy⟩
              clear HC
              have he := onB_bind HE.out hsy
              try dsimp only at he
              rw [Bool.or_false] at he
              have HE := Lib.hid he
              clear he hsy
              have HS10 : Hid (Sd w h L lg w10 l10 b10 M9) := Lib.hid hs
              have HO7 : Hid (Od w w10 A7 n7 c7 t7) := Lib.hid (HO7.out.chg hc HS9.out.lt)
              have HO9 : Hid (Od w w10 A9 n9 c9 t9) := Lib.hid (HO9.out.chg hc HS9.out.lt)
              have HB3 : Hid (Blk w10 b3 56 #[.int .u8 (kd : Nat), .string tx, .int .i64 iv, .int .i64 (pl : Nat)] ∧ b3 ≠ h) := Lib.hid ⟨HB3.out.1.chg hc HB3.out.2, HB3.out.2⟩
              clear hs hc HS9
              have qb30_10 : w10.cell? ⟨b3, 0, none⟩ = some (.int .u8 (kd : Nat)) := HB3.out.1.cell 0
              have qb31_10 : w10.cell? ⟨b3, 1, none⟩ = some (.string tx) := HB3.out.1.cell 1
              have qb32_10 : w10.cell? ⟨b3, 2, none⟩ = some (.int .i64 iv) := HB3.out.1.cell 2
              have qb33_10 : w10.cell? ⟨b3, 3, none⟩ = some (.int .i64 (pl : Nat)) := HB3.out.1.cell 3
              have HSZ : Hid (w.heap.size ≤ w10.heap.size ∧ n7 + n9 ≤ 1000000) := Lib.hid ⟨HS10.out.chg.size, by have := HT7.out; have := HT9.out; have := HO7.out.len; have := HO9.out.len; omega⟩
              go_wp2_with (at_builtin; refine wpList_app_tw rfl (.tmp 173) (.tmp 174) rfl w.heap.size n7 c7 n9 c9 A7 A9 t7 t9 rfl HO7.out.own rfl HO9.out.len HO9.out.rd HSZ.out.2 HSZ.out.1 ?_; intro A11 c11 w11 ho9 hg9; have HOZ := Lib.hid (And.intro ho9 hg9); clear ho9 hg9)
              have HO11 : Hid (Od w w11 A11 (n7 + n9) c11 (t7 ++ t9)) := Lib.hid ⟨by rw [List.length_append, HO7.out.len, HO9.out.len], HOZ.out.1⟩
              have HS11 : Hid (Sd w h L lg w11 l10 b10 M9) := Lib.hid (HS10.out.grown HO7.out HOZ.out.2)
              have HT11 : Hid ((t7 ++ t9).length ≤ 200000) := Lib.hid (by rw [List.length_append]; have := HT7.out; have := HT9.out; omega)
              clear HS10 HSZ HOZ
              have HF := Lib.hid (HS11.out.top (tw 41) [t7, t9] 2 HE.out HO11.out (by have := HT11.out; have := HO11.out.len; omega) (fun _ => ⟨rfl, .inl (by simp)⟩))
              refine HF.out.mono ?_
              intro e w99 hp
              obtain ⟨A99, n99, c99, rfl⟩ := hp.ret
              have HP := Lib.hid hp
              clear hp HF
              go_wp2_with fail
              go_ret
              exact HP.out
            have he := HE.out
            rw [onB_no HV4.out] at he
            have HE := Lib.hid he
            clear he
            have HS5 : Hid (Sd w h L lg w5 (x :: r) false false) := Lib.hid hs
            have HB3 : Hid (Blk w5 b3 56 #[.int .u8 (kd : Nat), .string tx, .int .i64 iv, .int .i64 (pl : Nat)] ∧ b3 ≠ h) := Lib.hid ⟨HB3.out.1.chg hc HB3.out.2, HB3.out.2⟩
            clear hs hc HS4
            have qb30_5 : w5.cell? ⟨b3, 0, none⟩ = some (.int .u8 (kd : Nat)) := HB3.out.1.cell 0
            have qb31_5 : w5.cell? ⟨b3, 1, none⟩ = some (.string tx) := HB3.out.1.cell 1
            have qb32_5 : w5.cell? ⟨b3, 2, none⟩ = some (.int .i64 iv) := HB3.out.1.cell 2
            have qb33_5 : w5.cell? ⟨b3, 3, none⟩ = some (.int .i64 (pl : Nat)) := HB3.out.1.cell 3
            have HC := Lib.hid (HS5.out.has [102, 111, 114, 107])
            obtain ⟨v, hv⟩ : ∃ v, v = (!false && isT [102, 111, 114, 107] (x :: r)) := ⟨_, rfl⟩
            have HV5 := Lib.hid hv
            rw [← hv] at HC
            clear hv
            go_wp2_with fail
            refine HC.out.mono ?_
            rintro e w6 ⟨rfl, hs, hc⟩
            clear HC
            cases v
            rotate_left
            · have he := HE.out
              rw [onB_yes (l' := r) HV5.out] at he
              have HE := Lib.hid he
              clear he
              have HS6 : Hid (Sd w h L lg w6 r false false) := Lib.hid hs
              have HB3 : Hid (Blk w6 b3 56 #[.int .u8 (kd : Nat), .string tx, .int .i64 iv, .int .i64 (pl : Nat)] ∧ b3 ≠ h) := Lib.hid ⟨HB3.out.1.chg hc HB3.out.2, HB3.out.2⟩
              clear hs hc HS5
              have qb30_6 : w6.cell? ⟨b3, 0, none⟩ = some (.int .u8 (kd : Nat)) := HB3.out.1.cell 0
              have qb31_6 : w6.cell? ⟨b3, 1, none⟩ = some (.string tx) := HB3.out.1.cell 1
              have qb32_6 : w6.cell? ⟨b3, 2, none⟩ = some (.int .i64 iv) := HB3.out.1.cell 2
              have qb33_6 : w6.cell? ⟨b3, 3, none⟩ = some (.int .i64 (pl : Nat)) := HB3.out.1.cell 3
              have HC := Lib.hid (HS6.out.tree (ih .block h r _ false w6 HS6.out.rd (fun hb => bind_ne1 (onB_ne HE.out HNE.out hb))))
              go_wp2_with fail
              refine HC.out.mono ?_
              rintro e w7 ⟨t7, l7, b7, m7, A7, n7, c7, rfl, htl, ho, hs, hc, hsy⟩
              clear HC
              have he := onB_bind HE.out hsy
              try dsimp only at he
              obtain ⟨M7, hM⟩ : ∃ z, z = (false || m7) := ⟨_, rfl⟩
              rw [← hM] at he hs
              have HE := Lib.hid he
              have HT7 := Lib.hid htl
              have HO7 := Lib.hid ho
              clear he hsy hM htl ho
              have HS7 : Hid (Sd w h L lg w7 l7 b7 M7) := Lib.hid hs
              have HB3 : Hid (Blk w7 b3 56 #[.int .u8 (kd : Nat), .string tx, .int .i64 iv, .int .i64 (pl : Nat)] ∧ b3 ≠ h) := Lib.hid ⟨HB3.out.1.chg hc HB3.out.2, HB3.out.2⟩
              clear hs hc HS6
              have qb30_7 : w7.cell? ⟨b3, 0, none⟩ = some (.int .u8 (kd : Nat)) := HB3.out.1.cell 0
              have qb31_7 : w7.cell? ⟨b3, 1, none⟩ = some (.string tx) := HB3.out.1.cell 1
              have qb32_7 : w7.cell? ⟨b3, 2, none⟩ = some (.int .i64 iv) := HB3.out.1.cell 2
              have qb33_7 : w7.cell? ⟨b3, 3, none⟩ = some (.int .i64 (pl : Nat)) := HB3.out.1.cell 3
              have HF := Lib.hid (HS7.out.top (tw 53) [t7] 1 HE.out HO7.out (by have := HT7.out; have := HO7.out.len; omega) (fun _ => ⟨rfl, .inl (by simp)⟩))
              go_wp2_with fail
              refine HF.out.mono ?_
              intro e w99 hp
              obtain ⟨A99, n99, c99, rfl⟩ := hp.ret
              have HP := Lib.hid hp
              clear hp HF
              go_wp2_with fail
              go_ret
              exact HP.out
            have he := HE.out
            rw [onB_no HV5.out] at he
            have HE := Lib.hid he
            clear he
            have HS6 : Hid (Sd w h L lg w6 (x :: r) false false) := Lib.hid hs
            have HB3 : Hid (Blk w6 b3 56 #[.int .u8 (kd : Nat), .string tx, .int .i64 iv, .int .i64 (pl : Nat)] ∧ b3 ≠ h) := Lib.hid ⟨HB3.out.1.chg hc HB3.out.2, HB3.out.2⟩
            clear hs hc HS5
            have qb30_6 : w6.cell? ⟨b3, 0, none⟩ = some (.int .u8 (kd : Nat)) := HB3.out.1.cell 0
            have qb31_6 : w6.cell? ⟨b3, 1, none⟩ = some (.string tx) := HB3.out.1.cell 1
            have qb32_6 : w6.cell? ⟨b3, 2, none⟩ = some (.int .i64 iv) := HB3.out.1.cell 2
            have qb33_6 : w6.cell? ⟨b3, 3, none⟩ = some (.int .i64 (pl : Nat)) := HB3.out.1.cell 3
            have HC := Lib.hid (HS6.out.has [116, 97, 107, 101])
            obtain ⟨v, hv⟩ : ∃ v, v = (!false && isT [116, 97, 107, 101] (x :: r)) := ⟨_, rfl⟩
            have HV6 := Lib.hid hv
            rw [← hv] at HC
            clear hv
            go_wp2_with fail
            refine HC.out.mono ?_
            rintro e w7 ⟨rfl, hs, hc⟩
            clear HC
            cases v
            rotate_left
            · have he := HE.out
              rw [onB_yes (l' := r) HV6.out] at he
              have HE := Lib.hid he
              clear he
              have HS7 : Hid (Sd w h L lg w7 r false false) := Lib.hid hs
              have HB3 : Hid (Blk w7 b3 56 #[.int .u8 (kd : Nat), .string tx, .int .i64 iv, .int .i64 (pl : Nat)] ∧ b3 ≠ h) := Lib.hid ⟨HB3.out.1.chg hc HB3.out.2, HB3.out.2⟩
              clear hs hc HS6
              have qb30_7 : w7.cell? ⟨b3, 0, none⟩ = some (.int .u8 (kd : Nat)) := HB3.out.1.cell 0
              have qb31_7 : w7.cell? ⟨b3, 1, none⟩ = some (.string tx) := HB3.out.1.cell 1
              have qb32_7 : w7.cell? ⟨b3, 2, none⟩ = some (.int .i64 iv) := HB3.out.1.cell 2
              have qb33_7 : w7.cell? ⟨b3, 3, none⟩ = some (.int .i64 (pl : Nat)) := HB3.out.1.cell 3
              have HC := Lib.hid HS7.out.own
              go_wp2_with fail
              refine HC.out.mono ?_
              rintro e w8 ⟨s8, l8, b8, rfl, hs, hc, hsy⟩
              clear HC
              have he := onB_bind HE.out hsy
              try dsimp only at he
              rw [Bool.or_false] at he
              have HE := Lib.hid he
              clear he hsy
              have HS8 : Hid (Sd w h L lg w8 l8 b8 false) := Lib.hid hs
              have HB3 : Hid (Blk w8 b3 56 #[.int .u8 (kd : Nat), .string tx, .int .i64 iv, .int .i64 (pl : Nat)] ∧ b3 ≠ h) := Lib.hid ⟨HB3.out.1.chg hc HB3.out.2, HB3.out.2⟩
              clear hs hc HS7
              have qb30_8 : w8.cell? ⟨b3, 0, none⟩ = some (.int .u8 (kd : Nat)) := HB3.out.1.cell 0
              have qb31_8 : w8.cell? ⟨b3, 1, none⟩ = some (.string tx) := HB3.out.1.cell 1
              have qb32_8 : w8.cell? ⟨b3, 2, none⟩ = some (.int .i64 iv) := HB3.out.1.cell 2
              have qb33_8 : w8.cell? ⟨b3, 3, none⟩ = some (.int .i64 (pl : Nat)) := HB3.out.1.cell 3
              have HP : Hid (DPost w h L lg R _ _) := Lib.hid (HS8.out.lit ⟨56, 0, 0, s8⟩ HE.out)
              go_wp2_with fail
              go_ret
              exact HP.out
            have he := HE.out
            rw [onB_no HV6.out] at he
            have HE := Lib.hid he
            clear he
            have HS7 : Hid (Sd w h L lg w7 (x :: r) false false) := Lib.hid hs
            have HB3 : Hid (Blk w7 b3 56 #[.int .u8 (kd : Nat), .string tx, .int .i64 iv, .int .i64 (pl : Nat)] ∧ b3 ≠ h) := Lib.hid ⟨HB3.out.1.chg hc HB3.out.2, HB3.out.2⟩
            clear hs hc HS6
            have qb30_7 : w7.cell? ⟨b3, 0, none⟩ = some (.int .u8 (kd : Nat)) := HB3.out.1.cell 0
            have qb31_7 : w7.cell? ⟨b3, 1, none⟩ = some (.string tx) := HB3.out.1.cell 1
            have qb32_7 : w7.cell? ⟨b3, 2, none⟩ = some (.int .i64 iv) := HB3.out.1.cell 2
            have qb33_7 : w7.cell? ⟨b3, 3, none⟩ = some (.int .i64 (pl : Nat)) := HB3.out.1.cell 3
            have HC := Lib.hid (HS7.out.has [99, 97, 108, 108])
            obtain ⟨v, hv⟩ : ∃ v, v = (!false && isT [99, 97, 108, 108] (x :: r)) := ⟨_, rfl⟩
            have HV7 := Lib.hid hv
            rw [← hv] at HC
            clear hv
            go_wp2_with fail
            refine HC.out.mono ?_
            rintro e w8 ⟨rfl, hs, hc⟩
            clear HC
            cases v
            rotate_left
            · have he := HE.out
              rw [onB_yes (l' := r) HV7.out] at he
              have HE := Lib.hid he
              clear he
              have HS8 : Hid (Sd w h L lg w8 r false false) := Lib.hid hs
              have HB3 : Hid (Blk w8 b3 56 #[.int .u8 (kd : Nat), .string tx, .int .i64 iv, .int .i64 (pl : Nat)] ∧ b3 ≠ h) := Lib.hid ⟨HB3.out.1.chg hc HB3.out.2, HB3.out.2⟩
              clear hs hc HS7
              have qb30_8 : w8.cell? ⟨b3, 0, none⟩ = some (.int .u8 (kd : Nat)) := HB3.out.1.cell 0
              have qb31_8 : w8.cell? ⟨b3, 1, none⟩ = some (.string tx) := HB3.out.1.cell 1
              have qb32_8 : w8.cell? ⟨b3, 2, none⟩ = some (.int .i64 iv) := HB3.out.1.cell 2
              have qb33_8 : w8.cell? ⟨b3, 3, none⟩ = some (.int .i64 (pl : Nat)) := HB3.out.1.cell 3
              have HF := Lib.hid (HS8.out.hand HE.out (dasked_any ih 50 h r _ false w8 HS8.out.rd (fun hb => onB_ne HE.out HNE.out hb)))
              go_wp2_with fail
              refine HF.out.mono ?_
              intro e w99 hp
              obtain ⟨A99, n99, c99, rfl⟩ := hp.ret
              have HP := Lib.hid hp
              clear hp HF
              go_wp2_with fail
              go_ret
              exact HP.out
            have he := HE.out
            rw [onB_no HV7.out] at he
            have HE := Lib.hid he
            clear he
            have HS8 : Hid (Sd w h L lg w8 (x :: r) false false) := Lib.hid hs
            have HB3 : Hid (Blk w8 b3 56 #[.int .u8 (kd : Nat), .string tx, .int .i64 iv, .int .i64 (pl : Nat)] ∧ b3 ≠ h) := Lib.hid ⟨HB3.out.1.chg hc HB3.out.2, HB3.out.2⟩
            clear hs hc HS7
            have qb30_8 : w8.cell? ⟨b3, 0, none⟩ = some (.int .u8 (kd : Nat)) := HB3.out.1.cell 0
            have qb31_8 : w8.cell? ⟨b3, 1, none⟩ = some (.string tx) := HB3.out.1.cell 1
            have qb32_8 : w8.cell? ⟨b3, 2, none⟩ = some (.int .i64 iv) := HB3.out.1.cell 2
            have qb33_8 : w8.cell? ⟨b3, 3, none⟩ = some (.int .i64 (pl : Nat)) := HB3.out.1.cell 3
            have HC := Lib.hid (HS8.out.has [99, 104, 105, 108, 100])
            obtain ⟨v, hv⟩ : ∃ v, v = (!false && isT [99, 104, 105, 108, 100] (x :: r)) := ⟨_, rfl⟩
            have HV8 := Lib.hid hv
            rw [← hv] at HC
            clear hv
            go_wp2_with fail
            refine HC.out.mono ?_
            rintro e w9 ⟨rfl, hs, hc⟩
            clear HC
            cases v
            rotate_left
            · have he := HE.out
              rw [onB_yes (l' := r) HV8.out] at he
              have HE := Lib.hid he
              clear he
              have HS9 : Hid (Sd w h L lg w9 r false false) := Lib.hid hs
              have HB3 : Hid (Blk w9 b3 56 #[.int .u8 (kd : Nat), .string tx, .int .i64 iv, .int .i64 (pl : Nat)] ∧ b3 ≠ h) := Lib.hid ⟨HB3.out.1.chg hc HB3.out.2, HB3.out.2⟩
              clear hs hc HS8
              have qb30_9 : w9.cell? ⟨b3, 0, none⟩ = some (.int .u8 (kd : Nat)) := HB3.out.1.cell 0
              have qb31_9 : w9.cell? ⟨b3, 1, none⟩ = some (.string tx) := HB3.out.1.cell 1
              have qb32_9 : w9.cell? ⟨b3, 2, none⟩ = some (.int .i64 iv) := HB3.out.1.cell 2
              have qb33_9 : w9.cell? ⟨b3, 3, none⟩ = some (.int .i64 (pl : Nat)) := HB3.out.1.cell 3
              have HF := Lib.hid (HS9.out.hand HE.out (dasked_any ih 51 h r _ false w9 HS9.out.rd (fun hb => onB_ne HE.out HNE.out hb)))
              go_wp2_with fail
              refine HF.out.mono ?_
              intro e w99 hp
              obtain ⟨A99, n99, c99, rfl⟩ := hp.ret
              have HP := Lib.hid hp
              clear hp HF
              go_wp2_with fail
              go_ret
              exact HP.out
            have he := HE.out
            rw [onB_no HV8.out] at he
            have HE := Lib.hid he
            clear he
            have HS9 : Hid (Sd w h L lg w9 (x :: r) false false) := Lib.hid hs
            have HB3 : Hid (Blk w9 b3 56 #[.int .u8 (kd : Nat), .string tx, .int .i64 iv, .int .i64 (pl : Nat)] ∧ b3 ≠ h) := Lib.hid ⟨HB3.out.1.chg hc HB3.out.2, HB3.out.2⟩
            clear hs hc HS8
            have qb30_9 : w9.cell? ⟨b3, 0, none⟩ = some (.int .u8 (kd : Nat)) := HB3.out.1.cell 0
            have qb31_9 : w9.cell? ⟨b3, 1, none⟩ = some (.string tx) := HB3.out.1.cell 1
            have qb32_9 : w9.cell? ⟨b3, 2, none⟩ = some (.int .i64 iv) := HB3.out.1.cell 2
            have qb33_9 : w9.cell? ⟨b3, 3, none⟩ = some (.int .i64 (pl : Nat)) := HB3.out.1.cell 3
            obtain ⟨hsp, f2⟩ := StD.spoil HS9.out.rd
            have k2 := HS9.out.rd.bad_cell
            have HP : Hid (DPost w h L lg R (.returned (.slice none 0 0)) (w9.setCell ⟨h, 2, none⟩ (.bool true))) := Lib.hid (Sd.wrong (HS9.out.step (chg_self w9 h 2 (.bool true)) hsp) (by rw [HE.out]; unfold onB; split <;> rfl))
            clear hsp
            go_wp2_with fail
            go_ret
            exact HP.out
          · have n1 : ((av : Int) != 0) = true := by simpa using ha0
            have he := HE.out
            rw [if_pos ⟨h1, ha0⟩] at he
            unfold oneP at he
            rw [onB_mv rfl _ r] at he
            have HE := Lib.hid he
            clear he
            go_wp2_with fail
            refine (HAR.out _).mono ?_
            rintro e w9 ⟨rfl, hw9⟩
            rw [hw9]
            clear hw9 w9
            obtain ⟨i9, k19, hi9, f19, hp⟩ := HS2.out.rd.pass
            have HPS := Lib.hid (And.intro (HS2.out.step (chg_self w2 h 1 (.int .i64 ((i9 : Int) + 1))) hp) (HB3.out.1.chg (chg_self w2 h 1 (.int .i64 ((i9 : Int) + 1))) HB3.out.2))
            clear hp
            go_upto_region 19 with fail
            generalize w2.setCell ⟨h, 1, none⟩ (.int .i64 ((i9 : Int) + 1)) = w3 at *
            have HS3 : Hid (Sd w h L lg w3 r false false) := Lib.hid HPS.out.1
            have HB3 : Hid (Blk w3 b3 56 #[.int .u8 (kd : Nat), .string tx, .int .i64 iv, .int .i64 (pl : Nat)] ∧ b3 ≠ h) := Lib.hid ⟨HPS.out.2, HB3.out.2⟩
            clear HPS k19 f19 HS2
            have qb30_3 : w3.cell? ⟨b3, 0, none⟩ = some (.int .u8 (kd : Nat)) := HB3.out.1.cell 0
            have qb31_3 : w3.cell? ⟨b3, 1, none⟩ = some (.string tx) := HB3.out.1.cell 1
            have qb32_3 : w3.cell? ⟨b3, 2, none⟩ = some (.int .i64 iv) := HB3.out.1.cell 2
            have qb33_3 : w3.cell? ⟨b3, 3, none⟩ = some (.int .i64 (pl : Nat)) := HB3.out.1.cell 3
            have HC := Lib.hid (HS3.out.must [40])
            go_wp2_with fail
            refine HC.out.mono ?_
            rintro e w4 ⟨rfl, l4, b4, hs, hc, hsy⟩
            clear HC
            have he := onB_bind HE.out hsy
            try dsimp only at he
            rw [Bool.or_false] at he
            have HE := Lib.hid he
            clear he hsy
            have HS4 : Hid (Sd w h L lg w4 l4 b4 false) := Lib.hid hs
            have HB3 : Hid (Blk w4 b3 56 #[.int .u8 (kd : Nat), .string tx, .int .i64 iv, .int .i64 (pl : Nat)] ∧ b3 ≠ h) := Lib.hid ⟨HB3.out.1.chg hc HB3.out.2, HB3.out.2⟩
            clear hs hc HS3
            have qb30_4 : w4.cell? ⟨b3, 0, none⟩ = some (.int .u8 (kd : Nat)) := HB3.out.1.cell 0
            have qb31_4 : w4.cell? ⟨b3, 1, none⟩ = some (.string tx) := HB3.out.1.cell 1
            have qb32_4 : w4.cell? ⟨b3, 2, none⟩ = some (.int .i64 iv) := HB3.out.1.cell 2
            have qb33_4 : w4.cell? ⟨b3, 3, none⟩ = some (.int .i64 (pl : Nat)) := HB3.out.1.cell 3
            have HC := Lib.hid (HS4.out.tree (dexpr_any ih h l4 _ b4 w4 HS4.out.rd (fun hb => bind_ne1 (onB_ne HE.out HNE.out hb))))
            go_wp2_with fail
            refine HC.out.mono ?_
            rintro e w5 ⟨t5, l5, b5, m5, A5, n5, c5, rfl, htl, ho, hs, hc, hsy⟩
            clear HC
            have he := onB_bind HE.out hsy
            try dsimp only at he
            obtain ⟨M5, hM⟩ : ∃ z, z = (false || m5) := ⟨_, rfl⟩
            rw [← hM] at he hs
            have HE := Lib.hid he
            have HT5 := Lib.hid htl
            have HO5 := Lib.hid ho
            clear he hsy hM htl ho
            have HS5 : Hid (Sd w h L lg w5 l5 b5 M5) := Lib.hid hs
            have HB3 : Hid (Blk w5 b3 56 #[.int .u8 (kd : Nat), .string tx, .int .i64 iv, .int .i64 (pl : Nat)] ∧ b3 ≠ h) := Lib.hid ⟨HB3.out.1.chg hc HB3.out.2, HB3.out.2⟩
            clear hs hc HS4
            have qb30_5 : w5.cell? ⟨b3, 0, none⟩ = some (.int .u8 (kd : Nat)) := HB3.out.1.cell 0
            have qb31_5 : w5.cell? ⟨b3, 1, none⟩ = some (.string tx) := HB3.out.1.cell 1
            have qb32_5 : w5.cell? ⟨b3, 2, none⟩ = some (.int .i64 iv) := HB3.out.1.cell 2
            have qb33_5 : w5.cell? ⟨b3, 3, none⟩ = some (.int .i64 (pl : Nat)) := HB3.out.1.cell 3
            have HC := Lib.hid (HS5.out.must [41])
            go_wp2_with fail
            refine HC.out.mono ?_
            rintro e w6 ⟨rfl, l6, b6, hs, hc, hsy⟩
            clear HC
            have he := onB_bind HE.out hsy
            try dsimp only at he
            rw [Bool.or_false] at he
            have HE := Lib.hid he
            clear he hsy
            have HS6 : Hid (Sd w h L lg w6 l6 b6 M5) := Lib.hid hs
            have HO5 : Hid (Od w w6 A5 n5 c5 t5) := Lib.hid (HO5.out.chg hc HS5.out.lt)
            have HB3 : Hid (Blk w6 b3 56 #[.int .u8 (kd : Nat), .string tx, .int .i64 iv, .int .i64 (pl : Nat)] ∧ b3 ≠ h) := Lib.hid ⟨HB3.out.1.chg hc HB3.out.2, HB3.out.2⟩
            clear hs hc HS5
            have qb30_6 : w6.cell? ⟨b3, 0, none⟩ = some (.int .u8 (kd : Nat)) := HB3.out.1.cell 0
            have qb31_6 : w6.cell? ⟨b3, 1, none⟩ = some (.string tx) := HB3.out.1.cell 1
            have qb32_6 : w6.cell? ⟨b3, 2, none⟩ = some (.int .i64 iv) := HB3.out.1.cell 2
            have qb33_6 : w6.cell? ⟨b3, 3, none⟩ = some (.int .i64 (pl : Nat)) := HB3.out.1.cell 3
            have HF := Lib.hid (HS6.out.top (tw av) [t5] 1 HE.out HO5.out (by have := HT5.out; have := HO5.out.len; omega) (fun _ => ⟨rfl, .inl (by simp)⟩))
            go_wp2_with fail
            refine (HAR.out _).mono ?_
            rintro e w9 ⟨rfl, hw9⟩
            rw [hw9]
            clear hw9 w9
            go_wp2_with fail
            refine HF.out.mono ?_
            intro e w99 hp
            obtain ⟨A99, n99, c99, rfl⟩ := hp.ret
            have HP := Lib.hid hp
            clear hp HF
            go_wp2_with fail
            go_ret
            exact HP.out
        · have n0 : ((pv : Int) != 0) = true := by simpa using hp0
          have he := HE.out
          rw [if_pos ⟨h1, hp0⟩] at he
          rw [onB_mv rfl _ r] at he
          have HE := Lib.hid he
          clear he
          go_wp2_with fail
          refine (HPL.out _).mono ?_
          rintro e w9 ⟨rfl, hw9⟩
          rw [hw9]
          clear hw9 w9
          obtain ⟨i9, k19, hi9, f19, hp⟩ := HS2.out.rd.pass
          have HPS := Lib.hid (And.intro (HS2.out.step (chg_self w2 h 1 (.int .i64 ((i9 : Int) + 1))) hp) (HB3.out.1.chg (chg_self w2 h 1 (.int .i64 ((i9 : Int) + 1))) HB3.out.2))
          clear hp
          go_upto_region 16 with fail
          generalize w2.setCell ⟨h, 1, none⟩ (.int .i64 ((i9 : Int) + 1)) = w3 at *
          have HS3 : Hid (Sd w h L lg w3 r false false) := Lib.hid HPS.out.1
          have HB3 : Hid (Blk w3 b3 56 #[.int .u8 (kd : Nat), .string tx, .int .i64 iv, .int .i64 (pl : Nat)] ∧ b3 ≠ h) := Lib.hid ⟨HPS.out.2, HB3.out.2⟩
          clear HPS k19 f19 HS2
          have qb30_3 : w3.cell? ⟨b3, 0, none⟩ = some (.int .u8 (kd : Nat)) := HB3.out.1.cell 0
          have qb31_3 : w3.cell? ⟨b3, 1, none⟩ = some (.string tx) := HB3.out.1.cell 1
          have qb32_3 : w3.cell? ⟨b3, 2, none⟩ = some (.int .i64 iv) := HB3.out.1.cell 2
          have qb33_3 : w3.cell? ⟨b3, 3, none⟩ = some (.int .i64 (pl : Nat)) := HB3.out.1.cell 3
          have HP : Hid (DPost w h L lg R _ _) := Lib.hid (HS3.out.lit (tw pv) HE.out)
          go_wp2_with fail
          refine (HPL.out _).mono ?_
          rintro e w9 ⟨rfl, hw9⟩
          rw [hw9]
          clear hw9 w9
          go_wp2_with fail
          go_ret
          exact HP.out
      · have m1 : ((kd : Int) == 1) = false := by simp; omega
        have he := HE.out
        rw [if_neg (fun hh => h1 hh.1), if_neg (fun hh => h1 hh.1)] at he
        have HE := Lib.hid he
        have HNO : Hid (∀ s, s ∈ kw28 → isT s (x :: r) = false) := Lib.hid fun s hs => by
          rw [isT_kw HGX.out hs]
          exact decide_eq_false (fun hh => h1 (HKD.out.1 ▸ hh.1))
        clear he h1 h2 h3
        have HC := Lib.hid (HS2.out.has [91])
        obtain ⟨v, hv⟩ : ∃ v, v = (!false && isT [91] (x :: r)) := ⟨_, rfl⟩
        have HV2 := Lib.hid hv
        rw [← hv] at HC
        clear hv
        go_wp2_with fail
        refine HC.out.mono ?_
        rintro e w3 ⟨rfl, hs, hc⟩
        clear HC
        cases v
        rotate_left
        · have he := HE.out
          rw [onB_yes (l' := r) HV2.out] at he
          have HE := Lib.hid he
          clear he
          have HS3 : Hid (Sd w h L lg w3 r false false) := Lib.hid hs
          have HB3 : Hid (Blk w3 b3 56 #[.int .u8 (kd : Nat), .string tx, .int .i64 iv, .int .i64 (pl : Nat)] ∧ b3 ≠ h) := Lib.hid ⟨HB3.out.1.chg hc HB3.out.2, HB3.out.2⟩
          clear hs hc HS2
          have qb30_3 : w3.cell? ⟨b3, 0, none⟩ = some (.int .u8 (kd : Nat)) := HB3.out.1.cell 0
          have qb31_3 : w3.cell? ⟨b3, 1, none⟩ = some (.string tx) := HB3.out.1.cell 1
          have qb32_3 : w3.cell? ⟨b3, 2, none⟩ = some (.int .i64 iv) := HB3.out.1.cell 2
          have qb33_3 : w3.cell? ⟨b3, 3, none⟩ = some (.int .i64 (pl : Nat)) := HB3.out.1.cell 3
          have HC := Lib.hid (HS3.out.lis (dexprs_any ih [93] h r _ false w3 HS3.out.rd (fun hb => bind_ne1 (onB_ne HE.out HNE.out hb))))
          go_wp2_with fail
          refine HC.out.mono ?_
          rintro e w4 ⟨ts4, t4, l4, b4, m4, A4, n4, c4, k4, rfl, htl, ho, hs, hc, hsy, hpp⟩
          clear HC
          have he := onB_bind HE.out hsy
          try dsimp only at he
          obtain ⟨M4, hM⟩ : ∃ z, z = (false || m4) := ⟨_, rfl⟩
          rw [← hM] at he hs
          have HE := Lib.hid he
          have HT4 := Lib.hid htl
          have HO4 := Lib.hid ho
          have HPP := Lib.hid hpp
          clear he hsy hM htl ho hpp
          have HS4 : Hid (Sd w h L lg w4 l4 b4 M4) := Lib.hid hs
          have HB3 : Hid (Blk w4 b3 56 #[.int .u8 (kd : Nat), .string tx, .int .i64 iv, .int .i64 (pl : Nat)] ∧ b3 ≠ h) := Lib.hid ⟨HB3.out.1.chg hc HB3.out.2, HB3.out.2⟩
          clear hs hc HS3
          have qb30_4 : w4.cell? ⟨b3, 0, none⟩ = some (.int .u8 (kd : Nat)) := HB3.out.1.cell 0
          have qb31_4 : w4.cell? ⟨b3, 1, none⟩ = some (.string tx) := HB3.out.1.cell 1
          have qb32_4 : w4.cell? ⟨b3, 2, none⟩ = some (.int .i64 iv) := HB3.out.1.cell 2
          have qb33_4 : w4.cell? ⟨b3, 3, none⟩ = some (.int .i64 (pl : Nat)) := HB3.out.1.cell 3
          have HF := Lib.hid (HS4.out.top (tw 25) ts4 (k4 : Nat) HE.out HO4.out (by have := HT4.out; have := HO4.out.len; omega) (fun hb => ⟨by rw [(HPP.out hb).1], (HPP.out hb).2⟩))
          go_wp2_with fail
          refine HF.out.mono ?_
          intro e w99 hp
          obtain ⟨A99, n99, c99, rfl⟩ := hp.ret
          have HP := Lib.hid hp
          clear hp HF
          go_wp2_with fail
          go_ret
          exact HP.out
        have he := HE.out
        rw [onB_no HV2.out] at he
        have HE := Lib.hid he
        clear he
        have HS3 : Hid (Sd w h L lg w3 (x :: r) false false) := Lib.hid hs
        have HB3 : Hid (Blk w3 b3 56 #[.int .u8 (kd : Nat), .string tx, .int .i64 iv, .int .i64 (pl : Nat)] ∧ b3 ≠ h) := Lib.hid ⟨HB3.out.1.chg hc HB3.out.2, HB3.out.2⟩
        clear hs hc HS2
        have qb30_3 : w3.cell? ⟨b3, 0, none⟩ = some (.int .u8 (kd : Nat)) := HB3.out.1.cell 0
        have qb31_3 : w3.cell? ⟨b3, 1, none⟩ = some (.string tx) := HB3.out.1.cell 1
        have qb32_3 : w3.cell? ⟨b3, 2, none⟩ = some (.int .i64 iv) := HB3.out.1.cell 2
        have qb33_3 : w3.cell? ⟨b3, 3, none⟩ = some (.int .i64 (pl : Nat)) := HB3.out.1.cell 3
        have HC := Lib.hid (HS3.out.has [40])
        obtain ⟨v, hv⟩ : ∃ v, v = (!false && isT [40] (x :: r)) := ⟨_, rfl⟩
        have HV3 := Lib.hid hv
        rw [← hv] at HC
        clear hv
        go_wp2_with fail
        refine HC.out.mono ?_
        rintro e w4 ⟨rfl, hs, hc⟩
        clear HC
        cases v
        rotate_left
        · have he := HE.out
          rw [onB_yes (l' := r) HV3.out] at he
          have HE := Lib.hid he
          clear he
          have HS4 : Hid (Sd w h L lg w4 r false false) := Lib.hid hs
          have HB3 : Hid (Blk w4 b3 56 #[.int .u8 (kd : Nat), .string tx, .int .i64 iv, .int .i64 (pl : Nat)] ∧ b3 ≠ h) := Lib.hid ⟨HB3.out.1.chg hc HB3.out.2, HB3.out.2⟩
          clear hs hc HS3
          have qb30_4 : w4.cell? ⟨b3, 0, none⟩ = some (.int .u8 (kd : Nat)) := HB3.out.1.cell 0
          have qb31_4 : w4.cell? ⟨b3, 1, none⟩ = some (.string tx) := HB3.out.1.cell 1
          have qb32_4 : w4.cell? ⟨b3, 2, none⟩ = some (.int .i64 iv) := HB3.out.1.cell 2
          have qb33_4 : w4.cell? ⟨b3, 3, none⟩ = some (.int .i64 (pl : Nat)) := HB3.out.1.cell 3
          have HC := Lib.hid (HS4.out.tree (dexpr_any ih h r _ false w4 HS4.out.rd (fun hb => bind_ne1 (onB_ne HE.out HNE.out hb))))
          go_wp2_with fail
          refine HC.out.mono ?_
          rintro e w5 ⟨t5, l5, b5, m5, A5, n5, c5, rfl, htl, ho, hs, hc, hsy⟩
          clear HC
          have he := onB_bind HE.out hsy
          try dsimp only at he
          obtain ⟨M5, hM⟩ : ∃ z, z = (false || m5) := ⟨_, rfl⟩
          rw [← hM] at he hs
          have HE := Lib.hid he
          have HT5 := Lib.hid htl
          have HO5 := Lib.hid ho
          clear he hsy hM htl ho
          have HS5 : Hid (Sd w h L lg w5 l5 b5 M5) := Lib.hid hs
          have HB3 : Hid (Blk w5 b3 56 #[.int .u8 (kd : Nat), .string tx, .int .i64 iv, .int .i64 (pl : Nat)] ∧ b3 ≠ h) := Lib.hid ⟨HB3.out.1.chg hc HB3.out.2, HB3.out.2⟩
          clear hs hc HS4
          have qb30_5 : w5.cell? ⟨b3, 0, none⟩ = some (.int .u8 (kd : Nat)) := HB3.out.1.cell 0
          have qb31_5 : w5.cell? ⟨b3, 1, none⟩ = some (.string tx) := HB3.out.1.cell 1
          have qb32_5 : w5.cell? ⟨b3, 2, none⟩ = some (.int .i64 iv) := HB3.out.1.cell 2
          have qb33_5 : w5.cell? ⟨b3, 3, none⟩ = some (.int .i64 (pl : Nat)) := HB3.out.1.cell 3
          have HC := Lib.hid (HS5.out.must [41])
          go_wp2_with fail
          refine HC.out.mono ?_
          rintro e w6 ⟨rfl, l6, b6, hs, hc, hsy⟩
          clear HC
          have he := onB_bind HE.out hsy
          try dsimp only at he
          rw [Bool.or_false] at he
          have HE := Lib.hid he
          clear he hsy
          have HS6 : Hid (Sd w h L lg w6 l6 b6 M5) := Lib.hid hs
          have HO5 : Hid (Od w w6 A5 n5 c5 t5) := Lib.hid (HO5.out.chg hc HS5.out.lt)
          have HB3 : Hid (Blk w6 b3 56 #[.int .u8 (kd : Nat), .string tx, .int .i64 iv, .int .i64 (pl : Nat)] ∧ b3 ≠ h) := Lib.hid ⟨HB3.out.1.chg hc HB3.out.2, HB3.out.2⟩
          clear hs hc HS5
          have qb30_6 : w6.cell? ⟨b3, 0, none⟩ = some (.int .u8 (kd : Nat)) := HB3.out.1.cell 0
          have qb31_6 : w6.cell? ⟨b3, 1, none⟩ = some (.string tx) := HB3.out.1.cell 1
          have qb32_6 : w6.cell? ⟨b3, 2, none⟩ = some (.int .i64 iv) := HB3.out.1.cell 2
          have qb33_6 : w6.cell? ⟨b3, 3, none⟩ = some (.int .i64 (pl : Nat)) := HB3.out.1.cell 3
          have HP : Hid (DPost w h L lg R _ _) := Lib.hid (HS6.out.same HO5.out HT5.out HE.out)
          go_wp2_with fail
          go_ret
          exact HP.out
        have he := HE.out
        rw [onB_no HV3.out] at he
        have HE := Lib.hid he
        clear he
        have HS4 : Hid (Sd w h L lg w4 (x :: r) false false) := Lib.hid hs
        have HB3 : Hid (Blk w4 b3 56 #[.int .u8 (kd : Nat), .string tx, .int .i64 iv, .int .i64 (pl : Nat)] ∧ b3 ≠ h) := Lib.hid ⟨HB3.out.1.chg hc HB3.out.2, HB3.out.2⟩
        clear hs hc HS3
        have qb30_4 : w4.cell? ⟨b3, 0, none⟩ = some (.int .u8 (kd : Nat)) := HB3.out.1.cell 0
        have qb31_4 : w4.cell? ⟨b3, 1, none⟩ = some (.string tx) := HB3.out.1.cell 1
        have qb32_4 : w4.cell? ⟨b3, 2, none⟩ = some (.int .i64 iv) := HB3.out.1.cell 2
        have qb33_4 : w4.cell? ⟨b3, 3, none⟩ = some (.int .i64 (pl : Nat)) := HB3.out.1.cell 3
        have hno := HNO.out [110, 117, 109] (by decide)
        have hc0 := HS4.out.has [110, 117, 109]
        rw [hno] at hc0
        have HC := Lib.hid hc0
        have he := HE.out
        rw [if_neg (by rw [hno]; simp)] at he
        have HE := Lib.hid he
        clear he hno hc0
        go_wp2_with fail
        refine HC.out.mono ?_
        rintro e w5 ⟨rfl, hs, hc⟩
        clear HC
        have HS5 : Hid (Sd w h L lg w5 (x :: r) false false) := Lib.hid hs
        have HB3 : Hid (Blk w5 b3 56 #[.int .u8 (kd : Nat), .string tx, .int .i64 iv, .int .i64 (pl : Nat)] ∧ b3 ≠ h) := Lib.hid ⟨HB3.out.1.chg hc HB3.out.2, HB3.out.2⟩
        clear hs hc HS4
        have qb30_5 : w5.cell? ⟨b3, 0, none⟩ = some (.int .u8 (kd : Nat)) := HB3.out.1.cell 0
        have qb31_5 : w5.cell? ⟨b3, 1, none⟩ = some (.string tx) := HB3.out.1.cell 1
        have qb32_5 : w5.cell? ⟨b3, 2, none⟩ = some (.int .i64 iv) := HB3.out.1.cell 2
        have qb33_5 : w5.cell? ⟨b3, 3, none⟩ = some (.int .i64 (pl : Nat)) := HB3.out.1.cell 3
        have hno := HNO.out [102, 111, 114, 107] (by decide)
        have hc0 := HS5.out.has [102, 111, 114, 107]
        rw [hno] at hc0
        have HC := Lib.hid hc0
        have he := HE.out
        rw [if_neg (by rw [hno]; simp)] at he
        have HE := Lib.hid he
        clear he hno hc0
        go_wp2_with fail
        refine HC.out.mono ?_
        rintro e w6 ⟨rfl, hs, hc⟩
        clear HC
        have HS6 : Hid (Sd w h L lg w6 (x :: r) false false) := Lib.hid hs
        have HB3 : Hid (Blk w6 b3 56 #[.int .u8 (kd : Nat), .string tx, .int .i64 iv, .int .i64 (pl : Nat)] ∧ b3 ≠ h) := Lib.hid ⟨HB3.out.1.chg hc HB3.out.2, HB3.out.2⟩
        clear hs hc HS5
        have qb30_6 : w6.cell? ⟨b3, 0, none⟩ = some (.int .u8 (kd : Nat)) := HB3.out.1.cell 0
        have qb31_6 : w6.cell? ⟨b3, 1, none⟩ = some (.string tx) := HB3.out.1.cell 1
        have qb32_6 : w6.cell? ⟨b3, 2, none⟩ = some (.int .i64 iv) := HB3.out.1.cell 2
        have qb33_6 : w6.cell? ⟨b3, 3, none⟩ = some (.int .i64 (pl : Nat)) := HB3.out.1.cell 3
        have hno := HNO.out [116, 97, 107, 101] (by decide)
        have hc0 := HS6.out.has [116, 97, 107, 101]
        rw [hno] at hc0
        have HC := Lib.hid hc0
        have he := HE.out
        rw [if_neg (by rw [hno]; simp)] at he
        have HE := Lib.hid he
        clear he hno hc0
        go_wp2_with fail
        refine HC.out.mono ?_
        rintro e w7 ⟨rfl, hs, hc⟩
        clear HC
        have HS7 : Hid (Sd w h L lg w7 (x :: r) false false) := Lib.hid hs
        have HB3 : Hid (Blk w7 b3 56 #[.int .u8 (kd : Nat), .string tx, .int .i64 iv, .int .i64 (pl : Nat)] ∧ b3 ≠ h) := Lib.hid ⟨HB3.out.1.chg hc HB3.out.2, HB3.out.2⟩
        clear hs hc HS6
        have qb30_7 : w7.cell? ⟨b3, 0, none⟩ = some (.int .u8 (kd : Nat)) := HB3.out.1.cell 0
        have qb31_7 : w7.cell? ⟨b3, 1, none⟩ = some (.string tx) := HB3.out.1.cell 1
        have qb32_7 : w7.cell? ⟨b3, 2, none⟩ = some (.int .i64 iv) := HB3.out.1.cell 2
        have qb33_7 : w7.cell? ⟨b3, 3, none⟩ = some (.int .i64 (pl : Nat)) := HB3.out.1.cell 3
        have hno := HNO.out [99, 97, 108, 108] (by decide)
        have hc0 := HS7.out.has [99, 97, 108, 108]
        rw [hno] at hc0
        have HC := Lib.hid hc0
        have he := HE.out
        rw [if_neg (by rw [hno]; simp)] at he
        have HE := Lib.hid he
        clear he hno hc0
        go_wp2_with fail
        refine HC.out.mono ?_
        rintro e w8 ⟨rfl, hs, hc⟩
        clear HC
        have HS8 : Hid (Sd w h L lg w8 (x :: r) false false) := Lib.hid hs
        have HB3 : Hid (Blk w8 b3 56 #[.int .u8 (kd : Nat), .string tx, .int .i64 iv, .int .i64 (pl : Nat)] ∧ b3 ≠ h) := Lib.hid ⟨HB3.out.1.chg hc HB3.out.2, HB3.out.2⟩
        clear hs hc HS7
        have qb30_8 : w8.cell? ⟨b3, 0, none⟩ = some (.int .u8 (kd : Nat)) := HB3.out.1.cell 0
        have qb31_8 : w8.cell? ⟨b3, 1, none⟩ = some (.string tx) := HB3.out.1.cell 1
        have qb32_8 : w8.cell? ⟨b3, 2, none⟩ = some (.int .i64 iv) := HB3.out.1.cell 2
        have qb33_8 : w8.cell? ⟨b3, 3, none⟩ = some (.int .i64 (pl : Nat)) := HB3.out.1.cell 3
        have hno := HNO.out [99, 104, 105, 108, 100] (by decide)
        have hc0 := HS8.out.has [99, 104, 105, 108, 100]
        rw [hno] at hc0
        have HC := Lib.hid hc0
        have he := HE.out
        rw [if_neg (by rw [hno]; simp)] at he
        have HE := Lib.hid he
        clear he hno hc0
        go_wp2_with fail
        refine HC.out.mono ?_
        rintro e w9 ⟨rfl, hs, hc⟩
        clear HC
        have HS9 : Hid (Sd w h L lg w9 (x :: r) false false) := Lib.hid hs
        have HB3 : Hid (Blk w9 b3 56 #[.int .u8 (kd : Nat), .string tx, .int .i64 iv, .int .i64 (pl : Nat)] ∧ b3 ≠ h) := Lib.hid ⟨HB3.out.1.chg hc HB3.out.2, HB3.out.2⟩
        clear hs hc HS8
        have qb30_9 : w9.cell? ⟨b3, 0, none⟩ = some (.int .u8 (kd : Nat)) := HB3.out.1.cell 0
        have qb31_9 : w9.cell? ⟨b3, 1, none⟩ = some (.string tx) := HB3.out.1.cell 1
        have qb32_9 : w9.cell? ⟨b3, 2, none⟩ = some (.int .i64 iv) := HB3.out.1.cell 2
        have qb33_9 : w9.cell? ⟨b3, 3, none⟩ = some (.int .i64 (pl : Nat)) := HB3.out.1.cell 3
        obtain ⟨hsp, f2⟩ := StD.spoil HS9.out.rd
        have k2 := HS9.out.rd.bad_cell
        have HP : Hid (DPost w h L lg R (.returned (.slice none 0 0)) (w9.setCell ⟨h, 2, none⟩ (.bool true))) := Lib.hid (Sd.wrong (HS9.out.step (chg_self w9 h 2 (.bool true)) hsp) (by rw [HE.out]; unfold onB; split <;> rfl))
        clear hsp
        go_wp2_with fail
        go_ret
        exact HP.out
theorem ntd_ok {L : List Tz} (hG : GoodT L) : ∀ n, NtD L n
  | 0 => fun nt h l lg b w hr hne => by
    cases b with
    | false => exact absurd rfl (hne rfl)
    | true => exact dbad_any nt h l lg w hr
  | n + 1 => by
    have ih := ntd_ok hG n
    intro nt h l lg b w hr hne
    cases nt with
    | expr => exact dlev1_any ih h l lg b w hr hne
    | and_ => exact dlev2_any ih h l lg b w hr hne
    | not_ => exact dnot_step ih h l lg b w hr hne
    | sum => exact dlev5_any ih h l lg b w hr hne
    | term => exact dlev6_any ih h l lg b w hr hne
    | pre => exact dpre_step ih h l lg b w hr hne
    | prim => exact dprim_step hG ih h l lg b w hr hne
    | block => exact dblock_step ih h l lg b w hr hne
    | stmt => exact dstmt_step ih h l lg b w hr hne
end Go.Proofs.YtbcadlocldplfaaGreat
