/- Contract of the document's Heard. -/
import Derived.Test.YtjodglepaeomiaaRpp
import Derived.Deep.DeepCutAuto
namespace Go.Proofs.Ytjodglepaeomiaa
open Go.RowKit

def plc (index logTerm term : Int) : Bool := decide (0 ≤ index) && decide (index ≤ 4096) && decide (0 ≤ logTerm) && decide (logTerm ≤ term) && ((index == 0) == (logTerm == 0))
def brc (n : Nat) (commit : Int) : Bool := ((n : Int) == 0) && (commit == 0)
def bdc (dst id frm nn term : Int) : Bool := (dst != id) || decide (frm < 0) || decide (nn ≤ frm) || (frm == id) || decide (term < 1) || decide (1152921504606846976 < term)
def hdc (kind n : Nat) (index logTerm term commit : Int) (ok rs : Bool) : Bool :=
  if kind = 1 then plc index logTerm term && brc n commit && !ok
  else if kind = 2 then brc n commit && (index == 0) && (logTerm == 0)
  else if kind = 3 then plc index logTerm term && !ok && decide (0 ≤ commit) && decide ((n : Int) ≤ 4096 - index) && rs
  else if kind = 4 then brc n commit && decide (0 ≤ index) && decide (index ≤ 4096) && (logTerm == 0)
  else false
theorem heard_bad (S : Sv) (m : Mg) (h : bdc m.to S.id m.frm S.n m.term = true) : S.hears m = false := by
  unfold Sv.hears
  rw [Bool.and_eq_false_iff]
  left
  rw [Bool.not_eq_false']
  simp only [bdc, Bool.or_eq_true, decide_eq_true_eq, bne_iff_ne, beq_iff_eq] at h ⊢
  omega
theorem heard_good (S : Sv) (m : Mg) (h : bdc m.to S.id m.frm S.n m.term = false) : S.hears m = hdc m.kind m.ents.length m.index m.logTerm m.term m.commit m.ok (rises m.ents (max 1 m.logTerm) m.term) := by
  have h0 := h
  simp only [bdc, Bool.or_eq_false_iff, decide_eq_false_iff_not, bne_eq_false_iff_eq, beq_eq_false_iff_ne] at h0
  obtain ⟨⟨⟨⟨⟨g1, g2⟩, g3⟩, g4⟩, g5⟩, g6⟩ := h0
  have e1 : (decide (m.to ≠ (S.id : Int)) || (decide (m.frm < 0) || decide ((S.n : Int) ≤ m.frm) || decide (m.frm = (S.id : Int))) || (decide (m.term < 1) || decide (1152921504606846976 < m.term))) = false := by
    simp only [Bool.or_eq_false_iff, decide_eq_false_iff_not]
    omega
  have e2 : S.hears m = (!((decide (m.index < 0) || decide (4096 < m.index)) || (decide (m.logTerm < 0) || decide (m.term < m.logTerm)) || decide (m.commit < 0) || decide (4096 - m.index < (m.ents.length : Int)))
    && (m.plain && rises m.ents (max 1 m.logTerm) m.term)) := by
    unfold Sv.hears
    rw [e1]
    simp only [Bool.false_or, Bool.or_assoc]
  rw [e2]
  clear e1 e2 h g1 g2 g3 g4 g6
  obtain ⟨rs, hrs⟩ : ∃ z, z = rises m.ents (max 1 m.logTerm) m.term := ⟨_, rfl⟩
  have hr0 : m.ents.length = 0 → rs = true := fun h => by
    rw [hrs, List.eq_nil_of_length_eq_zero h]; rfl
  rw [← hrs]
  clear hrs
  obtain ⟨kind, frm, dst, term, index, logTerm, ents, commit, ok⟩ := m
  dsimp only at *
  unfold Mg.plain plB
  dsimp only
  generalize ents.length = n at *
  have ekey : ∀ p q : Bool, (p = true ↔ q = true) → p = q := fun p q h => Bool.eq_iff_iff.2 h
  apply ekey
  unfold hdc
  by_cases k1 : kind = 1
  · subst k1
    cases ok <;> simp [plc, brc] <;> by_cases hn : n = 0 <;> by_cases hi : index = 0 <;> by_cases hl : logTerm = 0 <;> by_cases hc : commit = 0 <;> (try simp [hn, hi, hl, hc, hr0]) <;> omega
  by_cases k2 : kind = 2
  · subst k2
    simp [plc, brc]
    by_cases hn : n = 0 <;> by_cases hi : index = 0 <;> by_cases hl : logTerm = 0 <;> by_cases hc : commit = 0 <;> (try simp [hn, hi, hl, hc, hr0]) <;> omega
  by_cases k3 : kind = 3
  · subst k3
    clear hr0
    cases rs <;> cases ok <;> simp [plc, brc] <;> by_cases hi : index = 0 <;> by_cases hl : logTerm = 0 <;> (try simp [hi, hl]) <;> (first | omega | (simp only [and_assoc]; exact ⟨fun ⟨a, b, c, d, e, f, p⟩ => ⟨a, b, c, d, p, e, f⟩, fun ⟨a, b, c, d, p, e, f⟩ => ⟨a, b, c, d, e, f, p⟩⟩))
  by_cases k4 : kind = 4
  · subst k4
    simp [plc, brc]
    by_cases hn : n = 0 <;> by_cases hl : logTerm = 0 <;> by_cases hc : commit = 0 <;> (try simp [hn, hl, hc, hr0]) <;> omega
  · simp [k1, k2, k3, k4]

set_option maxRecDepth 100000 in
set_option maxHeartbeats 16000000 in
theorem heard_r (S : Sv) (m : Mg) (g : Nat) (A E : Option Addr) (cs c : Nat) (V : List Bool) (P : List (Nat × Nat)) (w : World) (hS : RvM w g S A cs V P) (hrd : RdE w E m.ents) (hm : MgOk m) :
    Calls Try.prog 74 #[.pointer (some ⟨g, 0, none⟩), .agg (mcell E c m).toArray] w fun e w' => e = .returned (.bool (S.hears m)) ∧ Below w.heap.size w w' := by
  have HRI := Lib.hid (fun W (hb : Below w.heap.size w W) => rising_r E c m.ents (max 1 m.logTerm) m.term W (hrd.below hb) hm.len)
  have HC0 : Hid (∀ W, Below w.heap.size w W → W.cell? ⟨g, 0, none⟩ = some (.int .i64 (S.id : Nat)) ∧ W.cell? ⟨g, 1, none⟩ = some (.int .i64 (S.n : Nat))) := fun W hW => ⟨(hS.below hW).c0, (hS.below hW).c1⟩
  have HOK := Lib.hid hm
  have HBAD := Lib.hid (heard_bad S m)
  have HGOOD := Lib.hid (heard_good S m)
  obtain ⟨R, hR⟩ : ∃ b, b = S.hears m := ⟨_, rfl⟩
  rw [← hR] at HBAD HGOOD ⊢
  obtain ⟨id, hid_⟩ : ∃ z, z = S.id := ⟨_, rfl⟩
  obtain ⟨nn, hnn⟩ : ∃ z, z = S.n := ⟨_, rfl⟩
  rw [← hid_, ← hnn] at HC0 HBAD HGOOD
  clear hid_ hnn hS hrd hm hR
  obtain ⟨mk, frm, dst, term, index, logTerm, ents, commit, mok⟩ := m
  dsimp only [mcell] at HRI HOK HBAD HGOOD ⊢
  obtain ⟨rr, hrr⟩ : ∃ b, b = rises ents (max 1 logTerm) term := ⟨_, rfl⟩
  rw [← hrr] at HRI HGOOD
  clear hrr
  obtain ⟨n, hn⟩ : ∃ n, n = ents.length := ⟨_, rfl⟩
  obtain ⟨hmk, ⟨f0, f1⟩, _, ⟨t0, t1⟩, ⟨i0, i1⟩, ⟨l0, l1⟩, ⟨cc0, cc1⟩, hlen⟩ := HOK.out
  dsimp only at hmk f0 f1 t0 t1 i0 i1 l0 l1 cc0 cc1 hlen
  rw [← hn] at HRI HGOOD hlen ⊢
  clear hn HOK
  have HBX : Hid (Below w.heap.size w (w.alloc (.cells #[.int .u8 (mk : Nat), .int .i64 frm, .int .i64 dst, .int .i64 term, .int .i64 index, .int .i64 logTerm, .slice E n c, .int .i64 commit, .bool mok] 34)) ∧ Blk (w.alloc (.cells #[.int .u8 (mk : Nat), .int .i64 frm, .int .i64 dst, .int .i64 term, .int .i64 index, .int .i64 logTerm, .slice E n c, .int .i64 commit, .bool mok] 34)) w.heap.size 34 #[.int .u8 (mk : Nat), .int .i64 frm, .int .i64 dst, .int .i64 term, .int .i64 index, .int .i64 logTerm, .slice E n c, .int .i64 commit, .bool mok]) := ⟨(Below.refl _ w).alloc (Nat.le_refl _) _, Blk.new _ _ _⟩
  go_enter Try.func74, Try.ntmps74
  go_upto_region 1 with fail
  generalize w.alloc (.cells #[.int .u8 (mk : Nat), .int .i64 frm, .int .i64 dst, .int .i64 term, .int .i64 index, .int .i64 logTerm, .slice E n c, .int .i64 commit, .bool mok] 34) = w0 at *
  obtain ⟨k0, k1⟩ := HC0.out w0 HBX.out.1
  have x1 : w0.cell? ⟨w.heap.size, 1, none⟩ = some (.int .i64 frm) := HBX.out.2.cell 1
  have x2 : w0.cell? ⟨w.heap.size, 2, none⟩ = some (.int .i64 dst) := HBX.out.2.cell 2
  have x3 : w0.cell? ⟨w.heap.size, 3, none⟩ = some (.int .i64 term) := HBX.out.2.cell 3
  go_cut [46] (fun s46 wx => s46 = .bool (bdc dst id frm nn term) ∧ Below w0.heap.size w0 wx)
  case first =>
    obtain ⟨q0, hq0⟩ : ∃ z, z = (dst != (id : Int)) := ⟨_, rfl⟩
    obtain ⟨q1, hq1⟩ : ∃ z, z = (decide (frm < 0)) := ⟨_, rfl⟩
    obtain ⟨q2, hq2⟩ : ∃ z, z = (decide ((nn : Int) ≤ frm)) := ⟨_, rfl⟩
    obtain ⟨q3, hq3⟩ : ∃ z, z = (frm == (id : Int)) := ⟨_, rfl⟩
    obtain ⟨q4, hq4⟩ : ∃ z, z = (decide (term < 1)) := ⟨_, rfl⟩
    obtain ⟨q5, hq5⟩ : ∃ z, z = (decide ((1152921504606846976 : Int) < term)) := ⟨_, rfl⟩
    have HQ := Lib.hid (show bdc dst id frm nn term = (q0 || q1 || q2 || q3 || q4 || q5) by rw [hq0, hq1, hq2, hq3, hq4, hq5]; rfl)
    have e0 := hq0.symm
    have e1 := hq1.symm
    have e2 := hq2.symm
    have e3 := hq3.symm
    have e4 := hq4.symm
    have e5 := hq5.symm
    clear hq0 hq1 hq2 hq3 hq4 hq5
    cases q0
    rotate_left
    · clear e1 e2 e3 e4 e5
      go_quiet (fail)
      go_wp2_with fail
      go_meet
      exact ⟨congrArg Value.bool HQ.out.symm, below_drewN (Below.refl _ _) _⟩
    cases q1
    rotate_left
    · clear e2 e3 e4 e5
      go_quiet (fail)
      go_wp2_with fail
      go_meet
      exact ⟨congrArg Value.bool HQ.out.symm, below_drewN (Below.refl _ _) _⟩
    cases q2
    rotate_left
    · clear e3 e4 e5
      go_quiet (fail)
      go_wp2_with fail
      go_meet
      exact ⟨congrArg Value.bool HQ.out.symm, below_drewN (Below.refl _ _) _⟩
    cases q3
    rotate_left
    · clear e4 e5
      go_quiet (fail)
      go_wp2_with fail
      go_meet
      exact ⟨congrArg Value.bool HQ.out.symm, below_drewN (Below.refl _ _) _⟩
    cases q4
    rotate_left
    · clear e5
      go_quiet (fail)
      go_wp2_with fail
      go_meet
      exact ⟨congrArg Value.bool HQ.out.symm, below_drewN (Below.refl _ _) _⟩
    cases q5
    rotate_left
    · skip
      go_quiet (fail)
      go_wp2_with fail
      go_meet
      exact ⟨congrArg Value.bool HQ.out.symm, below_drewN (Below.refl _ _) _⟩
    go_quiet (fail)
    go_wp2_with fail
    go_meet
    exact ⟨congrArg Value.bool HQ.out.symm, below_drewN (Below.refl _ _) _⟩
  case rest =>
    obtain ⟨rfl, hb1⟩ := hcut
    have HB1 : Hid (Below w.heap.size w wc ∧ Blk wc w.heap.size 34 #[.int .u8 (mk : Nat), .int .i64 frm, .int .i64 dst, .int .i64 term, .int .i64 index, .int .i64 logTerm, .slice E n c, .int .i64 commit, .bool mok]) := Lib.hid ⟨HBX.out.1.trans (hb1.mono HBX.out.1.size), HBX.out.2.below hb1 HBX.out.2.lt⟩
    clear hb1 k0 k1 x1 x2 x3 HBX
    generalize hbdc : bdc dst id frm nn term = bd at *
    clear hbdc
    cases bd
    · have HG := Lib.hid (HGOOD.out rfl)
      clear HGOOD HBAD
      have x4 : wc.cell? ⟨w.heap.size, 4, none⟩ = some (.int .i64 index) := HB1.out.2.cell 4
      have x5 : wc.cell? ⟨w.heap.size, 5, none⟩ = some (.int .i64 logTerm) := HB1.out.2.cell 5
      have x3 : wc.cell? ⟨w.heap.size, 3, none⟩ = some (.int .i64 term) := HB1.out.2.cell 3
      have x0 : wc.cell? ⟨w.heap.size, 0, none⟩ = some (.int .u8 (mk : Nat)) := HB1.out.2.cell 0
      have x6 : wc.cell? ⟨w.heap.size, 6, none⟩ = some (.slice E n c) := HB1.out.2.cell 6
      have x7 : wc.cell? ⟨w.heap.size, 7, none⟩ = some (.int .i64 commit) := HB1.out.2.cell 7
      have x8 : wc.cell? ⟨w.heap.size, 8, none⟩ = some (.bool mok) := HB1.out.2.cell 8
      go_upto_region 3 with fail
      go_cut [5] (fun s5 wx => s5 = .bool (plc index logTerm term) ∧ wx = wc)
      case first =>
        go_wp2_with fail
        all_goals go_meet
        all_goals (refine ⟨congrArg Value.bool ?_, rfl⟩; unfold plc; symm; first | (rw [decide_eq_true (show 0 ≤ index by omega), decide_eq_true (show index ≤ 4096 by omega), decide_eq_true (show 0 ≤ logTerm by omega), decide_eq_true (show logTerm ≤ term by omega)]; rfl) | (simp only [Bool.and_eq_false_iff, decide_eq_false_iff_not]; refine .inl ?_; omega))
      case rest =>
        obtain ⟨rfl, rfl⟩ := hcut
        generalize hpl : plc index logTerm term = pl at *
        have HPL := Lib.hid hpl
        clear hpl
        go_upto_region 4 with fail
        go_cut [6] (fun s6 wx => s6 = .bool (brc n commit) ∧ wx = wc)
        case first =>
          obtain ⟨z0, hz0⟩ : ∃ z, z = ((n : Int) == 0) := ⟨_, rfl⟩
          have HQ := Lib.hid (show brc n commit = (z0 && (commit == 0)) by rw [hz0]; rfl)
          have e0 := hz0.symm
          clear hz0
          cases z0
          · go_wp2_with fail
            go_meet
            exact ⟨congrArg Value.bool HQ.out.symm, rfl⟩
          · go_wp2_with fail
            go_meet
            exact ⟨congrArg Value.bool HQ.out.symm, rfl⟩
        case rest =>
          obtain ⟨rfl, rfl⟩ := hcut
          generalize hbr : brc n commit = br at *
          have HBR := Lib.hid hbr
          clear hbr
          by_cases k1 : mk = 1
          · have m1 : ((mk : Int) == 1) = true := by simp [k1]
            have HR1 : Hid (R = (pl && br && !mok)) := by
              have h := HG.out
              unfold hdc at h
              rw [if_pos k1, HPL.out, HBR.out] at h
              exact Lib.hid h
            clear HG k1
            cases pl <;> cases br <;> cases mok <;> (go_wp2_with fail; go_ret; exact ⟨ret_bool HR1.out.symm, HB1.out.1⟩)
          by_cases k2 : mk = 2
          · have m1 : ((mk : Int) == 1) = false := by simp; omega
            have m2 : ((mk : Int) == 2) = true := by simp [k2]
            have HR1 : Hid (R = (br && (index == 0) && (logTerm == 0))) := by
              have h := HG.out
              unfold hdc at h
              rw [if_neg k1, if_pos k2, HBR.out] at h
              exact Lib.hid h
            clear HG k1 k2
            obtain ⟨z1, hz1⟩ : ∃ z, z = (index == 0) := ⟨_, rfl⟩
            rw [← hz1] at HR1
            have ez1 := hz1.symm
            clear hz1
            obtain ⟨z2, hz2⟩ : ∃ z, z = (logTerm == 0) := ⟨_, rfl⟩
            rw [← hz2] at HR1
            have ez2 := hz2.symm
            clear hz2
            cases br <;> cases z1 <;> cases z2 <;> (go_wp2_with fail; go_ret; exact ⟨ret_bool HR1.out.symm, HB1.out.1⟩)
          by_cases k3 : mk = 3
          · have m1 : ((mk : Int) == 1) = false := by simp; omega
            have m2 : ((mk : Int) == 2) = false := by simp; omega
            have m3 : ((mk : Int) == 3) = true := by simp [k3]
            have HR1 : Hid (R = (pl && !mok && decide (0 ≤ commit) && decide ((n : Int) ≤ 4096 - index) && rr)) := by
              have h := HG.out
              unfold hdc at h
              rw [if_neg k1, if_neg k2, if_pos k3, HPL.out] at h
              exact Lib.hid h
            have HCW : Hid (pl = true → 0 ≤ index ∧ index ≤ 4096) := Lib.hid (fun h => by
              have h2 := HPL.out
              rw [h] at h2
              simp only [plc, Bool.and_eq_true, decide_eq_true_eq] at h2
              exact ⟨h2.1.1.1.1, h2.1.1.1.2⟩)
            clear HG k1 k2 k3
            obtain ⟨z1, hz1⟩ : ∃ z, z = (decide (0 ≤ commit)) := ⟨_, rfl⟩
            rw [← hz1] at HR1
            have ez1 := hz1.symm
            clear hz1
            cases pl
            · cases mok <;> cases z1 <;> (go_wp2_with fail; go_ret; exact ⟨ret_bool HR1.out.symm, HB1.out.1⟩)
            · obtain ⟨i2, i3⟩ := HCW.out rfl
              obtain ⟨z2, hz2⟩ : ∃ z, z = (decide ((n : Int) ≤ 4096 - index)) := ⟨_, rfl⟩
              rw [← hz2] at HR1
              have ez2 := hz2.symm
              clear hz2
              have HRW := Lib.hid (HRI.out wc HB1.out.1)
              cases mok
              · cases z1
                · clear ez2
                  go_wp2_with fail
                  go_ret
                  exact ⟨ret_bool HR1.out.symm, HB1.out.1⟩
                · cases z2
                  · go_wp2_with fail
                    go_ret
                    exact ⟨ret_bool HR1.out.symm, HB1.out.1⟩
                  · by_cases hl1 : (1 : Int) ≤ logTerm
                    · have hmx : max 1 logTerm = logTerm := by omega
                      rw [hmx] at HRW
                      clear hmx HRI
                      go_wp2_with fail
                      refine HRW.out.mono ?_
                      rintro e w4 ⟨rfl, hb4⟩
                      have HB4 := Lib.hid (HB1.out.1.trans (hb4.mono HB1.out.1.size))
                      clear hb4
                      go_wp2_with fail
                      go_ret
                      exact ⟨ret_bool HR1.out.symm, HB4.out⟩
                    · have hmx : max 1 logTerm = 1 := by omega
                      rw [hmx] at HRW
                      clear hmx HRI
                      go_wp2_with fail
                      refine HRW.out.mono ?_
                      rintro e w4 ⟨rfl, hb4⟩
                      have HB4 := Lib.hid (HB1.out.1.trans (hb4.mono HB1.out.1.size))
                      clear hb4
                      go_wp2_with fail
                      go_ret
                      exact ⟨ret_bool HR1.out.symm, HB4.out⟩
              · clear ez2
                cases z1 <;> (go_wp2_with fail; go_ret; exact ⟨ret_bool HR1.out.symm, HB1.out.1⟩)
          by_cases k4 : mk = 4
          · have m1 : ((mk : Int) == 1) = false := by simp; omega
            have m2 : ((mk : Int) == 2) = false := by simp; omega
            have m3 : ((mk : Int) == 3) = false := by simp; omega
            have m4 : ((mk : Int) == 4) = true := by simp [k4]
            have HR1 : Hid (R = (br && decide (0 ≤ index) && decide (index ≤ 4096) && (logTerm == 0))) := by
              have h := HG.out
              unfold hdc at h
              rw [if_neg k1, if_neg k2, if_neg k3, if_pos k4, HBR.out] at h
              exact Lib.hid h
            clear HG k1 k2 k3 k4
            obtain ⟨z1, hz1⟩ : ∃ z, z = (decide (0 ≤ index)) := ⟨_, rfl⟩
            rw [← hz1] at HR1
            have ez1 := hz1.symm
            clear hz1
            obtain ⟨z2, hz2⟩ : ∃ z, z = (decide (index ≤ 4096)) := ⟨_, rfl⟩
            rw [← hz2] at HR1
            have ez2 := hz2.symm
            clear hz2
            obtain ⟨z3, hz3⟩ : ∃ z, z = (logTerm == 0) := ⟨_, rfl⟩
            rw [← hz3] at HR1
            have ez3 := hz3.symm
            clear hz3
            cases br <;> cases z1 <;> cases z2 <;> cases z3 <;> (go_wp2_with fail; go_ret; exact ⟨ret_bool HR1.out.symm, HB1.out.1⟩)
          · have m1 : ((mk : Int) == 1) = false := by simp; omega
            have m2 : ((mk : Int) == 2) = false := by simp; omega
            have m3 : ((mk : Int) == 3) = false := by simp; omega
            have m4 : ((mk : Int) == 4) = false := by simp; omega
            have HR1 : Hid (R = false) := by
              have h := HG.out
              unfold hdc at h
              rw [if_neg k1, if_neg k2, if_neg k3, if_neg k4] at h
              exact Lib.hid h
            clear HG k1 k2 k3 k4
            go_wp2_with fail
            go_ret
            exact ⟨ret_bool HR1.out.symm, HB1.out.1⟩
    · have HF := Lib.hid (HBAD.out rfl)
      go_wp2_with fail
      go_ret
      exact ⟨ret_bool HF.out.symm, HB1.out.1⟩
end Go.Proofs.Ytjodglepaeomiaa
